/- The laws' comparisons. -/
import Derived.Test.YtbclejclkicgnaaZRc
namespace Go.Proofs.Ytbclejclkicgnaa.K
open Go Go.RowKit Ieee
set_option linter.all false
set_option maxRecDepth 60000
set_option maxHeartbeats 1000000

theorem neq_eql (x y : Nat) : fcmp .neq x y = !fcmp .eql x y := rfl
theorem zero_nf {a : Nat} (h : fcmp .eql a 0 = true) : nf a = 0 ∨ nf a = 9223372036854775808 := by
  have h1 := abs_eql h
  unfold fabs at h1
  cases hn : nanB (absB a) with
  | true => rw [nf_nan hn] at h1; exact absurd h1 (by decide)
  | false =>
    rw [nf_num hn] at h1
    unfold absB at h1
    have h2 : a % 18446744073709551616 = 0 ∨ a % 18446744073709551616 = 9223372036854775808 := by
      have e : (2 : Nat) ^ 63 = 9223372036854775808 := by decide
      rw [e] at h1
      omega
    have h3 : nanB a = false := by
      rw [← nanB_mod]
      rcases h2 with h2 | h2 <;> rw [h2] <;> decide +kernel
    rw [nf_num h3]
    exact h2
theorem quo_zero {a : Nat} (h : fcmp .eql a 0 = true) : fcmp .eql (fop .quo 4607182418800017408 a) (fop .quo 4607182418800017408 a) = true := by
  rw [← fop_r]
  rcases zero_nf h with h | h <;> rw [h] <;> decide +kernel
theorem float9_spec (a b : Nat) (h : nf a = nf b) : Spec Try.prog 11 [.float .f64 a, .float .f64 b] [] [] (Gives (.bool true)) := by
  refine enter Try.func11 Try.ntmps11 rfl (by kernel_rfl) zCon rfl fun G => ?_
  have h1 : fcmp .neq b b = fcmp .neq a a := fcmp_eq h.symm h.symm
  have h2 : fcmp .eql a b = !fcmp .neq a a := by rw [neq_eql, Bool.not_not]; exact fcmp_eq rfl h.symm
  all_goals ((try refine zR3 ?_) <;> (repeat' (with_reducible first | refine And.intro ?_ ?_ | intro _)))
  all_goals (have e3 : (double.order b b == some Ordering.eq) = fcmp .eql b b := rfl; try simp only [e3] at *)
  all_goals first | (exfalso; simp_all [neq_eql]; done) | skip
  · refine e_gives rfl zRes ?_
    simp_all [retVal]
  · (refine e_gives rfl zRes ?_; first | rfl | (simp [retVal, *]; done) | (simp_all [retVal]; done) | (simp only [retVal]))
  · rename_i k1 k2 k4 u v k6
    refine e_gives rfl zRes ?_
    have hz : fcmp .eql a 0 = true := by rw [neq_eql] at k4; simpa using k4
    have : fcmp .eql u.1 v.1 = true := by
      rw [u.cl, v.cr, fop_eq (x' := 4607182418800017408) (y' := a) rfl h.symm]
      exact quo_zero hz
    simp [retVal, this]
theorem wide9_spec (a b : Nat × Nat) (h : nf2 a = nf2 b) : Spec Try.prog 24 [.complex .f64 a.1 a.2, .complex .f64 b.1 b.2] [] [] (Gives (.bool true)) := by
  refine enter Try.func24 Try.ntmps24 rfl (by kernel_rfl) zCon rfl fun G => ?_
  have h1 := float9_spec a.1 b.1 (congrArg Prod.fst h)
  have h2 := float9_spec a.2 b.2 (congrArg Prod.snd h)
  all_goals (((try refine zR3 ?_) <;> (repeat' (with_reducible first | refine And.intro ?_ ?_ | intro _))) <;> (repeat' ((first | ((with_reducible apply l_callP); exact rfl; exact zEvs; exact rfl; (with_reducible apply h1); (case hF => exact zFsub); (try any_goals (refine propId ?_; omega))) | ((with_reducible apply l_callP); exact rfl; exact zEvs; exact rfl; (with_reducible apply h2); (case hF => exact zFsub); (try any_goals (refine propId ?_; omega)))) <;> ((try refine zR3 ?_) <;> (repeat' (with_reducible first | refine And.intro ?_ ?_ | intro _))))))
  all_goals (first | (exfalso; omega) | skip)
  all_goals (refine e_gives rfl zRes ?_; first | rfl | (simp [retVal, *]; done) | (simp_all [retVal]; done) | (simp only [retVal]))
theorem wides9_spec (va vb : Value) (a b : List (Nat × Nat)) (h : a.map nf2 = b.map nf2) : Spec Try.prog 10 [va, vb] [] [fList 1 rCx va a, fList 1 rCx vb b] (Gives (.bool true)) := by
  refine enter Try.func10 Try.ntmps10 rfl (by kernel_rfl) zCon rfl fun G => ?_
  refine c_isList (v := va) zMem fun hsa => ?_
  refine c_isList (v := vb) zMem fun hsb => ?_
  have hl : b.length = a.length := by have := congrArg List.length h; simpa using this.symm
  all_goals ((try refine zR3 ?_) <;> (repeat' (with_reducible first | refine And.intro ?_ ?_ | intro _)))
  all_goals (first | (exfalso; omega) | skip)
  refine c_while (ι := {i : Nat // i ≤ a.length}) (κ := Unit) (fun i => [(5, .int .i64 (i.1 : Int)), (0, va), (1, vb)]) (fun _ => []) (fun _ => [fList 1 rCx va a, fList 1 rCx vb b]) (fun i => a.length - i.1)
    (fun _ => []) (fun _ => []) (fun _ => []) ⟨0, Nat.zero_le _⟩ (fun _ _ s => s.start zSub zRfl zFsub) ?_ ?_
  · rintro ⟨i, hi⟩
    dsimp only at hi ⊢
    by_cases hlt : i < a.length
    · obtain ⟨x, hx⟩ : ∃ x, a[i]? = some x := ⟨_, List.getElem?_eq_getElem hlt⟩
      obtain ⟨y, hy⟩ : ∃ y, b[i]? = some y := ⟨_, List.getElem?_eq_getElem (by omega)⟩
      have hxy : nf2 x = nf2 y := by
        have := congrArg (fun l => l[i]?) h
        simpa [hx, hy] using this
      have hw := wide9_spec x y hxy
      all_goals ((try refine zR3 ?_) <;> (repeat' (with_reducible first | refine And.intro ?_ ?_ | intro _)))
      all_goals (first | (exfalso; omega) | skip)
      refine c_draw ([], []) [] [0, 1, 2, 3, 4, 5, 6, 7, 8, 9] (by kernel_rfl) (by kernel_rfl) ?_
      all_goals (((try refine zD3 ?_) <;> (repeat' (with_reducible first | refine And.intro ?_ ?_ | intro _))) <;> (repeat' ((first | ((with_reducible apply l_callP); exact rfl; exact zEvs; exact rfl; (with_reducible apply hw); (case hF => exact zFsub); (try any_goals (refine propId ?_; omega)))) <;> ((try refine zD3 ?_) <;> (repeat' (with_reducible first | refine And.intro ?_ ?_ | intro _))))))
      exact e_again ⟨i + 1, by omega⟩ (by dsimp only; omega) zSub rfl zFsub
    · all_goals ((try refine zR3 ?_) <;> (repeat' (with_reducible first | refine And.intro ?_ ?_ | intro _)))
      all_goals (first | (exfalso; omega) | skip)
      exact e_out () zSub rfl (fun _ h => by cases h)
  · intro _
    all_goals ((try refine zR3 ?_) <;> (repeat' (with_reducible first | refine And.intro ?_ ?_ | intro _)))
    (refine e_gives rfl zRes ?_; first | rfl | (simp [retVal, *]; done) | (simp_all [retVal]; done) | (simp only [retVal]))
theorem run9_spec (va vb : Value) (a b : List (Nat × Nat)) (k : Int) (la lb : Nat) (s : Bool) (h : a.map nf2 = b.map nf2) (h2 : nf la = nf lb) : Spec Try.prog 8 [.agg #[va, .int .i64 k, .float .f64 la, .bool s], .agg #[vb, .int .i64 k, .float .f64 lb, .bool s]] [] [fList 1 rCx va a, fList 1 rCx vb b] (Gives (.bool true)) := by
  refine enter Try.func8 Try.ntmps8 rfl (by kernel_rfl) zCon rfl fun G => ?_
  refine c_isList (v := va) zMem fun hsa => ?_
  refine c_isList (v := vb) zMem fun hsb => ?_
  have hw := wides9_spec va vb a b h
  have hf := float9_spec la lb h2
  all_goals (((try refine zR3 ?_) <;> (repeat' (with_reducible first | refine And.intro ?_ ?_ | intro _))) <;> (repeat' ((first | ((with_reducible apply l_callP); exact rfl; exact zEvs; exact rfl; (with_reducible apply hw); (case hF => exact zFsub); (try any_goals (refine propId ?_; omega))) | ((with_reducible apply l_callP); exact rfl; exact zEvs; exact rfl; (with_reducible apply hf); (case hF => exact zFsub); (try any_goals (refine propId ?_; omega)))) <;> ((try refine zR3 ?_) <;> (repeat' (with_reducible first | refine And.intro ?_ ?_ | intro _))))))
  all_goals (first | (exfalso; omega) | skip)
  (refine e_gives rfl zRes ?_; first | rfl | (simp [retVal, *]; done) | (simp_all [retVal]; done) | (simp only [retVal]))
theorem big_spec (vc : Value) (code : List Int) : Spec Try.prog 4 [vc] [] [fCode vc code] (Gives (.bool (decide ((4096 : Int) < (code.length : Int))))) := by
  refine enter Try.func4 Try.ntmps4 rfl (by kernel_rfl) zCon rfl fun G => ?_
  refine c_isList (v := vc) zMem fun hsa => ?_
  all_goals ((try refine zR3 ?_) <;> (repeat' (with_reducible first | refine And.intro ?_ ?_ | intro _)))
  (refine e_gives rfl zRes ?_; first | rfl | (simp [retVal, *]; done) | (simp_all [retVal]; done) | (simp only [retVal]))
end Go.Proofs.Ytbclejclkicgnaa.K
