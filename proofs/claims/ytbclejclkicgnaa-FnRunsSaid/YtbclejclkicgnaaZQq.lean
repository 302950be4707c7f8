/- The reference's steps and runs. -/
import Derived.Test.YtbclejclkicgnaaZQp
namespace Go.Proofs.Ytbclejclkicgnaa.K
open Go Go.RowKit
set_option linter.all false
set_option maxRecDepth 4000
set_option maxHeartbeats 1000000

theorem l06Real_spec (x : Nat) : Spec Try.prog 20 [.float .f64 x] [] [] (Gives (.bool (ffin x))) := by
  refine enter Try.func20 Try.ntmps20 rfl (by kernel_rfl) zCon rfl fun G => ?_
  have hf := l01Finite_spec x 0
  all_goals (((try refine zR3 ?_) <;> (repeat' (with_reducible first | refine And.intro ?_ ?_ | intro _))) <;> (repeat' ((first | ((with_reducible apply l_callP); exact rfl; exact zEvs; exact rfl; (with_reducible apply hf); (case hF => exact zFsub); (try any_goals (refine propId ?_; omega)))) <;> ((try refine zR3 ?_) <;> (repeat' (with_reducible first | refine And.intro ?_ ?_ | intro _))))))
  refine e_gives rfl zRes ?_
  have h0 : ffin 0 = true := by decide +kernel
  simp [retVal, cfin, h0]
theorem l07Kind_spec (kind : Int) : Spec Try.prog 44 [.int .i64 kind] [] [] (Gives (.bool (decide (kind = 0 ∨ kind = 1)))) := by
  refine enter Try.func44 Try.ntmps44 rfl (by kernel_rfl) zCon rfl fun G => ?_
  all_goals ((try refine zR3 ?_) <;> (repeat' (with_reducible first | refine And.intro ?_ ?_ | intro _)))
  all_goals (refine e_gives rfl zRes ?_; simp [retVal, *])
theorem l04Is_spec (v : Value) (l : List (Nat × Nat)) : Spec Try.prog 26 [v] [] [fList 1 rCx v l] (Gives (.bool (isP l))) := by
  refine enter Try.func26 Try.ntmps26 rfl (by kernel_rfl) zCon rfl fun G => ?_
  refine c_isList (v := v) zMem fun hsv => ?_
  refine c_lenList zMem fun hlen => ?_
  have hf := fun a b => l01Finite_spec a b
  all_goals ((try refine zR3 ?_) <;> (repeat' (with_reducible first | refine And.intro ?_ ?_ | intro _)))
  · refine e_gives rfl zRes ?_
    have : ¬ 2 ≤ l.length := by omega
    simp [retVal, isP, this]
  · refine e_gives rfl zRes ?_
    have : ¬ l.length ≤ 13 := by omega
    simp [retVal, isP, this]
  · have hP : isP l = (l.all cfin && !ceq (lget l (l.length - 1)) (0, 0)) := by
      have a1 : 2 ≤ l.length := by omega
      have a2 : l.length ≤ 13 := by omega
      simp [isP, a1, a2]
    refine c_while (ι := { i : Nat // i ≤ l.length ∧ l.all cfin = (l.drop i).all cfin }) (κ := { u : Unit // l.all cfin = true }) (fun i => [(0, v), (3, .int .i64 (l.length : Int)), (4, .int .i64 (i.1 : Int))]) (fun _ => []) (fun _ => [fList 1 rCx v l]) (fun i => l.length - i.1)
      (fun _ => [(0, v), (3, .int .i64 (l.length : Int))]) (fun _ => []) (fun _ => [fList 1 rCx v l]) ⟨0, Nat.zero_le _, rfl⟩ (fun _ _ s => s.start zSub zRfl zFsub) ?_ ?_
    · rintro ⟨i, hi, hall⟩
      dsimp only at hi ⊢
      by_cases hi' : i < l.length
      · have hdrop : l.drop i = l[i] :: l.drop (i + 1) := List.drop_eq_getElem_cons hi'
        obtain ⟨w, hw⟩ : ∃ w, l[i]? = some w := ⟨_, List.getElem?_eq_getElem hi'⟩
        have hwi : l[i] = w := by rw [List.getElem?_eq_getElem hi'] at hw; injection hw
        rw [hwi] at hdrop
        rw [hdrop, List.all_cons] at hall
        all_goals (((try refine zR3 ?_) <;> (repeat' (with_reducible first | refine And.intro ?_ ?_ | intro _))) <;> (repeat' ((first | ((with_reducible apply l_callP); exact rfl; exact zEvs; exact rfl; (with_reducible apply hf); (case hF => exact zFsub); (try any_goals (refine propId ?_; omega)))) <;> ((try refine zR3 ?_) <;> (repeat' (with_reducible first | refine And.intro ?_ ?_ | intro _))))))
        all_goals (first | (exfalso; omega) | skip)
        · have h0 : cfin w = false := by assumption
          rw [h0] at hall
          rw [hP, hall]
          (refine e_gives rfl zRes ?_; first | rfl | (simp [retVal, *]; done) | (simp_all [retVal]; done) | (simp only [retVal]))
        · have h0 : cfin w = true := by assumption
          rw [h0, Bool.true_and] at hall
          exact e_again ⟨i + 1, hi', hall⟩ (by dsimp only; omega) zSub rfl zFsub
      · all_goals ((try refine zR3 ?_) <;> (repeat' (with_reducible first | refine And.intro ?_ ?_ | intro _)))
        all_goals (first | (exfalso; omega) | skip)
        exact e_out ⟨(), by rw [hall, List.drop_eq_nil_of_le (by omega)]; rfl⟩ zSub rfl zFsub
    · rintro ⟨_, h⟩
      obtain ⟨y, hy⟩ : ∃ y, l[l.length - 1]? = some y := ⟨_, List.getElem?_eq_getElem (by omega)⟩
      have e1 : ((l.length : Int) - 1) = ((l.length - 1 : Nat) : Int) := by omega
      all_goals ((try refine zR3 ?_) <;> (repeat' (with_reducible first | refine And.intro ?_ ?_ | intro _)))
      rw [hP, h, lget_get hy]
      (refine e_gives rfl zRes ?_; first | rfl | (simp [retVal, *]; done) | (simp_all [retVal]; done) | (simp only [retVal]))
theorem l07Code_spec (vp vl : Value) (p l : List (Nat × Nat)) (kind : Int) : Spec Try.prog 19 [vp, vl, .int .i64 kind] [] [fList 1 rCx vp p, fList 1 rCx vl l] (Gives (.int .i64 (codeP p l kind))) := by
  refine enter Try.func19 Try.ntmps19 rfl (by kernel_rfl) zCon rfl fun G => ?_
  refine c_isList (v := vp) zMem fun hsp => ?_
  refine c_isList (v := vl) zMem fun hsl => ?_
  refine c_lenList (v := vp) zMem fun hlp => ?_
  refine c_lenList (v := vl) zMem fun hll => ?_
  have hf := fun a b => l01Finite_spec a b
  have hI := l04Is_spec vp p
  have hK := l07Kind_spec kind
  all_goals (((try refine zR3 ?_) <;> (repeat' (with_reducible first | refine And.intro ?_ ?_ | intro _))) <;> (repeat' ((first | ((with_reducible apply l_callP); exact rfl; exact zEvs; exact rfl; (with_reducible apply hI); (case hF => exact zFsub); (try any_goals (refine propId ?_; omega)))) <;> ((try refine zR3 ?_) <;> (repeat' (with_reducible first | refine And.intro ?_ ?_ | intro _))))))
  · have h0 : isP p = false := by assumption
    have : codeP p l kind = 1 := by unfold codeP; rw [if_pos (by simp [h0])]
    rw [this]
    (refine e_gives rfl zRes ?_; first | rfl | (simp [retVal, *]; done) | (simp_all [retVal]; done) | (simp only [retVal]))
  · have h0 : isP p = true := by assumption
    refine c_while (ι := { i : Nat // i ≤ l.length ∧ l.all cfin = (l.drop i).all cfin }) (κ := { u : Unit // l.all cfin = true }) (fun i => [(0, vp), (1, vl), (2, .int .i64 kind), (7, .int .i64 (i.1 : Int))]) (fun _ => []) (fun _ => [fList 1 rCx vp p, fList 1 rCx vl l]) (fun i => l.length - i.1)
      (fun _ => [(0, vp), (1, vl), (2, .int .i64 kind)]) (fun _ => []) (fun _ => [fList 1 rCx vp p, fList 1 rCx vl l]) ⟨0, Nat.zero_le _, rfl⟩ (fun _ _ s => s.start zSub zRfl zFsub) ?_ ?_
    · rintro ⟨i, hi, hall⟩
      dsimp only at hi ⊢
      by_cases hi' : i < l.length
      · have hdrop : l.drop i = l[i] :: l.drop (i + 1) := List.drop_eq_getElem_cons hi'
        obtain ⟨w, hw⟩ : ∃ w, l[i]? = some w := ⟨_, List.getElem?_eq_getElem hi'⟩
        have hwi : l[i] = w := by rw [List.getElem?_eq_getElem hi'] at hw; injection hw
        rw [hwi] at hdrop
        rw [hdrop, List.all_cons] at hall
        all_goals (((try refine zR3 ?_) <;> (repeat' (with_reducible first | refine And.intro ?_ ?_ | intro _))) <;> (repeat' ((first | ((with_reducible apply l_callP); exact rfl; exact zEvs; exact rfl; (with_reducible apply hf); (case hF => exact zFsub); (try any_goals (refine propId ?_; omega)))) <;> ((try refine zR3 ?_) <;> (repeat' (with_reducible first | refine And.intro ?_ ?_ | intro _))))))
        all_goals (first | (exfalso; omega) | skip)
        · have h1 : cfin w = false := by assumption
          rw [h1] at hall
          have : codeP p l kind = 1 := by unfold codeP; rw [if_pos (by simp [hall])]
          rw [this]
          (refine e_gives rfl zRes ?_; first | rfl | (simp [retVal, *]; done) | (simp_all [retVal]; done) | (simp only [retVal]))
        · have h1 : cfin w = true := by assumption
          rw [h1, Bool.true_and] at hall
          exact e_again ⟨i + 1, hi', hall⟩ (by dsimp only; omega) zSub rfl zFsub
      · all_goals ((try refine zR3 ?_) <;> (repeat' (with_reducible first | refine And.intro ?_ ?_ | intro _)))
        all_goals (first | (exfalso; omega) | skip)
        exact e_out ⟨(), by rw [hall, List.drop_eq_nil_of_le (by omega)]; rfl⟩ zSub rfl zFsub
    · rintro ⟨_, hall⟩
      have hc : ¬ ((isP p && l.all cfin) = false) := by simp [h0, hall]
      all_goals (((try refine zR3 ?_) <;> (repeat' (with_reducible first | refine And.intro ?_ ?_ | intro _))) <;> (repeat' ((first | ((with_reducible apply l_callP); exact rfl; exact zEvs; exact rfl; (with_reducible apply hK); (case hF => exact zFsub); (try any_goals (refine propId ?_; omega)))) <;> ((try refine zR3 ?_) <;> (repeat' (with_reducible first | refine And.intro ?_ ?_ | intro _))))))
      · have : codeP p l kind = 2 := by unfold codeP; rw [if_neg hc, if_pos (.inl (by omega))]
        rw [this]
        (refine e_gives rfl zRes ?_; first | rfl | (simp [retVal, *]; done) | (simp_all [retVal]; done) | (simp only [retVal]))
      · rename_i h1 h2
        have : codeP p l kind = 2 := by unfold codeP; rw [if_neg hc, if_pos (.inr h2)]
        rw [this]
        (refine e_gives rfl zRes ?_; first | rfl | (simp [retVal, *]; done) | (simp_all [retVal]; done) | (simp only [retVal]))
      · rename_i h1 h2
        have : codeP p l kind = 0 := by unfold codeP; rw [if_neg hc, if_neg (fun h => h.elim (fun h => by omega) h2)]
        rw [this]
        (refine e_gives rfl zRes ?_; first | rfl | (simp [retVal, *]; done) | (simp_all [retVal]; done) | (simp only [retVal]))
end Go.Proofs.Ytbclejclkicgnaa.K
