/- Lists of points: finite ones, the laws' comparisons. -/
import Derived.Test.YtbllgmcpebifhaaGreatDoorZSa

section
namespace Go.Proofs.YtbllgmcpebifhaaGreatDoor.K
open Go Go.RowKit Ieee
set_option linter.all false
set_option maxRecDepth 60000
set_option maxHeartbeats 1000000

abbrev PU (v : Value) : Value → List Own → List Fact → Prop := PM (fun _ : Unit => v) fun _ => []
abbrev PF (e : Nat) : Value → List Own → List Fact → Prop := PM (fun u : FW e => .float .f64 u.1) fun _ => []
abbrev PC (e : Nat × Nat) : Value → List Own → List Fact → Prop := PM (fun u : CW e => .complex .f64 u.1.1 u.1.2) fun _ => []

theorem isReal_spec (x : Nat) : Spec Tryz.prog 83 [.float .f64 x] [] [] (Gives (.bool (ffin x))) := by
  refine enter Tryz.func83 Tryz.ntmps83 rfl (by kernel_rfl) zCon rfl fun G => ?_
  all_goals ((try refine zR3 ?_) <;> (repeat' (with_reducible first | refine And.intro ?_ ?_ | intro _)))
  refine e_gives rfl zRes ?_
  simp [retVal, ffin, FW.cl]
theorem IsFinite_spec (a b : Nat) : Spec Tryz.prog 73 [.complex .f64 a b] [] [] (PU (.bool (cfin (a, b)))) := by
  refine enter Tryz.func73 Tryz.ntmps73 rfl (by kernel_rfl) zCon rfl fun G => ?_
  have h1 := isReal_spec a
  have h2 := isReal_spec b
  all_goals (((try refine zR3 ?_) <;> (repeat' (with_reducible first | refine And.intro ?_ ?_ | intro _))) <;> (repeat' ((first | ((with_reducible apply l_callP); exact rfl; exact zEvs; exact rfl; (with_reducible apply h1); (case hF => exact zFsub); (try any_goals (refine propId ?_; omega))) | ((with_reducible apply l_callP); exact rfl; exact zEvs; exact rfl; (with_reducible apply h2); (case hF => exact zFsub); (try any_goals (refine propId ?_; omega)))) <;> ((try refine zR3 ?_) <;> (repeat' (with_reducible first | refine And.intro ?_ ?_ | intro _))))))
  all_goals (refine e_pm () rfl zRes .nil ?_; simp [retVal, cfin, *])
theorem subtract_spec (a1 a2 b1 b2 : Nat) : Spec Tryz.prog 86 [.complex .f64 a1 a2, .complex .f64 b1 b2] [] [] (PC (csub (a1, a2) (b1, b2))) := by
  refine enter Tryz.func86 Tryz.ntmps86 rfl (by kernel_rfl) zCon rfl fun G => ?_
  all_goals ((try refine zR3 ?_) <;> (repeat' (with_reducible first | refine And.intro ?_ ?_ | intro _)))
  exact e_pm ⟨(_, _), ⟨FW.nf _, FW.nf _⟩, FW.lt _, FW.lt _⟩ rfl zRes .nil rfl
theorem AbsF_spec (x : Nat) : Spec Tryz.prog 162 [.float .f64 x] [] [] (Gives (.float .f64 (absB x))) := by
  have h1 := abs_bits x
  refine enter Tryz.func162 Tryz.ntmps162 rfl (by kernel_rfl) zCon rfl fun G => ?_
  all_goals ((try refine zR3 ?_) <;> (repeat' (with_reducible first | refine And.intro ?_ ?_ | intro _)))
  (refine e_gives rfl zRes ?_; first | rfl | (simp [retVal, *]; done) | (simp_all [retVal]; done) | (simp only [retVal]))
theorem sizeOf_spec (a b : Nat) : Spec Tryz.prog 87 [.complex .f64 a b] [] [] (PF (csize (a, b))) := by
  refine enter Tryz.func87 Tryz.ntmps87 rfl (by kernel_rfl) zCon rfl fun G => ?_
  have h1 := AbsF_spec a
  have h2 := AbsF_spec b
  all_goals (((try refine zR3 ?_) <;> (repeat' (with_reducible first | refine And.intro ?_ ?_ | intro _))) <;> (repeat' ((first | ((with_reducible apply l_callP); exact rfl; exact zEvs; exact rfl; (with_reducible apply h1); (case hF => exact zFsub); (try any_goals (refine propId ?_; omega))) | ((with_reducible apply l_callP); exact rfl; exact zEvs; exact rfl; (with_reducible apply h2); (case hF => exact zFsub); (try any_goals (refine propId ?_; omega)))) <;> ((try refine zR3 ?_) <;> (repeat' (with_reducible first | refine And.intro ?_ ?_ | intro _))))))
  refine e_pm ⟨_, ?_, FW.lt _⟩ rfl zRes .nil rfl
  simp [csize, FW.nf, fabs, fop_l, fop_r]
theorem areFinite_spec (v : Value) (l : List (Nat × Nat)) : Spec Tryz.prog 79 [v] [] [fList 1 rCx v l] (Gives (.bool (l.all cfin))) := by
  refine enter Tryz.func79 Tryz.ntmps79 rfl (by kernel_rfl) zCon rfl fun G => ?_
  refine c_isList (v := v) zMem fun hsv => ?_
  refine c_lenList zMem fun hlen => ?_
  all_goals ((try refine zR3 ?_) <;> (repeat' (with_reducible first | refine And.intro ?_ ?_ | intro _)))
  refine c_while (ι := { i : Nat // i ≤ l.length ∧ l.all cfin = (l.drop i).all cfin }) (κ := { u : Unit // l.all cfin = true }) (fun i => [(5, v), (6, .int .i64 (l.length : Int)), (7, .int .i64 (i.1 : Int))]) (fun _ => []) (fun _ => [fList 1 rCx v l]) (fun i => l.length - i.1)
    (fun _ => []) (fun _ => []) (fun _ => []) ⟨0, Nat.zero_le _, rfl⟩ (fun _ _ s => s.start zSub zRfl zFsub) ?_ ?_
  · rintro ⟨i, hi, hall⟩
    dsimp only at hi ⊢
    by_cases hi' : i < l.length
    · have hdrop : l.drop i = l[i] :: l.drop (i + 1) := List.drop_eq_getElem_cons hi'
      obtain ⟨w, hw⟩ : ∃ w, l[i]? = some w := ⟨_, List.getElem?_eq_getElem hi'⟩
      have hwi : l[i] = w := by rw [List.getElem?_eq_getElem hi'] at hw; injection hw
      rw [hwi] at hdrop
      rw [hdrop, List.all_cons] at hall
      all_goals (((try refine zR3 ?_) <;> (repeat' (with_reducible first | refine And.intro ?_ ?_ | intro _))) <;> (repeat' ((first | ((with_reducible apply l_callM); exact rfl; exact rfl; exact zEvs; exact rfl; (apply IsFinite_spec); (case hL => exact zTake); (case hF => exact zFsub); (try any_goals (refine propId ?_; first | omega | exact zLt)); (with_reducible intro _))) <;> ((try refine zR3 ?_) <;> (repeat' (with_reducible first | refine And.intro ?_ ?_ | intro _))))))
      · have h0 : cfin w = false := by assumption
        rw [h0] at hall
        rw [hall]
        (refine e_gives rfl zRes ?_; first | rfl | (simp [retVal, *]; done) | (simp_all [retVal]; done) | (simp only [retVal]))
      · have h0 : cfin w = true := by assumption
        rw [h0, Bool.true_and] at hall
        exact e_again ⟨i + 1, hi', hall⟩ (by dsimp only; omega) zSub rfl zFsub
      · exfalso; omega
    · all_goals ((try refine zR3 ?_) <;> (repeat' (with_reducible first | refine And.intro ?_ ?_ | intro _)))
      · exfalso; omega
      · exact e_out ⟨(), by rw [hall, List.drop_eq_nil_of_le (by omega)]; rfl⟩ zSub rfl zFsub
  · rintro ⟨_, h⟩
    all_goals ((try refine zR3 ?_) <;> (repeat' (with_reducible first | refine And.intro ?_ ?_ | intro _)))
    rw [h]
    (refine e_gives rfl zRes ?_; first | rfl | (simp [retVal, *]; done) | (simp_all [retVal]; done) | (simp only [retVal]))
theorem neq_eql (x y : Nat) : fcmp .neq x y = !fcmp .eql x y := rfl
theorem zero_nf {a : Nat} (h : fcmp .eql a 0 = true) : nf a = 0 ∨ nf a = 9223372036854775808 := by
  have h1 := abs_eql h
  unfold fabs at h1
  cases hn : nanB (absB a) with
  | true => rw [nf_nan hn] at h1; exact absurd h1 (by decide)
  | false =>
    rw [nf_num hn] at h1
    unfold absB at h1
    have h2 : a % 18446744073709551616 = 0 ∨ a % 18446744073709551616 = 9223372036854775808 := by
      have e : (2 : Nat) ^ 63 = 9223372036854775808 := by decide
      rw [e] at h1
      omega
    have h3 : nanB a = false := by
      rw [← nanB_mod]
      rcases h2 with h2 | h2 <;> rw [h2] <;> decide +kernel
    rw [nf_num h3]
    exact h2
theorem quo_zero {a : Nat} (h : fcmp .eql a 0 = true) : fcmp .eql (fop .quo 4607182418800017408 a) (fop .quo 4607182418800017408 a) = true := by
  rw [← fop_r]
  rcases zero_nf h with h | h <;> rw [h] <;> decide +kernel
theorem float9_spec (a b : Nat) (h : nf a = nf b) : Spec Tryz.prog 77 [.float .f64 a, .float .f64 b] [] [] (Gives (.bool true)) := by
  refine enter Tryz.func77 Tryz.ntmps77 rfl (by kernel_rfl) zCon rfl fun G => ?_
  have h1 : fcmp .neq b b = fcmp .neq a a := fcmp_eq h.symm h.symm
  have h2 : fcmp .eql a b = !fcmp .neq a a := by rw [neq_eql, Bool.not_not]; exact fcmp_eq rfl h.symm
  all_goals ((try refine zR3 ?_) <;> (repeat' (with_reducible first | refine And.intro ?_ ?_ | intro _)))
  all_goals (have e3 : (double.order b b == some Ordering.eq) = fcmp .eql b b := rfl; try simp only [e3] at *)
  all_goals first | (exfalso; simp_all [neq_eql]; done) | skip
  · refine e_gives rfl zRes ?_
    simp_all [retVal]
  · (refine e_gives rfl zRes ?_; first | rfl | (simp [retVal, *]; done) | (simp_all [retVal]; done) | (simp only [retVal]))
  · rename_i k1 k2 k4 u v k6
    refine e_gives rfl zRes ?_
    have hz : fcmp .eql a 0 = true := by rw [neq_eql] at k4; simpa using k4
    have : fcmp .eql u.1 v.1 = true := by
      rw [u.cl, v.cr, fop_eq (x' := 4607182418800017408) (y' := a) rfl h.symm]
      exact quo_zero hz
    simp [retVal, this]
theorem wide9_spec (a b : Nat × Nat) (h : nf2 a = nf2 b) : Spec Tryz.prog 12 [.complex .f64 a.1 a.2, .complex .f64 b.1 b.2] [] [] (Gives (.bool true)) := by
  refine enter Tryz.func12 Tryz.ntmps12 rfl (by kernel_rfl) zCon rfl fun G => ?_
  have h1 := float9_spec a.1 b.1 (congrArg Prod.fst h)
  have h2 := float9_spec a.2 b.2 (congrArg Prod.snd h)
  all_goals (((try refine zR3 ?_) <;> (repeat' (with_reducible first | refine And.intro ?_ ?_ | intro _))) <;> (repeat' ((first | ((with_reducible apply l_callP); exact rfl; exact zEvs; exact rfl; (with_reducible apply h1); (case hF => exact zFsub); (try any_goals (refine propId ?_; omega))) | ((with_reducible apply l_callP); exact rfl; exact zEvs; exact rfl; (with_reducible apply h2); (case hF => exact zFsub); (try any_goals (refine propId ?_; omega)))) <;> ((try refine zR3 ?_) <;> (repeat' (with_reducible first | refine And.intro ?_ ?_ | intro _))))))
  all_goals (first | (exfalso; omega) | skip)
  all_goals (refine e_gives rfl zRes ?_; first | rfl | (simp [retVal, *]; done) | (simp_all [retVal]; done) | (simp only [retVal]))
theorem wides9_spec (va vb : Value) (a b : List (Nat × Nat)) (h : a.map nf2 = b.map nf2) : Spec Tryz.prog 17 [va, vb] [] [fList 1 rCx va a, fList 1 rCx vb b] (Gives (.bool true)) := by
  refine enter Tryz.func17 Tryz.ntmps17 rfl (by kernel_rfl) zCon rfl fun G => ?_
  refine c_isList (v := va) zMem fun hsa => ?_
  refine c_isList (v := vb) zMem fun hsb => ?_
  have hl : b.length = a.length := by have := congrArg List.length h; simpa using this.symm
  all_goals ((try refine zR3 ?_) <;> (repeat' (with_reducible first | refine And.intro ?_ ?_ | intro _)))
  all_goals (first | (exfalso; omega) | skip)
  refine c_while (ι := {i : Nat // i ≤ a.length}) (κ := Unit) (fun i => [(5, .int .i64 (i.1 : Int)), (0, va), (1, vb)]) (fun _ => []) (fun _ => [fList 1 rCx va a, fList 1 rCx vb b]) (fun i => a.length - i.1)
    (fun _ => []) (fun _ => []) (fun _ => []) ⟨0, Nat.zero_le _⟩ (fun _ _ s => s.start zSub zRfl zFsub) ?_ ?_
  · rintro ⟨i, hi⟩
    dsimp only at hi ⊢
    by_cases hlt : i < a.length
    · obtain ⟨x, hx⟩ : ∃ x, a[i]? = some x := ⟨_, List.getElem?_eq_getElem hlt⟩
      obtain ⟨y, hy⟩ : ∃ y, b[i]? = some y := ⟨_, List.getElem?_eq_getElem (by omega)⟩
      have hxy : nf2 x = nf2 y := by
        have := congrArg (fun l => l[i]?) h
        simpa [hx, hy] using this
      have hw := wide9_spec x y hxy
      all_goals ((try refine zR3 ?_) <;> (repeat' (with_reducible first | refine And.intro ?_ ?_ | intro _)))
      all_goals (first | (exfalso; omega) | skip)
      refine c_draw ([], []) [] [0, 1, 2, 3, 4, 5, 6, 7, 8, 9] (by kernel_rfl) (by kernel_rfl) ?_
      all_goals (((try refine zD3 ?_) <;> (repeat' (with_reducible first | refine And.intro ?_ ?_ | intro _))) <;> (repeat' ((first | ((with_reducible apply l_callP); exact rfl; exact zEvs; exact rfl; (with_reducible apply hw); (case hF => exact zFsub); (try any_goals (refine propId ?_; omega)))) <;> ((try refine zD3 ?_) <;> (repeat' (with_reducible first | refine And.intro ?_ ?_ | intro _))))))
      exact e_again ⟨i + 1, by omega⟩ (by dsimp only; omega) zSub rfl zFsub
    · all_goals ((try refine zR3 ?_) <;> (repeat' (with_reducible first | refine And.intro ?_ ?_ | intro _)))
      all_goals (first | (exfalso; omega) | skip)
      exact e_out () zSub rfl (fun _ h => by cases h)
  · intro _
    all_goals ((try refine zR3 ?_) <;> (repeat' (with_reducible first | refine And.intro ?_ ?_ | intro _)))
    (refine e_gives rfl zRes ?_; first | rfl | (simp [retVal, *]; done) | (simp_all [retVal]; done) | (simp only [retVal]))
theorem big_spec (vc : Value) (code : List Int) : Spec Tryz.prog 8 [vc] [] [fCode vc code] (Gives (.bool (decide ((4096 : Int) < (code.length : Int))))) := by
  refine enter Tryz.func8 Tryz.ntmps8 rfl (by kernel_rfl) zCon rfl fun G => ?_
  refine c_isList (v := vc) zMem fun hsa => ?_
  all_goals ((try refine zR3 ?_) <;> (repeat' (with_reducible first | refine And.intro ?_ ?_ | intro _)))
  (refine e_gives rfl zRes ?_; first | rfl | (simp [retVal, *]; done) | (simp_all [retVal]; done) | (simp only [retVal]))
def listC (l : List (Nat × Nat)) : Int := if l.all cfin = true then (if 100 < l.length then 2 else 0) else 1
theorem l06List_spec (v : Value) (l : List (Nat × Nat)) : Spec Tryz.prog 81 [v] [] [fList 1 rCx v l] (Gives (.int .i64 (listC l))) := by
  refine enter Tryz.func81 Tryz.ntmps81 rfl (by kernel_rfl) zCon rfl fun G => ?_
  refine c_isList (v := v) zMem fun hsv => ?_
  refine c_lenList zMem fun hlen => ?_
  have hf := fun a b => l01Finite_spec a b
  all_goals ((try refine zR3 ?_) <;> (repeat' (with_reducible first | refine And.intro ?_ ?_ | intro _)))
  refine c_while (ι := { i : Nat // i ≤ l.length ∧ l.all cfin = (l.drop i).all cfin }) (κ := { u : Unit // l.all cfin = true }) (fun i => [(0, v), (3, .int .i64 (i.1 : Int))]) (fun _ => []) (fun _ => [fList 1 rCx v l]) (fun i => l.length - i.1)
    (fun _ => [(0, v)]) (fun _ => []) (fun _ => [fList 1 rCx v l]) ⟨0, Nat.zero_le _, rfl⟩ (fun _ _ s => s.start zSub zRfl zFsub) ?_ ?_
  · rintro ⟨i, hi, hall⟩
    dsimp only at hi ⊢
    by_cases hi' : i < l.length
    · have hdrop : l.drop i = l[i] :: l.drop (i + 1) := List.drop_eq_getElem_cons hi'
      obtain ⟨w, hw⟩ : ∃ w, l[i]? = some w := ⟨_, List.getElem?_eq_getElem hi'⟩
      have hwi : l[i] = w := by rw [List.getElem?_eq_getElem hi'] at hw; injection hw
      rw [hwi] at hdrop
      rw [hdrop, List.all_cons] at hall
      all_goals (((try refine zR3 ?_) <;> (repeat' (with_reducible first | refine And.intro ?_ ?_ | intro _))) <;> (repeat' ((first | ((with_reducible apply l_callP); exact rfl; exact zEvs; exact rfl; (with_reducible apply hf); (case hF => exact zFsub); (try any_goals (refine propId ?_; omega)))) <;> ((try refine zR3 ?_) <;> (repeat' (with_reducible first | refine And.intro ?_ ?_ | intro _))))))
      all_goals (first | (exfalso; omega) | skip)
      · have h0 : cfin w = false := by assumption
        rw [h0, Bool.false_and] at hall
        have hc : listC l = 1 := by unfold listC; rw [hall]; rfl
        rw [hc]
        (refine e_gives rfl zRes ?_; first | rfl | (simp [retVal, *]; done) | (simp_all [retVal]; done) | (simp only [retVal]))
      · have h0 : cfin w = true := by assumption
        rw [h0, Bool.true_and] at hall
        exact e_again ⟨i + 1, hi', hall⟩ (by dsimp only; omega) zSub rfl zFsub
    · all_goals ((try refine zR3 ?_) <;> (repeat' (with_reducible first | refine And.intro ?_ ?_ | intro _)))
      all_goals (first | (exfalso; omega) | skip)
      exact e_out ⟨(), by rw [hall, List.drop_eq_nil_of_le (by omega)]; rfl⟩ zSub rfl zFsub
  · rintro ⟨_, h⟩
    all_goals ((try refine zR3 ?_) <;> (repeat' (with_reducible first | refine And.intro ?_ ?_ | intro _)))
    · have hc : listC l = 2 := by unfold listC; rw [if_pos h, if_pos (by omega)]
      rw [hc]
      (refine e_gives rfl zRes ?_; first | rfl | (simp [retVal, *]; done) | (simp_all [retVal]; done) | (simp only [retVal]))
    · have hc : listC l = 0 := by unfold listC; rw [if_pos h, if_neg (by omega)]
      rw [hc]
      (refine e_gives rfl zRes ?_; first | rfl | (simp [retVal, *]; done) | (simp_all [retVal]; done) | (simp only [retVal]))
end Go.Proofs.YtbllgmcpebifhaaGreatDoor.K
end

section
/- Clusters, in plain terms: the search that both sides make. -/
namespace Go.Proofs.YtbllgmcpebifhaaGreatDoor.K
open Go Go.RowKit
set_option linter.all false

/-- One thing is looked at: those joined with it that were not met are met, and put at the queue's end. -/
def vis (J : Nat → Nat → Bool) (x : Nat) : Nat → Nat → List Bool × List Nat → List Bool × List Nat
  | 0, _, s => s
  | m + 1, k, s => vis J x m (k + 1) (if (!s.1.getD k true) && J x k then (s.1.set k true, s.2 ++ [k]) else s)
/-- All of the queue is looked at. -/
def wlk (J : Nat → Nat → Bool) (n : Nat) : Nat → Nat → List Bool × List Nat → List Bool × List Nat
  | 0, _, s => s
  | f + 1, t, s => if t < s.2.length then wlk J n f (t + 1) (vis J (s.2.getD t 0) n 0 s) else s
def grp (n : Nat) (q : List Nat) : List Nat := (List.range n).filter fun k => q.contains k
/-- The sets. -/
def cls (J : Nat → Nat → Bool) (n : Nat) : Nat → Nat → List Bool → List (List Nat)
  | 0, _, _ => []
  | m + 1, i, met => if met.getD i true = true then cls J n m (i + 1) met else
      grp n (wlk J n n 0 (met.set i true, [i])).2 :: cls J n m (i + 1) (wlk J n n 0 (met.set i true, [i])).1
/-- Behind a step: what is met is what was, and the queue; the queue has each one once, and none that was met before. -/
structure Inv (n : Nat) (m0 : Nat → Bool) (s : List Bool × List Nat) : Prop where
  len : s.1.length = n
  lt : ∀ x ∈ s.2, x < n
  nodup : s.2.Nodup
  new : ∀ x ∈ s.2, m0 x = false
  met : ∀ x, x < n → (s.1.getD x true = true ↔ m0 x = true ∨ x ∈ s.2)
theorem getD_set (l : List Bool) (i j : Nat) (b : Bool) (hi : i < l.length) : (l.set i b).getD j true = if j = i then b else l.getD j true := by
  rw [List.getD_eq_getElem?_getD, List.getD_eq_getElem?_getD, List.getElem?_set]
  by_cases h : i = j
  · subst h; simp [hi]
  · rw [if_neg h, if_neg (fun k => h k.symm)]
theorem Inv.put {n : Nat} {m0 : Nat → Bool} {s : List Bool × List Nat} (h : Inv n m0 s) {k : Nat} (hk : k < n) (hn : s.1.getD k true = false) : Inv n m0 (s.1.set k true, s.2 ++ [k]) := by
  have hnm : ¬ (m0 k = true ∨ k ∈ s.2) := fun hh => by rw [(h.met k hk).2 hh] at hn; cases hn
  refine ⟨by simp [h.len], fun x hx => ?_, ?_, fun x hx => ?_, fun x hx => ?_⟩
  · rcases List.mem_append.1 hx with hx | hx
    · exact h.lt x hx
    · rw [List.mem_singleton.1 hx]; exact hk
  · rw [List.nodup_append]
    refine ⟨h.nodup, by simp, fun a ha b hb => ?_⟩
    rw [List.mem_singleton.1 hb]
    rintro rfl
    exact hnm (.inr ha)
  · rcases List.mem_append.1 hx with hx | hx
    · exact h.new x hx
    · rw [List.mem_singleton.1 hx]
      cases hm : m0 k with
      | true => exact absurd (.inl hm) hnm
      | false => rfl
  · dsimp only
    rw [getD_set _ _ _ _ (by rw [h.len]; exact hk)]
    by_cases hxk : x = k
    · subst hxk; simp
    · rw [if_neg hxk, h.met x hx]
      simp [hxk]
/-- One look keeps all that, keeps the queue's beginning, and meets all that is joined. -/
theorem vis_inv {J : Nat → Nat → Bool} {x n : Nat} {m0 : Nat → Bool} : ∀ (m k : Nat) (s : List Bool × List Nat), k + m = n → Inv n m0 s → Inv n m0 (vis J x m k s) ∧ (∃ r, (vis J x m k s).2 = s.2 ++ r) ∧ (∀ y, y < n → s.1.getD y true = true → (vis J x m k s).1.getD y true = true) ∧ (∀ y, k ≤ y → y < n → J x y = true → (vis J x m k s).1.getD y true = true)
  | 0, k, s, hk, h => ⟨h, ⟨[], by simp [vis]⟩, fun _ _ h => h, fun y h1 h2 _ => by omega⟩
  | m + 1, k, s, hk, h => by
    rw [vis]
    have hkn : k < n := by omega
    by_cases hc : ((!s.1.getD k true) && J x k) = true
    · rw [if_pos hc]
      simp only [Bool.and_eq_true, Bool.not_eq_true'] at hc
      have hput := h.put hkn hc.1
      obtain ⟨i1, ⟨r, i2⟩, i3, i4⟩ := vis_inv (J := J) (x := x) m (k + 1) _ (by omega) hput
      have hset : ∀ y, (s.1.set k true).getD y true = if y = k then true else s.1.getD y true := fun y => getD_set _ _ _ _ (by rw [h.len]; exact hkn)
      refine ⟨i1, ⟨k :: r, by rw [i2]; simp⟩, fun y hy hm => i3 y hy (by dsimp only; rw [hset]; split; rfl; exact hm), fun y h1 h2 hj => ?_⟩
      by_cases hyk : y = k
      · exact i3 y h2 (by dsimp only; rw [hset, if_pos hyk])
      · exact i4 y (by omega) h2 hj
    · rw [if_neg hc]
      obtain ⟨i1, i2, i3, i4⟩ := vis_inv (J := J) (x := x) m (k + 1) s (by omega) h
      refine ⟨i1, i2, i3, fun y h1 h2 hj => ?_⟩
      by_cases hyk : y = k
      · subst hyk
        refine i3 y h2 ?_
        cases hm : s.1.getD y true with
        | true => rfl
        | false => exact absurd (by rw [hm, hj]; rfl) hc
      · exact i4 y (by omega) h2 hj
theorem len_le : ∀ (n : Nat) (q : List Nat), q.Nodup → (∀ x ∈ q, x < n) → q.length ≤ n
  | 0, q, _, h => by
    cases q with
    | nil => exact Nat.le_refl _
    | cons x r => exact absurd (h x (.head _)) (Nat.not_lt_zero _)
  | n + 1, q, hn, h => by
    by_cases hm : n ∈ q
    · have h1 := len_le n (q.erase n) (hn.erase n) (fun x hx => by
        have h2 := (hn.mem_erase_iff).1 hx
        have := h x h2.2
        have := h2.1
        omega)
      have h3 := List.length_erase_of_mem hm
      omega
    · have := len_le n q hn (fun x hx => by
        have h1 := h x hx
        have : x ≠ n := fun e => hm (e ▸ hx)
        omega)
      omega
theorem getD_app (q r : List Nat) (i : Nat) (hi : i < q.length) : (q ++ r).getD i 0 = q.getD i 0 := by
  rw [List.getD_eq_getElem?_getD, List.getD_eq_getElem?_getD, List.getElem?_append_left hi]
theorem wlk_inv {J : Nat → Nat → Bool} {n : Nat} {m0 : Nat → Bool} : ∀ (f t : Nat) (s : List Bool × List Nat), Inv n m0 s → n ≤ t + f → (∀ i, i < t → i < s.2.length → ∀ k, k < n → J (s.2.getD i 0) k = true → s.1.getD k true = true) →
    Inv n m0 (wlk J n f t s) ∧ (∃ r, (wlk J n f t s).2 = s.2 ++ r) ∧ ∀ x ∈ (wlk J n f t s).2, ∀ k, k < n → J x k = true → (wlk J n f t s).1.getD k true = true
  | f, t, s, h, hf, hc => by
    have hl := len_le n s.2 h.nodup h.lt
    have stop : s.2.length ≤ t → ∀ x ∈ s.2, ∀ k, k < n → J x k = true → s.1.getD k true = true := fun ht x hx k hk hj => by
      obtain ⟨i, hi, e⟩ := List.getElem_of_mem hx
      refine hc i (by omega) hi k hk ?_
      rw [List.getD_eq_getElem?_getD, List.getElem?_eq_getElem hi, e]
      exact hj
    cases f with
    | zero => exact ⟨h, ⟨[], by simp [wlk]⟩, stop (by omega)⟩
    | succ f =>
      rw [wlk]
      by_cases ht : t < s.2.length
      · rw [if_pos ht]
        obtain ⟨i1, ⟨r, i2⟩, i3, i4⟩ := vis_inv (J := J) (x := s.2.getD t 0) n 0 s (by omega) h
        obtain ⟨j1, ⟨r2, j2⟩, j3⟩ := wlk_inv f (t + 1) (vis J (s.2.getD t 0) n 0 s) i1 (by omega) (fun i hi hil k hk hj => by
          by_cases hit : i = t
          · subst hit
            rw [i2, getD_app _ _ _ ht] at hj
            exact i4 k (Nat.zero_le _) hk hj
          · have hi2 : i < s.2.length := by omega
            rw [i2, getD_app _ _ _ hi2] at hj
            exact i3 k hk (hc i (by omega) hi2 k hk hj))
        exact ⟨j1, ⟨r ++ r2, by rw [j2, i2, List.append_assoc]⟩, j3⟩
      · rw [if_neg ht]
        exact ⟨h, ⟨[], by simp⟩, stop (by omega)⟩
theorem mem_grp {n : Nat} {q : List Nat} (h : ∀ x ∈ q, x < n) (x : Nat) : x ∈ grp n q ↔ x ∈ q := by
  unfold grp
  rw [List.mem_filter, List.mem_range]
  simp only [List.contains_iff_mem]
  exact ⟨fun h => h.2, fun hx => ⟨h x hx, hx⟩⟩
theorem cls_facts {J : Nat → Nat → Bool} {n : Nat} (hsym : ∀ x k, J x k = J k x) : ∀ (m i : Nat) (met : List Bool), i + m = n → met.length = n → (∀ x, x < i → met.getD x true = true) → (∀ x k, x < n → k < n → met.getD x true = true → J x k = true → met.getD k true = true) →
    (∀ g ∈ cls J n m i met, ∀ x ∈ g, x < n ∧ met.getD x true = false) ∧ (cls J n m i met).flatten.Nodup ∧ (∀ x, x < n → met.getD x true = false → x ∈ (cls J n m i met).flatten) ∧ (∀ g ∈ cls J n m i met, ∀ x ∈ g, ∀ k, k < n → J x k = true → k ∈ g)
  | 0, i, met, hi, hl, hlt, hcl => ⟨(fun g h => by cases h), List.nodup_nil, (fun x hx hm => absurd (hlt x (by omega)) (by rw [hm]; decide)), (fun g h => by cases h)⟩
  | m + 1, i, met, hi, hl, hlt, hcl => by
    rw [cls]
    by_cases hm : met.getD i true = true
    · rw [if_pos hm]
      exact cls_facts hsym m (i + 1) met (by omega) hl (fun x hx => by
        by_cases hxi : x = i
        · rw [hxi]; exact hm
        · exact hlt x (by omega)) hcl
    · rw [if_neg hm]
      have hmf : met.getD i true = false := by simpa using hm
      have hin : i < n := by omega
      have h0 : Inv n (fun x => met.getD x true) (met.set i true, [i]) := by
        refine ⟨by simp [hl], fun x hx => ?_, by simp, fun x hx => ?_, fun x hx => ?_⟩
        · rw [List.mem_singleton.1 hx]; exact hin
        · rw [List.mem_singleton.1 hx]; exact hmf
        · dsimp only
          rw [getD_set _ _ _ _ (by omega)]
          by_cases hxi : x = i
          · subst hxi; simp
          · rw [if_neg hxi]; simp [hxi]
      obtain ⟨w1, ⟨r, w2⟩, w3⟩ := wlk_inv (J := J) n 0 _ h0 (by omega) (fun i hi => absurd hi (Nat.not_lt_zero _))
      generalize wlk J n n 0 (met.set i true, [i]) = s at w1 w2 w3
      have hg := mem_grp w1.lt
      have hmono : ∀ x, x < n → met.getD x true = true → s.1.getD x true = true := fun x hx h => (w1.met x hx).2 (.inl h)
      have hfresh : ∀ x, x < n → s.1.getD x true = false → met.getD x true = false := fun x hx h => by
        cases hh : met.getD x true with
        | false => rfl
        | true => rw [hmono x hx hh] at h; cases h
      have hself : ∀ x, x < n → x ∈ s.2 → s.1.getD x true = true := fun x hx h => (w1.met x hx).2 (.inr h)
      obtain ⟨r1, r2, r3, r4⟩ := cls_facts hsym m (i + 1) s.1 (by omega) w1.len (fun x hx => by
          by_cases hxi : x = i
          · exact hself x (by omega) (by rw [w2, hxi]; simp)
          · exact hmono x (by omega) (hlt x (by omega)))
        (fun x k hx hk hsx hj => by
          rcases (w1.met x hx).1 hsx with h | h
          · exact hmono k hk (hcl x k hx hk h hj)
          · exact w3 x h k hk hj)
      refine ⟨fun g hgm x hx => ?_, ?_, fun x hx hxm => ?_, fun g hgm x hx k hk hj => ?_⟩
      · rcases List.mem_cons.1 hgm with rfl | hgm
        · exact ⟨w1.lt x ((hg x).1 hx), w1.new x ((hg x).1 hx)⟩
        · have := r1 g hgm x hx
          exact ⟨this.1, hfresh x this.1 this.2⟩
      · rw [List.flatten_cons, List.nodup_append]
        refine ⟨List.Pairwise.filter _ List.nodup_range, r2, fun a ha b hb => ?_⟩
        rintro rfl
        obtain ⟨g, hgm, hx⟩ := List.mem_flatten.1 hb
        have h1 := r1 g hgm a hx
        rw [hself a h1.1 ((hg a).1 ha)] at h1
        cases h1.2
      · rw [List.flatten_cons, List.mem_append]
        cases hs : s.1.getD x true with
        | false => exact .inr (r3 x hx hs)
        | true =>
          rcases (w1.met x hx).1 hs with h | h
          · rw [hxm] at h; cases h
          · exact .inl ((hg x).2 h)
      · rcases List.mem_cons.1 hgm with rfl | hgm
        · have hxq := (hg x).1 hx
          refine (hg k).2 ?_
          rcases (w1.met k hk).1 (w3 x hxq k hk hj) with h | h
          · have h1 := hcl k x hk (w1.lt x hxq) h (by rw [hsym]; exact hj)
            have h2 := w1.new x hxq
            rw [h1] at h2
            cases h2
          · exact h
        · exact r4 g hgm x hx k hk hj
end Go.Proofs.YtbllgmcpebifhaaGreatDoor.K
end

section
/- The way between two numbers has one length. -/
namespace Go.Proofs.YtbllgmcpebifhaaGreatDoor.K
open Go Go.RowKit Ieee
set_option linter.all false
set_option maxRecDepth 10000

theorem word_abs (s t : Bool) (r : Nat) : absB (double.word s r) = absB (double.word t r) := by
  have e : double.signWeight = 2 ^ 63 := by decide
  unfold absB Format.word
  rw [e]
  cases s <;> cases t <;> simp
theorem write_abs (s t : Bool) (m : Nat) (p : Int) : absB (double.write (.number s m p)) = absB (double.write (.number t m p)) := by
  unfold Format.write Format.nearest
  simp only
  split <;> exact word_abs s t _
theorem signed_opp (s : Bool) (m k : Nat) : signed (!s) m k = -signed s m k := by cases s <;> simp [signed]
theorem sub_swap (x y : Nat) : fabs (fop .sub x y) = fabs (fop .sub y x) := by
  have e : ∀ x y, fop .sub x y = (((double.read x).sum (double.read y).opposite).map double.write).getD NAN := fun _ _ => rfl
  rw [e, e]
  unfold fabs
  congr 1
  cases double.read x with
  | nan s f => cases double.read y <;> rfl
  | infinity s =>
    cases double.read y with
    | nan t f => rfl
    | infinity t => cases s <;> cases t <;> first | rfl | exact word_abs _ _ _
    | number t n j => exact word_abs _ _ _
  | number s m i =>
    cases double.read y with
    | nan t f => rfl
    | infinity t => exact word_abs _ _ _
    | number t n j =>
      simp only [Datum.opposite, Datum.sum, Option.map_some, Option.getD_some]
      have hb : min j i = min i j := Int.min_comm j i
      have ht : signed t n (j - min j i).toNat + signed (!s) m (i - min j i).toNat = -(signed s m (i - min i j).toNat + signed (!t) n (j - min i j).toNat) := by
        rw [hb, signed_opp, signed_opp]; omega
      rw [ht, hb, Int.natAbs_neg]
      exact write_abs _ _ _ _
theorem csize_swap (a b : Nat × Nat) : csize (csub a b) = csize (csub b a) := by
  unfold csize csub
  dsimp only
  rw [sub_swap a.1, sub_swap a.2]
end Go.Proofs.YtbllgmcpebifhaaGreatDoor.K
end

section
/- Whether a list has a number. -/
namespace Go.Proofs.YtbllgmcpebifhaaGreatDoor.K
open Go Go.RowKit
set_option linter.all false
set_option maxRecDepth 4000
set_option maxHeartbeats 1000000

theorem l01Index_spec (v : Value) (q : List Int) (n : Int) : Spec Tryz.prog 165 [v, .int .i64 n] [] [fList 1 (rInt .i64) v q] (PM (fun u : {x : Int // 0 ≤ x ↔ n ∈ q} => .int .i64 u.1) fun _ => []) := by
  refine enter Tryz.func165 Tryz.ntmps165 rfl (by kernel_rfl) zCon rfl fun G => ?_
  refine c_isList (v := v) zMem fun hsv => ?_
  refine c_lenList zMem fun hlen => ?_
  all_goals ((try refine zR3 ?_) <;> (repeat' (with_reducible first | refine And.intro ?_ ?_ | intro _)))
  refine c_while (ι := { i : Nat // i ≤ q.length ∧ n ∉ q.take i }) (κ := { u : Unit // n ∉ q }) (fun i => [(0, v), (1, .int .i64 n), (5, .int .i64 (i.1 : Int))]) (fun _ => []) (fun _ => [fList 1 (rInt .i64) v q]) (fun i => q.length - i.1)
    (fun _ => []) (fun _ => []) (fun _ => []) ⟨0, Nat.zero_le _, by simp⟩ (fun _ _ s => s.start zSub zRfl zFsub) ?_ ?_
  · rintro ⟨i, hi, hno⟩
    dsimp only at hi hno ⊢
    by_cases hi' : i < q.length
    · obtain ⟨w, hw⟩ : ∃ w, q[i]? = some w := ⟨_, List.getElem?_eq_getElem hi'⟩
      all_goals ((try refine zR3 ?_) <;> (repeat' (with_reducible first | refine And.intro ?_ ?_ | intro _)))
      all_goals (first | (exfalso; omega) | skip)
      · have h0 : w = n := by assumption
        exact e_pm ⟨(i : Int), ⟨fun _ => h0 ▸ List.mem_of_getElem? hw, fun _ => by omega⟩⟩ rfl zRes .nil rfl
      · have h0 : ¬ w = n := by assumption
        refine e_again ⟨i + 1, hi', ?_⟩ (by dsimp only; omega) zSub rfl zFsub
        rw [List.take_succ, hw]
        intro h
        rcases List.mem_append.1 h with h | h
        · exact hno h
        · simp at h; exact h0 h.symm
    · all_goals ((try refine zR3 ?_) <;> (repeat' (with_reducible first | refine And.intro ?_ ?_ | intro _)))
      all_goals (first | (exfalso; omega) | skip)
      exact e_out ⟨(), by rwa [List.take_of_length_le (by omega)] at hno⟩ zSub rfl (fun _ h => by cases h)
  · rintro ⟨_, h⟩
    all_goals ((try refine zR3 ?_) <;> (repeat' (with_reducible first | refine And.intro ?_ ?_ | intro _)))
    exact e_pm ⟨-1, ⟨fun h0 => absurd h0 (by decide), fun h0 => absurd h0 h⟩⟩ rfl zRes .nil rfl
theorem l01Has_spec (v : Value) (q : List Int) (n : Int) : Spec Tryz.prog 90 [v, .int .i64 n] [] [fList 1 (rInt .i64) v q] (Gives (.bool (decide (n ∈ q)))) := by
  refine enter Tryz.func90 Tryz.ntmps90 rfl (by kernel_rfl) zCon rfl fun G => ?_
  refine c_isList (v := v) zMem fun hsv => ?_
  have hI := l01Index_spec v q n
  all_goals (((try refine zR3 ?_) <;> (repeat' (with_reducible first | refine And.intro ?_ ?_ | intro _))) <;> (repeat' ((first | ((with_reducible apply l_callM); exact rfl; exact rfl; exact zEvs; exact rfl; (apply hI); (case hL => exact zTake); (case hF => exact zFsub); (try any_goals (refine propId ?_; first | omega | exact zLt)); (with_reducible intro _))) <;> ((try refine zR3 ?_) <;> (repeat' (with_reducible first | refine And.intro ?_ ?_ | intro _))))))
  rename_i u
  obtain ⟨x, hx⟩ := u
  dsimp only
  refine e_gives rfl zRes ?_
  simp [retVal, hx]
end Go.Proofs.YtbllgmcpebifhaaGreatDoor.K
end

section
/- Rounding to the nearest whole number, ties to even. -/
namespace Go.Proofs.YtbllgmcpebifhaaGreatDoor.K
open Go Go.RowKit Ieee
set_option linter.all false

def rteB (p : Nat) : Nat := FloatKind.f64.encode ((double.read p).integral .even)
section
variable {G : Ctx} {n : Nat} {ops : Array Oper} {Q : Post} {rest : List Oper} {m : Regs} {L : List Own} {F : List Fact} {d : Nat} {ty : TypeId} {pos : String} {af : Array Edge} {g : Option (Nat × Bool)}
theorem run_rte {P : Program} {p : Nat} (hp : nanB p = false) (w : World) : (Extern.MathFloor.toIntegral "math.RoundToEven" .even #[.float .f64 p]).run P w = .ok (.float .f64 (rteB p)) w := by
  have e : FloatKind.f64.decode p = double.read p := rfl
  unfold rteB
  cases h : double.read p with
  | nan s f => exact absurd ((nanB_iff p).2 ⟨s, f, h⟩) (by rw [hp]; simp)
  | infinity s =>
    have e2 : FloatKind.f64.decode p = .infinity s := e.trans h
    delta Extern.MathFloor.toIntegral
    conv => lhs; arg 2; whnf
    rw [e2]
    rfl
  | number s a i =>
    have e2 : FloatKind.f64.decode p = .number s a i := e.trans h
    delta Extern.MathFloor.toIntegral
    conv => lhs; arg 2; whnf
    rw [e2]
    rfl
theorem l_rte {x : Operand} {ts : Array TypeId} {p : Nat} (hp : nanB p = false) (hw : wantG ops m g = some true) (hx : ev m x = some (.float .f64 p)) (hd : Nat.blt d n = true)
    (h : RunL G n Tryz.prog ops Q rest ((d, .float .f64 (rteB p)) :: m) L F) : RunL G n Tryz.prog ops Q (⟨some d, .call ⟨.value (.func 216), #[x], ts⟩, ty, pos, af, g⟩ :: rest) m L F :=
  l_ext1 (e := Extern.MathFloor.toIntegral "math.RoundToEven" .even) Tryz.func216 (by kernel_rfl) (by kernel_rfl) (by kernel_rfl) (by kernel_rfl) (fun w => run_rte hp w) hw hx hd h
end
end Go.Proofs.YtbllgmcpebifhaaGreatDoor.K
end
