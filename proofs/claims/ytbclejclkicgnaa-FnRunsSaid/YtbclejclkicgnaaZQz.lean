/- The draws: the bounds. -/
import Derived.Test.YtbclejclkicgnaaZQx
namespace Go.Proofs.Ytbclejclkicgnaa.K
open Go Go.RowKit
set_option linter.all false
set_option maxRecDepth 4000
set_option maxHeartbeats 1000000

/-- A float and a word. -/
abbrev PFB : Value → List Own → List Fact → Prop := PM (fun u : Nat × Bool => .tuple #[.float .f64 u.1, .bool u.2]) fun _ => []
theorem l06Quotients_spec (vp : Value) (p : List (Nat × Nat)) (h1 : 1 ≤ p.length) (h2 : p.length ≤ 13) : Spec Try.prog 79 [vp] [] [fList 1 rCx vp p] (PLB (fun o _ => o.length ≤ 13)) := by
  refine enter Try.func79 Try.ntmps79 rfl (by kernel_rfl) zCon rfl fun G => ?_
  refine c_isList (v := vp) zMem fun hsp => ?_
  refine c_lenList (v := vp) zMem fun hlp => ?_
  have hf := fun a b => l01Finite_spec a b
  obtain ⟨y, hy⟩ : ∃ y, p[p.length - 1]? = some y := ⟨_, List.getElem?_eq_getElem (by omega)⟩
  have e1 : ((p.length : Int) - 1) = ((p.length - 1 : Nat) : Int) := by omega
  all_goals ((try refine zR3 ?_) <;> (repeat' (with_reducible first | refine And.intro ?_ ?_ | intro _)))
  rename_i v0 _
  refine c_isRow (v := v0) zHas fun hs0 _ => ?_
  refine c_while (ι := {x : Nat × Value × List (Nat × Nat) // x.1 ≤ p.length - 1 ∧ IsSl x.2.1 ∧ x.2.2.length = x.1}) (κ := {x : Value × List (Nat × Nat) // IsSl x.1 ∧ x.2.length ≤ 13})
    (fun x => [(6, .int .i64 (x.1.1 : Int)), (4, x.1.2.1), (0, vp), (5, .int .i64 ((p.length : Int) - 1))]) (fun x => [oRow x.1.2.1 x.1.2.2]) (fun _ => [fList 1 rCx vp p]) (fun x => p.length - x.1.1)
    (fun x => [(4, x.1.1)]) (fun x => [oRow x.1.1 x.1.2]) (fun _ => []) ⟨(0, v0, []), Nat.zero_le _, hs0, rfl⟩ (fun _ _ s => s.start zSub zRfl zFsub) ?_ ?_
  · rintro ⟨⟨k, v4, q⟩, hk, hs4, hq⟩
    dsimp only at hk hs4 hq ⊢
    by_cases hlt : k < p.length - 1
    · obtain ⟨r, hr⟩ : ∃ r, p[k]? = some r := ⟨_, List.getElem?_eq_getElem (by omega)⟩
      all_goals ((try refine zR3 ?_) <;> (repeat' (with_reducible first | refine And.intro ?_ ?_ | intro _)))
      all_goals (first | (exfalso; omega) | skip)
      refine c_draw ([8, 9], []) [] [0, 1, 2, 3, 4, 5, 6, 7, 8, 9] (by kernel_rfl) (by kernel_rfl) ?_
      all_goals ((try refine zD3 ?_) <;> (repeat' (with_reducible first | refine And.intro ?_ ?_ | intro _)))
      all_goals (((try refine zR3 ?_) <;> (repeat' (with_reducible first | refine And.intro ?_ ?_ | intro _))) <;> (repeat' ((first | ((with_reducible apply l_callP); exact rfl; exact zEvs; exact rfl; (with_reducible apply hf); (case hF => exact zFsub); (try any_goals (refine propId ?_; omega)))) <;> ((try refine zR3 ?_) <;> (repeat' (with_reducible first | refine And.intro ?_ ?_ | intro _))))))
      · refine ends_nilRow (e := 47) 1 ?_
        exact e_pm ⟨(.slice none 0 0, [], false), ⟨_, _, _, rfl⟩, by simp⟩ rfl zRes zTake rfl
      · rename_i t hf1 _ v2
        refine ends_isRowQ (v := v2) zHas fun hs2 => ?_
        exact e_againT (Lr := []) ⟨(k + 1, v2, q ++ [t.1]), by dsimp only; omega, hs2, by dsimp only; rw [len_app]; omega⟩ (by dsimp only; omega) zSub (by dsimp only; rw [oRow_app]; exact zTake) zFsub
    · all_goals ((try refine zR3 ?_) <;> (repeat' (with_reducible first | refine And.intro ?_ ?_ | intro _)))
      all_goals (first | (exfalso; omega) | skip)
      exact e_out ⟨(v4, q), hs4, by dsimp only; omega⟩ zSub rfl (fun _ h => by cases h)
  · rintro ⟨⟨v4, q⟩, hs4, hq⟩
    dsimp only at hs4 hq ⊢
    all_goals ((try refine zR3 ?_) <;> (repeat' (with_reducible first | refine And.intro ?_ ?_ | intro _)))
    exact e_pm ⟨(v4, q, true), hs4, hq⟩ rfl zRes zTake rfl
theorem l06Greatest_spec (vp : Value) (p : List (Nat × Nat)) (h1 : 1 ≤ p.length) (h2 : p.length ≤ 13) : Spec Try.prog 64 [vp] [] [fList 1 rCx vp p] PFB := by
  refine enter Try.func64 Try.ntmps64 rfl (by kernel_rfl) zCon rfl fun G => ?_
  refine c_isList (v := vp) zMem fun hsp => ?_
  have hQ := l06Quotients_spec vp p h1 h2
  all_goals (((try refine zR3 ?_) <;> (repeat' (with_reducible first | refine And.intro ?_ ?_ | intro _))) <;> (repeat' ((first | ((with_reducible apply l_callM); exact rfl; exact rfl; exact zEvs; exact rfl; (apply hQ); (case hL => exact zTake); (case hF => exact zFsub); (try any_goals (refine propId ?_; omega)); (with_reducible intro _))) <;> ((try refine zR3 ?_) <;> (repeat' (with_reducible first | refine And.intro ?_ ?_ | intro _))))))
  rename_i u
  obtain ⟨⟨v4, q, ok⟩, hs4, hq⟩ := u
  dsimp only at hs4 hq ⊢
  refine c_frzCx (v := v4) (l := q) zEra rfl ?_
  refine c_while (ι := {x : Nat × Nat // x.1 ≤ q.length}) (κ := Nat)
    (fun x => [(7, .int .i64 (x.1.1 : Int)), (6, .float .f64 x.1.2), (4, v4), (5, .bool ok)]) (fun _ => []) (fun _ => [fList 1 rCx v4 q]) (fun x => q.length - x.1.1)
    (fun x => [(6, .float .f64 x), (5, .bool ok)]) (fun _ => []) (fun _ => []) ⟨(0, 0), Nat.zero_le _⟩ (fun _ _ s => s.start zSub zRfl zFsub) ?_ ?_
  · rintro ⟨⟨k, a⟩, hk⟩
    dsimp only at hk ⊢
    by_cases hlt : k < q.length
    · obtain ⟨r, hr⟩ : ∃ r, q[k]? = some r := ⟨_, List.getElem?_eq_getElem (by omega)⟩
      all_goals (((try refine zR3 ?_) <;> (repeat' (with_reducible first | refine And.intro ?_ ?_ | intro _))) <;> (repeat' ((first | ((with_reducible apply l_callM); exact rfl; exact rfl; exact zEvs; exact rfl; (apply l01Size_spec); (case hL => exact zTake); (case hF => exact zFsub); (try any_goals (refine propId ?_; omega)); (with_reducible intro _))) <;> ((try refine zR3 ?_) <;> (repeat' (with_reducible first | refine And.intro ?_ ?_ | intro _))))))
      all_goals (first | (exfalso; omega) | skip)
      all_goals exact e_again ⟨(k + 1, _), by omega⟩ (by dsimp only; omega) zSub rfl zFsub
    · all_goals ((try refine zR3 ?_) <;> (repeat' (with_reducible first | refine And.intro ?_ ?_ | intro _)))
      all_goals (first | (exfalso; omega) | skip)
      exact e_out a zSub rfl (fun _ h => by cases h)
  · intro a
    have hR := fun a => l06Real_spec a
    all_goals (((try refine zR3 ?_) <;> (repeat' (with_reducible first | refine And.intro ?_ ?_ | intro _))) <;> (repeat' ((first | ((with_reducible apply l_callP); exact rfl; exact zEvs; exact rfl; (with_reducible apply hR); (case hF => exact zFsub); (try any_goals (refine propId ?_; omega)))) <;> ((try refine zR3 ?_) <;> (repeat' (with_reducible first | refine And.intro ?_ ?_ | intro _))))))
    all_goals exact e_pm (_, _) rfl zRes .nil rfl
theorem l06Sum_spec (vp : Value) (p : List (Nat × Nat)) (h1 : 1 ≤ p.length) (h2 : p.length ≤ 13) : Spec Try.prog 65 [vp] [] [fList 1 rCx vp p] PFB := by
  refine enter Try.func65 Try.ntmps65 rfl (by kernel_rfl) zCon rfl fun G => ?_
  refine c_isList (v := vp) zMem fun hsp => ?_
  have hQ := l06Quotients_spec vp p h1 h2
  all_goals (((try refine zR3 ?_) <;> (repeat' (with_reducible first | refine And.intro ?_ ?_ | intro _))) <;> (repeat' ((first | ((with_reducible apply l_callM); exact rfl; exact rfl; exact zEvs; exact rfl; (apply hQ); (case hL => exact zTake); (case hF => exact zFsub); (try any_goals (refine propId ?_; omega)); (with_reducible intro _))) <;> ((try refine zR3 ?_) <;> (repeat' (with_reducible first | refine And.intro ?_ ?_ | intro _))))))
  rename_i u
  obtain ⟨⟨v4, q, ok⟩, hs4, hq⟩ := u
  dsimp only at hs4 hq ⊢
  refine c_frzCx (v := v4) (l := q) zEra rfl ?_
  refine c_while (ι := {x : Nat × Nat // x.1 ≤ q.length}) (κ := Nat)
    (fun x => [(7, .int .i64 (x.1.1 : Int)), (6, .float .f64 x.1.2), (4, v4), (5, .bool ok)]) (fun _ => []) (fun _ => [fList 1 rCx v4 q]) (fun x => q.length - x.1.1)
    (fun x => [(6, .float .f64 x), (5, .bool ok)]) (fun _ => []) (fun _ => []) ⟨(0, 0), Nat.zero_le _⟩ (fun _ _ s => s.start zSub zRfl zFsub) ?_ ?_
  · rintro ⟨⟨k, a⟩, hk⟩
    dsimp only at hk ⊢
    by_cases hlt : k < q.length
    · obtain ⟨r, hr⟩ : ∃ r, q[k]? = some r := ⟨_, List.getElem?_eq_getElem (by omega)⟩
      all_goals (((try refine zR3 ?_) <;> (repeat' (with_reducible first | refine And.intro ?_ ?_ | intro _))) <;> (repeat' ((first | ((with_reducible apply l_callM); exact rfl; exact rfl; exact zEvs; exact rfl; (apply l01Size_spec); (case hL => exact zTake); (case hF => exact zFsub); (try any_goals (refine propId ?_; omega)); (with_reducible intro _))) <;> ((try refine zR3 ?_) <;> (repeat' (with_reducible first | refine And.intro ?_ ?_ | intro _))))))
      all_goals (first | (exfalso; omega) | skip)
      all_goals exact e_again ⟨(k + 1, _), by omega⟩ (by dsimp only; omega) zSub rfl zFsub
    · all_goals ((try refine zR3 ?_) <;> (repeat' (with_reducible first | refine And.intro ?_ ?_ | intro _)))
      all_goals (first | (exfalso; omega) | skip)
      exact e_out a zSub rfl (fun _ h => by cases h)
  · intro a
    have hR := fun a => l06Real_spec a
    all_goals (((try refine zR3 ?_) <;> (repeat' (with_reducible first | refine And.intro ?_ ?_ | intro _))) <;> (repeat' ((first | ((with_reducible apply l_callP); exact rfl; exact zEvs; exact rfl; (with_reducible apply hR); (case hF => exact zFsub); (try any_goals (refine propId ?_; omega)))) <;> ((try refine zR3 ?_) <;> (repeat' (with_reducible first | refine And.intro ?_ ?_ | intro _))))))
    all_goals exact e_pm (_, _) rfl zRes .nil rfl
theorem l06Bound_spec (vp : Value) (p : List (Nat × Nat)) (h1 : 1 ≤ p.length) (h2 : p.length ≤ 13) : Spec Try.prog 50 [vp] [] [fList 1 rCx vp p] PFB := by
  refine enter Try.func50 Try.ntmps50 rfl (by kernel_rfl) zCon rfl fun G => ?_
  refine c_isList (v := vp) zMem fun hsp => ?_
  have hG := l06Greatest_spec vp p h1 h2
  have hS := l06Sum_spec vp p h1 h2
  all_goals (((try refine zR3 ?_) <;> (repeat' (with_reducible first | refine And.intro ?_ ?_ | intro _))) <;> (repeat' ((first | ((with_reducible apply l_callM); exact rfl; exact rfl; exact zEvs; exact rfl; (apply hG); (case hL => exact zTake); (case hF => exact zFsub); (try any_goals (refine propId ?_; omega)); (with_reducible intro _)) | ((with_reducible apply l_callM); exact rfl; exact rfl; exact zEvs; exact rfl; (apply hS); (case hL => exact zTake); (case hF => exact zFsub); (try any_goals (refine propId ?_; omega)); (with_reducible intro _))) <;> ((try refine zR3 ?_) <;> (repeat' (with_reducible first | refine And.intro ?_ ?_ | intro _))))))
  all_goals (rename_i i j _ _; first | exact e_pm (i.1, false) rfl zRes .nil rfl | exact e_pm (i.1, j.2) rfl zRes .nil rfl | exact e_pm (j.1, false) rfl zRes .nil rfl | exact e_pm (j.1, j.2) rfl zRes .nil rfl)
theorem l06Centre_spec (vp : Value) (p : List (Nat × Nat)) (h1 : 2 ≤ p.length) (h2 : p.length ≤ 13) : Spec Try.prog 51 [vp] [] [fList 1 rCx vp p] (PM (fun u : (Nat × Nat) × Bool => .tuple #[.complex .f64 u.1.1 u.1.2, .bool u.2]) fun _ => []) := by
  refine enter Try.func51 Try.ntmps51 rfl (by kernel_rfl) zCon rfl fun G => ?_
  refine c_isList (v := vp) zMem fun hsp => ?_
  refine c_lenList (v := vp) zMem fun hlp => ?_
  have hf := fun a b => l01Finite_spec a b
  obtain ⟨y, hy⟩ : ∃ y, p[p.length - 1]? = some y := ⟨_, List.getElem?_eq_getElem (by omega)⟩
  obtain ⟨z, hz⟩ : ∃ z, p[p.length - 2]? = some z := ⟨_, List.getElem?_eq_getElem (by omega)⟩
  all_goals (((try refine zR3 ?_) <;> (repeat' (with_reducible first | refine And.intro ?_ ?_ | intro _))) <;> (repeat' ((first | ((with_reducible apply l_callM); exact rfl; exact rfl; exact zEvs; exact rfl; (apply l01Times_spec); (case hL => exact zTake); (case hF => exact zFsub); (try any_goals (refine propId ?_; omega)); (with_reducible intro _)) | ((with_reducible apply l_callP); exact rfl; exact zEvs; exact rfl; (with_reducible apply hf); (case hF => exact zFsub); (try any_goals (refine propId ?_; omega)))) <;> ((try refine zR3 ?_) <;> (repeat' (with_reducible first | refine And.intro ?_ ?_ | intro _))))))
  all_goals exact e_pm ((_, _), _) rfl zRes .nil rfl
theorem l06Start_spec (vp : Value) (p : List (Nat × Nat)) (h1 : 2 ≤ p.length) (h2 : p.length ≤ 13) : Spec Try.prog 27 [vp] [] [fList 1 rCx vp p] (PLB (fun o _ => o.length = p.length - 1)) := by
  refine enter Try.func27 Try.ntmps27 rfl (by kernel_rfl) zCon rfl fun G => ?_
  refine c_isList (v := vp) zMem fun hsp => ?_
  refine c_lenList (v := vp) zMem fun hlp => ?_
  have hf := fun a b => l01Finite_spec a b
  have hB := l06Bound_spec vp p (by omega) h2
  have hC := l06Centre_spec vp p h1 h2
  have hT := fun (k : Nat) (hk : k ≤ 1000) => l06Turned_spec k hk
  all_goals (((try refine zR3 ?_) <;> (repeat' (with_reducible first | refine And.intro ?_ ?_ | intro _))) <;> (repeat' ((first | ((with_reducible apply l_callM); exact rfl; exact rfl; exact zEvs; exact rfl; (apply hB); (case hL => exact zTake); (case hF => exact zFsub); (try any_goals (refine propId ?_; omega)); (with_reducible intro _)) | ((with_reducible apply l_callM); exact rfl; exact rfl; exact zEvs; exact rfl; (apply hC); (case hL => exact zTake); (case hF => exact zFsub); (try any_goals (refine propId ?_; omega)); (with_reducible intro _))) <;> ((try refine zR3 ?_) <;> (repeat' (with_reducible first | refine And.intro ?_ ?_ | intro _))))))
  rename_i bd ct v0
  refine c_isRow (v := v0) zHas fun hs0 _ => ?_
  refine c_while (ι := {x : Value × List (Nat × Nat) × Bool // IsSl x.1 ∧ x.2.1.length ≤ p.length - 1}) (κ := {x : Value × List (Nat × Nat) × Bool // IsSl x.1 ∧ x.2.1.length = p.length - 1})
    (fun x => [(9, .int .i64 (x.1.2.1.length : Int)), (8, x.1.1), (5, .bool x.1.2.2), (0, vp), (4, .float .f64 bd.1), (6, .complex .f64 ct.1.1 ct.1.2), (7, .bool ct.2)]) (fun x => [oRow x.1.1 x.1.2.1]) (fun _ => [fList 1 rCx vp p]) (fun x => p.length - x.1.2.1.length)
    (fun x => [(8, x.1.1), (5, .bool x.1.2.2), (7, .bool ct.2)]) (fun x => [oRow x.1.1 x.1.2.1]) (fun _ => []) ⟨(v0, [], bd.2), hs0, Nat.zero_le _⟩ (fun _ _ s => s.start zSub zRfl zFsub) ?_ ?_
  · rintro ⟨⟨v, q, ok⟩, hs, hq⟩
    dsimp only at hs hq ⊢
    by_cases hlt : q.length < p.length - 1
    · all_goals (((try refine zR3 ?_) <;> (repeat' (with_reducible first | refine And.intro ?_ ?_ | intro _))) <;> (repeat' ((first | ((with_reducible apply l_callM); exact rfl; exact rfl; exact zEvs; exact rfl; (apply hT); (case hL => exact zTake); (case hF => exact zFsub); (try any_goals (refine propId ?_; omega)); (with_reducible intro _)) | ((with_reducible apply l_callM); exact rfl; exact rfl; exact zEvs; exact rfl; (apply l01Times_spec); (case hL => exact zTake); (case hF => exact zFsub); (try any_goals (refine propId ?_; omega)); (with_reducible intro _)) | ((with_reducible apply l_callP); exact rfl; exact zEvs; exact rfl; (with_reducible apply hf); (case hF => exact zFsub); (try any_goals (refine propId ?_; omega)))) <;> ((try refine zR3 ?_) <;> (repeat' (with_reducible first | refine And.intro ?_ ?_ | intro _))))))
      all_goals (first | (exfalso; omega) | skip)
      all_goals (rename_i u _ _ v2; refine ends_isRowQ (v := v2) zHas fun hs2 => ?_)
      all_goals exact e_againT (Lr := []) ⟨(v2, q ++ [u.1], _), hs2, by dsimp only; rw [len_app]; omega⟩ (by dsimp only; rw [len_app]; omega) (by dsimp only; rw [len_app]; exact zSub) (by dsimp only; rw [oRow_app]; exact zTake) zFsub
    · all_goals ((try refine zR3 ?_) <;> (repeat' (with_reducible first | refine And.intro ?_ ?_ | intro _)))
      all_goals (first | (exfalso; omega) | skip)
      exact e_out ⟨(v, q, ok), hs, by dsimp only; omega⟩ zSub rfl (fun _ h => by cases h)
  · rintro ⟨⟨v, q, ok⟩, hs, hq⟩
    dsimp only at hs hq ⊢
    all_goals ((try refine zR3 ?_) <;> (repeat' (with_reducible first | refine And.intro ?_ ?_ | intro _)))
    all_goals exact e_pm ⟨(v, q, _), hs, hq⟩ rfl zRes zTake rfl
end Go.Proofs.Ytbclejclkicgnaa.K
