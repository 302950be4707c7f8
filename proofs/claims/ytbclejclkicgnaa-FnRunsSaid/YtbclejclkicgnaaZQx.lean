/- The draws: roots. -/
import Derived.Test.YtbclejclkicgnaaZQv

section
namespace Go.Proofs.Ytbclejclkicgnaa.K
open Go Go.RowKit
set_option linter.all false
set_option maxRecDepth 4000
set_option maxHeartbeats 1000000

/-- A drawn list. -/
abbrev DL (p : List (Nat × Nat) → Prop) : Type := {u : Value × List (Nat × Nat) // IsSl u.1 ∧ p u.2}
abbrev oRow (v : Value) (l : List (Nat × Nat)) : Own := .row v 47 1 l.length (l.map cx)
abbrev PDL (b : Nat) (vc : Value) (N : Nat) (p : List (Nat × Nat) → Prop) : Value → List Own → List Fact → Prop := PM (fun i : DL p × Seed N => i.1.1.1) fun i => [oSrc b vc i.2, oRow i.1.1.1 i.1.1.2]
theorem l06Turned_spec (k : Nat) (hk : k ≤ 1000) : Spec Try.prog 53 [.int .i64 (k : Int)] [] [] (PM (fun u : Nat × Nat => .complex .f64 u.1 u.2) fun _ => []) := by
  refine enter Try.func53 Try.ntmps53 rfl (by kernel_rfl) zCon rfl fun G => ?_
  all_goals ((try refine zR3 ?_) <;> (repeat' (with_reducible first | refine And.intro ?_ ?_ | intro _)))
  refine c_while (ι := {s : Nat × (Nat × Nat) // s.1 ≤ 1000}) (κ := Nat × Nat) (fun s => [(0, .int .i64 (s.1.1 : Int)), (3, .complex .f64 s.1.2.1 s.1.2.2)]) (fun _ => []) (fun _ => []) (fun s => s.1.1)
    (fun s => [(3, .complex .f64 s.1 s.2)]) (fun _ => []) (fun _ => []) ⟨(k, _, _), hk⟩ (fun _ _ s => s.start zSub zRfl zFsub) ?_ ?_
  · rintro ⟨⟨k, u⟩, hk⟩
    dsimp only at hk ⊢
    all_goals (((try refine zR3 ?_) <;> (repeat' (with_reducible first | refine And.intro ?_ ?_ | intro _))) <;> (repeat' ((first | ((with_reducible apply l_callM); exact rfl; exact rfl; exact zEvs; exact rfl; (apply l01Times_spec); (case hL => exact zTake); (case hF => exact zFsub); (try any_goals (refine propId ?_; omega)); (with_reducible intro _))) <;> ((try refine zR3 ?_) <;> (repeat' (with_reducible first | refine And.intro ?_ ?_ | intro _))))))
    · rename_i h w
      exact e_again ⟨(k - 1, w.1), by dsimp only; omega⟩ (by dsimp only; omega) (by dsimp only; rw [show ((k - 1 : Nat) : Int) = (k : Int) - 1 by omega]; exact zSub) rfl (fun _ h => h)
    · exact e_out u zSub rfl (fun _ h => h)
  · intro u
    all_goals ((try refine zR3 ?_) <;> (repeat' (with_reducible first | refine And.intro ?_ ?_ | intro _)))
    exact e_pm u rfl zRes .nil rfl
theorem oRow_app (v : Value) (l : List (Nat × Nat)) (y : Nat × Nat) : oRow v (l ++ [y]) = .row v 47 1 (l.length + 1) ((l ++ [y]).map cx) := by simp [oRow]
theorem len_app (l : List (Nat × Nat)) (y : Nat × Nat) : (l ++ [y]).length = l.length + 1 := by simp
theorem l04Roots_spec (b : Nat) (vc : Value) (code : List Int) (hb : Bytes code) (hl : code.length ≤ 100000) (s : Seed code.length) (n : Nat) (hn : n ≤ 12) : Spec Try.prog 48 [pt b, .int .i64 (n : Int)] [oSrc b vc s] [fCode vc code] (PDL b vc code.length (fun l => l.length = n)) := by
  refine enter Try.func48 Try.ntmps48 rfl (by kernel_rfl) zCon rfl fun G => ?_
  have hN := l01Next_spec b vc code hb hl
  have hD := l04Number_spec b vc code hb hl
  all_goals ((try refine zR3 ?_) <;> (repeat' (with_reducible first | refine And.intro ?_ ?_ | intro _)))
  rename_i v0
  refine c_isRow (v := v0) (.own (.head _)) fun hs0 _ => ?_
  refine c_while (ι := {x : Value × List (Nat × Nat) × Seed code.length // IsSl x.1 ∧ x.2.1.length ≤ n}) (κ := {x : Value × List (Nat × Nat) × Seed code.length // IsSl x.1 ∧ x.2.1.length = n})
    (fun x => [(1, .int .i64 ((n : Int) - (x.1.2.1.length : Int))), (5, x.1.1), (0, pt b)]) (fun x => [oRow x.1.1 x.1.2.1, oSrc b vc x.1.2.2]) (fun _ => [fCode vc code]) (fun x => n - x.1.2.1.length)
    (fun x => [(5, x.1.1)]) (fun x => [oRow x.1.1 x.1.2.1, oSrc b vc x.1.2.2]) (fun _ => []) ⟨(v0, [], s), hs0, Nat.zero_le _⟩ (fun _ _ s => s.startT (by dsimp only [List.length_nil]; exact zSub) zTake zFsub) ?_ ?_
  · rintro ⟨⟨v, l, s⟩, hs, hk⟩
    dsimp only at hs hk ⊢
    all_goals (((try refine zR3 ?_) <;> (repeat' (with_reducible first | refine And.intro ?_ ?_ | intro _))) <;> (repeat' ((first | ((with_reducible apply l_callM); exact rfl; exact rfl; exact zEvs; exact rfl; (apply hN); (case hL => exact zTake); (case hF => exact zFsub); (try any_goals (refine propId ?_; omega)); (with_reducible intro _)) | ((with_reducible apply l_callM); exact rfl; exact rfl; exact zEvs; exact rfl; (apply hD); (case hL => exact zTake); (case hF => exact zFsub); (try any_goals (refine propId ?_; omega)); (with_reducible intro _))) <;> ((try refine zR3 ?_) <;> (repeat' (with_reducible first | refine And.intro ?_ ?_ | intro _))))))
    · rename_i i
      obtain ⟨⟨x, hx0, hx1, hx2⟩, s1⟩ := i
      dsimp only
      have hx3 := hx2 (by omega)
      obtain ⟨k, hk⟩ : ∃ k : Nat, x = (k : Int) := ⟨x.toNat, by omega⟩
      subst hk
      obtain ⟨y, hy⟩ : ∃ y, l[k]? = some y := ⟨_, List.getElem?_eq_getElem (by omega)⟩
      all_goals ((try refine zR3 ?_) <;> (repeat' (with_reducible first | refine And.intro ?_ ?_ | intro _)))
      rename_i v2
      refine ends_isRowQ (v := v2) zHas fun hs2 => ?_
      exact e_againT (Lr := []) ⟨(v2, l ++ [y], s1), hs2, by dsimp only; rw [len_app]; omega⟩ (by dsimp only; rw [len_app]; omega) (by dsimp only; rw [len_app]; exact zSub) (by dsimp only; rw [oRow_app]; exact zTake) zFsub
    · rename_i i _ v2
      refine ends_isRowQ (v := v2) zHas fun hs2 => ?_
      exact e_againT (Lr := []) ⟨(v2, l ++ [i.1], i.2), hs2, by dsimp only; rw [len_app]; omega⟩ (by dsimp only; rw [len_app]; omega) (by dsimp only; rw [len_app]; exact zSub) (by dsimp only; rw [oRow_app]; exact zTake) zFsub
    · rename_i i _ v2
      refine ends_isRowQ (v := v2) zHas fun hs2 => ?_
      exact e_againT (Lr := []) ⟨(v2, l ++ [i.1], i.2), hs2, by dsimp only; rw [len_app]; omega⟩ (by dsimp only; rw [len_app]; omega) (by dsimp only; rw [len_app]; exact zSub) (by dsimp only; rw [oRow_app]; exact zTake) zFsub
    · exact e_outT (Lr := []) ⟨(v, l, s), hs, by dsimp only; omega⟩ zSub zTake zFsub
  · rintro ⟨⟨v, l, s⟩, hs, hk⟩
    dsimp only at hs hk ⊢
    all_goals ((try refine zR3 ?_) <;> (repeat' (with_reducible first | refine And.intro ?_ ?_ | intro _)))
    exact e_pm (⟨(v, l), hs, hk⟩, s) rfl zRes zTake rfl
end Go.Proofs.Ytbclejclkicgnaa.K
end

section
/- The draws: from roots. -/
namespace Go.Proofs.Ytbclejclkicgnaa.K
open Go Go.RowKit
set_option linter.all false
set_option maxRecDepth 4000
set_option maxHeartbeats 1000000

/-- A list and a word. -/
abbrev DLB (p : List (Nat × Nat) → Bool → Prop) : Type := {u : Value × List (Nat × Nat) × Bool // IsSl u.1 ∧ p u.2.1 u.2.2}
abbrev PLB (p : List (Nat × Nat) → Bool → Prop) : Value → List Own → List Fact → Prop := PM (fun u : DLB p => .tuple #[u.1.1, .bool u.1.2.2]) fun u => [oRow u.1.1 u.1.2.1]
theorem l04OfRoots_spec (vl : Value) (l : List (Nat × Nat)) (hl : l.length ≤ 12) : Spec Try.prog 47 [vl] [] [fList 1 rCx vl l] (PLB (fun o ok => o.length ≤ 13 ∧ (ok = true → o.length = l.length + 1))) := by
  refine enter Try.func47 Try.ntmps47 rfl (by kernel_rfl) zCon rfl fun G => ?_
  refine c_isList (v := vl) zMem fun hsl => ?_
  refine c_lenList (v := vl) zMem fun hll => ?_
  have hf := fun a b => l01Finite_spec a b
  all_goals ((try refine zR3 ?_) <;> (repeat' (with_reducible first | refine And.intro ?_ ?_ | intro _)))
  rename_i v0
  refine c_isRow (v := v0) zHas fun hs0 _ => ?_
  refine c_while (ι := {x : Nat × Value × List (Nat × Nat) // x.1 ≤ l.length ∧ IsSl x.2.1 ∧ x.2.2.length = x.1 + 1}) (κ := {x : Value × List (Nat × Nat) // IsSl x.1 ∧ x.2.length = l.length + 1})
    (fun x => [(5, .int .i64 (x.1.1 : Int)), (4, x.1.2.1), (0, vl)]) (fun x => [oRow x.1.2.1 x.1.2.2]) (fun _ => [fList 1 rCx vl l]) (fun x => l.length - x.1.1)
    (fun x => [(4, x.1.1)]) (fun x => [oRow x.1.1 x.1.2]) (fun _ => []) ⟨(0, v0, [(4607182418800017408, 0)]), Nat.zero_le _, hs0, rfl⟩ (fun _ _ s => s.start zSub zRfl zFsub) ?_ ?_
  · rintro ⟨⟨k, v4, o⟩, hk, hs4, ho⟩
    dsimp only at hk hs4 ho ⊢
    by_cases hlt : k < l.length
    · obtain ⟨r, hr⟩ : ∃ r, l[k]? = some r := ⟨_, List.getElem?_eq_getElem hlt⟩
      all_goals ((try refine zR3 ?_) <;> (repeat' (with_reducible first | refine And.intro ?_ ?_ | intro _)))
      all_goals (first | (exfalso; omega) | skip)
      rename_i v6
      refine c_isRow (v := v6) zHas fun hs6 _ => ?_
      refine c_frzCx (v := v4) (l := o) zEra rfl ?_
      refine c_while (ι := {x : Value × List (Nat × Nat) // IsSl x.1 ∧ x.2.length ≤ o.length + 1}) (κ := {x : Value × List (Nat × Nat) // IsSl x.1 ∧ x.2.length = o.length + 1})
        (fun x => [(7, .int .i64 (x.1.2.length : Int)), (6, x.1.1), (4, v4), (5, .int .i64 (k : Int)), (0, vl)]) (fun x => [oRow x.1.1 x.1.2]) (fun _ => [fList 1 rCx v4 o, fList 1 rCx vl l]) (fun x => o.length + 1 - x.1.2.length)
        (fun x => [(6, x.1.1), (5, .int .i64 (k : Int)), (0, vl)]) (fun x => [oRow x.1.1 x.1.2]) (fun _ => [fList 1 rCx vl l]) ⟨(v6, []), hs6, Nat.zero_le _⟩ (fun _ _ s => s.start zSub zRfl zFsub) ?_ ?_
      · rintro ⟨⟨v6, q⟩, hs6, hq⟩
        dsimp only at hs6 hq ⊢
        by_cases hql : q.length ≤ o.length
        · obtain ⟨y, hy⟩ : ∃ y, o[q.length - 1]? = some y := ⟨_, List.getElem?_eq_getElem (by omega)⟩
          all_goals ((try refine zR3 ?_) <;> (repeat' (with_reducible first | refine And.intro ?_ ?_ | intro _)))
          all_goals (first | (exfalso; omega) | skip)
          · skip
            refine c_draw ([11], []) [] [1, 2, 3, 4, 5, 6, 7, 8, 0, 9, 10, 11] (by kernel_rfl) (by kernel_rfl) ?_
            all_goals (((try refine zD3 ?_) <;> (repeat' (with_reducible first | refine And.intro ?_ ?_ | intro _))) <;> (repeat' ((first | ((with_reducible apply l_callM); exact rfl; exact rfl; exact zEvs; exact rfl; (apply l01Times_spec); (case hL => exact zTake); (case hF => exact zFsub); (try any_goals (refine propId ?_; omega)); (with_reducible intro _))) <;> ((try refine zD3 ?_) <;> (repeat' (with_reducible first | refine And.intro ?_ ?_ | intro _))))))
            all_goals (((try refine zR3 ?_) <;> (repeat' (with_reducible first | refine And.intro ?_ ?_ | intro _))) <;> (repeat' ((first | ((with_reducible apply l_callP); exact rfl; exact zEvs; exact rfl; (with_reducible apply hf); (case hF => exact zFsub); (try any_goals (refine propId ?_; omega)))) <;> ((try refine zR3 ?_) <;> (repeat' (with_reducible first | refine And.intro ?_ ?_ | intro _))))))
            · refine ends_nilRow (e := 47) 1 ?_
              exact e_pm ⟨(.slice none 0 0, [], false), ⟨_, _, _, rfl⟩, by simp, fun h => by cases h⟩ rfl zRes zTake rfl
            · rename_i t hf1 _ v2
              refine ends_isRowQ (v := v2) zHas fun hs2 => ?_
              exact e_againT (Lr := []) ⟨(v2, q ++ [t.1]), hs2, by dsimp only; rw [len_app]; omega⟩ (by dsimp only; rw [len_app]; omega) (by dsimp only; rw [len_app]; exact zSub) (by dsimp only; rw [oRow_app]; exact zTake) zFsub
          · skip
            all_goals (((try refine zR3 ?_) <;> (repeat' (with_reducible first | refine And.intro ?_ ?_ | intro _))) <;> (repeat' ((first | ((with_reducible apply l_callP); exact rfl; exact zEvs; exact rfl; (with_reducible apply hf); (case hF => exact zFsub); (try any_goals (refine propId ?_; omega)))) <;> ((try refine zR3 ?_) <;> (repeat' (with_reducible first | refine And.intro ?_ ?_ | intro _))))))
            · refine ends_nilRow (e := 47) 1 ?_
              exact e_pm ⟨(.slice none 0 0, [], false), ⟨_, _, _, rfl⟩, by simp, fun h => by cases h⟩ rfl zRes zTake rfl
            · rename_i hf1 _ v2
              refine ends_isRowQ (v := v2) zHas fun hs2 => ?_
              exact e_againT (Lr := []) ⟨(v2, q ++ [y]), hs2, by dsimp only; rw [len_app]; omega⟩ (by dsimp only; rw [len_app]; omega) (by dsimp only; rw [len_app]; exact zSub) (by dsimp only; rw [oRow_app]; exact zTake) zFsub
          · skip
            refine c_draw ([11], []) [] [1, 2, 3, 4, 5, 6, 7, 8, 0, 9, 10, 11] (by kernel_rfl) (by kernel_rfl) ?_
            all_goals (((try refine zD3 ?_) <;> (repeat' (with_reducible first | refine And.intro ?_ ?_ | intro _))) <;> (repeat' ((first | ((with_reducible apply l_callM); exact rfl; exact rfl; exact zEvs; exact rfl; (apply l01Times_spec); (case hL => exact zTake); (case hF => exact zFsub); (try any_goals (refine propId ?_; omega)); (with_reducible intro _))) <;> ((try refine zD3 ?_) <;> (repeat' (with_reducible first | refine And.intro ?_ ?_ | intro _))))))
            all_goals (((try refine zR3 ?_) <;> (repeat' (with_reducible first | refine And.intro ?_ ?_ | intro _))) <;> (repeat' ((first | ((with_reducible apply l_callP); exact rfl; exact zEvs; exact rfl; (with_reducible apply hf); (case hF => exact zFsub); (try any_goals (refine propId ?_; omega)))) <;> ((try refine zR3 ?_) <;> (repeat' (with_reducible first | refine And.intro ?_ ?_ | intro _))))))
            · refine ends_nilRow (e := 47) 1 ?_
              exact e_pm ⟨(.slice none 0 0, [], false), ⟨_, _, _, rfl⟩, by simp, fun h => by cases h⟩ rfl zRes zTake rfl
            · rename_i t hf1 _ v2
              refine ends_isRowQ (v := v2) zHas fun hs2 => ?_
              exact e_againT (Lr := []) ⟨(v2, q ++ [t.1]), hs2, by dsimp only; rw [len_app]; omega⟩ (by dsimp only; rw [len_app]; omega) (by dsimp only; rw [len_app]; exact zSub) (by dsimp only; rw [oRow_app]; exact zTake) zFsub
        · all_goals ((try refine zR3 ?_) <;> (repeat' (with_reducible first | refine And.intro ?_ ?_ | intro _)))
          all_goals (first | (exfalso; omega) | skip)
          exact e_out ⟨(v6, q), hs6, by dsimp only; omega⟩ zSub rfl zFsub
      · rintro ⟨⟨v6, q⟩, hs6, hq⟩
        dsimp only at hs6 hq ⊢
        all_goals ((try refine zR3 ?_) <;> (repeat' (with_reducible first | refine And.intro ?_ ?_ | intro _)))
        exact e_again ⟨(k + 1, v6, q), by omega, hs6, by dsimp only; omega⟩ (by dsimp only; omega) zSub rfl zFsub
    · all_goals ((try refine zR3 ?_) <;> (repeat' (with_reducible first | refine And.intro ?_ ?_ | intro _)))
      all_goals (first | (exfalso; omega) | skip)
      exact e_out ⟨(v4, o), hs4, by dsimp only; omega⟩ zSub rfl (fun _ h => by cases h)
  · rintro ⟨⟨v4, o⟩, hs4, ho⟩
    dsimp only at hs4 ho ⊢
    all_goals ((try refine zR3 ?_) <;> (repeat' (with_reducible first | refine And.intro ?_ ?_ | intro _)))
    exact e_pm ⟨(v4, o, true), hs4, by dsimp only; omega, fun _ => ho⟩ rfl zRes zTake rfl
end Go.Proofs.Ytbclejclkicgnaa.K
end
