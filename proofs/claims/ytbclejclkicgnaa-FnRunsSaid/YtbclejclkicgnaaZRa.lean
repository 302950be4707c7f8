/- The draws: polynomials. -/
import Derived.Test.YtbclejclkicgnaaZQz
namespace Go.Proofs.Ytbclejclkicgnaa.K
open Go Go.RowKit
set_option linter.all false
set_option maxRecDepth 4000
set_option maxHeartbeats 1000000

def InP (z : Int) : Prop := 0 ≤ z ∧ z ≤ 11
theorem nextP {n : Int} (i : NextR n) (h : 1 ≤ n ∧ n ≤ 12) : InP i.1 := ⟨i.2.1, by have := i.2.2.2 h.1; omega⟩
theorem l04Draw_spec (b : Nat) (vc : Value) (code : List Int) (hb : Bytes code) (hl : code.length ≤ 100000) (s : Seed code.length) : Spec Try.prog 25 [pt b] [oSrc b vc s] [fCode vc code] (PDL b vc code.length (fun l => 2 ≤ l.length ∧ l.length ≤ 13)) := by
  refine enter Try.func25 Try.ntmps25 rfl (by kernel_rfl) zCon rfl fun G => ?_
  have hN := l01Next_spec b vc code hb hl
  have hD := l01Draw_spec b vc code hb hl
  have hM := l04Number_spec b vc code hb hl
  all_goals (((try refine zR3 ?_) <;> (repeat' (with_reducible first | refine And.intro ?_ ?_ | intro _))) <;> (repeat' ((first | ((with_reducible apply l_callM); exact rfl; exact rfl; exact zEvs; exact rfl; (apply hN); (case hL => exact zTake); (case hF => exact zFsub); (try any_goals (refine propId ?_; omega)); (with_reducible intro _)) | (refine l_pickI InP b vc code hb hl rfl rfl zEvs rfl rfl rfl (by repeat (first | exact PL.nil | refine PL.cons (nextP _ (by decide)) ?_)) rfl rfl (fun _ => rfl) (fun _ => rfl) (fun _ => zEvs) rfl zTake zMem fun _ _ => ?_)) <;> ((try refine zR3 ?_) <;> (repeat' (with_reducible first | refine And.intro ?_ ?_ | intro _))))))
  · rename_i pk nx _
    obtain ⟨n, hn1, hn2, hn⟩ : ∃ n : Nat, 1 ≤ n ∧ n ≤ 12 ∧ IntKind.i64.wrap (1 + pk.1.1) = (n : Int) := ⟨(1 + pk.1.1).toNat, by have := pk.1.2.1; have := pk.1.2.2; omega, by have := pk.1.2.1; have := pk.1.2.2; omega, by have := pk.1.2.1; have := pk.1.2.2; rw [IntKind.wrap_i64]; omega⟩
    rw [hn]
    clear hn
    refine l_callM rfl rfl zEvs rfl (l04Roots_spec b vc code hb hl _ n (by omega)) zTake zFsub fun u => ?_
    obtain ⟨⟨⟨vr, lr⟩, hsr, hlr⟩, s2⟩ := u
    dsimp only at hsr hlr ⊢
    refine l_frzCx (v := vr) (l := lr) zEra rfl ?_
    refine l_callM rfl rfl zEvs rfl (l04OfRoots_spec vr lr (by omega)) zTake zFsub fun w => ?_
    obtain ⟨⟨vo, o, ok⟩, hso, ho, hok⟩ := w
    dsimp only at hso ho hok ⊢
    all_goals ((try refine zR3 ?_) <;> (repeat' (with_reducible first | refine And.intro ?_ ?_ | intro _)))
    · have h0 : ok = true := by assumption
      exact e_pm (⟨(vo, o), hso, by dsimp only; have := hok h0; omega⟩, s2) rfl zRes zTake rfl
    · rename_i v0
      refine c_isRow (v := v0) zHas fun hs0 _ => ?_
      refine c_while (ι := {x : Value × List (Nat × Nat) × Seed code.length // IsSl x.1 ∧ x.2.1.length ≤ n + 1}) (κ := {x : Value × List (Nat × Nat) × Seed code.length // IsSl x.1 ∧ x.2.1.length = n + 1})
        (fun x => [(7, .int .i64 (x.1.2.1.length : Int)), (6, x.1.1), (3, .int .i64 (n : Int)), (0, pt b)]) (fun x => [oRow x.1.1 x.1.2.1, oSrc b vc x.1.2.2]) (fun _ => [fCode vc code]) (fun x => n + 1 - x.1.2.1.length)
        (fun x => [(6, x.1.1), (3, .int .i64 (n : Int))]) (fun x => [oRow x.1.1 x.1.2.1, oSrc b vc x.1.2.2]) (fun _ => []) ⟨(v0, [], _), hs0, Nat.zero_le _⟩ (fun _ _ s => s.startT zSub zTake zFsub) ?_ ?_
      · rintro ⟨⟨v, l, s⟩, hs, hk⟩
        dsimp only at hs hk ⊢
        all_goals (((try refine zR3 ?_) <;> (repeat' (with_reducible first | refine And.intro ?_ ?_ | intro _))) <;> (repeat' ((first | ((with_reducible apply l_callM); exact rfl; exact rfl; exact zEvs; exact rfl; (apply hN); (case hL => exact zTake); (case hF => exact zFsub); (try any_goals (refine propId ?_; omega)); (with_reducible intro _)) | ((with_reducible apply l_callM); exact rfl; exact rfl; exact zEvs; exact rfl; (apply hD); (case hL => exact zTake); (case hF => exact zFsub); (try any_goals (refine propId ?_; omega)); (with_reducible intro _)) | ((with_reducible apply l_callM); exact rfl; exact rfl; exact zEvs; exact rfl; (apply hM); (case hL => exact zTake); (case hF => exact zFsub); (try any_goals (refine propId ?_; omega)); (with_reducible intro _))) <;> ((try refine zR3 ?_) <;> (repeat' (with_reducible first | refine And.intro ?_ ?_ | intro _))))))
        · rename_i i _ v2
          refine ends_isRowQ (v := v2) zHas fun hs2 => ?_
          exact e_againT (Lr := []) ⟨(v2, l ++ [i.1], i.2), hs2, by dsimp only; rw [len_app]; omega⟩ (by dsimp only; rw [len_app]; omega) (by dsimp only; rw [len_app]; exact zSub) (by dsimp only; rw [oRow_app]; exact zTake) zFsub
        · rename_i i _ v2
          refine ends_isRowQ (v := v2) zHas fun hs2 => ?_
          exact e_againT (Lr := []) ⟨(v2, l ++ [i.1], i.2), hs2, by dsimp only; rw [len_app]; omega⟩ (by dsimp only; rw [len_app]; omega) (by dsimp only; rw [len_app]; exact zSub) (by dsimp only; rw [oRow_app]; exact zTake) zFsub
        · exact e_outT (Lr := []) ⟨(v, l, s), hs, by dsimp only; omega⟩ zSub zTake (fun _ h => by cases h)
      · rintro ⟨⟨v, l, s⟩, hs, hk⟩
        dsimp only at hs hk ⊢
        obtain ⟨y, hy⟩ : ∃ y, l[n]? = some y := ⟨_, List.getElem?_eq_getElem (by omega)⟩
        all_goals ((try refine zR3 ?_) <;> (repeat' (with_reducible first | refine And.intro ?_ ?_ | intro _)))
        · refine l_storeMap (b := (4607182418800017408, 0)) rfl rfl zUpd rfl zCells rfl (by omega) ?_
          all_goals ((try refine zR3 ?_) <;> (repeat' (with_reducible first | refine And.intro ?_ ?_ | intro _)))
          exact e_pm (⟨(v, l.set n (4607182418800017408, 0)), hs, by dsimp only; rw [List.length_set]; omega⟩, s) rfl zRes (by dsimp only; unfold oRow; rw [List.length_set]; exact zTake) rfl
        · exact e_pm (⟨(v, l), hs, by dsimp only; omega⟩, s) rfl zRes zTake rfl
  · rename_i pk nx _ v0
    obtain ⟨n, hn1, hn2, hn⟩ : ∃ n : Nat, 1 ≤ n ∧ n ≤ 12 ∧ IntKind.i64.wrap (1 + pk.1.1) = (n : Int) := ⟨(1 + pk.1.1).toNat, by have := pk.1.2.1; have := pk.1.2.2; omega, by have := pk.1.2.1; have := pk.1.2.2; omega, by have := pk.1.2.1; have := pk.1.2.2; rw [IntKind.wrap_i64]; omega⟩
    rw [hn]
    clear hn
    refine c_isRow (v := v0) zHas fun hs0 _ => ?_
    refine c_while (ι := {x : Value × List (Nat × Nat) × Seed code.length // IsSl x.1 ∧ x.2.1.length ≤ n + 1}) (κ := {x : Value × List (Nat × Nat) × Seed code.length // IsSl x.1 ∧ x.2.1.length = n + 1})
      (fun x => [(7, .int .i64 (x.1.2.1.length : Int)), (6, x.1.1), (3, .int .i64 (n : Int)), (0, pt b)]) (fun x => [oRow x.1.1 x.1.2.1, oSrc b vc x.1.2.2]) (fun _ => [fCode vc code]) (fun x => n + 1 - x.1.2.1.length)
      (fun x => [(6, x.1.1), (3, .int .i64 (n : Int))]) (fun x => [oRow x.1.1 x.1.2.1, oSrc b vc x.1.2.2]) (fun _ => []) ⟨(v0, [], _), hs0, Nat.zero_le _⟩ (fun _ _ s => s.startT zSub zTake zFsub) ?_ ?_
    · rintro ⟨⟨v, l, s⟩, hs, hk⟩
      dsimp only at hs hk ⊢
      all_goals (((try refine zR3 ?_) <;> (repeat' (with_reducible first | refine And.intro ?_ ?_ | intro _))) <;> (repeat' ((first | ((with_reducible apply l_callM); exact rfl; exact rfl; exact zEvs; exact rfl; (apply hN); (case hL => exact zTake); (case hF => exact zFsub); (try any_goals (refine propId ?_; omega)); (with_reducible intro _)) | ((with_reducible apply l_callM); exact rfl; exact rfl; exact zEvs; exact rfl; (apply hD); (case hL => exact zTake); (case hF => exact zFsub); (try any_goals (refine propId ?_; omega)); (with_reducible intro _)) | ((with_reducible apply l_callM); exact rfl; exact rfl; exact zEvs; exact rfl; (apply hM); (case hL => exact zTake); (case hF => exact zFsub); (try any_goals (refine propId ?_; omega)); (with_reducible intro _))) <;> ((try refine zR3 ?_) <;> (repeat' (with_reducible first | refine And.intro ?_ ?_ | intro _))))))
      · rename_i i _ v2
        refine ends_isRowQ (v := v2) zHas fun hs2 => ?_
        exact e_againT (Lr := []) ⟨(v2, l ++ [i.1], i.2), hs2, by dsimp only; rw [len_app]; omega⟩ (by dsimp only; rw [len_app]; omega) (by dsimp only; rw [len_app]; exact zSub) (by dsimp only; rw [oRow_app]; exact zTake) zFsub
      · rename_i i _ v2
        refine ends_isRowQ (v := v2) zHas fun hs2 => ?_
        exact e_againT (Lr := []) ⟨(v2, l ++ [i.1], i.2), hs2, by dsimp only; rw [len_app]; omega⟩ (by dsimp only; rw [len_app]; omega) (by dsimp only; rw [len_app]; exact zSub) (by dsimp only; rw [oRow_app]; exact zTake) zFsub
      · exact e_outT (Lr := []) ⟨(v, l, s), hs, by dsimp only; omega⟩ zSub zTake (fun _ h => by cases h)
    · rintro ⟨⟨v, l, s⟩, hs, hk⟩
      dsimp only at hs hk ⊢
      obtain ⟨y, hy⟩ : ∃ y, l[n]? = some y := ⟨_, List.getElem?_eq_getElem (by omega)⟩
      all_goals ((try refine zR3 ?_) <;> (repeat' (with_reducible first | refine And.intro ?_ ?_ | intro _)))
      · refine l_storeMap (b := (4607182418800017408, 0)) rfl rfl zUpd rfl zCells rfl (by omega) ?_
        all_goals ((try refine zR3 ?_) <;> (repeat' (with_reducible first | refine And.intro ?_ ?_ | intro _)))
        exact e_pm (⟨(v, l.set n (4607182418800017408, 0)), hs, by dsimp only; rw [List.length_set]; omega⟩, s) rfl zRes (by dsimp only; unfold oRow; rw [List.length_set]; exact zTake) rfl
      · exact e_pm (⟨(v, l), hs, by dsimp only; omega⟩, s) rfl zRes zTake rfl
end Go.Proofs.Ytbclejclkicgnaa.K
