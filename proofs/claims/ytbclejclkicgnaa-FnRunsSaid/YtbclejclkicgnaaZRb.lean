/- The draws: a run's numbers. -/
import Derived.Test.YtbclejclkicgnaaZRa
namespace Go.Proofs.Ytbclejclkicgnaa.K
open Go Go.RowKit
set_option linter.all false
set_option maxRecDepth 4000
set_option maxHeartbeats 1000000

/-- A post whose value is not told whole; facts are handed back. -/
def PMF {ι : Type} (fv : ι → Value) (L1 : ι → List Own) (F1 : ι → List Fact) (v : Value) (L' : List Own) (F' : List Fact) : Prop := ∃ i, v = fv i ∧ L' = L1 i ∧ F' = F1 i
section
variable {G : Ctx} {n : Nat} {P : Program} {ops : Array Oper} {Q : Post} {rest : List Oper} {m : Regs} {L L' : List Own} {F : List Fact} {d : Nat} {ty : TypeId} {pos : String} {af : Array Edge} {g : Option (Nat × Bool)} {v : Value}
theorem l_callMF {f : FuncId} {x : Operand} {xs : List Operand} {vs : List Value} {ts : Array TypeId} {Lc Lr : List Own} {Fc : List Fact} {ι : Type} {fv : ι → Value} {L1 : ι → List Own} {F1 : ι → List Fact}
    (hw : wantG ops m g = some true) (hx : ev m x = some (.func (.func f) #[] #[])) (hv : Evs m xs vs) (hd : Nat.blt d n = true) (hs : Spec P f vs Lc Fc (PMF fv L1 F1)) (hL : Take L Lc Lr) (hF : ∀ φ, φ ∈ Fc → φ ∈ F)
    (h : ∀ i : ι, RunL G n P ops Q rest ((d, fv i) :: m) (L1 i ++ Lr) (F1 i ++ F)) : RunL G n P ops Q (⟨some d, .call ⟨.value x, xs.toArray, ts⟩, ty, pos, af, g⟩ :: rest) m L F :=
  l_callF (first := []) (cap := []) (post := PMF fv L1 F1) hw hx hv hd (by simpa using hs) hL hF fun v L' F' ⟨i, h1, h2, h3⟩ => by subst h1; subst h2; subst h3; exact h i
theorem e_pmF {fn : Func} {rs : List ResultVar} {vs : List Value} {ι : Type} {fv : ι → Value} {L1 : ι → List Own} {F1 : ι → List Fact} (i : ι) (hr : fn.results = rs.toArray) (hv : Res P m L rs vs) (hL : Take L (L1 i) L') (hF : ∀ φ, φ ∈ F1 i → φ ∈ F) (he : retVal vs = fv i) :
    Ends G n (bodyPost P fn (Fin G (PMF fv L1 F1))) .ret m L F := e_resT (post := PMF fv L1 F1) hr hv hL (Fo := F1 i) hF ⟨i, he, rfl, rfl⟩
theorem ends_frzCx {ex : Exit} {E : TypeId} {N : Nat} {l : List (Nat × Nat)} {xs : List Value} (he : Era L (.row v E 1 N xs) L') (hx : xs = l.map cx) (h : Ends G n Q ex m L' (fList 1 rCx v l :: F)) : Ends G n Q ex m L F := fun a w st => h a w (st.frzCx he hx)
end
abbrev VL : Type := Value × List (Nat × Nat)
abbrev fCx (u : VL) : Fact := fList 1 rCx u.1 u.2
theorem l07Draw_spec (b : Nat) (vc : Value) (code : List Int) (hb : Bytes code) (hl : code.length ≤ 100000) (s : Seed code.length) : Spec Try.prog 13 [pt b] [oSrc b vc s] [fCode vc code] (PMF (fun i : (VL × VL) × Seed code.length => .tuple #[i.1.1.1, i.1.2.1]) (fun i => [oSrc b vc i.2]) fun i => [fCx i.1.1, fCx i.1.2]) := by
  refine enter Try.func13 Try.ntmps13 rfl (by kernel_rfl) zCon rfl fun G => ?_
  have hN := l01Next_spec b vc code hb hl
  have hD := l01Draw_spec b vc code hb hl
  have hP := l04Draw_spec b vc code hb hl
  all_goals (((try refine zR3 ?_) <;> (repeat' (with_reducible first | refine And.intro ?_ ?_ | intro _))) <;> (repeat' ((first | ((with_reducible apply l_callM); exact rfl; exact rfl; exact zEvs; exact rfl; (apply hP); (case hL => exact zTake); (case hF => exact zFsub); (try any_goals (refine propId ?_; omega)); (with_reducible intro _))) <;> ((try refine zR3 ?_) <;> (repeat' (with_reducible first | refine And.intro ?_ ?_ | intro _))))))
  rename_i u v5
  obtain ⟨⟨⟨vp, p⟩, hsp, hp1, hp2⟩, s1⟩ := u
  dsimp only at hsp hp1 hp2 ⊢
  refine l_frzCx (v := vp) (l := p) zEra rfl ?_
  have hI := l04Is_spec vp p
  all_goals (((try refine zR3 ?_) <;> (repeat' (with_reducible first | refine And.intro ?_ ?_ | intro _))) <;> (repeat' ((first | ((with_reducible apply l_callP); exact rfl; exact zEvs; exact rfl; (with_reducible apply hI); (case hF => exact zFsub); (try any_goals (refine propId ?_; omega)))) <;> ((try refine zR3 ?_) <;> (repeat' (with_reducible first | refine And.intro ?_ ?_ | intro _))))))
  · refine l_callM rfl rfl zEvs rfl (l06Start_spec vp p hp1 hp2) zTake zFsub fun w => ?_
    obtain ⟨⟨vo, o, ok⟩, hso, ho⟩ := w
    dsimp only at hso ho ⊢
    all_goals (((try refine zR3 ?_) <;> (repeat' (with_reducible first | refine And.intro ?_ ?_ | intro _))) <;> (repeat' ((first | ((with_reducible apply l_callM); exact rfl; exact rfl; exact zEvs; exact rfl; (apply hN); (case hL => exact zTake); (case hF => exact zFsub); (try any_goals (refine propId ?_; omega)); (with_reducible intro _))) <;> ((try refine zR3 ?_) <;> (repeat' (with_reducible first | refine And.intro ?_ ?_ | intro _))))))
    · skip
      refine c_isRow (v := vo) zHas fun hs0 _ => ?_
      refine c_while (ι := {x : Value × List (Nat × Nat) × Seed code.length // IsSl x.1 ∧ x.2.1.length ≤ 12}) (κ := {x : Value × List (Nat × Nat) × Seed code.length // IsSl x.1 ∧ x.2.1.length ≤ 12})
        (fun x => [(5, x.1.1), (4, vp), (0, pt b)]) (fun x => [oRow x.1.1 x.1.2.1, oSrc b vc x.1.2.2]) (fun _ => [fList 1 rCx vp p, fCode vc code]) (fun x => p.length - x.1.2.1.length)
        (fun x => [(5, x.1.1), (4, vp), (0, pt b)]) (fun x => [oRow x.1.1 x.1.2.1, oSrc b vc x.1.2.2]) (fun _ => [fList 1 rCx vp p, fCode vc code]) ⟨(vo, o, _), hs0, by dsimp only [List.length_nil]; omega⟩ (fun _ _ s => s.startT zSub zTake zFsub) ?_ ?_
      · rintro ⟨⟨v, l, s⟩, hs, hk⟩
        dsimp only at hs hk ⊢
        all_goals (((try refine zR3 ?_) <;> (repeat' (with_reducible first | refine And.intro ?_ ?_ | intro _))) <;> (repeat' ((first | ((with_reducible apply l_callM); exact rfl; exact rfl; exact zEvs; exact rfl; (apply hD); (case hL => exact zTake); (case hF => exact zFsub); (try any_goals (refine propId ?_; omega)); (with_reducible intro _))) <;> ((try refine zR3 ?_) <;> (repeat' (with_reducible first | refine And.intro ?_ ?_ | intro _))))))
        · rename_i i _ v2
          refine ends_isRowQ (v := v2) zHas fun hs2 => ?_
          exact e_againT (Lr := []) ⟨(v2, l ++ [i.1], i.2), hs2, by dsimp only; rw [len_app]; omega⟩ (by dsimp only; rw [len_app]; omega) zSub (by dsimp only; rw [oRow_app]; exact zTake) zFsub
        · exact e_outT (Lr := []) ⟨(v, l, s), hs, hk⟩ zSub zTake zFsub
      · rintro ⟨⟨v, l, s⟩, hs, hk⟩
        dsimp only at hs hk ⊢
        all_goals ((try refine zR3 ?_) <;> (repeat' (with_reducible first | refine And.intro ?_ ?_ | intro _)))
        · refine l_callM rfl rfl zEvs rfl (hN _ (l.length : Int) (by omega)) zTake zFsub fun i => ?_
          obtain ⟨⟨x, hx0, hx1, hx2⟩, s1⟩ := i
          dsimp only
          have hx3 := hx2 (by omega)
          obtain ⟨k1, hk1⟩ : ∃ k : Nat, x = (k : Int) := ⟨x.toNat, by omega⟩
          subst hk1
          all_goals ((try refine zR3 ?_) <;> (repeat' (with_reducible first | refine And.intro ?_ ?_ | intro _)))
          refine l_callM rfl rfl zEvs rfl (hN _ (l.length : Int) (by omega)) zTake zFsub fun i => ?_
          obtain ⟨⟨x, hy0, hy1, hy2⟩, s2⟩ := i
          dsimp only
          have hy3 := hy2 (by omega)
          obtain ⟨k2, hk2⟩ : ∃ k : Nat, x = (k : Int) := ⟨x.toNat, by omega⟩
          subst hk2
          obtain ⟨y, hy⟩ : ∃ y, l[k2]? = some y := ⟨_, List.getElem?_eq_getElem (by omega)⟩
          all_goals (((try refine zR3 ?_) <;> (repeat' (with_reducible first | refine And.intro ?_ ?_ | intro _))) <;> (repeat' ((first | ((with_reducible apply l_callM); exact rfl; exact rfl; exact zEvs; exact rfl; (apply hN); (case hL => exact zTake); (case hF => exact zFsub); (try any_goals (refine propId ?_; omega)); (with_reducible intro _)) | ((with_reducible apply l_callM); exact rfl; exact rfl; exact zEvs; exact rfl; (apply hD); (case hL => exact zTake); (case hF => exact zFsub); (try any_goals (refine propId ?_; omega)); (with_reducible intro _))) <;> ((try refine zR3 ?_) <;> (repeat' (with_reducible first | refine And.intro ?_ ?_ | intro _))))))
          all_goals (first | (exfalso; omega) | skip)
          · refine ends_frzCx (v := v) zEra rfl ?_
            exact e_pmF (((vp, p), (v, _)), _) rfl zRes zTake zFsub rfl
          · refine ends_frzCx (v := v) zEra rfl ?_
            exact e_pmF (((vp, p), (v, _)), _) rfl zRes zTake zFsub rfl
          · refine l_frzCx (v := v) (l := l) zEra rfl ?_
            all_goals ((try refine zR3 ?_) <;> (repeat' (with_reducible first | refine And.intro ?_ ?_ | intro _)))
            rename_i v2
            exact e_pmF (((vp, p), (v2, l.drop 1)), _) rfl zRes zTake zFsub rfl
          · refine l_storeMap (b := (0, 0)) rfl rfl zUpd rfl zCells rfl (by omega) ?_
            all_goals ((try refine zR3 ?_) <;> (repeat' (with_reducible first | refine And.intro ?_ ?_ | intro _)))
            refine ends_frzCx (v := v) zEra rfl ?_
            exact e_pmF (((vp, p), (v, _)), _) rfl zRes zTake zFsub rfl
          · refine ends_frzCx (v := v) zEra rfl ?_
            exact e_pmF (((vp, p), (v, _)), _) rfl zRes zTake zFsub rfl
        · refine ends_frzCx (v := v) zEra rfl ?_
          exact e_pmF (((vp, p), (v, _)), _) rfl zRes zTake zFsub rfl
    · skip
      refine c_isRow (v := v5) zHas fun hs0 _ => ?_
      refine c_while (ι := {x : Value × List (Nat × Nat) × Seed code.length // IsSl x.1 ∧ x.2.1.length ≤ 12}) (κ := {x : Value × List (Nat × Nat) × Seed code.length // IsSl x.1 ∧ x.2.1.length ≤ 12})
        (fun x => [(5, x.1.1), (4, vp), (0, pt b)]) (fun x => [oRow x.1.1 x.1.2.1, oSrc b vc x.1.2.2]) (fun _ => [fList 1 rCx vp p, fCode vc code]) (fun x => p.length - x.1.2.1.length)
        (fun x => [(5, x.1.1), (4, vp), (0, pt b)]) (fun x => [oRow x.1.1 x.1.2.1, oSrc b vc x.1.2.2]) (fun _ => [fList 1 rCx vp p, fCode vc code]) ⟨(v5, ([] : List (Nat × Nat)), _), hs0, by dsimp only [List.length_nil]; omega⟩ (fun _ _ s => s.startT zSub zTake zFsub) ?_ ?_
      · rintro ⟨⟨v, l, s⟩, hs, hk⟩
        dsimp only at hs hk ⊢
        all_goals (((try refine zR3 ?_) <;> (repeat' (with_reducible first | refine And.intro ?_ ?_ | intro _))) <;> (repeat' ((first | ((with_reducible apply l_callM); exact rfl; exact rfl; exact zEvs; exact rfl; (apply hD); (case hL => exact zTake); (case hF => exact zFsub); (try any_goals (refine propId ?_; omega)); (with_reducible intro _))) <;> ((try refine zR3 ?_) <;> (repeat' (with_reducible first | refine And.intro ?_ ?_ | intro _))))))
        · rename_i i _ v2
          refine ends_isRowQ (v := v2) zHas fun hs2 => ?_
          exact e_againT (Lr := []) ⟨(v2, l ++ [i.1], i.2), hs2, by dsimp only; rw [len_app]; omega⟩ (by dsimp only; rw [len_app]; omega) zSub (by dsimp only; rw [oRow_app]; exact zTake) zFsub
        · exact e_outT (Lr := []) ⟨(v, l, s), hs, hk⟩ zSub zTake zFsub
      · rintro ⟨⟨v, l, s⟩, hs, hk⟩
        dsimp only at hs hk ⊢
        all_goals ((try refine zR3 ?_) <;> (repeat' (with_reducible first | refine And.intro ?_ ?_ | intro _)))
        · refine l_callM rfl rfl zEvs rfl (hN _ (l.length : Int) (by omega)) zTake zFsub fun i => ?_
          obtain ⟨⟨x, hx0, hx1, hx2⟩, s1⟩ := i
          dsimp only
          have hx3 := hx2 (by omega)
          obtain ⟨k1, hk1⟩ : ∃ k : Nat, x = (k : Int) := ⟨x.toNat, by omega⟩
          subst hk1
          all_goals ((try refine zR3 ?_) <;> (repeat' (with_reducible first | refine And.intro ?_ ?_ | intro _)))
          refine l_callM rfl rfl zEvs rfl (hN _ (l.length : Int) (by omega)) zTake zFsub fun i => ?_
          obtain ⟨⟨x, hy0, hy1, hy2⟩, s2⟩ := i
          dsimp only
          have hy3 := hy2 (by omega)
          obtain ⟨k2, hk2⟩ : ∃ k : Nat, x = (k : Int) := ⟨x.toNat, by omega⟩
          subst hk2
          obtain ⟨y, hy⟩ : ∃ y, l[k2]? = some y := ⟨_, List.getElem?_eq_getElem (by omega)⟩
          all_goals (((try refine zR3 ?_) <;> (repeat' (with_reducible first | refine And.intro ?_ ?_ | intro _))) <;> (repeat' ((first | ((with_reducible apply l_callM); exact rfl; exact rfl; exact zEvs; exact rfl; (apply hN); (case hL => exact zTake); (case hF => exact zFsub); (try any_goals (refine propId ?_; omega)); (with_reducible intro _)) | ((with_reducible apply l_callM); exact rfl; exact rfl; exact zEvs; exact rfl; (apply hD); (case hL => exact zTake); (case hF => exact zFsub); (try any_goals (refine propId ?_; omega)); (with_reducible intro _))) <;> ((try refine zR3 ?_) <;> (repeat' (with_reducible first | refine And.intro ?_ ?_ | intro _))))))
          all_goals (first | (exfalso; omega) | skip)
          · refine ends_frzCx (v := v) zEra rfl ?_
            exact e_pmF (((vp, p), (v, _)), _) rfl zRes zTake zFsub rfl
          · refine ends_frzCx (v := v) zEra rfl ?_
            exact e_pmF (((vp, p), (v, _)), _) rfl zRes zTake zFsub rfl
          · refine l_frzCx (v := v) (l := l) zEra rfl ?_
            all_goals ((try refine zR3 ?_) <;> (repeat' (with_reducible first | refine And.intro ?_ ?_ | intro _)))
            rename_i v2
            exact e_pmF (((vp, p), (v2, l.drop 1)), _) rfl zRes zTake zFsub rfl
          · refine l_storeMap (b := (0, 0)) rfl rfl zUpd rfl zCells rfl (by omega) ?_
            all_goals ((try refine zR3 ?_) <;> (repeat' (with_reducible first | refine And.intro ?_ ?_ | intro _)))
            refine ends_frzCx (v := v) zEra rfl ?_
            exact e_pmF (((vp, p), (v, _)), _) rfl zRes zTake zFsub rfl
          · refine ends_frzCx (v := v) zEra rfl ?_
            exact e_pmF (((vp, p), (v, _)), _) rfl zRes zTake zFsub rfl
        · refine ends_frzCx (v := v) zEra rfl ?_
          exact e_pmF (((vp, p), (v, _)), _) rfl zRes zTake zFsub rfl
    · skip
      refine c_isRow (v := v5) zHas fun hs0 _ => ?_
      refine c_while (ι := {x : Value × List (Nat × Nat) × Seed code.length // IsSl x.1 ∧ x.2.1.length ≤ 12}) (κ := {x : Value × List (Nat × Nat) × Seed code.length // IsSl x.1 ∧ x.2.1.length ≤ 12})
        (fun x => [(5, x.1.1), (4, vp), (0, pt b)]) (fun x => [oRow x.1.1 x.1.2.1, oSrc b vc x.1.2.2]) (fun _ => [fList 1 rCx vp p, fCode vc code]) (fun x => p.length - x.1.2.1.length)
        (fun x => [(5, x.1.1), (4, vp), (0, pt b)]) (fun x => [oRow x.1.1 x.1.2.1, oSrc b vc x.1.2.2]) (fun _ => [fList 1 rCx vp p, fCode vc code]) ⟨(v5, ([] : List (Nat × Nat)), _), hs0, by dsimp only [List.length_nil]; omega⟩ (fun _ _ s => s.startT zSub zTake zFsub) ?_ ?_
      · rintro ⟨⟨v, l, s⟩, hs, hk⟩
        dsimp only at hs hk ⊢
        all_goals (((try refine zR3 ?_) <;> (repeat' (with_reducible first | refine And.intro ?_ ?_ | intro _))) <;> (repeat' ((first | ((with_reducible apply l_callM); exact rfl; exact rfl; exact zEvs; exact rfl; (apply hD); (case hL => exact zTake); (case hF => exact zFsub); (try any_goals (refine propId ?_; omega)); (with_reducible intro _))) <;> ((try refine zR3 ?_) <;> (repeat' (with_reducible first | refine And.intro ?_ ?_ | intro _))))))
        · rename_i i _ v2
          refine ends_isRowQ (v := v2) zHas fun hs2 => ?_
          exact e_againT (Lr := []) ⟨(v2, l ++ [i.1], i.2), hs2, by dsimp only; rw [len_app]; omega⟩ (by dsimp only; rw [len_app]; omega) zSub (by dsimp only; rw [oRow_app]; exact zTake) zFsub
        · exact e_outT (Lr := []) ⟨(v, l, s), hs, hk⟩ zSub zTake zFsub
      · rintro ⟨⟨v, l, s⟩, hs, hk⟩
        dsimp only at hs hk ⊢
        all_goals ((try refine zR3 ?_) <;> (repeat' (with_reducible first | refine And.intro ?_ ?_ | intro _)))
        · refine l_callM rfl rfl zEvs rfl (hN _ (l.length : Int) (by omega)) zTake zFsub fun i => ?_
          obtain ⟨⟨x, hx0, hx1, hx2⟩, s1⟩ := i
          dsimp only
          have hx3 := hx2 (by omega)
          obtain ⟨k1, hk1⟩ : ∃ k : Nat, x = (k : Int) := ⟨x.toNat, by omega⟩
          subst hk1
          all_goals ((try refine zR3 ?_) <;> (repeat' (with_reducible first | refine And.intro ?_ ?_ | intro _)))
          refine l_callM rfl rfl zEvs rfl (hN _ (l.length : Int) (by omega)) zTake zFsub fun i => ?_
          obtain ⟨⟨x, hy0, hy1, hy2⟩, s2⟩ := i
          dsimp only
          have hy3 := hy2 (by omega)
          obtain ⟨k2, hk2⟩ : ∃ k : Nat, x = (k : Int) := ⟨x.toNat, by omega⟩
          subst hk2
          obtain ⟨y, hy⟩ : ∃ y, l[k2]? = some y := ⟨_, List.getElem?_eq_getElem (by omega)⟩
          all_goals (((try refine zR3 ?_) <;> (repeat' (with_reducible first | refine And.intro ?_ ?_ | intro _))) <;> (repeat' ((first | ((with_reducible apply l_callM); exact rfl; exact rfl; exact zEvs; exact rfl; (apply hN); (case hL => exact zTake); (case hF => exact zFsub); (try any_goals (refine propId ?_; omega)); (with_reducible intro _)) | ((with_reducible apply l_callM); exact rfl; exact rfl; exact zEvs; exact rfl; (apply hD); (case hL => exact zTake); (case hF => exact zFsub); (try any_goals (refine propId ?_; omega)); (with_reducible intro _))) <;> ((try refine zR3 ?_) <;> (repeat' (with_reducible first | refine And.intro ?_ ?_ | intro _))))))
          all_goals (first | (exfalso; omega) | skip)
          · refine ends_frzCx (v := v) zEra rfl ?_
            exact e_pmF (((vp, p), (v, _)), _) rfl zRes zTake zFsub rfl
          · refine ends_frzCx (v := v) zEra rfl ?_
            exact e_pmF (((vp, p), (v, _)), _) rfl zRes zTake zFsub rfl
          · refine l_frzCx (v := v) (l := l) zEra rfl ?_
            all_goals ((try refine zR3 ?_) <;> (repeat' (with_reducible first | refine And.intro ?_ ?_ | intro _)))
            rename_i v2
            exact e_pmF (((vp, p), (v2, l.drop 1)), _) rfl zRes zTake zFsub rfl
          · refine l_storeMap (b := (0, 0)) rfl rfl zUpd rfl zCells rfl (by omega) ?_
            all_goals ((try refine zR3 ?_) <;> (repeat' (with_reducible first | refine And.intro ?_ ?_ | intro _)))
            refine ends_frzCx (v := v) zEra rfl ?_
            exact e_pmF (((vp, p), (v, _)), _) rfl zRes zTake zFsub rfl
          · refine ends_frzCx (v := v) zEra rfl ?_
            exact e_pmF (((vp, p), (v, _)), _) rfl zRes zTake zFsub rfl
        · refine ends_frzCx (v := v) zEra rfl ?_
          exact e_pmF (((vp, p), (v, _)), _) rfl zRes zTake zFsub rfl
  · skip
    refine c_isRow (v := v5) zHas fun hs0 _ => ?_
    refine c_while (ι := {x : Value × List (Nat × Nat) × Seed code.length // IsSl x.1 ∧ x.2.1.length ≤ 12}) (κ := {x : Value × List (Nat × Nat) × Seed code.length // IsSl x.1 ∧ x.2.1.length ≤ 12})
      (fun x => [(5, x.1.1), (4, vp), (0, pt b)]) (fun x => [oRow x.1.1 x.1.2.1, oSrc b vc x.1.2.2]) (fun _ => [fList 1 rCx vp p, fCode vc code]) (fun x => p.length - x.1.2.1.length)
      (fun x => [(5, x.1.1), (4, vp), (0, pt b)]) (fun x => [oRow x.1.1 x.1.2.1, oSrc b vc x.1.2.2]) (fun _ => [fList 1 rCx vp p, fCode vc code]) ⟨(v5, ([] : List (Nat × Nat)), _), hs0, by dsimp only [List.length_nil]; omega⟩ (fun _ _ s => s.startT zSub zTake zFsub) ?_ ?_
    · rintro ⟨⟨v, l, s⟩, hs, hk⟩
      dsimp only at hs hk ⊢
      all_goals (((try refine zR3 ?_) <;> (repeat' (with_reducible first | refine And.intro ?_ ?_ | intro _))) <;> (repeat' ((first | ((with_reducible apply l_callM); exact rfl; exact rfl; exact zEvs; exact rfl; (apply hD); (case hL => exact zTake); (case hF => exact zFsub); (try any_goals (refine propId ?_; omega)); (with_reducible intro _))) <;> ((try refine zR3 ?_) <;> (repeat' (with_reducible first | refine And.intro ?_ ?_ | intro _))))))
      · rename_i i _ v2
        refine ends_isRowQ (v := v2) zHas fun hs2 => ?_
        exact e_againT (Lr := []) ⟨(v2, l ++ [i.1], i.2), hs2, by dsimp only; rw [len_app]; omega⟩ (by dsimp only; rw [len_app]; omega) zSub (by dsimp only; rw [oRow_app]; exact zTake) zFsub
      · exact e_outT (Lr := []) ⟨(v, l, s), hs, hk⟩ zSub zTake zFsub
    · rintro ⟨⟨v, l, s⟩, hs, hk⟩
      dsimp only at hs hk ⊢
      all_goals ((try refine zR3 ?_) <;> (repeat' (with_reducible first | refine And.intro ?_ ?_ | intro _)))
      · refine l_callM rfl rfl zEvs rfl (hN _ (l.length : Int) (by omega)) zTake zFsub fun i => ?_
        obtain ⟨⟨x, hx0, hx1, hx2⟩, s1⟩ := i
        dsimp only
        have hx3 := hx2 (by omega)
        obtain ⟨k1, hk1⟩ : ∃ k : Nat, x = (k : Int) := ⟨x.toNat, by omega⟩
        subst hk1
        all_goals ((try refine zR3 ?_) <;> (repeat' (with_reducible first | refine And.intro ?_ ?_ | intro _)))
        refine l_callM rfl rfl zEvs rfl (hN _ (l.length : Int) (by omega)) zTake zFsub fun i => ?_
        obtain ⟨⟨x, hy0, hy1, hy2⟩, s2⟩ := i
        dsimp only
        have hy3 := hy2 (by omega)
        obtain ⟨k2, hk2⟩ : ∃ k : Nat, x = (k : Int) := ⟨x.toNat, by omega⟩
        subst hk2
        obtain ⟨y, hy⟩ : ∃ y, l[k2]? = some y := ⟨_, List.getElem?_eq_getElem (by omega)⟩
        all_goals (((try refine zR3 ?_) <;> (repeat' (with_reducible first | refine And.intro ?_ ?_ | intro _))) <;> (repeat' ((first | ((with_reducible apply l_callM); exact rfl; exact rfl; exact zEvs; exact rfl; (apply hN); (case hL => exact zTake); (case hF => exact zFsub); (try any_goals (refine propId ?_; omega)); (with_reducible intro _)) | ((with_reducible apply l_callM); exact rfl; exact rfl; exact zEvs; exact rfl; (apply hD); (case hL => exact zTake); (case hF => exact zFsub); (try any_goals (refine propId ?_; omega)); (with_reducible intro _))) <;> ((try refine zR3 ?_) <;> (repeat' (with_reducible first | refine And.intro ?_ ?_ | intro _))))))
        all_goals (first | (exfalso; omega) | skip)
        · refine ends_frzCx (v := v) zEra rfl ?_
          exact e_pmF (((vp, p), (v, _)), _) rfl zRes zTake zFsub rfl
        · refine ends_frzCx (v := v) zEra rfl ?_
          exact e_pmF (((vp, p), (v, _)), _) rfl zRes zTake zFsub rfl
        · refine l_frzCx (v := v) (l := l) zEra rfl ?_
          all_goals ((try refine zR3 ?_) <;> (repeat' (with_reducible first | refine And.intro ?_ ?_ | intro _)))
          rename_i v2
          exact e_pmF (((vp, p), (v2, l.drop 1)), _) rfl zRes zTake zFsub rfl
        · refine l_storeMap (b := (0, 0)) rfl rfl zUpd rfl zCells rfl (by omega) ?_
          all_goals ((try refine zR3 ?_) <;> (repeat' (with_reducible first | refine And.intro ?_ ?_ | intro _)))
          refine ends_frzCx (v := v) zEra rfl ?_
          exact e_pmF (((vp, p), (v, _)), _) rfl zRes zTake zFsub rfl
        · refine ends_frzCx (v := v) zEra rfl ?_
          exact e_pmF (((vp, p), (v, _)), _) rfl zRes zTake zFsub rfl
      · refine ends_frzCx (v := v) zEra rfl ?_
        exact e_pmF (((vp, p), (v, _)), _) rfl zRes zTake zFsub rfl
end Go.Proofs.Ytbclejclkicgnaa.K
