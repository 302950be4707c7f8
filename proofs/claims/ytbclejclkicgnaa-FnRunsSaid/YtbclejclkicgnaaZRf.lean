/- The law of runs. -/
import Derived.Test.YtbclejclkicgnaaZRd
import Derived.Test.YtbclejclkicgnaaZRe
namespace Go.Proofs.Ytbclejclkicgnaa.K
open Go Go.RowKit Ieee
set_option linter.all false
set_option maxRecDepth 60000
set_option maxHeartbeats 1000000

theorem FnRuns_spec (vc : Value) (code : List Int) (hb : Bytes code) : Spec Try.prog 3 [vc] [] [fCode vc code] (Gives (.bool true)) := by
  refine enter Try.func3 Try.ntmps3 rfl (by kernel_rfl) zCon rfl fun G => ?_
  refine c_isList (v := vc) zMem fun hsa => ?_
  have hbig := big_spec vc code
  all_goals (((try refine zR3 ?_) <;> (repeat' (with_reducible first | refine And.intro ?_ ?_ | intro _))) <;> (repeat' ((first | ((with_reducible apply l_callP); exact rfl; exact zEvs; exact rfl; (with_reducible apply hbig); (case hF => exact zFsub); (try any_goals (refine propId ?_; omega)))) <;> ((try refine zR3 ?_) <;> (repeat' (with_reducible first | refine And.intro ?_ ?_ | intro _))))))
  · (refine e_gives rfl zRes ?_; first | rfl | (simp [retVal, *]; done) | (simp_all [retVal]; done) | (simp only [retVal]))
  · have hl : code.length ≤ 4096 := by omega
    refine l_callMF rfl rfl zEvs rfl (DrawRunTogether_spec vc code hb (by omega)) .nil zFsub fun u => ?_
    obtain ⟨⟨⟨vp, p⟩, ⟨vl, l⟩⟩, ⟨kind, hk⟩, turn, bound, ⟨most, hm⟩⟩ := u
    dsimp only
    have hI := RunTogether_spec vp vl p l kind turn bound most
    have hS := specRun_spec vp vl p l kind turn bound most
    have hok := runT_ok (p := p) (l := l) (kind := kind) (turn := turn) (bound := bound) (most := most)
    have herr := runT_err (p := p) (l := l) (kind := kind) (turn := turn) (bound := bound) (most := most)
    generalize runT p l kind turn bound most = T at hI hS hok herr
    obtain ⟨⟨R, K, M, S⟩, C⟩ := T
    dsimp only at hok herr
    all_goals ((try refine zR3 ?_) <;> (repeat' (with_reducible first | refine And.intro ?_ ?_ | intro _)))
    refine l_callM rfl rfl zEvs rfl hI .nil zFsub fun u => ?_
    obtain ⟨⟨v1, l1, la1⟩, hs1, e1, f1⟩ := u
    dsimp only at hs1 e1 f1 ⊢
    refine l_frzCx (v := v1) (l := l1) zEra rfl ?_
    all_goals ((try refine zR3 ?_) <;> (repeat' (with_reducible first | refine And.intro ?_ ?_ | intro _)))
    rename_i b9
    refine l_callM rfl rfl zEvs rfl hS .nil zFsub fun u => ?_
    obtain ⟨⟨v2, l2, la2⟩, hs2, e2, f2⟩ := u
    dsimp only at hs2 e2 f2 ⊢
    refine l_frzCx (v := v2) (l := l2) zEra rfl ?_
    have hrun := run9_spec v1 v2 l1 l2 K la1 la2 S (e1.trans e2.symm) (f1.trans f2.symm)
    by_cases hC : C = 0
    · subst hC
      obtain ⟨hrest, hK0, hK1, hm2, hS1, hS2⟩ := hok rfl
      have eL : fcmp .leq la1 bound = fcmp .leq M bound := by rw [← fcmp_l, f1]
      have hSt : S = (decide (0 < K) && fcmp .leq la1 bound) := by
        rw [eL]
        cases hS' : S with
        | true => obtain ⟨a1, a2⟩ := hS1 hS'; simp [a1, a2]
        | false =>
          by_cases a1 : 0 < K
          · simp [(hS2 hS').2 a1]
          · simp [a1]
      have hSf : S = false → K = most := fun h => (hS2 h).1
      clear hI hS hok herr hS1 hS2
      all_goals (((try refine zR3 ?_) <;> (repeat' (with_reducible first | refine And.intro ?_ ?_ | intro _))) <;> (repeat' ((first | ((with_reducible apply l_callP); exact rfl; exact zEvs; exact rfl; (with_reducible apply hrun); (case hF => exact zFsub); (try any_goals (refine propId ?_; omega)))) <;> ((try refine zR3 ?_) <;> (repeat' (with_reducible first | refine And.intro ?_ ?_ | intro _))))))
      all_goals (first | (exfalso; omega) | skip)
      all_goals first | (exfalso; clear hrun hrest; simp_all; done) | (exfalso; clear hrun hrest; simp_all; omega) | skip
      · skip
        refine c_while (ι := {x : Nat × (Value × List (Nat × Nat)) × Nat // (x.1 : Int) ≤ K ∧ Rest p kind turn bound ((R, K, M, S), 0) (most.toNat - x.1) (x.1 : Int) x.2.1.2 x.2.2}) (κ := {x : (Value × List (Nat × Nat)) × Nat // x.1.2.map nf2 = R ∧ nf x.2 = M})
          (fun x => [(15, .int .i64 (x.1.1 : Int)), (13, x.1.2.1.1), (14, .float .f64 x.1.2.2), (3, vp), (5, .int .i64 kind), (6, .bool turn), (7, .float .f64 bound), (9, pt b9)]) (fun _ => [.box b9 [v1, .int .i64 K, .float .f64 la1, .bool S] 29]) (fun x => [fList 1 rCx x.1.2.1.1 x.1.2.1.2, fList 1 rCx vp p, fList 1 rCx v1 l1]) (fun x => K.toNat - x.1.1)
          (fun x => [(13, x.1.1.1), (14, .float .f64 x.1.2), (9, pt b9)]) (fun _ => [.box b9 [v1, .int .i64 K, .float .f64 la1, .bool S] 29]) (fun x => [fList 1 rCx x.1.1.1 x.1.1.2, fList 1 rCx v1 l1]) ⟨(0, (vl, l), 0), hK0, hrest⟩ (fun _ _ s => s.startT zSub zTake zFsub) ?_ ?_
        · rintro ⟨⟨i, ⟨vq, q⟩, la⟩, hi, hr⟩
          dsimp only at hi hr ⊢
          by_cases hlt : (i : Int) < K
          · obtain ⟨st1, st2⟩ := rest_step rfl hr hlt
            have hst := StepTogether_spec vp vq p q kind turn
            generalize stepT p q kind turn = T at st1 st2 hst
            obtain ⟨⟨R', M'⟩, C'⟩ := T
            dsimp only at st1 st2
            subst st1
            all_goals ((try refine zR3 ?_) <;> (repeat' (with_reducible first | refine And.intro ?_ ?_ | intro _)))
            all_goals (first | (exfalso; omega) | skip)
            all_goals (
              refine l_callM rfl rfl zEvs rfl hst .nil zFsub fun u => ?_
              obtain ⟨⟨v', q', la'⟩, hs', e', f'⟩ := u
              dsimp only at hs' e' f' ⊢
              refine l_frzCx (v := v') (l := q') zEra rfl ?_
              obtain ⟨g1, g2⟩ := st2 q' la' e' f'
              rw [Nat.sub_sub] at g2
              all_goals ((try refine zR3 ?_) <;> (repeat' (with_reducible first | refine And.intro ?_ ?_ | intro _)))
              all_goals (first | (exfalso; omega) | skip)
              all_goals first | (exfalso; have hh := g1 (by omega); simp_all; done) | skip
              all_goals exact e_againT ⟨(i + 1, (v', q'), la'), by dsimp only; omega, g2⟩ (by dsimp only; omega) zSub zTake zFsub)
          · obtain ⟨g1, g2⟩ := rest_end hr hlt
            all_goals ((try refine zR3 ?_) <;> (repeat' (with_reducible first | refine And.intro ?_ ?_ | intro _)))
            all_goals (first | (exfalso; omega) | skip)
            exact e_outT ⟨((vq, q), la), g1, g2⟩ zSub zTake zFsub
        · rintro ⟨⟨⟨vq, q⟩, la⟩, g1, g2⟩
          dsimp only at g1 g2 ⊢
          have hw := wides9_spec vq v1 q l1 (g1.trans e1.symm)
          have hf := float9_spec la la1 (g2.trans f1.symm)
          all_goals (((try refine zR3 ?_) <;> (repeat' (with_reducible first | refine And.intro ?_ ?_ | intro _))) <;> (repeat' ((first | ((with_reducible apply l_callP); exact rfl; exact zEvs; exact rfl; (with_reducible apply hw); (case hF => exact zFsub); (try any_goals (refine propId ?_; omega))) | ((with_reducible apply l_callP); exact rfl; exact zEvs; exact rfl; (with_reducible apply hf); (case hF => exact zFsub); (try any_goals (refine propId ?_; omega)))) <;> ((try refine zR3 ?_) <;> (repeat' (with_reducible first | refine And.intro ?_ ?_ | intro _))))))
          all_goals (refine e_gives rfl zRes ?_; first | rfl | (simp [retVal, *]; done) | (simp_all [retVal]; done) | (simp only [retVal]))
      · skip
        refine c_while (ι := {x : Nat × (Value × List (Nat × Nat)) × Nat // (x.1 : Int) ≤ K ∧ Rest p kind turn bound ((R, K, M, S), 0) (most.toNat - x.1) (x.1 : Int) x.2.1.2 x.2.2}) (κ := {x : (Value × List (Nat × Nat)) × Nat // x.1.2.map nf2 = R ∧ nf x.2 = M})
          (fun x => [(15, .int .i64 (x.1.1 : Int)), (13, x.1.2.1.1), (14, .float .f64 x.1.2.2), (3, vp), (5, .int .i64 kind), (6, .bool turn), (7, .float .f64 bound), (9, pt b9)]) (fun _ => [.box b9 [v1, .int .i64 K, .float .f64 la1, .bool S] 29]) (fun x => [fList 1 rCx x.1.2.1.1 x.1.2.1.2, fList 1 rCx vp p, fList 1 rCx v1 l1]) (fun x => K.toNat - x.1.1)
          (fun x => [(13, x.1.1.1), (14, .float .f64 x.1.2), (9, pt b9)]) (fun _ => [.box b9 [v1, .int .i64 K, .float .f64 la1, .bool S] 29]) (fun x => [fList 1 rCx x.1.1.1 x.1.1.2, fList 1 rCx v1 l1]) ⟨(0, (vl, l), 0), hK0, hrest⟩ (fun _ _ s => s.startT zSub zTake zFsub) ?_ ?_
        · rintro ⟨⟨i, ⟨vq, q⟩, la⟩, hi, hr⟩
          dsimp only at hi hr ⊢
          by_cases hlt : (i : Int) < K
          · obtain ⟨st1, st2⟩ := rest_step rfl hr hlt
            have hst := StepTogether_spec vp vq p q kind turn
            generalize stepT p q kind turn = T at st1 st2 hst
            obtain ⟨⟨R', M'⟩, C'⟩ := T
            dsimp only at st1 st2
            subst st1
            all_goals ((try refine zR3 ?_) <;> (repeat' (with_reducible first | refine And.intro ?_ ?_ | intro _)))
            all_goals (first | (exfalso; omega) | skip)
            all_goals (
              refine l_callM rfl rfl zEvs rfl hst .nil zFsub fun u => ?_
              obtain ⟨⟨v', q', la'⟩, hs', e', f'⟩ := u
              dsimp only at hs' e' f' ⊢
              refine l_frzCx (v := v') (l := q') zEra rfl ?_
              obtain ⟨g1, g2⟩ := st2 q' la' e' f'
              rw [Nat.sub_sub] at g2
              all_goals ((try refine zR3 ?_) <;> (repeat' (with_reducible first | refine And.intro ?_ ?_ | intro _)))
              all_goals (first | (exfalso; omega) | skip)
              all_goals first | (exfalso; have hh := g1 (by omega); simp_all; done) | skip
              all_goals exact e_againT ⟨(i + 1, (v', q'), la'), by dsimp only; omega, g2⟩ (by dsimp only; omega) zSub zTake zFsub)
          · obtain ⟨g1, g2⟩ := rest_end hr hlt
            all_goals ((try refine zR3 ?_) <;> (repeat' (with_reducible first | refine And.intro ?_ ?_ | intro _)))
            all_goals (first | (exfalso; omega) | skip)
            exact e_outT ⟨((vq, q), la), g1, g2⟩ zSub zTake zFsub
        · rintro ⟨⟨⟨vq, q⟩, la⟩, g1, g2⟩
          dsimp only at g1 g2 ⊢
          have hw := wides9_spec vq v1 q l1 (g1.trans e1.symm)
          have hf := float9_spec la la1 (g2.trans f1.symm)
          all_goals (((try refine zR3 ?_) <;> (repeat' (with_reducible first | refine And.intro ?_ ?_ | intro _))) <;> (repeat' ((first | ((with_reducible apply l_callP); exact rfl; exact zEvs; exact rfl; (with_reducible apply hw); (case hF => exact zFsub); (try any_goals (refine propId ?_; omega))) | ((with_reducible apply l_callP); exact rfl; exact zEvs; exact rfl; (with_reducible apply hf); (case hF => exact zFsub); (try any_goals (refine propId ?_; omega)))) <;> ((try refine zR3 ?_) <;> (repeat' (with_reducible first | refine And.intro ?_ ?_ | intro _))))))
          all_goals (refine e_gives rfl zRes ?_; first | rfl | (simp [retVal, *]; done) | (simp_all [retVal]; done) | (simp only [retVal]))
      · skip
        refine c_while (ι := {x : Nat × (Value × List (Nat × Nat)) × Nat // (x.1 : Int) ≤ K ∧ Rest p kind turn bound ((R, K, M, S), 0) (most.toNat - x.1) (x.1 : Int) x.2.1.2 x.2.2}) (κ := {x : (Value × List (Nat × Nat)) × Nat // x.1.2.map nf2 = R ∧ nf x.2 = M})
          (fun x => [(15, .int .i64 (x.1.1 : Int)), (13, x.1.2.1.1), (14, .float .f64 x.1.2.2), (3, vp), (5, .int .i64 kind), (6, .bool turn), (7, .float .f64 bound), (9, pt b9)]) (fun _ => [.box b9 [v1, .int .i64 K, .float .f64 la1, .bool S] 29]) (fun x => [fList 1 rCx x.1.2.1.1 x.1.2.1.2, fList 1 rCx vp p, fList 1 rCx v1 l1]) (fun x => K.toNat - x.1.1)
          (fun x => [(13, x.1.1.1), (14, .float .f64 x.1.2), (9, pt b9)]) (fun _ => [.box b9 [v1, .int .i64 K, .float .f64 la1, .bool S] 29]) (fun x => [fList 1 rCx x.1.1.1 x.1.1.2, fList 1 rCx v1 l1]) ⟨(0, (vl, l), 0), hK0, hrest⟩ (fun _ _ s => s.startT zSub zTake zFsub) ?_ ?_
        · rintro ⟨⟨i, ⟨vq, q⟩, la⟩, hi, hr⟩
          dsimp only at hi hr ⊢
          by_cases hlt : (i : Int) < K
          · obtain ⟨st1, st2⟩ := rest_step rfl hr hlt
            have hst := StepTogether_spec vp vq p q kind turn
            generalize stepT p q kind turn = T at st1 st2 hst
            obtain ⟨⟨R', M'⟩, C'⟩ := T
            dsimp only at st1 st2
            subst st1
            all_goals ((try refine zR3 ?_) <;> (repeat' (with_reducible first | refine And.intro ?_ ?_ | intro _)))
            all_goals (first | (exfalso; omega) | skip)
            all_goals (
              refine l_callM rfl rfl zEvs rfl hst .nil zFsub fun u => ?_
              obtain ⟨⟨v', q', la'⟩, hs', e', f'⟩ := u
              dsimp only at hs' e' f' ⊢
              refine l_frzCx (v := v') (l := q') zEra rfl ?_
              obtain ⟨g1, g2⟩ := st2 q' la' e' f'
              rw [Nat.sub_sub] at g2
              all_goals ((try refine zR3 ?_) <;> (repeat' (with_reducible first | refine And.intro ?_ ?_ | intro _)))
              all_goals (first | (exfalso; omega) | skip)
              all_goals first | (exfalso; have hh := g1 (by omega); simp_all; done) | skip
              all_goals exact e_againT ⟨(i + 1, (v', q'), la'), by dsimp only; omega, g2⟩ (by dsimp only; omega) zSub zTake zFsub)
          · obtain ⟨g1, g2⟩ := rest_end hr hlt
            all_goals ((try refine zR3 ?_) <;> (repeat' (with_reducible first | refine And.intro ?_ ?_ | intro _)))
            all_goals (first | (exfalso; omega) | skip)
            exact e_outT ⟨((vq, q), la), g1, g2⟩ zSub zTake zFsub
        · rintro ⟨⟨⟨vq, q⟩, la⟩, g1, g2⟩
          dsimp only at g1 g2 ⊢
          have hw := wides9_spec vq v1 q l1 (g1.trans e1.symm)
          have hf := float9_spec la la1 (g2.trans f1.symm)
          all_goals (((try refine zR3 ?_) <;> (repeat' (with_reducible first | refine And.intro ?_ ?_ | intro _))) <;> (repeat' ((first | ((with_reducible apply l_callP); exact rfl; exact zEvs; exact rfl; (with_reducible apply hw); (case hF => exact zFsub); (try any_goals (refine propId ?_; omega))) | ((with_reducible apply l_callP); exact rfl; exact zEvs; exact rfl; (with_reducible apply hf); (case hF => exact zFsub); (try any_goals (refine propId ?_; omega)))) <;> ((try refine zR3 ?_) <;> (repeat' (with_reducible first | refine And.intro ?_ ?_ | intro _))))))
          all_goals (refine e_gives rfl zRes ?_; first | rfl | (simp [retVal, *]; done) | (simp_all [retVal]; done) | (simp only [retVal]))
    · have hR := herr hC
      simp only [Prod.mk.injEq] at hR
      obtain ⟨r1, r2, r3, r4⟩ := hR
      have hl1 : l1 = [] := by rw [r1] at e1; simpa using e1
      subst r4
      subst hl1
      all_goals (((try refine zR3 ?_) <;> (repeat' (with_reducible first | refine And.intro ?_ ?_ | intro _))) <;> (repeat' ((first | ((with_reducible apply l_callP); exact rfl; exact zEvs; exact rfl; (with_reducible apply hrun); (case hF => exact zFsub); (try any_goals (refine propId ?_; omega)))) <;> ((try refine zR3 ?_) <;> (repeat' (with_reducible first | refine And.intro ?_ ?_ | intro _))))))
      all_goals (first | (exfalso; omega) | skip)
      all_goals (refine e_gives rfl zRes ?_; first | rfl | (simp [retVal, *]; done) | (simp_all [retVal]; done) | (simp only [retVal]))
end Go.Proofs.Ytbclejclkicgnaa.K
