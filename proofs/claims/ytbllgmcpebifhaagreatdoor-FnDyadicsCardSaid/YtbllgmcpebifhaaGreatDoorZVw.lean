/- The law of exact numbers. -/
import Derived.Test.YtbllgmcpebifhaaGreatDoorZVv
import Derived.Test.YtbllgmcpebifhaaGreatDoorZVp
namespace Go.Proofs.YtbllgmcpebifhaaGreatDoor.K
open Go Go.RowKit Go.Lib
set_option linter.all false
set_option maxRecDepth 60000
set_option maxHeartbeats 6000000
set_option exponentiation.threshold 40000

theorem l_regsT {G : Ctx} {n : Nat} {P : Program} {ops : Array Oper} {Q : Post} {rest : List Oper} {m : Regs} {L : List Own} {F : List Fact} (m' : Regs) (F' : List Fact) (hm : ∀ t v, look m' t = some v → look m t = some v) (hF : ∀ φ, φ ∈ F' → φ ∈ F) (h : RunL G n P ops Q rest m' [] F') : RunL G n P ops Q rest m L F :=
  l_take (L' := []) .nil fun a w s => h a w (s.sub hm hF)
theorem via {G : Ctx} {n : Nat} {P : Program} {ops : Array Oper} {Q : Post} {rest : List Oper} {m : Regs} {L : List Own} {F : List Fact} {g : Prop} (H : RunL G n P ops Q rest m L F) (k : RunL G n P ops Q rest m L F → g) : g := k H
theorem c_midQ {G : Ctx} {n : Nat} {P : Program} {Q : Post} {m : Regs} {L : List Own} {F : List Fact} {x y : Code} {κ : Type} (mE : κ → Regs) (LE : κ → List Own) (FE : κ → List Fact) (hx : ∀ Q0 : Post, RunC G n P x (Exit.then (fun a w => ∃ k, St G n (mE k) (LE k) (FE k) a w) Q0) m L F) (hy : ∀ k, RunC G n P y Q (mE k) (LE k) (FE k)) :
    RunC G n P x (Exit.then (fun a w => y.wp P Q a w) Q) m L F := c_mid mE LE FE (hx Q) hy
theorem dcode_inv {sg e k : Int} {l : List Int} (h : dcode sg e l k = 0) : IsD sg e l ∧ -1000 ≤ k ∧ k ≤ 1000 := by
  unfold dcode at h
  by_cases hD : IsD sg e l
  · rw [if_pos hD] at h
    by_cases hk : -1000 ≤ k ∧ k ≤ 1000
    · exact ⟨hD, hk⟩
    · rw [if_neg hk] at h; exact absurd h (by decide)
  · rw [if_neg hD] at h; exact absurd h (by decide)
theorem FnDyadics_spec (vc : Value) (code : List Int) (hb : Bytes code) : Spec Tryz.prog 4 [vc] [] [fCode vc code, fTz, fTab, fMax, fSyn, fRng] (Gives (.bool true)) := by
  refine enter Tryz.func4 Tryz.ntmps4 rfl (by kernel_rfl) zCon rfl fun G => ?_
  refine c_isList (v := vc) zMem fun hsa => ?_
  have hbig := big_spec vc code
  all_goals (((try refine zR2 ?_) <;> (repeat' (with_reducible first | refine And.intro ?_ ?_ | intro _))) <;> (repeat' ((first | ((with_reducible apply l_callP); exact rfl; exact zEvs; exact rfl; (with_reducible apply hbig); (case hF => exact zFsub); (try any_goals (refine propId ?_; omega)))) <;> ((try refine zR2 ?_) <;> (repeat' (with_reducible first | refine And.intro ?_ ?_ | intro _))))))
  · (refine e_gives rfl zRes ?_; first | rfl | (simp [retVal, *]; done) | (simp_all [retVal]; done) | (simp only [retVal]))
  · have hl : code.length ≤ 4096 := by omega
    apply via (G := G) (n := 352) (P := Tryz.prog) (m := [(166, vc), (0, vc)]) (L := []) (F := [fCode vc code, fTz, fTab, fMax, fSyn, fRng])
    case k =>
      intro H
      refine l_callMF rfl rfl zEvs rfl (DrawAddDyadics_spec vc code hb (by omega)) .nil zFsub fun i => ?_
      obtain ⟨⟨⟨⟨s1, e1⟩, u1, l1⟩, hc⟩, ⟨⟨⟨s2, e2⟩, u2, l2⟩, hd⟩⟩ := i
      have hsu1 := hc.2.2.2.2
      have hsu2 := hd.2.2.2.2
      dsimp only at hsu1 hsu2 ⊢
      clear hc hd
      by_cases hDD : IsD s1 e1 l1 ∧ IsD s2 e2 l2
      · obtain ⟨v1, rfl, rfl, hN1, hb1, he1⟩ := isD_form hDD.1
        obtain ⟨v2, rfl, rfl, hN2, hb2, he2⟩ := isD_form hDD.2
        have hA1 := AddD_spec v1 e1 v2 e2 u1 u2 hDD.1 hDD.2
        have hA2 := AddS_spec v1 e1 v2 e2 u1 u2 hDD.1 hDD.2
        have hC1 := CmpD_spec v1 e1 v2 e2 u1 u2 hDD.1 hDD.2
        have hC2 := CmpS_spec v1 e1 v2 e2 u1 u2 hDD.1 hDD.2
        have hI1 := IsDyadic_spec (sgn v1) e1 u1 (limbs v1.natAbs)
        have hI2 := specIs_spec (sgn v1) e1 u1 (limbs v1.natAbs)
        rw [decide_eq_true hDD.1] at hI1 hI2
        have hF1 := FloatOfF_spec u1 v1 e1 hDD.1
        have hF2 := FloatOfF_spec u2 v2 e2 hDD.2
        have hord := fun A B hA hB => order_fl (A := A) (B := B) he1 he2 hA hB (o := sgn (sumV v1 e1 (-v2) e2)) rfl
        generalize sgn (sumV v1 e1 (-v2) e2) = o at hC1 hC2 hord
        by_cases hz : (dr (sumV v1 e1 v2 e2) (min e1 e2)).2 = 0
        · obtain ⟨hdr, hDS⟩ := dr_ok hz
          rw [hdr] at hA1 hA2
          clear hdr hz
          obtain ⟨w, hw⟩ : ∃ w, w = nv (sumV v1 e1 v2 e2) := ⟨_, rfl⟩
          obtain ⟨f, hf⟩ : ∃ f, f = ne (sumV v1 e1 v2 e2) (min e1 e2) := ⟨_, rfl⟩
          have hback := sum_back hN1 hb1 he1 hw hf
          rw [← hw, ← hf] at hA1 hA2 hDS
          have hB1 := fun u => SubD_spec w f v2 e2 u u2 hDS hDD.2
          rw [hback] at hB1
          clear hback hw hf hDS hDD hN1 hN2 hb1 hb2
          all_goals ((try refine zR2 ?_) <;> (repeat' (with_reducible first | refine And.intro ?_ ?_ | intro _)))
          refine l_call rfl zEvs rfl hA1 zTake zFsub ?_
          rintro _ L' F' ⟨u3, rfl, rfl, rfl⟩
          refine l_isList (.head _) fun hsu3 => ?_
          all_goals ((try refine zR2 ?_) <;> (repeat' (with_reducible first | refine And.intro ?_ ?_ | intro _)))
          refine l_call rfl zEvs rfl hA2 zTake zFsub ?_
          rintro _ L' F' ⟨u4, rfl, rfl, rfl⟩
          refine l_isList (.head _) fun hsu4 => ?_
          dsimp only
          all_goals (((try refine zR2 ?_) <;> (repeat' (with_reducible first | refine And.intro ?_ ?_ | intro _))) <;> (repeat' ((first | ((with_reducible apply l_callP); exact rfl; exact zEvs; exact rfl; (with_reducible apply hC1); (case hF => exact zFsub); (try any_goals (refine propId ?_; omega))) | ((with_reducible apply l_callP); exact rfl; exact zEvs; exact rfl; (with_reducible apply hC2); (case hF => exact zFsub); (try any_goals (refine propId ?_; omega)))) <;> ((try refine zR2 ?_) <;> (repeat' (with_reducible first | refine And.intro ?_ ?_ | intro _))))))
          rename_i b3 b4 b5 b7
          refine c_midQ (κ := Unit) (fun _ => [(103, .bool false), (10, .int .i64 0), (9, .int .i64 o), (6, .int .i64 0), (5, ptr b5), (4, ptr b4), (3, ptr b3), (2, .bool false), (0, vc)]) (fun _ => [.box b7 [.int .i64 (sgn w), u4, .int .i64 f] 48, .box b5 [.int .i64 (sgn w), u3, .int .i64 f] 48, .box b4 [.int .i64 (sgn v2), u2, .int .i64 e2] 48, .box b3 [.int .i64 (sgn v1), u1, .int .i64 e1] 48])
            (fun _ => [fList 1 (rInt .i64) u4 (limbs w.natAbs), fList 1 (rInt .i64) u3 (limbs w.natAbs), fList 1 (rInt .i64) u1 (limbs v1.natAbs), fList 1 (rInt .i64) u2 (limbs v2.natAbs), fCode vc code, fTz, fTab, fMax, fSyn, fRng]) (fun Q0 => ?_) ?_
          · refine c_regs (m' := [(12, .int .i64 0), (11, .int .i64 o), (10, .int .i64 0), (9, .int .i64 o), (8, .int .i64 0), (7, ptr b7), (6, .int .i64 0), (5, ptr b5), (4, ptr b4), (3, ptr b3), (2, .bool false), (0, vc)]) zSub ?_
            refine c_draw ([], []) [.box b3 [.int .i64 (sgn v1), u1, .int .i64 e1] 48, .box b5 [.int .i64 (sgn w), u3, .int .i64 f] 48, .box b7 [.int .i64 (sgn w), u4, .int .i64 f] 48] [0, 1, 2, 3, 4, 5, 6, 7, 8, 9, 10, 11, 12, 13, 14, 15, 16, 17, 18, 19, 20, 22, 21, 23, 24, 25] (by kernel_rfl) (by kernel_rfl) ?_
            all_goals (((try refine zD2 ?_) <;> (repeat' (with_reducible first | refine And.intro ?_ ?_ | intro _))) <;> (repeat' ((first | ((with_reducible apply l_callP); exact rfl; exact zEvs; exact rfl; (with_reducible apply dyadic5_spec); (case hF => exact zFsub); (try any_goals (refine propId ?_; omega))) | ((with_reducible apply l_callP); exact rfl; exact zEvs; exact rfl; (with_reducible apply hI1); (case hF => exact zFsub); (try any_goals (refine propId ?_; omega))) | ((with_reducible apply l_callP); exact rfl; exact zEvs; exact rfl; (with_reducible apply hI2); (case hF => exact zFsub); (try any_goals (refine propId ?_; omega)))) <;> ((try refine zD2 ?_) <;> (repeat' (with_reducible first | refine And.intro ?_ ?_ | intro _))))))
            rw [decide_eq_false (show ¬ (¬ o = o) from fun h => h rfl)]
            all_goals (((try refine zD2 ?_) <;> (repeat' (with_reducible first | refine And.intro ?_ ?_ | intro _))) <;> (repeat' ((first | ((with_reducible apply l_callP); exact rfl; exact zEvs; exact rfl; (with_reducible apply dyadic5_spec); (case hF => exact zFsub); (try any_goals (refine propId ?_; omega))) | ((with_reducible apply l_callP); exact rfl; exact zEvs; exact rfl; (with_reducible apply hI1); (case hF => exact zFsub); (try any_goals (refine propId ?_; omega))) | ((with_reducible apply l_callP); exact rfl; exact zEvs; exact rfl; (with_reducible apply hI2); (case hF => exact zFsub); (try any_goals (refine propId ?_; omega)))) <;> ((try refine zD2 ?_) <;> (repeat' (with_reducible first | refine And.intro ?_ ?_ | intro _))))))
            exact e_out () zSub rfl zFsub
          intro _
          all_goals ((try refine zR2 ?_) <;> (repeat' (with_reducible first | refine And.intro ?_ ?_ | intro _)))
          all_goals (first | (exfalso; omega) | skip)
          refine l_call rfl zEvs rfl (hB1 u3) zTake zFsub ?_
          rintro _ L' F' ⟨u5, rfl, rfl, rfl⟩
          refine l_isList (.head _) fun hsu5 => ?_
          dsimp only
          all_goals (((try refine zR2 ?_) <;> (repeat' (with_reducible first | refine And.intro ?_ ?_ | intro _))) <;> (repeat' ((first | ((with_reducible apply l_callP); exact rfl; exact zEvs; exact rfl; (with_reducible apply dyadic5_spec); (case hF => exact zFsub); (try any_goals (refine propId ?_; omega)))) <;> ((try refine zR2 ?_) <;> (repeat' (with_reducible first | refine And.intro ?_ ?_ | intro _))))))
          all_goals (first | (exfalso; omega) | skip)
          refine l_call rfl zEvs rfl hF1 zTake zFsub ?_
          rintro _ L' F' ⟨y1, c1, rfl, hy1, hA, rfl, rfl⟩
          all_goals ((try refine zR2 ?_) <;> (repeat' (with_reducible first | refine And.intro ?_ ?_ | intro _)))
          refine l_call rfl zEvs rfl hF2 zTake zFsub ?_
          rintro _ L' F' ⟨y2, c2, rfl, hy2, hB, rfl, rfl⟩
          by_cases hcc : c1 = 0 ∧ c2 = 0
          · obtain ⟨rfl, rfl⟩ := hcc
            obtain ⟨A, hyA, hA⟩ := hA rfl
            obtain ⟨B, hyB, hB⟩ := hB rfl
            have ho := hord A B hA hB
            clear hA hB hord hF1 hF2 hC1 hC2 hI1 hI2
            all_goals ((try refine zR2 ?_) <;> (repeat' (with_reducible first | refine And.intro ?_ ?_ | intro _)))
            all_goals first | (exfalso; omega) | exact l_regsT _ _ zSub zFsub H
          · clear hA hB hord hF1 hF2 hC1 hC2 hI1 hI2
            all_goals ((try refine zR2 ?_) <;> (repeat' (with_reducible first | refine And.intro ?_ ?_ | intro _)))
            all_goals first | (exfalso; omega) | exact l_regsT _ _ zSub zFsub H
        · rw [dr_no hz] at hA1 hA2
          clear hz hDD hN1 hN2 hb1 hb2
          all_goals ((try refine zR2 ?_) <;> (repeat' (with_reducible first | refine And.intro ?_ ?_ | intro _)))
          refine l_call rfl zEvs rfl hA1 zTake zFsub ?_
          rintro _ L' F' ⟨u3, rfl, rfl, rfl⟩
          refine l_isList (.head _) fun hsu3 => ?_
          all_goals ((try refine zR2 ?_) <;> (repeat' (with_reducible first | refine And.intro ?_ ?_ | intro _)))
          refine l_call rfl zEvs rfl hA2 zTake zFsub ?_
          rintro _ L' F' ⟨u4, rfl, rfl, rfl⟩
          refine l_isList (.head _) fun hsu4 => ?_
          dsimp only
          all_goals (((try refine zR2 ?_) <;> (repeat' (with_reducible first | refine And.intro ?_ ?_ | intro _))) <;> (repeat' ((first | ((with_reducible apply l_callP); exact rfl; exact zEvs; exact rfl; (with_reducible apply hC1); (case hF => exact zFsub); (try any_goals (refine propId ?_; omega))) | ((with_reducible apply l_callP); exact rfl; exact zEvs; exact rfl; (with_reducible apply hC2); (case hF => exact zFsub); (try any_goals (refine propId ?_; omega)))) <;> ((try refine zR2 ?_) <;> (repeat' (with_reducible first | refine And.intro ?_ ?_ | intro _))))))
          rename_i b3 b4 b5 b7
          refine c_midQ (κ := Unit) (fun _ => [(103, .bool false), (10, .int .i64 0), (9, .int .i64 o), (6, .int .i64 3), (5, ptr b5), (4, ptr b4), (3, ptr b3), (2, .bool false), (0, vc)]) (fun _ => [.box b7 [.int .i64 (sgn 0), u4, .int .i64 0] 48, .box b5 [.int .i64 (sgn 0), u3, .int .i64 0] 48, .box b4 [.int .i64 (sgn v2), u2, .int .i64 e2] 48, .box b3 [.int .i64 (sgn v1), u1, .int .i64 e1] 48])
            (fun _ => [fList 1 (rInt .i64) u4 (limbs (0 : Int).natAbs), fList 1 (rInt .i64) u3 (limbs (0 : Int).natAbs), fList 1 (rInt .i64) u1 (limbs v1.natAbs), fList 1 (rInt .i64) u2 (limbs v2.natAbs), fCode vc code, fTz, fTab, fMax, fSyn, fRng]) (fun Q0 => ?_) ?_
          · refine c_regs (m' := [(12, .int .i64 0), (11, .int .i64 o), (10, .int .i64 0), (9, .int .i64 o), (8, .int .i64 3), (7, ptr b7), (6, .int .i64 3), (5, ptr b5), (4, ptr b4), (3, ptr b3), (2, .bool false), (0, vc)]) zSub ?_
            refine c_draw ([], []) [.box b3 [.int .i64 (sgn v1), u1, .int .i64 e1] 48, .box b5 [.int .i64 (sgn 0), u3, .int .i64 0] 48, .box b7 [.int .i64 (sgn 0), u4, .int .i64 0] 48] [0, 1, 2, 3, 4, 5, 6, 7, 8, 9, 10, 11, 12, 13, 14, 15, 16, 17, 18, 19, 20, 22, 21, 23, 24, 25] (by kernel_rfl) (by kernel_rfl) ?_
            all_goals (((try refine zD2 ?_) <;> (repeat' (with_reducible first | refine And.intro ?_ ?_ | intro _))) <;> (repeat' ((first | ((with_reducible apply l_callP); exact rfl; exact zEvs; exact rfl; (with_reducible apply dyadic5_spec); (case hF => exact zFsub); (try any_goals (refine propId ?_; omega))) | ((with_reducible apply l_callP); exact rfl; exact zEvs; exact rfl; (with_reducible apply hI1); (case hF => exact zFsub); (try any_goals (refine propId ?_; omega))) | ((with_reducible apply l_callP); exact rfl; exact zEvs; exact rfl; (with_reducible apply hI2); (case hF => exact zFsub); (try any_goals (refine propId ?_; omega)))) <;> ((try refine zD2 ?_) <;> (repeat' (with_reducible first | refine And.intro ?_ ?_ | intro _))))))
            rw [decide_eq_false (show ¬ (¬ o = o) from fun h => h rfl)]
            all_goals (((try refine zD2 ?_) <;> (repeat' (with_reducible first | refine And.intro ?_ ?_ | intro _))) <;> (repeat' ((first | ((with_reducible apply l_callP); exact rfl; exact zEvs; exact rfl; (with_reducible apply dyadic5_spec); (case hF => exact zFsub); (try any_goals (refine propId ?_; omega))) | ((with_reducible apply l_callP); exact rfl; exact zEvs; exact rfl; (with_reducible apply hI1); (case hF => exact zFsub); (try any_goals (refine propId ?_; omega))) | ((with_reducible apply l_callP); exact rfl; exact zEvs; exact rfl; (with_reducible apply hI2); (case hF => exact zFsub); (try any_goals (refine propId ?_; omega)))) <;> ((try refine zD2 ?_) <;> (repeat' (with_reducible first | refine And.intro ?_ ?_ | intro _))))))
            exact e_out () zSub rfl zFsub
          intro _
          all_goals ((try refine zR2 ?_) <;> (repeat' (with_reducible first | refine And.intro ?_ ?_ | intro _)))
          all_goals (first | (exfalso; omega) | skip)
          refine l_call rfl zEvs rfl hF1 zTake zFsub ?_
          rintro _ L' F' ⟨y1, c1, rfl, hy1, hA, rfl, rfl⟩
          all_goals ((try refine zR2 ?_) <;> (repeat' (with_reducible first | refine And.intro ?_ ?_ | intro _)))
          refine l_call rfl zEvs rfl hF2 zTake zFsub ?_
          rintro _ L' F' ⟨y2, c2, rfl, hy2, hB, rfl, rfl⟩
          by_cases hcc : c1 = 0 ∧ c2 = 0
          · obtain ⟨rfl, rfl⟩ := hcc
            obtain ⟨A, hyA, hA⟩ := hA rfl
            obtain ⟨B, hyB, hB⟩ := hB rfl
            have ho := hord A B hA hB
            clear hA hB hord hF1 hF2 hC1 hC2 hI1 hI2
            all_goals ((try refine zR2 ?_) <;> (repeat' (with_reducible first | refine And.intro ?_ ?_ | intro _)))
            all_goals first | (exfalso; omega) | exact l_regsT _ _ zSub zFsub H
          · clear hA hB hord hF1 hF2 hC1 hC2 hI1 hI2
            all_goals ((try refine zR2 ?_) <;> (repeat' (with_reducible first | refine And.intro ?_ ?_ | intro _)))
            all_goals first | (exfalso; omega) | exact l_regsT _ _ zSub zFsub H
      · have hA1 := AddD_bad s1 s2 e1 e2 u1 u2 l1 l2 hDD
        have hA2 := AddS_bad s1 s2 e1 e2 u1 u2 l1 l2 hDD
        have hC1 := CmpD_bad s1 s2 e1 e2 u1 u2 l1 l2 hDD
        have hC2 := CmpS_bad s1 s2 e1 e2 u1 u2 l1 l2 hDD
        have hI1 := IsDyadic_spec s1 e1 u1 l1
        have hI2 := specIs_spec s1 e1 u1 l1
        generalize decide (IsD s1 e1 l1) = b at hI1 hI2
        clear hDD
        all_goals ((try refine zR2 ?_) <;> (repeat' (with_reducible first | refine And.intro ?_ ?_ | intro _)))
        refine l_call rfl zEvs rfl hA1 zTake zFsub ?_
        rintro _ L' F' ⟨u3, rfl, rfl, rfl⟩
        refine l_isList (.head _) fun hsu3 => ?_
        all_goals ((try refine zR2 ?_) <;> (repeat' (with_reducible first | refine And.intro ?_ ?_ | intro _)))
        refine l_call rfl zEvs rfl hA2 zTake zFsub ?_
        rintro _ L' F' ⟨u4, rfl, rfl, rfl⟩
        refine l_isList (.head _) fun hsu4 => ?_
        dsimp only
        all_goals (((try refine zR2 ?_) <;> (repeat' (with_reducible first | refine And.intro ?_ ?_ | intro _))) <;> (repeat' ((first | ((with_reducible apply l_callP); exact rfl; exact zEvs; exact rfl; (with_reducible apply hC1); (case hF => exact zFsub); (try any_goals (refine propId ?_; omega))) | ((with_reducible apply l_callP); exact rfl; exact zEvs; exact rfl; (with_reducible apply hC2); (case hF => exact zFsub); (try any_goals (refine propId ?_; omega)))) <;> ((try refine zR2 ?_) <;> (repeat' (with_reducible first | refine And.intro ?_ ?_ | intro _))))))
        rename_i b3 b4 b5 b7
        refine c_midQ (κ := Unit) (fun _ => [(103, .bool false), (10, .int .i64 1), (9, .int .i64 0), (6, .int .i64 1), (5, ptr b5), (4, ptr b4), (3, ptr b3), (2, .bool false), (0, vc)]) (fun _ => [.box b7 [.int .i64 (sgn 0), u4, .int .i64 0] 48, .box b5 [.int .i64 (sgn 0), u3, .int .i64 0] 48, .box b4 [.int .i64 s2, u2, .int .i64 e2] 48, .box b3 [.int .i64 s1, u1, .int .i64 e1] 48])
          (fun _ => [fList 1 (rInt .i64) u4 (limbs (0 : Int).natAbs), fList 1 (rInt .i64) u3 (limbs (0 : Int).natAbs), fList 1 (rInt .i64) u1 l1, fList 1 (rInt .i64) u2 l2, fCode vc code, fTz, fTab, fMax, fSyn, fRng]) (fun Q0 => ?_) ?_
        · refine c_regs (m' := [(12, .int .i64 1), (11, .int .i64 0), (10, .int .i64 1), (9, .int .i64 0), (8, .int .i64 1), (7, ptr b7), (6, .int .i64 1), (5, ptr b5), (4, ptr b4), (3, ptr b3), (2, .bool false), (0, vc)]) zSub ?_
          refine c_draw ([], []) [.box b3 [.int .i64 s1, u1, .int .i64 e1] 48, .box b5 [.int .i64 (sgn 0), u3, .int .i64 0] 48, .box b7 [.int .i64 (sgn 0), u4, .int .i64 0] 48] [0, 1, 2, 3, 4, 5, 6, 7, 8, 9, 10, 11, 12, 13, 14, 15, 16, 17, 18, 19, 20, 22, 21, 23, 24, 25] (by kernel_rfl) (by kernel_rfl) ?_
          cases b
          all_goals (((try refine zD2 ?_) <;> (repeat' (with_reducible first | refine And.intro ?_ ?_ | intro _))) <;> (repeat' ((first | ((with_reducible apply l_callP); exact rfl; exact zEvs; exact rfl; (with_reducible apply dyadic5_spec); (case hF => exact zFsub); (try any_goals (refine propId ?_; omega))) | ((with_reducible apply l_callP); exact rfl; exact zEvs; exact rfl; (with_reducible apply hI1); (case hF => exact zFsub); (try any_goals (refine propId ?_; omega))) | ((with_reducible apply l_callP); exact rfl; exact zEvs; exact rfl; (with_reducible apply hI2); (case hF => exact zFsub); (try any_goals (refine propId ?_; omega)))) <;> ((try refine zD2 ?_) <;> (repeat' (with_reducible first | refine And.intro ?_ ?_ | intro _))))))
          all_goals exact e_out () zSub rfl zFsub
        intro _
        all_goals ((try refine zR2 ?_) <;> (repeat' (with_reducible first | refine And.intro ?_ ?_ | intro _)))
        all_goals (first | (exfalso; omega) | skip)
        all_goals first | (exfalso; contradiction) | exact l_regsT _ _ zSub zFsub H
    case H =>
      apply via (G := G) (n := 352) (P := Tryz.prog) (m := [(289, vc), (0, vc)]) (L := []) (F := [fCode vc code, fTz, fTab, fMax, fSyn, fRng])
      case k =>
        intro H
        refine l_callMF rfl rfl zEvs rfl (DrawFloorDyadic_spec vc code hb (by omega)) .nil zFsub fun i => ?_
        obtain ⟨⟨⟨⟨s, e⟩, u, l⟩, hc⟩, ⟨k, hk⟩⟩ := i
        have hsu := hc.2.2.2.2
        unfold pk at hk
        dsimp only at hsu ⊢
        clear hc
        by_cases hcd : dcode s e l k = 0
        · obtain ⟨hD, hk2⟩ := dcode_inv hcd
          obtain ⟨v, rfl, rfl, hN, hb1, he⟩ := isD_form hD
          have hF1 := FlD_spec v e k u hD hk2
          have hF2 := FlS_spec v e k u hD hk2
          have hG1 := ClD_spec v e k u hD hk2
          have hG2 := ClS_spec v e k u hD hk2
          by_cases h12 : (dr (shl v (e + k)) (-k)).2 = 0 ∧ (dr (-(shl (-v) (e + k))) (-k)).2 = 0
          · obtain ⟨hd1, hDf⟩ := dr_ok h12.1
            obtain ⟨hd2, hDc⟩ := dr_ok h12.2
            rw [hd1] at hF1 hF2
            rw [hd2] at hG1 hG2
            obtain ⟨fv, hfv⟩ : ∃ x, x = nv (shl v (e + k)) := ⟨_, rfl⟩
            obtain ⟨fe, hfe⟩ : ∃ x, x = ne (shl v (e + k)) (-k) := ⟨_, rfl⟩
            obtain ⟨cv, hcv⟩ : ∃ x, x = nv (-(shl (-v) (e + k))) := ⟨_, rfl⟩
            obtain ⟨ce, hce⟩ : ∃ x, x = ne (-(shl (-v) (e + k))) (-k) := ⟨_, rfl⟩
            have har := around hN he hk2 hfv hfe hcv hce
            rw [← hfv, ← hfe] at hF1 hF2 hDf
            rw [← hcv, ← hce] at hG1 hG2 hDc
            have hL := fun u1 => CmpD_spec fv fe v e u1 u hDf hD
            have hH := fun u1 => CmpD_spec cv ce v e u1 u hDc hD
            have hS := fun u1 u2 => SubD_spec cv ce fv fe u1 u2 hDc hDf
            clear hcd hD hN hb1 he h12 hd1 hd2 hfv hfe hcv hce hDf hDc
            generalize sgn (sumV fv fe (-v) e) = low at hL har
            generalize sgn (sumV cv ce (-v) e) = high at hH har
            generalize dr (sumV cv ce (-fv) fe) (min ce fe) = gap at hS har
            obtain ⟨a1, a2, rfl | ⟨rfl, a3, a4⟩⟩ := har
            · skip
              all_goals ((try refine zR2 ?_) <;> (repeat' (with_reducible first | refine And.intro ?_ ?_ | intro _)))
              refine l_call rfl zEvs rfl hF1 zTake zFsub ?_
              rintro _ L' F' ⟨w1, rfl, rfl, rfl⟩
              refine l_isList (.head _) fun hsw1 => ?_
              all_goals ((try refine zR2 ?_) <;> (repeat' (with_reducible first | refine And.intro ?_ ?_ | intro _)))
              refine l_call rfl zEvs rfl hF2 zTake zFsub ?_
              rintro _ L' F' ⟨w2, rfl, rfl, rfl⟩
              refine l_isList (.head _) fun hsw2 => ?_
              all_goals ((try refine zR2 ?_) <;> (repeat' (with_reducible first | refine And.intro ?_ ?_ | intro _)))
              refine l_call rfl zEvs rfl hG1 zTake zFsub ?_
              rintro _ L' F' ⟨w3, rfl, rfl, rfl⟩
              refine l_isList (.head _) fun hsw3 => ?_
              all_goals ((try refine zR2 ?_) <;> (repeat' (with_reducible first | refine And.intro ?_ ?_ | intro _)))
              refine l_call rfl zEvs rfl hG2 zTake zFsub ?_
              rintro _ L' F' ⟨w4, rfl, rfl, rfl⟩
              refine l_isList (.head _) fun hsw4 => ?_
              dsimp only
              all_goals (((try refine zR2 ?_) <;> (repeat' (with_reducible first | refine And.intro ?_ ?_ | intro _))) <;> (repeat' ((first | ((with_reducible apply l_callP); exact rfl; exact zEvs; exact rfl; (with_reducible apply dyadic5_spec); (case hF => exact zFsub); (try any_goals (refine propId ?_; omega)))) <;> ((try refine zR2 ?_) <;> (repeat' (with_reducible first | refine And.intro ?_ ?_ | intro _))))))
              all_goals first | (exfalso; contradiction) | (exfalso; omega) | skip
              refine l_callP rfl zEvs rfl (hL w1) zFsub ?_
              all_goals ((try refine zR2 ?_) <;> (repeat' (with_reducible first | refine And.intro ?_ ?_ | intro _)))
              refine l_callP rfl zEvs rfl (hH w3) zFsub ?_
              all_goals ((try refine zR2 ?_) <;> (repeat' (with_reducible first | refine And.intro ?_ ?_ | intro _)))
              refine l_call rfl zEvs rfl (hS w3 w1) zTake zFsub ?_
              rintro _ L' F' ⟨w5, rfl, rfl, rfl⟩
              refine l_isList (.head _) fun hsw5 => ?_
              rw [show sgn (((0, 0), 0) : (Int × Int) × Int).1.1 = 0 from rfl]
              dsimp only
              all_goals ((try refine zR2 ?_) <;> (repeat' (with_reducible first | refine And.intro ?_ ?_ | intro _)))
              all_goals first | (exfalso; contradiction) | (exfalso; omega) | exact l_regsT _ _ zSub zFsub H
            · skip
              all_goals ((try refine zR2 ?_) <;> (repeat' (with_reducible first | refine And.intro ?_ ?_ | intro _)))
              refine l_call rfl zEvs rfl hF1 zTake zFsub ?_
              rintro _ L' F' ⟨w1, rfl, rfl, rfl⟩
              refine l_isList (.head _) fun hsw1 => ?_
              all_goals ((try refine zR2 ?_) <;> (repeat' (with_reducible first | refine And.intro ?_ ?_ | intro _)))
              refine l_call rfl zEvs rfl hF2 zTake zFsub ?_
              rintro _ L' F' ⟨w2, rfl, rfl, rfl⟩
              refine l_isList (.head _) fun hsw2 => ?_
              all_goals ((try refine zR2 ?_) <;> (repeat' (with_reducible first | refine And.intro ?_ ?_ | intro _)))
              refine l_call rfl zEvs rfl hG1 zTake zFsub ?_
              rintro _ L' F' ⟨w3, rfl, rfl, rfl⟩
              refine l_isList (.head _) fun hsw3 => ?_
              all_goals ((try refine zR2 ?_) <;> (repeat' (with_reducible first | refine And.intro ?_ ?_ | intro _)))
              refine l_call rfl zEvs rfl hG2 zTake zFsub ?_
              rintro _ L' F' ⟨w4, rfl, rfl, rfl⟩
              refine l_isList (.head _) fun hsw4 => ?_
              dsimp only
              all_goals (((try refine zR2 ?_) <;> (repeat' (with_reducible first | refine And.intro ?_ ?_ | intro _))) <;> (repeat' ((first | ((with_reducible apply l_callP); exact rfl; exact zEvs; exact rfl; (with_reducible apply dyadic5_spec); (case hF => exact zFsub); (try any_goals (refine propId ?_; omega)))) <;> ((try refine zR2 ?_) <;> (repeat' (with_reducible first | refine And.intro ?_ ?_ | intro _))))))
              all_goals first | (exfalso; contradiction) | (exfalso; omega) | skip
              refine l_callP rfl zEvs rfl (hL w1) zFsub ?_
              all_goals ((try refine zR2 ?_) <;> (repeat' (with_reducible first | refine And.intro ?_ ?_ | intro _)))
              refine l_callP rfl zEvs rfl (hH w3) zFsub ?_
              all_goals ((try refine zR2 ?_) <;> (repeat' (with_reducible first | refine And.intro ?_ ?_ | intro _)))
              refine l_call rfl zEvs rfl (hS w3 w1) zTake zFsub ?_
              rintro _ L' F' ⟨w5, rfl, rfl, rfl⟩
              refine l_isList (.head _) fun hsw5 => ?_
              rw [show sgn (((1, -k), 0) : (Int × Int) × Int).1.1 = 1 from rfl, show limbs (((1, -k), 0) : (Int × Int) × Int).1.1.natAbs = [1] from limbs_one (n := 1) (by decide) (by decide)]
              dsimp only
              all_goals ((try refine zR2 ?_) <;> (repeat' (with_reducible first | refine And.intro ?_ ?_ | intro _)))
              all_goals first | (exfalso; contradiction) | (exfalso; omega) | skip
              refine l_freezeInts (ik := .i64) (l := [1]) .head rfl ?_
              refine l_isList (.head _) fun hsw6 => ?_
              refine l_callP rfl zEvs rfl (likeI_spec w5 _ [1]) zFsub ?_
              all_goals ((try refine zR2 ?_) <;> (repeat' (with_reducible first | refine And.intro ?_ ?_ | intro _)))
              all_goals first | (exfalso; contradiction) | (exfalso; omega) | exact l_regsT _ _ zSub zFsub H
          · generalize dr (shl v (e + k)) (-k) = d1 at hF1 hF2 h12
            generalize dr (-(shl (-v) (e + k))) (-k) = d2 at hG1 hG2 h12
            clear hcd hD hN hb1 he
            all_goals ((try refine zR2 ?_) <;> (repeat' (with_reducible first | refine And.intro ?_ ?_ | intro _)))
            refine l_call rfl zEvs rfl hF1 zTake zFsub ?_
            rintro _ L' F' ⟨w1, rfl, rfl, rfl⟩
            refine l_isList (.head _) fun hsw1 => ?_
            all_goals ((try refine zR2 ?_) <;> (repeat' (with_reducible first | refine And.intro ?_ ?_ | intro _)))
            refine l_call rfl zEvs rfl hF2 zTake zFsub ?_
            rintro _ L' F' ⟨w2, rfl, rfl, rfl⟩
            refine l_isList (.head _) fun hsw2 => ?_
            all_goals ((try refine zR2 ?_) <;> (repeat' (with_reducible first | refine And.intro ?_ ?_ | intro _)))
            refine l_call rfl zEvs rfl hG1 zTake zFsub ?_
            rintro _ L' F' ⟨w3, rfl, rfl, rfl⟩
            refine l_isList (.head _) fun hsw3 => ?_
            all_goals ((try refine zR2 ?_) <;> (repeat' (with_reducible first | refine And.intro ?_ ?_ | intro _)))
            refine l_call rfl zEvs rfl hG2 zTake zFsub ?_
            rintro _ L' F' ⟨w4, rfl, rfl, rfl⟩
            refine l_isList (.head _) fun hsw4 => ?_
            dsimp only
            all_goals (((try refine zR2 ?_) <;> (repeat' (with_reducible first | refine And.intro ?_ ?_ | intro _))) <;> (repeat' ((first | ((with_reducible apply l_callP); exact rfl; exact zEvs; exact rfl; (with_reducible apply dyadic5_spec); (case hF => exact zFsub); (try any_goals (refine propId ?_; omega)))) <;> ((try refine zR2 ?_) <;> (repeat' (with_reducible first | refine And.intro ?_ ?_ | intro _))))))
            all_goals first | (exfalso; contradiction) | (exfalso; omega) | exact l_regsT _ _ zSub zFsub H
        · have hF1 := FlD_bad s e k u l hcd
          have hF2 := FlS_bad s e k u l hcd
          have hG1 := ClD_bad s e k u l hcd
          have hG2 := ClS_bad s e k u l hcd
          generalize dcode s e l k = c at hF1 hF2 hG1 hG2 hcd
          all_goals ((try refine zR2 ?_) <;> (repeat' (with_reducible first | refine And.intro ?_ ?_ | intro _)))
          refine l_call rfl zEvs rfl hF1 zTake zFsub ?_
          rintro _ L' F' ⟨w1, rfl, rfl, rfl⟩
          refine l_isList (.head _) fun hsw1 => ?_
          all_goals ((try refine zR2 ?_) <;> (repeat' (with_reducible first | refine And.intro ?_ ?_ | intro _)))
          refine l_call rfl zEvs rfl hF2 zTake zFsub ?_
          rintro _ L' F' ⟨w2, rfl, rfl, rfl⟩
          refine l_isList (.head _) fun hsw2 => ?_
          all_goals ((try refine zR2 ?_) <;> (repeat' (with_reducible first | refine And.intro ?_ ?_ | intro _)))
          refine l_call rfl zEvs rfl hG1 zTake zFsub ?_
          rintro _ L' F' ⟨w3, rfl, rfl, rfl⟩
          refine l_isList (.head _) fun hsw3 => ?_
          all_goals ((try refine zR2 ?_) <;> (repeat' (with_reducible first | refine And.intro ?_ ?_ | intro _)))
          refine l_call rfl zEvs rfl hG2 zTake zFsub ?_
          rintro _ L' F' ⟨w4, rfl, rfl, rfl⟩
          refine l_isList (.head _) fun hsw4 => ?_
          dsimp only
          all_goals (((try refine zR2 ?_) <;> (repeat' (with_reducible first | refine And.intro ?_ ?_ | intro _))) <;> (repeat' ((first | ((with_reducible apply l_callP); exact rfl; exact zEvs; exact rfl; (with_reducible apply dyadic5_spec); (case hF => exact zFsub); (try any_goals (refine propId ?_; omega)))) <;> ((try refine zR2 ?_) <;> (repeat' (with_reducible first | refine And.intro ?_ ?_ | intro _))))))
          all_goals first | (exfalso; contradiction) | (exfalso; omega) | exact l_regsT _ _ zSub zFsub H
      case H =>
        apply via (G := G) (n := 352) (P := Tryz.prog) (m := [(324, vc), (0, vc)]) (L := []) (F := [fCode vc code, fTz, fTab, fMax, fSyn, fRng])
        case k =>
          intro H
          refine l_callM rfl rfl zEvs rfl (DrawParseDyadic_spec vc code hb (by omega)) .nil zFsub fun i => ?_
          obtain ⟨t, ht⟩ := i
          dsimp only
          all_goals ((try refine zR2 ?_) <;> (repeat' (with_reducible first | refine And.intro ?_ ?_ | intro _)))
          refine l_call0 rfl zEvs rfl (ParseDyadic_spec t (by omega)) zTake zFsub PPD.noF ?_
          rintro _ L' (⟨v, e, u, hP, rfl, rfl, _⟩ | ⟨hno, rfl, rfl, _⟩)
          · refine l_freezeInts (ik := .i64) (l := limbs v.natAbs) .head rfl ?_
            refine l_isList (.head _) fun hsu => ?_
            have hTx := TextD_spec v e u hP.2
            rw [← hP.1] at hTx
            all_goals ((try refine zR2 ?_) <;> (repeat' (with_reducible first | refine And.intro ?_ ?_ | intro _)))
            refine l_call rfl zEvs rfl (specParse_spec t (by omega)) zTake zFsub ?_
            rintro _ L' F' ⟨sg2, u2, e2, l2, c2, rfl, rfl, rfl, (⟨v2, hP2, rfl, rfl, rfl⟩ | ⟨hno, _⟩)⟩
            · obtain ⟨rfl, rfl⟩ := hP.same hP2
              refine l_isList (.head _) fun hsu2 => ?_
              clear hP hP2
              all_goals (((try refine zR2 ?_) <;> (repeat' (with_reducible first | refine And.intro ?_ ?_ | intro _))) <;> (repeat' ((first | ((with_reducible apply l_callP); exact rfl; exact zEvs; exact rfl; (with_reducible apply dyadic5_spec); (case hF => exact zFsub); (try any_goals (refine propId ?_; omega))) | ((with_reducible apply l_callP); exact rfl; exact zEvs; exact rfl; (with_reducible apply hTx); (case hF => exact zFsub); (try any_goals (refine propId ?_; omega)))) <;> ((try refine zR2 ?_) <;> (repeat' (with_reducible first | refine And.intro ?_ ?_ | intro _))))))
              all_goals first | (exfalso; contradiction) | (exfalso; omega) | exact l_regsT _ _ zSub zFsub H
            · exact absurd hP (hno v e)
          · refine l_nilInts .i64 ?_
            all_goals ((try refine zR2 ?_) <;> (repeat' (with_reducible first | refine And.intro ?_ ?_ | intro _)))
            refine l_call rfl zEvs rfl (specParse_spec t (by omega)) zTake zFsub ?_
            rintro _ L' F' ⟨sg2, u2, e2, l2, c2, rfl, rfl, rfl, (⟨v2, hP2, rfl, rfl, rfl⟩ | ⟨_, rfl, rfl, rfl, rfl⟩)⟩
            · exact absurd hP2 (hno _ _)
            · refine l_isList (.head _) fun hsu2 => ?_
              all_goals (((try refine zR2 ?_) <;> (repeat' (with_reducible first | refine And.intro ?_ ?_ | intro _))) <;> (repeat' ((first | ((with_reducible apply l_callP); exact rfl; exact zEvs; exact rfl; (with_reducible apply dyadic5_spec); (case hF => exact zFsub); (try any_goals (refine propId ?_; omega)))) <;> ((try refine zR2 ?_) <;> (repeat' (with_reducible first | refine And.intro ?_ ?_ | intro _))))))
              all_goals first | (exfalso; contradiction) | (exfalso; omega) | exact l_regsT _ _ zSub zFsub H
        case H =>
          refine l_call rfl zEvs rfl (DrawDyadicText_spec vc code hb (by omega)) .nil zFsub ?_
          rintro _ L' F' ⟨⟨⟨⟨s, e⟩, u, l⟩, hc⟩, rfl, rfl, rfl⟩
          have hsu := hc.2.2.2.2
          dsimp only at hsu ⊢
          clear hc
          by_cases hD : IsD s e l
          · obtain ⟨v, rfl, rfl, hN, hb1, he⟩ := isD_form hD
            have hTx := TextD_spec v e u hD
            have hwl := wText_le hD.1
            rw [wText_itoa] at hwl
            have hel := itoa_length_le e (by omega) (by omega)
            obtain ⟨t, ht⟩ : ∃ t, t = itoa v ++ 112 :: itoa e := ⟨_, rfl⟩
            have htl : t.length ≤ 400000000 := by rw [ht, List.length_append, List.length_cons]; omega
            rw [← ht] at hTx
            have hP : PDy t v e := ⟨ht, hD⟩
            clear hN hb1 hD hwl hel ht
            all_goals (((try refine zR2 ?_) <;> (repeat' (with_reducible first | refine And.intro ?_ ?_ | intro _))) <;> (repeat' ((first | ((with_reducible apply l_callP); exact rfl; exact zEvs; exact rfl; (with_reducible apply hTx); (case hF => exact zFsub); (try any_goals (refine propId ?_; omega)))) <;> ((try refine zR2 ?_) <;> (repeat' (with_reducible first | refine And.intro ?_ ?_ | intro _))))))
            all_goals first | (exfalso; contradiction) | (exfalso; omega) | skip
            refine l_call0 rfl zEvs rfl (ParseDyadic_spec t htl) zTake zFsub PPD.noF ?_
            rintro _ L' (⟨v2, e2, u2, hP2, rfl, rfl, _⟩ | ⟨hno, rfl, rfl, _⟩)
            · obtain ⟨rfl, rfl⟩ := hP.same hP2
              refine l_freezeInts (ik := .i64) (l := limbs v.natAbs) .head rfl ?_
              refine l_isList (.head _) fun hsu2 => ?_
              all_goals (((try refine zR2 ?_) <;> (repeat' (with_reducible first | refine And.intro ?_ ?_ | intro _))) <;> (repeat' ((first | ((with_reducible apply l_callP); exact rfl; exact zEvs; exact rfl; (with_reducible apply dyadic5_spec); (case hF => exact zFsub); (try any_goals (refine propId ?_; omega)))) <;> ((try refine zR2 ?_) <;> (repeat' (with_reducible first | refine And.intro ?_ ?_ | intro _))))))
              all_goals first | (exfalso; contradiction) | (refine e_gives rfl zRes ?_; first | rfl | (simp [retVal, *]; done) | (simp_all [retVal]; done) | (simp only [retVal]))
            · exact absurd hP (hno v e)
          · have hTx := TextD_bad s e u l hD
            have hI := IsDyadic_spec s e u l
            rw [decide_eq_false hD] at hI
            clear hD
            all_goals (((try refine zR2 ?_) <;> (repeat' (with_reducible first | refine And.intro ?_ ?_ | intro _))) <;> (repeat' ((first | ((with_reducible apply l_callP); exact rfl; exact zEvs; exact rfl; (with_reducible apply hTx); (case hF => exact zFsub); (try any_goals (refine propId ?_; omega))) | ((with_reducible apply l_callP); exact rfl; exact zEvs; exact rfl; (with_reducible apply hI); (case hF => exact zFsub); (try any_goals (refine propId ?_; omega)))) <;> ((try refine zR2 ?_) <;> (repeat' (with_reducible first | refine And.intro ?_ ?_ | intro _))))))
            all_goals first | (exfalso; contradiction) | (refine e_gives rfl zRes ?_; first | rfl | (simp [retVal, *]; done) | (simp_all [retVal]; done) | (simp only [retVal]))
end Go.Proofs.YtbllgmcpebifhaaGreatDoor.K
