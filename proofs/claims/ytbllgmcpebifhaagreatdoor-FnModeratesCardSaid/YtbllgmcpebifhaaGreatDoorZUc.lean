/- The law of moderates. -/
import Derived.Test.YtbllgmcpebifhaaGreatDoorZUa
namespace Go.Proofs.YtbllgmcpebifhaaGreatDoor.K
open Go Go.RowKit Ieee
set_option linter.all false
set_option maxRecDepth 60000
set_option maxHeartbeats 6000000

theorem SepOut.can {l out : List (Nat × Nat)} {c : Int} (h : SepOut l c out) : ∀ p ∈ out, Can p := by
  rcases h with ⟨_, _, _, _, h⟩ | ⟨_, _, _, rfl⟩ | ⟨_, _, rfl⟩
  · exact h
  · intro p h; cases h
  · intro p h; cases h
theorem SepOut.dif {l out : List (Nat × Nat)} {c : Int} (h : SepOut l c out) {i k : Nat} {z w : Nat × Nat} (hi : out[i]? = some z) (hk : out[k]? = some w) (hki : k < i) : z ≠ w := by
  rcases h with ⟨_, _, _, h, _⟩ | ⟨_, _, _, rfl⟩ | ⟨_, _, rfl⟩
  · exact h.differ hi hk hki
  · simp at hi
  · simp at hi
theorem can_mod {z : Nat × Nat} (h : Can z) : (isModB z.1 && isModB z.2) = true := by
  obtain ⟨a, b, ha, hb⟩ := h
  rw [ha.is, hb.is]
  rfl
theorem can_64 {z : Nat × Nat} (h : Can z) : z.1 < 18446744073709551616 ∧ z.2 < 18446744073709551616 := by
  obtain ⟨a, b, ha, hb⟩ := h
  exact ⟨ha.1.1, hb.1.1⟩
theorem l_regsQ {G : Ctx} {n : Nat} {P : Program} {ops : Array Oper} {Q : Post} {rest : List Oper} {m : Regs} {L : List Own} {F : List Fact} (m' : Regs) (F' : List Fact) (hm : ∀ t v, look m' t = some v → look m t = some v) (hF : ∀ φ, φ ∈ F' → φ ∈ F) (h : RunL G n P ops Q rest m' L F') : RunL G n P ops Q rest m L F := fun a w s => h a w (s.sub hm hF)
theorem via {G : Ctx} {n : Nat} {P : Program} {ops : Array Oper} {Q : Post} {rest : List Oper} {m : Regs} {L : List Own} {F : List Fact} {g : Prop} (H : RunL G n P ops Q rest m L F) (k : RunL G n P ops Q rest m L F → g) : g := k H
/-- A moderate number stays as it is. -/
theorem mod_same {x : Nat} (hx : Fin1 x) (h : isModB x = true) : fcmp .eql (modW x) x = true := by
  obtain ⟨_, a, ha⟩ := hx
  obtain ⟨h1, q, hq⟩ := (isMod_iff ha).1 h
  have hm : mp a = a := by rw [hq]; exact mp_fix q
  have hM := Mod1.of ha h1
  unfold modW
  rw [fval_of ha, (fcmp_val hM.1.2.1 ha).1]
  exact decide_eq_true hm
theorem ends_isListQ {G : Ctx} {n : Nat} {Q : Post} {m : Regs} {L : List Own} {F : List Fact} {e : Exit} {v : Value} {α : Type} {s : Nat} {R : Rep α} {l : List α} (hF : fList s R v l ∈ F) (h : IsSl v → Ends G n Q e m L F) : Ends G n Q e m L F := fun a w st => by
  obtain ⟨ad, c, hv, _⟩ := ListAt.slice (st.facts _ hF)
  exact h ⟨ad, _, c, hv⟩ a w st
theorem FnModerates_spec (vc : Value) (code : List Int) (hb : Bytes code) : Spec Tryz.prog 3 [vc] [] [fCode vc code, fTz] (Gives (.bool true)) := by
  refine enter Tryz.func3 Tryz.ntmps3 rfl (by kernel_rfl) zCon rfl fun G => ?_
  refine c_isList (v := vc) zMem fun hsa => ?_
  have hbig := big_spec vc code
  all_goals (((try refine zR3 ?_) <;> (repeat' (with_reducible first | refine And.intro ?_ ?_ | intro _))) <;> (repeat' ((first | ((with_reducible apply l_callP); exact rfl; exact zEvs; exact rfl; (with_reducible apply hbig); (case hF => exact zFsub); (try any_goals (refine propId ?_; omega)))) <;> ((try refine zR3 ?_) <;> (repeat' (with_reducible first | refine And.intro ?_ ?_ | intro _))))))
  · (refine e_gives rfl zRes ?_; first | rfl | (simp [retVal, *]; done) | (simp_all [retVal]; done) | (simp only [retVal]))
  · have hl : code.length ≤ 4096 := by omega
    apply via (G := G) (n := 233) (P := Tryz.prog) (m := [(66, vc), (0, vc)]) (L := []) (F := [fCode vc code, fTz])
    case k =>
      intro H
      refine l_callM rfl rfl zEvs rfl (DrawMakeModerate_spec vc code hb (by omega)) .nil zFsub fun u => ?_
      obtain ⟨⟨x, hx⟩, ⟨y, hy⟩⟩ := u
      dsimp only
      have hM1 := MakeModerate_spec x y hx hy
      have hM2 := specMakeModerate_spec x y hx hy
      by_cases hok : cfin (x, y) = true ∧ fitC (x, y) = true
      · have hv : mmW (x, y) = .tuple #[.complex .f64 (modW x) (modW y), .int .i64 0] := by unfold mmW mmV; rw [if_pos hok.1, if_pos hok.2]; rfl
        rw [hv] at hM1 hM2
        have hw := wide9_spec (modW x, modW y) (modW x, modW y) rfl
        dsimp only at hw
        have hcf := hok.1
        unfold cfin at hcf
        rw [Bool.and_eq_true] at hcf
        have hF : Fin2 (x, y) := ⟨fin1_of hx hcf.1, fin1_of hy hcf.2⟩
        have hcan0 := modC_can (z := (x, y)) hF hok.2
        have hcan : Can (modW x, modW y) := by
          unfold modC at hcan0
          exact hcan0
        clear hcan0
        have h64 := can_64 hcan
        have hcm := can_mod hcan
        dsimp only at h64 hcm
        have hI1 := IsModerate_spec (modW x) (modW y) h64.1 h64.2
        rw [hcm] at hI1
        have hI2 := IsModerate_spec x y hx hy
        have hsame : (isModB x && isModB y) = true → ceq (modW x, modW y) (x, y) = true := fun h => by
          rw [Bool.and_eq_true] at h
          unfold ceq
          rw [mod_same hF.1 h.1, mod_same hF.2 h.2]
          rfl
        clear hv hcan hcm hok hcf hF h64
        cases hbz : (isModB x && isModB y) with
        | true =>
          rw [hbz] at hI2
          have hcq := hsame hbz
          all_goals (((try refine zR3 ?_) <;> (repeat' (with_reducible first | refine And.intro ?_ ?_ | intro _))) <;> (repeat' ((first | ((with_reducible apply l_callP); exact rfl; exact zEvs; exact rfl; (with_reducible apply hM1); (case hF => exact zFsub); (try any_goals (refine propId ?_; omega))) | ((with_reducible apply l_callP); exact rfl; exact zEvs; exact rfl; (with_reducible apply hM2); (case hF => exact zFsub); (try any_goals (refine propId ?_; omega)))) <;> ((try refine zR3 ?_) <;> (repeat' (with_reducible first | refine And.intro ?_ ?_ | intro _))))))
          all_goals (first | (exfalso; omega) | skip)
          refine l_callP rfl zEvs rfl hw zFsub ?_
          all_goals ((try refine zR3 ?_) <;> (repeat' (with_reducible first | refine And.intro ?_ ?_ | intro _)))
          all_goals (first | (exfalso; omega) | skip)
          refine l_callP rfl zEvs rfl hI1 zFsub ?_
          all_goals ((try refine zR3 ?_) <;> (repeat' (with_reducible first | refine And.intro ?_ ?_ | intro _)))
          refine l_callP rfl zEvs rfl hI2 zFsub ?_
          all_goals ((try refine zR3 ?_) <;> (repeat' (with_reducible first | refine And.intro ?_ ?_ | intro _)))
          all_goals try (exfalso; have a1 : ceq (modW x, modW y) (x, y) = false := (by assumption); rw [hcq] at a1; cases a1)
          exact l_regsQ _ _ zSub zFsub H
        | false =>
          rw [hbz] at hI2
          all_goals (((try refine zR3 ?_) <;> (repeat' (with_reducible first | refine And.intro ?_ ?_ | intro _))) <;> (repeat' ((first | ((with_reducible apply l_callP); exact rfl; exact zEvs; exact rfl; (with_reducible apply hM1); (case hF => exact zFsub); (try any_goals (refine propId ?_; omega))) | ((with_reducible apply l_callP); exact rfl; exact zEvs; exact rfl; (with_reducible apply hM2); (case hF => exact zFsub); (try any_goals (refine propId ?_; omega)))) <;> ((try refine zR3 ?_) <;> (repeat' (with_reducible first | refine And.intro ?_ ?_ | intro _))))))
          all_goals (first | (exfalso; omega) | skip)
          refine l_callP rfl zEvs rfl hw zFsub ?_
          all_goals ((try refine zR3 ?_) <;> (repeat' (with_reducible first | refine And.intro ?_ ?_ | intro _)))
          all_goals (first | (exfalso; omega) | skip)
          refine l_callP rfl zEvs rfl hI1 zFsub ?_
          all_goals ((try refine zR3 ?_) <;> (repeat' (with_reducible first | refine And.intro ?_ ?_ | intro _)))
          refine l_callP rfl zEvs rfl hI2 zFsub ?_
          all_goals ((try refine zR3 ?_) <;> (repeat' (with_reducible first | refine And.intro ?_ ?_ | intro _)))
          exact l_regsQ _ _ zSub zFsub H
      · obtain ⟨c, hv, hc⟩ : ∃ c, mmW (x, y) = .tuple #[.complex .f64 0 0, .int .i64 c] ∧ c ≠ 0 := by
          unfold mmW mmV
          by_cases h1 : cfin (x, y) = true
          · rw [if_pos h1, if_neg (fun h2 => hok ⟨h1, h2⟩)]; exact ⟨3, rfl, by decide⟩
          · rw [if_neg h1]; exact ⟨1, rfl, by decide⟩
        rw [hv] at hM1 hM2
        have hw := wide9_spec (0, 0) (0, 0) rfl
        dsimp only at hw
        all_goals (((try refine zR3 ?_) <;> (repeat' (with_reducible first | refine And.intro ?_ ?_ | intro _))) <;> (repeat' ((first | ((with_reducible apply l_callP); exact rfl; exact zEvs; exact rfl; (with_reducible apply hM1); (case hF => exact zFsub); (try any_goals (refine propId ?_; omega))) | ((with_reducible apply l_callP); exact rfl; exact zEvs; exact rfl; (with_reducible apply hM2); (case hF => exact zFsub); (try any_goals (refine propId ?_; omega)))) <;> ((try refine zR3 ?_) <;> (repeat' (with_reducible first | refine And.intro ?_ ?_ | intro _))))))
        all_goals (first | (exfalso; omega) | skip)
        refine l_callP rfl zEvs rfl hw zFsub ?_
        all_goals ((try refine zR3 ?_) <;> (repeat' (with_reducible first | refine And.intro ?_ ?_ | intro _)))
        all_goals (first | (exfalso; omega) | skip)
        exact l_regsQ _ _ zSub zFsub H
    case H =>
      refine l_callM rfl rfl zEvs rfl (DrawSeparatePoints_spec vc code hb (by omega)) .nil zFsub fun u => ?_
      obtain ⟨⟨v8, l⟩, hs8, hP⟩ := u
      dsimp only at hs8 hP ⊢
      obtain ⟨hb64, hl8⟩ := pts_bound hP
      have hS1 := sepU (SeparatePoints_spec v8 l hb64 (pts_sml hP))
      have hS2 := sepU (specSeparatePoints_spec v8 l hb64 (pts_sml hP))
      refine l_frzCx (v := v8) (l := l) zEra rfl ?_
      refine l_isList (v := v8) zMem fun _ => ?_
      all_goals ((try refine zR3 ?_) <;> (repeat' (with_reducible first | refine And.intro ?_ ?_ | intro _)))
      refine l_call rfl zEvs rfl hS1 zTake zFsub ?_
      rintro _ L' F' ⟨u9, _, out, rfl, ⟨c1, rfl, ho1⟩, rfl, rfl⟩
      refine l_isList (v := u9) zMem fun _ => ?_
      all_goals ((try refine zR3 ?_) <;> (repeat' (with_reducible first | refine And.intro ?_ ?_ | intro _)))
      refine l_regsQ [(74, v8), (0, vc), (9, u9), (10, .int .i64 c1)] [fList 1 rCx u9 out, fList 1 rCx v8 l, fCode vc code, fTz] zSub zFsub ?_
      refine l_call rfl zEvs rfl hS2 zTake zFsub ?_
      rintro _ L' F' ⟨u11, _, out', rfl, ⟨c2, rfl, ho2⟩, rfl, rfl⟩
      refine l_isList (v := u11) zMem fun _ => ?_
      obtain ⟨rfl, rfl⟩ := ho1.uniq ho2
      have hw2 := wides9_spec u9 u11 out out rfl
      all_goals ((try refine zR3 ?_) <;> (repeat' (with_reducible first | refine And.intro ?_ ?_ | intro _)))
      all_goals (first | (exfalso; omega) | skip)
      refine l_regsQ [(81, .bool false), (82, u9), (83, u11), (0, vc), (9, u9)] [fList 1 rCx u9 out, fList 1 rCx u11 out, fCode vc code, fTz] zSub zFsub ?_
      refine l_callP rfl zEvs rfl hw2 zFsub ?_
      all_goals ((try refine zR3 ?_) <;> (repeat' (with_reducible first | refine And.intro ?_ ?_ | intro _)))
      all_goals (first | (exfalso; omega) | skip)
      refine c_while (ι := {i : Nat // i ≤ out.length}) (κ := Unit) (fun i => [(0, vc), (9, u9), (13, .int .i64 (i.1 : Int))]) (fun _ => []) (fun _ => [fList 1 rCx u9 out, fCode vc code, fTz]) (fun i => out.length - i.1)
        (fun _ => [(0, vc)]) (fun _ => []) (fun _ => [fCode vc code, fTz]) ⟨0, Nat.zero_le _⟩ (fun _ _ s => s.startT zSub zTake zFsub) ?_ ?_
      · rintro ⟨i, hi⟩
        dsimp only at hi ⊢
        refine c_isList (v := u9) zMem fun _ => ?_
        by_cases hil : i < out.length
        · obtain ⟨z, hz⟩ : ∃ z, out[i]? = some z := ⟨_, List.getElem?_eq_getElem hil⟩
          have hcz := ho1.can z (List.mem_of_getElem? hz)
          have hIm := IsModerate_spec z.1 z.2 (can_64 hcz).1 (can_64 hcz).2
          rw [can_mod hcz] at hIm
          all_goals (((try refine zR3 ?_) <;> (repeat' (with_reducible first | refine And.intro ?_ ?_ | intro _))) <;> (repeat' ((first | ((with_reducible apply l_callP); exact rfl; exact zEvs; exact rfl; (with_reducible apply hIm); (case hF => exact zFsub); (try any_goals (refine propId ?_; omega)))) <;> ((try refine zR3 ?_) <;> (repeat' (with_reducible first | refine And.intro ?_ ?_ | intro _))))))
          all_goals (first | (exfalso; omega) | skip)
          refine c_while (ι := {k : Nat // k ≤ i}) (κ := Unit) (fun k => [(0, vc), (9, u9), (13, .int .i64 (i : Int)), (14, .int .i64 (k.1 : Int))]) (fun _ => []) (fun _ => [fList 1 rCx u9 out, fCode vc code, fTz]) (fun k => i - k.1)
            (fun _ => [(0, vc), (9, u9), (13, .int .i64 (i : Int))]) (fun _ => []) (fun _ => [fList 1 rCx u9 out, fCode vc code, fTz]) ⟨0, Nat.zero_le _⟩ (fun _ _ s => s.startT zSub zTake zFsub) ?_ ?_
          · rintro ⟨k, hk⟩
            dsimp only at hk ⊢
            refine c_isList (v := u9) zMem fun _ => ?_
            by_cases hkl : k < i
            · obtain ⟨w, hw⟩ : ∃ w, out[k]? = some w := ⟨_, List.getElem?_eq_getElem (by omega)⟩
              have hcq : ceq z w = false := by rw [ceq_can hcz (ho1.can w (List.mem_of_getElem? hw))]; exact decide_eq_false (ho1.dif hz hw hkl)
              all_goals ((try refine zR3 ?_) <;> (repeat' (with_reducible first | refine And.intro ?_ ?_ | intro _)))
              all_goals (first | (exfalso; omega) | skip)
              refine c_draw ([], []) [] [0, 1, 2, 3, 4, 5, 6, 7, 8, 9] (by kernel_rfl) (by kernel_rfl) ?_
              all_goals ((try refine zD3 ?_) <;> (repeat' (with_reducible first | refine And.intro ?_ ?_ | intro _)))
              all_goals try (exfalso; have a1 : (!ceq z w) = false := (by assumption); rw [hcq] at a1; exact absurd a1 (by decide))
              all_goals try (exfalso; have a1 : ceq z w = true := (by assumption); rw [hcq] at a1; exact absurd a1 (by decide))
              exact e_againT (Lr := []) ⟨k + 1, hkl⟩ (by dsimp only; omega) zSub zTake zFsub
            · have hke : k = i := by omega
              subst hke
              all_goals ((try refine zR3 ?_) <;> (repeat' (with_reducible first | refine And.intro ?_ ?_ | intro _)))
              all_goals (first | (exfalso; omega) | skip)
              exact e_outT (Lr := []) () zSub zTake zFsub
          · intro _
            all_goals ((try refine zR3 ?_) <;> (repeat' (with_reducible first | refine And.intro ?_ ?_ | intro _)))
            exact e_againT (Lr := []) ⟨i + 1, hil⟩ (by dsimp only; omega) zSub zTake zFsub
        · all_goals ((try refine zR3 ?_) <;> (repeat' (with_reducible first | refine And.intro ?_ ?_ | intro _)))
          all_goals (first | (exfalso; omega) | skip)
          exact e_outT (Lr := []) () zSub zTake zFsub
      · intro _
        refine ends_isListQ (v := vc) zMem fun _ => ?_
        all_goals ((try refine zR3 ?_) <;> (repeat' (with_reducible first | refine And.intro ?_ ?_ | intro _)))
        refine l_callM rfl rfl zEvs rfl (DrawClustersOf_spec vc code hb (by omega)) .nil zFsub fun u => ?_
        obtain ⟨⟨⟨v15, lc⟩, hs15, hPc⟩, r⟩ := u
        dsimp only at hs15 hPc ⊢
        obtain ⟨_, hlc8⟩ := pts_bound hPc
        have hC1 := clsU (ClustersOf_spec v15 lc r (by omega))
        have hC2 := clsU (specClustersOf_spec v15 lc r (by omega))
        refine l_frzCx (v := v15) (l := lc) zEra rfl ?_
        refine l_isList (v := v15) zMem fun _ => ?_
        all_goals ((try refine zR3 ?_) <;> (repeat' (with_reducible first | refine And.intro ?_ ?_ | intro _)))
        refine l_regsQ [(120, v15), (121, .float .f64 r), (15, v15), (16, .float .f64 r)] [fList 1 rCx v15 lc] zSub zFsub ?_
        refine l_call rfl zEvs rfl hC1 zTake zFsub ?_
        rintro _ L' F' ⟨v17, rfl, rfl, rfl⟩
        refine l_isList (v := v17) zMem fun _ => ?_
        all_goals ((try refine zR3 ?_) <;> (repeat' (with_reducible first | refine And.intro ?_ ?_ | intro _)))
        refine l_regsQ [(126, v15), (127, .float .f64 r), (15, v15), (16, .float .f64 r), (17, v17), (18, .int .i64 (clC lc r))] [fList 1 (rList 1 (rInt .i64)) v17 (qs (clS lc r)), fList 1 rCx v15 lc] zSub zFsub ?_
        refine l_call rfl zEvs rfl hC2 zTake zFsub ?_
        rintro _ L' F' ⟨v19, rfl, rfl, rfl⟩
        refine l_isList (v := v19) zMem fun _ => ?_
        have hL9 := lists9_spec v17 v19 (qs (clS lc r))
        all_goals ((try refine zR3 ?_) <;> (repeat' (with_reducible first | refine And.intro ?_ ?_ | intro _)))
        all_goals (first | (exfalso; omega) | skip)
        refine l_regsQ [(134, .bool false), (135, v17), (136, v19), (15, v15), (16, .float .f64 r), (17, v17), (18, .int .i64 (clC lc r))] [fList 1 (rList 1 (rInt .i64)) v17 (qs (clS lc r)), fList 1 (rList 1 (rInt .i64)) v19 (qs (clS lc r)), fList 1 rCx v15 lc] zSub zFsub ?_
        refine l_callP rfl zEvs rfl hL9 zFsub ?_
        refine l_isList (v := v17) zMem fun _ => ?_
        refine l_isList (v := v15) zMem fun _ => ?_
        by_cases hcl : clC lc r = 0
        · obtain ⟨f1, f2, f3, f4, f5⟩ := clS_facts hcl
          have hend := @Lab.same lc r
          rw [hcl]
          obtain ⟨S, hS⟩ : ∃ S, clS lc r = S := ⟨_, rfl⟩
          rw [hS] at f1 f2 f3 f4 f5 ⊢
          simp only [hS] at hend
          clear hL9 hC1 hC2
          have htot := tot_end S
          rw [f5] at htot
          have hqsl := qs_len S
          all_goals ((try refine zR3 ?_) <;> (repeat' (with_reducible first | refine And.intro ?_ ?_ | intro _)))
          all_goals (first | (exfalso; omega) | skip)
          rename_i vl
          refine c_while (ι := {y : Nat × List Int // y.1 ≤ S.length ∧ Lab S lc.length y.1 0 y.2}) (κ := {lb : List Int // Lab S lc.length S.length 0 lb})
            (fun y => [(15, v15), (16, .float .f64 r), (17, v17), (21, vl), (22, .int .i64 (tot S y.1.1 : Int)), (23, .int .i64 (y.1.1 : Int))]) (fun y => [.row vl 3 1 lc.length (y.1.2.map (Value.int .i64))]) (fun _ => [fList 1 (rList 1 (rInt .i64)) v17 (qs S), fList 1 rCx v15 lc]) (fun y => S.length - y.1.1)
            (fun _ => [(15, v15), (16, .float .f64 r), (21, vl), (22, .int .i64 (lc.length : Int))]) (fun lb => [.row vl 3 1 lc.length (lb.1.map (Value.int .i64))]) (fun _ => [fList 1 rCx v15 lc]) ⟨(0, List.replicate lc.length 0), Nat.zero_le _, Lab.start S lc.length⟩ (fun _ _ s => s.startT zSub zTake zFsub) ?_ ?_
          · rintro ⟨⟨g, lb⟩, hg, hLab⟩
            dsimp only at hg hLab ⊢
            refine c_isList (v := v17) zMem fun _ => ?_
            by_cases hgl : g < S.length
            · obtain ⟨grp, hgrp⟩ : ∃ grp, S[g]? = some grp := ⟨_, List.getElem?_eq_getElem hgl⟩
              have hg2 := qs_get hgrp
              have hqi := qi_len grp
              have hts := tot_step hgrp
              have hgm := List.mem_of_getElem? hgrp
              have htl := tot_le S (g + 1)
              rw [f5] at htl
              all_goals ((try refine zR3 ?_) <;> (repeat' (with_reducible first | refine And.intro ?_ ?_ | intro _)))
              all_goals (first | (exfalso; omega) | skip)
              refine c_while (ι := {y : Nat × List Int // y.1 ≤ grp.length ∧ Lab S lc.length g y.1 y.2}) (κ := {lb : List Int // Lab S lc.length g grp.length lb})
                (fun y => [(15, v15), (16, .float .f64 r), (17, v17), (21, vl), (22, .int .i64 ((tot S g : Int) + (y.1.1 : Int))), (23, .int .i64 (g : Int)), (24, .int .i64 (y.1.1 : Int))]) (fun y => [.row vl 3 1 lc.length (y.1.2.map (Value.int .i64))]) (fun _ => [fList 1 (rList 1 (rInt .i64)) v17 (qs S), fList 1 rCx v15 lc]) (fun y => grp.length - y.1.1)
                (fun _ => [(15, v15), (16, .float .f64 r), (17, v17), (21, vl), (22, .int .i64 (tot S (g + 1) : Int)), (23, .int .i64 (g : Int))]) (fun lb => [.row vl 3 1 lc.length (lb.1.map (Value.int .i64))]) (fun _ => [fList 1 (rList 1 (rInt .i64)) v17 (qs S), fList 1 rCx v15 lc]) ⟨(0, lb), Nat.zero_le _, hLab⟩ (fun _ _ s => s.startT zSub zTake zFsub) ?_ ?_
              · rintro ⟨⟨i, lb⟩, hi, hLab⟩
                dsimp only at hi hLab ⊢
                have hlbl : lb.length = lc.length := hLab.len
                refine c_isList (v := v17) zMem fun _ => ?_
                refine c_isList (v := v15) zMem fun _ => ?_
                by_cases hil : i < grp.length
                · obtain ⟨y, hy⟩ : ∃ y, grp[i]? = some y := ⟨_, List.getElem?_eq_getElem hil⟩
                  have hyn := f2 grp hgm y (List.mem_of_getElem? hy)
                  have hy2 := qi_get hy
                  have hstep := hLab.step f1 hgrp hy hyn
                  all_goals (((try refine zR3 ?_) <;> (repeat' (with_reducible first | refine And.intro ?_ ?_ | intro _))) <;> (repeat' ((first | (refine l_loadLL rfl rfl zMem rfl hg2 rfl fun _ => ?_)) <;> ((try refine zR3 ?_) <;> (repeat' (with_reducible first | refine And.intro ?_ ?_ | intro _))))))
                  all_goals (first | (exfalso; omega) | skip)
                  exact e_againT (Lr := []) ⟨(i + 1, lb.set y (g : Int)), hil, hstep⟩ (by dsimp only; omega) (by dsimp only; rw [show ((i + 1 : Nat) : Int) = (i : Int) + 1 by omega, ← Int.add_assoc]; exact zSub) zTake zFsub
                · have hie : i = grp.length := by omega
                  subst hie
                  all_goals (((try refine zR3 ?_) <;> (repeat' (with_reducible first | refine And.intro ?_ ?_ | intro _))) <;> (repeat' ((first | (refine l_loadLL rfl rfl zMem rfl hg2 rfl fun _ => ?_)) <;> ((try refine zR3 ?_) <;> (repeat' (with_reducible first | refine And.intro ?_ ?_ | intro _))))))
                  all_goals (first | (exfalso; omega) | skip)
                  exact e_outT (Lr := []) ⟨lb, hLab⟩ zSub zTake zFsub
              · rintro ⟨lb, hLab⟩
                dsimp only at hLab ⊢
                all_goals ((try refine zR3 ?_) <;> (repeat' (with_reducible first | refine And.intro ?_ ?_ | intro _)))
                exact e_againT (Lr := []) ⟨(g + 1, lb), hgl, hLab.next hgrp⟩ (by dsimp only; omega) zSub zTake zFsub
            · have hge : g = S.length := by omega
              subst hge
              all_goals ((try refine zR3 ?_) <;> (repeat' (with_reducible first | refine And.intro ?_ ?_ | intro _)))
              all_goals (first | (exfalso; omega) | skip)
              exact e_outT (Lr := []) ⟨lb, hLab⟩ zSub zTake zFsub
          · rintro ⟨lb, hLab⟩
            dsimp only at hLab ⊢
            have hlbl : lb.length = lc.length := hLab.len
            have hsame := fun x k => @hend lb hcl hLab x k
            all_goals ((try refine zR3 ?_) <;> (repeat' (with_reducible first | refine And.intro ?_ ?_ | intro _)))
            all_goals (first | (exfalso; omega) | skip)
            refine c_while (ι := {i : Nat // i ≤ lc.length}) (κ := Unit)
              (fun i => [(15, v15), (16, .float .f64 r), (21, vl), (25, .int .i64 (i.1 : Int))]) (fun _ => [.row vl 3 1 lc.length (lb.map (Value.int .i64))]) (fun _ => [fList 1 rCx v15 lc]) (fun i => lc.length - i.1)
              (fun _ => []) (fun _ => []) (fun _ => []) ⟨0, Nat.zero_le _⟩ (fun _ _ s => s.startT zSub zTake zFsub) ?_ ?_
            · rintro ⟨i, hi⟩
              dsimp only at hi ⊢
              refine c_isList (v := v15) zMem fun _ => ?_
              by_cases hil : i < lc.length
              · all_goals ((try refine zR3 ?_) <;> (repeat' (with_reducible first | refine And.intro ?_ ?_ | intro _)))
                all_goals (first | (exfalso; omega) | skip)
                refine c_while (ι := {k : Nat // k ≤ i}) (κ := Unit)
                  (fun k => [(15, v15), (16, .float .f64 r), (21, vl), (25, .int .i64 (i : Int)), (26, .int .i64 (k.1 : Int))]) (fun _ => [.row vl 3 1 lc.length (lb.map (Value.int .i64))]) (fun _ => [fList 1 rCx v15 lc]) (fun k => i - k.1)
                  (fun _ => [(15, v15), (16, .float .f64 r), (21, vl), (25, .int .i64 (i : Int))]) (fun _ => [.row vl 3 1 lc.length (lb.map (Value.int .i64))]) (fun _ => [fList 1 rCx v15 lc]) ⟨0, Nat.zero_le _⟩ (fun _ _ s => s.startT zSub zTake zFsub) ?_ ?_
                · rintro ⟨k, hk⟩
                  dsimp only at hk ⊢
                  refine c_isList (v := v15) zMem fun hs15 => ?_
                  by_cases hkl : k < i
                  · obtain ⟨zi, hzi⟩ : ∃ z, lc[i]? = some z := ⟨_, List.getElem?_eq_getElem hil⟩
                    obtain ⟨zk, hzk⟩ : ∃ z, lc[k]? = some z := ⟨_, List.getElem?_eq_getElem (by omega)⟩
                    have hJk : fcmp .leq (csize (csub zi zk)) r = Jr lc r i k := by unfold Jr; rw [getD_cx hzi, getD_cx hzk]
                    all_goals ((try refine zR3 ?_) <;> (repeat' (with_reducible first | refine And.intro ?_ ?_ | intro _)))
                    all_goals (first | (exfalso; omega) | skip)
                    refine c_draw ([22], []) [.row vl 3 1 lc.length (lb.map (Value.int .i64))] [0, 1, 2, 3, 4, 5, 6, 7, 10, 8, 9, 11, 12, 13, 14, 15, 16, 17, 18, 19, 20, 21, 22] (by kernel_rfl) (by kernel_rfl) ?_
                    all_goals ((try refine zD3 ?_) <;> (repeat' (with_reducible first | refine And.intro ?_ ?_ | intro _)))
                    rename_i u
                    have hSu : csize (u.1.1, u.1.2) = csize (csub zi zk) := by rw [← csize_nf, show nf2 (u.1.1, u.1.2) = csub zi zk from u.eq]
                    refine l_callM rfl rfl zEvs rfl (size9_spec u.1.1 u.1.2 (CW.lt1 u) (CW.lt2 u)) zTake zFsub fun yz => ?_
                    have hyz : fcmp .leq yz.1 r = Jr lc r i k := by rw [yz.2 r, hSu, hJk]
                    cases hj : Jr lc r i k with
                    | true =>
                      rw [hj] at hyz
                      obtain ⟨lx, hlx1, hlx2⟩ := hsame i k hil (by omega) hj
                      all_goals ((try refine zD3 ?_) <;> (repeat' (with_reducible first | refine And.intro ?_ ?_ | intro _)))
                      rw [hyz]
                      all_goals ((try refine zD3 ?_) <;> (repeat' (with_reducible first | refine And.intro ?_ ?_ | intro _)))
                      all_goals (first | (exfalso; omega) | skip)
                      exact e_againT (Lr := []) ⟨k + 1, hkl⟩ (by dsimp only; omega) zSub zTake zFsub
                    | false =>
                      rw [hj] at hyz
                      all_goals ((try refine zD3 ?_) <;> (repeat' (with_reducible first | refine And.intro ?_ ?_ | intro _)))
                      rw [hyz]
                      all_goals ((try refine zD3 ?_) <;> (repeat' (with_reducible first | refine And.intro ?_ ?_ | intro _)))
                      all_goals (first | (exfalso; omega) | skip)
                      exact e_againT (Lr := []) ⟨k + 1, hkl⟩ (by dsimp only; omega) zSub zTake zFsub
                  · have hke : k = i := by omega
                    subst hke
                    all_goals ((try refine zR3 ?_) <;> (repeat' (with_reducible first | refine And.intro ?_ ?_ | intro _)))
                    all_goals (first | (exfalso; omega) | skip)
                    exact e_outT (Lr := []) () zSub zTake zFsub
                · intro _
                  all_goals ((try refine zR3 ?_) <;> (repeat' (with_reducible first | refine And.intro ?_ ?_ | intro _)))
                  exact e_againT (Lr := []) ⟨i + 1, hil⟩ (by dsimp only; omega) zSub zTake zFsub
              · all_goals ((try refine zR3 ?_) <;> (repeat' (with_reducible first | refine And.intro ?_ ?_ | intro _)))
                all_goals (first | (exfalso; omega) | skip)
                exact e_outT () zSub zTake (fun _ h => by cases h)
            · intro _
              all_goals ((try refine zR3 ?_) <;> (repeat' (with_reducible first | refine And.intro ?_ ?_ | intro _)))
              (refine e_gives rfl zRes ?_; first | rfl | (simp [retVal, *]; done) | (simp_all [retVal]; done) | (simp only [retVal]))
        · have hnil : qs (clS lc r) = [] := by unfold clS; rw [if_neg hcl]; rfl
          rw [hnil]
          all_goals ((try refine zR3 ?_) <;> (repeat' (with_reducible first | refine And.intro ?_ ?_ | intro _)))
          all_goals (first | (exfalso; omega) | skip)
          (refine e_gives rfl zRes ?_; first | rfl | (simp [retVal, *]; done) | (simp_all [retVal]; done) | (simp only [retVal]))
end Go.Proofs.YtbllgmcpebifhaaGreatDoor.K
