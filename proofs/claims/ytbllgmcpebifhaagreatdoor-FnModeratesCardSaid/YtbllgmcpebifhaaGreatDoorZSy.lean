/- Clusters: the reference's function. -/
import Derived.Test.YtbllgmcpebifhaaGreatDoorZSx
namespace Go.Proofs.YtbllgmcpebifhaaGreatDoor.K
open Go Go.RowKit Ieee
set_option linter.all false
set_option maxRecDepth 10000
set_option maxHeartbeats 1000000

theorem specClustersOf_spec (v : Value) (l : List (Nat × Nat)) (r : Nat) (hl : l.length ≤ 100) : Spec Tryz.prog 20 [v, .float .f64 r] [] [fList 1 rCx v l] (PCls l r) := by
  have hA := l06List_spec v l
  have hR := l01Real_spec r
  have hc3 := listC_cases l
  refine enter Tryz.func20 Tryz.ntmps20 rfl (by kernel_rfl) zCon rfl fun G => ?_
  refine c_isList (v := v) zMem fun hsv => ?_
  refine c_lenList zMem fun hlen => ?_
  rcases clC_cases l r with ⟨h1, h2, h3, h4⟩ | ⟨h1, h2, h3, h4⟩ | ⟨h1, h2, h4⟩ | ⟨h1, h4⟩
  · have hlc : listC l = 0 := by
      rcases hc3 with h | h | h
      · exact h.2.2
      · omega
      · rw [h.1] at h1; cases h1
    rw [hlc] at hA
    rw [h2] at hR
    all_goals (((try refine zR3 ?_) <;> (repeat' (with_reducible first | refine And.intro ?_ ?_ | intro _))) <;> (repeat' ((first | ((with_reducible apply l_callP); exact rfl; exact zEvs; exact rfl; (with_reducible apply hA); (case hF => exact zFsub); (try any_goals (refine propId ?_; omega))) | ((with_reducible apply l_callP); exact rfl; exact zEvs; exact rfl; (with_reducible apply hR); (case hF => exact zFsub); (try any_goals (refine propId ?_; omega)))) <;> ((try refine zR3 ?_) <;> (repeat' (with_reducible first | refine And.intro ?_ ?_ | intro _))))))
    all_goals (first | (exfalso; omega) | skip)
    all_goals try (exfalso; have a1 : fcmp .lss r 0 = true := (by assumption); have a2 : fcmp .lss r 0 = false := (by assumption); rw [a1] at a2; cases a2)
    refine c_draw ([5], []) [] [1, 2, 0, 3, 4, 5] (by kernel_rfl) (by kernel_rfl) ?_
    all_goals ((try refine zD3 ?_) <;> (repeat' (with_reducible first | refine And.intro ?_ ?_ | intro _)))
    obtain ⟨n, hnl⟩ : ∃ n, n = l.length := ⟨_, rfl⟩
    have hn : n ≤ 100 := by omega
    have hcl := h4
    clear hc3 h1 h4 hlc
    refine a_two (k := 3) [4, 3, 5] [0, 4, 5] rfl rfl (.inl (by decide +kernel)) rfl rfl ?_ ?_
    · all_goals ((try refine zD3 ?_) <;> (repeat' (with_reducible first | refine And.intro ?_ ?_ | intro _)))
      rename_i v0 vm
      rw [← hnl]
      obtain ⟨S, hS⟩ : ∃ S, S = cls (Jr l r) n n 0 (List.replicate n false) := ⟨_, rfl⟩
      refine c_allNil ?_
      refine c_while (ι := {y : Nat × Value × List Value × List (List Nat) × List Bool // y.1 ≤ n ∧ y.2.2.1.length ≤ y.1 ∧ y.2.2.2.2.length = n ∧ S = y.2.2.2.1 ++ cls (Jr l r) n (n - y.1) y.1 y.2.2.2.2}) (κ := Value × List Value)
        (fun y => [(0, v), (1, .float .f64 r), (9, .int .i64 (y.1.1 : Int)), (7, y.1.2.1), (8, vm)]) (fun y => [vRow y.1.2.1 y.1.2.2.1, bRow vm n y.1.2.2.2.2]) (fun y => fAll y.1.2.2.1 (qs y.1.2.2.2.1) :: [fList 1 rCx v l]) (fun y => n - y.1.1)
        (fun y => [(7, y.1)]) (fun y => [vRow y.1 y.2]) (fun y => [fAll y.2 (qs S)]) ⟨(0, v0, [], [], List.replicate n false), Nat.zero_le _, Nat.zero_le _, by simp, by rw [hS]; simp⟩ (fun _ _ s => s.startT zSub zTake (fun _ h => h)) ?_ ?_
      · rintro ⟨⟨i, vo, vs, ls, met⟩, hi, hvl, hml, hSS⟩
        dsimp only at hi hvl hml hSS ⊢
        by_cases hlt : i < n
        · obtain ⟨b, hb⟩ : ∃ b, met[i]? = some b := ⟨_, List.getElem?_eq_getElem (by omega)⟩
          have hgb := getD_of hb
          obtain ⟨m, hm⟩ : ∃ m, n - i = m + 1 := ⟨n - i - 1, by omega⟩
          rw [hm, cls] at hSS
          cases b with
          | true =>
            rw [if_pos hgb] at hSS
            all_goals ((try refine zR3 ?_) <;> (repeat' (with_reducible first | refine And.intro ?_ ?_ | intro _)))
            all_goals (first | (exfalso; omega) | skip)
            exact e_againT (Lr := []) ⟨(i + 1, vo, vs, ls, met), hlt, by dsimp only; omega, hml, by dsimp only; rw [show n - (i + 1) = m by omega]; exact hSS⟩ (by dsimp only; omega) zSub zTake (fun _ h => h)
          | false =>
            rw [if_neg (by rw [hgb]; decide)] at hSS
            have hI0 := Inv.begin hml hlt hgb
            obtain ⟨W, hW⟩ : ∃ W, W = wlk (Jr l r) n n 0 (met.set i true, [i]) := ⟨_, rfl⟩
            rw [← hW] at hSS
            all_goals ((try refine zR3 ?_) <;> (repeat' (with_reducible first | refine And.intro ?_ ?_ | intro _)))
            all_goals (first | (exfalso; omega) | skip)
            rename_i vg0
            have hmem0 : ∀ y, y < n → True := fun _ _ => trivial
            refine c_while (ι := {y : Nat × Value × List Bool × List Nat // y.1 ≤ y.2.2.2.length ∧ Inv n (fun x => met.getD x true) y.2.2 ∧ wlk (Jr l r) n (n - y.1) y.1 y.2.2 = W}) (κ := {y : Value × List Bool × List Nat // Inv n (fun x => met.getD x true) y.2 ∧ y.2 = W})
              (fun y => [(0, v), (1, .float .f64 r), (9, .int .i64 (i : Int)), (7, vo), (8, vm), (10, y.1.2.1), (11, .int .i64 (y.1.1 : Int))]) (fun y => [vRow vo vs, bRow vm n y.1.2.2.1, iRow y.1.2.1 2 (qi y.1.2.2.2)]) (fun _ => fAll vs (qs ls) :: [fList 1 rCx v l]) (fun y => n - y.1.1)
              (fun y => [(0, v), (1, .float .f64 r), (9, .int .i64 (i : Int)), (7, vo), (8, vm), (10, y.1.1)]) (fun y => [vRow vo vs, bRow vm n y.1.2.1, iRow y.1.1 2 (qi y.1.2.2)]) (fun _ => fAll vs (qs ls) :: [fList 1 rCx v l]) ⟨(0, vg0, met.set i true, [i]), Nat.zero_le _, hI0, hW.symm⟩ (fun _ _ s => s.startT zSub zTake (fun _ h => h)) ?_ ?_
            · rintro ⟨⟨t, vg, met1, q⟩, ht, hI, hwk⟩
              dsimp only at ht hI hwk ⊢
              have hql : q.length ≤ n := len_le n q hI.nodup hI.lt
              have hqi := qi_len q
              have hm1 : met1.length = n := hI.len
              by_cases htq : t < q.length
              · obtain ⟨x, hx⟩ : ∃ x, q[t]? = some x := ⟨_, List.getElem?_eq_getElem htq⟩
                have hxn : x < n := hI.lt x (List.mem_of_getElem? hx)
                have hgx : q.getD t 0 = x := by rw [List.getD_eq_getElem?_getD, hx]; rfl
                obtain ⟨m2, hm2⟩ : ∃ m2, n - t = m2 + 1 := ⟨n - t - 1, by omega⟩
                rw [hm2, wlk, if_pos htq] at hwk
                dsimp only at hwk
                rw [hgx] at hwk
                obtain ⟨V, hV⟩ : ∃ V, V = vis (Jr l r) x n 0 (met1, q) := ⟨_, rfl⟩
                rw [← hV] at hwk
                all_goals ((try refine zR3 ?_) <;> (repeat' (with_reducible first | refine And.intro ?_ ?_ | intro _)))
                all_goals (first | (exfalso; omega) | skip)
                refine c_while (ι := {y : Nat × Value × List Bool × List Nat // y.1 ≤ n ∧ Inv n (fun x => met.getD x true) y.2.2 ∧ vis (Jr l r) x (n - y.1) y.1 y.2.2 = V ∧ ∃ r, y.2.2.2 = q ++ r}) (κ := {y : Value × List Bool × List Nat // Inv n (fun x => met.getD x true) y.2 ∧ y.2 = V ∧ ∃ r, y.2.2 = q ++ r})
                  (fun y => [(0, v), (1, .float .f64 r), (9, .int .i64 (i : Int)), (7, vo), (8, vm), (10, y.1.2.1), (11, .int .i64 (t : Int)), (12, .int .i64 (y.1.1 : Int))]) (fun y => [vRow vo vs, bRow vm n y.1.2.2.1, iRow y.1.2.1 2 (qi y.1.2.2.2)]) (fun _ => fAll vs (qs ls) :: [fList 1 rCx v l]) (fun y => n - y.1.1)
                  (fun y => [(0, v), (1, .float .f64 r), (9, .int .i64 (i : Int)), (7, vo), (8, vm), (10, y.1.1), (11, .int .i64 (t : Int))]) (fun y => [vRow vo vs, bRow vm n y.1.2.1, iRow y.1.1 2 (qi y.1.2.2)]) (fun _ => fAll vs (qs ls) :: [fList 1 rCx v l]) ⟨(0, vg, met1, q), Nat.zero_le _, hI, hV.symm, [], by simp⟩ (fun _ _ s => s.startT zSub zTake (fun _ h => h)) ?_ ?_
                · rintro ⟨⟨k, vg1, met2, q2⟩, hk, hI2, hvs, hr⟩
                  dsimp only at hk hI2 hvs hr ⊢
                  have hql2 : q2.length ≤ n := len_le n q2 hI2.nodup hI2.lt
                  have hqi2 := qi_len q2
                  have hml2 : met2.length = n := hI2.len
                  have hx2 : (qi q2)[t]? = some (x : Int) := by
                    obtain ⟨r, rfl⟩ := hr
                    refine qi_get ?_
                    rw [List.getElem?_append_left htq]
                    exact hx
                  have htq2 : t < q2.length := by
                    obtain ⟨r, rfl⟩ := hr
                    rw [List.length_append]; omega
                  by_cases hkn : k < n
                  · obtain ⟨b2, hb2⟩ : ∃ b, met2[k]? = some b := ⟨_, List.getElem?_eq_getElem (by omega)⟩
                    have hgb2 := getD_of hb2
                    obtain ⟨m3, hm3⟩ : ∃ m3, n - k = m3 + 1 := ⟨n - k - 1, by omega⟩
                    have hm3' : m3 = n - (k + 1) := by omega
                    rw [hm3] at hvs
                    obtain ⟨zx, hzx⟩ : ∃ z, l[x]? = some z := ⟨_, List.getElem?_eq_getElem (by omega)⟩
                    obtain ⟨zk, hzk⟩ : ∃ z, l[k]? = some z := ⟨_, List.getElem?_eq_getElem (by omega)⟩
                    have hJk : fcmp .leq (csize (csub zx zk)) r = Jr l r x k := by unfold Jr; rw [getD_cx hzx, getD_cx hzk]
                    cases b2 with
                    | true =>
                      rw [vis_skip (by rw [hgb2]; rfl)] at hvs
                      all_goals ((try refine zR3 ?_) <;> (repeat' (with_reducible first | refine And.intro ?_ ?_ | intro _)))
                      all_goals (first | (exfalso; omega) | skip)
                      refine c_draw ([12], []) [iRow vg1 2 (qi q2)] [0, 1, 2, 3, 4, 5, 6, 7, 8, 9, 10, 11, 12] (by kernel_rfl) (by kernel_rfl) ?_
                      all_goals ((try refine zD3 ?_) <;> (repeat' (with_reducible first | refine And.intro ?_ ?_ | intro _)))
                      exact e_againT (Lr := []) ⟨(k + 1, vg1, met2, q2), hkn, hI2, by dsimp only; rw [← hm3']; exact hvs, hr⟩ (by dsimp only; omega) zSub zTake (fun _ h => h)
                    | false =>
                      all_goals ((try refine zR3 ?_) <;> (repeat' (with_reducible first | refine And.intro ?_ ?_ | intro _)))
                      all_goals (first | (exfalso; omega) | skip)
                      refine c_draw ([12], []) [iRow vg1 2 (qi q2)] [0, 1, 2, 3, 4, 5, 6, 7, 8, 9, 10, 11, 12] (by kernel_rfl) (by kernel_rfl) ?_
                      all_goals ((try refine zD3 ?_) <;> (repeat' (with_reducible first | refine And.intro ?_ ?_ | intro _)))
                      rename_i u
                      have hSu : csize (u.1.1, u.1.2) = csize (csub zx zk) := by rw [← csize_nf, show nf2 (u.1.1, u.1.2) = csub zx zk from u.eq]
                      have hZ := l01Size_spec u.1.1 u.1.2 (CW.lt1 u) (CW.lt2 u)
                      rw [hSu] at hZ
                      all_goals (((try refine zR3 ?_) <;> (repeat' (with_reducible first | refine And.intro ?_ ?_ | intro _))) <;> (repeat' ((first | ((with_reducible apply l_callM); exact rfl; exact rfl; exact zEvs; exact rfl; (apply hZ); (case hL => exact zTake); (case hF => exact zFsub); (try any_goals (refine propId ?_; first | omega | exact zLt)); (with_reducible intro _))) <;> ((try refine zR3 ?_) <;> (repeat' (with_reducible first | refine And.intro ?_ ?_ | intro _))))))
                      · rename_i yz hb3 _ vg2
                        have hj : Jr l r x k = true := by rw [← hJk, ← yz.cl]; exact hb3
                        rw [vis_take hgb2 hj] at hvs
                        refine e_againT (Lr := []) ⟨(k + 1, vg2, met2.set k true, q2 ++ [k]), hkn, hI2.put hkn hgb2, by dsimp only; rw [← hm3']; exact hvs, ?_⟩ (by dsimp only; omega) zSub (by dsimp only; rw [qi_app, iRow_app]; exact zTake) (fun _ h => h)
                        obtain ⟨r, rfl⟩ := hr
                        exact ⟨r ++ [k], by simp⟩
                      · rename_i yz hb3
                        have hj : Jr l r x k = false := by rw [← hJk, ← yz.cl]; exact hb3
                        rw [vis_skip (by rw [hj, Bool.and_false])] at hvs
                        exact e_againT (Lr := []) ⟨(k + 1, vg1, met2, q2), hkn, hI2, by dsimp only; rw [← hm3']; exact hvs, hr⟩ (by dsimp only; omega) zSub zTake (fun _ h => h)
                  · have hke : k = n := by omega
                    subst hke
                    rw [Nat.sub_self] at hvs
                    all_goals ((try refine zR3 ?_) <;> (repeat' (with_reducible first | refine And.intro ?_ ?_ | intro _)))
                    all_goals (first | (exfalso; omega) | skip)
                    exact e_outT (Lr := []) ⟨(vg1, met2, q2), hI2, hvs, hr⟩ zSub zTake (fun _ h => h)
                · rintro ⟨⟨vg1, met2, q2⟩, hI2, hvs, hr⟩
                  dsimp only at hI2 hvs hr ⊢
                  all_goals ((try refine zR3 ?_) <;> (repeat' (with_reducible first | refine And.intro ?_ ?_ | intro _)))
                  refine e_againT (Lr := []) ⟨(t + 1, vg1, met2, q2), ?_, hI2, ?_⟩ (by dsimp only; omega) zSub zTake (fun _ h => h)
                  · obtain ⟨r, rfl⟩ := hr
                    dsimp only
                    rw [List.length_append]; omega
                  · dsimp only
                    rw [show n - (t + 1) = m2 by omega, hvs]
                    exact hwk
              · have hwe : (met1, q) = W := by
                  rw [← hwk]
                  cases n - t with
                  | zero => rfl
                  | succ m2 => rw [wlk, if_neg htq]
                all_goals ((try refine zR3 ?_) <;> (repeat' (with_reducible first | refine And.intro ?_ ?_ | intro _)))
                all_goals (first | (exfalso; omega) | skip)
                exact e_outT (Lr := []) ⟨(vg, met1, q), hI, hwe⟩ zSub zTake (fun _ h => h)
            · rintro ⟨⟨vg, met1, q⟩, hI, hwe⟩
              dsimp only at hI hwe ⊢
              rw [← hwe] at hSS
              dsimp only at hSS
              have hql : q.length ≤ n := len_le n q hI.nodup hI.lt
              have hqi := qi_len q
              have hnd := hI.nodup
              refine ends_freezeInts (ik := .i64) (l := qi q) zEra rfl ?_
              have hH := fun k : Nat => l01Has_spec vg (qi q) (k : Int)
              have hmq : ∀ k : Nat, (k : Int) ∈ qi q ↔ q.contains k = true := fun k => by
                rw [List.contains_iff_mem]
                unfold qi
                rw [List.mem_map]
                exact ⟨fun ⟨y, h1, h2⟩ => by rwa [show y = k by omega] at h1, fun h => ⟨k, h, rfl⟩⟩
              all_goals ((try refine zR3 ?_) <;> (repeat' (with_reducible first | refine And.intro ?_ ?_ | intro _)))
              rename_i vs0
              refine c_while (ι := {y : Nat × Value // y.1 ≤ n}) (κ := Value)
                (fun y => [(0, v), (1, .float .f64 r), (9, .int .i64 (i : Int)), (7, vo), (8, vm), (10, vg), (14, y.1.2), (15, .int .i64 (y.1.1 : Int))]) (fun y => [vRow vo vs, bRow vm n met1, iRow y.1.2 2 (qi ((List.range y.1.1).filter fun k => q.contains k))]) (fun _ => fList 1 (rInt .i64) vg (qi q) :: fAll vs (qs ls) :: [fList 1 rCx v l]) (fun y => n - y.1.1)
                (fun y => [(0, v), (1, .float .f64 r), (9, .int .i64 (i : Int)), (7, vo), (8, vm), (14, y)]) (fun y => [vRow vo vs, bRow vm n met1, iRow y 2 (qi (grp n q))]) (fun _ => fAll vs (qs ls) :: [fList 1 rCx v l]) ⟨(0, vs0), Nat.zero_le _⟩ (fun _ _ s => s.startT zSub (by dsimp only; exact zTake) (fun _ h => h)) ?_ ?_
              · rintro ⟨⟨k, vset⟩, hk⟩
                dsimp only at hk ⊢
                refine c_isList (v := vg) zMem fun hsg => ?_
                by_cases hkn : k < n
                · obtain ⟨pre, hpre⟩ : ∃ pre, pre = (List.range k).filter fun k => q.contains k := ⟨_, rfl⟩
                  have hpl : pre.length ≤ k := by rw [hpre]; exact Nat.le_trans (List.length_filter_le _ _) (by rw [List.length_range]; exact Nat.le_refl _)
                  have hpl2 := qi_len pre
                  have hstep := grp_step q k
                  have hmk := hmq k
                  have hHk := hH k
                  rw [← hpre] at hstep ⊢
                  all_goals (((try refine zR3 ?_) <;> (repeat' (with_reducible first | refine And.intro ?_ ?_ | intro _))) <;> (repeat' ((first | ((with_reducible apply l_callP); exact rfl; exact zEvs; exact rfl; (with_reducible apply hHk); (case hF => exact zFsub); (try any_goals (refine propId ?_; omega)))) <;> ((try refine zR3 ?_) <;> (repeat' (with_reducible first | refine And.intro ?_ ?_ | intro _))))))
                  all_goals (first | (exfalso; omega) | skip)
                  · have hm : (k : Int) ∈ qi q := by assumption
                    rw [if_pos (hmk.1 hm)] at hstep
                    rename_i v2
                    exact e_againT (Lr := []) ⟨(k + 1, v2), hkn⟩ (by dsimp only; omega) zSub (by dsimp only; rw [hstep, qi_app, iRow_app]; exact zTake) (fun _ h => h)
                  · have hm : ¬ (k : Int) ∈ qi q := by assumption
                    rw [if_neg (fun h => hm (hmk.2 h)), List.append_nil] at hstep
                    exact e_againT (Lr := []) ⟨(k + 1, vset), hkn⟩ (by dsimp only; omega) zSub (by dsimp only; rw [hstep]; exact zTake) (fun _ h => h)
                · have hke : k = n := by omega
                  subst hke
                  all_goals ((try refine zR3 ?_) <;> (repeat' (with_reducible first | refine And.intro ?_ ?_ | intro _)))
                  all_goals (first | (exfalso; omega) | skip)
                  exact e_outT vset zSub zTake (fun _ h => .tail _ h)
              · intro vset
                refine c_freezeInts (ik := .i64) (l := qi (grp n q)) zEra rfl ?_
                refine c_isList (v := vset) zMem fun hsv => ?_
                all_goals ((try refine zR3 ?_) <;> (repeat' (with_reducible first | refine And.intro ?_ ?_ | intro _)))
                refine l_appendRow rfl rfl rfl rfl rfl rfl zMem zUpv ?_ ?_ ?_ fun v2 => ?_
                · intro y hy
                  rw [List.mem_singleton.1 hy]
                  exact hsv.one
                · simp only [maxLen]; omega
                · omega
                all_goals ((try refine zR3 ?_) <;> (repeat' (with_reducible first | refine And.intro ?_ ?_ | intro _)))
                refine ends_allApp (vs := vs) (ls := qs ls) (v := vset) (l := qi (grp n q)) zMem zMem ?_
                refine e_againT ⟨(i + 1, v2, vs ++ [vset], ls ++ [grp n q], met1), hlt, by dsimp only; rw [List.length_append, List.length_singleton]; omega, hI.len, ?_⟩ (by dsimp only; omega) zSub (by dsimp only; rw [show vRow v2 (vs ++ [vset]) = .row v2 43 1 (vs.length + 1) (vs ++ [vset]) by simp [vRow]]; exact zTake) ?_
                · dsimp only
                  rw [show n - (i + 1) = m by omega, hSS, List.append_assoc, List.singleton_append]
                · intro φ hφ
                  dsimp only at hφ
                  rw [show qs (ls ++ [grp n q]) = qs ls ++ [qi (grp n q)] by simp [qs]] at hφ
                  rcases List.mem_cons.1 hφ with rfl | hφ
                  · exact .head _
                  · exact .tail _ (.tail _ (.tail _ hφ))
        · have hie : i = n := by omega
          subst hie
          rw [Nat.sub_self, cls, List.append_nil] at hSS
          rw [← hSS]
          all_goals ((try refine zR3 ?_) <;> (repeat' (with_reducible first | refine And.intro ?_ ?_ | intro _)))
          all_goals (first | (exfalso; omega) | skip)
          exact e_outT (vo, vs) zSub zTake (fun φ h => by rw [List.mem_singleton.1 h]; exact .head _)
      · rintro ⟨vo, vs⟩
        all_goals ((try refine zR3 ?_) <;> (repeat' (with_reducible first | refine And.intro ?_ ?_ | intro _)))
        refine ends_frzAll .head (.head _) ?_
        exact e_resT rfl zRes .nil (fsub_cons (.head _) fsub_nil) (.inl ⟨hcl, vo, rfl, rfl, by rw [hS, hnl]⟩)
    · all_goals ((try refine zD3 ?_) <;> (repeat' (with_reducible first | refine And.intro ?_ ?_ | intro _)))
      rename_i vm v0
      rw [← hnl]
      obtain ⟨S, hS⟩ : ∃ S, S = cls (Jr l r) n n 0 (List.replicate n false) := ⟨_, rfl⟩
      refine c_allNil ?_
      refine c_while (ι := {y : Nat × Value × List Value × List (List Nat) × List Bool // y.1 ≤ n ∧ y.2.2.1.length ≤ y.1 ∧ y.2.2.2.2.length = n ∧ S = y.2.2.2.1 ++ cls (Jr l r) n (n - y.1) y.1 y.2.2.2.2}) (κ := Value × List Value)
        (fun y => [(0, v), (1, .float .f64 r), (9, .int .i64 (y.1.1 : Int)), (7, y.1.2.1), (8, vm)]) (fun y => [vRow y.1.2.1 y.1.2.2.1, bRow vm n y.1.2.2.2.2]) (fun y => fAll y.1.2.2.1 (qs y.1.2.2.2.1) :: [fList 1 rCx v l]) (fun y => n - y.1.1)
        (fun y => [(7, y.1)]) (fun y => [vRow y.1 y.2]) (fun y => [fAll y.2 (qs S)]) ⟨(0, v0, [], [], List.replicate n false), Nat.zero_le _, Nat.zero_le _, by simp, by rw [hS]; simp⟩ (fun _ _ s => s.startT zSub zTake (fun _ h => h)) ?_ ?_
      · rintro ⟨⟨i, vo, vs, ls, met⟩, hi, hvl, hml, hSS⟩
        dsimp only at hi hvl hml hSS ⊢
        by_cases hlt : i < n
        · obtain ⟨b, hb⟩ : ∃ b, met[i]? = some b := ⟨_, List.getElem?_eq_getElem (by omega)⟩
          have hgb := getD_of hb
          obtain ⟨m, hm⟩ : ∃ m, n - i = m + 1 := ⟨n - i - 1, by omega⟩
          rw [hm, cls] at hSS
          cases b with
          | true =>
            rw [if_pos hgb] at hSS
            all_goals ((try refine zR3 ?_) <;> (repeat' (with_reducible first | refine And.intro ?_ ?_ | intro _)))
            all_goals (first | (exfalso; omega) | skip)
            exact e_againT (Lr := []) ⟨(i + 1, vo, vs, ls, met), hlt, by dsimp only; omega, hml, by dsimp only; rw [show n - (i + 1) = m by omega]; exact hSS⟩ (by dsimp only; omega) zSub zTake (fun _ h => h)
          | false =>
            rw [if_neg (by rw [hgb]; decide)] at hSS
            have hI0 := Inv.begin hml hlt hgb
            obtain ⟨W, hW⟩ : ∃ W, W = wlk (Jr l r) n n 0 (met.set i true, [i]) := ⟨_, rfl⟩
            rw [← hW] at hSS
            all_goals ((try refine zR3 ?_) <;> (repeat' (with_reducible first | refine And.intro ?_ ?_ | intro _)))
            all_goals (first | (exfalso; omega) | skip)
            rename_i vg0
            have hmem0 : ∀ y, y < n → True := fun _ _ => trivial
            refine c_while (ι := {y : Nat × Value × List Bool × List Nat // y.1 ≤ y.2.2.2.length ∧ Inv n (fun x => met.getD x true) y.2.2 ∧ wlk (Jr l r) n (n - y.1) y.1 y.2.2 = W}) (κ := {y : Value × List Bool × List Nat // Inv n (fun x => met.getD x true) y.2 ∧ y.2 = W})
              (fun y => [(0, v), (1, .float .f64 r), (9, .int .i64 (i : Int)), (7, vo), (8, vm), (10, y.1.2.1), (11, .int .i64 (y.1.1 : Int))]) (fun y => [vRow vo vs, bRow vm n y.1.2.2.1, iRow y.1.2.1 2 (qi y.1.2.2.2)]) (fun _ => fAll vs (qs ls) :: [fList 1 rCx v l]) (fun y => n - y.1.1)
              (fun y => [(0, v), (1, .float .f64 r), (9, .int .i64 (i : Int)), (7, vo), (8, vm), (10, y.1.1)]) (fun y => [vRow vo vs, bRow vm n y.1.2.1, iRow y.1.1 2 (qi y.1.2.2)]) (fun _ => fAll vs (qs ls) :: [fList 1 rCx v l]) ⟨(0, vg0, met.set i true, [i]), Nat.zero_le _, hI0, hW.symm⟩ (fun _ _ s => s.startT zSub zTake (fun _ h => h)) ?_ ?_
            · rintro ⟨⟨t, vg, met1, q⟩, ht, hI, hwk⟩
              dsimp only at ht hI hwk ⊢
              have hql : q.length ≤ n := len_le n q hI.nodup hI.lt
              have hqi := qi_len q
              have hm1 : met1.length = n := hI.len
              by_cases htq : t < q.length
              · obtain ⟨x, hx⟩ : ∃ x, q[t]? = some x := ⟨_, List.getElem?_eq_getElem htq⟩
                have hxn : x < n := hI.lt x (List.mem_of_getElem? hx)
                have hgx : q.getD t 0 = x := by rw [List.getD_eq_getElem?_getD, hx]; rfl
                obtain ⟨m2, hm2⟩ : ∃ m2, n - t = m2 + 1 := ⟨n - t - 1, by omega⟩
                rw [hm2, wlk, if_pos htq] at hwk
                dsimp only at hwk
                rw [hgx] at hwk
                obtain ⟨V, hV⟩ : ∃ V, V = vis (Jr l r) x n 0 (met1, q) := ⟨_, rfl⟩
                rw [← hV] at hwk
                all_goals ((try refine zR3 ?_) <;> (repeat' (with_reducible first | refine And.intro ?_ ?_ | intro _)))
                all_goals (first | (exfalso; omega) | skip)
                refine c_while (ι := {y : Nat × Value × List Bool × List Nat // y.1 ≤ n ∧ Inv n (fun x => met.getD x true) y.2.2 ∧ vis (Jr l r) x (n - y.1) y.1 y.2.2 = V ∧ ∃ r, y.2.2.2 = q ++ r}) (κ := {y : Value × List Bool × List Nat // Inv n (fun x => met.getD x true) y.2 ∧ y.2 = V ∧ ∃ r, y.2.2 = q ++ r})
                  (fun y => [(0, v), (1, .float .f64 r), (9, .int .i64 (i : Int)), (7, vo), (8, vm), (10, y.1.2.1), (11, .int .i64 (t : Int)), (12, .int .i64 (y.1.1 : Int))]) (fun y => [vRow vo vs, bRow vm n y.1.2.2.1, iRow y.1.2.1 2 (qi y.1.2.2.2)]) (fun _ => fAll vs (qs ls) :: [fList 1 rCx v l]) (fun y => n - y.1.1)
                  (fun y => [(0, v), (1, .float .f64 r), (9, .int .i64 (i : Int)), (7, vo), (8, vm), (10, y.1.1), (11, .int .i64 (t : Int))]) (fun y => [vRow vo vs, bRow vm n y.1.2.1, iRow y.1.1 2 (qi y.1.2.2)]) (fun _ => fAll vs (qs ls) :: [fList 1 rCx v l]) ⟨(0, vg, met1, q), Nat.zero_le _, hI, hV.symm, [], by simp⟩ (fun _ _ s => s.startT zSub zTake (fun _ h => h)) ?_ ?_
                · rintro ⟨⟨k, vg1, met2, q2⟩, hk, hI2, hvs, hr⟩
                  dsimp only at hk hI2 hvs hr ⊢
                  have hql2 : q2.length ≤ n := len_le n q2 hI2.nodup hI2.lt
                  have hqi2 := qi_len q2
                  have hml2 : met2.length = n := hI2.len
                  have hx2 : (qi q2)[t]? = some (x : Int) := by
                    obtain ⟨r, rfl⟩ := hr
                    refine qi_get ?_
                    rw [List.getElem?_append_left htq]
                    exact hx
                  have htq2 : t < q2.length := by
                    obtain ⟨r, rfl⟩ := hr
                    rw [List.length_append]; omega
                  by_cases hkn : k < n
                  · obtain ⟨b2, hb2⟩ : ∃ b, met2[k]? = some b := ⟨_, List.getElem?_eq_getElem (by omega)⟩
                    have hgb2 := getD_of hb2
                    obtain ⟨m3, hm3⟩ : ∃ m3, n - k = m3 + 1 := ⟨n - k - 1, by omega⟩
                    have hm3' : m3 = n - (k + 1) := by omega
                    rw [hm3] at hvs
                    obtain ⟨zx, hzx⟩ : ∃ z, l[x]? = some z := ⟨_, List.getElem?_eq_getElem (by omega)⟩
                    obtain ⟨zk, hzk⟩ : ∃ z, l[k]? = some z := ⟨_, List.getElem?_eq_getElem (by omega)⟩
                    have hJk : fcmp .leq (csize (csub zx zk)) r = Jr l r x k := by unfold Jr; rw [getD_cx hzx, getD_cx hzk]
                    cases b2 with
                    | true =>
                      rw [vis_skip (by rw [hgb2]; rfl)] at hvs
                      all_goals ((try refine zR3 ?_) <;> (repeat' (with_reducible first | refine And.intro ?_ ?_ | intro _)))
                      all_goals (first | (exfalso; omega) | skip)
                      refine c_draw ([12], []) [iRow vg1 2 (qi q2)] [0, 1, 2, 3, 4, 5, 6, 7, 8, 9, 10, 11, 12] (by kernel_rfl) (by kernel_rfl) ?_
                      all_goals ((try refine zD3 ?_) <;> (repeat' (with_reducible first | refine And.intro ?_ ?_ | intro _)))
                      exact e_againT (Lr := []) ⟨(k + 1, vg1, met2, q2), hkn, hI2, by dsimp only; rw [← hm3']; exact hvs, hr⟩ (by dsimp only; omega) zSub zTake (fun _ h => h)
                    | false =>
                      all_goals ((try refine zR3 ?_) <;> (repeat' (with_reducible first | refine And.intro ?_ ?_ | intro _)))
                      all_goals (first | (exfalso; omega) | skip)
                      refine c_draw ([12], []) [iRow vg1 2 (qi q2)] [0, 1, 2, 3, 4, 5, 6, 7, 8, 9, 10, 11, 12] (by kernel_rfl) (by kernel_rfl) ?_
                      all_goals ((try refine zD3 ?_) <;> (repeat' (with_reducible first | refine And.intro ?_ ?_ | intro _)))
                      rename_i u
                      have hSu : csize (u.1.1, u.1.2) = csize (csub zx zk) := by rw [← csize_nf, show nf2 (u.1.1, u.1.2) = csub zx zk from u.eq]
                      have hZ := l01Size_spec u.1.1 u.1.2 (CW.lt1 u) (CW.lt2 u)
                      rw [hSu] at hZ
                      all_goals (((try refine zR3 ?_) <;> (repeat' (with_reducible first | refine And.intro ?_ ?_ | intro _))) <;> (repeat' ((first | ((with_reducible apply l_callM); exact rfl; exact rfl; exact zEvs; exact rfl; (apply hZ); (case hL => exact zTake); (case hF => exact zFsub); (try any_goals (refine propId ?_; first | omega | exact zLt)); (with_reducible intro _))) <;> ((try refine zR3 ?_) <;> (repeat' (with_reducible first | refine And.intro ?_ ?_ | intro _))))))
                      · rename_i yz hb3 _ vg2
                        have hj : Jr l r x k = true := by rw [← hJk, ← yz.cl]; exact hb3
                        rw [vis_take hgb2 hj] at hvs
                        refine e_againT (Lr := []) ⟨(k + 1, vg2, met2.set k true, q2 ++ [k]), hkn, hI2.put hkn hgb2, by dsimp only; rw [← hm3']; exact hvs, ?_⟩ (by dsimp only; omega) zSub (by dsimp only; rw [qi_app, iRow_app]; exact zTake) (fun _ h => h)
                        obtain ⟨r, rfl⟩ := hr
                        exact ⟨r ++ [k], by simp⟩
                      · rename_i yz hb3
                        have hj : Jr l r x k = false := by rw [← hJk, ← yz.cl]; exact hb3
                        rw [vis_skip (by rw [hj, Bool.and_false])] at hvs
                        exact e_againT (Lr := []) ⟨(k + 1, vg1, met2, q2), hkn, hI2, by dsimp only; rw [← hm3']; exact hvs, hr⟩ (by dsimp only; omega) zSub zTake (fun _ h => h)
                  · have hke : k = n := by omega
                    subst hke
                    rw [Nat.sub_self] at hvs
                    all_goals ((try refine zR3 ?_) <;> (repeat' (with_reducible first | refine And.intro ?_ ?_ | intro _)))
                    all_goals (first | (exfalso; omega) | skip)
                    exact e_outT (Lr := []) ⟨(vg1, met2, q2), hI2, hvs, hr⟩ zSub zTake (fun _ h => h)
                · rintro ⟨⟨vg1, met2, q2⟩, hI2, hvs, hr⟩
                  dsimp only at hI2 hvs hr ⊢
                  all_goals ((try refine zR3 ?_) <;> (repeat' (with_reducible first | refine And.intro ?_ ?_ | intro _)))
                  refine e_againT (Lr := []) ⟨(t + 1, vg1, met2, q2), ?_, hI2, ?_⟩ (by dsimp only; omega) zSub zTake (fun _ h => h)
                  · obtain ⟨r, rfl⟩ := hr
                    dsimp only
                    rw [List.length_append]; omega
                  · dsimp only
                    rw [show n - (t + 1) = m2 by omega, hvs]
                    exact hwk
              · have hwe : (met1, q) = W := by
                  rw [← hwk]
                  cases n - t with
                  | zero => rfl
                  | succ m2 => rw [wlk, if_neg htq]
                all_goals ((try refine zR3 ?_) <;> (repeat' (with_reducible first | refine And.intro ?_ ?_ | intro _)))
                all_goals (first | (exfalso; omega) | skip)
                exact e_outT (Lr := []) ⟨(vg, met1, q), hI, hwe⟩ zSub zTake (fun _ h => h)
            · rintro ⟨⟨vg, met1, q⟩, hI, hwe⟩
              dsimp only at hI hwe ⊢
              rw [← hwe] at hSS
              dsimp only at hSS
              have hql : q.length ≤ n := len_le n q hI.nodup hI.lt
              have hqi := qi_len q
              have hnd := hI.nodup
              refine ends_freezeInts (ik := .i64) (l := qi q) zEra rfl ?_
              have hH := fun k : Nat => l01Has_spec vg (qi q) (k : Int)
              have hmq : ∀ k : Nat, (k : Int) ∈ qi q ↔ q.contains k = true := fun k => by
                rw [List.contains_iff_mem]
                unfold qi
                rw [List.mem_map]
                exact ⟨fun ⟨y, h1, h2⟩ => by rwa [show y = k by omega] at h1, fun h => ⟨k, h, rfl⟩⟩
              all_goals ((try refine zR3 ?_) <;> (repeat' (with_reducible first | refine And.intro ?_ ?_ | intro _)))
              rename_i vs0
              refine c_while (ι := {y : Nat × Value // y.1 ≤ n}) (κ := Value)
                (fun y => [(0, v), (1, .float .f64 r), (9, .int .i64 (i : Int)), (7, vo), (8, vm), (10, vg), (14, y.1.2), (15, .int .i64 (y.1.1 : Int))]) (fun y => [vRow vo vs, bRow vm n met1, iRow y.1.2 2 (qi ((List.range y.1.1).filter fun k => q.contains k))]) (fun _ => fList 1 (rInt .i64) vg (qi q) :: fAll vs (qs ls) :: [fList 1 rCx v l]) (fun y => n - y.1.1)
                (fun y => [(0, v), (1, .float .f64 r), (9, .int .i64 (i : Int)), (7, vo), (8, vm), (14, y)]) (fun y => [vRow vo vs, bRow vm n met1, iRow y 2 (qi (grp n q))]) (fun _ => fAll vs (qs ls) :: [fList 1 rCx v l]) ⟨(0, vs0), Nat.zero_le _⟩ (fun _ _ s => s.startT zSub (by dsimp only; exact zTake) (fun _ h => h)) ?_ ?_
              · rintro ⟨⟨k, vset⟩, hk⟩
                dsimp only at hk ⊢
                refine c_isList (v := vg) zMem fun hsg => ?_
                by_cases hkn : k < n
                · obtain ⟨pre, hpre⟩ : ∃ pre, pre = (List.range k).filter fun k => q.contains k := ⟨_, rfl⟩
                  have hpl : pre.length ≤ k := by rw [hpre]; exact Nat.le_trans (List.length_filter_le _ _) (by rw [List.length_range]; exact Nat.le_refl _)
                  have hpl2 := qi_len pre
                  have hstep := grp_step q k
                  have hmk := hmq k
                  have hHk := hH k
                  rw [← hpre] at hstep ⊢
                  all_goals (((try refine zR3 ?_) <;> (repeat' (with_reducible first | refine And.intro ?_ ?_ | intro _))) <;> (repeat' ((first | ((with_reducible apply l_callP); exact rfl; exact zEvs; exact rfl; (with_reducible apply hHk); (case hF => exact zFsub); (try any_goals (refine propId ?_; omega)))) <;> ((try refine zR3 ?_) <;> (repeat' (with_reducible first | refine And.intro ?_ ?_ | intro _))))))
                  all_goals (first | (exfalso; omega) | skip)
                  · have hm : (k : Int) ∈ qi q := by assumption
                    rw [if_pos (hmk.1 hm)] at hstep
                    rename_i v2
                    exact e_againT (Lr := []) ⟨(k + 1, v2), hkn⟩ (by dsimp only; omega) zSub (by dsimp only; rw [hstep, qi_app, iRow_app]; exact zTake) (fun _ h => h)
                  · have hm : ¬ (k : Int) ∈ qi q := by assumption
                    rw [if_neg (fun h => hm (hmk.2 h)), List.append_nil] at hstep
                    exact e_againT (Lr := []) ⟨(k + 1, vset), hkn⟩ (by dsimp only; omega) zSub (by dsimp only; rw [hstep]; exact zTake) (fun _ h => h)
                · have hke : k = n := by omega
                  subst hke
                  all_goals ((try refine zR3 ?_) <;> (repeat' (with_reducible first | refine And.intro ?_ ?_ | intro _)))
                  all_goals (first | (exfalso; omega) | skip)
                  exact e_outT vset zSub zTake (fun _ h => .tail _ h)
              · intro vset
                refine c_freezeInts (ik := .i64) (l := qi (grp n q)) zEra rfl ?_
                refine c_isList (v := vset) zMem fun hsv => ?_
                all_goals ((try refine zR3 ?_) <;> (repeat' (with_reducible first | refine And.intro ?_ ?_ | intro _)))
                refine l_appendRow rfl rfl rfl rfl rfl rfl zMem zUpv ?_ ?_ ?_ fun v2 => ?_
                · intro y hy
                  rw [List.mem_singleton.1 hy]
                  exact hsv.one
                · simp only [maxLen]; omega
                · omega
                all_goals ((try refine zR3 ?_) <;> (repeat' (with_reducible first | refine And.intro ?_ ?_ | intro _)))
                refine ends_allApp (vs := vs) (ls := qs ls) (v := vset) (l := qi (grp n q)) zMem zMem ?_
                refine e_againT ⟨(i + 1, v2, vs ++ [vset], ls ++ [grp n q], met1), hlt, by dsimp only; rw [List.length_append, List.length_singleton]; omega, hI.len, ?_⟩ (by dsimp only; omega) zSub (by dsimp only; rw [show vRow v2 (vs ++ [vset]) = .row v2 43 1 (vs.length + 1) (vs ++ [vset]) by simp [vRow]]; exact zTake) ?_
                · dsimp only
                  rw [show n - (i + 1) = m by omega, hSS, List.append_assoc, List.singleton_append]
                · intro φ hφ
                  dsimp only at hφ
                  rw [show qs (ls ++ [grp n q]) = qs ls ++ [qi (grp n q)] by simp [qs]] at hφ
                  rcases List.mem_cons.1 hφ with rfl | hφ
                  · exact .head _
                  · exact .tail _ (.tail _ (.tail _ hφ))
        · have hie : i = n := by omega
          subst hie
          rw [Nat.sub_self, cls, List.append_nil] at hSS
          rw [← hSS]
          all_goals ((try refine zR3 ?_) <;> (repeat' (with_reducible first | refine And.intro ?_ ?_ | intro _)))
          all_goals (first | (exfalso; omega) | skip)
          exact e_outT (vo, vs) zSub zTake (fun φ h => by rw [List.mem_singleton.1 h]; exact .head _)
      · rintro ⟨vo, vs⟩
        all_goals ((try refine zR3 ?_) <;> (repeat' (with_reducible first | refine And.intro ?_ ?_ | intro _)))
        refine ends_frzAll .head (.head _) ?_
        exact e_resT rfl zRes .nil (fsub_cons (.head _) fsub_nil) (.inl ⟨hcl, vo, rfl, rfl, by rw [hS, hnl]⟩)
  · have hlc : listC l = 0 := by
      rcases hc3 with h | h | h
      · exact h.2.2
      · omega
      · rw [h.1] at h1; cases h1
    have hne : clC l r ≠ 0 := by rw [h4]; decide
    rw [hlc] at hA
    rw [h2] at hR
    all_goals (((try refine zR3 ?_) <;> (repeat' (with_reducible first | refine And.intro ?_ ?_ | intro _))) <;> (repeat' ((first | ((with_reducible apply l_callP); exact rfl; exact zEvs; exact rfl; (with_reducible apply hA); (case hF => exact zFsub); (try any_goals (refine propId ?_; omega))) | ((with_reducible apply l_callP); exact rfl; exact zEvs; exact rfl; (with_reducible apply hR); (case hF => exact zFsub); (try any_goals (refine propId ?_; omega)))) <;> ((try refine zR3 ?_) <;> (repeat' (with_reducible first | refine And.intro ?_ ?_ | intro _))))))
    all_goals (first | (exfalso; omega) | skip)
    all_goals try (exfalso; have a1 : fcmp .lss r 0 = true := (by assumption); have a2 : fcmp .lss r 0 = false := (by assumption); rw [a1] at a2; cases a2)
    exact e_resT rfl zRes .nil fsub_nil (.inr ⟨hne, by rw [h4]; rfl, rfl, rfl⟩)
  · have hne : clC l r ≠ 0 := by rw [h4]; decide
    rw [h2] at hR
    all_goals (((try refine zR3 ?_) <;> (repeat' (with_reducible first | refine And.intro ?_ ?_ | intro _))) <;> (repeat' ((first | ((with_reducible apply l_callP); exact rfl; exact zEvs; exact rfl; (with_reducible apply hA); (case hF => exact zFsub); (try any_goals (refine propId ?_; omega))) | ((with_reducible apply l_callP); exact rfl; exact zEvs; exact rfl; (with_reducible apply hR); (case hF => exact zFsub); (try any_goals (refine propId ?_; omega)))) <;> ((try refine zR3 ?_) <;> (repeat' (with_reducible first | refine And.intro ?_ ?_ | intro _))))))
    all_goals (first | (exfalso; omega) | skip)
    all_goals exact e_resT rfl zRes .nil fsub_nil (.inr ⟨hne, by rw [h4]; rfl, rfl, rfl⟩)
  · have hlc : listC l = 1 := by
      rcases hc3 with h | h | h
      · rw [h.1] at h1; cases h1
      · rw [h.1] at h1; cases h1
      · exact h.2
    have hne : clC l r ≠ 0 := by rw [h4]; decide
    rw [hlc] at hA
    all_goals (((try refine zR3 ?_) <;> (repeat' (with_reducible first | refine And.intro ?_ ?_ | intro _))) <;> (repeat' ((first | ((with_reducible apply l_callP); exact rfl; exact zEvs; exact rfl; (with_reducible apply hA); (case hF => exact zFsub); (try any_goals (refine propId ?_; omega))) | ((with_reducible apply l_callP); exact rfl; exact zEvs; exact rfl; (with_reducible apply hR); (case hF => exact zFsub); (try any_goals (refine propId ?_; omega)))) <;> ((try refine zR3 ?_) <;> (repeat' (with_reducible first | refine And.intro ?_ ?_ | intro _))))))
    all_goals (first | (exfalso; omega) | skip)
    all_goals exact e_resT rfl zRes .nil fsub_nil (.inr ⟨hne, by rw [h4]; rfl, rfl, rfl⟩)
end Go.Proofs.YtbllgmcpebifhaaGreatDoor.K
