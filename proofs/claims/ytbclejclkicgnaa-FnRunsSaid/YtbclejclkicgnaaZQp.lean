/- The reference's corrections: Ehrlich. -/
import Derived.Test.YtbclejclkicgnaaZQo
namespace Go.Proofs.Ytbclejclkicgnaa.K
open Go Go.RowKit Ieee
set_option linter.all false
set_option maxRecDepth 4000
set_option maxHeartbeats 1000000

theorem one_word : floatOfInt .f64 1 = 4607182418800017408 := by decide +kernel
theorem cone_eq : cone = (4607182418800017408, 0) := by rw [cone, one_word]
theorem one_fin : cfin (4607182418800017408, 0) = true := by decide +kernel
theorem zero_fin : cfin (0, 0) = true := by decide +kernel
theorem allF_congr {g g' : Nat → Nat × Nat} {la la' : Nat} : ∀ (n : Nat), (∀ k, k < n → g (la + k) = g' (la' + k)) → allF g la n = allF g' la' n
  | 0, _ => rfl
  | n + 1, h => by rw [allF, allF, allF_congr n fun k hk => h k (by omega), h n (by omega)]
theorem slope_code {p d : List (Nat × Nat)} (h2 : 2 ≤ p.length) (hd : d.length = p.length - 1) (hk : ∀ k, k < d.length → pg d k = sg1 p (k + 1)) (z : Nat × Nat) :
    (pSlope p z 0).1 = (pVal d z 0).1 ∧ (pSlope p z 0).2 = cd (okV d z && derF p) := by
  obtain ⟨h3, h4⟩ := slope_of h2 hd hk z
  refine ⟨h3, h4.trans ?_⟩
  have : allF (pg d) 0 d.length = derF p := by
    unfold derF
    rw [hd]
    exact allF_congr _ fun k hk' => by rw [Nat.zero_add, hk k (by omega), Nat.add_comm]
  rw [this]
  rfl
theorem eStep_bad {x o w : Nat × Nat} {c : Int} (hc : c ≠ 0) (h : (cfin (csub x w) = false ∧ c = 3) ∨ (cfin (csub x w) = true ∧ byC 0 cone (csub x w) = c) ∨ (cfin (csub x w) = true ∧ byC 0 cone (csub x w) = 0 ∧ cfin (cadd o (byV 0 cone (csub x w))) = false ∧ c = 3)) : (eStep x (o, 0) w).2 = c := by
  simp only [eStep]
  rcases h with ⟨h1, h2⟩ | ⟨h1, h2⟩ | ⟨h1, h2, h3, h4⟩
  · rw [lk_not h1, byC_ne (by decide), lk_ne (by decide), h2]
  · rw [lk_fin h1, h2, lk_ne hc]
  · rw [lk_fin h1, h2, lk_not h3, h4]
theorem l07Ehrlich_spec (vp vl : Value) (p l : List (Nat × Nat)) (i : Nat) (h1 : 2 ≤ p.length) (h2 : p.length ≤ 13) (hl : l.length ≤ 13) (hi : i < l.length) :
    Spec Try.prog 71 [vp, vl, .int .i64 (i : Int)] [] [fList 1 rCx vp p, fList 1 rCx vl l] (PCorr (corrE p l i 0)) := by
  refine enter Try.func71 Try.ntmps71 rfl (by kernel_rfl) zCon rfl fun G => ?_
  refine c_isList (v := vp) zMem fun hsp => ?_
  refine c_isList (v := vl) zMem fun hsl => ?_
  refine c_lenList (v := vl) zMem fun hll => ?_
  obtain ⟨x, hx⟩ : ∃ x, l[i]? = some x := ⟨_, List.getElem?_eq_getElem hi⟩
  obtain ⟨V, hV⟩ : ∃ V, V = pVal p (x.1, x.2) 0 := ⟨_, rfl⟩
  have hval := l07Value_spec vp p x.1 x.2 (by omega) (by omega)
  have hcd := pVal_cd p (x.1, x.2)
  rw [← hV] at hval hcd
  have hf := fun a b => l01Finite_spec a b
  have hder := l07Derived_spec vp p (by omega) (by omega)
  obtain ⟨T, hT⟩ : ∃ T, T = pSlope p (x.1, x.2) V.2 := ⟨_, rfl⟩
  have hcE : ceq V.1 (0, 0) = false → ∀ S, S = jFold (eStep x) i 0 l ((0, 0), byC T.2 V.1 T.1) → corrE p l i 0 = (byV (lk (lk S.2 (cmul (nf2 (byV T.2 V.1 T.1)) S.1)) (csub cone (cmul (nf2 (byV T.2 V.1 T.1)) S.1))) (nf2 (byV T.2 V.1 T.1)) (csub cone (cmul (nf2 (byV T.2 V.1 T.1)) S.1)), byC (lk (lk S.2 (cmul (nf2 (byV T.2 V.1 T.1)) S.1)) (csub cone (cmul (nf2 (byV T.2 V.1 T.1)) S.1))) (nf2 (byV T.2 V.1 T.1)) (csub cone (cmul (nf2 (byV T.2 V.1 T.1)) S.1))) := fun h0 S hS => by
    unfold corrE
    rw [lget_get hx]
    dsimp only
    rw [show pVal p x 0 = V from hV.symm, if_neg (by rw [h0]; simp), show pSlope p x V.2 = T from hT.symm, ← hS]
  have hbadS : ∀ c, c ≠ 0 → ceq V.1 (0, 0) = false → (jFold (eStep x) i 0 l ((0, 0), byC T.2 V.1 T.1)).2 = c → (corrE p l i 0).2 = c := fun c hc h0 hS => by
    rw [hcE h0 _ rfl]
    dsimp only
    rw [hS, lk_ne hc, lk_ne hc, byC_ne hc]
  have hbadQ : ∀ c, c ≠ 0 → ceq V.1 (0, 0) = false → byC T.2 V.1 T.1 = c → (corrE p l i 0).2 = c := fun c hc h0 hQ => hbadS c hc h0 (by rw [jFold_stick (eStep_stick x) _ _ _ _ (by dsimp only; rw [hQ]; exact hc)]; exact hQ)
  have hbadT : T.2 = 3 → ceq V.1 (0, 0) = false → (corrE p l i 0).2 = 3 := fun hT3 h0 => hbadQ 3 (by decide) h0 (by rw [hT3, byC_ne (by decide)])
  have stop : ∀ c : Int, c ≠ 0 → (corrE p l i 0).2 = c → ∃ u : {r : Nat × Nat // (corrE p l i 0).2 = 0 → nf2 r = nf2 (corrE p l i 0).1}, retVal [.complex .f64 0 0, .int .i64 c] = .tuple #[.complex .f64 u.1.1 u.1.2, .int .i64 (corrE p l i 0).2] := fun c hc he =>
    ⟨⟨(0, 0), fun h => absurd (he.symm.trans h) hc⟩, congrArg (fun k => Value.tuple #[.complex .f64 0 0, .int .i64 k]) he.symm⟩
  all_goals ((try refine zR3 ?_) <;> (repeat' (with_reducible first | refine And.intro ?_ ?_ | intro _)))
  refine l_callM rfl rfl zEvs rfl hval zTake zFsub fun u => ?_
  all_goals ((try refine zR3 ?_) <;> (repeat' (with_reducible first | refine And.intro ?_ ?_ | intro _)))
  · have hk : okV p (x.1, x.2) = false := decide_eq_false (by assumption)
    have hV3 : V.2 = 3 := by rw [hcd, hk]; rfl
    obtain ⟨u0, hu0⟩ := stop 3 (by decide) (by
     by_cases h0 : ceq V.1 (0, 0) = true
     · unfold corrE
       rw [lget_get hx]
       dsimp only
       rw [show pVal p x 0 = V from hV.symm, if_pos h0]
       exact hV3
     · exact hbadT (by rw [hT, hV3]; exact pSlope_stick _ _ (by decide)) (by simpa using h0))
    exact e_pm u0 rfl zRes .nil hu0
  · rename_i hk h0
    have hk : okV p (x.1, x.2) = true := decide_eq_true (Decidable.of_not_not hk)
    have hV0 : V.2 = 0 := by rw [hcd, hk]; rfl
    have h0 : ceq V.1 (0, 0) = true := by rw [← h0]; exact (ceq_eq u.eq rfl).symm
    have hc : corrE p l i 0 = ((0, 0), 0) := by
      unfold corrE
      rw [lget_get hx]
      dsimp only
      rw [show pVal p x 0 = V from hV.symm, if_pos h0, hV0]
    rw [hc]
    exact e_pm ⟨(0, 0), fun _ => rfl⟩ rfl zRes .nil rfl
  · rename_i hk h0
    have hk : okV p (x.1, x.2) = true := decide_eq_true (Decidable.of_not_not hk)
    have hV0 : V.2 = 0 := by rw [hcd, hk]; rfl
    have hVf : cfin V.1 = true := by rw [hV] at hV0 ⊢; exact pVal_fin hV0 (fun h => by omega)
    have h0 : ceq V.1 (0, 0) = false := by rw [← h0]; exact (ceq_eq u.eq rfl).symm
    rw [hV0] at hT
    refine l_callM rfl rfl zEvs rfl hder zTake zFsub fun dd => ?_
    obtain ⟨⟨vd, d⟩, hsd, hdl, hdk⟩ := dd
    dsimp only at hsd hdl hdk ⊢
    obtain ⟨hs1, hs2⟩ := slope_code h1 hdl hdk (x.1, x.2)
    rw [← hT] at hs1 hs2
    refine l_frzCx .head rfl ?_
    all_goals ((try refine zR3 ?_) <;> (repeat' (with_reducible first | refine And.intro ?_ ?_ | intro _)))
    · have hdf : derF p = false := by assumption
      exact (stop 3 (by decide) (hbadT (by rw [hs2, hdf, Bool.and_false]; rfl) h0)).elim fun u0 hu0 => e_pm u0 rfl zRes .nil hu0
    · have hdf : derF p = true := by assumption
      have hval2 := l07Value_spec vd d x.1 x.2 (by omega) (by omega)
      refine l_callM rfl rfl zEvs rfl hval2 zTake zFsub fun s => ?_
      all_goals ((try refine zR3 ?_) <;> (repeat' (with_reducible first | refine And.intro ?_ ?_ | intro _)))
      · have hk2 : okV d (x.1, x.2) = false := decide_eq_false (by assumption)
        exact (stop 3 (by decide) (hbadT (by rw [hs2, hk2, Bool.false_and]; rfl) h0)).elim fun u0 hu0 => e_pm u0 rfl zRes .nil hu0
      · have hk2 : okV d (x.1, x.2) = true := decide_eq_true (Decidable.of_not_not (by assumption))
        have hT0 : T.2 = 0 := by rw [hs2, hk2, hdf]; rfl
        have hD0 : (pVal d (x.1, x.2) 0).2 = 0 := okV_iff.1 hk2
        have hTf : cfin T.1 = true := by
          rw [hs1]
          refine pVal_fin hD0 fun h => ?_
          have hd1 : d.length = 1 := by omega
          rw [hdk 0 (by omega)]
          have e2 : p.length - 1 = 1 := by omega
          have : derF p = (true && cfin (sg1 p 1)) := by unfold derF; rw [e2]; rfl
          rw [this, Bool.true_and] at hdf
          exact hdf
        have huf : cfin (u.1.1, u.1.2) = true := by
          have : cfin u.1 = cfin (nf2 V.1) := u.fin
          rw [cfin_nf] at this
          exact this.trans hVf
        have hse : nf2 s.1 = nf2 T.1 := by rw [hs1]; exact s.eq
        have hsf : cfin (s.1.1, s.1.2) = true := by
          have h5 : cfin (nf2 s.1) = cfin (nf2 T.1) := congrArg cfin hse
          rw [cfin_nf, cfin_nf] at h5
          exact h5.trans hTf
        have hdiv := l07Divide_spec u.1.1 u.1.2 s.1.1 s.1.2 huf hsf
        have e3 : byC 0 (u.1.1, u.1.2) (s.1.1, s.1.2) = byC T.2 V.1 T.1 := byC_eq' hT0.symm u.eq hse
        have e4 : nf2 (byV 0 (u.1.1, u.1.2) (s.1.1, s.1.2)) = nf2 (byV T.2 V.1 T.1) := byV_eq' hT0.symm u.eq hse
        refine l_callM rfl rfl zEvs rfl hdiv zTake zFsub fun q => ?_
        obtain ⟨q, hq⟩ := q
        dsimp only at hq ⊢
        rw [e4, e3] at hq
        rw [e3]
        all_goals ((try refine zR3 ?_) <;> (repeat' (with_reducible first | refine And.intro ?_ ?_ | intro _)))
        · have hq0 : byC T.2 V.1 T.1 ≠ 0 := by assumption
          exact (stop _ hq0 (hbadQ _ hq0 h0 rfl)).elim fun u0 hu0 => e_pm u0 rfl zRes .nil hu0
        · have hq0 : byC T.2 V.1 T.1 = 0 := Decidable.of_not_not (by assumption)
          have hq := hq hq0
          have hqf : cfin (q.1, q.2) = true := by
            obtain ⟨_, _, b3, b4⟩ := byV_ok hq0
            rw [b3, nf2_cdiv] at hq
            have : cfin (nf2 q) = true := by rw [hq]; exact b4
            rw [cfin_nf] at this
            exact this
          obtain ⟨S, hS⟩ : ∃ S, S = jFold (eStep x) i 0 l ((0, 0), byC T.2 V.1 T.1) := ⟨_, rfl⟩
          have hc : corrE p l i 0 = (byV (lk (lk S.2 (cmul q S.1)) (csub cone (cmul q S.1))) (nf2 q) (csub cone (cmul q S.1)), byC (lk (lk S.2 (cmul q S.1)) (csub cone (cmul q S.1))) (nf2 q) (csub cone (cmul q S.1))) := by
            rw [hcE h0 S hS, ← hq, cmul_l]
          have hbadS' : ∀ c, c ≠ 0 → S.2 = c → (corrE p l i 0).2 = c := fun c h3 h4 => hbadS c h3 h0 (by rw [← hS]; exact h4)
          rw [hq0] at hS
          refine c_while (ι := {s : Nat × (Nat × Nat) // s.1 ≤ l.length ∧ jFold (eStep x) i s.1 (l.drop s.1) (nf2 s.2, 0) = S}) (κ := {o : Nat × Nat // nf2 o = S.1 ∧ S.2 = 0})
            (fun s => [(17, .int .i64 (s.1.1 : Int)), (16, .complex .f64 s.1.2.1 s.1.2.2), (0, vp), (1, vl), (2, .int .i64 (i : Int)), (14, .complex .f64 q.1 q.2)]) (fun _ => []) (fun _ => [fList 1 rCx vp p, fList 1 rCx vl l]) (fun s => l.length - s.1.1)
            (fun o => [(16, .complex .f64 o.1.1 o.1.2), (14, .complex .f64 q.1 q.2)]) (fun _ => []) (fun _ => [fList 1 rCx vp p, fList 1 rCx vl l]) ⟨(0, (0, 0)), Nat.zero_le _, by rw [nf2_zero]; exact hS.symm⟩ (fun _ _ s => s.start zSub zRfl zFsub) ?_ ?_
          · rintro ⟨⟨j, o⟩, hj, hinv⟩
            dsimp only at hj hinv ⊢
            by_cases hj' : j < l.length
            · have hdrop : l.drop j = l[j] :: l.drop (j + 1) := List.drop_eq_getElem_cons hj'
              obtain ⟨w, hw⟩ : ∃ w, l[j]? = some w := ⟨_, List.getElem?_eq_getElem hj'⟩
              have hwi : l[j] = w := by rw [List.getElem?_eq_getElem hj'] at hw; injection hw
              rw [hwi] at hdrop
              rw [hdrop, jFold] at hinv
              all_goals ((try refine zR3 ?_) <;> (repeat' (with_reducible first | refine And.intro ?_ ?_ | intro _)))
              all_goals (first | (exfalso; omega) | skip)
              · have hji : j = i := by omega
                rw [if_pos hji] at hinv
                exact e_again ⟨(j + 1, o), hj', hinv⟩ (by dsimp only; omega) zSub rfl zFsub
              · have hji : ¬ j = i := by omega
                rw [if_neg hji, eStep_nf] at hinv
                have bad : ∀ c, c ≠ 0 → (eStep x (o, 0) w).2 = c → (corrE p l i 0).2 = c := fun c h3 h4 => hbadS' c h3 (by rw [← hinv, jFold_stick (eStep_stick x) _ _ _ _ (by rw [h4]; exact h3)]; exact h4)
                refine c_draw ([8, 9], []) [] [0, 1, 2, 3, 4, 5, 6, 7, 8, 9] (by kernel_rfl) (by kernel_rfl) ?_
                all_goals (((try refine zD3 ?_) <;> (repeat' (with_reducible first | refine And.intro ?_ ?_ | intro _))) <;> (repeat' ((first | ((with_reducible apply l_callP); exact rfl; exact zEvs; exact rfl; (with_reducible apply hf); (case hF => exact zFsub); (try any_goals (refine propId ?_; omega)))) <;> ((try refine zD3 ?_) <;> (repeat' (with_reducible first | refine And.intro ?_ ?_ | intro _))))))
                · rename_i g hg
                  have hg : cfin (csub x w) = false := (g.fin).symm.trans hg
                  exact (stop 3 (by decide) (bad 3 (by decide) (eStep_bad (by decide) (.inl ⟨hg, rfl⟩)))).elim fun u0 hu0 => e_pm u0 rfl zRes .nil hu0
                · rename_i g hg
                  have hgx : cfin (csub x w) = true := (g.fin).symm.trans hg
                  have hge : nf2 (g.1.1, g.1.2) = nf2 (csub x w) := g.eq.trans (nf2_csub _ _).symm
                  have f3 : byC 0 (4607182418800017408, 0) (g.1.1, g.1.2) = byC 0 cone (csub x w) := by rw [cone_eq]; exact byC_eq rfl hge
                  have f4 : nf2 (byV 0 (4607182418800017408, 0) (g.1.1, g.1.2)) = nf2 (byV 0 cone (csub x w)) := by rw [cone_eq]; exact byV_eq rfl hge
                  have hdiv1 := l07Divide_spec 4607182418800017408 0 g.1.1 g.1.2 one_fin hg
                  refine l_callM rfl rfl zEvs rfl hdiv1 zTake zFsub fun r => ?_
                  obtain ⟨r, hr⟩ := r
                  dsimp only at hr ⊢
                  rw [f4, f3] at hr
                  rw [f3]
                  all_goals (((try refine zR3 ?_) <;> (repeat' (with_reducible first | refine And.intro ?_ ?_ | intro _))) <;> (repeat' ((first | ((with_reducible apply l_callP); exact rfl; exact zEvs; exact rfl; (with_reducible apply hf); (case hF => exact zFsub); (try any_goals (refine propId ?_; omega)))) <;> ((try refine zR3 ?_) <;> (repeat' (with_reducible first | refine And.intro ?_ ?_ | intro _))))))
                  · have hB : byC 0 cone (csub x w) ≠ 0 := by assumption
                    exact (stop _ hB (bad _ hB (eStep_bad hB (.inr (.inl ⟨hgx, rfl⟩))))).elim fun u0 hu0 => e_pm u0 rfl zRes .nil hu0
                  · rename_i hB t ht
                    have hB : byC 0 cone (csub x w) = 0 := Decidable.of_not_not hB
                    have hr := hr hB
                    have et : nf2 t.1 = cadd o (byV 0 cone (csub x w)) := by
                      rw [t.eq, ← cadd_r, show nf2 (r.1, r.2) = nf2 (byV 0 cone (csub x w)) from hr, cadd_r]
                    have htf : cfin (cadd o (byV 0 cone (csub x w))) = false := by rw [← et, cfin_nf]; exact ht
                    exact (stop 3 (by decide) (bad 3 (by decide) (eStep_bad (by decide) (.inr (.inr ⟨hgx, hB, htf, rfl⟩))))).elim fun u0 hu0 => e_pm u0 rfl zRes .nil hu0
                  · rename_i hB t ht
                    have hB : byC 0 cone (csub x w) = 0 := Decidable.of_not_not hB
                    have hr := hr hB
                    have et : nf2 t.1 = cadd o (byV 0 cone (csub x w)) := by
                      rw [t.eq, ← cadd_r, show nf2 (r.1, r.2) = nf2 (byV 0 cone (csub x w)) from hr, cadd_r]
                    have htf : cfin (cadd o (byV 0 cone (csub x w))) = true := by rw [← et, cfin_nf]; exact ht
                    have hw2 : eStep x (o, 0) w = (nf2 t.1, 0) := by rw [et]; simp only [eStep]; rw [lk_fin hgx, hB, lk_fin htf]
                    rw [hw2] at hinv
                    exact e_again ⟨(j + 1, t.1), hj', hinv⟩ (by dsimp only; omega) zSub rfl zFsub
            · all_goals ((try refine zR3 ?_) <;> (repeat' (with_reducible first | refine And.intro ?_ ?_ | intro _)))
              all_goals (first | (exfalso; omega) | skip)
              rw [List.drop_eq_nil_of_le (by omega), jFold] at hinv
              subst hinv
              exact e_out ⟨o, rfl, rfl⟩ zSub rfl zFsub
          · rintro ⟨o, ho, hS0⟩
            dsimp only
            rw [hS0] at hc
            have h6 : cmul (q.1, q.2) (o.1, o.2) = cmul q S.1 := by rw [← ho, cmul_r]
            all_goals (((try refine zR3 ?_) <;> (repeat' (with_reducible first | refine And.intro ?_ ?_ | intro _))) <;> (repeat' ((first | ((with_reducible apply l_callM); exact rfl; exact rfl; exact zEvs; exact rfl; (apply l01Times_spec); (case hL => exact zTake); (case hF => exact zFsub); (with_reducible intro _); (try any_goals (refine propId ?_; omega))) | ((with_reducible apply l_callP); exact rfl; exact zEvs; exact rfl; (with_reducible apply hf); (case hF => exact zFsub); (try any_goals (refine propId ?_; omega)))) <;> ((try refine zR3 ?_) <;> (repeat' (with_reducible first | refine And.intro ?_ ?_ | intro _))))))
            · rename_i m b hm
              have hP : cfin (cmul q S.1) = false := by rw [← h6]; exact (m.fin).symm.trans (by simpa using hm)
              exact (stop 3 (by decide) (by rw [hc]; dsimp only; rw [lk_not hP, lk_ne (by decide), byC_ne (by decide)])).elim fun u0 hu0 => e_pm u0 rfl zRes .nil hu0
            · rename_i m b hm hb
              have hP : cfin (cmul q S.1) = true := by rw [← h6]; exact (m.fin).symm.trans (by simpa using hm)
              have h7 : csub (4607182418800017408, 0) (m.1.1, m.1.2) = csub cone (cmul q S.1) := by rw [m.subr, h6, cone_eq]
              have hB : cfin (csub cone (cmul q S.1)) = false := by rw [← h7]; exact (b.fin).symm.trans hb
              exact (stop 3 (by decide) (by rw [hc]; dsimp only; rw [lk_fin hP, lk_not hB, byC_ne (by decide)])).elim fun u0 hu0 => e_pm u0 rfl zRes .nil hu0
            · rename_i m b hm hb
              have hP : cfin (cmul q S.1) = true := by rw [← h6]; exact (m.fin).symm.trans (by simpa using hm)
              have h7 : csub (4607182418800017408, 0) (m.1.1, m.1.2) = csub cone (cmul q S.1) := by rw [m.subr, h6, cone_eq]
              have hB : cfin (csub cone (cmul q S.1)) = true := by rw [← h7]; exact (b.fin).symm.trans hb
              have h8 : nf2 (b.1.1, b.1.2) = nf2 (csub cone (cmul q S.1)) := b.eq.trans (h7.trans (nf2_csub _ _).symm)
              rw [lk_fin hP, lk_fin hB] at hc
              have f3 : byC 0 (q.1, q.2) (b.1.1, b.1.2) = byC 0 (nf2 q) (csub cone (cmul q S.1)) := byC_eq (nf2_nf2 q).symm h8
              have f4 : nf2 (byV 0 (q.1, q.2) (b.1.1, b.1.2)) = nf2 (byV 0 (nf2 q) (csub cone (cmul q S.1))) := byV_eq (nf2_nf2 q).symm h8
              have hdiv2 := l07Divide_spec q.1 q.2 b.1.1 b.1.2 hqf hb
              refine l_callM rfl rfl zEvs rfl hdiv2 zTake zFsub fun r => ?_
              obtain ⟨r, hr⟩ := r
              dsimp only at hr ⊢
              rw [f4, f3] at hr
              rw [f3]
              all_goals ((try refine zR3 ?_) <;> (repeat' (with_reducible first | refine And.intro ?_ ?_ | intro _)))
              rw [hc]
              exact e_pm ⟨r, hr⟩ rfl zRes .nil rfl
theorem l07Correction_spec (vp vl : Value) (p l : List (Nat × Nat)) (kind : Int) (i : Nat) (h1 : 2 ≤ p.length) (h2 : p.length ≤ 13) (hlast : cfin (lget p (p.length - 1)) = true) (hl : l.length ≤ 13) (hi : i < l.length) :
    Spec Try.prog 60 [vp, vl, .int .i64 kind, .int .i64 (i : Int)] [] [fList 1 rCx vp p, fList 1 rCx vl l] (PCorr (corr p l kind i 0)) := by
  refine enter Try.func60 Try.ntmps60 rfl (by kernel_rfl) zCon rfl fun G => ?_
  refine c_isList (v := vp) zMem fun hsp => ?_
  refine c_isList (v := vl) zMem fun hsl => ?_
  have hw := l07Weierstrass_spec vp vl p l i h1 h2 hlast hl hi
  have he := l07Ehrlich_spec vp vl p l i h1 h2 hl hi
  all_goals (((try refine zR3 ?_) <;> (repeat' (with_reducible first | refine And.intro ?_ ?_ | intro _))) <;> (repeat' ((first | ((with_reducible apply l_callM); exact rfl; exact rfl; exact zEvs; exact rfl; (apply hw); (case hL => exact zTake); (case hF => exact zFsub); (with_reducible intro _); (try any_goals (refine propId ?_; omega))) | ((with_reducible apply l_callM); exact rfl; exact rfl; exact zEvs; exact rfl; (apply he); (case hL => exact zTake); (case hF => exact zFsub); (with_reducible intro _); (try any_goals (refine propId ?_; omega)))) <;> ((try refine zR3 ?_) <;> (repeat' (with_reducible first | refine And.intro ?_ ?_ | intro _))))))
  · have hk : kind = 0 := by assumption
    have hc : corr p l kind i 0 = corrW p l i 0 := by unfold corr; rw [if_pos hk]
    rw [hc]
    rename_i r
    exact e_pm r rfl zRes .nil rfl
  · have hk : ¬ kind = 0 := by assumption
    have hc : corr p l kind i 0 = corrE p l i 0 := by unfold corr; rw [if_neg hk]
    rw [hc]
    rename_i r
    exact e_pm r rfl zRes .nil rfl
end Go.Proofs.Ytbclejclkicgnaa.K
