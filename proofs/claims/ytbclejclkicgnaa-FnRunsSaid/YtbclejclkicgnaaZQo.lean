/- The reference's corrections: Weierstrass. -/
import Derived.Test.YtbclejclkicgnaaZQn
namespace Go.Proofs.Ytbclejclkicgnaa.K
open Go Go.RowKit Ieee
set_option linter.all false
set_option maxRecDepth 4000
set_option maxHeartbeats 1000000

theorem ffin_num {x : Nat} (h : ffin x = true) : fnum x := by
  have hn := ffin_nan h
  cases hr : double.read x with
  | number s m p => exact ⟨s, m, p, hr⟩
  | nan s f => unfold nanB at hn; rw [hr] at hn; cases hn
  | infinity s =>
    exfalso
    have e : fop .sub x x = NAN := by
      unfold fop
      have e1 : floatBits .sub .f64 x x = ((double.read x).sum (double.read x).opposite).map double.write := rfl
      rw [e1, hr]
      cases s <;> rfl
    unfold ffin at h
    rw [e] at h
    revert h
    decide +kernel
theorem cfin_num {z : Nat × Nat} (h : cfin z = true) : fnum z.1 ∧ fnum z.2 := by
  simp only [cfin, Bool.and_eq_true] at h
  exact ⟨ffin_num h.1, ffin_num h.2⟩
/-- A correction and its code. -/
abbrev PCorr (c : (Nat × Nat) × Int) : Value → List Own → List Fact → Prop := PM (fun u : {r : Nat × Nat // c.2 = 0 → nf2 r = nf2 c.1} => .tuple #[.complex .f64 u.1.1 u.1.2, .int .i64 c.2]) fun _ => []
theorem l07Divide_spec (a1 a2 b1 b2 : Nat) (ha : cfin (a1, a2) = true) (hb : cfin (b1, b2) = true) : Spec Try.prog 82 [.complex .f64 a1 a2, .complex .f64 b1 b2] [] [] (PCorr (byV 0 (a1, a2) (b1, b2), byC 0 (a1, a2) (b1, b2))) := by
  refine enter Try.func82 Try.ntmps82 rfl (by kernel_rfl) zCon rfl fun G => ?_
  have hf := fun a b => l01Finite_spec a b
  have na := cfin_num ha
  have nb := cfin_num hb
  all_goals (((try refine zR3 ?_) <;> (repeat' (with_reducible first | refine And.intro ?_ ?_ | intro _))) <;> (repeat' ((first | ((with_reducible apply l_callP); exact rfl; exact zEvs; exact rfl; (with_reducible apply hf); (case hF => exact zFsub); (try any_goals (refine propId ?_; omega)))) <;> ((try refine zR3 ?_) <;> (repeat' (with_reducible first | refine And.intro ?_ ?_ | intro _))))))
  · rename_i h0
    rw [show byC 0 (a1, a2) (b1, b2) = 5 by simp [byC, h0]]
    exact e_pm ⟨(0, 0), fun h => by cases h⟩ rfl zRes .nil rfl
  · rename_i h0 u hf1
    have hu := u.2 ⟨na.1, na.2, nb.1, nb.2, h0⟩
    have hc : cfin (cdiv (a1, a2) (b1, b2)) = false := by rw [← hu, cfin_nf]; exact hf1
    rw [show byC 0 (a1, a2) (b1, b2) = 3 by simp [byC, h0, lk, hc]]
    exact e_pm ⟨(0, 0), fun h => by cases h⟩ rfl zRes .nil rfl
  · rename_i h0 u hf1
    have hu := u.2 ⟨na.1, na.2, nb.1, nb.2, h0⟩
    have hc : cfin (cdiv (a1, a2) (b1, b2)) = true := by rw [← hu, cfin_nf]; exact hf1
    have e1 : byC 0 (a1, a2) (b1, b2) = 0 := by simp [byC, h0, lk, hc]
    have e2 : byV 0 (a1, a2) (b1, b2) = cdiv (a1, a2) (b1, b2) := by simp [byV, h0]
    rw [e1, e2]
    exact e_pm ⟨u.1, fun _ => by rw [hu]; exact (nf2_cdiv _ _).symm⟩ rfl zRes .nil rfl
theorem hLoop_fin (z : Nat × Nat) (g : Nat → Nat × Nat) (la : Nat) : ∀ (n : Nat) (s : (Nat × Nat) × Int), 0 < n → (hLoop z g (fun c _ => c) la n s).2 = 0 → cfin (hLoop z g (fun c _ => c) la n s).1 = true
  | 0, _, h, _ => by omega
  | 1, s, _, h => (lk_zero h).2
  | n + 2, s, _, h => hLoop_fin z g la (n + 1) _ (by omega) h
theorem pVal_fin {p : List (Nat × Nat)} {z : Nat × Nat} (h : (pVal p z 0).2 = 0) (h1 : p.length ≤ 1 → cfin (pg p 0) = true) : cfin (pVal p z 0).1 = true := by
  by_cases hp : p.length ≤ 1
  · have e : p.length - 1 = 0 := by omega
    have : pVal p z 0 = (pg p 0, 0) := by unfold pVal hRun; rw [e]; rfl
    rw [this]
    exact h1 hp
  · exact hLoop_fin _ _ _ _ _ (by omega) h
theorem okV_iff {p : List (Nat × Nat)} {z : Nat × Nat} : okV p z = true ↔ (pVal p z 0).2 = 0 := by unfold okV; exact decide_eq_true_iff
theorem pVal_cd (p : List (Nat × Nat)) (z : Nat × Nat) : (pVal p z 0).2 = cd (okV p z) := by
  obtain ⟨b', hb, _⟩ := hLoop_cd z (pg p) 0 (p.length - 1) (pg p (p.length - 1)) true
  have e : pVal p z 0 = hLoop z (pg p) (fun c _ => c) 0 (p.length - 1) (pg p (p.length - 1), cd true) := rfl
  rw [← e] at hb
  unfold okV
  rw [hb]
  cases b' <;> rfl
theorem wStep_zero {x o w : Nat × Nat} {c : Int} (h : (wStep x (o, c) w).2 = 0) : c = 0 ∧ cfin (csub x w) = true ∧ cfin (cmul o (csub x w)) = true := by
  simp only [wStep] at h
  have h1 := lk_zero h
  have h2 := lk_zero h1.1
  exact ⟨h2.1, h2.2, h1.2⟩
theorem wStep_bad {x o w : Nat × Nat} (h : cfin (csub x w) = false ∨ cfin (cmul o (csub x w)) = false) : (wStep x (o, 0) w).2 = 3 := by
  simp only [wStep]
  by_cases hg : cfin (csub x w) = true
  · rw [lk_fin hg]
    exact lk_not (h.resolve_left (by rw [hg]; simp))
  · rw [lk_not (by simpa using hg)]
    exact lk_ne (by decide) _
theorem l07Weierstrass_spec (vp vl : Value) (p l : List (Nat × Nat)) (i : Nat) (h1 : 2 ≤ p.length) (h2 : p.length ≤ 13) (hlast : cfin (lget p (p.length - 1)) = true) (hl : l.length ≤ 13) (hi : i < l.length) :
    Spec Try.prog 70 [vp, vl, .int .i64 (i : Int)] [] [fList 1 rCx vp p, fList 1 rCx vl l] (PCorr (corrW p l i 0)) := by
  refine enter Try.func70 Try.ntmps70 rfl (by kernel_rfl) zCon rfl fun G => ?_
  refine c_isList (v := vp) zMem fun hsp => ?_
  refine c_isList (v := vl) zMem fun hsl => ?_
  refine c_lenList (v := vp) zMem fun hlp => ?_
  refine c_lenList (v := vl) zMem fun hll => ?_
  obtain ⟨x, hx⟩ : ∃ x, l[i]? = some x := ⟨_, List.getElem?_eq_getElem hi⟩
  obtain ⟨y, hy⟩ : ∃ y, p[p.length - 1]? = some y := ⟨_, List.getElem?_eq_getElem (by omega)⟩
  have hpg : pg p (p.length - 1) = nf2 y := pg_get hy
  rw [lget_get hy] at hlast
  have e1 : ((p.length : Int) - 1) = ((p.length - 1 : Nat) : Int) := by omega
  obtain ⟨V, hV⟩ : ∃ V, V = pVal p (x.1, x.2) 0 := ⟨_, rfl⟩
  obtain ⟨S, hS⟩ : ∃ S, S = jFold (wStep x) i 0 l (nf2 y, V.2) := ⟨_, rfl⟩
  have hc : corrW p l i 0 = (byV S.2 V.1 S.1, byC S.2 V.1 S.1) := by
    unfold corrW
    rw [lget_get hx, hpg]
    dsimp only
    rw [show pVal p x 0 = V from hV.symm, ← hS]
  rw [hc]
  have hval := l07Value_spec vp p x.1 x.2 (by omega) (by omega)
  have hcd := pVal_cd p (x.1, x.2)
  rw [← hV] at hval hcd
  have hf := fun a b => l01Finite_spec a b
  all_goals ((try refine zR3 ?_) <;> (repeat' (with_reducible first | refine And.intro ?_ ?_ | intro _)))
  refine l_callM rfl rfl zEvs rfl hval zTake zFsub fun u => ?_
  all_goals ((try refine zR3 ?_) <;> (repeat' (with_reducible first | refine And.intro ?_ ?_ | intro _)))
  · have hk : okV p (x.1, x.2) = false := decide_eq_false (by assumption)
    have hs2 : S.2 = 3 := by rw [hS, jFold_stick (wStep_stick x) _ _ _ _ (by rw [hcd, hk]; decide), hcd, hk]; rfl
    have hb : byC S.2 V.1 S.1 = 3 := by rw [hs2, byC_ne (by decide)]
    rw [hb]
    exact e_pm ⟨(0, 0), fun h => by cases h⟩ rfl zRes .nil rfl
  · have hk : okV p (x.1, x.2) = true := decide_eq_true (Decidable.of_not_not (by assumption))
    have hV0 : V.2 = 0 := by rw [hcd, hk]; rfl
    have hVf : cfin V.1 = true := by rw [hV] at hV0 ⊢; exact pVal_fin hV0 (fun h => by omega)
    rw [hV0] at hS
    refine c_while (ι := {s : Nat × (Nat × Nat) // s.1 ≤ l.length ∧ cfin s.2 = true ∧ jFold (wStep x) i s.1 (l.drop s.1) (nf2 s.2, 0) = S}) (κ := {o : Nat × Nat // nf2 o = S.1 ∧ S.2 = 0 ∧ cfin o = true})
      (fun s => [(11, .int .i64 (s.1.1 : Int)), (10, .complex .f64 s.1.2.1 s.1.2.2), (0, vp), (1, vl), (2, .int .i64 (i : Int)), (8, .complex .f64 u.1.1 u.1.2)]) (fun _ => []) (fun _ => [fList 1 rCx vp p, fList 1 rCx vl l]) (fun s => l.length - s.1.1)
      (fun o => [(10, .complex .f64 o.1.1 o.1.2), (8, .complex .f64 u.1.1 u.1.2)]) (fun _ => []) (fun _ => [fList 1 rCx vp p, fList 1 rCx vl l]) ⟨(0, y), Nat.zero_le _, hlast, hS.symm⟩ (fun _ _ s => s.start zSub zRfl zFsub) ?_ ?_
    · rintro ⟨⟨j, o⟩, hj, hof, hinv⟩
      dsimp only at hj hof hinv ⊢
      by_cases hj' : j < l.length
      · have hdrop : l.drop j = l[j] :: l.drop (j + 1) := List.drop_eq_getElem_cons hj'
        obtain ⟨w, hw⟩ : ∃ w, l[j]? = some w := ⟨_, List.getElem?_eq_getElem hj'⟩
        have hwi : l[j] = w := by rw [List.getElem?_eq_getElem hj'] at hw; injection hw
        rw [hwi] at hdrop
        rw [hdrop, jFold] at hinv
        all_goals ((try refine zR3 ?_) <;> (repeat' (with_reducible first | refine And.intro ?_ ?_ | intro _)))
        all_goals (first | (exfalso; omega) | skip)
        · have hji : j = i := by omega
          rw [if_pos hji] at hinv
          exact e_again ⟨(j + 1, o), hj', hof, hinv⟩ (by dsimp only; omega) zSub rfl zFsub
        · have hji : ¬ j = i := by omega
          rw [if_neg hji, wStep_nf] at hinv
          refine c_draw ([8, 9], []) [] [0, 1, 2, 3, 4, 5, 6, 7, 8, 9] (by kernel_rfl) (by kernel_rfl) ?_
          have bad : (wStep x (o, 0) w).2 = 3 → byC S.2 V.1 S.1 = 3 := fun h => by
            have hs2 : S.2 = 3 := by rw [← hinv, jFold_stick (wStep_stick x) _ _ _ _ (by rw [h]; decide), h]
            rw [hs2, byC_ne (by decide)]
          all_goals (((try refine zD3 ?_) <;> (repeat' (with_reducible first | refine And.intro ?_ ?_ | intro _))) <;> (repeat' ((first | ((with_reducible apply l_callM); exact rfl; exact rfl; exact zEvs; exact rfl; (apply l01Times_spec); (case hL => exact zTake); (case hF => exact zFsub); (with_reducible intro _); (try any_goals (refine propId ?_; omega))) | ((with_reducible apply l_callP); exact rfl; exact zEvs; exact rfl; (with_reducible apply hf); (case hF => exact zFsub); (try any_goals (refine propId ?_; omega)))) <;> ((try refine zD3 ?_) <;> (repeat' (with_reducible first | refine And.intro ?_ ?_ | intro _))))))
          · rename_i g t hg
            have hg : cfin (csub x w) = false := (g.fin).symm.trans (by simpa using hg)
            rw [bad (wStep_bad (.inl hg))]
            exact e_pm ⟨(0, 0), fun h => by cases h⟩ rfl zRes .nil rfl
          · rename_i g t hg ht
            have ht : cfin (cmul o (csub x w)) = false := by
              rw [← g.mulr o.1 o.2]
              exact (t.fin).symm.trans ht
            rw [bad (wStep_bad (.inr ht))]
            exact e_pm ⟨(0, 0), fun h => by cases h⟩ rfl zRes .nil rfl
          · rename_i g t hg ht
            have hg : cfin (csub x w) = true := (g.fin).symm.trans (by simpa using hg)
            have et : nf2 t.1 = cmul o (csub x w) := t.eq.trans (g.mulr _ _)
            have ht' : cfin (cmul o (csub x w)) = true := by rw [← et, cfin_nf]; exact ht
            have hw2 : wStep x (o, 0) w = (nf2 t.1, 0) := by rw [et]; simp only [wStep]; rw [lk_fin hg, lk_fin ht']
            rw [hw2] at hinv
            exact e_again ⟨(j + 1, t.1), hj', ht, hinv⟩ (by dsimp only; omega) zSub rfl zFsub
      · all_goals ((try refine zR3 ?_) <;> (repeat' (with_reducible first | refine And.intro ?_ ?_ | intro _)))
        all_goals (first | (exfalso; omega) | skip)
        rw [List.drop_eq_nil_of_le (by omega), jFold] at hinv
        subst hinv
        exact e_out ⟨o, rfl, rfl, hof⟩ zSub rfl zFsub
    · rintro ⟨o, ho, hS0, hof⟩
      dsimp only
      have huf : cfin (u.1.1, u.1.2) = true := by
        have : cfin u.1 = cfin (nf2 V.1) := u.fin
        rw [cfin_nf] at this
        exact this.trans hVf
      have hdiv := l07Divide_spec u.1.1 u.1.2 o.1 o.2 huf hof
      all_goals (((try refine zR3 ?_) <;> (repeat' (with_reducible first | refine And.intro ?_ ?_ | intro _))) <;> (repeat' ((first | ((with_reducible apply l_callM); exact rfl; exact rfl; exact zEvs; exact rfl; (apply hdiv); (case hL => exact zTake); (case hF => exact zFsub); (with_reducible intro _); (try any_goals (refine propId ?_; omega)))) <;> ((try refine zR3 ?_) <;> (repeat' (with_reducible first | refine And.intro ?_ ?_ | intro _))))))
      rename_i r
      have hv : nf2 (o.1, o.2) = nf2 S.1 := by rw [← ho]; exact (nf2_nf2 _).symm
      have e3 : byC 0 (u.1.1, u.1.2) (o.1, o.2) = byC S.2 V.1 S.1 := byC_eq' hS0.symm u.eq hv
      have e4 : nf2 (byV 0 (u.1.1, u.1.2) (o.1, o.2)) = nf2 (byV S.2 V.1 S.1) := byV_eq' hS0.symm u.eq hv
      rw [← e3]
      exact e_pm ⟨r.1, fun h => (r.2 h).trans e4⟩ rfl zRes zTake rfl
end Go.Proofs.Ytbclejclkicgnaa.K
