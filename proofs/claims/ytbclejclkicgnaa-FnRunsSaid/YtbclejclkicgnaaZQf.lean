/- The program's corrections. -/
import Derived.Test.YtbclejclkicgnaaZQc

section
namespace Go.Proofs.Ytbclejclkicgnaa.K
open Go Go.RowKit
set_option linter.all false
set_option maxRecDepth 4000
set_option maxHeartbeats 1000000

theorem areFinite_spec (v : Value) (l : List (Nat × Nat)) : Spec Try.prog 42 [v] [] [fList 1 rCx v l] (Gives (.bool (l.all cfin))) := by
  refine enter Try.func42 Try.ntmps42 rfl (by kernel_rfl) zCon rfl fun G => ?_
  refine c_isList (v := v) zMem fun hsv => ?_
  refine c_lenList zMem fun hlen => ?_
  all_goals ((try refine zR3 ?_) <;> (repeat' (with_reducible first | refine And.intro ?_ ?_ | intro _)))
  refine c_while (ι := { i : Nat // i ≤ l.length ∧ l.all cfin = (l.drop i).all cfin }) (κ := { u : Unit // l.all cfin = true }) (fun i => [(5, v), (6, .int .i64 (l.length : Int)), (7, .int .i64 (i.1 : Int))]) (fun _ => []) (fun _ => [fList 1 rCx v l]) (fun i => l.length - i.1)
    (fun _ => []) (fun _ => []) (fun _ => []) ⟨0, Nat.zero_le _, rfl⟩ (fun _ _ s => s.start zSub zRfl zFsub) ?_ ?_
  · rintro ⟨i, hi, hall⟩
    dsimp only at hi ⊢
    by_cases hi' : i < l.length
    · have hdrop : l.drop i = l[i] :: l.drop (i + 1) := List.drop_eq_getElem_cons hi'
      obtain ⟨w, hw⟩ : ∃ w, l[i]? = some w := ⟨_, List.getElem?_eq_getElem hi'⟩
      have hwi : l[i] = w := by rw [List.getElem?_eq_getElem hi'] at hw; injection hw
      rw [hwi] at hdrop
      rw [hdrop, List.all_cons] at hall
      all_goals (((try refine zR3 ?_) <;> (repeat' (with_reducible first | refine And.intro ?_ ?_ | intro _))) <;> (repeat' ((first | ((with_reducible apply l_callM); exact rfl; exact rfl; exact zEvs; exact rfl; (apply IsFinite_spec); (case hL => exact zTake); (case hF => exact zFsub); (with_reducible intro _); (try any_goals (refine propId ?_; omega)))) <;> ((try refine zR3 ?_) <;> (repeat' (with_reducible first | refine And.intro ?_ ?_ | intro _))))))
      · have h0 : cfin w = false := by assumption
        rw [h0] at hall
        rw [hall]
        (refine e_gives rfl zRes ?_; first | rfl | (simp [retVal, *]; done) | (simp_all [retVal]; done) | (simp only [retVal]))
      · have h0 : cfin w = true := by assumption
        rw [h0, Bool.true_and] at hall
        exact e_again ⟨i + 1, hi', hall⟩ (by dsimp only; omega) zSub rfl zFsub
      · exfalso; omega
    · all_goals ((try refine zR3 ?_) <;> (repeat' (with_reducible first | refine And.intro ?_ ?_ | intro _)))
      · exfalso; omega
      · exact e_out ⟨(), by rw [hall, List.drop_eq_nil_of_le (by omega)]; rfl⟩ zSub rfl zFsub
  · rintro ⟨_, h⟩
    all_goals ((try refine zR3 ?_) <;> (repeat' (with_reducible first | refine And.intro ?_ ?_ | intro _)))
    rw [h]
    (refine e_gives rfl zRes ?_; first | rfl | (simp [retVal, *]; done) | (simp_all [retVal]; done) | (simp only [retVal]))
/-- Is it a polynomial? -/
def isP (p : List (Nat × Nat)) : Bool := decide (2 ≤ p.length) && decide (p.length ≤ 13) && p.all cfin && !ceq (lget p (p.length - 1)) (0, 0)
theorem isP_all {p : List (Nat × Nat)} (h : isP p = true) : 2 ≤ p.length ∧ p.length ≤ 13 ∧ (∀ k, k < p.length → cfin (lget p k) = true) ∧ ceq (lget p (p.length - 1)) (0, 0) = false := by
  simp only [isP, Bool.and_eq_true, decide_eq_true_eq, Bool.not_eq_true', List.all_eq_true] at h
  refine ⟨h.1.1.1, h.1.1.2, fun k hk => h.1.2 _ ?_, h.2⟩
  simp [lget, hk]
theorem IsPolynomial_spec (v : Value) (p : List (Nat × Nat)) : Spec Try.prog 41 [v] [] [fList 1 rCx v p] (Gives (.bool (isP p))) := by
  refine enter Try.func41 Try.ntmps41 rfl (by kernel_rfl) zCon rfl fun G => ?_
  refine c_isList (v := v) zMem fun hsv => ?_
  refine c_lenList zMem fun hlen => ?_
  have hA := areFinite_spec v p
  by_cases hl : 2 ≤ p.length ∧ p.length ≤ 13
  · obtain ⟨y, hy⟩ : ∃ y, p[p.length - 1]? = some y := ⟨_, List.getElem?_eq_getElem (by omega)⟩
    have hly : lget p (p.length - 1) = y := by simp [lget, hy]
    have e1 : ((p.length : Int) - 1) = ((p.length - 1 : Nat) : Int) := by omega
    all_goals (((try refine zR3 ?_) <;> (repeat' (with_reducible first | refine And.intro ?_ ?_ | intro _))) <;> (repeat' ((first | ((with_reducible apply l_callP); exact rfl; exact zEvs; exact rfl; (with_reducible apply hA); (case hF => exact zFsub); (try any_goals (refine propId ?_; omega)))) <;> ((try refine zR3 ?_) <;> (repeat' (with_reducible first | refine And.intro ?_ ?_ | intro _))))))
    all_goals (first | (exfalso; omega) | skip)
    all_goals (refine e_gives rfl zRes ?_; simp [retVal, isP, hly, *])
  · all_goals ((try refine zR3 ?_) <;> (repeat' (with_reducible first | refine And.intro ?_ ?_ | intro _)))
    all_goals (first | (exfalso; omega) | skip)
    all_goals (refine e_gives rfl zRes ?_; simp [retVal, isP]; intros; omega)
theorem wide2_spec (vp vl : Value) (p l : List (Nat × Nat)) : Spec Try.prog 40 [vp, vl] [] [fList 1 rCx vp p, fList 1 rCx vl l] (PU (.bool (isP p && l.all cfin))) := by
  refine enter Try.func40 Try.ntmps40 rfl (by kernel_rfl) zCon rfl fun G => ?_
  have h1 := IsPolynomial_spec vp p
  have h2 := areFinite_spec vl l
  all_goals (((try refine zR3 ?_) <;> (repeat' (with_reducible first | refine And.intro ?_ ?_ | intro _))) <;> (repeat' ((first | ((with_reducible apply l_callP); exact rfl; exact zEvs; exact rfl; (with_reducible apply h1); (case hF => exact zFsub); (try any_goals (refine propId ?_; omega))) | ((with_reducible apply l_callP); exact rfl; exact zEvs; exact rfl; (with_reducible apply h2); (case hF => exact zFsub); (try any_goals (refine propId ?_; omega)))) <;> ((try refine zR3 ?_) <;> (repeat' (with_reducible first | refine And.intro ?_ ?_ | intro _))))))
  all_goals (refine e_pm () rfl zRes .nil ?_; simp [retVal, *])
end Go.Proofs.Ytbclejclkicgnaa.K
end

section
/- The program's corrections. -/
namespace Go.Proofs.Ytbclejclkicgnaa.K
open Go Go.RowKit
set_option linter.all false
set_option maxRecDepth 4000
set_option maxHeartbeats 1000000

theorem lget_get {l : List (Nat × Nat)} {i : Nat} {y : Nat × Nat} (h : l[i]? = some y) : lget l i = y := by simp [lget, h]
theorem wStep_nf (x : Nat × Nat) (o : Nat × Nat) (c : Int) (w : Nat × Nat) : wStep x (nf2 o, c) w = wStep x (o, c) w := by simp only [wStep, cmul_l]
theorem eStep_nf (x : Nat × Nat) (o : Nat × Nat) (c : Int) (w : Nat × Nat) : eStep x (nf2 o, c) w = eStep x (o, c) w := by simp only [eStep, cadd_l]
theorem CW.mul1 {a : Nat × Nat} (u : CW a) (z1 z2 : Nat) : cmul (u.1.1, u.1.2) (z1, z2) = cmul a (z1, z2) := by
  show cmul u.1 _ = _
  rw [← cmul_l, u.eq]
theorem CW.mulr {a : Nat × Nat} (u : CW a) (z1 z2 : Nat) : cmul (z1, z2) (u.1.1, u.1.2) = cmul (z1, z2) a := by
  show cmul _ u.1 = _
  rw [← cmul_r, u.eq]
theorem CW.addr {a : Nat × Nat} (u : CW a) (z1 z2 : Nat) : cadd (z1, z2) (u.1.1, u.1.2) = cadd (z1, z2) a := by
  show cadd _ u.1 = _
  rw [← cadd_r, u.eq]
theorem CW.subr {a : Nat × Nat} (u : CW a) (z1 z2 : Nat) : csub (z1, z2) (u.1.1, u.1.2) = csub (z1, z2) a := by
  show csub _ u.1 = _
  rw [← csub_r, u.eq]
theorem CW.val {a b : Nat × Nat} (h : nf2 a = nf2 b) (u : CW (nf2 a)) : nf u.1.1 = (nf2 b).1 ∧ nf u.1.2 = (nf2 b).2 := by
  have := u.eq.trans h
  exact ⟨congrArg Prod.fst this, congrArg Prod.snd this⟩

theorem byC_eq {c : Int} {a a' b b' : Nat × Nat} (ha : nf2 a = nf2 a') (hb : nf2 b = nf2 b') : byC c a b = byC c a' b' := by rw [← byC_nf, ha, hb, byC_nf]
theorem byV_eq {c : Int} {a a' b b' : Nat × Nat} (ha : nf2 a = nf2 a') (hb : nf2 b = nf2 b') : nf2 (byV c a b) = nf2 (byV c a' b') := by rw [← byV_nf, ha, hb, byV_nf]
theorem byC_eq' {c c' : Int} {a a' b b' : Nat × Nat} (hc : c = c') (ha : nf2 a = nf2 a') (hb : nf2 b = nf2 b') : byC c a b = byC c' a' b' := by subst hc; exact byC_eq ha hb
theorem byV_eq' {c c' : Int} {a a' b b' : Nat × Nat} (hc : c = c') (ha : nf2 a = nf2 a') (hb : nf2 b = nf2 b') : nf2 (byV c a b) = nf2 (byV c' a' b') := by subst hc; exact byV_eq ha hb
theorem ceq_eq {a a' b b' : Nat × Nat} (ha : nf2 a = nf2 a') (hb : nf2 b = nf2 b') : ceq a b = ceq a' b' := by rw [← ceq_l, ← ceq_r, ha, hb, ceq_l, ceq_r]
theorem correctionW_spec (b : Nat) (c : Int) (vp vl : Value) (p l : List (Nat × Nat)) (i : Nat) (h1 : 1 ≤ p.length) (h2 : p.length ≤ 13) (hl : l.length ≤ 13) (hi : i < l.length) :
    Spec Try.prog 62 [pt b, vp, vl, .int .i64 0, .int .i64 (i : Int)] [oSh b c] [fList 1 rCx vp p, fList 1 rCx vl l] (PSh b (nf2 (corrW p l i c).1) (corrW p l i c).2) := by
  refine enter Try.func62 Try.ntmps62 rfl (by kernel_rfl) zCon rfl fun G => ?_
  refine c_isList (v := vp) zMem fun hsp => ?_
  refine c_isList (v := vl) zMem fun hsl => ?_
  refine c_lenList (v := vp) zMem fun hlp => ?_
  refine c_lenList (v := vl) zMem fun hll => ?_
  obtain ⟨x, hx⟩ : ∃ x, l[i]? = some x := ⟨_, List.getElem?_eq_getElem hi⟩
  obtain ⟨y, hy⟩ : ∃ y, p[p.length - 1]? = some y := ⟨_, List.getElem?_eq_getElem (by omega)⟩
  have hpg : pg p (p.length - 1) = nf2 y := pg_get hy
  have e1 : ((p.length : Int) - 1) = ((p.length - 1 : Nat) : Int) := by omega
  obtain ⟨V, hV⟩ : ∃ V, V = pVal p (x.1, x.2) c := ⟨_, rfl⟩
  obtain ⟨S, hS⟩ : ∃ S, S = jFold (wStep x) i 0 l (nf2 y, V.2) := ⟨_, rfl⟩
  have hc : corrW p l i c = (byV S.2 V.1 S.1, byC S.2 V.1 S.1) := by
    unfold corrW
    rw [lget_get hx, hpg]
    dsimp only
    rw [show pVal p x c = V from hV.symm, ← hS]
  rw [hc]
  all_goals ((try refine zR3 ?_) <;> (repeat' (with_reducible first | refine And.intro ?_ ?_ | intro _)))
  have hval := value_spec b c vp p x.1 x.2 h1 (by omega)
  rw [← hV] at hval
  refine l_callM rfl rfl zEvs rfl hval zTake zFsub fun u => ?_
  all_goals ((try refine zR3 ?_) <;> (repeat' (with_reducible first | refine And.intro ?_ ?_ | intro _)))
  refine c_while (ι := {s : Nat × (Nat × Nat) × Int // s.1 ≤ l.length ∧ jFold (wStep x) i s.1 (l.drop s.1) (nf2 s.2.1, s.2.2) = S}) (κ := {o : Nat × Nat // nf2 o = S.1})
    (fun s => [(36, .int .i64 (s.1.1 : Int)), (12, .complex .f64 s.1.2.1.1 s.1.2.1.2), (35, .int .i64 (l.length : Int)), (34, vl), (0, pt b), (2, vl), (4, .int .i64 (i : Int)), (11, .complex .f64 u.1.1 u.1.2)]) (fun s => [oSh b s.1.2.2]) (fun _ => [fList 1 rCx vp p, fList 1 rCx vl l]) (fun s => l.length - s.1.1)
    (fun o => [(12, .complex .f64 o.1.1 o.1.2), (0, pt b), (11, .complex .f64 u.1.1 u.1.2)]) (fun _ => [oSh b S.2]) (fun _ => [fList 1 rCx vp p, fList 1 rCx vl l]) ⟨(0, y, V.2), Nat.zero_le _, hS.symm⟩ (fun _ _ s => s.start zSub zRfl zFsub) ?_ ?_
  · rintro ⟨⟨j, o, cc⟩, hj, hinv⟩
    dsimp only at hj hinv ⊢
    by_cases hj' : j < l.length
    · have hdrop : l.drop j = l[j] :: l.drop (j + 1) := List.drop_eq_getElem_cons hj'
      obtain ⟨w, hw⟩ : ∃ w, l[j]? = some w := ⟨_, List.getElem?_eq_getElem hj'⟩
      have hwi : l[j] = w := by rw [List.getElem?_eq_getElem hj'] at hw; injection hw
      rw [hwi] at hdrop
      rw [hdrop, jFold] at hinv
      all_goals (((try refine zR3 ?_) <;> (repeat' (with_reducible first | refine And.intro ?_ ?_ | intro _))) <;> (repeat' ((first | ((with_reducible apply l_callM); exact rfl; exact rfl; exact zEvs; exact rfl; (apply minus_spec); (case hL => exact zTake); (case hF => exact zFsub); (with_reducible intro _); (try any_goals (refine propId ?_; omega))) | ((with_reducible apply l_callM); exact rfl; exact rfl; exact zEvs; exact rfl; (apply times_spec); (case hL => exact zTake); (case hF => exact zFsub); (with_reducible intro _); (try any_goals (refine propId ?_; omega)))) <;> ((try refine zR3 ?_) <;> (repeat' (with_reducible first | refine And.intro ?_ ?_ | intro _))))))
      all_goals (first | (exfalso; omega) | skip)
      · rename_i g t
        have hji : ¬ j = i := by omega
        rw [if_neg hji, wStep_nf] at hinv
        have et : nf2 t.1 = cmul o (csub x w) := t.eq.trans (g.mulr _ _)
        obtain ⟨t, ht⟩ := t
        dsimp only at et ⊢
        clear ht
        rw [g.mulr]
        exact e_again ⟨(j + 1, t, _), hj', by rw [et]; exact hinv⟩ (by dsimp only; omega) zSub rfl zFsub
      · have hji : j = i := by omega
        rw [if_pos hji] at hinv
        exact e_again ⟨(j + 1, o, cc), hj', hinv⟩ (by dsimp only; omega) zSub rfl zFsub
    · all_goals ((try refine zR3 ?_) <;> (repeat' (with_reducible first | refine And.intro ?_ ?_ | intro _)))
      all_goals (first | (exfalso; omega) | skip)
      rw [List.drop_eq_nil_of_le (by omega), jFold] at hinv
      subst hinv
      exact e_out ⟨o, rfl⟩ zSub rfl zFsub
  · rintro ⟨o, ho⟩
    dsimp only
    all_goals (((try refine zR3 ?_) <;> (repeat' (with_reducible first | refine And.intro ?_ ?_ | intro _))) <;> (repeat' ((first | ((with_reducible apply l_callM); exact rfl; exact rfl; exact zEvs; exact rfl; (apply by_spec); (case hL => exact zTake); (case hF => exact zFsub); (with_reducible intro _); (try any_goals (refine propId ?_; omega)))) <;> ((try refine zR3 ?_) <;> (repeat' (with_reducible first | refine And.intro ?_ ?_ | intro _))))))
    rename_i r
    have hv : nf2 (o.1, o.2) = nf2 S.1 := by rw [← ho]; exact (nf2_nf2 _).symm
    have e3 : byC S.2 (u.1.1, u.1.2) (o.1, o.2) = byC S.2 V.1 S.1 := byC_eq u.eq hv
    have e4 : nf2 (byV S.2 (u.1.1, u.1.2) (o.1, o.2)) = nf2 (byV S.2 V.1 S.1) := byV_eq u.eq hv
    rw [← e3]
    exact e_pm ⟨r.1, CW.val e4 r⟩ rfl zRes zTake rfl
theorem eStep_of {x w o : Nat × Nat} {cc : Int} {e f h : Nat × Nat} (g : CW e) (r : CW f) (t : CW h) (he : e = csub (x.1, x.2) (w.1, w.2)) (hf : f = nf2 (byV (lk cc (csub (x.1, x.2) (w.1, w.2))) cone (g.1.1, g.1.2))) (hh : h = cadd (o.1, o.2) (r.1.1, r.1.2)) :
    eStep x (o, cc) w = (nf2 t.1, lk (byC (lk cc (csub (x.1, x.2) (w.1, w.2))) cone (g.1.1, g.1.2)) (cadd (o.1, o.2) (r.1.1, r.1.2))) := by
  have h1 : nf2 (csub x w) = nf2 (g.1.1, g.1.2) := by
    rw [nf2_csub]; exact (g.eq.trans he).symm
  have h2 : nf2 (byV (lk cc (csub x w)) cone (csub x w)) = nf2 (byV (lk cc (csub x w)) cone (g.1.1, g.1.2)) := byV_eq rfl h1
  have h3 : byC (lk cc (csub x w)) cone (csub x w) = byC (lk cc (csub x w)) cone (g.1.1, g.1.2) := byC_eq rfl h1
  have h4 : cadd o (byV (lk cc (csub x w)) cone (csub x w)) = cadd (o.1, o.2) (r.1.1, r.1.2) := by
    rw [← cadd_r, h2]
    show _ = cadd o r.1
    rw [← cadd_r o r.1, r.eq, hf]
  unfold eStep
  dsimp only
  rw [h3, h4, t.eq, hh]
theorem correctionE_spec (b : Nat) (c : Int) (vp vl : Value) (p l : List (Nat × Nat)) (kind : Int) (hkind : kind ≠ 0) (i : Nat) (h1 : 2 ≤ p.length) (h2 : p.length ≤ 13) (hl : l.length ≤ 13) (hi : i < l.length) :
    Spec Try.prog 62 [pt b, vp, vl, .int .i64 kind, .int .i64 (i : Int)] [oSh b c] [fList 1 rCx vp p, fList 1 rCx vl l] (PSh b (nf2 (corrE p l i c).1) (corrE p l i c).2) := by
  refine enter Try.func62 Try.ntmps62 rfl (by kernel_rfl) zCon rfl fun G => ?_
  refine c_isList (v := vp) zMem fun hsp => ?_
  refine c_isList (v := vl) zMem fun hsl => ?_
  refine c_lenList (v := vp) zMem fun hlp => ?_
  refine c_lenList (v := vl) zMem fun hll => ?_
  obtain ⟨x, hx⟩ : ∃ x, l[i]? = some x := ⟨_, List.getElem?_eq_getElem hi⟩
  obtain ⟨V, hV⟩ : ∃ V, V = pVal p (x.1, x.2) c := ⟨_, rfl⟩
  have hval := value_spec b c vp p x.1 x.2 (by omega) (by omega)
  rw [← hV] at hval
  all_goals ((try refine zR3 ?_) <;> (repeat' (with_reducible first | refine And.intro ?_ ?_ | intro _)))
  refine l_callM rfl rfl zEvs rfl hval zTake zFsub fun u => ?_
  all_goals (((try refine zR3 ?_) <;> (repeat' (with_reducible first | refine And.intro ?_ ?_ | intro _))) <;> (repeat' ((first | ((with_reducible apply l_callM); exact rfl; exact rfl; exact zEvs; exact rfl; (apply wide1_spec); (case hL => exact zTake); (case hF => exact zFsub); (with_reducible intro _); (try any_goals (refine propId ?_; omega)))) <;> ((try refine zR3 ?_) <;> (repeat' (with_reducible first | refine And.intro ?_ ?_ | intro _))))))
  all_goals (first | (exfalso; omega) | skip)
  · have h0 : ceq (u.1.1, u.1.2) (floatOfInt .f64 0, 0) = true := by assumption
    rw [ofInt_zero, ceq_eq (a' := V.1) (b' := (0, 0)) u.eq rfl] at h0
    have hc : corrE p l i c = ((0, 0), V.2) := by
      unfold corrE
      rw [lget_get hx]
      dsimp only
      rw [show pVal p x c = V from hV.symm, if_pos h0]
    rw [hc]
    exact e_pm ⟨(floatOfInt .f64 0, 0), by rw [ofInt_zero]; exact ⟨rfl, rfl⟩⟩ rfl zRes zTake rfl
  · have h0 : ceq (u.1.1, u.1.2) (floatOfInt .f64 0, 0) = false := by assumption
    rw [ofInt_zero, ceq_eq (a' := V.1) (b' := (0, 0)) u.eq rfl] at h0
    obtain ⟨T, hT⟩ : ∃ T, T = pSlope p (x.1, x.2) V.2 := ⟨_, rfl⟩
    have hslope := slope_spec b V.2 vp p x.1 x.2 (by omega) (by omega)
    rw [← hT] at hslope
    refine c_draw ([], []) [] [0, 1, 2, 3, 4, 5, 6, 7, 10, 11, 12, 13, 8, 9, 14, 15, 16, 17] (by kernel_rfl) (by kernel_rfl) ?_
    all_goals ((try refine zD3 ?_) <;> (repeat' (with_reducible first | refine And.intro ?_ ?_ | intro _)))
    refine a_two (k := 14) [9, 14, 15, 16, 17] [8, 9, 15, 16, 17] rfl rfl (.inl (by decide +kernel)) rfl rfl ?_ ?_
    · refine l_callM rfl rfl zEvs rfl hslope zTake zFsub fun v => ?_
      all_goals ((try refine zD3 ?_) <;> (repeat' (with_reducible first | refine And.intro ?_ ?_ | intro _)))
      refine a_two (k := 14) [14, 15, 16, 17] [9, 15, 16, 17] rfl rfl (.inl (by decide +kernel)) rfl rfl ?_ ?_
      · all_goals (((try refine zD3 ?_) <;> (repeat' (with_reducible first | refine And.intro ?_ ?_ | intro _))) <;> (repeat' ((first | ((with_reducible apply l_callM); exact rfl; exact rfl; exact zEvs; exact rfl; (apply by_spec); (case hL => exact zTake); (case hF => exact zFsub); (with_reducible intro _); (try any_goals (refine propId ?_; omega))) | ((with_reducible apply l_callM); exact rfl; exact rfl; exact zEvs; exact rfl; (apply wide1_spec); (case hL => exact zTake); (case hF => exact zFsub); (with_reducible intro _); (try any_goals (refine propId ?_; omega)))) <;> ((try refine zD3 ?_) <;> (repeat' (with_reducible first | refine And.intro ?_ ?_ | intro _))))))
        rename_i q _ _
        have e3 : byC T.2 (u.1.1, u.1.2) (v.1.1, v.1.2) = byC T.2 V.1 T.1 := byC_eq u.eq v.eq
        have e4 : nf2 q.1 = nf2 (byV T.2 V.1 T.1) := q.eq.trans (byV_eq u.eq v.eq)
        obtain ⟨q, hq⟩ := q
        dsimp only at e4 ⊢
        clear hq
        rw [e3]
        obtain ⟨S, hS⟩ : ∃ S, S = jFold (eStep x) i 0 l ((0, 0), byC T.2 V.1 T.1) := ⟨_, rfl⟩
        have hc : corrE p l i c = (byV (lk (lk S.2 (cmul q S.1)) (csub cone (cmul q S.1))) (nf2 q) (csub cone (cmul q S.1)), byC (lk (lk S.2 (cmul q S.1)) (csub cone (cmul q S.1))) q (csub cone (cmul q S.1))) := by
          have h5 : cmul (nf2 (byV T.2 V.1 T.1)) S.1 = cmul q S.1 := by rw [← e4, cmul_l]
          unfold corrE
          rw [lget_get hx]
          dsimp only
          rw [show pVal p x c = V from hV.symm, if_neg (by rw [h0]; simp), show pSlope p x V.2 = T from hT.symm, ← hS, h5, ← e4]
          exact Prod.ext rfl (byC_eq (nf2_nf2 q) rfl)
        rw [hc]
        refine c_while (ι := {s : Nat × (Nat × Nat) × Int // s.1 ≤ l.length ∧ jFold (eStep x) i s.1 (l.drop s.1) (nf2 s.2.1, s.2.2) = S}) (κ := {o : Nat × Nat // nf2 o = S.1})
          (fun s => [(91, .int .i64 (s.1.1 : Int)), (16, .complex .f64 s.1.2.1.1 s.1.2.1.2), (90, .int .i64 (l.length : Int)), (89, vl), (0, pt b), (2, vl), (4, .int .i64 (i : Int)), (15, .complex .f64 q.1 q.2)]) (fun s => [oSh b s.1.2.2]) (fun _ => [fList 1 rCx vp p, fList 1 rCx vl l]) (fun s => l.length - s.1.1)
          (fun o => [(16, .complex .f64 o.1.1 o.1.2), (0, pt b), (15, .complex .f64 q.1 q.2)]) (fun _ => [oSh b S.2]) (fun _ => [fList 1 rCx vp p, fList 1 rCx vl l]) ⟨(0, (floatOfInt .f64 0, 0), byC T.2 V.1 T.1), Nat.zero_le _, by rw [ofInt_zero]; exact hS.symm⟩ (fun _ _ s => s.start zSub zRfl zFsub) ?_ ?_
        · rintro ⟨⟨j, o, cc⟩, hj, hinv⟩
          dsimp only at hj hinv ⊢
          by_cases hj' : j < l.length
          · have hdrop : l.drop j = l[j] :: l.drop (j + 1) := List.drop_eq_getElem_cons hj'
            obtain ⟨w, hw⟩ : ∃ w, l[j]? = some w := ⟨_, List.getElem?_eq_getElem hj'⟩
            have hwi : l[j] = w := by rw [List.getElem?_eq_getElem hj'] at hw; injection hw
            rw [hwi] at hdrop
            rw [hdrop, jFold] at hinv
            all_goals ((try refine zR3 ?_) <;> (repeat' (with_reducible first | refine And.intro ?_ ?_ | intro _)))
            all_goals (first | (exfalso; omega) | skip)
            · have hji : ¬ j = i := by omega
              rw [if_neg hji, eStep_nf] at hinv
              refine c_draw ([18], [15, 16, 17]) [oSh b cc] [0, 1, 2, 3, 4, 5, 6, 7, 8, 9, 10, 11, 12, 13, 14, 15, 16, 17, 18] (by kernel_rfl) (by kernel_rfl) ?_
              all_goals ((try refine zD3 ?_) <;> (repeat' (with_reducible first | refine And.intro ?_ ?_ | intro _)))
              refine a_quiet0 (v := .complex .f64 (floatOfInt .f64 1) 0) rfl rfl (by decide +kernel) rfl (fun w => ?_) ?_
              · exact l_callM rfl rfl zEvs rfl (wide1_spec 1) .nil (fun _ h => by cases h) fun _ => e_q rfl
              all_goals (((try refine zD3 ?_) <;> (repeat' (with_reducible first | refine And.intro ?_ ?_ | intro _))) <;> (repeat' ((first | ((with_reducible apply l_callM); exact rfl; exact rfl; exact zEvs; exact rfl; (apply minus_spec); (case hL => exact zTake); (case hF => exact zFsub); (with_reducible intro _); (try any_goals (refine propId ?_; omega))) | ((with_reducible apply l_callM); exact rfl; exact rfl; exact zEvs; exact rfl; (apply by_spec); (case hL => exact zTake); (case hF => exact zFsub); (with_reducible intro _); (try any_goals (refine propId ?_; omega))) | ((with_reducible apply l_callM); exact rfl; exact rfl; exact zEvs; exact rfl; (apply plus_spec); (case hL => exact zTake); (case hF => exact zFsub); (with_reducible intro _); (try any_goals (refine propId ?_; omega)))) <;> ((try refine zD3 ?_) <;> (repeat' (with_reducible first | refine And.intro ?_ ?_ | intro _))))))
              rename_i g r t
              have et : eStep x (o, cc) w = (nf2 t.1, lk (byC (lk cc (csub (x.1, x.2) (w.1, w.2))) cone (g.1.1, g.1.2)) (cadd (o.1, o.2) (r.1.1, r.1.2))) := eStep_of g r t rfl rfl rfl
              obtain ⟨t, ht⟩ := t
              dsimp only at et ⊢
              clear ht
              exact e_again ⟨(j + 1, t, _), hj', (congrArg (jFold (eStep x) i (j + 1) (l.drop (j + 1))) et).symm.trans hinv⟩ (by dsimp only; omega) zSub rfl zFsub
            · have hji : j = i := by omega
              rw [if_pos hji] at hinv
              exact e_again ⟨(j + 1, o, cc), hj', hinv⟩ (by dsimp only; omega) zSub rfl zFsub
          · all_goals ((try refine zR3 ?_) <;> (repeat' (with_reducible first | refine And.intro ?_ ?_ | intro _)))
            all_goals (first | (exfalso; omega) | skip)
            rw [List.drop_eq_nil_of_le (by omega), jFold] at hinv
            subst hinv
            exact e_out ⟨o, rfl⟩ zSub rfl zFsub
        · rintro ⟨o, ho⟩
          dsimp only
          all_goals (((try refine zR3 ?_) <;> (repeat' (with_reducible first | refine And.intro ?_ ?_ | intro _))) <;> (repeat' ((first | ((with_reducible apply l_callM); exact rfl; exact rfl; exact zEvs; exact rfl; (apply wide1_spec); (case hL => exact zTake); (case hF => exact zFsub); (with_reducible intro _); (try any_goals (refine propId ?_; omega))) | ((with_reducible apply l_callM); exact rfl; exact rfl; exact zEvs; exact rfl; (apply times_spec); (case hL => exact zTake); (case hF => exact zFsub); (with_reducible intro _); (try any_goals (refine propId ?_; omega))) | ((with_reducible apply l_callM); exact rfl; exact rfl; exact zEvs; exact rfl; (apply minus_spec); (case hL => exact zTake); (case hF => exact zFsub); (with_reducible intro _); (try any_goals (refine propId ?_; omega))) | ((with_reducible apply l_callM); exact rfl; exact rfl; exact zEvs; exact rfl; (apply by_spec); (case hL => exact zTake); (case hF => exact zFsub); (with_reducible intro _); (try any_goals (refine propId ?_; omega)))) <;> ((try refine zR3 ?_) <;> (repeat' (with_reducible first | refine And.intro ?_ ?_ | intro _))))))
          rename_i m s r
          have h6 : cmul (q.1, q.2) (o.1, o.2) = cmul q S.1 := by rw [← ho, cmul_r]
          have h7 : csub (floatOfInt .f64 1, 0) (m.1.1, m.1.2) = csub cone (cmul q S.1) := (m.subr _ _).trans (congrArg _ h6)
          have h8 : nf2 (s.1.1, s.1.2) = nf2 (csub cone (cmul q S.1)) := s.eq.trans (h7.trans (nf2_csub _ _).symm)
          have hk : lk (lk S.2 (cmul (q.1, q.2) (o.1, o.2))) (csub (floatOfInt .f64 1, 0) (m.1.1, m.1.2)) = lk (lk S.2 (cmul q S.1)) (csub cone (cmul q S.1)) := by rw [h7, h6]
          have e5 := byC_eq' (a := (q.1, q.2)) (a' := q) hk rfl h8
          have e6 := byV_eq' (a := (q.1, q.2)) (a' := nf2 q) hk (nf2_nf2 q).symm h8
          rw [← e5]
          exact e_pm ⟨r.1, CW.val e6 r⟩ rfl zRes zTake rfl
      · all_goals (((try refine zD3 ?_) <;> (repeat' (with_reducible first | refine And.intro ?_ ?_ | intro _))) <;> (repeat' ((first | ((with_reducible apply l_callM); exact rfl; exact rfl; exact zEvs; exact rfl; (apply by_spec); (case hL => exact zTake); (case hF => exact zFsub); (with_reducible intro _); (try any_goals (refine propId ?_; omega))) | ((with_reducible apply l_callM); exact rfl; exact rfl; exact zEvs; exact rfl; (apply wide1_spec); (case hL => exact zTake); (case hF => exact zFsub); (with_reducible intro _); (try any_goals (refine propId ?_; omega)))) <;> ((try refine zD3 ?_) <;> (repeat' (with_reducible first | refine And.intro ?_ ?_ | intro _))))))
        rename_i q _ _
        have e3 : byC T.2 (u.1.1, u.1.2) (v.1.1, v.1.2) = byC T.2 V.1 T.1 := byC_eq u.eq v.eq
        have e4 : nf2 q.1 = nf2 (byV T.2 V.1 T.1) := q.eq.trans (byV_eq u.eq v.eq)
        obtain ⟨q, hq⟩ := q
        dsimp only at e4 ⊢
        clear hq
        rw [e3]
        obtain ⟨S, hS⟩ : ∃ S, S = jFold (eStep x) i 0 l ((0, 0), byC T.2 V.1 T.1) := ⟨_, rfl⟩
        have hc : corrE p l i c = (byV (lk (lk S.2 (cmul q S.1)) (csub cone (cmul q S.1))) (nf2 q) (csub cone (cmul q S.1)), byC (lk (lk S.2 (cmul q S.1)) (csub cone (cmul q S.1))) q (csub cone (cmul q S.1))) := by
          have h5 : cmul (nf2 (byV T.2 V.1 T.1)) S.1 = cmul q S.1 := by rw [← e4, cmul_l]
          unfold corrE
          rw [lget_get hx]
          dsimp only
          rw [show pVal p x c = V from hV.symm, if_neg (by rw [h0]; simp), show pSlope p x V.2 = T from hT.symm, ← hS, h5, ← e4]
          exact Prod.ext rfl (byC_eq (nf2_nf2 q) rfl)
        rw [hc]
        refine c_while (ι := {s : Nat × (Nat × Nat) × Int // s.1 ≤ l.length ∧ jFold (eStep x) i s.1 (l.drop s.1) (nf2 s.2.1, s.2.2) = S}) (κ := {o : Nat × Nat // nf2 o = S.1})
          (fun s => [(91, .int .i64 (s.1.1 : Int)), (16, .complex .f64 s.1.2.1.1 s.1.2.1.2), (90, .int .i64 (l.length : Int)), (89, vl), (0, pt b), (2, vl), (4, .int .i64 (i : Int)), (15, .complex .f64 q.1 q.2)]) (fun s => [oSh b s.1.2.2]) (fun _ => [fList 1 rCx vp p, fList 1 rCx vl l]) (fun s => l.length - s.1.1)
          (fun o => [(16, .complex .f64 o.1.1 o.1.2), (0, pt b), (15, .complex .f64 q.1 q.2)]) (fun _ => [oSh b S.2]) (fun _ => [fList 1 rCx vp p, fList 1 rCx vl l]) ⟨(0, (floatOfInt .f64 0, 0), byC T.2 V.1 T.1), Nat.zero_le _, by rw [ofInt_zero]; exact hS.symm⟩ (fun _ _ s => s.start zSub zRfl zFsub) ?_ ?_
        · rintro ⟨⟨j, o, cc⟩, hj, hinv⟩
          dsimp only at hj hinv ⊢
          by_cases hj' : j < l.length
          · have hdrop : l.drop j = l[j] :: l.drop (j + 1) := List.drop_eq_getElem_cons hj'
            obtain ⟨w, hw⟩ : ∃ w, l[j]? = some w := ⟨_, List.getElem?_eq_getElem hj'⟩
            have hwi : l[j] = w := by rw [List.getElem?_eq_getElem hj'] at hw; injection hw
            rw [hwi] at hdrop
            rw [hdrop, jFold] at hinv
            all_goals ((try refine zR3 ?_) <;> (repeat' (with_reducible first | refine And.intro ?_ ?_ | intro _)))
            all_goals (first | (exfalso; omega) | skip)
            · have hji : ¬ j = i := by omega
              rw [if_neg hji, eStep_nf] at hinv
              refine c_draw ([18], [15, 16, 17]) [oSh b cc] [0, 1, 2, 3, 4, 5, 6, 7, 8, 9, 10, 11, 12, 13, 14, 15, 16, 17, 18] (by kernel_rfl) (by kernel_rfl) ?_
              all_goals ((try refine zD3 ?_) <;> (repeat' (with_reducible first | refine And.intro ?_ ?_ | intro _)))
              refine a_quiet0 (v := .complex .f64 (floatOfInt .f64 1) 0) rfl rfl (by decide +kernel) rfl (fun w => ?_) ?_
              · exact l_callM rfl rfl zEvs rfl (wide1_spec 1) .nil (fun _ h => by cases h) fun _ => e_q rfl
              all_goals (((try refine zD3 ?_) <;> (repeat' (with_reducible first | refine And.intro ?_ ?_ | intro _))) <;> (repeat' ((first | ((with_reducible apply l_callM); exact rfl; exact rfl; exact zEvs; exact rfl; (apply minus_spec); (case hL => exact zTake); (case hF => exact zFsub); (with_reducible intro _); (try any_goals (refine propId ?_; omega))) | ((with_reducible apply l_callM); exact rfl; exact rfl; exact zEvs; exact rfl; (apply by_spec); (case hL => exact zTake); (case hF => exact zFsub); (with_reducible intro _); (try any_goals (refine propId ?_; omega))) | ((with_reducible apply l_callM); exact rfl; exact rfl; exact zEvs; exact rfl; (apply plus_spec); (case hL => exact zTake); (case hF => exact zFsub); (with_reducible intro _); (try any_goals (refine propId ?_; omega)))) <;> ((try refine zD3 ?_) <;> (repeat' (with_reducible first | refine And.intro ?_ ?_ | intro _))))))
              rename_i g r t
              have et : eStep x (o, cc) w = (nf2 t.1, lk (byC (lk cc (csub (x.1, x.2) (w.1, w.2))) cone (g.1.1, g.1.2)) (cadd (o.1, o.2) (r.1.1, r.1.2))) := eStep_of g r t rfl rfl rfl
              obtain ⟨t, ht⟩ := t
              dsimp only at et ⊢
              clear ht
              exact e_again ⟨(j + 1, t, _), hj', (congrArg (jFold (eStep x) i (j + 1) (l.drop (j + 1))) et).symm.trans hinv⟩ (by dsimp only; omega) zSub rfl zFsub
            · have hji : j = i := by omega
              rw [if_pos hji] at hinv
              exact e_again ⟨(j + 1, o, cc), hj', hinv⟩ (by dsimp only; omega) zSub rfl zFsub
          · all_goals ((try refine zR3 ?_) <;> (repeat' (with_reducible first | refine And.intro ?_ ?_ | intro _)))
            all_goals (first | (exfalso; omega) | skip)
            rw [List.drop_eq_nil_of_le (by omega), jFold] at hinv
            subst hinv
            exact e_out ⟨o, rfl⟩ zSub rfl zFsub
        · rintro ⟨o, ho⟩
          dsimp only
          all_goals (((try refine zR3 ?_) <;> (repeat' (with_reducible first | refine And.intro ?_ ?_ | intro _))) <;> (repeat' ((first | ((with_reducible apply l_callM); exact rfl; exact rfl; exact zEvs; exact rfl; (apply wide1_spec); (case hL => exact zTake); (case hF => exact zFsub); (with_reducible intro _); (try any_goals (refine propId ?_; omega))) | ((with_reducible apply l_callM); exact rfl; exact rfl; exact zEvs; exact rfl; (apply times_spec); (case hL => exact zTake); (case hF => exact zFsub); (with_reducible intro _); (try any_goals (refine propId ?_; omega))) | ((with_reducible apply l_callM); exact rfl; exact rfl; exact zEvs; exact rfl; (apply minus_spec); (case hL => exact zTake); (case hF => exact zFsub); (with_reducible intro _); (try any_goals (refine propId ?_; omega))) | ((with_reducible apply l_callM); exact rfl; exact rfl; exact zEvs; exact rfl; (apply by_spec); (case hL => exact zTake); (case hF => exact zFsub); (with_reducible intro _); (try any_goals (refine propId ?_; omega)))) <;> ((try refine zR3 ?_) <;> (repeat' (with_reducible first | refine And.intro ?_ ?_ | intro _))))))
          rename_i m s r
          have h6 : cmul (q.1, q.2) (o.1, o.2) = cmul q S.1 := by rw [← ho, cmul_r]
          have h7 : csub (floatOfInt .f64 1, 0) (m.1.1, m.1.2) = csub cone (cmul q S.1) := (m.subr _ _).trans (congrArg _ h6)
          have h8 : nf2 (s.1.1, s.1.2) = nf2 (csub cone (cmul q S.1)) := s.eq.trans (h7.trans (nf2_csub _ _).symm)
          have hk : lk (lk S.2 (cmul (q.1, q.2) (o.1, o.2))) (csub (floatOfInt .f64 1, 0) (m.1.1, m.1.2)) = lk (lk S.2 (cmul q S.1)) (csub cone (cmul q S.1)) := by rw [h7, h6]
          have e5 := byC_eq' (a := (q.1, q.2)) (a' := q) hk rfl h8
          have e6 := byV_eq' (a := (q.1, q.2)) (a' := nf2 q) hk (nf2_nf2 q).symm h8
          rw [← e5]
          exact e_pm ⟨r.1, CW.val e6 r⟩ rfl zRes zTake rfl
    · all_goals (((try refine zD3 ?_) <;> (repeat' (with_reducible first | refine And.intro ?_ ?_ | intro _))) <;> (repeat' ((first | ((with_reducible apply l_callM); exact rfl; exact rfl; exact zEvs; exact rfl; (apply hslope); (case hL => exact zTake); (case hF => exact zFsub); (with_reducible intro _); (try any_goals (refine propId ?_; omega))) | ((with_reducible apply l_callM); exact rfl; exact rfl; exact zEvs; exact rfl; (apply by_spec); (case hL => exact zTake); (case hF => exact zFsub); (with_reducible intro _); (try any_goals (refine propId ?_; omega))) | ((with_reducible apply l_callM); exact rfl; exact rfl; exact zEvs; exact rfl; (apply wide1_spec); (case hL => exact zTake); (case hF => exact zFsub); (with_reducible intro _); (try any_goals (refine propId ?_; omega)))) <;> ((try refine zD3 ?_) <;> (repeat' (with_reducible first | refine And.intro ?_ ?_ | intro _))))))
      rename_i v q _ _
      have e3 : byC T.2 (u.1.1, u.1.2) (v.1.1, v.1.2) = byC T.2 V.1 T.1 := byC_eq u.eq v.eq
      have e4 : nf2 q.1 = nf2 (byV T.2 V.1 T.1) := q.eq.trans (byV_eq u.eq v.eq)
      obtain ⟨q, hq⟩ := q
      dsimp only at e4 ⊢
      clear hq
      rw [e3]
      obtain ⟨S, hS⟩ : ∃ S, S = jFold (eStep x) i 0 l ((0, 0), byC T.2 V.1 T.1) := ⟨_, rfl⟩
      have hc : corrE p l i c = (byV (lk (lk S.2 (cmul q S.1)) (csub cone (cmul q S.1))) (nf2 q) (csub cone (cmul q S.1)), byC (lk (lk S.2 (cmul q S.1)) (csub cone (cmul q S.1))) q (csub cone (cmul q S.1))) := by
        have h5 : cmul (nf2 (byV T.2 V.1 T.1)) S.1 = cmul q S.1 := by rw [← e4, cmul_l]
        unfold corrE
        rw [lget_get hx]
        dsimp only
        rw [show pVal p x c = V from hV.symm, if_neg (by rw [h0]; simp), show pSlope p x V.2 = T from hT.symm, ← hS, h5, ← e4]
        exact Prod.ext rfl (byC_eq (nf2_nf2 q) rfl)
      rw [hc]
      refine c_while (ι := {s : Nat × (Nat × Nat) × Int // s.1 ≤ l.length ∧ jFold (eStep x) i s.1 (l.drop s.1) (nf2 s.2.1, s.2.2) = S}) (κ := {o : Nat × Nat // nf2 o = S.1})
        (fun s => [(91, .int .i64 (s.1.1 : Int)), (16, .complex .f64 s.1.2.1.1 s.1.2.1.2), (90, .int .i64 (l.length : Int)), (89, vl), (0, pt b), (2, vl), (4, .int .i64 (i : Int)), (15, .complex .f64 q.1 q.2)]) (fun s => [oSh b s.1.2.2]) (fun _ => [fList 1 rCx vp p, fList 1 rCx vl l]) (fun s => l.length - s.1.1)
        (fun o => [(16, .complex .f64 o.1.1 o.1.2), (0, pt b), (15, .complex .f64 q.1 q.2)]) (fun _ => [oSh b S.2]) (fun _ => [fList 1 rCx vp p, fList 1 rCx vl l]) ⟨(0, (floatOfInt .f64 0, 0), byC T.2 V.1 T.1), Nat.zero_le _, by rw [ofInt_zero]; exact hS.symm⟩ (fun _ _ s => s.start zSub zRfl zFsub) ?_ ?_
      · rintro ⟨⟨j, o, cc⟩, hj, hinv⟩
        dsimp only at hj hinv ⊢
        by_cases hj' : j < l.length
        · have hdrop : l.drop j = l[j] :: l.drop (j + 1) := List.drop_eq_getElem_cons hj'
          obtain ⟨w, hw⟩ : ∃ w, l[j]? = some w := ⟨_, List.getElem?_eq_getElem hj'⟩
          have hwi : l[j] = w := by rw [List.getElem?_eq_getElem hj'] at hw; injection hw
          rw [hwi] at hdrop
          rw [hdrop, jFold] at hinv
          all_goals ((try refine zR3 ?_) <;> (repeat' (with_reducible first | refine And.intro ?_ ?_ | intro _)))
          all_goals (first | (exfalso; omega) | skip)
          · have hji : ¬ j = i := by omega
            rw [if_neg hji, eStep_nf] at hinv
            refine c_draw ([18], [15, 16, 17]) [oSh b cc] [0, 1, 2, 3, 4, 5, 6, 7, 8, 9, 10, 11, 12, 13, 14, 15, 16, 17, 18] (by kernel_rfl) (by kernel_rfl) ?_
            all_goals ((try refine zD3 ?_) <;> (repeat' (with_reducible first | refine And.intro ?_ ?_ | intro _)))
            refine a_quiet0 (v := .complex .f64 (floatOfInt .f64 1) 0) rfl rfl (by decide +kernel) rfl (fun w => ?_) ?_
            · exact l_callM rfl rfl zEvs rfl (wide1_spec 1) .nil (fun _ h => by cases h) fun _ => e_q rfl
            all_goals (((try refine zD3 ?_) <;> (repeat' (with_reducible first | refine And.intro ?_ ?_ | intro _))) <;> (repeat' ((first | ((with_reducible apply l_callM); exact rfl; exact rfl; exact zEvs; exact rfl; (apply minus_spec); (case hL => exact zTake); (case hF => exact zFsub); (with_reducible intro _); (try any_goals (refine propId ?_; omega))) | ((with_reducible apply l_callM); exact rfl; exact rfl; exact zEvs; exact rfl; (apply by_spec); (case hL => exact zTake); (case hF => exact zFsub); (with_reducible intro _); (try any_goals (refine propId ?_; omega))) | ((with_reducible apply l_callM); exact rfl; exact rfl; exact zEvs; exact rfl; (apply plus_spec); (case hL => exact zTake); (case hF => exact zFsub); (with_reducible intro _); (try any_goals (refine propId ?_; omega)))) <;> ((try refine zD3 ?_) <;> (repeat' (with_reducible first | refine And.intro ?_ ?_ | intro _))))))
            rename_i g r t
            have et : eStep x (o, cc) w = (nf2 t.1, lk (byC (lk cc (csub (x.1, x.2) (w.1, w.2))) cone (g.1.1, g.1.2)) (cadd (o.1, o.2) (r.1.1, r.1.2))) := eStep_of g r t rfl rfl rfl
            obtain ⟨t, ht⟩ := t
            dsimp only at et ⊢
            clear ht
            exact e_again ⟨(j + 1, t, _), hj', (congrArg (jFold (eStep x) i (j + 1) (l.drop (j + 1))) et).symm.trans hinv⟩ (by dsimp only; omega) zSub rfl zFsub
          · have hji : j = i := by omega
            rw [if_pos hji] at hinv
            exact e_again ⟨(j + 1, o, cc), hj', hinv⟩ (by dsimp only; omega) zSub rfl zFsub
        · all_goals ((try refine zR3 ?_) <;> (repeat' (with_reducible first | refine And.intro ?_ ?_ | intro _)))
          all_goals (first | (exfalso; omega) | skip)
          rw [List.drop_eq_nil_of_le (by omega), jFold] at hinv
          subst hinv
          exact e_out ⟨o, rfl⟩ zSub rfl zFsub
      · rintro ⟨o, ho⟩
        dsimp only
        all_goals (((try refine zR3 ?_) <;> (repeat' (with_reducible first | refine And.intro ?_ ?_ | intro _))) <;> (repeat' ((first | ((with_reducible apply l_callM); exact rfl; exact rfl; exact zEvs; exact rfl; (apply wide1_spec); (case hL => exact zTake); (case hF => exact zFsub); (with_reducible intro _); (try any_goals (refine propId ?_; omega))) | ((with_reducible apply l_callM); exact rfl; exact rfl; exact zEvs; exact rfl; (apply times_spec); (case hL => exact zTake); (case hF => exact zFsub); (with_reducible intro _); (try any_goals (refine propId ?_; omega))) | ((with_reducible apply l_callM); exact rfl; exact rfl; exact zEvs; exact rfl; (apply minus_spec); (case hL => exact zTake); (case hF => exact zFsub); (with_reducible intro _); (try any_goals (refine propId ?_; omega))) | ((with_reducible apply l_callM); exact rfl; exact rfl; exact zEvs; exact rfl; (apply by_spec); (case hL => exact zTake); (case hF => exact zFsub); (with_reducible intro _); (try any_goals (refine propId ?_; omega)))) <;> ((try refine zR3 ?_) <;> (repeat' (with_reducible first | refine And.intro ?_ ?_ | intro _))))))
        rename_i m s r
        have h6 : cmul (q.1, q.2) (o.1, o.2) = cmul q S.1 := by rw [← ho, cmul_r]
        have h7 : csub (floatOfInt .f64 1, 0) (m.1.1, m.1.2) = csub cone (cmul q S.1) := (m.subr _ _).trans (congrArg _ h6)
        have h8 : nf2 (s.1.1, s.1.2) = nf2 (csub cone (cmul q S.1)) := s.eq.trans (h7.trans (nf2_csub _ _).symm)
        have hk : lk (lk S.2 (cmul (q.1, q.2) (o.1, o.2))) (csub (floatOfInt .f64 1, 0) (m.1.1, m.1.2)) = lk (lk S.2 (cmul q S.1)) (csub cone (cmul q S.1)) := by rw [h7, h6]
        have e5 := byC_eq' (a := (q.1, q.2)) (a' := q) hk rfl h8
        have e6 := byV_eq' (a := (q.1, q.2)) (a' := nf2 q) hk (nf2_nf2 q).symm h8
        rw [← e5]
        exact e_pm ⟨r.1, CW.val e6 r⟩ rfl zRes zTake rfl
end Go.Proofs.Ytbclejclkicgnaa.K
end
