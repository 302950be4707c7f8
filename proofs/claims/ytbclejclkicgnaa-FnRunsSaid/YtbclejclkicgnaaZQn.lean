/- The reference's corrections. -/
import Derived.Test.YtbclejclkicgnaaZQk
namespace Go.Proofs.Ytbclejclkicgnaa.K
open Go Go.RowKit
set_option linter.all false
set_option maxRecDepth 4000
set_option maxHeartbeats 1000000

theorem ends_isRowQ {G : Ctx} {n : Nat} {Q : Post} {m : Regs} {L : List Own} {F : List Fact} {e : Exit} {v : Value} {s : Nat} {E : TypeId} {N : Nat} {xs : List Value} (hB : Has L F (.row v E s N xs)) (h : IsSl v → Ends G n Q e m L F) : Ends G n Q e m L F := fun a w st => h (isSl_row (hB.holds st)) a w st
theorem CW.add1 {a : Nat × Nat} (u : CW a) (z1 z2 : Nat) : cadd (u.1.1, u.1.2) (z1, z2) = cadd a (z1, z2) := by
  show cadd u.1 _ = _
  rw [← cadd_l, u.eq]
def okV (p : List (Nat × Nat)) (z : Nat × Nat) : Bool := decide ((pVal p z 0).2 = 0)
theorem l07Value_spec (v : Value) (p : List (Nat × Nat)) (z1 z2 : Nat) (h1 : 1 ≤ p.length) (h2 : p.length ≤ 1000) : Spec Try.prog 81 [v, .complex .f64 z1 z2] [] [fList 1 rCx v p]
    (PM (fun u : CW (nf2 (pVal p (z1, z2) 0).1) => .tuple #[.complex .f64 u.1.1 u.1.2, .bool (okV p (z1, z2))]) fun _ => []) := by
  obtain ⟨fin, hfin⟩ : ∃ r, r = pVal p (z1, z2) 0 := ⟨_, rfl⟩
  have hok : okV p (z1, z2) = decide (fin.2 = 0) := by rw [hfin]; rfl
  rw [hok, ← hfin]
  refine enter Try.func81 Try.ntmps81 rfl (by kernel_rfl) zCon rfl fun G => ?_
  refine c_isList (v := v) zMem fun hsv => ?_
  refine c_lenList (v := v) zMem fun hlv => ?_
  obtain ⟨y, hy⟩ : ∃ y, p[p.length - 1]? = some y := ⟨_, List.getElem?_eq_getElem (by omega)⟩
  have e1 : ((p.length : Int) - 1) = ((p.length - 1 : Nat) : Int) := by omega
  all_goals ((try refine zR3 ?_) <;> (repeat' (with_reducible first | refine And.intro ?_ ?_ | intro _)))
  refine c_while (ι := {x : Nat × (Nat × Nat) × Bool // x.1 ≤ p.length - 1 ∧ nf2 (hLoop (z1, z2) (pg p) (fun c _ => c) 0 x.1 (nf2 x.2.1, cd x.2.2)).1 = nf2 fin.1 ∧ (hLoop (z1, z2) (pg p) (fun c _ => c) 0 x.1 (nf2 x.2.1, cd x.2.2)).2 = fin.2}) (κ := {x : (Nat × Nat) × Bool // nf2 x.1 = nf2 fin.1 ∧ x.2 = decide (fin.2 = 0)})
    (fun x => [(8, .int .i64 ((x.1.1 : Int) - 1)), (6, .complex .f64 x.1.2.1.1 x.1.2.1.2), (7, .bool x.1.2.2), (0, v), (1, .complex .f64 z1 z2)]) (fun _ => []) (fun _ => [fList 1 rCx v p]) (fun x => x.1.1)
    (fun u => [(6, .complex .f64 u.1.1.1 u.1.1.2), (7, .bool u.1.2)]) (fun _ => []) (fun _ => [fList 1 rCx v p]) ⟨(p.length - 1, y, true), Nat.le_refl _, ?_⟩ (fun _ _ s => s.start ?_ zRfl zFsub) ?_ ?_
  · have : pVal p (z1, z2) 0 = hLoop (z1, z2) (pg p) (fun c _ => c) 0 (p.length - 1) (nf2 y, cd true) := by
      unfold pVal hRun
      rw [pg_get hy]
      rfl
    rw [hfin, this]
    exact ⟨rfl, rfl⟩
  · have e : (((p.length - 1 : Nat) : Int) - 1) = (p.length : Int) - 2 := by omega
    dsimp only
    rw [e]
    exact zSub
  · rintro ⟨⟨n, o, ok⟩, hn, h3, h4⟩
    dsimp only at hn h3 h4 ⊢
    cases n with
    | zero =>
      all_goals ((try refine zR3 ?_) <;> (repeat' (with_reducible first | refine And.intro ?_ ?_ | intro _)))
      all_goals (first | (exfalso; omega) | skip)
      have e1 : nf2 o = nf2 fin.1 := by rw [← h3]; exact (nf2_nf2 o).symm
      have e2 : cd ok = fin.2 := h4
      exact e_out ⟨(o, ok), e1, by rw [← e2]; cases ok <;> rfl⟩ zSub rfl (fun _ h => h)
    | succ n =>
      have hk : (((n + 1 : Nat) : Int) - 1) = (n : Int) := by omega
      rw [hk]
      obtain ⟨w, hw⟩ : ∃ w, p[n]? = some w := ⟨_, List.getElem?_eq_getElem (by omega)⟩
      have hstep : hLoop (z1, z2) (pg p) (fun c _ => c) 0 (n + 1) (nf2 o, cd ok) = hLoop (z1, z2) (pg p) (fun c _ => c) 0 n (hStep (z1, z2) (pg p) (fun c _ => c) (nf2 o, cd ok) (0 + n)) := rfl
      rw [hstep, Nat.zero_add] at h3 h4
      simp only [hStep, cmul_l, lk_cd, pg_get hw, cadd_r] at h3 h4
      have hf := fun a b => l01Finite_spec a b
      have key : ∀ (t : Nat × Nat) (b : Bool), nf2 t = cadd (cmul o (z1, z2)) w → b = (ok && cfin (cmul o (z1, z2)) && cfin (cadd (cmul o (z1, z2)) w)) → n ≤ p.length - 1 ∧ nf2 (hLoop (z1, z2) (pg p) (fun c _ => c) 0 n (nf2 t, cd b)).1 = nf2 fin.1 ∧ (hLoop (z1, z2) (pg p) (fun c _ => c) 0 n (nf2 t, cd b)).2 = fin.2 := fun t b ht hb => by
        rw [ht, hb]
        exact ⟨by omega, h3, h4⟩
      all_goals (((try refine zR3 ?_) <;> (repeat' (with_reducible first | refine And.intro ?_ ?_ | intro _))) <;> (repeat' ((first | ((with_reducible apply l_callM); exact rfl; exact rfl; exact zEvs; exact rfl; (apply l01Times_spec); (case hL => exact zTake); (case hF => exact zFsub); (with_reducible intro _); (try any_goals (refine propId ?_; omega))) | ((with_reducible apply l_callP); exact rfl; exact zEvs; exact rfl; (with_reducible apply hf); (case hF => exact zFsub); (try any_goals (refine propId ?_; omega)))) <;> ((try refine zR3 ?_) <;> (repeat' (with_reducible first | refine And.intro ?_ ?_ | intro _))))))
      · rename_i u hk1 t hf1
        have hu : cfin (cmul o (z1, z2)) = true := by rw [← hf1]; exact (u.fin).symm
        have et : nf2 t.1 = cadd (cmul o (z1, z2)) w := t.eq.trans (u.add1 _ _)
        exact e_again ⟨(n, t.1, cfin (t.1.1, t.1.2)), key _ _ et (by rw [hk1, hu, Bool.true_and, Bool.true_and, ← et, cfin_nf])⟩ (by dsimp only; omega) zSub rfl zFsub
      · rename_i u hk1 t hf1
        have hu : cfin (cmul o (z1, z2)) = false := by rw [← hf1]; exact (u.fin).symm
        have et : nf2 t.1 = cadd (cmul o (z1, z2)) w := t.eq.trans (u.add1 _ _)
        exact e_again ⟨(n, t.1, false), key _ _ et (by rw [hu]; simp)⟩ (by dsimp only; omega) zSub rfl zFsub
      · rename_i u hk1 t
        have et : nf2 t.1 = cadd (cmul o (z1, z2)) w := t.eq.trans (u.add1 _ _)
        exact e_again ⟨(n, t.1, false), key _ _ et (by rw [hk1]; simp)⟩ (by dsimp only; omega) zSub rfl zFsub
      all_goals (first | (exfalso; omega) | skip)
  · rintro ⟨⟨o, ok⟩, ho, hb⟩
    dsimp only at ho hb ⊢
    subst hb
    all_goals ((try refine zR3 ?_) <;> (repeat' (with_reducible first | refine And.intro ?_ ?_ | intro _)))
    exact e_pm ⟨o, congrArg Prod.fst ho, congrArg Prod.snd ho⟩ rfl zRes zTake rfl
/-- Are all of the slope's numbers finite? -/
def derF (p : List (Nat × Nat)) : Bool := allF (sg1 p) 1 (p.length - 1)
theorem l07Derived_spec (v : Value) (p : List (Nat × Nat)) (h1 : 1 ≤ p.length) (h2 : p.length ≤ 1000) : Spec Try.prog 83 [v] [] [fList 1 rCx v p]
    (PM (fun u : {u : Value × List (Nat × Nat) // IsSl u.1 ∧ u.2.length = p.length - 1 ∧ ∀ k, k < u.2.length → pg u.2 k = sg1 p (k + 1)} => .tuple #[u.1.1, .bool (derF p)]) fun u => [.row u.1.1 47 1 u.1.2.length (u.1.2.map cx)]) := by
  refine enter Try.func83 Try.ntmps83 rfl (by kernel_rfl) zCon rfl fun G => ?_
  refine c_isList (v := v) zMem fun hsv => ?_
  refine c_lenList (v := v) zMem fun hlv => ?_
  have hf := fun a b => l01Finite_spec a b
  all_goals ((try refine zR3 ?_) <;> (repeat' (with_reducible first | refine And.intro ?_ ?_ | intro _)))
  rename_i v0
  refine c_isRow (v := v0) (.own (.head _)) fun hs0 _ => ?_
  refine c_while (ι := {x : Value × List (Nat × Nat) × Bool // IsSl x.1 ∧ x.2.1.length ≤ p.length - 1 ∧ (∀ k, k < x.2.1.length → pg x.2.1 k = sg1 p (k + 1)) ∧ x.2.2 = allF (sg1 p) 1 x.2.1.length}) (κ := {x : Value × List (Nat × Nat) // IsSl x.1 ∧ x.2.length = p.length - 1 ∧ ∀ k, k < x.2.length → pg x.2 k = sg1 p (k + 1)})
    (fun x => [(6, .int .i64 ((x.1.2.1.length : Int) + 1)), (4, x.1.1), (5, .bool x.1.2.2), (0, v)]) (fun x => [.row x.1.1 47 1 x.1.2.1.length (x.1.2.1.map cx)]) (fun _ => [fList 1 rCx v p]) (fun x => p.length - 1 - x.1.2.1.length)
    (fun x => [(4, x.1.1), (5, .bool (derF p))]) (fun x => [.row x.1.1 47 1 x.1.2.length (x.1.2.map cx)]) (fun _ => [fList 1 rCx v p])
    ⟨(v0, [], true), hs0, Nat.zero_le _, (fun k h => by cases h), rfl⟩ (fun _ _ s => s.start zSub zRfl zFsub) ?_ ?_
  · rintro ⟨⟨v1, d, ok⟩, hs1, hd, hk, hok⟩
    dsimp only at hs1 hd hk hok ⊢
    by_cases hlt : d.length < p.length - 1
    · obtain ⟨w, hw⟩ : ∃ w, p[d.length + 1]? = some w := ⟨_, List.getElem?_eq_getElem (by omega)⟩
      have e1 : ((d.length : Int) + 1) = ((d.length + 1 : Nat) : Int) := by omega
      have hsg : sg1 p (d.length + 1) = cmul (floatOfInt .f64 ((d.length : Int) + 1), 0) (w.1, w.2) := by rw [e1]; simp [sg1, hw]
      have key : ∀ (u : CW (cmul (floatOfInt .f64 ((d.length : Int) + 1), 0) (w.1, w.2))) (b : Bool), b = (ok && cfin (u.1.1, u.1.2)) → (d ++ [(u.1.1, u.1.2)]).length ≤ p.length - 1 ∧ (∀ k, k < (d ++ [(u.1.1, u.1.2)]).length → pg (d ++ [(u.1.1, u.1.2)]) k = sg1 p (k + 1)) ∧ b = allF (sg1 p) 1 (d ++ [(u.1.1, u.1.2)]).length := fun u b hb => by
        have hu : nf2 (u.1.1, u.1.2) = sg1 p (d.length + 1) := by rw [hsg]; exact u.eq
        have hl : (d ++ [(u.1.1, u.1.2)]).length = d.length + 1 := by simp
        rw [hl]
        refine ⟨by omega, fun k hk' => ?_, ?_⟩
        · by_cases hkd : k < d.length
          · rw [← hk k hkd]
            unfold pg
            rw [List.getD_eq_getElem?_getD, List.getD_eq_getElem?_getD, List.getElem?_append_left hkd]
          · have : k = d.length := by omega
            subst this
            rw [← hu]
            unfold pg
            rw [List.getD_eq_getElem?_getD, List.getElem?_append_right (Nat.le_refl _)]
            simp
        · rw [hb, hok, allF, Nat.add_comm 1 d.length, ← hu, cfin_nf]
      all_goals (((try refine zR3 ?_) <;> (repeat' (with_reducible first | refine And.intro ?_ ?_ | intro _))) <;> (repeat' ((first | ((with_reducible apply l_callM); exact rfl; exact rfl; exact zEvs; exact rfl; (apply l01Times_spec); (case hL => exact zTake); (case hF => exact zFsub); (with_reducible intro _); (try any_goals (refine propId ?_; omega))) | ((with_reducible apply l_callP); exact rfl; exact zEvs; exact rfl; (with_reducible apply hf); (case hF => exact zFsub); (try any_goals (refine propId ?_; omega)))) <;> ((try refine zR3 ?_) <;> (repeat' (with_reducible first | refine And.intro ?_ ?_ | intro _))))))
      · rename_i u hk1 _ v2
        refine ends_isRowQ (v := v2) (.own (.head _)) fun hs2 => ?_
        obtain ⟨k1, k2, k3⟩ := key u (cfin (u.1.1, u.1.2)) (by rw [hk1, Bool.true_and])
        exact e_again ⟨(v2, d ++ [(u.1.1, u.1.2)], cfin (u.1.1, u.1.2)), hs2, k1, k2, k3⟩ (by simp; omega) (by simp only [List.length_append, List.length_cons, List.length_nil]; exact zSub) (by simp) zFsub
      · rename_i u hk1 _ v2
        refine ends_isRowQ (v := v2) (.own (.head _)) fun hs2 => ?_
        obtain ⟨k1, k2, k3⟩ := key u false (by rw [hk1, Bool.false_and])
        exact e_again ⟨(v2, d ++ [(u.1.1, u.1.2)], false), hs2, k1, k2, k3⟩ (by simp; omega) (by simp only [List.length_append, List.length_cons, List.length_nil]; exact zSub) (by simp) zFsub
      all_goals (first | (exfalso; omega) | skip)
    · all_goals ((try refine zR3 ?_) <;> (repeat' (with_reducible first | refine And.intro ?_ ?_ | intro _)))
      all_goals (first | (exfalso; omega) | skip)
      have hdl : d.length = p.length - 1 := by omega
      have : ok = derF p := by rw [hok, hdl]; rfl
      subst this
      exact e_out ⟨(v1, d), hs1, hdl, hk⟩ zSub rfl zFsub
  · rintro ⟨⟨v1, d⟩, hs1, hd, hk⟩
    dsimp only at hs1 hd hk ⊢
    all_goals ((try refine zR3 ?_) <;> (repeat' (with_reducible first | refine And.intro ?_ ?_ | intro _)))
    exact e_pm ⟨(v1, d), hs1, hd, hk⟩ rfl zRes zTake rfl
end Go.Proofs.Ytbclejclkicgnaa.K
