/- The program's reading of floats. -/
import Derived.Test.YtbllgmcpebifhaaGreatDoorZNg
import Derived.Test.YtbllgmcpebifhaaGreatDoorZLb

section
namespace Go.Proofs.YtbllgmcpebifhaaGreatDoor.K
open Go Go.RowKit Go.Lib
set_option linter.all false
set_option maxRecDepth 4000
set_option maxHeartbeats 1000000
set_option exponentiation.threshold 40000

theorem float_spec (x : Nat) (v p : Int) (mx : Value) (R : List Own) (hx : oInt x v mx ∈ R) (hn : Nrm v p) (hl : v.natAbs < 2 ^ 4800) (hp : -5000 ≤ p ∧ p ≤ 5000) :
    Spec Tryz.prog 105 [vNum x p] R [fDig mx v.natAbs, fTz] (PRdd v p R) := by
  refine enter Tryz.func105 Tryz.ntmps105 rfl (by kernel_rfl) zCon rfl fun G => ?_
  all_goals ((try refine zR2 ?_) <;> (repeat' (with_reducible first | refine And.intro ?_ ?_ | intro _)))
  rcases hn with ⟨rfl, rfl⟩ | hv
  · refine l_callA rfl zEvs rfl (rounded0_spec x mx _ (.tail _ hx)) zFsub ?_
    rintro _ L' F' ⟨y, b, rfl, hy64, hb, rfl, rfl⟩
    all_goals ((try refine zR2 ?_) <;> (repeat' (with_reducible first | refine And.intro ?_ ?_ | intro _)))
    exact e_resT rfl zRes (Lo := R) zTake fsub_nil ⟨y, b, rfl, hy64, hb, rfl, rfl⟩
  · refine l_callA rfl zEvs rfl (rounded_spec x v p mx _ (.tail _ hx) hv hl hp) zFsub ?_
    rintro _ L' F' ⟨y, b, rfl, hy64, hb, rfl, rfl⟩
    all_goals ((try refine zR2 ?_) <;> (repeat' (with_reducible first | refine And.intro ?_ ?_ | intro _)))
    exact e_resT rfl zRes (Lo := R) zTake fsub_nil ⟨y, b, rfl, hy64, hb, rfl, rfl⟩
theorem dvalue_spec (u : Value) (v e : Int) (hD : IsD (sgn v) e (limbs v.natAbs)) :
    Spec Tryz.prog 97 [vDyadic (sgn v) u e] [] [fList 1 (rInt .i64) u (limbs v.natAbs)] (PNumR v e []) := by
  refine enter Tryz.func97 Tryz.ntmps97 rfl (by kernel_rfl) zCon rfl fun G => ?_
  refine c_isList (v := u) zMem fun hsu => ?_
  have hv : sv (decide (sgn v < 0)) (vl 16777216 (limbs v.natAbs)) = v := by
    rw [limbs_val]
    conv => rhs; rw [← sv_abs_eq v]
    congr 1
    by_cases h0 : v < 0
    · rw [show sgn v = -1 by unfold sgn; rw [if_neg (by omega), if_pos h0]]; simp [h0]
    · by_cases h1 : v = 0
      · subst h1; simp [sgn]
      · rw [show sgn v = 1 by unfold sgn; rw [if_neg (by omega), if_neg h0]]; simp [h0]
  all_goals ((try refine zR2 ?_) <;> (repeat' (with_reducible first | refine And.intro ?_ ?_ | intro _)))
  rename_i b1 b2
  refine c_draw ([6], []) [.box b1 [.int .i64 (sgn v), u, .int .i64 e] 48, .box b2 [.pointer none, .int .i64 0] 111] [0, 1, 3, 4, 2, 5, 6] (by kernel_rfl) (by kernel_rfl) ?_
  all_goals ((try refine zD2 ?_) <;> (repeat' (with_reducible first | refine And.intro ?_ ?_ | intro _)))
  refine l_call rfl zEvs rfl (value_spec (sgn v) u (limbs v.natAbs) hD.1) zTake zFsub ?_
  rintro _ L' F' ⟨b, mag, rfl, rfl, rfl⟩
  rw [hv]
  all_goals ((try refine zD2 ?_) <;> (repeat' (with_reducible first | refine And.intro ?_ ?_ | intro _)))
  exact e_resT rfl zRes (Lo := [oInt b v mag]) zTake (fsub_cons zMem fsub_nil) ⟨b, mag, rfl, rfl, rfl⟩
/-- A float of an exact number, with its code. -/
def PFo (v e : Int) (r : Value) (L' : List Own) (F' : List Fact) : Prop := ∃ y c, r = .tuple #[.float .f64 y, .int .i64 c] ∧ y < 18446744073709551616 ∧
  ((c = 0 ∧ ∃ A, fv y = some A ∧ (∀ a, VEq a v e → FRep a.natAbs → A = a) ∧ (v = 0 → y = 0)) ∨ (c = 3 ∧ ∀ a, VEq a v e → ¬ FRep a.natAbs)) ∧ L' = [] ∧ F' = []
theorem FloatOf_spec (u : Value) (v e : Int) (hD : IsD (sgn v) e (limbs v.natAbs)) :
    Spec Tryz.prog 32 [vDyadic (sgn v) u e] [] [fList 1 (rInt .i64) u (limbs v.natAbs), fTz] (PFo v e) := by
  refine enter Tryz.func32 Tryz.ntmps32 rfl (by kernel_rfl) zCon rfl fun G => ?_
  refine c_isList (v := u) zMem fun hsu => ?_
  obtain ⟨hn, hbig, he⟩ := isD_nrm hD
  have hID := IsDyadic_spec (sgn v) e u (limbs v.natAbs)
  rw [decide_eq_true hD] at hID
  all_goals (((try refine zR2 ?_) <;> (repeat' (with_reducible first | refine And.intro ?_ ?_ | intro _))) <;> (repeat' ((first | ((with_reducible apply l_callP); exact rfl; exact zEvs; exact rfl; (with_reducible apply hID); (case hF => exact zFsub); (try any_goals (refine propId ?_; omega)))) <;> ((try refine zR2 ?_) <;> (repeat' (with_reducible first | refine And.intro ?_ ?_ | intro _))))))
  refine l_call rfl zEvs rfl (dvalue_spec u v e hD) zTake zFsub ?_
  rintro _ L' F' ⟨a, ma, rfl, rfl, rfl⟩
  all_goals ((try refine zR2 ?_) <;> (repeat' (with_reducible first | refine And.intro ?_ ?_ | intro _)))
  refine l_callA rfl zEvs rfl (float_spec a v e ma _ zMem hn hbig he) zFsub ?_
  rintro _ L' F' ⟨y, b, rfl, hy64, hb, rfl, rfl⟩
  rcases hb with ⟨rfl, hA⟩ | ⟨rfl, hnx⟩
  · all_goals ((try refine zR2 ?_) <;> (repeat' (with_reducible first | refine And.intro ?_ ?_ | intro _)))
    exact e_resT rfl zRes (Lo := []) zTake fsub_nil ⟨y, 0, rfl, hy64, .inl ⟨rfl, hA⟩, rfl, rfl⟩
  · all_goals ((try refine zR2 ?_) <;> (repeat' (with_reducible first | refine And.intro ?_ ?_ | intro _)))
    exact e_resT rfl zRes (Lo := []) zTake fsub_nil ⟨0, 3, rfl, by omega, .inr ⟨rfl, hnx⟩, rfl, rfl⟩
theorem PDof.noF {a : Int} : ∀ v L' F', PDof a v L' F' → F' = [] := by
  rintro _ _ _ ⟨_, _, _, _, _, _, _, _, _, _, h⟩; exact h
/-- A float of a text, finite in every case. -/
def PFBf (t : List UInt8) (r : Value) (L' : List Own) (F' : List Fact) : Prop := ∃ x b, r = .tuple #[.float .f64 x, .bool b] ∧ (b = true → Dbl t x) ∧ (b = false → ∀ y, ¬ Dbl t y) ∧ (x < 18446744073709551616 ∧ ∃ A, fv x = some A) ∧ L' = [] ∧ F' = []
theorem parseFloat_spec (t : List UInt8) (hl : t.length ≤ 2000000) : Spec Tryz.prog 199 [.string ⟨t.toArray⟩] [] [fMax, fSyn, fRng, fTab, fTz] (PFBf t) := by
  refine enter Tryz.func199 Tryz.ntmps199 rfl (by kernel_rfl) zCon rfl fun G => ?_
  all_goals ((try refine zR2 ?_) <;> (repeat' (with_reducible first | refine And.intro ?_ ?_ | intro _)))
  refine l_call0 rfl zEvs rfl (ParseDyadic_spec t hl) zTake zFsub PPD.noF ?_
  rintro _ L' (⟨v, e, u, hP, rfl, rfl, _⟩ | ⟨hno, rfl, rfl, _⟩)
  · refine l_freezeInts (ik := .i64) (l := limbs v.natAbs) .head rfl ?_
    refine l_isList (.head _) fun hsu => ?_
    obtain ⟨hn, hbig, he⟩ := isD_nrm hP.2
    all_goals ((try refine zR2 ?_) <;> (repeat' (with_reducible first | refine And.intro ?_ ?_ | intro _)))
    refine l_call rfl zEvs rfl (FloatOf_spec u v e hP.2) zTake zFsub ?_
    rintro _ L' F' ⟨y, c, rfl, hy64, hc, rfl, rfl⟩
    rcases hc with ⟨rfl, A, hA, hex, hz⟩ | ⟨rfl, hnx⟩
    · all_goals ((try refine zR2 ?_) <;> (repeat' (with_reducible first | refine And.intro ?_ ?_ | intro _)))
      refine l_call rfl zEvs rfl (DyadicOf_spec y A hy64 hA) zTake zFsub ?_
      rintro _ L' F' ⟨w, f, u2, hV, hN, hw53, hf1, hf2, rfl, rfl, rfl⟩
      refine l_freezeInts (ik := .i64) (l := limbs w.natAbs) .head rfl ?_
      refine l_isList (.head _) fun hsu2 => ?_
      have hDw : IsD (sgn w) f (limbs w.natAbs) := nrm_isD hN (Nat.lt_of_lt_of_le hw53 (Nat.pow_le_pow_right (by omega) (by omega))) (by omega)
      have htx := dtext_spec (sgn w) f u2 (limbs w.natAbs) hDw
      rw [wText_itoa] at htx
      all_goals ((try refine zR2 ?_) <;> (repeat' (with_reducible first | refine And.intro ?_ ?_ | intro _)))
      refine l_callP rfl zEvs rfl htx zFsub ?_
      obtain ⟨tw, htw⟩ : ∃ tw, tw = itoa w ++ 112 :: itoa f := ⟨_, rfl⟩
      rw [← htw]
      have hyes : tw = t → VEq A v e := fun h => by
        have hPw : PDy t w f := ⟨by rw [← h, htw], hDw⟩
        obtain ⟨rfl, rfl⟩ := hP.uniq hPw
        exact hV
      have hno : ¬ tw = t → ∀ z, ¬ Dbl t z := fun h z hz' => by
        obtain ⟨_, v', e', a, h1, h2, h3, _⟩ := hz'
        obtain ⟨rfl, rfl⟩ := hP.uniq h1
        have := hex a h3 (fv_rep h2)
        subst this
        obtain ⟨rfl, rfl⟩ := h3.form hV hn hN
        exact h (by rw [htw, hP.1])
      all_goals ((try refine zR2 ?_) <;> (repeat' (with_reducible first | refine And.intro ?_ ?_ | intro _)))
      refine e_resT rfl zRes .nil fsub_nil ⟨y, decide (tw = t), rfl, fun h => ?_, fun h => hno (of_decide_eq_false h), ⟨hy64, A, hA⟩, rfl, rfl⟩
      exact ⟨hy64, v, e, A, hP, hA, hyes (of_decide_eq_true h), hz⟩
    · all_goals ((try refine zR2 ?_) <;> (repeat' (with_reducible first | refine And.intro ?_ ?_ | intro _)))
      refine e_resT rfl zRes .nil fsub_nil ⟨0, false, rfl, fun h => (by cases h), fun _ z hz => ?_, ⟨by omega, 0, fv_zero⟩, rfl, rfl⟩
      obtain ⟨_, v', e', a, h1, h2, h3, _⟩ := hz
      obtain ⟨rfl, rfl⟩ := hP.uniq h1
      exact hnx a h3 (fv_rep h2)
  · refine l_nilInts .i64 ?_
    have hD0 : IsD (sgn 0) 0 (limbs (0 : Int).natAbs) := by rw [show (0 : Int).natAbs = 0 from rfl, limbs_zero]; decide
    have hFo := FloatOf_spec (.slice none 0 0) 0 0 hD0
    rw [show (0 : Int).natAbs = 0 from rfl, limbs_zero, show sgn 0 = 0 from rfl] at hFo
    all_goals ((try refine zR2 ?_) <;> (repeat' (with_reducible first | refine And.intro ?_ ?_ | intro _)))
    refine l_call rfl zEvs rfl hFo zTake zFsub ?_
    rintro _ L' F' ⟨y, c, rfl, hy64, hc, rfl, rfl⟩
    all_goals ((try refine zR2 ?_) <;> (repeat' (with_reducible first | refine And.intro ?_ ?_ | intro _)))
    refine e_resT rfl zRes .nil fsub_nil ⟨0, false, rfl, fun h => (by cases h), fun _ z hz => ?_, ⟨by omega, 0, fv_zero⟩, rfl, rfl⟩
    obtain ⟨_, v', e', a, h1, _⟩ := hz
    exact hno v' e' h1
end Go.Proofs.YtbllgmcpebifhaaGreatDoor.K
end

section
/- The program's reading of complex numbers. -/
namespace Go.Proofs.YtbllgmcpebifhaaGreatDoor.K
open Go Go.RowKit Go.Lib
set_option linter.all false
set_option maxRecDepth 4000
set_option maxHeartbeats 1000000

theorem cut_c (c : UInt8) (t : List UInt8) : ((c : UInt8) ∉ t ∧ Lib.cut t [c] = (t, [], false)) ∨ (∃ a b, t = a ++ c :: b ∧ (c : UInt8) ∉ a ∧ Lib.cut t [c] = (a, b, true)) := by
  have hix : Lib.index t [c] = indexByte t c := index_one t c
  have hge := indexByte_ge t c
  by_cases h : indexByte t c = -1
  · refine .inl ⟨fun hm => ?_, by unfold Lib.cut; rw [hix, if_neg (by omega)]⟩
    obtain ⟨k, hk⟩ := List.mem_iff_getElem?.1 hm
    exact indexByte_none h k hk
  · obtain ⟨o, ho⟩ : ∃ o : Nat, indexByte t c = o := ⟨(indexByte t c).toNat, by omega⟩
    obtain ⟨h1, h2⟩ := indexByte_some ho
    have hlt : o < t.length := (List.getElem?_eq_some_iff.1 h1).1
    have hg : t[o] = c := (List.getElem?_eq_some_iff.1 h1).2
    refine .inr ⟨t.take o, t.drop (o + 1), ?_, fun hm => ?_, ?_⟩
    · conv => lhs; rw [← List.take_append_drop o t]
      rw [List.drop_eq_getElem_cons hlt, hg]
    · obtain ⟨k, hk⟩ := List.mem_iff_getElem?.1 hm
      rw [List.getElem?_take] at hk
      split at hk
      · exact h2 k (by assumption) hk
      · cases hk
    · unfold Lib.cut
      rw [hix, ho, if_pos (by omega)]
      simp
theorem CutC_spec (t : List UInt8) (hl : t.length ≤ 2000000) : Spec Tryz.prog 119 [.string ⟨t.toArray⟩, .string ⟨#[44]⟩] [] [fMax]
    (Gives (.tuple #[.string ⟨(Lib.cut t [44]).1.toArray⟩, .string ⟨(Lib.cut t [44]).2.1.toArray⟩, .bool (Lib.cut t [44]).2.2])) := by
  refine ⟨⟨Tryz.f119, _, Tryz.func119, rfl, by kernel_rfl⟩, fun w X hX hL hF => ?_⟩
  obtain ⟨⟨v, h1, m, rfl⟩, _, _⟩ := hF _ (.head _)
  refine (Tryz.strings_Cut ⟨t.toArray⟩ ⟨#[44]⟩ m w (by simp [ByteArray.size]; omega) h1).mono ?_
  rintro en w' ⟨rfl, k, rfl⟩
  exact ⟨_, [], [], rfl, ⟨rfl, rfl, rfl⟩, ⟨rfl, rfl, rfl, Nat.le_refl _, fun x hx _ => rfl⟩, ⟨fun o h => (by cases h), trivial⟩, fun x hx => (keys_nil x hx).elim, fun φ h => (by cases h)⟩
theorem Dbl.no_nil {x : Nat} (h : Dbl [] x) : False := by
  obtain ⟨_, v, e, a, h1, _⟩ := h
  have := congrArg List.length h1.1
  simp at this
theorem DblZ.cut {t a b : List UInt8} {z : Nat × Nat} (h : DblZ t z) (ht : t = a ++ 44 :: b) (ha : (44 : UInt8) ∉ a) : Dbl a z.1 ∧ Dbl b z.2 := by
  obtain ⟨a', b', h1, h2, h3⟩ := h.split
  obtain ⟨h4, h5, h6⟩ := (spl_two 44 t a' b').1 h1
  rw [ht, spl_hit 44 b a ha] at h1
  injection h1 with e1 e2
  subst e1
  rw [ht] at h4
  have := List.append_cancel_left h4
  injection this with _ e3
  subst e3
  exact ⟨h2, h3⟩
/-- A number of a text, finite in every case. -/
def PNumf (t : List UInt8) (r : Value) (L' : List Own) (F' : List Fact) : Prop := ∃ z b, r = .tuple #[.complex .f64 z.1 z.2, .bool b] ∧ (b = true → DblZ t z) ∧ (b = false → ∀ y, ¬ DblZ t y) ∧ ((z.1 < 18446744073709551616 ∧ ∃ A, fv z.1 = some A) ∧ (z.2 < 18446744073709551616 ∧ ∃ B, fv z.2 = some B)) ∧ L' = [] ∧ F' = []
theorem parseNumber_spec (t : List UInt8) (hl : t.length ≤ 2000000) : Spec Tryz.prog 127 [.string ⟨t.toArray⟩] [] [fMax, fSyn, fRng, fTab, fTz] (PNumf t) := by
  refine enter Tryz.func127 Tryz.ntmps127 rfl (by kernel_rfl) zCon rfl fun G => ?_
  all_goals ((try refine zR2 ?_) <;> (repeat' (with_reducible first | refine And.intro ?_ ?_ | intro _)))
  have hcut := CutC_spec t hl
  obtain ⟨a, b, f, hab, hcase⟩ : ∃ a b f, Lib.cut t [44] = (a, b, f) ∧ (((44 : UInt8) ∉ t ∧ a = t ∧ b = []) ∨ (t = a ++ 44 :: b ∧ (44 : UInt8) ∉ a ∧ f = true)) := by
    rcases cut_c 44 t with ⟨h1, h2⟩ | ⟨a, b, h1, h2, h3⟩
    · exact ⟨t, [], false, h2, .inl ⟨h1, rfl, rfl⟩⟩
    · exact ⟨a, b, true, h3, .inr ⟨h1, h2, rfl⟩⟩
  rw [hab] at hcut
  dsimp only at hcut
  have hal : a.length ≤ 2000000 := by
    rcases hcase with ⟨_, rfl, _⟩ | ⟨h, _, _⟩
    · exact hl
    · have := congrArg List.length h; simp at this; omega
  have hbl : b.length ≤ 2000000 := by
    rcases hcase with ⟨_, _, rfl⟩ | ⟨h, _, _⟩
    · simp
    · have := congrArg List.length h; simp at this; omega
  have hto : ∀ z, DblZ t z → Dbl a z.1 ∧ Dbl b z.2 := fun z hz => by
    rcases hcase with ⟨h, _, _⟩ | ⟨h1, h2, _⟩
    · obtain ⟨a', b', h', _⟩ := hz
      exact absurd (by rw [h']; simp) h
    · exact hz.cut h1 h2
  have hfrom : ∀ z : Nat × Nat, Dbl a z.1 → Dbl b z.2 → DblZ t z := fun z h1 h2 => by
    rcases hcase with ⟨h, _, rfl⟩ | ⟨h3, _, _⟩
    · exact h2.no_nil.elim
    · exact ⟨a, b, h3, h1, h2⟩
  clear hcase
  refine l_callG rfl zEvs rfl hcut (fun φ h => .inl (by rw [List.mem_singleton.1 h]; exact zMem)) ?_
  all_goals ((try refine zR2 ?_) <;> (repeat' (with_reducible first | refine And.intro ?_ ?_ | intro _)))
  refine l_call rfl zEvs rfl (parseFloat_spec a hal) zTake zFsub ?_
  rintro _ L' F' ⟨x, b1, rfl, hx1, hx2, hxf, rfl, rfl⟩
  all_goals ((try refine zR2 ?_) <;> (repeat' (with_reducible first | refine And.intro ?_ ?_ | intro _)))
  refine l_call rfl zEvs rfl (parseFloat_spec b hbl) zTake zFsub ?_
  rintro _ L' F' ⟨y, b2, rfl, hy1, hy2, hyf, rfl, rfl⟩
  cases b1 with
  | false =>
    all_goals ((try refine zR2 ?_) <;> (repeat' (with_reducible first | refine And.intro ?_ ?_ | intro _)))
    exact e_resT rfl zRes .nil fsub_nil ⟨(x, y), false, rfl, fun h => (by cases h), fun _ z hz => hx2 rfl _ (hto z hz).1, ⟨hxf, hyf⟩, rfl, rfl⟩
  | true =>
    cases b2 with
    | false =>
      all_goals ((try refine zR2 ?_) <;> (repeat' (with_reducible first | refine And.intro ?_ ?_ | intro _)))
      exact e_resT rfl zRes .nil fsub_nil ⟨(x, y), false, rfl, fun h => (by cases h), fun _ z hz => hy2 rfl _ (hto z hz).2, ⟨hxf, hyf⟩, rfl, rfl⟩
    | true =>
      all_goals ((try refine zR2 ?_) <;> (repeat' (with_reducible first | refine And.intro ?_ ?_ | intro _)))
      exact e_resT rfl zRes .nil fsub_nil ⟨(x, y), true, rfl, fun _ => hfrom (x, y) (hx1 rfl) (hy1 rfl), fun h => (by cases h), ⟨hxf, hyf⟩, rfl, rfl⟩
end Go.Proofs.YtbllgmcpebifhaaGreatDoor.K
end

section
/- The program's ParsePolynomial. -/
namespace Go.Proofs.YtbllgmcpebifhaaGreatDoor.K
open Go Go.RowKit Go.Lib
set_option linter.all false
set_option maxRecDepth 4000
set_option maxHeartbeats 1000000

/-! ### rows of complex numbers, lent -/
theorem loanCx {L : List Own} {v : Value} {E : TypeId} {N : Nat} {l : List (Nat × Nat)} (hm : Own.row v E 1 N (l.map cx) ∈ L) : ∀ w, Owns w L → (fList 1 rCx v l).holds w (fun _ => False) := fun w hL => by
  have hr : w.ownsRow 0 E 1 v N (l.map cx) := hL.all _ hm
  have hN : N = l.length := by have := hr.1; simpa using this.symm
  rcases hr.2 with ⟨hv, h0⟩ | ⟨b, cap, cur, hv, _, hh, h1, h2, h3, h4⟩
  · have : l = [] := List.eq_nil_of_length_eq_zero (by omega)
    exact .inl ⟨⟨none, hv⟩, this⟩
  · refine .inr ⟨b, 0, cap, cur, E, (0, 0), by rw [hv, hN], by omega, h2, hh, id, by omega, fun i x hx => ?_⟩
    have := freeze_cx (l := l) [] w (fun _ => False) (fun φ h => by cases h) i x hx
    have hi : i < l.length := (List.getElem?_eq_some_iff.1 hx).1
    have e : ((l.map cx).drop (i * 1)).take 1 = (cur.toList.drop (0 + i * 1)).take 1 := by
      rw [← h4, List.drop_take, List.take_take, Nat.zero_add]
      congr 1
      omega
    rw [← e]
    exact this
section
variable {G : Ctx} {n : Nat} {P : Program} {ops : Array Oper} {Q : Post} {rest : List Oper} {m : Regs} {L : List Own} {F : List Fact} {d : Nat} {ty : TypeId} {pos : String} {af : Array Edge} {g : Option (Nat × Bool)}
/-- A call that only computes, and may read what is owned. -/
theorem l_callH {f : FuncId} {xs : List Operand} {vs : List Value} {ts : Array TypeId} {Fc : List Fact} {v : Value}
    (hw : wantG ops m g = some true) (hv : Evs m xs vs) (hd : Nat.blt d n = true) (hs : Spec P f vs [] Fc (Gives v)) (hF : ∀ φ, φ ∈ Fc → φ ∈ F ∨ (∀ w, Owns w L → φ.holds w (fun _ => False)))
    (h : RunL G n P ops Q rest ((d, v) :: m) L F) : RunL G n P ops Q (⟨some d, .call ⟨.value (.func f), xs.toArray, ts⟩, ty, pos, af, g⟩ :: rest) m L F := by
  intro a w s
  have hwa := wantG_eq (o := ⟨some d, .call ⟨.value (.func f), xs.toArray, ts⟩, ty, pos, af, g⟩) s.env rfl hw
  refine wpList_step fun K hK => ?_
  rw [if_pos hwa]
  unfold Oper.wp
  rw [run_call (first := []) (cap := []) hs.1 (by exact s.env.eval rfl) (hv.map s.env) w, Oper.upon_enter]
  have hvs : ([] ++ vs ++ [] : List Value) = vs := by simp
  rw [hvs]
  refine (hs.2 w (fun _ => False) (fun _ h => h.elim) ⟨fun o h => (by cases h), trivial⟩ ?_).mono ?_
  · intro φ hφ
    rcases hF φ hφ with h1 | h1
    · exact φ.stable (s.facts φ h1) ⟨Nat.le_refl _, fun _ _ _ => rfl, fun x _ hx => by
        rcases hx with hx | hx
        · exact hx.elim
        · exact (keys_nil x hx).elim⟩
    · exact φ.stable (h1 w s.own) ⟨Nat.le_refl _, fun _ _ _ => rfl, fun x _ hx => by
        rcases hx with hx | hx
        · exact hx.elim
        · exact (keys_nil x hx).elim⟩
  · rintro e w' ⟨v', L', F', rfl, ⟨rfl, rfl, rfl⟩, hkeep, _, _, _⟩
    refine hK _ _ (h _ w' ((s.quiet ⟨hkeep.os, hkeep.tape, hkeep.output, hkeep.size, fun x hx _ => hkeep.block x hx (keys_nil x)⟩).put hd _))
end
theorem lent1 {L : List Own} {F : List Fact} {φ : Fact} (h : ∀ w, Owns w L → φ.holds w (fun _ => False)) : ∀ ψ, ψ ∈ [φ] → ψ ∈ F ∨ (∀ w, Owns w L → ψ.holds w (fun _ => False)) := fun ψ hψ => by
  rw [List.mem_singleton.1 hψ]; exact .inr h
theorem lent2 {L : List Own} {F : List Fact} {φ χ : Fact} (h : ∀ w, Owns w L → φ.holds w (fun _ => False)) (h' : χ ∈ F) : ∀ ψ, ψ ∈ [φ, χ] → ψ ∈ F ∨ (∀ w, Owns w L → ψ.holds w (fun _ => False)) := fun ψ hψ => by
  cases hψ with
  | head => exact .inr h
  | tail _ hψ => rw [List.mem_singleton.1 hψ]; exact .inl h'

/-- At most k cuts. -/
theorem splitK_spl (c : UInt8) : ∀ (k : Nat) (t : List UInt8), (splitK [c] 0 k t).length = min (spl c t).length (k + 1) ∧ ((spl c t).length ≤ k + 1 → splitK [c] 0 k t = spl c t) ∧ ∀ w ∈ splitK [c] 0 k t, w.length ≤ t.length
  | 0, t => by
    have h0 : 0 < (spl c t).length := List.length_pos_iff.2 (spl_ne c t)
    refine ⟨by simp [splitK]; omega, fun h => ?_, fun w hw => by simp [splitK] at hw; subst hw; exact Nat.le_refl _⟩
    rcases cut_c c t with ⟨h1, _⟩ | ⟨a, b, h1, h2, _⟩
    · rw [spl_miss c t h1]; rfl
    · rw [h1, spl_hit c b a h2] at h
      have h3 : 0 < (spl c b).length := List.length_pos_iff.2 (spl_ne c b)
      rw [List.length_cons] at h; omega
  | k + 1, t => by
    have hix : index t [c] = indexByte t c := index_one t c
    rcases cut_c c t with ⟨h1, _⟩ | ⟨a, b, h1, h2, _⟩
    · have hm : indexByte t c = -1 := by
        rcases Int.lt_or_le (indexByte t c) 0 with h | h
        · have := indexByte_ge t c; omega
        · obtain ⟨o, ho⟩ : ∃ o : Nat, indexByte t c = o := ⟨(indexByte t c).toNat, by omega⟩
          exact absurd (List.mem_of_getElem? (indexByte_some ho).1) h1
      have e : splitK [c] 0 (k + 1) t = [t] := by rw [splitK, hix, hm]; rfl
      rw [e, spl_miss c t h1]
      exact ⟨by simp, fun _ => rfl, fun w hw => by simp at hw; subst hw; exact Nat.le_refl _⟩
    · have hk : indexByte t c = (a.length : Nat) := by
        rcases Int.lt_or_le (indexByte t c) 0 with h | h
        · have := indexByte_ge t c
          exact absurd (show t[a.length]? = some c by rw [h1]; simp) (indexByte_none (by omega) a.length)
        · obtain ⟨o, ho⟩ : ∃ o : Nat, indexByte t c = o := ⟨(indexByte t c).toNat, by omega⟩
          obtain ⟨h3, h4⟩ := indexByte_some ho
          rcases Nat.lt_trichotomy o a.length with h5 | h5 | h5
          · rw [h1, List.getElem?_append_left h5] at h3
            exact absurd (List.mem_of_getElem? h3) h2
          · rw [ho, h5]
          · exact absurd (show t[a.length]? = some c by rw [h1]; simp) (h4 _ h5)
      have e : splitK [c] 0 (k + 1) t = a :: splitK [c] 0 k b := by
        have hne : ¬ (((a.length : Nat) : Int) == -1) = true := fun h => by have := beq_iff_eq.1 h; omega
        rw [splitK, hix, hk, if_neg hne, h1]
        simp
      obtain ⟨i1, i2, i3⟩ := splitK_spl c k b
      rw [e, h1, spl_hit c b a h2]
      refine ⟨by rw [List.length_cons, List.length_cons, i1]; omega, fun h => by rw [i2 (by simpa using h)], fun w hw => ?_⟩
      cases hw with
      | head => simp
      | tail _ hw => have := i3 w hw; simp; omega

/-- The words that SplitN hands back. -/
def PSpn (t : List UInt8) (r : Value) (L' : List Own) (F' : List Fact) : Prop := ∃ ws : List (List UInt8), L' = [.row r 9 1 ws.length (ws.map str)] ∧ F' = [] ∧ (∀ w ∈ ws, w.length ≤ t.length) ∧ ((spl 59 t).length ≤ 13 → ws = spl 59 t) ∧ (13 < (spl 59 t).length → ws.length = 14) ∧ ws.length ≤ 14
theorem SplitN_spec (t : List UInt8) (hl : t.length ≤ 2000000) : Spec Tryz.prog 126 [.string ⟨t.toArray⟩, .string ⟨#[59]⟩, .int .i64 14] [] [fMax] (PSpn t) := by
  refine ⟨⟨Tryz.f126, _, Tryz.func126, rfl, by kernel_rfl⟩, fun w X hX hL hF => ?_⟩
  obtain ⟨⟨v, h1, m, rfl⟩, _, _⟩ := hF _ (.head _)
  have hsz : (⟨t.toArray⟩ : ByteArray).size = t.length := by simp [ByteArray.size]
  refine (Tryz.strings_SplitN ⟨t.toArray⟩ ⟨#[59]⟩ 14 m w (by omega) h1 (by decide) (by omega) (by omega)).mono ?_
  rw [hsz]
  obtain ⟨K, hK⟩ : ∃ K, K = min 14 (t.length + 1) - 1 := ⟨_, rfl⟩
  have hmin : min 14 (t.length + 1) = K + 1 := by omega
  rw [hmin, Nat.add_sub_cancel]
  have hle := splitB_length_le ⟨#[59]⟩ 0 K ⟨t.toArray⟩
  have hd : (splitB ⟨#[59]⟩ 0 K ⟨t.toArray⟩).map (·.data.toList) = splitK [59] 0 K t := splitB_data ⟨#[59]⟩ 0 K ⟨t.toArray⟩
  generalize splitB ⟨#[59]⟩ 0 K ⟨t.toArray⟩ = bs at hle hd ⊢
  obtain ⟨i1, i2, i3⟩ := splitK_spl 59 K t
  have hst := spl_len 59 t
  rintro en w' ⟨rfl, rfl⟩
  have hbs : (splitK [59] 0 K t).map str = bs.map Value.string := by
    rw [← hd, List.map_map]
    apply List.map_congr_left
    intro b _
    rfl
  have hlen : (splitK [59] 0 K t).length = bs.length := by rw [← hd, List.length_map]
  refine ⟨_, [.row _ 9 1 _ ((splitK [59] 0 K t).map str)], [], rfl, ⟨splitK [59] 0 K t, rfl, rfl, i3, fun h => i2 (by omega), fun h => by omega, by omega⟩, ⟨rfl, rfl, rfl, by simp, fun x hx _ => Below.heap_alloc w _ x hx⟩, ⟨fun o h => ?_, ?_⟩, fun x hx => ?_, fun φ h => (by cases h)⟩
  · rw [List.mem_singleton.1 h, hlen]
    refine ⟨by simp [hlen], .inr ⟨w.heap.size, K + 1, _, rfl, Nat.zero_le _, Go.heap_alloc_new w _, hle, by simp only [maxLen]; omega, by rw [cellsOf_size hle, Nat.mul_one], ?_⟩⟩
    rw [hbs, Nat.mul_one]
    unfold cellsOf
    simp
  · exact ⟨fun x _ => keys_nil x, trivial⟩
  · right
    obtain ⟨o, ho, hk⟩ := hx
    rw [List.mem_singleton.1 ho] at hk
    have : w.heap.size = x := by simpa [Own.key, Value.ownBlock] using hk
    omega
theorem IsFinite_fin (z : Nat × Nat) (a : Int × Int) (h : FinZ z a) : Spec Tryz.prog 73 [.complex .f64 z.1 z.2] [] [] (Gives (.bool true)) := by
  refine enter Tryz.func73 Tryz.ntmps73 rfl (by kernel_rfl) zCon rfl fun G => ?_
  have h1 := isReal_fin z.1 a.1 h.1
  have h2 := isReal_fin z.2 a.2 h.2
  all_goals (((try refine zR2 ?_) <;> (repeat' (with_reducible first | refine And.intro ?_ ?_ | intro _))) <;> (repeat' ((first | ((with_reducible apply l_callP); exact rfl; exact zEvs; exact rfl; (with_reducible apply h1); (case hF => exact zFsub); (try any_goals (refine propId ?_; omega))) | ((with_reducible apply l_callP); exact rfl; exact zEvs; exact rfl; (with_reducible apply h2); (case hF => exact zFsub); (try any_goals (refine propId ?_; omega)))) <;> ((try refine zR2 ?_) <;> (repeat' (with_reducible first | refine And.intro ?_ ?_ | intro _))))))
  (refine e_gives rfl zRes ?_; first | rfl | (simp [retVal, *]; done) | (simp_all [retVal]; done) | (simp only [retVal]))
theorem areFinite_spec (v : Value) (zs : List (Nat × Nat)) (hf : FinL zs) : Spec Tryz.prog 79 [v] [] [fList 1 rCx v zs] (Gives (.bool true)) := by
  refine enter Tryz.func79 Tryz.ntmps79 rfl (by kernel_rfl) zCon rfl fun G => ?_
  refine c_isList (v := v) zMem fun hsv => ?_
  refine c_lenList zMem fun hlen => ?_
  all_goals ((try refine zR2 ?_) <;> (repeat' (with_reducible first | refine And.intro ?_ ?_ | intro _)))
  refine c_while (ι := { i : Nat // i ≤ zs.length }) (κ := Unit) (fun i => [(5, v), (6, .int .i64 (zs.length : Int)), (7, .int .i64 (i.1 : Int))]) (fun _ => []) (fun _ => [fList 1 rCx v zs]) (fun i => zs.length - i.1)
    (fun _ => []) (fun _ => []) (fun _ => []) ⟨0, Nat.zero_le _⟩ (fun _ _ s => s.start zSub zRfl zFsub) ?_ ?_
  · rintro ⟨i, hi⟩
    dsimp only at hi ⊢
    by_cases hi' : i < zs.length
    · obtain ⟨w, hw⟩ : ∃ w, zs[i]? = some w := ⟨_, List.getElem?_eq_getElem hi'⟩
      obtain ⟨b, hb, _⟩ := hf w (List.mem_of_getElem? hw)
      have hF := IsFinite_fin w b hb
      all_goals (((try refine zR2 ?_) <;> (repeat' (with_reducible first | refine And.intro ?_ ?_ | intro _))) <;> (repeat' ((first | ((with_reducible apply l_callP); exact rfl; exact zEvs; exact rfl; (with_reducible apply hF); (case hF => exact zFsub); (try any_goals (refine propId ?_; omega)))) <;> ((try refine zR2 ?_) <;> (repeat' (with_reducible first | refine And.intro ?_ ?_ | intro _))))))
      all_goals (first | (exfalso; omega) | skip)
      exact e_again ⟨i + 1, hi'⟩ (by dsimp only; omega) zSub rfl zFsub
    · all_goals ((try refine zR2 ?_) <;> (repeat' (with_reducible first | refine And.intro ?_ ?_ | intro _)))
      all_goals (first | (exfalso; omega) | skip)
      exact e_out () zSub rfl zFsub
  · intro _
    all_goals ((try refine zR2 ?_) <;> (repeat' (with_reducible first | refine And.intro ?_ ?_ | intro _)))
    (refine e_gives rfl zRes ?_; first | rfl | (simp [retVal, *]; done) | (simp_all [retVal]; done) | (simp only [retVal]))
theorem IsPolynomial_spec (v : Value) (zs : List (Nat × Nat)) (hf : FinL zs) (hz : zs.length ≤ 100) : Spec Tryz.prog 128 [v] [] [fList 1 rCx v zs] (Gives (.bool (decide (IsPol zs)))) := by
  refine enter Tryz.func128 Tryz.ntmps128 rfl (by kernel_rfl) zCon rfl fun G => ?_
  refine c_isList (v := v) zMem fun hsv => ?_
  refine c_lenList zMem fun hlen => ?_
  have hA := areFinite_spec v zs hf
  by_cases hl : 2 ≤ zs.length ∧ zs.length ≤ 13
  · obtain ⟨z, hz1, hz2, hz3⟩ := last_get zs (by omega)
    obtain ⟨a, ha, ha0⟩ := hf z hz3
    have h1 := ha.1
    have h2 := ha.2
    all_goals ((try refine zR2 ?_) <;> (repeat' (with_reducible first | refine And.intro ?_ ?_ | intro _)))
    refine l_callP rfl zEvs rfl hA zFsub ?_
    all_goals ((try refine zR2 ?_) <;> (repeat' (with_reducible first | refine And.intro ?_ ?_ | intro _)))
    all_goals first | (exfalso; omega) | skip
    refine e_gives rfl zRes ?_
    simp only [retVal]
    congr 1
    have e1 : (¬ (a.1 = 0 ∧ a.2 = 0)) ↔ IsPol zs := by
      rw [← ha0]
      unfold IsPol
      rw [hz1]
      constructor
      · intro h; exact ⟨hl.1, hl.2, fun h' => h (Option.some.inj h')⟩
      · intro h h'; exact h.2.2 (by rw [h'])
    exact decide_eq_decide.2 e1
  · all_goals ((try refine zR2 ?_) <;> (repeat' (with_reducible first | refine And.intro ?_ ?_ | intro _)))
    all_goals first | (exfalso; omega) | skip
    all_goals (
      refine e_gives rfl zRes ?_
      simp only [retVal]
      congr 1
      exact (decide_eq_false (fun h => hl ⟨h.1, h.2.1⟩)).symm)
theorem no_long {t : List UInt8} (h : 13 < (spl 59 t).length) : ∀ ys, ¬ PPol t ys := fun ys hy => by
  have h1 := hy.1
  have h2 := hy.2.2.2.1
  omega
/-- What the program's ParsePolynomial hands back. -/
def PPI2 (t : List UInt8) (r : Value) (L' : List Own) (F' : List Fact) : Prop := ∃ v zs code, r = .tuple #[v, .int .i64 code] ∧ L' = [.row v 24 1 zs.length (zs.map cx)] ∧ F' = [] ∧ ((code = 0 ∧ PPol t zs) ∨ (code = 6 ∧ zs = [] ∧ ∀ ys, ¬ PPol t ys))
theorem implPoly_spec (t : List UInt8) (hl : t.length ≤ 2000000) : Spec Tryz.prog 45 [.string ⟨t.toArray⟩] [] [fMax, fSyn, fRng, fTab, fTz] (PPI2 t) := by
  refine enter Tryz.func45 Tryz.ntmps45 rfl (by kernel_rfl) zCon rfl fun G => ?_
  all_goals ((try refine zR2 ?_) <;> (repeat' (with_reducible first | refine And.intro ?_ ?_ | intro _)))
  rename_i v0
  refine l_call rfl zEvs rfl (SplitN_spec t hl) zTake zFsub ?_
  rintro v L' F' ⟨ws, rfl, rfl, hwm, hws1, hws2, hws3⟩
  refine l_isRow (v := v) (.own (.head _)) fun hsv _ => ?_
  all_goals ((try refine zR2 ?_) <;> (repeat' (with_reducible first | refine And.intro ?_ ?_ | intro _)))
  refine c_while (ι := { p : Value × List (Nat × Nat) // p.2.length ≤ ws.length ∧ All2 ws p.2 }) (κ := { p : Value × List (Nat × Nat) // p.2.length = ws.length ∧ All2 ws p.2 })
    (fun p => [(11, v), (4, p.1.1), (12, .int .i64 (ws.length : Int)), (13, .int .i64 (p.1.2.length : Int))]) (fun p => [.row v 9 1 ws.length (ws.map str), .row p.1.1 24 1 p.1.2.length (p.1.2.map cx)]) (fun _ => [fMax, fSyn, fRng, fTab, fTz]) (fun p => ws.length - p.1.2.length)
    (fun p => [(4, p.1.1)]) (fun p => [.row p.1.1 24 1 p.1.2.length (p.1.2.map cx)]) (fun _ => []) ⟨(v0, []), Nat.zero_le _, fun k w z _ h => by simp at h⟩ (fun _ _ s => s.start zSub zRfl zFsub) ?_ ?_
  · rintro ⟨⟨u, zs⟩, h1, h2⟩
    dsimp only at h1 h2 ⊢
    by_cases hi : zs.length < ws.length
    · obtain ⟨w, hw⟩ : ∃ w, ws[zs.length]? = some w := ⟨_, List.getElem?_eq_getElem hi⟩
      have hwlen : w.length ≤ 2000000 := by have := hwm w (List.mem_of_getElem? hw); omega
      clear hwm
      all_goals ((try refine zR2 ?_) <;> (repeat' (with_reducible first | refine And.intro ?_ ?_ | intro _)))
      all_goals (first | (exfalso; omega) | skip)
      refine l_call rfl zEvs rfl (parseNumber_spec w hwlen) zTake zFsub ?_
      rintro _ L' F' ⟨z, b, rfl, hz1, hz2, _, rfl, rfl⟩
      cases b with
      | true =>
        all_goals ((try refine zR2 ?_) <;> (repeat' (with_reducible first | refine And.intro ?_ ?_ | intro _)))
        rename_i u'
        refine ends_take (L' := [.row v 9 1 ws.length (ws.map str), .row u' 24 1 (zs.length + 1) ((zs ++ [(z.1, z.2)]).map cx)]) zTake ?_
        exact e_again ⟨(u', zs ++ [(z.1, z.2)]), by simp; omega, h2.snoc hw (hz1 rfl)⟩ (by simp; omega) (by
          refine sub_cons rfl (sub_cons rfl (sub_cons rfl (sub_same rfl ?_ sub_nil)))
          congr 1; simp) (by simp) zFsub
      | false =>
        all_goals ((try refine zR2 ?_) <;> (repeat' (with_reducible first | refine And.intro ?_ ?_ | intro _)))
        refine ends_nilRow (E := 24) 1 ?_
        refine e_resT rfl zRes (Lo := [.row (.slice none 0 0) 24 1 0 []]) zTake fsub_nil ⟨.slice none 0 0, [], 6, rfl, rfl, rfl, .inr ⟨rfl, rfl, ?_⟩⟩
        by_cases h13 : (spl 59 t).length ≤ 13
        · exact bad_pol (by rw [← hws1 h13]; exact hw) (hz2 rfl)
        · exact no_long (by omega)
    · all_goals ((try refine zR2 ?_) <;> (repeat' (with_reducible first | refine And.intro ?_ ?_ | intro _)))
      all_goals (first | (exfalso; omega) | skip)
      refine ends_take (L' := [.row u 24 1 zs.length (zs.map cx)]) zTake ?_
      exact e_out ⟨(u, zs), by dsimp only; omega, h2⟩ zSub rfl zFsub
  · rintro ⟨⟨u, zs⟩, h1, h2⟩
    dsimp only at h1 h2 ⊢
    have hI := IsPolynomial_spec u zs (h2.fin (by omega)) (by omega)
    refine c_isRow (v := u) (.own (.head _)) fun hsu _ => ?_
    all_goals ((try refine zR2 ?_) <;> (repeat' (with_reducible first | refine And.intro ?_ ?_ | intro _)))
    refine l_callH rfl zEvs rfl hI (lent1 (loanCx (.head _))) ?_
    by_cases hP : IsPol zs
    · all_goals ((try refine zR2 ?_) <;> (repeat' (with_reducible first | refine And.intro ?_ ?_ | intro _)))
      all_goals first | (exfalso; contradiction) | skip
      refine e_resT rfl zRes (Lo := [.row u 24 1 zs.length (zs.map cx)]) zTake fsub_nil ⟨u, zs, 0, rfl, rfl, rfl, .inl ⟨rfl, ?_⟩⟩
      by_cases h13 : (spl 59 t).length ≤ 13
      · rw [hws1 h13] at h1 h2
        exact ⟨h1, h2, hP⟩
      · have := hws2 (by omega)
        have := hP.2.1
        omega
    · all_goals ((try refine zR2 ?_) <;> (repeat' (with_reducible first | refine And.intro ?_ ?_ | intro _)))
      all_goals first | (exfalso; contradiction) | skip
      refine ends_nilRow (E := 24) 1 ?_
      refine e_resT rfl zRes (Lo := [.row (.slice none 0 0) 24 1 0 []]) zTake fsub_nil ⟨.slice none 0 0, [], 6, rfl, rfl, rfl, .inr ⟨rfl, rfl, ?_⟩⟩
      by_cases h13 : (spl 59 t).length ≤ 13
      · rw [hws1 h13] at h1 h2
        intro ys hy
        exact hP ((h2.uniq hy.2.1 h1 hy.1) ▸ hy.2.2)
      · exact no_long (by omega)
end Go.Proofs.YtbllgmcpebifhaaGreatDoor.K
end
