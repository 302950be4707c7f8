/- The reference's reading of exact numbers. -/
import Derived.Test.YtbllgmcpebifhaaGreatDoorZHe
import Derived.Test.YtbllgmcpebifhaaGreatDoorZLy
namespace Go.Proofs.YtbllgmcpebifhaaGreatDoor.K
open Go Go.RowKit Go.Lib
set_option linter.all false
set_option maxRecDepth 4000
set_option maxHeartbeats 1000000
set_option exponentiation.threshold 8000

theorem hval_eq {t : List UInt8} (hS : Spells t) (h : hval t < 2 ^ 4800 ∨ (tval t).natAbs < 2 ^ 4800) : hval t = (tval t).natAbs := by
  rw [tval_abs]
  rcases Nat.lt_or_ge 2000 (body t).length with hl | hl
  · exfalso
    rcases h with h | h
    · have h1 : 10 ^ 1999 ≤ hval t := by
        have hne : (body t).take 2000 ≠ [] := by
          intro h0
          have := congrArg List.length h0
          rw [List.length_take, Nat.min_eq_left (Nat.le_of_lt hl)] at this
          cases this
        have hhd : ∀ c, ((body t).take 2000).head? = some c → c.toNat ≠ 48 := fun c hc => hS.1.2.2 (by omega) c (by rw [List.head?_take] at hc; simpa using hc)
        have := dval_pos (l := (body t).take 2000) (fun c hc => hS.1.2.1 c (List.mem_of_mem_take hc)) hne hhd
        rw [List.length_take] at this
        rw [show min 2000 (body t).length - 1 = 1999 by omega] at this
        exact this
      exact absurd (Nat.lt_of_lt_of_le h ten_big) (Nat.not_lt.2 h1)
    · exact long_big hS hl h
  · unfold hval
    rw [List.take_of_length_le hl]
theorem sg_tval {t : List UInt8} (h : hval t = (tval t).natAbs) : (if limbs (hval t) = [] then 0 else sg1 t) = sgn (tval t) := by
  rw [h]
  by_cases h0 : (tval t).natAbs = 0
  · rw [if_pos (limbs_nil.2 h0), show tval t = 0 by omega]; rfl
  · rw [if_neg (fun h => h0 (limbs_nil.1 h))]
    rw [tval_abs] at h0
    unfold sg1 sgn tval
    cases isNeg t <;> simp <;> omega
theorem small_big {n : Nat} (h : n < 16777216) : n < 2 ^ 4800 := Nat.lt_of_lt_of_le (show n < 2 ^ 24 from h) (Nat.pow_le_pow_right (by omega) (by omega))
theorem len_small {n : Nat} (h : (limbs n).length ≤ 1) : n < 16777216 := by
  have h1 := vl_lt _ _ (limbs_range n)
  rw [limbs_val] at h1
  have h2 : 16777216 ^ (limbs n).length ≤ 16777216 ^ 1 := Nat.pow_le_pow_right (by omega) h
  omega
theorem small_len {n : Nat} (h : n < 16777216) : (limbs n).length ≤ 1 := limbs_len_le 1 n (by omega)
theorem limbs_one {n : Nat} (h0 : n ≠ 0) (h : n < 16777216) : limbs n = [(n : Int)] := by
  rw [limbs_pos h0, Nat.mod_eq_of_lt h, Nat.div_eq_of_lt h, limbs_zero]
/-- The exponent's value. -/
theorem exp_val {b : List UInt8} (hS : Spells b) (h : (limbs (hval b)).length ≤ 1) :
    (limbs (hval b) = [] ∧ tval b = 0) ∨ (∃ x, limbs (hval b) = [x] ∧ 0 ≤ x ∧ x < 16777216 ∧ (if limbs (hval b) = [] then 0 else sg1 b) * x = tval b) := by
  have h1 := len_small h
  have h2 := hval_eq hS (.inl (small_big h1))
  by_cases h0 : hval b = 0
  · left
    exact ⟨limbs_nil.2 h0, by omega⟩
  · right
    refine ⟨(hval b : Int), limbs_one h0 h1, by omega, by omega, ?_⟩
    rw [sg_tval h2]
    unfold sgn
    split
    · omega
    · split <;> omega
theorem PDy.read {t a b : List UInt8} (ht : t = a ++ 112 :: b) (hSa : Spells a) (hSb : Spells b) (hb : (limbs (hval b)).length ≤ 1) (h : IsD (if limbs (hval a) = [] then 0 else sg1 a) (tval b) (limbs (hval a))) :
    PDy t (tval a) (tval b) ∧ (if limbs (hval a) = [] then 0 else sg1 a) = sgn (tval a) ∧ limbs (hval a) = limbs (tval a).natAbs := by
  have h2 := hval_eq hSa (.inl (isW_big h.1))
  have h3 := sg_tval h2
  rw [h3, h2] at h
  exact ⟨⟨by rw [itoa_tval hSa, itoa_tval hSb]; exact ht, h⟩, h3, by rw [h2]⟩
theorem PDy.parts {t a b : List UInt8} {v e : Int} (h : PDy t v e) (ht : t = a ++ 112 :: b) (ha : (112 : UInt8) ∉ a) :
    Spells a ∧ Spells b ∧ tval b = e ∧ (limbs (hval b)).length ≤ 1 ∧ IsD (if limbs (hval a) = [] then 0 else sg1 a) (tval b) (limbs (hval a)) := by
  obtain ⟨rfl, rfl⟩ := split_uniq (ht.symm.trans h.1) ha (itoa_no_p v)
  have hSa := spells_itoa v
  have hSb := spells_itoa e
  have hva := tval_itoa v
  have hvb := tval_itoa e
  have h2 := hval_eq hSa (.inr (by rw [hva]; exact isW_big h.2.1))
  have he := h.2.2.1
  have h3 := hval_eq hSb (.inr (by rw [hvb]; exact small_big (by omega)))
  refine ⟨hSa, hSb, hvb, ?_, ?_⟩
  · rw [h3, hvb]; exact small_len (by omega)
  · rw [sg_tval h2, h2, hva, hvb]; exact h.2

/-- What l03Read hands back. -/
def PRD (t : List UInt8) (r : Value) (L' : List Own) (F' : List Fact) : Prop :=
  ∃ ok sg u e l, r = .tuple #[vDyadic sg u e, .bool ok] ∧ L' = [] ∧ F' = [fList 1 (rInt .i64) u l] ∧ (ok = true → ∃ v, PDy t v e ∧ sg = sgn v ∧ l = limbs v.natAbs) ∧ (ok = false → ∀ v e, ¬ PDy t v e)
theorem PRD.bad {t : List UInt8} (h : ∀ v e, ¬ PDy t v e) : PRD t (.tuple #[vDyadic 0 (.slice none 0 0) 0, .bool false]) [] [fList 1 (rInt .i64) (.slice none 0 0) []] :=
  ⟨false, 0, _, 0, [], rfl, rfl, rfl, fun h => (by cases h), fun _ => h⟩

theorem l03Read_spec (t : List UInt8) (hl : t.length ≤ 400000000) : Spec Tryz.prog 123 [.string ⟨t.toArray⟩] [] [] (PRD t) := by
  refine enter Tryz.func123 Tryz.ntmps123 rfl (by kernel_rfl) zCon rfl fun G => ?_
  all_goals ((try refine zR ?_) <;> (repeat' (with_reducible first | refine And.intro ?_ ?_ | intro _)))
  rename_i b2
  refine c_while (ι := { i : Nat // i ≤ t.length ∧ (112 : UInt8) ∉ t.take i }) (κ := { i : Nat // i ≤ t.length ∧ (112 : UInt8) ∉ t.take i ∧ (i < t.length → t[i]? = some 112) })
    (fun i => [(4, .int .i64 (i.1 : Int)), (0, .string ⟨t.toArray⟩), (2, ptr b2), (3, .bool false)]) (fun _ => [.box b2 [.int .i64 0, .slice none 0 0, .int .i64 0] 48]) (fun _ => []) (fun i => t.length - i.1)
    (fun i => [(4, .int .i64 (i.1 : Int)), (0, .string ⟨t.toArray⟩), (2, ptr b2), (3, .bool false)]) (fun _ => [.box b2 [.int .i64 0, .slice none 0 0, .int .i64 0] 48]) (fun _ => []) ⟨0, Nat.zero_le _, by simp⟩ (fun _ _ s => s.start zSub zRfl zFsub) ?_ ?_
  · rintro ⟨i, hi, hpre⟩
    dsimp only
    by_cases hil : i < t.length
    · have hget : t[i]? = some t[i] := List.getElem?_eq_getElem hil
      have htk : t.take (i + 1) = t.take i ++ [t[i]] := List.take_succ_eq_append_getElem hil
      revert hget htk
      generalize t[i] = e
      intro hget htk
      all_goals ((try refine zR ?_) <;> (repeat' (with_reducible first | refine And.intro ?_ ?_ | intro _)))
      all_goals (first | (exfalso; omega) | skip)
      · refine e_again ⟨i + 1, hil, fun hc => ?_⟩ (by dsimp only; omega) zSub rfl (fun _ h => h)
        rw [htk] at hc
        rcases List.mem_append.1 hc with h | h
        · exact hpre h
        · have he : (e.toNat : Int) ≠ 112 := by assumption
          rw [← List.mem_singleton.1 h] at he
          exact he rfl
      · have he : ¬ (e.toNat : Int) ≠ 112 := by assumption
        have he' : e = 112 := UInt8.toNat_inj.1 (by have : (112 : UInt8).toNat = 112 := rfl; omega)
        exact e_out ⟨i, hi, hpre, fun _ => by rw [hget, he']⟩ zSub rfl (fun _ h => h)
    · all_goals ((try refine zR ?_) <;> (repeat' (with_reducible first | refine And.intro ?_ ?_ | intro _)))
      all_goals (first | (exfalso; omega) | skip)
      exact e_out ⟨i, hi, hpre, fun h => absurd h hil⟩ zSub rfl (fun _ h => h)
  · rintro ⟨i, hi, hpre, h112⟩
    dsimp only
    by_cases hil : i < t.length
    · have ht : t = t.take i ++ 112 :: t.drop (i + 1) := by
        have h1 := h112 hil
        have h2 : t[i] = 112 := by rw [List.getElem?_eq_getElem hil] at h1; exact Option.some.inj h1
        conv => lhs; rw [← List.take_append_drop i t, List.drop_eq_getElem_cons hil, h2]
      have hla : (t.take i).length ≤ 400000000 := by rw [List.length_take]; omega
      have hlb : (t.drop (i + 1)).length ≤ 400000000 := by rw [List.length_drop]; omega
      all_goals ((try refine zR ?_) <;> (repeat' (with_reducible first | refine And.intro ?_ ?_ | intro _)))
      all_goals (first | (exfalso; omega) | skip)
      refine l_call rfl zEvs rfl (l02Read_spec (t.take i) hla) zTake zFsub ?_
      rintro _ L' F' ⟨ok1, g1, u1, l1, rfl, rfl, rfl, hn1, hok1, hno1⟩
      refine l_isList (.head _) fun hsu1 => ?_
      all_goals ((try refine zR ?_) <;> (repeat' (with_reducible first | refine And.intro ?_ ?_ | intro _)))
      refine l_call rfl zEvs rfl (l02Read_spec (t.drop (i + 1)) hlb) zTake zFsub ?_
      rintro _ L' F' ⟨ok2, g2, u2, l2, rfl, rfl, rfl, hn2, hok2, hno2⟩
      refine l_isList (.head _) fun hsu2 => ?_
      revert ht hpre
      generalize t.take i = a at hok1 hno1
      generalize t.drop (i + 1) = b at hok2 hno2
      intro hpre ht
      have hbad1 : ok1 = false → ∀ v e, ¬ PDy t v e := fun h v e hp => hno1 h (hp.parts ht hpre).1
      have hbad2 : ok2 = false → ∀ v e, ¬ PDy t v e := fun h v e hp => hno2 h (hp.parts ht hpre).2.1
      cases ok1 with
      | false =>
        all_goals ((try refine zR ?_) <;> (repeat' (with_reducible first | refine And.intro ?_ ?_ | intro _)))
        refine ends_nilInts .i64 ?_
        exact e_resT rfl zRes .nil (fsub_cons (.head _) fsub_nil) (by exact PRD.bad (hbad1 rfl))
      | true =>
      cases ok2 with
      | false =>
        all_goals ((try refine zR ?_) <;> (repeat' (with_reducible first | refine And.intro ?_ ?_ | intro _)))
        refine ends_nilInts .i64 ?_
        exact e_resT rfl zRes .nil (fsub_cons (.head _) fsub_nil) (by exact PRD.bad (hbad2 rfl))
      | true =>
      obtain ⟨hSa, hg1, hl1⟩ := hok1 rfl
      obtain ⟨hSb, hg2, hl2⟩ := hok2 rfl
      clear hno1 hno2 hbad1 hbad2 hok1 hok2
      have hbW : ¬ IsW g1 l1 → ∀ v e, ¬ PDy t v e := fun h v e hp => h (by rw [hg1, hl1]; exact (hp.parts ht hpre).2.2.2.2.1)
      have hbL : 1 < (l2.length : Int) → ∀ v e, ¬ PDy t v e := fun h v e hp => by
        have := (hp.parts ht hpre).2.2.2.1
        rw [← hl2] at this; omega
      have hI := l02Is_spec g1 u1 l1
      all_goals (((try refine zR ?_) <;> (repeat' (with_reducible first | refine And.intro ?_ ?_ | intro _))) <;> (repeat' ((first | ((with_reducible apply l_callP); exact rfl; exact zEvs; exact rfl; (with_reducible apply hI); (case hF => exact zFsub); (try any_goals (refine propId ?_; omega)))) <;> ((try refine zR ?_) <;> (repeat' (with_reducible first | refine And.intro ?_ ?_ | intro _))))))
      · refine ends_nilInts .i64 ?_
        exact e_resT rfl zRes .nil (fsub_cons (.head _) fsub_nil) (by exact PRD.bad (hbW (by assumption)))
      · refine ends_nilInts .i64 ?_
        exact e_resT rfl zRes .nil (fsub_cons (.head _) fsub_nil) (by exact PRD.bad (hbL (by assumption)))
      · rename_i b7 _ _ _ b9 _ _
        have hln : ¬ 1 < (l2.length : Int) := by assumption
        have h1 : (l2.length : Int) = 1 := by assumption
        have hlb0 : (limbs (hval b)).length ≤ 1 := by rw [← hl2]; omega
        rcases exp_val hSb hlb0 with ⟨h2, _⟩ | ⟨x, hx, hx0, hx1, hxv⟩
        · rw [hl2, h2] at h1; cases h1
        rw [← hg2] at hxv
        rw [← hl2] at hx
        have hg2r : -1 ≤ g2 ∧ g2 ≤ 1 := by rw [hg2]; unfold sg1; split <;> (try split) <;> omega
        have hmul : -16777216 ≤ g2 * x ∧ g2 * x ≤ 16777216 := by
          have : g2 = -1 ∨ g2 = 0 ∨ g2 = 1 := by omega
          rcases this with h | h | h <;> rw [h] <;> omega
        clear hl2
        subst hx
        have hgetx : ([x] : List Int)[0]? = some x := rfl
        refine c_draw ([8], []) [.box b7 [.int .i64 g2, u2] 46] [0, 1, 2, 3, 4, 5, 6, 7, 8] (by kernel_rfl) (by kernel_rfl) ?_
        all_goals ((try refine zD ?_) <;> (repeat' (with_reducible first | refine And.intro ?_ ?_ | intro _)))
        have hW : IsW g1 l1 := Decidable.of_not_not (by assumption)
        obtain ⟨E, hE⟩ : ∃ E, E = g2 * x := ⟨_, rfl⟩
        rw [← hE] at hxv ⊢
        refine c_draw ([3, 4], []) [.box b9 [.int .i64 g1, u1, .int .i64 E] 48] [0, 1, 2, 3, 4] (by kernel_rfl) (by kernel_rfl) ?_
        all_goals ((try refine zD ?_) <;> (repeat' (with_reducible first | refine And.intro ?_ ?_ | intro _)))
        refine l_callP rfl zEvs rfl (l03Is_spec g1 E u1 l1) zFsub ?_
        all_goals ((try refine zD ?_) <;> (repeat' (with_reducible first | refine And.intro ?_ ?_ | intro _)))
        refine e_resT rfl zRes .nil (fsub_cons (by exact zMem) fsub_nil) ⟨decide (IsD g1 E l1), g1, u1, E, l1, rfl, rfl, rfl, fun h => ?_, fun h v e hp => ?_⟩
        · have h := of_decide_eq_true h
          rw [hxv, hg1, hl1] at h
          have h3 := PDy.read ht hSa hSb hlb0 h
          rw [hxv, hg1, hl1]
          exact ⟨_, h3.1, h3.2.1, h3.2.2⟩
        · have h := of_decide_eq_false h
          rw [hxv, hg1, hl1] at h
          exact h (hp.parts ht hpre).2.2.2.2
      · rename_i b7 _ _ _ b9 _ _
        have hW : IsW g1 l1 := Decidable.of_not_not (by assumption)
        have hln : ¬ 1 < (l2.length : Int) := by assumption
        have h1 : ¬ (l2.length : Int) = 1 := by assumption
        have hlb0 : (limbs (hval b)).length ≤ 1 := by rw [← hl2]; omega
        have hxv : (0 : Int) = tval b := by
          rcases exp_val hSb hlb0 with ⟨_, h2⟩ | ⟨x, hx, _⟩
          · exact h2.symm
          · exfalso; apply h1; rw [hl2, hx]; rfl
        obtain ⟨E, hE⟩ : ∃ E : Int, E = 0 := ⟨_, rfl⟩
        rw [show Own.box b9 [.int .i64 g1, u1, .int .i64 0] 48 = Own.box b9 [.int .i64 g1, u1, .int .i64 E] 48 by rw [hE]]
        rw [← hE] at hxv
        refine c_draw ([3, 4], []) [.box b9 [.int .i64 g1, u1, .int .i64 E] 48] [0, 1, 2, 3, 4] (by kernel_rfl) (by kernel_rfl) ?_
        all_goals ((try refine zD ?_) <;> (repeat' (with_reducible first | refine And.intro ?_ ?_ | intro _)))
        refine l_callP rfl zEvs rfl (l03Is_spec g1 E u1 l1) zFsub ?_
        all_goals ((try refine zD ?_) <;> (repeat' (with_reducible first | refine And.intro ?_ ?_ | intro _)))
        refine e_resT rfl zRes .nil (fsub_cons (by exact zMem) fsub_nil) ⟨decide (IsD g1 E l1), g1, u1, E, l1, rfl, rfl, rfl, fun h => ?_, fun h v e hp => ?_⟩
        · have h := of_decide_eq_true h
          rw [hxv, hg1, hl1] at h
          have h3 := PDy.read ht hSa hSb hlb0 h
          rw [hxv, hg1, hl1]
          exact ⟨_, h3.1, h3.2.1, h3.2.2⟩
        · have h := of_decide_eq_false h
          rw [hxv, hg1, hl1] at h
          exact h (hp.parts ht hpre).2.2.2.2
    · have hno : ∀ v e, ¬ PDy t v e := fun v e h => by
        have : i = t.length := by omega
        rw [this, List.take_length] at hpre
        exact hpre (by rw [h.1]; simp)
      all_goals ((try refine zR ?_) <;> (repeat' (with_reducible first | refine And.intro ?_ ?_ | intro _)))
      all_goals (first | (exfalso; omega) | skip)
      refine ends_nilInts .i64 ?_
      exact e_resT rfl zRes .nil (fsub_cons (.head _) fsub_nil) (by exact PRD.bad hno)
/-- What the reference hands back. -/
def PPS (t : List UInt8) (r : Value) (L' : List Own) (F' : List Fact) : Prop :=
  ∃ sg u e l code, r = .tuple #[vDyadic sg u e, .int .i64 code] ∧ L' = [] ∧ F' = [fList 1 (rInt .i64) u l] ∧ ((∃ v, PDy t v e ∧ sg = sgn v ∧ l = limbs v.natAbs ∧ code = 0) ∨ ((∀ v e, ¬ PDy t v e) ∧ sg = 0 ∧ e = 0 ∧ l = [] ∧ code = 6))

theorem specParse_spec (t : List UInt8) (hl : t.length ≤ 400000000) : Spec Tryz.prog 41 [.string ⟨t.toArray⟩] [] [] (PPS t) := by
  refine enter Tryz.func41 Tryz.ntmps41 rfl (by kernel_rfl) zCon rfl fun G => ?_
  all_goals ((try refine zR ?_) <;> (repeat' (with_reducible first | refine And.intro ?_ ?_ | intro _)))
  refine l_call rfl zEvs rfl (l03Read_spec t hl) zTake zFsub ?_
  rintro _ L' F' ⟨ok, g, u, e, l, rfl, rfl, rfl, hok, hno⟩
  refine l_isList (.head _) fun hsu => ?_
  cases ok with
  | false =>
    all_goals ((try refine zR ?_) <;> (repeat' (with_reducible first | refine And.intro ?_ ?_ | intro _)))
    refine ends_nilInts .i64 ?_
    exact e_resT rfl zRes .nil (fsub_cons (.head _) fsub_nil) ⟨0, _, 0, [], 6, rfl, rfl, rfl, .inr ⟨hno rfl, rfl, rfl, rfl, rfl⟩⟩
  | true =>
    obtain ⟨v, h1, h2, h3⟩ := hok rfl
    all_goals ((try refine zR ?_) <;> (repeat' (with_reducible first | refine And.intro ?_ ?_ | intro _)))
    exact e_resT rfl zRes .nil (fsub_cons (.head _) fsub_nil) ⟨g, u, e, l, 0, rfl, rfl, rfl, .inl ⟨v, h1, h2, h3, rfl⟩⟩
end Go.Proofs.YtbllgmcpebifhaaGreatDoor.K
