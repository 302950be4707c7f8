/- ParseWhole. -/
import Derived.Test.YtbllgmcpebifhaaGreatDoorZGh
namespace Go.Proofs.YtbllgmcpebifhaaGreatDoor.K
open Go Go.RowKit
set_option linter.all false
set_option maxRecDepth 4000
set_option maxHeartbeats 1000000
set_option exponentiation.threshold 8000

/-- What ParseWhole hands back. -/
def PPW (t : List UInt8) (r : Value) (L' : List Own) (F' : List Fact) : Prop :=
  (Spells t ∧ (tval t).natAbs < 2 ^ 4800 ∧ ∃ u, r = .tuple #[vWhole (sgn (tval t)) u, .int .i64 0] ∧ L' = [.row u 2 1 (limbs (tval t).natAbs).length ((limbs (tval t).natAbs).map (Value.int .i64))] ∧ F' = []) ∨
  (¬ (Spells t ∧ (tval t).natAbs < 2 ^ 4800) ∧ ∃ code, code ≠ 0 ∧ r = .tuple #[vWhole 0 (.slice none 0 0), .int .i64 code] ∧ L' = [] ∧ F' = [])
theorem PPW.bad {t : List UInt8} {code : Int} (h : ¬ (Spells t ∧ (tval t).natAbs < 2 ^ 4800)) (hc : code ≠ 0) : PPW t (.tuple #[vWhole 0 (.slice none 0 0), .int .i64 code]) [] [] := .inr ⟨h, code, hc, rfl, rfl, rfl⟩

theorem isNeg_cons (c : UInt8) (r : List UInt8) : isNeg (c :: r) = decide ((c.toNat : Int) = 45) := by
  unfold isNeg
  by_cases h : c = 45
  · subst h; simp
  · have h45 : (45 : UInt8).toNat = 45 := rfl
    have : ¬ (c.toNat : Int) = 45 := fun h' => h (UInt8.toNat_inj.1 (by omega))
    simp [h, this]
theorem body_cons (c : UInt8) (r : List UInt8) : body (c :: r) = if (c.toNat : Int) = 45 then r else c :: r := by
  unfold body
  rw [isNeg_cons]
  by_cases h : (c.toNat : Int) = 45 <;> simp [h]
theorem body_len (t : List UInt8) : (body t).length ≤ t.length := by
  unfold body
  split
  · simp
  · exact Nat.le_refl _

theorem ParseWhole_spec (t : List UInt8) (hl : t.length ≤ 2000000) : Spec Tryz.prog 120 [.string ⟨t.toArray⟩] [] [] (PPW t) := by
  refine enter Tryz.func120 Tryz.ntmps120 rfl (by kernel_rfl) zCon rfl fun G => ?_
  all_goals ((try refine zS ?_) <;> (repeat' (with_reducible first | refine And.intro ?_ ?_ | intro _)))
  rename_i b2
  cases t with
  | nil =>
    refine l_guard rfl rfl (fun h => absurd h (by decide)) (fun _ => ?_)
    all_goals ((try refine zR ?_) <;> (repeat' (with_reducible first | refine And.intro ?_ ?_ | intro _)))
    refine c_while (ι := Unit) (κ := Unit) (fun _ => [(21, .int .i64 0), (20, .int .i64 0), (0, .string ⟨[].toArray⟩), (4, .string ⟨[].toArray⟩), (2, ptr b2), (3, .int .i64 0)]) (fun _ => [.box b2 [.int .i64 0, .slice none 0 0] 46]) (fun _ => []) (fun _ => 0)
      (fun _ => [(0, .string ⟨[].toArray⟩), (4, .string ⟨[].toArray⟩), (2, ptr b2), (3, .int .i64 0)]) (fun _ => [.box b2 [.int .i64 0, .slice none 0 0] 46]) (fun _ => []) () (fun _ _ s => s.start zSub zRfl zFsub) ?_ ?_
    · intro _
      all_goals ((try refine zR ?_) <;> (repeat' (with_reducible first | refine And.intro ?_ ?_ | intro _)))
      all_goals (first | (exfalso; omega) | skip)
      exact e_out () zSub rfl (fun _ h => h)
    · intro _
      all_goals ((try refine zR ?_) <;> (repeat' (with_reducible first | refine And.intro ?_ ?_ | intro _)))
      all_goals first | (exfalso; simp_all; done) | skip
      refine e_res rfl zRes [] [] (fun _ h => by cases h) (fun _ _ => trivial) fsub_nil ?_
      exact PPW.bad (code := 6) (fun h => h.1.1.1 rfl) (by decide)
  | cons c r =>
  have hlen : ((c :: r).length : Int) = r.length + 1 := by simp
  have hget0 : (c :: r)[0]? = some c := rfl
  refine l_guard rfl rfl (fun _ => ?_) (fun h => absurd h (by omega))
  all_goals ((try refine zS ?_) <;> (repeat' (with_reducible first | refine And.intro ?_ ?_ | intro _)))
  refine c_mid (κ := Unit) (fun _ => [(0, .string ⟨(c :: r).toArray⟩), (4, .string ⟨(body (c :: r)).toArray⟩), (2, ptr b2), (3, .int .i64 0)]) (fun _ => [.box b2 [.int .i64 0, .slice none 0 0] 46]) (fun _ => []) ?_ ?_
  · rw [body_cons]
    by_cases hc : (c.toNat : Int) = 45
    · rw [if_pos hc]
      all_goals ((try refine zR ?_) <;> (repeat' (with_reducible first | refine And.intro ?_ ?_ | intro _)))
      all_goals (first | (exfalso; omega) | skip)
      exact e_out () zSub rfl (fun _ h => h)
    · rw [if_neg hc]
      all_goals ((try refine zR ?_) <;> (repeat' (with_reducible first | refine And.intro ?_ ?_ | intro _)))
      all_goals (first | (exfalso; omega) | skip)
      exact e_out () zSub rfl (fun _ h => h)
  intro _
  clear hlen hget0
  revert hl
  generalize c :: r = t
  intro hl
  have hDl := body_len t
  obtain ⟨D, hD⟩ : ∃ D, body t = D := ⟨_, rfl⟩
  rw [hD] at hDl ⊢
  all_goals ((try refine zS ?_) <;> (repeat' (with_reducible first | refine And.intro ?_ ?_ | intro _)))
  refine c_while (ι := { i : Nat // i ≤ D.length ∧ ∀ c ∈ D.take i, isd c }) (κ := { _u : Unit // ∀ c ∈ D, isd c })
    (fun i => [(21, .int .i64 (i.1 : Int)), (20, .int .i64 (D.length : Int)), (0, .string ⟨t.toArray⟩), (4, .string ⟨D.toArray⟩), (2, ptr b2), (3, .int .i64 0)]) (fun _ => [.box b2 [.int .i64 0, .slice none 0 0] 46]) (fun _ => []) (fun i => D.length - i.1)
    (fun _ => [(0, .string ⟨t.toArray⟩), (4, .string ⟨D.toArray⟩), (2, ptr b2), (3, .int .i64 0)]) (fun _ => [.box b2 [.int .i64 0, .slice none 0 0] 46]) (fun _ => []) ⟨0, Nat.zero_le _, by simp⟩ (fun _ _ s => s.start zSub zRfl zFsub) ?_ ?_
  · rintro ⟨i, hi, hpre⟩
    dsimp only
    by_cases hil : i < D.length
    · have hget : D[i]? = some D[i] := List.getElem?_eq_getElem hil
      have hmem : D[i] ∈ D := List.getElem_mem hil
      have htk : D.take (i + 1) = D.take i ++ [D[i]] := List.take_succ_eq_append_getElem hil
      revert hget hmem htk
      generalize D[i] = e
      intro hget hmem htk
      have hbad : ¬ isd e → ¬ (Spells t ∧ (tval t).natAbs < 2 ^ 4800) := fun h h' => h (h'.1.1.2.1 e (hD ▸ hmem))
      all_goals ((try refine zR ?_) <;> (repeat' (with_reducible first | refine And.intro ?_ ?_ | intro _)))
      all_goals (first | (exfalso; omega) | skip)
      · refine e_res rfl zRes [] [] (fun _ h => by cases h) (fun _ _ => trivial) fsub_nil ?_
        exact PPW.bad (code := 6) (hbad (by unfold isd; omega)) (by decide)
      · refine e_res rfl zRes [] [] (fun _ h => by cases h) (fun _ _ => trivial) fsub_nil ?_
        exact PPW.bad (code := 6) (hbad (by unfold isd; omega)) (by decide)
      · refine e_again ⟨i + 1, by omega, fun c hc => ?_⟩ (by dsimp only; omega) zSub rfl (fun _ h => h)
        rw [htk] at hc
        rcases List.mem_append.1 hc with h | h
        · exact hpre c h
        · rw [List.mem_singleton.1 h]; unfold isd; omega
    · all_goals ((try refine zR ?_) <;> (repeat' (with_reducible first | refine And.intro ?_ ?_ | intro _)))
      all_goals (first | (exfalso; omega) | skip)
      have : i = D.length := by omega
      subst this
      rw [List.take_length] at hpre
      exact e_out ⟨(), hpre⟩ zSub rfl (fun _ h => h)
  · rintro ⟨_, hdig⟩
    have key6 : (D = [] ∨ (1 < (D.length : Int) ∧ ∃ h : 0 < D.length, (D[0].toNat : Int) = 48) ∨ t = [45, 48]) → ¬ (Spells t ∧ (tval t).natAbs < 2 ^ 4800) := by
      rintro (h | ⟨h1, h2, h3⟩ | h) ⟨⟨hN, hz⟩, _⟩
      · exact hN.1 (hD.trans h)
      · refine hN.2.2 (by rw [hD]; omega) D[0] (by rw [hD, List.head?_eq_getElem?, List.getElem?_eq_getElem h2]) (by omega)
      · subst h
        exact hz rfl rfl
    have key3 : 2000 < (D.length : Int) → ¬ (Spells t ∧ (tval t).natAbs < 2 ^ 4800) := fun h ⟨h1, h2⟩ => long_big h1 (by rw [hD]; omega) h2
    have keyS : ¬ D = [] → (1 < (D.length : Int) → ∃ h : 0 < D.length, ¬ (D[0].toNat : Int) = 48) → ¬ t = [45, 48] → Spells t := by
      intro h1 h2 h3
      refine ⟨⟨by rw [hD]; exact h1, by rw [hD]; exact hdig, ?_⟩, ?_⟩
      · rw [hD]
        intro hl1 c hc
        obtain ⟨h4, h5⟩ := h2 (by omega)
        rw [List.head?_eq_getElem?, List.getElem?_eq_getElem h4] at hc
        rw [← Option.some.inj hc]; omega
      · intro hn h0
        rw [hD] at h0
        apply h3
        rw [body_eq t, hn, hD]
        by_cases hl1 : 1 < D.length
        · obtain ⟨h4, h5⟩ := h2 (by omega)
          have := dval_pos hdig h1 (fun c hc => by
            rw [List.head?_eq_getElem?, List.getElem?_eq_getElem h4] at hc
            rw [← Option.some.inj hc]; omega)
          have h6 : 0 < 10 ^ (D.length - 1) := Nat.pow_pos (by omega)
          omega
        · match D, h1, hl1, hdig, h0 with
          | [e], _, _, hdig, h0 =>
            have he := hdig e (.head _)
            have : dval [e] = e.toNat - 48 := by simp [dval]
            rw [this] at h0
            have h7 : e.toNat = 48 := by have := he.1; omega
            have : e = 48 := UInt8.toNat_inj.1 h7
            rw [this]; rfl
          | _ :: _ :: _, _, hl1, _, _ => simp at hl1
    all_goals ((try refine zR ?_) <;> (repeat' (with_reducible first | refine And.intro ?_ ?_ | intro _)))
    all_goals first | (exfalso; first | contradiction | omega) | skip
    all_goals first
      | (refine e_res rfl zRes [] [] (fun _ h => by cases h) (fun _ _ => trivial) fsub_nil ?_
         exact PPW.bad (code := 6) (key6 (by first | exact .inl (by assumption) | exact .inr (.inl ⟨by assumption, by omega, by assumption⟩) | exact .inr (.inr (by assumption)))) (by decide))
      | (refine e_res rfl zRes [] [] (fun _ h => by cases h) (fun _ _ => trivial) fsub_nil ?_
         exact PPW.bad (code := 3) (key3 (by assumption)) (by decide))
      | skip
    all_goals (
      have hSp : Spells t := keyS (by assumption) (by first | exact fun _ => ⟨by omega, by assumption⟩ | exact fun h => absurd h (by assumption)) (by assumption)
      have hlD : D.length ≤ 2000 := by omega
      have hB : (tval t).natAbs < 4294967296 ^ 900 := by
        rw [tval_abs, hD]
        have h1 : dval D < 10 ^ 2000 := Nat.lt_of_lt_of_le (dval_lt hdig) (Nat.pow_le_pow_right (by omega) hlD)
        have h2 : (4294967296 : Nat) ^ 250 ≤ 4294967296 ^ 900 := Nat.pow_le_pow_right (by omega) (by omega)
        have h3 := ten_small
        omega
      refine l_call rfl zEvs rfl (readBig_spec t (by rw [hD]; exact hdig) (by rw [hD]; assumption) (by rw [hD]; exact hlD)) zTake zFsub ?_
      rintro _ L' F' ⟨bx, mx, rfl, rfl, rfl⟩
      all_goals ((try refine zR ?_) <;> (repeat' (with_reducible first | refine And.intro ?_ ?_ | intro _)))
      refine l_call rfl zEvs rfl (whole_spec bx (tval t) mx [oInt bx (tval t) mx] zMem hB) zTake zFsub ?_
      rintro rv L' F' hW
      unfold PWhole at hW
      by_cases h4800 : (tval t).natAbs < 2 ^ 4800
      · rw [if_pos h4800] at hW
        obtain ⟨u, rfl, rfl, rfl⟩ := hW
        refine l_isRow (v := u) (.own zMem) fun hsu _ => ?_
        all_goals ((try refine zR ?_) <;> (repeat' (with_reducible first | refine And.intro ?_ ?_ | intro _)))
        refine ends_take (L' := [.box b2 [.int .i64 (sgn (tval t)), u] 46, .row u 2 1 (limbs (tval t).natAbs).length ((limbs (tval t).natAbs).map (Value.int .i64))]) zTake ?_
        refine e_res rfl zRes _ [] (fun _ h => .tail _ h) (fun _ h => h.apart.2) fsub_nil ?_
        exact .inl ⟨hSp, h4800, u, rfl, rfl, rfl⟩
      · rw [if_neg h4800] at hW
        obtain ⟨rfl, rfl, rfl⟩ := hW
        all_goals ((try refine zR ?_) <;> (repeat' (with_reducible first | refine And.intro ?_ ?_ | intro _)))
        refine e_res rfl zRes [] [] (fun _ h => by cases h) (fun _ _ => trivial) fsub_nil ?_
        exact PPW.bad (code := 3) (fun h => h4800 h.2) (by decide))
end Go.Proofs.YtbllgmcpebifhaaGreatDoor.K
