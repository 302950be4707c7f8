/- The reference's reading of floats. -/
import Derived.Test.YtbllgmcpebifhaaGreatDoorZJl
import Derived.Test.YtbllgmcpebifhaaGreatDoorZHf
import Derived.Test.YtbllgmcpebifhaaGreatDoorZMi
namespace Go.Proofs.YtbllgmcpebifhaaGreatDoor.K
open Go Go.RowKit Go.Lib
set_option linter.all false
set_option maxRecDepth 4000
set_option maxHeartbeats 1000000
set_option exponentiation.threshold 6000

theorem isD_nrm {v e : Int} (h : IsD (sgn v) e (limbs v.natAbs)) : Nrm v e ∧ v.natAbs < 2 ^ 4800 ∧ -5000 ≤ e ∧ e ≤ 5000 := by
  obtain ⟨h1, h2, h3⟩ := h
  refine ⟨?_, isW_big h1, h2.1, h2.2⟩
  by_cases h0 : v = 0
  · subst h0
    rw [if_pos (show sgn 0 = 0 from rfl)] at h3
    exact .inl ⟨rfl, h3⟩
  · rw [if_neg (fun h => h0 (sgn_zero.1 h)), limbs_pos (by omega)] at h3
    right
    have h3 : ((v.natAbs % 16777216 : Nat) : Int) % 2 = 1 := h3
    omega
theorem nrm_isD {v e : Int} (h : Nrm v e) (h1 : v.natAbs < 2 ^ 4800) (h2 : -5000 ≤ e ∧ e ≤ 5000) : IsD (sgn v) e (limbs v.natAbs) := by
  refine ⟨⟨fun x hx => ?_, ?_⟩, h2, ?_⟩
  · have := limbs_range v.natAbs x hx; omega
  · by_cases h0 : v = 0
    · subst h0; rw [if_pos (by simp [limbs_zero])]; rfl
    · have hne : limbs v.natAbs ≠ [] := fun h => by have := limbs_nil.1 h; omega
      rw [if_neg hne]
      have ht := limbs_trim v.natAbs
      refine ⟨limbs_two 200 h1, ?_, by unfold sgn; rw [if_neg h0]; split <;> simp⟩
      rcases ht with ht | ⟨hl, ht⟩
      · exact absurd ht hne
      · rw [List.getD_eq_getElem?_getD, List.getElem?_eq_getElem hl]; exact ht
  · rcases h with ⟨rfl, rfl⟩ | h
    · rfl
    · have h0 : v ≠ 0 := by omega
      rw [if_neg (fun h => h0 (sgn_zero.1 h)), limbs_pos (by omega)]
      show ((v.natAbs % 16777216 : Nat) : Int) % 2 = 1
      omega

/-- A float with its finiteness. -/
def PR64 (v e : Int) (r : Value) (L' : List Own) (F' : List Fact) : Prop := ∃ y b, r = .tuple #[.float .f64 y, .bool b] ∧ y < 18446744073709551616 ∧
  ((b = true ∧ ∃ A, fv y = some A ∧ (∀ a, VEq a v e → FRep a.natAbs → A = a) ∧ (v = 0 → y = 0)) ∨ (b = false ∧ ∀ a, VEq a v e → ¬ FRep a.natAbs)) ∧ L' = [] ∧ F' = []
theorem l03Round0_spec (u : Value) : Spec Tryz.prog 264 [vDyadic (sgn 0) u 0, .int .i64 53, .int .i64 (-1074)] [] [fList 1 (rInt .i64) u (limbs (0 : Int).natAbs)] (Gives (.float .f64 0)) := by
  rw [show sgn 0 = 0 from rfl]
  refine enter Tryz.func264 Tryz.ntmps264 rfl (by kernel_rfl) zCon rfl fun G => ?_
  refine c_isList (v := u) zMem fun hsu => ?_
  all_goals ((try refine zR2 ?_) <;> (repeat' (with_reducible first | refine And.intro ?_ ?_ | intro _)))
  all_goals (first | (exfalso; omega) | skip)
  (refine e_gives rfl zRes ?_; first | rfl | (simp [retVal, *]; done) | (simp_all [retVal]; done) | (simp only [retVal]))
theorem l03Round64_spec (u : Value) (v e : Int) (hD : IsD (sgn v) e (limbs v.natAbs)) :
    Spec Tryz.prog 217 [vDyadic (sgn v) u e] [] [fList 1 (rInt .i64) u (limbs v.natAbs)] (PR64 v e) := by
  obtain ⟨hn, hl, he⟩ := isD_nrm hD
  refine enter Tryz.func217 Tryz.ntmps217 rfl (by kernel_rfl) zCon rfl fun G => ?_
  refine c_isList (v := u) zMem fun hsu => ?_
  rcases hn with ⟨rfl, rfl⟩ | hv
  · all_goals ((try refine zR2 ?_) <;> (repeat' (with_reducible first | refine And.intro ?_ ?_ | intro _)))
    refine l_callP rfl zEvs rfl (l03Round0_spec u) zFsub ?_
    all_goals ((try refine zR2 ?_) <;> (repeat' (with_reducible first | refine And.intro ?_ ?_ | intro _)))
    refine l_callP rfl zEvs rfl (l01Real_fin 0 0 fv_zero) zFsub ?_
    all_goals ((try refine zR2 ?_) <;> (repeat' (with_reducible first | refine And.intro ?_ ?_ | intro _)))
    exact e_resT rfl zRes .nil fsub_nil ⟨0, true, rfl, by omega, .inl ⟨rfl, 0, fv_zero, fun a h _ => h.zero.symm, fun _ => rfl⟩, rfl, rfl⟩
  · all_goals ((try refine zR2 ?_) <;> (repeat' (with_reducible first | refine And.intro ?_ ?_ | intro _)))
    refine l_call rfl zEvs rfl (l03Round_spec u v e hv hl he) zTake zFsub ?_
    rintro _ L' F' ⟨y, A, rfl, ⟨hy64, hy1, hy2⟩, hex, hz, rfl, rfl⟩
    all_goals ((try refine zR2 ?_) <;> (repeat' (with_reducible first | refine And.intro ?_ ?_ | intro _)))
    by_cases hR : FRep A.natAbs
    · refine l_callP rfl zEvs rfl (l01Real_fin y A (hy1 hR)) zFsub ?_
      all_goals ((try refine zR2 ?_) <;> (repeat' (with_reducible first | refine And.intro ?_ ?_ | intro _)))
      exact e_resT rfl zRes .nil fsub_nil ⟨y, true, rfl, hy64, .inl ⟨rfl, A, hy1 hR, hex, hz⟩, rfl, rfl⟩
    · refine l_callP rfl zEvs rfl (l01Real_inf y (hy2 hR)) zFsub ?_
      all_goals ((try refine zR2 ?_) <;> (repeat' (with_reducible first | refine And.intro ?_ ?_ | intro _)))
      exact e_resT rfl zRes .nil fsub_nil ⟨y, false, rfl, hy64, .inr ⟨rfl, fun a h1 h2 => hR (by rw [hex a h1 h2]; exact h2)⟩, rfl, rfl⟩

/-- The float whose value has a text. -/
def Dbl (t : List UInt8) (x : Nat) : Prop := x < 18446744073709551616 ∧ ∃ v e a, PDy t v e ∧ fv x = some a ∧ VEq a v e ∧ (v = 0 → x = 0)
theorem PDy.uniq {t : List UInt8} {v e w f : Int} (h : PDy t v e) (h' : PDy t w f) : v = w ∧ e = f := by
  obtain ⟨h1, h2⟩ := split_uniq (h.1.symm.trans h'.1) (itoa_no_p v) (itoa_no_p w)
  exact ⟨itoa_inj h1, itoa_inj h2⟩
theorem Dbl.uniq {t : List UInt8} {x y : Nat} (h : Dbl t x) (h' : Dbl t y) : x = y := by
  obtain ⟨hx64, v, e, a, h1, h2, h3, h4⟩ := h
  obtain ⟨hy64, w, f, b, h5, h6, h7, h8⟩ := h'
  obtain ⟨rfl, rfl⟩ := h1.uniq h5
  have hab := h3.uniq h7
  subst hab
  by_cases hv : v = 0
  · rw [h4 hv, h8 hv]
  · refine fv_inj h2 h6 hx64 hy64 fun ha => ?_
    subst ha
    exact hv h3.zero'
theorem PDy.chars {t : List UInt8} {v e : Int} (h : PDy t v e) {c : UInt8} (hc : c ∈ t) : c = 45 ∨ c = 112 ∨ isd c := by
  rw [h.1] at hc
  rcases List.mem_append.1 hc with h | h
  · rcases itoa_chars v h with h | h
    · exact .inl h
    · exact .inr (.inr h)
  · cases h with
    | head => exact .inr (.inl rfl)
    | tail _ h => rcases itoa_chars e h with h | h
                  · exact .inl h
                  · exact .inr (.inr h)
theorem Dbl.chars {t : List UInt8} {x : Nat} (h : Dbl t x) {c : UInt8} (hc : c = 44 ∨ c = 59 ∨ c = 32) : c ∉ t := by
  obtain ⟨_, v, e, a, h1, _⟩ := h
  intro hm
  have h2 := h1.chars hm
  unfold isd at h2
  rcases hc with rfl | rfl | rfl <;> revert h2 <;> decide
def PFB (t : List UInt8) (r : Value) (L' : List Own) (F' : List Fact) : Prop := ∃ x b, r = .tuple #[.float .f64 x, .bool b] ∧ (b = true → Dbl t x) ∧ (b = false → ∀ y, ¬ Dbl t y) ∧ L' = [] ∧ F' = []

/-- Exact numbers that are equal. -/
theorem sum_veq {a v e w f s k : Int} (h : VEq a v e) (hs : SumIs v e (-w) f s k) : s = 0 ↔ VEq a w f := by
  rw [hs.zero]
  constructor
  · intro h0
    have h1 := h0 (e.natAbs + f.natAbs + 1074) (by omega) (by omega)
    have h2 := h.at (e.natAbs + f.natAbs) (e + (e.natAbs + f.natAbs + 1074)).toNat (by omega)
    refine ⟨e.natAbs + f.natAbs, (f + (e.natAbs + f.natAbs + 1074)).toNat, ?_, by omega⟩
    unfold vat at h1
    rw [Int.neg_mul] at h1
    rw [h2]; omega
  · intro h' K h1 h2
    -- both at one scale
    have h3 := h.at (K - 1074).toNat (e + 1074 + (K - 1074).toNat).toNat
    by_cases hK : 1074 ≤ K
    · have h3 := h.at (K - 1074).toNat (e + K).toNat (by omega)
      have h4 := h'.at (K - 1074).toNat (f + K).toNat (by omega)
      unfold vat
      rw [Int.neg_mul, ← h3, ← h4]; omega
    · apply pw_cancel (k := (1074 - K).toNat)
      rw [Int.zero_mul, Int.add_mul]
      unfold vat
      rw [← pw_add, ← pw_add]
      have h3 := h.at 0 ((e + K).toNat + (1074 - K).toNat) (by omega)
      have h4 := h'.at 0 ((f + K).toNat + (1074 - K).toNat) (by omega)
      rw [Int.neg_mul, ← h3, ← h4]; omega
theorem l04ReadFloat_spec (t : List UInt8) (hl : t.length ≤ 2000000) : Spec Tryz.prog 252 [.string ⟨t.toArray⟩] [] [] (PFB t) := by
  refine enter Tryz.func252 Tryz.ntmps252 rfl (by kernel_rfl) zCon rfl fun G => ?_
  all_goals ((try refine zR2 ?_) <;> (repeat' (with_reducible first | refine And.intro ?_ ?_ | intro _)))
  refine l_call rfl zEvs rfl (l03Read_spec t hl) zTake zFsub ?_
  rintro _ L' F' ⟨ok, g, u, e, l, rfl, rfl, rfl, hok, hno⟩
  refine l_isList (.head _) fun hsu => ?_
  cases ok with
  | false =>
    all_goals ((try refine zR2 ?_) <;> (repeat' (with_reducible first | refine And.intro ?_ ?_ | intro _)))
    refine e_resT rfl zRes .nil fsub_nil ⟨0, false, rfl, fun h => (by cases h), fun _ y hy => ?_, rfl, rfl⟩
    obtain ⟨_, v, e, a, h1, _⟩ := hy
    exact hno rfl v e h1
  | true =>
    obtain ⟨v, hP, rfl, rfl⟩ := hok rfl
    clear hok hno
    obtain ⟨hn, hbig, he⟩ := isD_nrm hP.2
    all_goals ((try refine zR2 ?_) <;> (repeat' (with_reducible first | refine And.intro ?_ ?_ | intro _)))
    rename_i b4
    refine l_call rfl zEvs rfl (l03Round64_spec u v e hP.2) zTake zFsub ?_
    rintro _ L' F' ⟨y, b, rfl, hy64, hb, rfl, rfl⟩
    rcases hb with ⟨rfl, A, hA, hex, hz⟩ | ⟨rfl, hnx⟩
    · all_goals ((try refine zR2 ?_) <;> (repeat' (with_reducible first | refine And.intro ?_ ?_ | intro _)))
      have hAb : ∀ w k, VEq A w k → Nrm w k → w.natAbs < 2 ^ 4800 := fun w k h1 h2 => by
        rcases h2 with ⟨rfl, _⟩ | h2
        · decide +kernel
        · exact Nat.lt_of_lt_of_le (h1.bounds (fv_rep hA) h2).1 (Nat.pow_le_pow_right (by omega) (by omega))
      refine c_mid (κ := { b : Bool // (b = true → ¬ VEq A v e) ∧ (b = false → VEq A v e) }) (fun b => [(28, .bool b.1), (6, .float .f64 y)]) (fun _ => [.box b4 [.int .i64 (sgn v), u, .int .i64 e] 48]) (fun _ => []) ?_ ?_
      · refine c_draw ([8], []) [.box b4 [.int .i64 (sgn v), u, .int .i64 e] 48] [0, 1, 2, 3, 5, 4, 6, 7, 8] (by kernel_rfl) (by kernel_rfl) ?_
        all_goals ((try refine zD2 ?_) <;> (repeat' (with_reducible first | refine And.intro ?_ ?_ | intro _)))
        refine l_call rfl zEvs rfl (l03Of_spec y A hy64 hA) zTake zFsub ?_
        rintro _ L' F' ⟨w, k, hV, hN, hw53, hk1, hk2, u2, rfl, rfl, rfl⟩
        refine l_isList (.head _) fun hsu2 => ?_
        all_goals ((try refine zD2 ?_) <;> (repeat' (with_reducible first | refine And.intro ?_ ?_ | intro _)))
        refine l_call rfl zEvs rfl (l03Compare_spec u2 u w k v e (hAb w k hV hN) hbig (by omega) he (by omega)) zTake zFsub ?_
        rintro _ L' F' ⟨s, k2, hS, rfl, rfl, rfl⟩
        have hsv := sum_veq hV hS
        all_goals ((try refine zD2 ?_) <;> (repeat' (with_reducible first | refine And.intro ?_ ?_ | intro _)))
        refine e_out ⟨decide (sgn s ≠ 0), fun h hv => ?_, fun h => ?_⟩ zSub rfl zFsub
        · exact of_decide_eq_true h (sgn_zero.2 (hsv.2 hv))
        · exact hsv.1 (sgn_zero.1 (Decidable.of_not_not (of_decide_eq_false h)))
      · rintro ⟨b, hb1, hb2⟩
        cases b with
        | true =>
          all_goals ((try refine zR2 ?_) <;> (repeat' (with_reducible first | refine And.intro ?_ ?_ | intro _)))
          refine e_resT rfl zRes .nil fsub_nil ⟨0, false, rfl, fun h => (by cases h), fun _ x hx => ?_, rfl, rfl⟩
          obtain ⟨_, w, f, a, h1, h2, h3, _⟩ := hx
          obtain ⟨rfl, rfl⟩ := hP.uniq h1
          have := hex a h3 (fv_rep h2)
          subst this
          exact hb1 rfl h3
        | false =>
          all_goals ((try refine zR2 ?_) <;> (repeat' (with_reducible first | refine And.intro ?_ ?_ | intro _)))
          exact e_resT rfl zRes .nil fsub_nil ⟨y, true, rfl, fun _ => ⟨hy64, v, e, A, hP, hA, hb2 rfl, hz⟩, fun h => (by cases h), rfl, rfl⟩
    · all_goals ((try refine zR2 ?_) <;> (repeat' (with_reducible first | refine And.intro ?_ ?_ | intro _)))
      refine c_mid (κ := Unit) (fun b => [(28, .bool true), (6, .float .f64 y)]) (fun _ => [.box b4 [.int .i64 (sgn v), u, .int .i64 e] 48]) (fun _ => []) ?_ ?_
      · refine c_draw ([8], []) [.box b4 [.int .i64 (sgn v), u, .int .i64 e] 48] [0, 1, 2, 3, 5, 4, 6, 7, 8] (by kernel_rfl) (by kernel_rfl) ?_
        all_goals ((try refine zD2 ?_) <;> (repeat' (with_reducible first | refine And.intro ?_ ?_ | intro _)))
        exact e_out () zSub rfl zFsub
      · intro _
        all_goals ((try refine zR2 ?_) <;> (repeat' (with_reducible first | refine And.intro ?_ ?_ | intro _)))
        refine e_resT rfl zRes .nil fsub_nil ⟨0, false, rfl, fun h => (by cases h), fun _ x hx => ?_, rfl, rfl⟩
        obtain ⟨_, w, f, a, h1, h2, h3, _⟩ := hx
        obtain ⟨rfl, rfl⟩ := hP.uniq h1
        exact hnx a h3 (fv_rep h2)
end Go.Proofs.YtbllgmcpebifhaaGreatDoor.K
