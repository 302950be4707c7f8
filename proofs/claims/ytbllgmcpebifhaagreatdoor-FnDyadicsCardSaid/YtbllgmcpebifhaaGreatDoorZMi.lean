/- Plain laws: the values of exact numbers and of doubles. -/
import Derived.Test.YtbllgmcpebifhaaGreatDoorZMh
import Derived.Laws.BitsAllLaws

section
namespace Go.Proofs.YtbllgmcpebifhaaGreatDoor.K
open Ieee
set_option linter.all false
set_option exponentiation.threshold 3000

theorem pw_pos (k : Nat) : (0 : Int) < ((2 ^ k : Nat) : Int) := by exact_mod_cast Nat.pow_pos (by omega)
theorem pw_cancel {a b : Int} {k : Nat} (h : a * (2 ^ k : Nat) = b * (2 ^ k : Nat)) : a = b :=
  Int.eq_of_mul_eq_mul_right (Int.ne_of_gt (pw_pos k)) h
theorem pw_add (a : Int) (j k : Nat) : a * (2 ^ (j + k) : Nat) = a * (2 ^ j : Nat) * (2 ^ k : Nat) := by
  rw [Nat.pow_add, Int.natCast_mul, Int.mul_assoc]

/-- A double's value a, in units of the least one, is v times a power of two. -/
def VEq (a v e : Int) : Prop := ∃ i j : Nat, a * (2 ^ i : Nat) = v * (2 ^ j : Nat) ∧ (j : Int) = e + 1074 + i
theorem VEq.at {a v e : Int} (h : VEq a v e) (i j : Nat) (hj : (j : Int) = e + 1074 + i) : a * (2 ^ i : Nat) = v * (2 ^ j : Nat) := by
  obtain ⟨i0, j0, h1, h2⟩ := h
  apply pw_cancel (k := i0)
  rw [← pw_add, ← pw_add, show i + i0 = i0 + i by omega, pw_add, h1, ← pw_add]
  congr 3
  omega
theorem VEq.uniq {a b v e : Int} (h : VEq a v e) (h' : VEq b v e) : a = b := by
  obtain ⟨i0, j0, h1, h2⟩ := h
  have h3 := h'.at i0 j0 h2
  exact pw_cancel (h1.trans h3.symm)
theorem VEq.zero {a e : Int} (h : VEq a 0 e) : a = 0 := by
  obtain ⟨i0, j0, h1, h2⟩ := h
  rw [Int.zero_mul] at h1
  rcases Int.mul_eq_zero.1 h1 with h | h
  · exact h
  · exact absurd h (Int.ne_of_gt (pw_pos i0))
theorem VEq.of_zero (e : Int) : VEq 0 0 e := ⟨(-(e + 1074)).toNat, (e + 1074).toNat, by simp, by omega⟩
theorem VEq.zero' {v e : Int} (h : VEq 0 v e) : v = 0 := by
  obtain ⟨i0, j0, h1, h2⟩ := h
  rw [Int.zero_mul] at h1
  rcases Int.mul_eq_zero.1 h1.symm with h | h
  · exact h
  · exact absurd h (Int.ne_of_gt (pw_pos j0))
theorem VEq.neg {a v e : Int} (h : VEq a v e) : VEq (-a) (-v) e := by
  obtain ⟨i0, j0, h1, h2⟩ := h
  exact ⟨i0, j0, by rw [Int.neg_mul, Int.neg_mul, h1], h2⟩
/-- Another power. -/
theorem VEq.shift {a v w e : Int} {k : Nat} (h : VEq a v e) (hw : w * (2 ^ k : Nat) = v) : VEq a w (e + k) := by
  obtain ⟨i0, j0, h1, h2⟩ := h
  exact ⟨i0, k + j0, by rw [h1, ← hw, pw_add], by omega⟩
/-- Numbers in their only form. -/
def Nrm (v e : Int) : Prop := (v = 0 ∧ e = 0) ∨ v % 2 = 1
theorem odd_pow {v w : Int} {j k : Nat} (h : v * (2 ^ j : Nat) = w * (2 ^ k : Nat)) (hv : v % 2 = 1) (hw : w % 2 = 1) : v = w ∧ j = k := by
  rcases Nat.lt_trichotomy j k with hl | rfl | hl
  · exfalso
    obtain ⟨d, rfl⟩ : ∃ d, k = d + 1 + j := ⟨k - j - 1, by omega⟩
    rw [pw_add] at h
    have h := pw_cancel h
    rw [pw_add] at h
    generalize w * (2 ^ d : Nat) = y at h
    have : ((2 ^ 1 : Nat) : Int) = 2 := rfl
    rw [this] at h
    omega
  · exact ⟨pw_cancel h, rfl⟩
  · exfalso
    obtain ⟨d, rfl⟩ : ∃ d, j = d + 1 + k := ⟨j - k - 1, by omega⟩
    rw [pw_add] at h
    have h := pw_cancel h
    rw [pw_add] at h
    generalize v * (2 ^ d : Nat) = y at h
    have : ((2 ^ 1 : Nat) : Int) = 2 := rfl
    rw [this] at h
    omega
theorem VEq.form {a v e w f : Int} (h : VEq a v e) (h' : VEq a w f) (hv : Nrm v e) (hw : Nrm w f) : v = w ∧ e = f := by
  rcases hv with ⟨rfl, rfl⟩ | hv
  · have ha := h.zero
    subst ha
    have := h'.zero'
    subst this
    rcases hw with ⟨_, rfl⟩ | hw
    · exact ⟨rfl, rfl⟩
    · exact absurd hw (by decide)
  · rcases hw with ⟨rfl, rfl⟩ | hw
    · have ha := h'.zero
      subst ha
      have := h.zero'
      subst this
      exact absurd hv (by decide)
    · obtain ⟨i, j, h1, h2⟩ := h
      obtain ⟨i', j', h3, h4⟩ := h'
      have h5 : v * (2 ^ (j + i') : Nat) = w * (2 ^ (j' + i) : Nat) := by
        rw [pw_add, pw_add, ← h1, ← h3, ← pw_add, ← pw_add, Nat.add_comm]
      obtain ⟨h6, h7⟩ := odd_pow h5 hv hw
      exact ⟨h6, by omega⟩

theorem frep_lt {N : Nat} (h : FRep N) : N < 2 ^ 2098 := by
  obtain ⟨m, k, rfl, hm, hk⟩ := h
  have h1 : m * 2 ^ k < 2 ^ 53 * 2 ^ k := Nat.mul_lt_mul_of_pos_right hm (Nat.pow_pos (by omega))
  rw [← Nat.pow_add] at h1
  exact Nat.lt_of_lt_of_le h1 (Nat.pow_le_pow_right (by omega) (by omega))
theorem frep_of (m k : Nat) (hm : m ≤ 2 ^ 53) (h : m * 2 ^ k < 2 ^ 2098) : FRep (m * 2 ^ k) := by
  by_cases h0 : m = 0
  · subst h0; exact ⟨0, 0, by simp, by decide, by omega⟩
  by_cases h53 : m = 2 ^ 53
  · subst h53
    refine ⟨2 ^ 52, k + 1, ?_, by decide, ?_⟩
    · rw [← Nat.pow_add, ← Nat.pow_add]; congr 1; omega
    · rw [← Nat.pow_add] at h
      have := (Nat.pow_lt_pow_iff_right (a := 2) (by omega)).1 h
      omega
  · by_cases hk : k ≤ 2045
    · exact ⟨m, k, rfl, by omega, hk⟩
    · refine ⟨m * 2 ^ (k - 2045), 2045, ?_, ?_, by omega⟩
      · rw [Nat.mul_assoc, ← Nat.pow_add]; congr 2; omega
      · have e : m * 2 ^ k = m * 2 ^ (k - 2045) * 2 ^ 2045 := by rw [Nat.mul_assoc, ← Nat.pow_add]; congr 2; omega
        rw [e, show (2 : Nat) ^ 2098 = 2 ^ 53 * 2 ^ 2045 by rw [← Nat.pow_add]] at h
        exact Nat.lt_of_mul_lt_mul_right h
theorem frep_zero : FRep 0 := ⟨0, 0, by simp, by decide, by omega⟩

theorem natAbs_pw (v : Int) (k : Nat) : (v * (2 ^ k : Nat)).natAbs = v.natAbs * 2 ^ k := by rw [Int.natAbs_mul, Int.natAbs_natCast]
/-- What can be said of the form of a double. -/
theorem VEq.bounds {a v e : Int} (h : VEq a v e) (hR : FRep a.natAbs) (hv : v % 2 = 1) : v.natAbs < 2 ^ 53 ∧ -1074 ≤ e ∧ e < 1024 ∧ (v.natAbs : Nat) < 2 ^ (1024 - e).toNat := by
  obtain ⟨i, j, h1, h2⟩ := h
  have hlt := frep_lt hR
  obtain ⟨m, k, hm, h53, hk⟩ := hR
  have h3 := congrArg Int.natAbs h1
  rw [natAbs_pw, natAbs_pw] at h3
  have hv0 : 0 < v.natAbs := by omega
  -- the upper bound
  have h4 : v.natAbs * 2 ^ j < 2 ^ (2098 + i) := by
    rw [← h3, Nat.pow_add]; exact Nat.mul_lt_mul_of_pos_right hlt (Nat.pow_pos (by omega))
  have h5 : j < 2098 + i := by
    have h6 : 1 * 2 ^ j ≤ v.natAbs * 2 ^ j := Nat.mul_le_mul_right _ hv0
    rw [Nat.one_mul] at h6
    exact (Nat.pow_lt_pow_iff_right (a := 2) (by omega)).1 (Nat.lt_of_le_of_lt h6 h4)
  have h7 : v.natAbs < 2 ^ (1024 - e).toNat := by
    rw [show 2098 + i = (1024 - e).toNat + j by omega, Nat.pow_add] at h4
    exact Nat.lt_of_mul_lt_mul_right h4
  -- v divides the mantissa
  rw [hm, Nat.mul_assoc, ← Nat.pow_add] at h3
  have h8 : k + i ≤ j := by
    rcases Nat.lt_or_ge j (k + i) with h | h
    · exfalso
      obtain ⟨d, hd⟩ : ∃ d, k + i = d + 1 + j := ⟨k + i - j - 1, by omega⟩
      rw [hd, Nat.pow_add, ← Nat.mul_assoc] at h3
      have h9 := Nat.eq_of_mul_eq_mul_right (Nat.pow_pos (by omega)) h3
      rw [Nat.pow_succ, ← Nat.mul_assoc] at h9
      omega
    · exact h
  have h9 : m = v.natAbs * 2 ^ (j - (k + i)) := by
    have h11 : m * 2 ^ (k + i) = v.natAbs * 2 ^ (j - (k + i)) * 2 ^ (k + i) := by
      rw [h3, Nat.mul_assoc, ← Nat.pow_add]; congr 2; omega
    exact Nat.eq_of_mul_eq_mul_right (Nat.pow_pos (by omega)) h11
  have h10 : v.natAbs * 1 ≤ v.natAbs * 2 ^ (j - (k + i)) := Nat.mul_le_mul_left _ (Nat.pow_pos (by omega))
  refine ⟨by omega, by omega, by omega, h7⟩
end Go.Proofs.YtbllgmcpebifhaaGreatDoor.K
end

section
/- Plain laws: words of doubles: sizes, opposites, fields. -/
namespace Go.Proofs.YtbllgmcpebifhaaGreatDoor.K
open Ieee
set_option linter.all false
set_option exponentiation.threshold 3000

theorem read_abs {x : Nat} {s : Bool} {m : Nat} {p : Int} (h : double.read x = .number s m p) : double.read (x % 9223372036854775808) = .number false m p := by
  unfold Format.read at h ⊢
  rw [sw, bn, ir, lp] at h ⊢
  have e1 : x % 9223372036854775808 % 9223372036854775808 = x % 9223372036854775808 := Nat.mod_mod _ _
  have e2 : x % 9223372036854775808 / 9223372036854775808 % 2 = 0 := by omega
  dsimp only at h ⊢
  rw [e1, e2]
  split at h
  · rename_i h1
    rw [if_pos h1]
    injection h with _ h2 h3
    rw [h2, h3]; rfl
  · rename_i h1
    rw [if_neg h1]
    split at h
    · rename_i h2
      rw [if_pos h2]
      injection h with _ h3 h4
      rw [h3, h4]; rfl
    · split at h <;> cases h
theorem fv_abs {x : Nat} {a : Int} (h : fv x = some a) : fv (x % 9223372036854775808) = some (a.natAbs : Int) := by
  obtain ⟨s, m, p, hr, rfl, _, _, _⟩ := fv_num h
  unfold fv
  rw [read_abs hr]
  dsimp only
  rw [signed_abs, sg_eq]
  rfl
theorem xor63 (x : Nat) (hx : x < 18446744073709551616) : x ^^^ 9223372036854775808 = if x < 9223372036854775808 then x + 9223372036854775808 else x - 9223372036854775808 := by
  have e : (9223372036854775808 : Nat) = 2 ^ 63 := by decide
  have h1 : (x ^^^ 9223372036854775808) % 9223372036854775808 = x % 9223372036854775808 := by
    rw [e, Nat.xor_mod_two_pow, Nat.mod_self, Nat.xor_zero]
  have h2 : (x ^^^ 9223372036854775808) / 9223372036854775808 = (x / 9223372036854775808) ^^^ 1 := by
    rw [e, Nat.xor_div_two_pow, Nat.div_self (Nat.pow_pos (by omega))]
  have h3 : x / 9223372036854775808 = 0 ∨ x / 9223372036854775808 = 1 := by omega
  rcases h3 with h3 | h3
  · rw [h3, show (0 : Nat) ^^^ 1 = 1 by decide] at h2
    rw [if_pos (by omega)]; omega
  · rw [h3, show (1 : Nat) ^^^ 1 = 0 by decide] at h2
    rw [if_neg (by omega)]; omega
theorem read_neg {x : Nat} (hx : x < 18446744073709551616) {s : Bool} {m : Nat} {p : Int} (h : double.read x = .number s m p) : double.read (x ^^^ 9223372036854775808) = .number (!s) m p := by
  rw [xor63 x hx]
  obtain ⟨y, hy⟩ : ∃ y, y = (if x < 9223372036854775808 then x + 9223372036854775808 else x - 9223372036854775808) := ⟨_, rfl⟩
  rw [← hy]
  have e1 : y % 9223372036854775808 = x % 9223372036854775808 := by rw [hy]; split <;> omega
  have e2 : (y / 9223372036854775808 % 2 == 1) = !(x / 9223372036854775808 % 2 == 1) := by
    rw [hy]
    split
    · rw [show (x + 9223372036854775808) / 9223372036854775808 % 2 = 1 by omega, show x / 9223372036854775808 % 2 = 0 by omega]; rfl
    · rw [show (x - 9223372036854775808) / 9223372036854775808 % 2 = 0 by omega, show x / 9223372036854775808 % 2 = 1 by omega]; rfl
  unfold Format.read at h ⊢
  rw [sw, bn, ir, lp] at h ⊢
  dsimp only at h ⊢
  rw [e1, e2]
  split at h
  · rename_i h1
    rw [if_pos h1]
    injection h with h0 h2 h3
    rw [h0, h2, h3]
  · rename_i h1
    rw [if_neg h1]
    split at h
    · rename_i h2
      rw [if_pos h2]
      injection h with h0 h3 h4
      rw [h0, h3, h4]
    · split at h <;> cases h
theorem fv_neg {x : Nat} {a : Int} (hx : x < 18446744073709551616) (h : fv x = some a) : fv (Op.negFloat .f64 x) = some (-a) := by
  obtain ⟨s, m, p, hr, rfl, _, _, _⟩ := fv_num h
  have e : Op.negFloat .f64 x = x ^^^ 9223372036854775808 := rfl
  rw [e]
  unfold fv
  rw [read_neg hx hr]
  dsimp only
  rw [signed_not]
theorem neg_lt {x : Nat} (hx : x < 18446744073709551616) : Op.negFloat .f64 x < 18446744073709551616 := by
  have e : Op.negFloat .f64 x = x ^^^ 9223372036854775808 := rfl
  rw [e, xor63 x hx]
  split <;> omega
theorem frep_le {N : Nat} (h : FRep N) : N ≤ 9007199254740991 * 2 ^ 2045 := by
  obtain ⟨m, k, rfl, hm, hk⟩ := h
  have e53 : (2 : Nat) ^ 53 = 9007199254740992 := by decide
  rw [e53] at hm
  exact Nat.mul_le_mul (by omega) (Nat.pow_le_pow_right (by omega) hk)
theorem fv_max : fv 9218868437227405311 = some ((9007199254740991 * 2 ^ 2045 : Nat) : Int) := by decide +kernel
theorem fv_tiny : fv 4503599627370496 = some 4503599627370496 := by decide +kernel
theorem fv_p52 : fv 4841369599423283200 = some (4503599627370496 * ((2 ^ 1074 : Nat) : Int)) := by decide +kernel
theorem fv_one : fv 4607182418800017408 = some ((2 ^ 1074 : Nat) : Int) := by decide +kernel
theorem fv_m53 : fv 4368491638549381120 = some ((2 ^ 1021 : Nat) : Int) := by decide +kernel

/-! bits of two parts -/
theorem and_parts (a b c d : Nat) (hb : b < 2 ^ 52) (hd : d < 2 ^ 52) : (2 ^ 52 * a + b) &&& (2 ^ 52 * c + d) = 2 ^ 52 * (a &&& c) + (b &&& d) := by
  apply Nat.eq_of_testBit_eq
  intro i
  have h : b &&& d < 2 ^ 52 := Nat.lt_of_le_of_lt Nat.and_le_left hb
  rw [Nat.testBit_and, Nat.testBit_two_pow_mul_add _ hb, Nat.testBit_two_pow_mul_add _ hd, Nat.testBit_two_pow_mul_add _ h]
  by_cases hi : i < 52
  · simp [hi]
  · simp [hi]
theorem and2048 (s : Bool) (E : Nat) (hE : E < 2048) : (s.toNat * 2048 + E) &&& 2048 = s.toNat * 2048 := by
  have : ∀ s : Bool, ∀ E : _root_.Fin 2048, (s.toNat * 2048 + E.val) &&& 2048 = s.toNat * 2048 := by decide +kernel
  exact this s ⟨E, hE⟩
theorem mkW_cut (s : Bool) (E fr : Nat) (hE : E ≤ 2046) (hf : fr < 4503599627370496) : mkW s E fr &&& (18446744073709551615 - 9218868437227405312) = s.toNat * 9223372036854775808 + fr := by
  have e52 : (2 : Nat) ^ 52 = 4503599627370496 := by decide
  rw [mkW_eq, show (18446744073709551615 - 9218868437227405312 : Nat) = 4503599627370496 * 2048 + 4503599627370495 by decide, ← e52, and_parts _ _ _ _ (by rw [e52]; exact hf) (by decide), and2048 s E (by omega),
    show (4503599627370495 : Nat) = 2 ^ 52 - 1 by decide, Nat.and_two_pow_sub_one_eq_mod, e52]
  omega
theorem abs_cut (x : Nat) : x &&& (18446744073709551615 - 9223372036854775808) = x % 9223372036854775808 := by
  rw [show (18446744073709551615 - 9223372036854775808 : Nat) = 2 ^ 63 - 1 by decide, Nat.and_two_pow_sub_one_eq_mod]
theorem i64_and2047 (s : Bool) (E : Nat) (h : E < 2048) : bits .and .i64 ((s.toNat * 2048 + E : Nat) : Int) 2047 = (E : Int) := by
  have : ∀ s : Bool, ∀ E : _root_.Fin 2048, bits .and .i64 ((s.toNat * 2048 + E.val : Nat) : Int) 2047 = (E.val : Int) := by decide +kernel
  exact this s ⟨E, h⟩
/-- The fields of a number other than 0 that is not too small. -/
theorem mkW_div (s : Bool) (E fr : Nat) (hE : E ≤ 2046) (hf : fr < 4503599627370496) : mkW s E fr / 4503599627370496 = s.toNat * 2048 + E := by
  unfold mkW; cases s <;> simp <;> omega
end Go.Proofs.YtbllgmcpebifhaaGreatDoor.K
end
