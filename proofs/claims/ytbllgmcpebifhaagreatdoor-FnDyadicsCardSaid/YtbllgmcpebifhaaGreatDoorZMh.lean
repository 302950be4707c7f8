/- Plain laws: doubles as whole multiples of the least one. -/
import Derived.Test.YtbllgmcpebifhaaGreatDoorZMa
import Derived.Laws.FloatArith
namespace Go.Proofs.YtbllgmcpebifhaaGreatDoor.K
open Ieee
set_option linter.all false
set_option exponentiation.threshold 3000

theorem log2_scale {m : Nat} (hm : m ≠ 0) (a : Nat) : (m * 2 ^ a).log2 = m.log2 + a := by
  have h1 : 2 ^ m.log2 ≤ m := (Nat.le_log2 hm).1 (Nat.le_refl _)
  have h2 : m < 2 ^ (m.log2 + 1) := (Nat.log2_lt hm).1 (Nat.lt_succ_self _)
  have hp : 0 < 2 ^ a := Nat.pow_pos (by omega)
  have hne : m * 2 ^ a ≠ 0 := Nat.mul_ne_zero hm (by omega)
  apply Nat.le_antisymm
  · have : m * 2 ^ a < 2 ^ (m.log2 + a + 1) := by
      rw [show m.log2 + a + 1 = (m.log2 + 1) + a by omega, Nat.pow_add]
      exact Nat.mul_lt_mul_of_pos_right h2 hp
    have := (Nat.log2_lt hne).2 this
    omega
  · refine (Nat.le_log2 hne).2 ?_
    rw [Nat.pow_add]
    exact Nat.mul_le_mul_right _ h1

/-- What a double can be, in units of the least one. -/
def FRep (N : Nat) : Prop := ∃ m k, N = m * 2 ^ k ∧ m < 2 ^ 53 ∧ k ≤ 2045

theorem cut_exact (s : Bool) (n d low : Nat) (hn : n ≠ 0) (h : n = low * 2 ^ d) : Toward.even.cut s n d = low := by
  have hl : low ≠ 0 := by intro h0; subst h0; simp at h; exact hn h
  have hlog : n.log2 = low.log2 + d := by rw [h]; exact log2_scale hl d
  unfold Toward.cut
  have hmin : min d (n.log2 + 2) = d := by omega
  rw [hmin]
  have hp : 0 < 2 ^ d := Nat.pow_pos (by omega)
  have e1 : 1 <<< d = 2 ^ d := by simp [Nat.shiftLeft_eq]
  simp only [e1]
  have e2 : n / 2 ^ d = low := by rw [h]; exact Nat.mul_div_cancel _ hp
  have e3 : n % 2 ^ d = 0 := by rw [h]; exact Nat.mul_mod_left _ _
  rw [e2, e3]
  have e4 : ¬ (2 ^ d < 2 * 0) := by omega
  have e5 : ¬ (2 ^ d = 2 * 0) := by omega
  simp [e4]

theorem lp : double.leastPlace = -1074 := by decide
theorem bn : double.binade = 4503599627370496 := by decide
theorem ir : double.infRung = 9218868437227405312 := by decide
theorem sw : double.signWeight = 9223372036854775808 := by decide

/-- A number that a double can be is written as it is. -/
theorem near_exact (s : Bool) (mag : Nat) (place : Int) (N a b : Nat) (hmag : mag ≠ 0) (hN : mag * 2 ^ a = N * 2 ^ b) (hp : place = (a : Int) - b - 1074) (hR : FRep N) :
    ∃ kept j, double.nearest s mag place = double.word s (j * 4503599627370496 + kept) ∧ kept * 2 ^ j = N ∧ kept < 2 ^ 53 ∧ j ≤ 2045 ∧ (0 < j → 2 ^ 52 ≤ kept) ∧ kept ≠ 0 := by
  have hNe : N ≠ 0 := by
    intro h0; subst h0
    rw [Nat.zero_mul] at hN
    rcases Nat.mul_eq_zero.1 hN with h | h
    · exact hmag h
    · exact absurd h (Nat.pos_iff_ne_zero.1 (Nat.pow_pos (by omega)))
  have hlog : mag.log2 + a = N.log2 + b := by rw [← log2_scale hmag a, ← log2_scale hNe b, hN]
  obtain ⟨m, k, hm, hm53, hk⟩ := hR
  have hm0 : m ≠ 0 := by intro h; subst h; simp at hm; exact hNe hm
  have hlm : m.log2 ≤ 52 := by have := (Nat.log2_lt hm0).2 hm53; omega
  have hlN : N.log2 = m.log2 + k := by rw [hm]; exact log2_scale hm0 k
  obtain ⟨j, hj⟩ : ∃ j, j = N.log2 - 52 := ⟨_, rfl⟩
  have hjk : j ≤ k := by omega
  have hNj : N = (m * 2 ^ (k - j)) * 2 ^ j := by rw [Nat.mul_assoc, ← Nat.pow_add, show k - j + j = k by omega]; exact hm
  obtain ⟨kept, hkept⟩ : ∃ kept, kept = m * 2 ^ (k - j) := ⟨_, rfl⟩
  rw [← hkept] at hNj
  have hkne : kept ≠ 0 := by intro h; rw [h] at hNj; simp at hNj; exact hNe hNj
  have hlk : kept.log2 + j = N.log2 := by rw [hNj]; exact (log2_scale hkne j).symm
  have hk53 : kept < 2 ^ 53 := (Nat.log2_lt hkne).1 (by omega)
  refine ⟨kept, j, ?_, hNj.symm, hk53, by omega, fun h0 => (Nat.le_log2 hkne).1 (by omega), hkne⟩
  unfold Format.nearest
  rw [if_neg hmag]
  have hlast : max (place + (mag.log2 : Int) - (double.fractionBits : Nat)) double.leastPlace = (j : Int) - 1074 := by
    rw [lp, show double.fractionBits = 52 from rfl, hp]
    omega
  simp only [hlast]
  rw [lp, bn, ir]
  have hcut : Toward.even.cut s (mag <<< (place - ((j : Int) - 1074)).toNat) ((j : Int) - 1074 - place).toNat = kept := by
    rcases Nat.le_total (j + b) a with h | h
    · have e1 : (place - ((j : Int) - 1074)).toNat = a - b - j := by omega
      have e2 : ((j : Int) - 1074 - place).toNat = 0 := by omega
      rw [e1, e2, Nat.shiftLeft_eq]
      have hk : mag * 2 ^ (a - b - j) = kept := by
        have : mag * 2 ^ (a - b - j) * 2 ^ (b + j) = kept * 2 ^ (b + j) := by
          rw [Nat.mul_assoc, ← Nat.pow_add, show a - b - j + (b + j) = a by omega, hN, hNj, Nat.mul_assoc, ← Nat.pow_add, Nat.add_comm j b]
        exact Nat.eq_of_mul_eq_mul_right (Nat.pow_pos (by omega)) this
      refine cut_exact s _ 0 kept ?_ ?_
      · rw [hk]; exact hkne
      · rw [hk]; simp
    · have e1 : (place - ((j : Int) - 1074)).toNat = 0 := by omega
      have e2 : ((j : Int) - 1074 - place).toNat = j + b - a := by omega
      rw [e1, e2, Nat.shiftLeft_zero]
      refine cut_exact s _ _ kept hmag ?_
      have : mag * 2 ^ a = kept * 2 ^ (j + b - a) * 2 ^ a := by
        rw [hN, hNj, Nat.mul_assoc, Nat.mul_assoc, ← Nat.pow_add, ← Nat.pow_add, show j + b - a + a = j + b by omega]
      exact Nat.eq_of_mul_eq_mul_right (Nat.pow_pos (by omega)) this
  rw [hcut]
  have e3 : ((j : Int) - 1074 - -1074).toNat = j := by omega
  rw [e3]
  have : j * 4503599627370496 + kept ≤ 9218868437227405312 := by omega
  rw [Nat.min_eq_left this]

/-- A finite double's value, in units of the least one. -/
def fv (x : Nat) : Option Int := match double.read x with
  | .number s m p => some (signed s m (p + 1074).toNat)
  | _ => none
/-- A word's number. -/
theorem read_word (s : Bool) (kept j : Nat) (hk : kept < 2 ^ 53) (hj : j ≤ 2045) (h : 0 < j → 2 ^ 52 ≤ kept) :
    double.read (double.word s (j * 4503599627370496 + kept)) = .number s kept ((j : Int) - 1074) := by
  have h53 : (2 : Nat) ^ 53 = 9007199254740992 := by decide
  have h52 : (2 : Nat) ^ 52 = 4503599627370496 := by decide
  rw [h53] at hk
  rw [h52] at h
  obtain ⟨rung, hr⟩ : ∃ rung, rung = j * 4503599627370496 + kept := ⟨_, rfl⟩
  have hlt : rung < 9218868437227405312 := by omega
  rw [← hr]
  unfold Format.read Format.word
  rw [sw, bn, ir, lp]
  have e1 : (if s = true then 9223372036854775808 + rung else rung) / 9223372036854775808 % 2 = s.toNat := by cases s <;> simp <;> omega
  have e2 : (if s = true then 9223372036854775808 + rung else rung) % 9223372036854775808 = rung := by cases s <;> simp <;> omega
  simp only [e1, e2]
  have e3 : (s.toNat == 1) = s := by cases s <;> rfl
  rw [e3]
  by_cases hj0 : j = 0
  · subst hj0
    by_cases hlt2 : rung < 4503599627370496
    · rw [if_pos hlt2]
      rw [show kept = rung by omega]; rfl
    · rw [if_neg hlt2, if_pos hlt]
      have e4 : 4503599627370496 + rung % 4503599627370496 = kept := by omega
      have e5 : rung / 4503599627370496 - 1 = 0 := by omega
      rw [e4, e5]; rfl
  · have := h (by omega)
    rw [if_neg (by omega), if_pos hlt]
    have e4 : 4503599627370496 + rung % 4503599627370496 = kept := by omega
    have e5 : rung / 4503599627370496 - 1 = j := by omega
    rw [e4, e5]
    congr 1
theorem read_word_num {s : Bool} {kept j N : Nat} (hk : kept < 2 ^ 53) (hj : j ≤ 2045) (h : 0 < j → 2 ^ 52 ≤ kept) (hN : kept * 2 ^ j = N) :
    fv (double.word s (j * 4503599627370496 + kept)) = some (if s then -(N : Int) else N) := by
  unfold fv
  rw [read_word s kept j hk hj h]
  dsimp only
  rw [show ((j : Int) - 1074 + 1074).toNat = j by omega]
  unfold signed
  rw [Nat.shiftLeft_eq, hN]
/-- Writing a number that a double can be. -/
theorem write_num (s : Bool) (mag : Nat) (place : Int) (N a b : Nat) (hN : mag * 2 ^ a = N * 2 ^ b) (hp : place = (a : Int) - b - 1074) (hR : FRep N) :
    fv (double.write (.number s mag place)) = some (if s then -(N : Int) else N) := by
  unfold Format.write
  dsimp only
  by_cases hmag : mag = 0
  · subst hmag
    have hN0 : N = 0 := by
      rw [Nat.zero_mul] at hN
      rcases Nat.mul_eq_zero.1 hN.symm with h | h
      · exact h
      · exact absurd h (Nat.pos_iff_ne_zero.1 (Nat.pow_pos (by omega)))
    subst hN0
    unfold Format.nearest
    rw [if_pos rfl]
    have := read_word_num (s := s) (kept := 0) (j := 0) (N := 0) (by decide) (by omega) (by omega) rfl
    simpa using this
  · obtain ⟨kept, j, h1, h2, h3, h4, h5, _⟩ := near_exact s mag place N a b hmag hN hp hR
    rw [h1]
    exact read_word_num h3 h4 h5 h2
theorem fv_num {x : Nat} {v : Int} (h : fv x = some v) : ∃ s m p, double.read x = .number s m p ∧ v = signed s m (p + 1074).toNat ∧ -1074 ≤ p ∧ m < 2 ^ 53 ∧ p ≤ 971 := by
  unfold fv at h
  generalize hr : double.read x = d at h
  cases d with
  | number s m p =>
    injection h with h
    refine ⟨s, m, p, rfl, h.symm, ?_⟩
    unfold Format.read at hr
    rw [sw, bn, ir, lp] at hr
    have h53 : (2 : Nat) ^ 53 = 9007199254740992 := by decide
    rw [h53]
    dsimp only at hr
    split at hr
    · injection hr with h1 h2 h3
      refine ⟨by omega, by omega, by omega⟩
    · split at hr
      · injection hr with h1 h2 h3
        refine ⟨by omega, by omega, by omega⟩
      · split at hr <;> cases hr
  | infinity s => cases h
  | nan s f => cases h
theorem signed_abs (s : Bool) (m k : Nat) : (signed s m k).natAbs = m * 2 ^ k := by
  unfold signed
  rw [Nat.shiftLeft_eq]
  cases s
  · exact Int.natAbs_natCast _
  · rw [if_pos rfl, Int.natAbs_neg]; exact Int.natAbs_natCast _
theorem fv_rep {x : Nat} {v : Int} (h : fv x = some v) : FRep v.natAbs := by
  obtain ⟨s, m, p, _, rfl, h1, h2, h3⟩ := fv_num h
  rw [signed_abs]
  exact ⟨m, _, rfl, h2, by omega⟩
theorem signed_scale (s : Bool) (m j k : Nat) : signed s m (j + k) = signed s m j * (2 ^ k : Nat) := by
  unfold signed
  rw [Nat.shiftLeft_eq, Nat.shiftLeft_eq, Nat.pow_add]
  cases s
  · simp [Int.mul_assoc]
  · simp [Int.neg_mul, Int.mul_assoc]
theorem if_sign (t : Int) (b : Bool) : (if (if t = 0 then b else decide (t < 0)) = true then -(t.natAbs : Int) else (t.natAbs : Int)) = t := by
  by_cases h : t = 0
  · subst h; cases b <;> simp
  · rw [if_neg h]
    by_cases h2 : t < 0
    · simp [h2]; omega
    · simp [h2]; omega
theorem add_exact {x y : Nat} {a b : Int} (hx : fv x = some a) (hy : fv y = some b) (hR : FRep (a + b).natAbs) : ∃ r, double.add x y = some r ∧ fv r = some (a + b) := by
  obtain ⟨s, m, i, hrx, rfl, hi, _, _⟩ := fv_num hx
  obtain ⟨t, n, j, hry, rfl, hj, _, _⟩ := fv_num hy
  unfold Format.add
  rw [hrx, hry]
  refine ⟨_, rfl, ?_⟩
  obtain ⟨tot, htot⟩ : ∃ tot, tot = signed s m (i - min i j).toNat + signed t n (j - min i j).toNat := ⟨_, rfl⟩
  have hsum : signed s m (i + 1074).toNat + signed t n (j + 1074).toNat = tot * (2 ^ (min i j + 1074).toNat : Nat) := by
    rw [htot, Int.add_mul, ← signed_scale, ← signed_scale]
    congr 2 <;> congr 1 <;> omega
  rw [← htot, hsum]
  rw [hsum] at hR
  have hab : (tot * (2 ^ (min i j + 1074).toNat : Nat)).natAbs = tot.natAbs * 2 ^ (min i j + 1074).toNat := by rw [Int.natAbs_mul, Int.natAbs_natCast]
  rw [hab] at hR
  rw [write_num _ tot.natAbs (min i j) _ (min i j + 1074).toNat 0 (by rw [Nat.pow_zero, Nat.mul_one]) (by omega) hR]
  have hs := if_sign tot (s && t)
  have e : (if tot = 0 then s && t else decide (tot < 0)) = (if tot = 0 then s && t else decide (tot < 0)) := rfl
  congr 1
  by_cases h : (if tot = 0 then s && t else decide (tot < 0)) = true
  · rw [if_pos h] at hs ⊢
    rw [← hs]; simp [Int.neg_mul]
  · rw [if_neg h] at hs ⊢
    rw [← hs]; simp

theorem order_exact {x y : Nat} {a b : Int} (hx : fv x = some a) (hy : fv y = some b) : double.order x y = some (compare a b) := by
  obtain ⟨s, m, i, hrx, rfl, hi, _, _⟩ := fv_num hx
  obtain ⟨t, n, j, hry, rfl, hj, _, _⟩ := fv_num hy
  unfold Format.order
  rw [hrx, hry]
  show some (compare (signed s m (i - min i j).toNat) (signed t n (j - min i j).toNat)) = _
  congr 1
  have e1 : signed s m (i + 1074).toNat = signed s m (i - min i j).toNat * (2 ^ (min i j + 1074).toNat : Nat) := by rw [← signed_scale]; congr 1; omega
  have e2 : signed t n (j + 1074).toNat = signed t n (j - min i j).toNat * (2 ^ (min i j + 1074).toNat : Nat) := by rw [← signed_scale]; congr 1; omega
  rw [e1, e2]
  generalize signed s m (i - min i j).toNat = u
  generalize signed t n (j - min i j).toNat = v
  have hp : 0 < 2 ^ (min i j + 1074).toNat := Nat.pow_pos (by omega)
  generalize 2 ^ (min i j + 1074).toNat = w at hp
  have hw : (0 : Int) < (w : Int) := by omega
  simp only [compare, compareOfLessAndEq]
  have h1 : u * (w : Int) < v * w ↔ u < v := ⟨fun h => Int.lt_of_mul_lt_mul_right h (Int.le_of_lt hw), fun h => Int.mul_lt_mul_of_pos_right h hw⟩
  have h2 : u * (w : Int) = v * w ↔ u = v := ⟨fun h => Int.eq_of_mul_eq_mul_right (by omega) h, fun h => by rw [h]⟩
  simp only [h1, h2]
theorem signed_not (s : Bool) (m k : Nat) : signed (!s) m k = - signed s m k := by
  unfold signed
  cases s <;> simp
theorem sub_exact {x y : Nat} {a b : Int} (hx : fv x = some a) (hy : fv y = some b) (hR : FRep (a - b).natAbs) : ∃ r, double.sub x y = some r ∧ fv r = some (a - b) := by
  obtain ⟨s, m, i, hrx, rfl, hi, _, _⟩ := fv_num hx
  obtain ⟨t, n, j, hry, rfl, hj, _, _⟩ := fv_num hy
  unfold Format.sub
  rw [hrx, hry]
  refine ⟨_, rfl, ?_⟩
  obtain ⟨tot, htot⟩ : ∃ tot, tot = signed s m (i - min i j).toNat + signed (!t) n (j - min i j).toNat := ⟨_, rfl⟩
  have hsum : signed s m (i + 1074).toNat - signed t n (j + 1074).toNat = tot * (2 ^ (min i j + 1074).toNat : Nat) := by
    rw [Int.sub_eq_add_neg, ← signed_not, htot, Int.add_mul, ← signed_scale, ← signed_scale]
    congr 2 <;> congr 1 <;> omega
  rw [← htot, hsum]
  rw [hsum] at hR
  have hab : (tot * (2 ^ (min i j + 1074).toNat : Nat)).natAbs = tot.natAbs * 2 ^ (min i j + 1074).toNat := by rw [Int.natAbs_mul, Int.natAbs_natCast]
  rw [hab] at hR
  rw [write_num _ tot.natAbs (min i j) _ (min i j + 1074).toNat 0 (by rw [Nat.pow_zero, Nat.mul_one]) (by omega) hR]
  have hs := if_sign tot (s && !t)
  congr 1
  by_cases h : (if tot = 0 then s && !t else decide (tot < 0)) = true
  · rw [if_pos h] at hs ⊢
    rw [← hs]; simp [Int.neg_mul]
  · rw [if_neg h] at hs ⊢
    rw [← hs]; simp
/-- Products: in units the product of a and b is c times 2^1074. -/
theorem mul_exact {x y : Nat} {a b c : Int} (hx : fv x = some a) (hy : fv y = some b) (hc : a * b = c * (2 ^ 1074 : Nat)) (hR : FRep c.natAbs) : ∃ r, double.mul x y = some r ∧ fv r = some c := by
  obtain ⟨s, m, i, hrx, rfl, hi, _, _⟩ := fv_num hx
  obtain ⟨t, n, j, hry, rfl, hj, _, _⟩ := fv_num hy
  unfold Format.mul
  rw [hrx, hry]
  refine ⟨_, rfl, ?_⟩
  have hN : m * n * 2 ^ ((i + 1074).toNat + (j + 1074).toNat) = c.natAbs * 2 ^ 1074 := by
    have := congrArg Int.natAbs hc
    rw [Int.natAbs_mul, signed_abs, signed_abs, Int.natAbs_mul, Int.natAbs_natCast] at this
    rw [← this, Nat.pow_add]
    simp only [Nat.mul_assoc, Nat.mul_left_comm]
  have hw := write_num (s ^^ t) (m * n) (i + j) c.natAbs ((i + 1074).toNat + (j + 1074).toNat) 1074 hN (by omega) hR
  show fv (double.write (.number (s ^^ t) (m * n) (i + j))) = _
  rw [hw]
  congr 1
  have hsg : ∀ (s : Bool) (m k : Nat), signed s m k = if s then -((m * 2 ^ k : Nat) : Int) else ((m * 2 ^ k : Nat) : Int) := fun s m k => by unfold signed; rw [Nat.shiftLeft_eq]
  rw [hsg, hsg] at hc
  have hp : (0 : Int) < ((2 ^ 1074 : Nat) : Int) := by exact_mod_cast Nat.pow_pos (by omega)
  generalize m * 2 ^ (i + 1074).toNat = A at hc
  generalize n * 2 ^ (j + 1074).toNat = B at hc
  have hAB : (0 : Int) ≤ (A : Int) * B := Int.mul_nonneg (by omega) (by omega)
  generalize ((2 ^ 1074 : Nat) : Int) = W at hc hp
  cases s <;> cases t <;> simp [Int.neg_mul, Int.mul_neg] at hc ⊢
  · have : 0 ≤ c := Int.nonneg_of_mul_nonneg_left (by rw [← hc]; exact hAB) hp
    omega
  · have : 0 ≤ -c := Int.nonneg_of_mul_nonneg_left (by rw [Int.neg_mul, ← hc, Int.neg_neg]; exact hAB) hp
    omega
  · have : 0 ≤ -c := Int.nonneg_of_mul_nonneg_left (by rw [Int.neg_mul, ← hc, Int.neg_neg]; exact hAB) hp
    omega
  · have : 0 ≤ c := Int.nonneg_of_mul_nonneg_left (by rw [← hc]; exact hAB) hp
    omega

theorem two_read : double.read 4611686018427387904 = .number false 4503599627370496 (-51) := by decide +kernel
theorem sg_eq (s : Bool) (m k : Nat) : signed s m k = if s then -((m * 2 ^ k : Nat) : Int) else ((m * 2 ^ k : Nat) : Int) := by unfold signed; rw [Nat.shiftLeft_eq]
/-- Half of a number, where it is one. -/
theorem half_exact {x : Nat} {a c : Int} (hx : fv x = some a) (hc : a = 2 * c) (hR : FRep c.natAbs) : ∃ r, double.div x 4611686018427387904 = some r ∧ fv r = some c := by
  obtain ⟨s, m, i, hrx, rfl, hi, hm53, _⟩ := fv_num hx
  unfold Format.div
  rw [hrx, two_read]
  have hl52 : (4503599627370496 : Nat).log2 = 52 := by decide +kernel
  have hml : m.log2 ≤ 52 := by
    by_cases h0 : m = 0
    · subst h0; decide
    · have := (Nat.log2_lt h0).2 hm53; omega
  obtain ⟨more, hmore⟩ : ∃ more, more = double.fractionBits + 2 + (4503599627370496 : Nat).log2 - m.log2 := ⟨_, rfl⟩
  have hm54 : 54 ≤ more := by rw [hmore, hl52, show double.fractionBits = 52 from rfl]; omega
  have hdiv : m <<< more = (m * 2 ^ (more - 52)) * 4503599627370496 := by
    rw [Nat.shiftLeft_eq, Nat.mul_assoc, show (4503599627370496 : Nat) = 2 ^ 52 by decide, ← Nat.pow_add]; congr 2; omega
  refine ⟨_, by
    show ((Datum.quotient (double.fractionBits + 2) _ _).map double.write) = _
    unfold Datum.quotient
    dsimp only
    rw [if_neg (by decide), ← hmore, hdiv, Nat.mul_div_cancel _ (by omega), Nat.mul_mod_left]
    rfl, ?_⟩
  have hN : (2 * (m * 2 ^ (more - 52)) + (0 != 0).toNat) * 2 ^ (i + 1074).toNat = c.natAbs * 2 ^ (more - 50) := by
    have := congrArg Int.natAbs hc
    rw [signed_abs, Int.natAbs_mul] at this
    have h2 : m * 2 ^ (i + 1074).toNat = 2 * c.natAbs := this
    have e0 : (2 * (m * 2 ^ (more - 52)) + (0 != 0).toNat) = 2 * (m * 2 ^ (more - 52)) := by simp
    rw [e0, show 2 * (m * 2 ^ (more - 52)) * 2 ^ (i + 1074).toNat = 2 * 2 ^ (more - 52) * (m * 2 ^ (i + 1074).toNat) by simp only [Nat.mul_assoc, Nat.mul_left_comm], h2]
    rw [show more - 50 = (more - 52) + 2 by omega, Nat.pow_add]
    generalize 2 ^ (more - 52) = w
    rw [show (2 : Nat) ^ 2 = 2 * 2 by decide]
    simp only [Nat.mul_comm, Nat.mul_left_comm]
  have hw := write_num (s ^^ false) _ (i - -51 - more - 1) c.natAbs _ _ hN (by omega) hR
  rw [hw]
  congr 1
  rw [sg_eq] at hc
  generalize m * 2 ^ (i + 1074).toNat = A at hc
  clear hN hw hR
  cases s <;> simp at hc ⊢ <;> omega
/-- A whole number as a float. -/
theorem ofInt_exact (n : Int) (h : n.natAbs < 2 ^ 53) : fv (double.write (.number (decide (n < 0)) n.natAbs 0)) = some (n * (2 ^ 1074 : Nat)) := by
  rw [write_num _ n.natAbs 0 (n.natAbs * 2 ^ 1074) 1074 0 (by rw [Nat.pow_zero, Nat.mul_one]) (by omega) ⟨n.natAbs, 1074, rfl, h, by omega⟩]
  congr 1
  rw [Int.natCast_mul]
  by_cases h0 : n < 0
  · rw [if_pos (decide_eq_true h0), show ((n.natAbs : Nat) : Int) = -n by omega, Int.neg_mul, Int.neg_neg]
  · rw [if_neg (by simp [h0]), show ((n.natAbs : Nat) : Int) = n by omega]
theorem cut_zero (s : Bool) (n d : Nat) : Toward.zero.cut s n d = n / 2 ^ d := by
  unfold Toward.cut
  simp only [Nat.shiftLeft_eq, Nat.one_mul, Bool.toNat_false, Nat.add_zero]
  rcases Nat.le_total d (n.log2 + 2) with h | h
  · rw [Nat.min_eq_left h]
  · rw [Nat.min_eq_right h]
    by_cases h0 : n = 0
    · subst h0; simp
    · have h1 : n < 2 ^ (n.log2 + 2) := (Nat.log2_lt h0).1 (by omega)
      have h2 : n < 2 ^ d := Nat.lt_of_lt_of_le h1 (Nat.pow_le_pow_right (by omega) h)
      rw [Nat.div_eq_of_lt h1, Nat.div_eq_of_lt h2]
/-- A float cut to a whole number. -/
theorem toInt_exact {x : Nat} {a : Int} (hx : fv x = some a) : (double.read x).toInt .zero = some (if a < 0 then -((a.natAbs / 2 ^ 1074 : Nat) : Int) else ((a.natAbs / 2 ^ 1074 : Nat) : Int)) := by
  obtain ⟨s, m, i, hrx, rfl, hi, _, _⟩ := fv_num hx
  rw [hrx]
  unfold Datum.toInt Datum.integral
  dsimp only
  rw [cut_zero, signed_abs, sg_eq, sg_eq, Nat.pow_zero, Nat.mul_one]
  have e : m <<< i.toNat / 2 ^ (-i).toNat = m * 2 ^ (i + 1074).toNat / 2 ^ 1074 := by
    rw [Nat.shiftLeft_eq]
    by_cases h : 0 ≤ i
    · rw [show (-i).toNat = 0 by omega, Nat.pow_zero, Nat.div_one, show (i + 1074).toNat = i.toNat + 1074 by omega, Nat.pow_add, ← Nat.mul_assoc, Nat.mul_div_cancel _ (Nat.pow_pos (by omega))]
    · rw [show i.toNat = 0 by omega, Nat.pow_zero, Nat.mul_one]
      have : (2 : Nat) ^ 1074 = 2 ^ (-i).toNat * 2 ^ (i + 1074).toNat := by rw [← Nat.pow_add]; congr 1; omega
      rw [this, Nat.mul_div_mul_right _ _ (Nat.pow_pos (by omega))]
  rw [e]
  generalize m * 2 ^ (i + 1074).toNat = A
  generalize hq : A / 2 ^ 1074 = q
  cases s
  · simp; omega
  · by_cases h0 : A = 0
    · subst h0; simp at hq ⊢; omega
    · simp; omega
/-! infinities -/
def isInf (x : Nat) : Prop := ∃ s, double.read x = .infinity s
theorem read_inf (s : Bool) : double.read (double.word s double.infRung) = .infinity s := by cases s <;> decide +kernel
theorem fin_sub {x : Nat} {a : Int} (h : fv x = some a) : ∃ r, double.sub x x = some r ∧ fv r = some 0 := by
  have := sub_exact h h (by rw [Int.sub_self]; exact ⟨0, 0, rfl, by decide, by omega⟩)
  rwa [Int.sub_self] at this
theorem inf_mul {x y : Nat} {b : Int} (h : isInf x) (hy : fv y = some b) (hb : b ≠ 0) : ∃ r, double.mul x y = some r ∧ isInf r := by
  obtain ⟨s, h⟩ := h
  obtain ⟨t, n, j, hry, rfl, hj, _, _⟩ := fv_num hy
  have hn : n ≠ 0 := by intro h0; subst h0; apply hb; unfold signed; simp
  unfold Format.mul
  rw [h, hry]
  refine ⟨_, by
    unfold Datum.product
    dsimp only
    rw [if_neg hn]
    rfl, _, read_inf _⟩

/-! words by fields -/
/-- The word of a sign, an exponent field and a fraction field. -/
def mkW (s : Bool) (E fr : Nat) : Nat := s.toNat * 9223372036854775808 + E * 4503599627370496 + fr
theorem fv_mkW (s : Bool) (E fr : Nat) (hE : 1 ≤ E ∧ E ≤ 2046) (hf : fr < 4503599627370496) : fv (mkW s E fr) = some (signed s (4503599627370496 + fr) (E - 1)) := by
  have h53 : (2 : Nat) ^ 53 = 9007199254740992 := by decide
  have h52 : (2 : Nat) ^ 52 = 4503599627370496 := by decide
  have := read_word_num (s := s) (kept := 4503599627370496 + fr) (j := E - 1) (N := (4503599627370496 + fr) * 2 ^ (E - 1)) (by omega) (by omega) (by omega) rfl
  rw [sg_eq, ← this]
  congr 1
  unfold mkW Format.word
  rw [sw]
  cases s <;> simp <;> omega
/-- A word that is no number too small: its fields. -/
theorem fv_fields {x : Nat} {a : Int} (hx : fv x = some a) (h64 : x < 2 ^ 64) (ha : 2 ^ 52 ≤ a.natAbs) : ∃ s E fr, x = mkW s E fr ∧ 1 ≤ E ∧ E ≤ 2046 ∧ fr < 4503599627370496 ∧ a = signed s (4503599627370496 + fr) (E - 1) := by
  obtain ⟨s, m, p, hr, rfl, _, _, _⟩ := fv_num hx
  have e64 : (2 : Nat) ^ 64 = 18446744073709551616 := by decide
  have e52 : (2 : Nat) ^ 52 = 4503599627370496 := by decide
  rw [e64] at h64
  rw [e52, signed_abs] at ha
  unfold Format.read at hr
  rw [sw, bn, ir, lp] at hr
  dsimp only at hr
  have hs : ∀ b : Bool, (x / 9223372036854775808 % 2 == 1) = b → x / 9223372036854775808 = b.toNat := by
    intro b hb
    have : x / 9223372036854775808 < 2 := by omega
    have h01 : x / 9223372036854775808 = 0 ∨ x / 9223372036854775808 = 1 := by omega
    rcases h01 with h | h <;> rw [h] at hb ⊢ <;> subst hb <;> rfl
  split at hr
  · injection hr with h1 h2 h3
    exfalso
    subst h3
    rw [show ((-1074 : Int) + 1074).toNat = 0 by decide, Nat.pow_zero] at ha
    omega
  · split at hr
    · injection hr with h1 h2 h3
      have h1 := hs s h1
      refine ⟨s, x % 9223372036854775808 / 4503599627370496, x % 9223372036854775808 % 4503599627370496, ?_, by omega, by omega, by omega, ?_⟩
      · unfold mkW; omega
      · rw [h2]; congr 1; omega
    · split at hr <;> cases hr
theorem mkW_lt (s : Bool) (E fr : Nat) (hE : E ≤ 2046) (hf : fr < 4503599627370496) : mkW s E fr < 2 ^ 64 := by
  have e64 : (2 : Nat) ^ 64 = 18446744073709551616 := by decide
  unfold mkW
  cases s <;> simp <;> omega
theorem or52 (fr k : Nat) (hf : fr < 4503599627370496) : 4503599627370496 * k ||| fr = 4503599627370496 * k + fr := by
  have e : (2 : Nat) ^ 52 = 4503599627370496 := by decide
  have := Nat.two_pow_add_eq_or_of_lt (i := 52) (b := fr) (by rw [e]; exact hf) k
  rw [e] at this
  exact this.symm
theorem or11 (E : Nat) (b : Bool) (hE : E ≤ 2046) : (b.toNat * 2048) ||| E = b.toNat * 2048 + E := by
  have := Nat.two_pow_add_eq_or_of_lt (i := 11) (b := E) (by omega) b.toNat
  rw [show (2 : Nat) ^ 11 = 2048 by decide, Nat.mul_comm] at this
  exact this.symm
theorem mkW_eq (s : Bool) (E fr : Nat) : mkW s E fr = 4503599627370496 * (s.toNat * 2048 + E) + fr := by unfold mkW; omega
theorem mkW_eq0 (s : Bool) (fr : Nat) : s.toNat * 9223372036854775808 + fr = 4503599627370496 * (s.toNat * 2048) + fr := by omega
theorem mkW_set (s : Bool) (E fr : Nat) (hE : E ≤ 2046) (hf : fr < 4503599627370496) : (s.toNat * 9223372036854775808 + fr) ||| (E * 4503599627370496) = mkW s E fr := by
  rw [mkW_eq0, mkW_eq, ← or52 fr _ hf, ← or52 fr _ hf, Nat.mul_comm E, ← or11 E s hE]
  have e52 : (4503599627370496 : Nat) = 2 ^ 52 := by decide
  rw [e52]
  apply Nat.eq_of_testBit_eq
  intro i
  simp only [Nat.testBit_or, Nat.mul_comm (2 ^ 52), Nat.testBit_mul_two_pow]
  by_cases h : 52 ≤ i
  · simp only [h, decide_true, Bool.true_and]; cases (s.toNat * 2048).testBit (i - 52) <;> cases E.testBit (i - 52) <;> cases fr.testBit i <;> rfl
  · simp only [h, decide_false, Bool.false_and, Bool.or_false, Bool.false_or]
/-! one word for a number -/
theorem fv_canon {x : Nat} {a : Int} (hx : fv x = some a) (h64 : x < 2 ^ 64) : ∃ s kept j, x = double.word s (j * 4503599627370496 + kept) ∧ kept < 9007199254740992 ∧ (0 < j → 4503599627370496 ≤ kept) ∧ a = signed s kept j := by
  obtain ⟨s, m, p, hr, rfl, _, _, _⟩ := fv_num hx
  have e64 : (2 : Nat) ^ 64 = 18446744073709551616 := by decide
  rw [e64] at h64
  unfold Format.read at hr
  rw [sw, bn, ir, lp] at hr
  dsimp only at hr
  have hs : ∀ b : Bool, (x / 9223372036854775808 % 2 == 1) = b → x / 9223372036854775808 = b.toNat := by
    intro b hb
    have h01 : x / 9223372036854775808 = 0 ∨ x / 9223372036854775808 = 1 := by omega
    rcases h01 with h | h <;> rw [h] at hb ⊢ <;> subst hb <;> rfl
  have hw : ∀ rung, x % 9223372036854775808 = rung → ∀ b : Bool, x / 9223372036854775808 = b.toNat → x = double.word b rung := by
    intro rung h1 b h2
    unfold Format.word
    rw [sw]
    cases b <;> simp at h2 ⊢ <;> omega
  split at hr
  · injection hr with h1 h2 h3
    refine ⟨s, m, 0, hw _ (by omega) s (hs s h1), by omega, by omega, ?_⟩
    rw [← h3]; rfl
  · split at hr
    · injection hr with h1 h2 h3
      refine ⟨s, m, (p + 1074).toNat, hw _ (by omega) s (hs s h1), by omega, by omega, rfl⟩
    · split at hr <;> cases hr
theorem canon_uniq {k1 j1 k2 j2 : Nat} (h : k1 * 2 ^ j1 = k2 * 2 ^ j2) (h0 : k1 * 2 ^ j1 ≠ 0) (h1 : k1 < 9007199254740992) (h2 : k2 < 9007199254740992) (h3 : 0 < j1 → 4503599627370496 ≤ k1) (h4 : 0 < j2 → 4503599627370496 ≤ k2) : k1 = k2 ∧ j1 = j2 := by
  have hk1 : k1 ≠ 0 := by intro e; rw [e, Nat.zero_mul] at h0; exact h0 rfl
  have hk2 : k2 ≠ 0 := by intro e; rw [h, e, Nat.zero_mul] at h0; exact h0 rfl
  have e52 : (2 : Nat) ^ 52 = 4503599627370496 := by decide
  have e53 : (2 : Nat) ^ 53 = 9007199254740992 := by decide
  have l1 := log2_scale hk1 j1
  have l2 := log2_scale hk2 j2
  rw [h] at l1
  have a1 : k1.log2 < 53 := (Nat.log2_lt hk1).2 (by rw [e53]; exact h1)
  have a2 : k2.log2 < 53 := (Nat.log2_lt hk2).2 (by rw [e53]; exact h2)
  have b1 : 0 < j1 → 52 ≤ k1.log2 := fun hj => (Nat.le_log2 hk1).2 (by rw [e52]; exact h3 hj)
  have b2 : 0 < j2 → 52 ≤ k2.log2 := fun hj => (Nat.le_log2 hk2).2 (by rw [e52]; exact h4 hj)
  have hj : j1 = j2 := by omega
  subst hj
  exact ⟨Nat.eq_of_mul_eq_mul_right (Nat.pow_pos (by omega)) h, rfl⟩
theorem fv_inj {x y : Nat} {a : Int} (hx : fv x = some a) (hy : fv y = some a) (hx64 : x < 2 ^ 64) (hy64 : y < 2 ^ 64) (ha : a ≠ 0) : x = y := by
  obtain ⟨s, k1, j1, rfl, h1, h2, h3⟩ := fv_canon hx hx64
  obtain ⟨t, k2, j2, rfl, h4, h5, h6⟩ := fv_canon hy hy64
  have e1 : k1 * 2 ^ j1 = a.natAbs := by rw [h3, signed_abs]
  have e2 : k2 * 2 ^ j2 = a.natAbs := by rw [h6, signed_abs]
  obtain ⟨rfl, rfl⟩ := canon_uniq (e1.trans e2.symm) (by rw [e1]; omega) h1 h4 h2 h5
  have : s = t := by
    have h7 := h3.symm.trans h6
    rw [sg_eq, sg_eq] at h7
    generalize k1 * 2 ^ j1 = A at h7 e1
    cases s <;> cases t <;> simp at h7 ⊢ <;> omega
  rw [this]
/-! too great -/
theorem near_inf (s : Bool) (mag : Nat) (place : Int) (hmag : mag ≠ 0) (h : 1024 ≤ place + (mag.log2 : Int)) : double.nearest s mag place = double.word s double.infRung := by
  unfold Format.nearest
  rw [if_neg hmag]
  have hlast : max (place + (mag.log2 : Int) - (double.fractionBits : Nat)) double.leastPlace = place + (mag.log2 : Int) - 52 := by
    rw [lp, show double.fractionBits = 52 from rfl]; omega
  simp only [hlast]
  rw [lp, bn, ir]
  have e52 : (2 : Nat) ^ 52 = 4503599627370496 := by decide
  have hcut : 4503599627370496 ≤ Toward.even.cut s (mag <<< (place - (place + (mag.log2 : Int) - 52)).toNat) (place + (mag.log2 : Int) - 52 - place).toNat := by
    have hc : ∀ n d, n / (1 <<< min d (n.log2 + 2)) ≤ Toward.even.cut s n d := fun n d => by unfold Toward.cut; exact Nat.le_add_right _ _
    refine Nat.le_trans ?_ (hc _ _)
    rcases Nat.le_total mag.log2 52 with h5 | h5
    · rw [show (place - (place + (mag.log2 : Int) - 52)).toNat = 52 - mag.log2 by omega, show (place + (mag.log2 : Int) - 52 - place).toNat = 0 by omega, Nat.zero_min]
      rw [Nat.shiftLeft_eq, Nat.shiftLeft_eq, Nat.pow_zero, Nat.mul_one, Nat.div_one, ← e52]
      have : (2 : Nat) ^ 52 = 2 ^ mag.log2 * 2 ^ (52 - mag.log2) := by rw [← Nat.pow_add]; congr 1; omega
      rw [this]
      exact Nat.mul_le_mul_right _ ((Nat.le_log2 hmag).1 (Nat.le_refl _))
    · rw [show (place - (place + (mag.log2 : Int) - 52)).toNat = 0 by omega, show (place + (mag.log2 : Int) - 52 - place).toNat = mag.log2 - 52 by omega, Nat.shiftLeft_zero, Nat.min_eq_left (by omega)]
      rw [Nat.shiftLeft_eq, Nat.one_mul, ← e52, Nat.le_div_iff_mul_le (Nat.pow_pos (by omega)), ← Nat.pow_add]
      exact (Nat.le_log2 hmag).1 (by omega)
  generalize Toward.even.cut s (mag <<< (place - (place + (mag.log2 : Int) - 52)).toNat) (place + (mag.log2 : Int) - 52 - place).toNat = kept at hcut
  have : 9218868437227405312 ≤ (place + (mag.log2 : Int) - 52 - -1074).toNat * 4503599627370496 + kept := by omega
  rw [Nat.min_eq_right this]
theorem two_fv : fv 4611686018427387904 = some ((2 : Int) * (2 ^ 1074 : Nat)) := by
  unfold fv
  rw [two_read]
  rfl
/-- Doubling: the double, or an infinity. -/
theorem dbl_step {x : Nat} {a : Int} (hx : fv x = some a) : ∃ r, double.mul x 4611686018427387904 = some r ∧ (FRep (2 * a).natAbs → fv r = some (2 * a)) ∧ (¬ FRep (2 * a).natAbs → isInf r) := by
  by_cases hR : FRep (2 * a).natAbs
  · obtain ⟨r, h1, h2⟩ := mul_exact hx two_fv (c := 2 * a) (by rw [← Int.mul_assoc, Int.mul_comm a 2]) hR
    exact ⟨r, h1, fun _ => h2, fun h => absurd hR h⟩
  · obtain ⟨s, m, i, hrx, rfl, hi, hm53, _⟩ := fv_num hx
    rw [Int.natAbs_mul, signed_abs] at hR
    have hm0 : m ≠ 0 := by
      intro h0; subst h0
      exact hR ⟨0, 0, by simp, by decide, by omega⟩
    have e53 : (2 : Nat) ^ 53 = 9007199254740992 := by decide
    have hbig : 52 ≤ m.log2 ∧ 971 ≤ i := by
      refine ⟨?_, ?_⟩
      · rcases Nat.lt_or_ge m.log2 52 with h | h
        · exfalso
          have h52 : m < 2 ^ 52 := (Nat.log2_lt hm0).1 h
          refine hR ⟨2 * m, (i + 1074).toNat, by show 2 * (m * _) = _; rw [Nat.mul_assoc], ?_, by omega⟩
          have e52 : (2 : Nat) ^ 52 = 4503599627370496 := by decide
          omega
        · exact h
      · rcases Int.lt_or_le i 971 with h | h
        · exfalso
          refine hR ⟨m, (i + 1074).toNat + 1, by show 2 * (m * _) = _; rw [Nat.pow_succ]; simp only [Nat.mul_comm, Nat.mul_left_comm], hm53, by omega⟩
        · exact h
    refine ⟨_, by
      unfold Format.mul
      rw [hrx, two_read]
      rfl, fun h => ?_, fun _ => ?_⟩
    · exfalso; apply hR; rw [Int.natAbs_mul, signed_abs] at h; exact h
    · show isInf (double.nearest _ _ _)
      have hl : (m * 4503599627370496).log2 = m.log2 + 52 := by
        rw [show (4503599627370496 : Nat) = 2 ^ 52 by decide]; exact log2_scale hm0 52
      rw [near_inf _ _ _ (by omega) (by rw [hl]; omega)]
      exact ⟨_, read_inf _⟩
end Go.Proofs.YtbllgmcpebifhaaGreatDoor.K
