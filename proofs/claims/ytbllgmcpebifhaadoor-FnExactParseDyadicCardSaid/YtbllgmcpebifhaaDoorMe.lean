/- Plain laws: decimal texts of numbers, read back. -/
import Derived.Test.YtbllgmcpebifhaaDoorMd
namespace Go.Proofs.YtbllgmcpebifhaaDoor.K
open Go Go.Lib
set_option linter.all false
set_option exponentiation.threshold 8000

theorem itoa_eq (v : Int) : itoa v = (if v < 0 then [45] else []) ++ decDigits v.natAbs := by
  unfold itoa
  split
  · rfl
  · rw [show v.toNat = v.natAbs by omega]; rfl
theorem dec_head45 (n : Nat) : (decDigits n).head? ≠ some 45 := by
  intro h
  obtain ⟨c, r, hc⟩ : ∃ c r, decDigits n = c :: r := by
    cases hd : decDigits n with
    | nil => exact absurd hd (dec_ne_nil n)
    | cons c r => exact ⟨c, r, rfl⟩
  rw [hc] at h
  simp only [List.head?_cons, Option.some.injEq] at h
  have := dec_isd n c (by rw [hc]; exact .head _)
  rw [h] at this
  unfold isd at this
  simp at this
/-- A text, parted into its sign and the rest. -/
def isNeg (t : List UInt8) : Bool := decide (t.head? = some 45)
def body (t : List UInt8) : List UInt8 := if isNeg t then t.tail else t
theorem itoa_neg (v : Int) : isNeg (itoa v) = decide (v < 0) := by
  unfold isNeg
  rw [itoa_eq]
  by_cases h : v < 0
  · simp [h]
  · simp [h, dec_head45]
theorem itoa_body (v : Int) : body (itoa v) = decDigits v.natAbs := by
  unfold body
  rw [itoa_neg, itoa_eq]
  by_cases h : v < 0 <;> simp [h]
theorem body_eq (t : List UInt8) : t = (if isNeg t then [45] else []) ++ body t := by
  unfold body isNeg
  cases t with
  | nil => simp
  | cons c r => by_cases h : c = 45 <;> simp [h]
theorem itoa_inj {v w : Int} (h : itoa v = itoa w) : v = w := by
  have h1 := itoa_neg v
  have h2 := itoa_neg w
  have h3 := itoa_body v
  have h4 := itoa_body w
  rw [h] at h1 h3
  have h5 : decDigits v.natAbs = decDigits w.natAbs := by rw [← h3, h4]
  have h6 : v.natAbs = w.natAbs := by rw [← dval_dec v.natAbs, h5, dval_dec]
  rw [h2] at h1
  by_cases hv : v < 0 <;> by_cases hw : w < 0 <;> simp [hv, hw] at h1 <;> omega
/-- The value that a text spells, if it does. -/
def tval (t : List UInt8) : Int := if isNeg t then -(dval (body t) : Int) else (dval (body t) : Int)
theorem tval_itoa (v : Int) : tval (itoa v) = v := by
  unfold tval
  rw [itoa_neg, itoa_body, dval_dec]
  by_cases h : v < 0 <;> simp [h] <;> omega
/-- A text that is a number's. -/
def Spells (t : List UInt8) : Prop := Numl (body t) ∧ (isNeg t = true → dval (body t) ≠ 0)
theorem spells_itoa (v : Int) : Spells (itoa v) := by
  refine ⟨by rw [itoa_body]; exact dec_numl _, fun h => ?_⟩
  rw [itoa_neg] at h
  have := of_decide_eq_true h
  rw [itoa_body, dval_dec]; omega
theorem itoa_tval {t : List UInt8} (h : Spells t) : itoa (tval t) = t := by
  conv => rhs; rw [body_eq t]
  rw [itoa_eq]
  have h2 := dec_dval h.1
  by_cases hn : isNeg t = true
  · have h3 := h.2 hn
    have h4 : tval t < 0 := by unfold tval; rw [if_pos hn]; omega
    have h5 : (tval t).natAbs = dval (body t) := by unfold tval; rw [if_pos hn]; omega
    rw [if_pos h4, if_pos hn, h5, h2]
  · have h4 : ¬ tval t < 0 := by unfold tval; rw [if_neg hn]; omega
    have h5 : (tval t).natAbs = dval (body t) := by unfold tval; rw [if_neg hn]; omega
    rw [if_neg h4, if_neg hn, h5, h2]
theorem spells_iff {t : List UInt8} : Spells t ↔ ∃ v, t = itoa v :=
  ⟨fun h => ⟨tval t, (itoa_tval h).symm⟩, fun ⟨v, h⟩ => h ▸ spells_itoa v⟩
theorem tval_abs (t : List UInt8) : (tval t).natAbs = dval (body t) := by unfold tval; split <;> omega
theorem ten_big : (2 : Nat) ^ 4800 ≤ 10 ^ 1999 := by decide +kernel
theorem ten_small : (10 : Nat) ^ 2000 < 4294967296 ^ 250 := by decide +kernel
/-- A text with more digits than 2000 is none of a small number. -/
theorem long_big {t : List UInt8} (h : Spells t) (hl : 2000 < (body t).length) : ¬ (tval t).natAbs < 2 ^ 4800 := by
  rw [tval_abs]
  have h0 := dval_pos h.1.2.1 h.1.1 (h.1.2.2 (by omega))
  have h1 : (10 : Nat) ^ 1999 ≤ 10 ^ ((body t).length - 1) := Nat.pow_le_pow_right (by omega) (by omega)
  have := ten_big
  omega
end Go.Proofs.YtbllgmcpebifhaaDoor.K
