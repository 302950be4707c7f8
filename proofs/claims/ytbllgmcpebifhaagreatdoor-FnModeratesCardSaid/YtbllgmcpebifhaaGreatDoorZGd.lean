/- Large numbers with their sign: products. -/
import Derived.Test.YtbllgmcpebifhaaGreatDoorZGc
namespace Go.Proofs.YtbllgmcpebifhaaGreatDoor.K
open Go Go.RowKit
set_option linter.all false
set_option maxRecDepth 4000
set_option maxHeartbeats 1000000
set_option exponentiation.threshold 8000

/-- The product's digits after i rounds. -/
structure MulO (a b : List Int) (i : Nat) (o : List Int) : Prop where
  len : o.length = a.length + b.length
  inr : InR 4294967296 o
  val : vl 4294967296 o = vl 4294967296 (a.take i) * vl 4294967296 b
  zero : ∀ j, i + b.length ≤ j → j < o.length → o.getD j 0 = 0
/-- .. and after k steps of a round. -/
structure MulI (a b : List Int) (i k : Nat) (c : Int) (o : List Int) : Prop where
  len : o.length = a.length + b.length
  inr : InR 4294967296 o
  carry : 0 ≤ c ∧ c < 4294967296
  val : vl 4294967296 o + 4294967296 ^ (i + k) * c.toNat = vl 4294967296 (a.take i) * vl 4294967296 b + (a.getD i 0).toNat * (4294967296 ^ i * vl 4294967296 (b.take k))
  zero : ∀ j, i + b.length ≤ j → j < o.length → o.getD j 0 = 0

theorem MulO.start {a b o : List Int} {i : Nat} (h : MulO a b i o) : MulI a b i 0 0 o :=
  ⟨h.len, h.inr, by omega, by rw [h.val]; simp [vl], h.zero⟩
theorem prod_bound {x y : Int} (hx : 0 ≤ x ∧ x < 4294967296) (hy : 0 ≤ y ∧ y < 4294967296) : 0 ≤ x * y ∧ x * y ≤ 18446744065119617025 := by
  refine ⟨Int.mul_nonneg hx.1 hy.1, ?_⟩
  have h1 : x * y ≤ 4294967295 * y := Int.mul_le_mul_of_nonneg_right (by omega) hy.1
  omega
theorem MulI.step {a b o : List Int} {i k : Nat} {c t : Int} (h : MulI a b i k c o) (ha : InR 4294967296 a) (hb : InR 4294967296 b) (hi : i < a.length) (hk : k < b.length) (hik : i + k < o.length) (ht : t = c + (a[i] * b[k] + o[i + k])) :
    MulI a b i (k + 1) (t / 4294967296) (o.set (i + k) (t % 4294967296)) := by
  have hx := ha _ (List.getElem_mem hi)
  have hy := hb _ (List.getElem_mem hk)
  have ho := h.inr _ (List.getElem_mem hik)
  have hp := prod_bound hx hy
  have hc := h.carry
  refine ⟨by simp [h.len], h.inr.set _ (by omega), by omega, ?_, fun j hj hl => ?_⟩
  · have h1 := vl_set 4294967296 o (i + k) hik (t % 4294967296)
    have hai : a.getD i 0 = a[i] := by rw [List.getD_eq_getElem?_getD, List.getElem?_eq_getElem hi]; rfl
    have h2 := h.val
    rw [hai] at h2 ⊢
    have htn : t.toNat = c.toNat + a[i].toNat * b[k].toNat + o[i + k].toNat := by
      have e : (a[i] * b[k]).toNat = a[i].toNat * b[k].toNat := by rw [Int.toNat_mul hx.1 hy.1]
      omega
    have e1 : (t % 4294967296).toNat = t.toNat % 4294967296 := by omega
    have e2 : (t / 4294967296).toNat = t.toNat / 4294967296 := by omega
    rw [e1] at h1
    have h3 := mul_step 4294967296 (4294967296 ^ (i + k)) _ _ c.toNat a[i].toNat b[k].toNat o[i + k].toNat t.toNat _ h1 h2 htn
    rw [e2, vl_take_succ _ _ _ hk, show i + (k + 1) = (i + k) + 1 by omega, Nat.pow_succ 4294967296 (i + k), h3, Nat.add_assoc]
    congr 1
    rw [Nat.mul_add, Nat.mul_add, Nat.pow_add]
    congr 1
    ac_rfl
  · rw [List.length_set] at hl
    rw [List.getD_eq_getElem?_getD, List.getElem?_set_ne (by omega), ← List.getD_eq_getElem?_getD]
    exact h.zero j hj hl
theorem MulI.last {a b o : List Int} {i : Nat} {c : Int} (h : MulI a b i b.length c o) (hi : i < a.length) : MulO a b (i + 1) (o.set (i + b.length) c) := by
  have hil : i + b.length < o.length := by rw [h.len]; omega
  refine ⟨by simp [h.len], h.inr.set _ h.carry, ?_, fun j hj hl => ?_⟩
  · have h1 := vl_set 4294967296 o (i + b.length) hil c
    have h0 := h.zero (i + b.length) (Nat.le_refl _) hil
    rw [List.getD_eq_getElem?_getD, List.getElem?_eq_getElem hil] at h0
    have h0 : o[i + b.length] = 0 := h0
    have hai : a.getD i 0 = a[i] := by rw [List.getD_eq_getElem?_getD, List.getElem?_eq_getElem hi]; rfl
    have h2 := h.val
    rw [hai, List.take_length] at h2
    rw [h0] at h1
    simp only [Int.toNat_zero, Nat.mul_zero, Nat.add_zero] at h1
    rw [h1, h2, vl_take_succ _ _ _ hi, Nat.add_mul]
    congr 1
    ac_rfl
  · rw [List.length_set] at hl
    rw [List.getD_eq_getElem?_getD, List.getElem?_set_ne (by omega), ← List.getD_eq_getElem?_getD]
    exact h.zero j (by omega) hl

end Go.Proofs.YtbllgmcpebifhaaGreatDoor.K
