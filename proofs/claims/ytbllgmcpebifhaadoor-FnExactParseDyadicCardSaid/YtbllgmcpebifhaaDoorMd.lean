/- Plain laws: the limbs of a number, how many bits it has. -/
import Derived.Test.YtbllgmcpebifhaaDoorMc
namespace Go.Proofs.YtbllgmcpebifhaaDoor.K
open Go Go.Lib
set_option linter.all false

def limbs (n : Nat) : List Int := if h : n = 0 then [] else ((n % 16777216 : Nat) : Int) :: limbs (n / 16777216)
termination_by n
decreasing_by omega
theorem limbs_zero : limbs 0 = [] := by rw [limbs]; simp
theorem limbs_pos {n : Nat} (h : n ≠ 0) : limbs n = ((n % 16777216 : Nat) : Int) :: limbs (n / 16777216) := by
  conv => lhs; rw [limbs]
  rw [dif_neg h]
theorem limbs_val (n : Nat) : vl 16777216 (limbs n) = n := by
  induction n using Nat.strongRecOn with
  | _ n ih =>
    by_cases h : n = 0
    · subst h; rw [limbs_zero]; rfl
    · rw [limbs_pos h, vl, ih (n / 16777216) (by omega)]; omega
theorem limbs_range (n : Nat) : InR 16777216 (limbs n) := by
  induction n using Nat.strongRecOn with
  | _ n ih =>
    by_cases h : n = 0
    · subst h; rw [limbs_zero]; intro x hx; cases hx
    · rw [limbs_pos h]
      intro x hx
      cases hx with
      | head => omega
      | tail _ hx => exact ih (n / 16777216) (by omega) x hx
theorem limbs_nil {n : Nat} : limbs n = [] ↔ n = 0 := by
  constructor
  · intro h
    have := limbs_val n
    rw [h] at this
    exact this.symm
  · intro h; subst h; exact limbs_zero
/-- Without zeros at the end. -/
def Trim (l : List Int) : Prop := l = [] ∨ ∃ h : l.length - 1 < l.length, l[l.length - 1] ≠ 0
theorem Trim.pos {b : Nat} (hb : 0 < b) {l : List Int} (h : Trim l) (hr : InR b l) (hn : 0 < l.length) : 0 < vl b l := by
  rcases h with h | ⟨h1, h2⟩
  · subst h; simp at hn
  · exact vl_pos b hb l hr hn h2
theorem trim_cons {x : Int} {l : List Int} (h : Trim l) (hx : l = [] → x ≠ 0) : Trim (x :: l) := by
  rcases h with rfl | ⟨h1, h2⟩
  · exact .inr ⟨by simp, by simpa using hx rfl⟩
  · refine .inr ⟨by simp, ?_⟩
    obtain ⟨k, hk⟩ : ∃ k, l.length = k + 1 := ⟨l.length - 1, by omega⟩
    simp only [List.length_cons, hk, Nat.add_sub_cancel, List.getElem_cons_succ] at h2 ⊢
    exact h2
theorem limbs_trim (n : Nat) : Trim (limbs n) := by
  induction n using Nat.strongRecOn with
  | _ n ih =>
    by_cases h : n = 0
    · subst h; exact .inl limbs_zero
    · rw [limbs_pos h]
      refine trim_cons (ih (n / 16777216) (by omega)) fun h0 => ?_
      have := limbs_nil.1 h0
      omega
theorem trim_tail {x : Int} {l : List Int} (h : Trim (x :: l)) : Trim l := by
  cases l with
  | nil => exact .inl rfl
  | cons y r =>
    rcases h with h | ⟨h1, h2⟩
    · cases h
    · exact .inr ⟨by simp, by simpa using h2⟩
theorem limbs_uniq : ∀ (l : List Int), InR 16777216 l → Trim l → l = limbs (vl 16777216 l)
  | [], _, _ => by rw [vl, limbs_zero]
  | x :: r, hr, ht => by
    have ih := limbs_uniq r hr.tail (trim_tail ht)
    have hx := hr.head
    have hp := ht.pos (by omega) hr (by simp)
    rw [limbs_pos (by omega)]
    have e1 : vl 16777216 (x :: r) % 16777216 = x.toNat := by rw [vl]; omega
    have e2 : vl 16777216 (x :: r) / 16777216 = vl 16777216 r := by rw [vl]; omega
    rw [e1, e2, ← ih]
    congr 1
    omega
theorem limbs_len_le (k n : Nat) (h : n < 16777216 ^ k) : (limbs n).length ≤ k := by
  induction k generalizing n with
  | zero => rw [show n = 0 by simpa using h, limbs_zero]; simp
  | succ k ih =>
    by_cases h0 : n = 0
    · subst h0; rw [limbs_zero]; simp
    · rw [limbs_pos h0, List.length_cons]
      have := ih (n / 16777216) (by rw [Nat.pow_succ] at h; exact Nat.div_lt_of_lt_mul (by rw [Nat.mul_comm]; exact h))
      omega
theorem limbs_len_gt (k n : Nat) (h : 16777216 ^ k ≤ n) : k < (limbs n).length := by
  rcases Nat.lt_or_ge k (limbs n).length with h1 | h1
  · exact h1
  · have h2 := vl_lt _ _ (limbs_range n)
    rw [limbs_val] at h2
    have h3 : 16777216 ^ (limbs n).length ≤ 16777216 ^ k := Nat.pow_le_pow_right (by omega) h1
    omega

/-! ### bits -/
def blen (x : Nat) : Nat := if x = 0 then 0 else x.log2 + 1
theorem blen_le {x j : Nat} : blen x ≤ j ↔ x < 2 ^ j := by
  unfold blen
  split
  · rename_i h; subst h
    simp [Nat.pow_pos]
  · rename_i h
    rw [← Nat.log2_lt h]; omega
theorem blen_half {x : Nat} (h : x ≠ 0) : blen x = 1 + blen (x / 2) := by
  apply Nat.le_antisymm
  · rw [blen_le]
    have := (blen_le (x := x / 2)).1 (Nat.le_refl _)
    rw [Nat.pow_add]
    omega
  · rcases Nat.lt_or_ge (blen x) (1 + blen (x / 2)) with h1 | h1
    · exfalso
      have h2 : blen x ≠ 0 := by unfold blen; rw [if_neg h]; omega
      obtain ⟨b, hb⟩ : ∃ b, blen x = b + 1 := ⟨blen x - 1, by omega⟩
      have h3 := (blen_le (x := x)).1 (Nat.le_refl _)
      rw [hb, Nat.pow_succ] at h3
      have h4 : blen (x / 2) ≤ b := blen_le.2 (by omega)
      omega
    · exact h1
theorem bitLen_eq (x : Nat) (h : x < 2 ^ 64) : Lib.bitLen x = blen x := by
  induction x using Nat.strongRecOn with
  | _ x ih =>
    by_cases h0 : x = 0
    · subst h0; rfl
    · rw [bitLen_half x h0 h, blen_half h0, ih (x / 2) (by omega) (by omega)]
theorem blen_top (m lo top : Nat) (hlo : lo < 2 ^ m) (ht : 0 < top) : blen (lo + 2 ^ m * top) = m + blen top := by
  have hb := (blen_le (x := top)).1 (Nat.le_refl _)
  apply Nat.le_antisymm
  · rw [blen_le, Nat.pow_add]
    have : 2 ^ m * (top + 1) ≤ 2 ^ m * 2 ^ blen top := Nat.mul_le_mul_left _ hb
    rw [Nat.mul_add] at this
    omega
  · rcases Nat.lt_or_ge (blen (lo + 2 ^ m * top)) (m + blen top) with h1 | h1
    · exfalso
      have h2 : blen top ≠ 0 := by unfold blen; rw [if_neg (by omega)]; omega
      obtain ⟨b, hb'⟩ : ∃ b, blen top = b + 1 := ⟨blen top - 1, by omega⟩
      have h3 : lo + 2 ^ m * top < 2 ^ (m + b) := blen_le.1 (by omega)
      have h4 : ¬ top < 2 ^ b := fun h => by have := blen_le.2 h; omega
      have h5 : 2 ^ m * 2 ^ b ≤ 2 ^ m * top := Nat.mul_le_mul_left _ (by omega)
      rw [Nat.pow_add] at h3
      omega
    · exact h1
end Go.Proofs.YtbllgmcpebifhaaDoor.K
