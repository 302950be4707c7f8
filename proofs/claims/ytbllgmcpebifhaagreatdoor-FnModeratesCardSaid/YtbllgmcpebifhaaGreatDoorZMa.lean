/- Plain laws: numbers in limbs, and their decimal texts. -/
import Derived.Test.YtbllgmcpebifhaaGreatDoorZKg
import Derived.Lib.ParseIntBCases
import Derived.Lib.CutLaws
import Derived.Lib.IndexLaws

section
namespace Go.Proofs.YtbllgmcpebifhaaGreatDoor.K
open Go Go.Lib
set_option linter.all false

/-! ### numbers in limbs -/
def vl (b : Nat) : List Int → Nat
  | [] => 0
  | x :: r => x.toNat + b * vl b r

def InR (b : Nat) (l : List Int) : Prop := ∀ x ∈ l, 0 ≤ x ∧ x < (b : Int)
theorem InR.tail {b : Nat} {x : Int} {l : List Int} (h : InR b (x :: l)) : InR b l := fun y hy => h y (.tail _ hy)
theorem InR.head {b : Nat} {x : Int} {l : List Int} (h : InR b (x :: l)) : 0 ≤ x ∧ x < (b : Int) := h x (.head _)
theorem InR.take {b : Nat} {l : List Int} (h : InR b l) (j : Nat) : InR b (l.take j) := fun x hx => h x (List.mem_of_mem_take hx)
theorem InR.drop {b : Nat} {l : List Int} (h : InR b l) (j : Nat) : InR b (l.drop j) := fun x hx => h x (List.mem_of_mem_drop hx)

theorem vl_append (b : Nat) (l r : List Int) : vl b (l ++ r) = vl b l + b ^ l.length * vl b r := by
  induction l with
  | nil => simp [vl]
  | cons x l ih => simp only [List.cons_append, vl, ih, List.length_cons, Nat.pow_succ, Nat.mul_add, Nat.add_assoc]; rw [Nat.mul_comm (b ^ l.length) b, Nat.mul_assoc]
theorem vl_zeros (b : Nat) (l : List Int) (h : ∀ x ∈ l, x = 0) : vl b l = 0 := by
  induction l with
  | nil => rfl
  | cons x l ih =>
    have h1 := h x (.head _)
    rw [vl, ih fun y hy => h y (.tail _ hy), h1]; simp
theorem vl_take (b : Nat) (l : List Int) (j : Nat) (h : ∀ x ∈ l.drop j, x = 0) : vl b (l.take j) = vl b l := by
  conv => rhs; rw [← List.take_append_drop j l]
  rw [vl_append, vl_zeros b _ h]; simp
theorem vl_lt (b : Nat) (l : List Int) (h : InR b l) : vl b l < b ^ l.length := by
  induction l with
  | nil => simp [vl]
  | cons x l ih =>
    have h1 := h.head
    have h2 := ih h.tail
    simp only [vl, List.length_cons, Nat.pow_succ]
    have h3 : x.toNat < b := by omega
    have h4 : b * (vl b l + 1) ≤ b * b ^ l.length := Nat.mul_le_mul_left b h2
    rw [Nat.mul_add, Nat.mul_one] at h4
    rw [Nat.mul_comm (b ^ l.length) b]
    omega
theorem vl_pos (b : Nat) (hb : 0 < b) (l : List Int) (h : InR b l) (hn : 0 < l.length) (h0 : l[l.length - 1] ≠ 0) : 0 < vl b l := by
  have e : l = l.take (l.length - 1) ++ [l[l.length - 1]] := by
    rw [← List.take_succ_eq_append_getElem (by omega), show l.length - 1 + 1 = l.length by omega, List.take_length]
  have hx := h _ (List.getElem_mem (by omega : l.length - 1 < l.length))
  rw [e, vl_append]
  have h1 : 0 < b ^ (l.take (l.length - 1)).length := Nat.pow_pos hb
  have h2 : 0 < vl b [l[l.length - 1]] := by simp only [vl]; omega
  have := Nat.mul_pos h1 h2
  omega

/-! ### division by a small number -/
def divl (b D : Int) : List Int → List Int × Int
  | [] => ([], 0)
  | x :: r => (((divl b D r).2 * b + x) / D :: (divl b D r).1, ((divl b D r).2 * b + x) % D)
/-! ### decimal texts -/
end Go.Proofs.YtbllgmcpebifhaaGreatDoor.K
end

section
/- Plain laws: digits to the base 2^32. -/
namespace Go.Proofs.YtbllgmcpebifhaaGreatDoor.K
open Go Go.Lib
set_option linter.all false

theorem vl_snoc (b : Nat) (P : List Int) (x : Int) : vl b (P ++ [x]) = vl b P + b ^ P.length * x.toNat := by
  rw [vl_append]; simp [vl]
theorem vl_take_succ (b : Nat) (l : List Int) (i : Nat) (hi : i < l.length) : vl b (l.take (i + 1)) = vl b (l.take i) + b ^ i * l[i].toNat := by
  rw [List.take_succ_eq_append_getElem hi, vl_snoc, List.length_take, Nat.min_eq_left (Nat.le_of_lt hi)]
theorem InR.snoc {b : Nat} {P : List Int} {x : Int} (h : InR b P) (hx : 0 ≤ x ∧ x < (b : Int)) : InR b (P ++ [x]) := by
  intro y hy
  rcases List.mem_append.1 hy with h' | h'
  · exact h y h'
  · rw [List.mem_singleton.1 h']; exact hx
end Go.Proofs.YtbllgmcpebifhaaGreatDoor.K
end

section
/- Plain laws: shifts, differences and products of digits; decimal texts read. -/
namespace Go.Proofs.YtbllgmcpebifhaaGreatDoor.K
open Go Go.Lib
set_option linter.all false

/-! ### shifts -/
theorem rsh_step (S T x y W : Nat) (hS : 0 < S) (hx : x < S * T) : ((x + y * (S * T)) / S % (S * T)) + (S * T) * ((y + S * T * W) / S) = (x + S * T * (y + S * T * W)) / S := by
  have e1 : (x + y * (S * T)) / S = x / S + T * y := by
    rw [show y * (S * T) = S * (T * y) by rw [Nat.mul_comm y, Nat.mul_assoc], Nat.add_mul_div_left _ _ hS]
  have e2 : (y + S * T * W) / S = y / S + T * W := by rw [Nat.mul_assoc, Nat.add_mul_div_left _ _ hS]
  have e3 : (x + S * T * (y + S * T * W)) / S = x / S + T * (y + S * T * W) := by rw [Nat.mul_assoc S T (y + _), Nat.add_mul_div_left _ _ hS]
  have e4 : x / S < T := Nat.div_lt_of_lt_mul hx
  have e5 : T * y = S * T * (y / S) + T * (y % S) := by
    conv => lhs; rw [← Nat.div_add_mod y S]
    rw [Nat.mul_add, ← Nat.mul_assoc, Nat.mul_comm T S]
  have e6 : T * (y % S) + T ≤ S * T := by
    have := Nat.mul_le_mul_left T (Nat.mod_lt y hS)
    rw [Nat.mul_succ, Nat.mul_comm T S] at this
    exact this
  have e7 : (x / S + T * y) % (S * T) = x / S + T * (y % S) := by
    rw [e5, show x / S + (S * T * (y / S) + T * (y % S)) = x / S + T * (y % S) + S * T * (y / S) by omega, Nat.add_mul_mod_self_left, Nat.mod_eq_of_lt (by omega)]
  have e8 : T * (y + S * T * W) = S * T * (y / S) + T * (y % S) + S * T * (T * W) := by
    rw [Nat.mul_add, e5, show T * (S * T * W) = S * T * (T * W) by ac_rfl]
  rw [e1, e2, e3, e7, e8, Nat.mul_add]
  omega
theorem vl_head (B : Nat) (l : List Int) : ∃ W, vl B l = (l.headD 0).toNat + B * W := by
  cases l with
  | nil => exact ⟨0, by simp [vl]⟩
  | cons x r => exact ⟨vl B r, by simp [vl]⟩
theorem InR.headD {b : Nat} {l : List Int} (h : InR b l) (hb : 0 < b) : 0 ≤ l.headD 0 ∧ l.headD 0 < (b : Int) := by
  cases l with
  | nil => exact ⟨Int.le_refl _, by simpa using hb⟩
  | cons x r => exact h.head
theorem vl_drop_div (B : Nat) (hB : 0 < B) (l : List Int) (h : InR B l) (k : Nat) : vl B (l.drop k) = vl B l / B ^ k := by
  rcases Nat.lt_or_ge k l.length with hk | hk
  · conv => rhs; rw [← List.take_append_drop k l]
    rw [vl_append, List.length_take, Nat.min_eq_left (by omega)]
    have h1 := vl_lt B _ (h.take k)
    rw [List.length_take, Nat.min_eq_left (by omega)] at h1
    rw [Nat.add_mul_div_left _ _ (Nat.pow_pos hB), Nat.div_eq_of_lt h1, Nat.zero_add]
  · rw [List.drop_eq_nil_of_le hk]
    have h1 := vl_lt B _ h
    rw [Nat.div_eq_of_lt (Nat.lt_of_lt_of_le h1 (Nat.pow_le_pow_right hB hk))]
    rfl

/-! ### differences -/
theorem sub_step (B K p V W x y l t l' : Nat) (h : p + W = V + K * l) (ht : t + y + l = x + B * l') : p + K * t + (W + K * y) = (V + K * x) + K * B * l' := by
  have : K * (t + y + l) = K * (x + B * l') := by rw [ht]
  rw [Nat.mul_add, Nat.mul_add, Nat.mul_add, ← Nat.mul_assoc] at this
  omega

/-! ### products -/
theorem vl_set (B : Nat) : ∀ (l : List Int) (j : Nat) (hj : j < l.length) (y : Int), vl B (l.set j y) + B ^ j * (l[j]).toNat = vl B l + B ^ j * y.toNat
  | [], j, hj, _ => by simp at hj
  | x :: r, 0, _, y => by simp only [List.set_cons_zero, vl, Nat.pow_zero, Nat.one_mul, List.getElem_cons_zero]; omega
  | x :: r, j + 1, hj, y => by
    have ih := vl_set B r j (by simpa using hj) y
    simp only [List.set_cons_succ, vl, List.getElem_cons_succ]
    have h1 : B ^ (j + 1) = B * B ^ j := by rw [Nat.pow_succ, Nat.mul_comm]
    rw [h1, Nat.mul_assoc, Nat.mul_assoc, Nat.add_assoc, ← Nat.mul_add, ih, Nat.mul_add]
    omega
theorem InR.set {b : Nat} {l : List Int} (h : InR b l) (j : Nat) {y : Int} (hy : 0 ≤ y ∧ y < (b : Int)) : InR b (l.set j y) := by
  intro x hx
  rcases List.mem_or_eq_of_mem_set hx with h1 | h1
  · exact h x h1
  · rw [h1]; exact hy
theorem mul_step (B K p q c x y o t R : Nat) (hset : q + K * o = p + K * (t % B)) (h : p + K * c = R) (ht : t = c + x * y + o) : q + K * B * (t / B) = R + K * (x * y) := by
  have h1 := Nat.div_add_mod t B
  have h2 : K * (t % B) + K * (B * (t / B)) = K * c + K * (x * y) + K * o := by
    rw [← Nat.mul_add, Nat.add_comm (t % B), h1, ht, Nat.mul_add, Nat.mul_add]
  rw [Nat.mul_assoc]
  omega

/-! ### decimal texts -/
def isd (c : UInt8) : Prop := 48 ≤ c.toNat ∧ c.toNat ≤ 57
instance (c : UInt8) : Decidable (isd c) := by unfold isd; infer_instance
def dval (l : List UInt8) : Nat := l.foldl (fun a c => 10 * a + (c.toNat - 48)) 0
/-- A decimal numeral: not empty, digits alone, no zero ahead of others. -/
def Numl (l : List UInt8) : Prop := l ≠ [] ∧ (∀ c ∈ l, isd c) ∧ (1 < l.length → ∀ c, l.head? = some c → c.toNat ≠ 48)
end Go.Proofs.YtbllgmcpebifhaaGreatDoor.K
end

section
/- Plain laws: the limbs of a number, how many bits it has. -/
namespace Go.Proofs.YtbllgmcpebifhaaGreatDoor.K
open Go Go.Lib
set_option linter.all false

def limbs (n : Nat) : List Int := if h : n = 0 then [] else ((n % 16777216 : Nat) : Int) :: limbs (n / 16777216)
  termination_by n
  decreasing_by omega
theorem limbs_zero : limbs 0 = [] := by rw [limbs]; simp
theorem limbs_pos {n : Nat} (h : n ≠ 0) : limbs n = ((n % 16777216 : Nat) : Int) :: limbs (n / 16777216) := by
  conv => lhs; rw [limbs]
  rw [dif_neg h]
theorem limbs_val (n : Nat) : vl 16777216 (limbs n) = n := by
  induction n using Nat.strongRecOn with
  | _ n ih =>
    by_cases h : n = 0
    · subst h; rw [limbs_zero]; rfl
    · rw [limbs_pos h, vl, ih (n / 16777216) (by omega)]; omega
theorem limbs_range (n : Nat) : InR 16777216 (limbs n) := by
  induction n using Nat.strongRecOn with
  | _ n ih =>
    by_cases h : n = 0
    · subst h; rw [limbs_zero]; intro x hx; cases hx
    · rw [limbs_pos h]
      intro x hx
      cases hx with
      | head => omega
      | tail _ hx => exact ih (n / 16777216) (by omega) x hx
theorem limbs_nil {n : Nat} : limbs n = [] ↔ n = 0 := by
  constructor
  · intro h
    have := limbs_val n
    rw [h] at this
    exact this.symm
  · intro h; subst h; exact limbs_zero
/-- Without zeros at the end. -/
def Trim (l : List Int) : Prop := l = [] ∨ ∃ h : l.length - 1 < l.length, l[l.length - 1] ≠ 0
theorem Trim.pos {b : Nat} (hb : 0 < b) {l : List Int} (h : Trim l) (hr : InR b l) (hn : 0 < l.length) : 0 < vl b l := by
  rcases h with h | ⟨h1, h2⟩
  · subst h; simp at hn
  · exact vl_pos b hb l hr hn h2
theorem trim_cons {x : Int} {l : List Int} (h : Trim l) (hx : l = [] → x ≠ 0) : Trim (x :: l) := by
  rcases h with rfl | ⟨h1, h2⟩
  · exact .inr ⟨by simp, by simpa using hx rfl⟩
  · refine .inr ⟨by simp, ?_⟩
    obtain ⟨k, hk⟩ : ∃ k, l.length = k + 1 := ⟨l.length - 1, by omega⟩
    simp only [List.length_cons, hk, Nat.add_sub_cancel, List.getElem_cons_succ] at h2 ⊢
    exact h2
theorem limbs_trim (n : Nat) : Trim (limbs n) := by
  induction n using Nat.strongRecOn with
  | _ n ih =>
    by_cases h : n = 0
    · subst h; exact .inl limbs_zero
    · rw [limbs_pos h]
      refine trim_cons (ih (n / 16777216) (by omega)) fun h0 => ?_
      have := limbs_nil.1 h0
      omega
theorem trim_tail {x : Int} {l : List Int} (h : Trim (x :: l)) : Trim l := by
  cases l with
  | nil => exact .inl rfl
  | cons y r =>
    rcases h with h | ⟨h1, h2⟩
    · cases h
    · exact .inr ⟨by simp, by simpa using h2⟩
theorem limbs_uniq : ∀ (l : List Int), InR 16777216 l → Trim l → l = limbs (vl 16777216 l)
  | [], _, _ => by rw [vl, limbs_zero]
  | x :: r, hr, ht => by
    have ih := limbs_uniq r hr.tail (trim_tail ht)
    have hx := hr.head
    have hp := ht.pos (by omega) hr (by simp)
    rw [limbs_pos (by omega)]
    have e1 : vl 16777216 (x :: r) % 16777216 = x.toNat := by rw [vl]; omega
    have e2 : vl 16777216 (x :: r) / 16777216 = vl 16777216 r := by rw [vl]; omega
    rw [e1, e2, ← ih]
    congr 1
    omega
theorem limbs_len_le (k n : Nat) (h : n < 16777216 ^ k) : (limbs n).length ≤ k := by
  induction k generalizing n with
  | zero => rw [show n = 0 by simpa using h, limbs_zero]; simp
  | succ k ih =>
    by_cases h0 : n = 0
    · subst h0; rw [limbs_zero]; simp
    · rw [limbs_pos h0, List.length_cons]
      have := ih (n / 16777216) (by rw [Nat.pow_succ] at h; exact Nat.div_lt_of_lt_mul (by rw [Nat.mul_comm]; exact h))
      omega
theorem limbs_len_gt (k n : Nat) (h : 16777216 ^ k ≤ n) : k < (limbs n).length := by
  rcases Nat.lt_or_ge k (limbs n).length with h1 | h1
  · exact h1
  · have h2 := vl_lt _ _ (limbs_range n)
    rw [limbs_val] at h2
    have h3 : 16777216 ^ (limbs n).length ≤ 16777216 ^ k := Nat.pow_le_pow_right (by omega) h1
    omega

/-! ### bits -/
def blen (x : Nat) : Nat := if x = 0 then 0 else x.log2 + 1
theorem blen_le {x j : Nat} : blen x ≤ j ↔ x < 2 ^ j := by
  unfold blen
  split
  · rename_i h; subst h
    simp [Nat.pow_pos]
  · rename_i h
    rw [← Nat.log2_lt h]; omega
theorem blen_half {x : Nat} (h : x ≠ 0) : blen x = 1 + blen (x / 2) := by
  apply Nat.le_antisymm
  · rw [blen_le]
    have := (blen_le (x := x / 2)).1 (Nat.le_refl _)
    rw [Nat.pow_add]
    omega
  · rcases Nat.lt_or_ge (blen x) (1 + blen (x / 2)) with h1 | h1
    · exfalso
      have h2 : blen x ≠ 0 := by unfold blen; rw [if_neg h]; omega
      obtain ⟨b, hb⟩ : ∃ b, blen x = b + 1 := ⟨blen x - 1, by omega⟩
      have h3 := (blen_le (x := x)).1 (Nat.le_refl _)
      rw [hb, Nat.pow_succ] at h3
      have h4 : blen (x / 2) ≤ b := blen_le.2 (by omega)
      omega
    · exact h1
theorem blen_top (m lo top : Nat) (hlo : lo < 2 ^ m) (ht : 0 < top) : blen (lo + 2 ^ m * top) = m + blen top := by
  have hb := (blen_le (x := top)).1 (Nat.le_refl _)
  apply Nat.le_antisymm
  · rw [blen_le, Nat.pow_add]
    have : 2 ^ m * (top + 1) ≤ 2 ^ m * 2 ^ blen top := Nat.mul_le_mul_left _ hb
    rw [Nat.mul_add] at this
    omega
  · rcases Nat.lt_or_ge (blen (lo + 2 ^ m * top)) (m + blen top) with h1 | h1
    · exfalso
      have h2 : blen top ≠ 0 := by unfold blen; rw [if_neg (by omega)]; omega
      obtain ⟨b, hb'⟩ : ∃ b, blen top = b + 1 := ⟨blen top - 1, by omega⟩
      have h3 : lo + 2 ^ m * top < 2 ^ (m + b) := blen_le.1 (by omega)
      have h4 : ¬ top < 2 ^ b := fun h => by have := blen_le.2 h; omega
      have h5 : 2 ^ m * 2 ^ b ≤ 2 ^ m * top := Nat.mul_le_mul_left _ (by omega)
      rw [Nat.pow_add] at h3
      omega
    · exact h1
end Go.Proofs.YtbllgmcpebifhaaGreatDoor.K
end

section
/- Plain laws: decimal texts of numbers, read back. -/
namespace Go.Proofs.YtbllgmcpebifhaaGreatDoor.K
open Go Go.Lib
set_option linter.all false
set_option exponentiation.threshold 8000

/-- A text, parted into its sign and the rest. -/
def isNeg (t : List UInt8) : Bool := decide (t.head? = some 45)
def body (t : List UInt8) : List UInt8 := if isNeg t then t.tail else t
/-- The value that a text spells, if it does. -/
def tval (t : List UInt8) : Int := if isNeg t then -(dval (body t) : Int) else (dval (body t) : Int)
/-- A text that is a number's. -/
def Spells (t : List UInt8) : Prop := Numl (body t) ∧ (isNeg t = true → dval (body t) ≠ 0)
end Go.Proofs.YtbllgmcpebifhaaGreatDoor.K
end

section
/- Plain laws: a text cut at its first p; small numbers parsed. -/
namespace Go.Proofs.YtbllgmcpebifhaaGreatDoor.K
open Go Go.Lib
set_option linter.all false

end Go.Proofs.YtbllgmcpebifhaaGreatDoor.K
end

section
/- Plain laws: limbs times ten plus a digit. -/
namespace Go.Proofs.YtbllgmcpebifhaaGreatDoor.K
open Go Go.Lib
set_option linter.all false
set_option exponentiation.threshold 8000

def ma : List Int → Int → List Int × Int
  | [], c => ([], c)
  | x :: r, c => ((c + 10 * x) % 16777216 :: (ma r ((c + 10 * x) / 16777216)).1, (ma r ((c + 10 * x) / 16777216)).2)
end Go.Proofs.YtbllgmcpebifhaaGreatDoor.K
end
