/- Plain laws: numbers in limbs, and their decimal texts. -/
import Derived.Test.YtbllgmcpebifhaaDoorKj
namespace Go.Proofs.YtbllgmcpebifhaaDoor.K
open Go Go.Lib
set_option linter.all false

/-! ### numbers in limbs -/
def vl (b : Nat) : List Int → Nat
  | [] => 0
  | x :: r => x.toNat + b * vl b r

def InR (b : Nat) (l : List Int) : Prop := ∀ x ∈ l, 0 ≤ x ∧ x < (b : Int)
theorem InR.tail {b : Nat} {x : Int} {l : List Int} (h : InR b (x :: l)) : InR b l := fun y hy => h y (.tail _ hy)
theorem InR.head {b : Nat} {x : Int} {l : List Int} (h : InR b (x :: l)) : 0 ≤ x ∧ x < (b : Int) := h x (.head _)
theorem InR.take {b : Nat} {l : List Int} (h : InR b l) (j : Nat) : InR b (l.take j) := fun x hx => h x (List.mem_of_mem_take hx)
theorem InR.drop {b : Nat} {l : List Int} (h : InR b l) (j : Nat) : InR b (l.drop j) := fun x hx => h x (List.mem_of_mem_drop hx)

theorem vl_append (b : Nat) (l r : List Int) : vl b (l ++ r) = vl b l + b ^ l.length * vl b r := by
  induction l with
  | nil => simp [vl]
  | cons x l ih => simp only [List.cons_append, vl, ih, List.length_cons, Nat.pow_succ, Nat.mul_add, Nat.add_assoc]; rw [Nat.mul_comm (b ^ l.length) b, Nat.mul_assoc]
theorem vl_zeros (b : Nat) (l : List Int) (h : ∀ x ∈ l, x = 0) : vl b l = 0 := by
  induction l with
  | nil => rfl
  | cons x l ih =>
    have h1 := h x (.head _)
    rw [vl, ih fun y hy => h y (.tail _ hy), h1]; simp
theorem vl_take (b : Nat) (l : List Int) (j : Nat) (h : ∀ x ∈ l.drop j, x = 0) : vl b (l.take j) = vl b l := by
  conv => rhs; rw [← List.take_append_drop j l]
  rw [vl_append, vl_zeros b _ h]; simp
theorem vl_lt (b : Nat) (l : List Int) (h : InR b l) : vl b l < b ^ l.length := by
  induction l with
  | nil => simp [vl]
  | cons x l ih =>
    have h1 := h.head
    have h2 := ih h.tail
    simp only [vl, List.length_cons, Nat.pow_succ]
    have h3 : x.toNat < b := by omega
    have h4 : b * (vl b l + 1) ≤ b * b ^ l.length := Nat.mul_le_mul_left b h2
    rw [Nat.mul_add, Nat.mul_one] at h4
    rw [Nat.mul_comm (b ^ l.length) b]
    omega
theorem vl_pos (b : Nat) (hb : 0 < b) (l : List Int) (h : InR b l) (hn : 0 < l.length) (h0 : l[l.length - 1] ≠ 0) : 0 < vl b l := by
  have e : l = l.take (l.length - 1) ++ [l[l.length - 1]] := by
    rw [← List.take_succ_eq_append_getElem (by omega), show l.length - 1 + 1 = l.length by omega, List.take_length]
  have hx := h _ (List.getElem_mem (by omega : l.length - 1 < l.length))
  rw [e, vl_append]
  have h1 : 0 < b ^ (l.take (l.length - 1)).length := Nat.pow_pos hb
  have h2 : 0 < vl b [l[l.length - 1]] := by simp only [vl]; omega
  have := Nat.mul_pos h1 h2
  omega

/-! ### division by a small number -/
def divl (b D : Int) : List Int → List Int × Int
  | [] => ([], 0)
  | x :: r => (((divl b D r).2 * b + x) / D :: (divl b D r).1, ((divl b D r).2 * b + x) % D)
theorem divl_len (b D : Int) (l : List Int) : (divl b D l).1.length = l.length := by
  induction l with
  | nil => rfl
  | cons x l ih => simp [divl, ih]
theorem divl_rest {b D : Int} (hD : 0 < D) (l : List Int) : 0 ≤ (divl b D l).2 ∧ (divl b D l).2 < D := by
  cases l with
  | nil => exact ⟨Int.le_refl _, hD⟩
  | cons x l => exact ⟨Int.emod_nonneg _ (by omega), Int.emod_lt_of_pos _ hD⟩
theorem divl_own {b : Nat} {D : Int} (hD : 0 < D) {x : Int} {l : List Int} (hx : 0 ≤ x ∧ x < (b : Int)) : 0 ≤ (divl b D l).2 * b + x ∧ (divl b D l).2 * b + x < D * b := by
  obtain ⟨h1, h2⟩ := divl_rest (b := b) hD l
  have h3 : 0 ≤ (divl b D l).2 * (b : Int) := Int.mul_nonneg h1 (by omega)
  have h4 : ((divl b D l).2 + 1) * (b : Int) ≤ D * b := Int.mul_le_mul_of_nonneg_right (by omega) (by omega)
  rw [Int.add_mul, Int.one_mul] at h4
  omega
theorem divl_range {b : Nat} {D : Int} (hD : 0 < D) (l : List Int) (h : InR b l) : InR b (divl b D l).1 := by
  induction l with
  | nil => intro x hx; cases hx
  | cons y l ih =>
    obtain ⟨h1, h2⟩ := divl_own (l := l) hD h.head
    intro x hx
    cases hx with
    | head => exact ⟨Int.ediv_nonneg h1 (by omega), Int.ediv_lt_of_lt_mul hD (by rw [Int.mul_comm (b : Int) D]; exact h2)⟩
    | tail _ hx => exact ih h.tail x hx
theorem divl_val {b : Nat} {D : Int} (hD : 0 < D) (l : List Int) (h : InR b l) : (vl b l : Int) = D * (vl b (divl b D l).1 : Int) + (divl b D l).2 := by
  induction l with
  | nil => simp [vl, divl]
  | cons x l ih =>
    have ih := ih h.tail
    obtain ⟨h1, h2⟩ := divl_own (l := l) hD h.head
    have h0 := h.head
    have h3 : 0 ≤ ((divl b D l).2 * b + x) / D := Int.ediv_nonneg h1 (by omega)
    have h5 := Int.mul_ediv_add_emod ((divl (b : Int) D l).2 * b + x) D
    simp only [vl, divl, Int.natCast_add, Int.natCast_mul, Int.toNat_of_nonneg h3, Int.toNat_of_nonneg h0.1, ih]
    rw [Int.mul_add, Int.mul_add, ← Int.mul_assoc, ← Int.mul_assoc, Int.mul_comm (b : Int) D, Int.mul_comm (b : Int) (divl (b : Int) D l).2]
    omega
theorem divl_step {b D : Int} (l : List Int) (i : Nat) (hi : i < l.length) : ((l.take (i + 1) ++ (divl b D (l.drop (i + 1))).1).set i (((divl b D (l.drop (i + 1))).2 * b + l[i]) / D)) = l.take i ++ (divl b D (l.drop i)).1 := by
  rw [List.drop_eq_getElem_cons hi, divl, List.take_succ_eq_append_getElem hi, List.append_assoc]
  have h2 : (l.take i).length = i := by simp; omega
  rw [List.set_append_right _ _ (by omega), h2, Nat.sub_self]
  rfl
theorem divl_get {b D : Int} (l : List Int) (i : Nat) (hi : i < l.length) : (l.take (i + 1) ++ (divl b D (l.drop (i + 1))).1)[i]? = some l[i] := by
  rw [List.getElem?_append_left (by simp; omega), List.getElem?_take, if_pos (by omega), List.getElem?_eq_getElem hi]

/-! ### decimal texts -/
def dec0 (n : Nat) : List UInt8 := if n = 0 then [] else decDigits n
theorem dec0_step {n : Nat} (h : 0 < n) : dec0 n = dec0 (n / 10) ++ [UInt8.ofNat (48 + n % 10)] := by
  unfold dec0
  rw [if_neg (by omega)]
  by_cases h1 : n < 10
  · rw [decDigits_one h1, if_pos (by omega), Nat.mod_eq_of_lt h1]; rfl
  · rw [if_neg (by omega)]; conv => lhs; rw [decDigits, dif_neg h1]
/-- The last k digits. -/
def padd : Nat → Nat → List UInt8
  | 0, _ => []
  | k + 1, n => padd k (n / 10) ++ [UInt8.ofNat (48 + n % 10)]
theorem dec0_split : ∀ (k n : Nat), 0 < n / 10 ^ k → dec0 n = dec0 (n / 10 ^ k) ++ padd k n
  | 0, n, _ => by simp [padd]
  | k + 1, n, h => by
    have e : n / 10 ^ (k + 1) = n / 10 / 10 ^ k := by rw [Nat.pow_succ, Nat.mul_comm, Nat.div_div_eq_div_mul]
    have hn : 0 < n := by
      rcases Nat.eq_zero_or_pos n with h0 | h0
      · subst h0; simp at h
      · exact h0
    rw [dec0_step hn, dec0_split k (n / 10) (by rw [← e]; exact h), e, padd, List.append_assoc]
theorem padd_mod : ∀ (k n : Nat), padd k (n % 10 ^ k) = padd k n
  | 0, _ => rfl
  | k + 1, n => by
    have e1 : n % 10 ^ (k + 1) / 10 = n / 10 % 10 ^ k := by rw [Nat.pow_succ, Nat.mul_comm, Nat.mod_mul_right_div_self]
    have e2 : n % 10 ^ (k + 1) % 10 = n % 10 := Nat.mod_mod_of_dvd _ ⟨10 ^ k, by rw [Nat.pow_succ, Nat.mul_comm]⟩
    simp only [padd]
    rw [e1, e2, padd_mod k (n / 10)]
theorem padd_zero : ∀ k : Nat, padd k 0 = List.replicate k 48
  | 0 => rfl
  | k + 1 => by rw [padd, Nat.zero_div, padd_zero k, List.replicate_succ']; rfl
theorem padd_length : ∀ (k n : Nat), (padd k n).length = k
  | 0, _ => rfl
  | k + 1, n => by simp [padd, padd_length k]
theorem padd_dec : ∀ (k r : Nat), 0 < k → r < 10 ^ k → padd k r = List.replicate (k - (decDigits r).length) 48 ++ decDigits r
  | 0, _, h, _ => by omega
  | k + 1, r, _, hr => by
    by_cases h1 : r < 10
    · rw [decDigits_one h1, padd, Nat.div_eq_of_lt h1, padd_zero, Nat.mod_eq_of_lt h1]; simp
    · have hk : 0 < k := by
        rcases Nat.eq_zero_or_pos k with h0 | h0
        · subst h0; simp at hr; omega
        · exact h0
      have hr' : r / 10 < 10 ^ k := by rw [Nat.pow_succ] at hr; omega
      rw [padd, padd_dec k (r / 10) hk hr']
      conv => rhs; rw [decDigits, dif_neg h1]
      simp only [List.length_append, List.length_singleton, List.append_assoc]
      rw [show k + 1 - ((decDigits (r / 10)).length + 1) = k - (decDigits (r / 10)).length by omega]
theorem dec_len_le : ∀ (k r : Nat), 0 < k → r < 10 ^ k → (decDigits r).length ≤ k := by
  intro k r h0 hr
  rw [decDigits_length]
  induction k generalizing r with
  | zero => omega
  | succ k ih =>
    by_cases h1 : r < 10
    · rw [nDigits_small h1]; omega
    · rw [nDigits_big h1]
      have hk : 0 < k := by
        rcases Nat.eq_zero_or_pos k with h0 | h0
        · subst h0; simp at hr; omega
        · exact h0
      have := ih (r / 10) hk (by rw [Nat.pow_succ] at hr; omega)
      omega
theorem dec0_len_le (k r : Nat) (h0 : 0 < k) (hr : r < 10 ^ k) : (dec0 r).length ≤ k := by
  unfold dec0
  split
  · simp
  · exact dec_len_le k r h0 hr
/-- One part of seven digits (or of nine). -/
theorem dec0_part {k n : Nat} (hk : 0 < k) (hn : 0 < n) :
    dec0 n = dec0 (n / 10 ^ k) ++ (if n / 10 ^ k = 0 then decDigits (n % 10 ^ k) else List.replicate (k - (decDigits (n % 10 ^ k)).length) 48 ++ decDigits (n % 10 ^ k)) := by
  by_cases h : n / 10 ^ k = 0
  · have hlt : n < 10 ^ k := by
      rcases Nat.lt_or_ge n (10 ^ k) with h1 | h1
      · exact h1
      · have := Nat.div_pos h1 (Nat.pow_pos (by omega)); omega
    rw [if_pos h, h, Nat.mod_eq_of_lt hlt]
    unfold dec0
    rw [if_neg (by omega), if_pos rfl]; rfl
  · rw [if_neg h, ← padd_dec k _ hk (Nat.mod_lt _ (Nat.pow_pos (by omega))), padd_mod]
    exact dec0_split k n (Nat.pos_of_ne_zero h)
end Go.Proofs.YtbllgmcpebifhaaDoor.K
