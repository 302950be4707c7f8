/- Plain laws: numbers in limbs, and their decimal texts. -/
import Derived.Test.YtbllgmcpebifhaaGreatDoorZKg
import Derived.Lib.ParseIntBCases
import Derived.Lib.CutLaws
import Derived.Lib.IndexLaws

section
namespace Go.Proofs.YtbllgmcpebifhaaGreatDoor.K
open Go Go.Lib
set_option linter.all false

/-! ### numbers in limbs -/
def vl (b : Nat) : List Int → Nat
  | [] => 0
  | x :: r => x.toNat + b * vl b r

def InR (b : Nat) (l : List Int) : Prop := ∀ x ∈ l, 0 ≤ x ∧ x < (b : Int)
theorem InR.tail {b : Nat} {x : Int} {l : List Int} (h : InR b (x :: l)) : InR b l := fun y hy => h y (.tail _ hy)
theorem InR.head {b : Nat} {x : Int} {l : List Int} (h : InR b (x :: l)) : 0 ≤ x ∧ x < (b : Int) := h x (.head _)
theorem InR.take {b : Nat} {l : List Int} (h : InR b l) (j : Nat) : InR b (l.take j) := fun x hx => h x (List.mem_of_mem_take hx)
theorem InR.drop {b : Nat} {l : List Int} (h : InR b l) (j : Nat) : InR b (l.drop j) := fun x hx => h x (List.mem_of_mem_drop hx)

theorem vl_append (b : Nat) (l r : List Int) : vl b (l ++ r) = vl b l + b ^ l.length * vl b r := by
  induction l with
  | nil => simp [vl]
  | cons x l ih => simp only [List.cons_append, vl, ih, List.length_cons, Nat.pow_succ, Nat.mul_add, Nat.add_assoc]; rw [Nat.mul_comm (b ^ l.length) b, Nat.mul_assoc]
theorem vl_zeros (b : Nat) (l : List Int) (h : ∀ x ∈ l, x = 0) : vl b l = 0 := by
  induction l with
  | nil => rfl
  | cons x l ih =>
    have h1 := h x (.head _)
    rw [vl, ih fun y hy => h y (.tail _ hy), h1]; simp
theorem vl_take (b : Nat) (l : List Int) (j : Nat) (h : ∀ x ∈ l.drop j, x = 0) : vl b (l.take j) = vl b l := by
  conv => rhs; rw [← List.take_append_drop j l]
  rw [vl_append, vl_zeros b _ h]; simp
theorem vl_lt (b : Nat) (l : List Int) (h : InR b l) : vl b l < b ^ l.length := by
  induction l with
  | nil => simp [vl]
  | cons x l ih =>
    have h1 := h.head
    have h2 := ih h.tail
    simp only [vl, List.length_cons, Nat.pow_succ]
    have h3 : x.toNat < b := by omega
    have h4 : b * (vl b l + 1) ≤ b * b ^ l.length := Nat.mul_le_mul_left b h2
    rw [Nat.mul_add, Nat.mul_one] at h4
    rw [Nat.mul_comm (b ^ l.length) b]
    omega
theorem vl_pos (b : Nat) (hb : 0 < b) (l : List Int) (h : InR b l) (hn : 0 < l.length) (h0 : l[l.length - 1] ≠ 0) : 0 < vl b l := by
  have e : l = l.take (l.length - 1) ++ [l[l.length - 1]] := by
    rw [← List.take_succ_eq_append_getElem (by omega), show l.length - 1 + 1 = l.length by omega, List.take_length]
  have hx := h _ (List.getElem_mem (by omega : l.length - 1 < l.length))
  rw [e, vl_append]
  have h1 : 0 < b ^ (l.take (l.length - 1)).length := Nat.pow_pos hb
  have h2 : 0 < vl b [l[l.length - 1]] := by simp only [vl]; omega
  have := Nat.mul_pos h1 h2
  omega

/-! ### division by a small number -/
def divl (b D : Int) : List Int → List Int × Int
  | [] => ([], 0)
  | x :: r => (((divl b D r).2 * b + x) / D :: (divl b D r).1, ((divl b D r).2 * b + x) % D)
theorem divl_len (b D : Int) (l : List Int) : (divl b D l).1.length = l.length := by
  induction l with
  | nil => rfl
  | cons x l ih => simp [divl, ih]
theorem divl_rest {b D : Int} (hD : 0 < D) (l : List Int) : 0 ≤ (divl b D l).2 ∧ (divl b D l).2 < D := by
  cases l with
  | nil => exact ⟨Int.le_refl _, hD⟩
  | cons x l => exact ⟨Int.emod_nonneg _ (by omega), Int.emod_lt_of_pos _ hD⟩
theorem divl_own {b : Nat} {D : Int} (hD : 0 < D) {x : Int} {l : List Int} (hx : 0 ≤ x ∧ x < (b : Int)) : 0 ≤ (divl b D l).2 * b + x ∧ (divl b D l).2 * b + x < D * b := by
  obtain ⟨h1, h2⟩ := divl_rest (b := b) hD l
  have h3 : 0 ≤ (divl b D l).2 * (b : Int) := Int.mul_nonneg h1 (by omega)
  have h4 : ((divl b D l).2 + 1) * (b : Int) ≤ D * b := Int.mul_le_mul_of_nonneg_right (by omega) (by omega)
  rw [Int.add_mul, Int.one_mul] at h4
  omega
theorem divl_range {b : Nat} {D : Int} (hD : 0 < D) (l : List Int) (h : InR b l) : InR b (divl b D l).1 := by
  induction l with
  | nil => intro x hx; cases hx
  | cons y l ih =>
    obtain ⟨h1, h2⟩ := divl_own (l := l) hD h.head
    intro x hx
    cases hx with
    | head => exact ⟨Int.ediv_nonneg h1 (by omega), Int.ediv_lt_of_lt_mul hD (by rw [Int.mul_comm (b : Int) D]; exact h2)⟩
    | tail _ hx => exact ih h.tail x hx
theorem divl_val {b : Nat} {D : Int} (hD : 0 < D) (l : List Int) (h : InR b l) : (vl b l : Int) = D * (vl b (divl b D l).1 : Int) + (divl b D l).2 := by
  induction l with
  | nil => simp [vl, divl]
  | cons x l ih =>
    have ih := ih h.tail
    obtain ⟨h1, h2⟩ := divl_own (l := l) hD h.head
    have h0 := h.head
    have h3 : 0 ≤ ((divl b D l).2 * b + x) / D := Int.ediv_nonneg h1 (by omega)
    have h5 := Int.mul_ediv_add_emod ((divl (b : Int) D l).2 * b + x) D
    simp only [vl, divl, Int.natCast_add, Int.natCast_mul, Int.toNat_of_nonneg h3, Int.toNat_of_nonneg h0.1, ih]
    rw [Int.mul_add, Int.mul_add, ← Int.mul_assoc, ← Int.mul_assoc, Int.mul_comm (b : Int) D, Int.mul_comm (b : Int) (divl (b : Int) D l).2]
    omega
theorem divl_step {b D : Int} (l : List Int) (i : Nat) (hi : i < l.length) : ((l.take (i + 1) ++ (divl b D (l.drop (i + 1))).1).set i (((divl b D (l.drop (i + 1))).2 * b + l[i]) / D)) = l.take i ++ (divl b D (l.drop i)).1 := by
  rw [List.drop_eq_getElem_cons hi, divl, List.take_succ_eq_append_getElem hi, List.append_assoc]
  have h2 : (l.take i).length = i := by simp; omega
  rw [List.set_append_right _ _ (by omega), h2, Nat.sub_self]
  rfl
theorem divl_get {b D : Int} (l : List Int) (i : Nat) (hi : i < l.length) : (l.take (i + 1) ++ (divl b D (l.drop (i + 1))).1)[i]? = some l[i] := by
  rw [List.getElem?_append_left (by simp; omega), List.getElem?_take, if_pos (by omega), List.getElem?_eq_getElem hi]

/-! ### decimal texts -/
def dec0 (n : Nat) : List UInt8 := if n = 0 then [] else decDigits n
theorem dec0_step {n : Nat} (h : 0 < n) : dec0 n = dec0 (n / 10) ++ [UInt8.ofNat (48 + n % 10)] := by
  unfold dec0
  rw [if_neg (by omega)]
  by_cases h1 : n < 10
  · rw [decDigits_one h1, if_pos (by omega), Nat.mod_eq_of_lt h1]; rfl
  · rw [if_neg (by omega)]; conv => lhs; rw [decDigits, dif_neg h1]
/-- The last k digits. -/
def padd : Nat → Nat → List UInt8
  | 0, _ => []
  | k + 1, n => padd k (n / 10) ++ [UInt8.ofNat (48 + n % 10)]
theorem dec0_split : ∀ (k n : Nat), 0 < n / 10 ^ k → dec0 n = dec0 (n / 10 ^ k) ++ padd k n
  | 0, n, _ => by simp [padd]
  | k + 1, n, h => by
    have e : n / 10 ^ (k + 1) = n / 10 / 10 ^ k := by rw [Nat.pow_succ, Nat.mul_comm, Nat.div_div_eq_div_mul]
    have hn : 0 < n := by
      rcases Nat.eq_zero_or_pos n with h0 | h0
      · subst h0; simp at h
      · exact h0
    rw [dec0_step hn, dec0_split k (n / 10) (by rw [← e]; exact h), e, padd, List.append_assoc]
theorem padd_mod : ∀ (k n : Nat), padd k (n % 10 ^ k) = padd k n
  | 0, _ => rfl
  | k + 1, n => by
    have e1 : n % 10 ^ (k + 1) / 10 = n / 10 % 10 ^ k := by rw [Nat.pow_succ, Nat.mul_comm, Nat.mod_mul_right_div_self]
    have e2 : n % 10 ^ (k + 1) % 10 = n % 10 := Nat.mod_mod_of_dvd _ ⟨10 ^ k, by rw [Nat.pow_succ, Nat.mul_comm]⟩
    simp only [padd]
    rw [e1, e2, padd_mod k (n / 10)]
theorem padd_zero : ∀ k : Nat, padd k 0 = List.replicate k 48
  | 0 => rfl
  | k + 1 => by rw [padd, Nat.zero_div, padd_zero k, List.replicate_succ']; rfl
theorem padd_dec : ∀ (k r : Nat), 0 < k → r < 10 ^ k → padd k r = List.replicate (k - (decDigits r).length) 48 ++ decDigits r
  | 0, _, h, _ => by omega
  | k + 1, r, _, hr => by
    by_cases h1 : r < 10
    · rw [decDigits_one h1, padd, Nat.div_eq_of_lt h1, padd_zero, Nat.mod_eq_of_lt h1]; simp
    · have hk : 0 < k := by
        rcases Nat.eq_zero_or_pos k with h0 | h0
        · subst h0; simp at hr; omega
        · exact h0
      have hr' : r / 10 < 10 ^ k := by rw [Nat.pow_succ] at hr; omega
      rw [padd, padd_dec k (r / 10) hk hr']
      conv => rhs; rw [decDigits, dif_neg h1]
      simp only [List.length_append, List.length_singleton, List.append_assoc]
      rw [show k + 1 - ((decDigits (r / 10)).length + 1) = k - (decDigits (r / 10)).length by omega]
theorem dec_len_le : ∀ (k r : Nat), 0 < k → r < 10 ^ k → (decDigits r).length ≤ k := by
  intro k r h0 hr
  rw [decDigits_length]
  induction k generalizing r with
  | zero => omega
  | succ k ih =>
    by_cases h1 : r < 10
    · rw [nDigits_small h1]; omega
    · rw [nDigits_big h1]
      have hk : 0 < k := by
        rcases Nat.eq_zero_or_pos k with h0 | h0
        · subst h0; simp at hr; omega
        · exact h0
      have := ih (r / 10) hk (by rw [Nat.pow_succ] at hr; omega)
      omega
theorem dec0_len_le (k r : Nat) (h0 : 0 < k) (hr : r < 10 ^ k) : (dec0 r).length ≤ k := by
  unfold dec0
  split
  · simp
  · exact dec_len_le k r h0 hr
/-- One part of seven digits (or of nine). -/
theorem dec0_part {k n : Nat} (hk : 0 < k) (hn : 0 < n) :
    dec0 n = dec0 (n / 10 ^ k) ++ (if n / 10 ^ k = 0 then decDigits (n % 10 ^ k) else List.replicate (k - (decDigits (n % 10 ^ k)).length) 48 ++ decDigits (n % 10 ^ k)) := by
  by_cases h : n / 10 ^ k = 0
  · have hlt : n < 10 ^ k := by
      rcases Nat.lt_or_ge n (10 ^ k) with h1 | h1
      · exact h1
      · have := Nat.div_pos h1 (Nat.pow_pos (by omega)); omega
    rw [if_pos h, h, Nat.mod_eq_of_lt hlt]
    unfold dec0
    rw [if_neg (by omega), if_pos rfl]; rfl
  · rw [if_neg h, ← padd_dec k _ hk (Nat.mod_lt _ (Nat.pow_pos (by omega))), padd_mod]
    exact dec0_split k n (Nat.pos_of_ne_zero h)
end Go.Proofs.YtbllgmcpebifhaaGreatDoor.K
end

section
/- Plain laws: digits to the base 2^32. -/
namespace Go.Proofs.YtbllgmcpebifhaaGreatDoor.K
open Go Go.Lib
set_option linter.all false

theorem vl_snoc (b : Nat) (P : List Int) (x : Int) : vl b (P ++ [x]) = vl b P + b ^ P.length * x.toNat := by
  rw [vl_append]; simp [vl]
theorem vl_take_succ (b : Nat) (l : List Int) (i : Nat) (hi : i < l.length) : vl b (l.take (i + 1)) = vl b (l.take i) + b ^ i * l[i].toNat := by
  rw [List.take_succ_eq_append_getElem hi, vl_snoc, List.length_take, Nat.min_eq_left (Nat.le_of_lt hi)]
theorem InR.snoc {b : Nat} {P : List Int} {x : Int} (h : InR b P) (hx : 0 ≤ x ∧ x < (b : Int)) : InR b (P ++ [x]) := by
  intro y hy
  rcases List.mem_append.1 hy with h' | h'
  · exact h y h'
  · rw [List.mem_singleton.1 h']; exact hx
theorem row_set (P : List Int) (c x : Int) (r : List Int) : (P ++ c :: r).set P.length x = P ++ x :: r := by
  rw [List.set_append_right _ _ (Nat.le_refl _), Nat.sub_self]; rfl
theorem row_get (P : List Int) (c : Int) (r : List Int) : (P ++ c :: r)[P.length]? = some c := by
  rw [List.getElem?_append_right (Nat.le_refl _), Nat.sub_self]; rfl

/-- One step of a sum. -/
theorem add_step (K V W p c x y : Nat) (h : p + K * c = V + W) :
    p + K * ((c + x + y) % 4294967296) + K * 4294967296 * ((c + x + y) / 4294967296) = (V + K * x) + (W + K * y) := by
  have h1 := Nat.div_add_mod (c + x + y) 4294967296
  have h2 : K * ((c + x + y) % 4294967296) + K * (4294967296 * ((c + x + y) / 4294967296)) = K * (c + x + y) := by
    rw [← Nat.mul_add, Nat.add_comm, h1]
  rw [Nat.mul_assoc]
  rw [Nat.mul_add, Nat.mul_add] at h2
  omega
end Go.Proofs.YtbllgmcpebifhaaGreatDoor.K
end

section
/- Plain laws: shifts, differences and products of digits; decimal texts read. -/
namespace Go.Proofs.YtbllgmcpebifhaaGreatDoor.K
open Go Go.Lib
set_option linter.all false

/-! ### shifts -/
theorem lshS_step (B S K V p c x : Nat) (h : p + K * c = S * V) : p + K * (c + x * S % B) + K * B * (x * S / B) = S * (V + K * x) := by
  have h1 := Nat.div_add_mod (x * S) B
  have h2 : K * (x * S % B) + K * (B * (x * S / B)) = K * (x * S) := by
    rw [← Nat.mul_add, Nat.add_comm, h1]
  have h3 : S * (V + K * x) = S * V + K * (x * S) := by rw [Nat.mul_add, Nat.mul_left_comm, Nat.mul_comm S x]
  rw [Nat.mul_add, Nat.mul_assoc K B, h3, ← h]
  omega

/-- A list of digits, shifted down by s bits (s less than a digit's). -/
def rshl (s : Nat) : List Int → List Int
  | [] => []
  | x :: r => ((x + r.headD 0 * 4294967296) / (2 : Int) ^ s % 4294967296) :: rshl s r
theorem rshl_len (s : Nat) (l : List Int) : (rshl s l).length = l.length := by
  induction l with
  | nil => rfl
  | cons x r ih => simp [rshl, ih]
theorem rshl_range (s : Nat) (l : List Int) : InR 4294967296 (rshl s l) := by
  induction l with
  | nil => intro x hx; cases hx
  | cons x r ih =>
    intro y hy
    cases hy with
    | head => omega
    | tail _ hy => exact ih y hy
theorem rsh_step (S T x y W : Nat) (hS : 0 < S) (hx : x < S * T) : ((x + y * (S * T)) / S % (S * T)) + (S * T) * ((y + S * T * W) / S) = (x + S * T * (y + S * T * W)) / S := by
  have e1 : (x + y * (S * T)) / S = x / S + T * y := by
    rw [show y * (S * T) = S * (T * y) by rw [Nat.mul_comm y, Nat.mul_assoc], Nat.add_mul_div_left _ _ hS]
  have e2 : (y + S * T * W) / S = y / S + T * W := by rw [Nat.mul_assoc, Nat.add_mul_div_left _ _ hS]
  have e3 : (x + S * T * (y + S * T * W)) / S = x / S + T * (y + S * T * W) := by rw [Nat.mul_assoc S T (y + _), Nat.add_mul_div_left _ _ hS]
  have e4 : x / S < T := Nat.div_lt_of_lt_mul hx
  have e5 : T * y = S * T * (y / S) + T * (y % S) := by
    conv => lhs; rw [← Nat.div_add_mod y S]
    rw [Nat.mul_add, ← Nat.mul_assoc, Nat.mul_comm T S]
  have e6 : T * (y % S) + T ≤ S * T := by
    have := Nat.mul_le_mul_left T (Nat.mod_lt y hS)
    rw [Nat.mul_succ, Nat.mul_comm T S] at this
    exact this
  have e7 : (x / S + T * y) % (S * T) = x / S + T * (y % S) := by
    rw [e5, show x / S + (S * T * (y / S) + T * (y % S)) = x / S + T * (y % S) + S * T * (y / S) by omega, Nat.add_mul_mod_self_left, Nat.mod_eq_of_lt (by omega)]
  have e8 : T * (y + S * T * W) = S * T * (y / S) + T * (y % S) + S * T * (T * W) := by
    rw [Nat.mul_add, e5, show T * (S * T * W) = S * T * (T * W) by ac_rfl]
  rw [e1, e2, e3, e7, e8, Nat.mul_add]
  omega
theorem vl_head (B : Nat) (l : List Int) : ∃ W, vl B l = (l.headD 0).toNat + B * W := by
  cases l with
  | nil => exact ⟨0, by simp [vl]⟩
  | cons x r => exact ⟨vl B r, by simp [vl]⟩
theorem InR.headD {b : Nat} {l : List Int} (h : InR b l) (hb : 0 < b) : 0 ≤ l.headD 0 ∧ l.headD 0 < (b : Int) := by
  cases l with
  | nil => exact ⟨Int.le_refl _, by simpa using hb⟩
  | cons x r => exact h.head
theorem rsh_digit (s : Nat) (x y : Int) (hx : 0 ≤ x) (hy : 0 ≤ y) : ((x + y * 4294967296) / (2 : Int) ^ s % 4294967296).toNat = (x.toNat + y.toNat * 4294967296) / 2 ^ s % 4294967296 := by
  obtain ⟨a, rfl⟩ := Int.eq_ofNat_of_zero_le hx
  obtain ⟨e, rfl⟩ := Int.eq_ofNat_of_zero_le hy
  have h1 : (2 : Int) ^ s = ((2 ^ s : Nat) : Int) := by simp
  rw [h1, show ((a : Int) + (e : Int) * 4294967296) = ((a + e * 4294967296 : Nat) : Int) by omega, ← Int.natCast_ediv, show (4294967296 : Int) = ((4294967296 : Nat) : Int) from rfl, ← Int.natCast_emod]
  exact Int.toNat_natCast _
theorem vl_rshl (s : Nat) (hs : s ≤ 32) (l : List Int) (h : InR 4294967296 l) : vl 4294967296 (rshl s l) = vl 4294967296 l / 2 ^ s := by
  induction l with
  | nil => simp [rshl, vl]
  | cons x r ih =>
    have ih := ih h.tail
    have hx := h.head
    have hy := InR.headD h.tail (by omega)
    obtain ⟨W, hW⟩ := vl_head 4294967296 r
    have hST : (4294967296 : Nat) = 2 ^ s * 2 ^ (32 - s) := by rw [← Nat.pow_add, show s + (32 - s) = 32 by omega]
    have := rsh_step (2 ^ s) (2 ^ (32 - s)) x.toNat (r.headD 0).toNat W (Nat.pow_pos (by omega)) (by rw [← hST]; omega)
    rw [← hST] at this
    rw [rshl, vl, vl, rsh_digit s x _ hx.1 hy.1, ih, hW]
    exact this
theorem vl_drop_div (B : Nat) (hB : 0 < B) (l : List Int) (h : InR B l) (k : Nat) : vl B (l.drop k) = vl B l / B ^ k := by
  rcases Nat.lt_or_ge k l.length with hk | hk
  · conv => rhs; rw [← List.take_append_drop k l]
    rw [vl_append, List.length_take, Nat.min_eq_left (by omega)]
    have h1 := vl_lt B _ (h.take k)
    rw [List.length_take, Nat.min_eq_left (by omega)] at h1
    rw [Nat.add_mul_div_left _ _ (Nat.pow_pos hB), Nat.div_eq_of_lt h1, Nat.zero_add]
  · rw [List.drop_eq_nil_of_le hk]
    have h1 := vl_lt B _ h
    rw [Nat.div_eq_of_lt (Nat.lt_of_lt_of_le h1 (Nat.pow_le_pow_right hB hk))]
    rfl

/-! ### differences -/
theorem sub_step (B K p V W x y l t l' : Nat) (h : p + W = V + K * l) (ht : t + y + l = x + B * l') : p + K * t + (W + K * y) = (V + K * x) + K * B * l' := by
  have : K * (t + y + l) = K * (x + B * l') := by rw [ht]
  rw [Nat.mul_add, Nat.mul_add, Nat.mul_add, ← Nat.mul_assoc] at this
  omega

/-! ### products -/
theorem vl_set (B : Nat) : ∀ (l : List Int) (j : Nat) (hj : j < l.length) (y : Int), vl B (l.set j y) + B ^ j * (l[j]).toNat = vl B l + B ^ j * y.toNat
  | [], j, hj, _ => by simp at hj
  | x :: r, 0, _, y => by simp only [List.set_cons_zero, vl, Nat.pow_zero, Nat.one_mul, List.getElem_cons_zero]; omega
  | x :: r, j + 1, hj, y => by
    have ih := vl_set B r j (by simpa using hj) y
    simp only [List.set_cons_succ, vl, List.getElem_cons_succ]
    have h1 : B ^ (j + 1) = B * B ^ j := by rw [Nat.pow_succ, Nat.mul_comm]
    rw [h1, Nat.mul_assoc, Nat.mul_assoc, Nat.add_assoc, ← Nat.mul_add, ih, Nat.mul_add]
    omega
theorem InR.set {b : Nat} {l : List Int} (h : InR b l) (j : Nat) {y : Int} (hy : 0 ≤ y ∧ y < (b : Int)) : InR b (l.set j y) := by
  intro x hx
  rcases List.mem_or_eq_of_mem_set hx with h1 | h1
  · exact h x h1
  · rw [h1]; exact hy
theorem mul_step (B K p q c x y o t R : Nat) (hset : q + K * o = p + K * (t % B)) (h : p + K * c = R) (ht : t = c + x * y + o) : q + K * B * (t / B) = R + K * (x * y) := by
  have h1 := Nat.div_add_mod t B
  have h2 : K * (t % B) + K * (B * (t / B)) = K * c + K * (x * y) + K * o := by
    rw [← Nat.mul_add, Nat.add_comm (t % B), h1, ht, Nat.mul_add, Nat.mul_add]
  rw [Nat.mul_assoc]
  omega

/-! ### decimal texts -/
def isd (c : UInt8) : Prop := 48 ≤ c.toNat ∧ c.toNat ≤ 57
instance (c : UInt8) : Decidable (isd c) := by unfold isd; infer_instance
def dval (l : List UInt8) : Nat := l.foldl (fun a c => 10 * a + (c.toNat - 48)) 0
theorem dval_snoc (l : List UInt8) (c : UInt8) : dval (l ++ [c]) = 10 * dval l + (c.toNat - 48) := by simp [dval]
theorem u8_digit {c : UInt8} (h : isd c) : UInt8.ofNat (48 + (c.toNat - 48)) = c := by
  have : 48 + (c.toNat - 48) = c.toNat := by have := h.1; omega
  rw [this]; simp
theorem toNat_digit {k : Nat} (h : k < 10) : (UInt8.ofNat (48 + k)).toNat = 48 + k := by
  rw [UInt8.toNat_ofNat']; omega
theorem dec_big {n : Nat} (h : ¬ n < 10) : decDigits n = decDigits (n / 10) ++ [UInt8.ofNat (48 + n % 10)] := by
  conv => lhs; rw [decDigits, dif_neg h]
theorem dval_dec (n : Nat) : dval (decDigits n) = n := by
  induction n using Nat.strongRecOn with
  | _ n ih =>
    by_cases h : n < 10
    · rw [decDigits_one h]
      simp only [dval, List.foldl_cons, List.foldl_nil, toNat_digit h]; omega
    · rw [dec_big h, dval_snoc, ih (n / 10) (by omega), toNat_digit (by omega)]; omega
theorem dec_isd (n : Nat) : ∀ c ∈ decDigits n, isd c := by
  induction n using Nat.strongRecOn with
  | _ n ih =>
    intro c hc
    by_cases h : n < 10
    · rw [decDigits_one h] at hc
      rw [List.mem_singleton.1 hc]
      unfold isd
      rw [toNat_digit h]; omega
    · rw [dec_big h] at hc
      rcases List.mem_append.1 hc with h1 | h1
      · exact ih (n / 10) (by omega) c h1
      · rw [List.mem_singleton.1 h1]
        unfold isd
        rw [toNat_digit (by omega)]; omega
/-- A decimal numeral: not empty, digits alone, no zero ahead of others. -/
def Numl (l : List UInt8) : Prop := l ≠ [] ∧ (∀ c ∈ l, isd c) ∧ (1 < l.length → ∀ c, l.head? = some c → c.toNat ≠ 48)
theorem dec_ne_nil (n : Nat) : decDigits n ≠ [] := by
  by_cases h : n < 10
  · rw [decDigits_one h]; simp
  · rw [dec_big h]; simp
theorem dec_head (n : Nat) (hn : 0 < n) : ∀ c, (decDigits n).head? = some c → c.toNat ≠ 48 := by
  induction n using Nat.strongRecOn with
  | _ n ih =>
    intro c hc
    by_cases h : n < 10
    · rw [decDigits_one h] at hc
      simp only [List.head?_cons, Option.some.injEq] at hc
      rw [← hc, toNat_digit h]; omega
    · rw [dec_big h, List.head?_append] at hc
      cases h1 : (decDigits (n / 10)).head? with
      | none => exact absurd (List.head?_eq_none_iff.1 h1) (dec_ne_nil _)
      | some e =>
        rw [h1] at hc
        simp only [Option.some_or, Option.some.injEq] at hc
        subst hc
        exact ih (n / 10) (by omega) (by omega) e h1
theorem dec_numl (n : Nat) : Numl (decDigits n) := by
  refine ⟨dec_ne_nil n, dec_isd n, fun hl c hc => ?_⟩
  rcases Nat.eq_zero_or_pos n with h | h
  · subst h
    rw [decDigits_one (by omega)] at hl; simp at hl
  · exact dec_head n h c hc
theorem dval_pos {l : List UInt8} (h : ∀ c ∈ l, isd c) (hne : l ≠ []) (h0 : ∀ c, l.head? = some c → c.toNat ≠ 48) : 10 ^ (l.length - 1) ≤ dval l := by
  induction hk : l.length generalizing l with
  | zero => exact absurd (List.eq_nil_of_length_eq_zero hk) hne
  | succ k ih =>
    obtain ⟨m, c, rfl⟩ : ∃ m c, l = m ++ [c] := ⟨l.dropLast, l.getLast hne, (List.dropLast_concat_getLast hne).symm⟩
    have hc := h c (by simp)
    by_cases hm : m = []
    · subst hm
      simp only [List.nil_append, List.length_singleton] at hk
      have := h0 c rfl
      have : k = 0 := by omega
      subst this
      rw [dval_snoc]
      simp [dval]
      have := hc.1
      omega
    · have hk' : m.length = k := by simpa using hk
      have := ih (l := m) (fun c hc => h c (List.mem_append_left _ hc)) hm (fun c hc => h0 c (by rw [List.head?_append, hc]; rfl)) hk'
      have hk1 : 0 < k := by rw [← hk']; exact List.length_pos_iff.2 hm
      rw [dval_snoc]
      have e : k + 1 - 1 = (k - 1) + 1 := by omega
      rw [e, Nat.pow_succ]
      omega
theorem dval_lt {l : List UInt8} (h : ∀ c ∈ l, isd c) : dval l < 10 ^ l.length := by
  induction hk : l.length generalizing l with
  | zero => rw [List.eq_nil_of_length_eq_zero hk]; simp [dval]
  | succ k ih =>
    have hne : l ≠ [] := by intro h; rw [h] at hk; simp at hk
    obtain ⟨m, c, rfl⟩ : ∃ m c, l = m ++ [c] := ⟨l.dropLast, l.getLast hne, (List.dropLast_concat_getLast hne).symm⟩
    have hc := h c (by simp)
    have := ih (l := m) (fun c hc => h c (List.mem_append_left _ hc)) (by simpa using hk)
    rw [dval_snoc, Nat.pow_succ]
    have := hc.2
    omega
theorem dec_dval {l : List UInt8} (h : Numl l) : decDigits (dval l) = l := by
  induction hk : l.length generalizing l with
  | zero => exact absurd (List.eq_nil_of_length_eq_zero hk) h.1
  | succ k ih =>
    obtain ⟨m, c, rfl⟩ : ∃ m c, l = m ++ [c] := ⟨l.dropLast, l.getLast h.1, (List.dropLast_concat_getLast h.1).symm⟩
    have hc := h.2.1 c (by simp)
    have hc2 := hc.2
    by_cases hm : m = []
    · subst hm
      rw [dval_snoc]
      have : dval [] = 0 := rfl
      rw [this, Nat.mul_zero, Nat.zero_add, decDigits_one (by omega), u8_digit hc]
      rfl
    · have hh : ∀ c, m.head? = some c → c.toNat ≠ 48 := fun c hc => h.2.2 (by have := List.length_pos_iff.2 hm; simp; omega) c (by rw [List.head?_append, hc]; rfl)
      have hd : ∀ c ∈ m, isd c := fun c hc => h.2.1 c (List.mem_append_left _ hc)
      have h1 := ih (l := m) ⟨hm, hd, fun _ => hh⟩ (by simpa using hk)
      have h2 := dval_pos hd hm hh
      have h3 : 0 < 10 ^ (m.length - 1) := Nat.pow_pos (by omega)
      rw [dval_snoc, dec_big (by omega), show (10 * dval m + (c.toNat - 48)) / 10 = dval m by omega, show (10 * dval m + (c.toNat - 48)) % 10 = c.toNat - 48 by omega, u8_digit hc, h1]
end Go.Proofs.YtbllgmcpebifhaaGreatDoor.K
end

section
/- Plain laws: the limbs of a number, how many bits it has. -/
namespace Go.Proofs.YtbllgmcpebifhaaGreatDoor.K
open Go Go.Lib
set_option linter.all false

def limbs (n : Nat) : List Int := if h : n = 0 then [] else ((n % 16777216 : Nat) : Int) :: limbs (n / 16777216)
  termination_by n
  decreasing_by omega
theorem limbs_zero : limbs 0 = [] := by rw [limbs]; simp
theorem limbs_pos {n : Nat} (h : n ≠ 0) : limbs n = ((n % 16777216 : Nat) : Int) :: limbs (n / 16777216) := by
  conv => lhs; rw [limbs]
  rw [dif_neg h]
theorem limbs_val (n : Nat) : vl 16777216 (limbs n) = n := by
  induction n using Nat.strongRecOn with
  | _ n ih =>
    by_cases h : n = 0
    · subst h; rw [limbs_zero]; rfl
    · rw [limbs_pos h, vl, ih (n / 16777216) (by omega)]; omega
theorem limbs_range (n : Nat) : InR 16777216 (limbs n) := by
  induction n using Nat.strongRecOn with
  | _ n ih =>
    by_cases h : n = 0
    · subst h; rw [limbs_zero]; intro x hx; cases hx
    · rw [limbs_pos h]
      intro x hx
      cases hx with
      | head => omega
      | tail _ hx => exact ih (n / 16777216) (by omega) x hx
theorem limbs_nil {n : Nat} : limbs n = [] ↔ n = 0 := by
  constructor
  · intro h
    have := limbs_val n
    rw [h] at this
    exact this.symm
  · intro h; subst h; exact limbs_zero
/-- Without zeros at the end. -/
def Trim (l : List Int) : Prop := l = [] ∨ ∃ h : l.length - 1 < l.length, l[l.length - 1] ≠ 0
theorem Trim.pos {b : Nat} (hb : 0 < b) {l : List Int} (h : Trim l) (hr : InR b l) (hn : 0 < l.length) : 0 < vl b l := by
  rcases h with h | ⟨h1, h2⟩
  · subst h; simp at hn
  · exact vl_pos b hb l hr hn h2
theorem trim_cons {x : Int} {l : List Int} (h : Trim l) (hx : l = [] → x ≠ 0) : Trim (x :: l) := by
  rcases h with rfl | ⟨h1, h2⟩
  · exact .inr ⟨by simp, by simpa using hx rfl⟩
  · refine .inr ⟨by simp, ?_⟩
    obtain ⟨k, hk⟩ : ∃ k, l.length = k + 1 := ⟨l.length - 1, by omega⟩
    simp only [List.length_cons, hk, Nat.add_sub_cancel, List.getElem_cons_succ] at h2 ⊢
    exact h2
theorem limbs_trim (n : Nat) : Trim (limbs n) := by
  induction n using Nat.strongRecOn with
  | _ n ih =>
    by_cases h : n = 0
    · subst h; exact .inl limbs_zero
    · rw [limbs_pos h]
      refine trim_cons (ih (n / 16777216) (by omega)) fun h0 => ?_
      have := limbs_nil.1 h0
      omega
theorem trim_tail {x : Int} {l : List Int} (h : Trim (x :: l)) : Trim l := by
  cases l with
  | nil => exact .inl rfl
  | cons y r =>
    rcases h with h | ⟨h1, h2⟩
    · cases h
    · exact .inr ⟨by simp, by simpa using h2⟩
theorem limbs_uniq : ∀ (l : List Int), InR 16777216 l → Trim l → l = limbs (vl 16777216 l)
  | [], _, _ => by rw [vl, limbs_zero]
  | x :: r, hr, ht => by
    have ih := limbs_uniq r hr.tail (trim_tail ht)
    have hx := hr.head
    have hp := ht.pos (by omega) hr (by simp)
    rw [limbs_pos (by omega)]
    have e1 : vl 16777216 (x :: r) % 16777216 = x.toNat := by rw [vl]; omega
    have e2 : vl 16777216 (x :: r) / 16777216 = vl 16777216 r := by rw [vl]; omega
    rw [e1, e2, ← ih]
    congr 1
    omega
theorem limbs_len_le (k n : Nat) (h : n < 16777216 ^ k) : (limbs n).length ≤ k := by
  induction k generalizing n with
  | zero => rw [show n = 0 by simpa using h, limbs_zero]; simp
  | succ k ih =>
    by_cases h0 : n = 0
    · subst h0; rw [limbs_zero]; simp
    · rw [limbs_pos h0, List.length_cons]
      have := ih (n / 16777216) (by rw [Nat.pow_succ] at h; exact Nat.div_lt_of_lt_mul (by rw [Nat.mul_comm]; exact h))
      omega
theorem limbs_len_gt (k n : Nat) (h : 16777216 ^ k ≤ n) : k < (limbs n).length := by
  rcases Nat.lt_or_ge k (limbs n).length with h1 | h1
  · exact h1
  · have h2 := vl_lt _ _ (limbs_range n)
    rw [limbs_val] at h2
    have h3 : 16777216 ^ (limbs n).length ≤ 16777216 ^ k := Nat.pow_le_pow_right (by omega) h1
    omega

/-! ### bits -/
def blen (x : Nat) : Nat := if x = 0 then 0 else x.log2 + 1
theorem blen_le {x j : Nat} : blen x ≤ j ↔ x < 2 ^ j := by
  unfold blen
  split
  · rename_i h; subst h
    simp [Nat.pow_pos]
  · rename_i h
    rw [← Nat.log2_lt h]; omega
theorem blen_half {x : Nat} (h : x ≠ 0) : blen x = 1 + blen (x / 2) := by
  apply Nat.le_antisymm
  · rw [blen_le]
    have := (blen_le (x := x / 2)).1 (Nat.le_refl _)
    rw [Nat.pow_add]
    omega
  · rcases Nat.lt_or_ge (blen x) (1 + blen (x / 2)) with h1 | h1
    · exfalso
      have h2 : blen x ≠ 0 := by unfold blen; rw [if_neg h]; omega
      obtain ⟨b, hb⟩ : ∃ b, blen x = b + 1 := ⟨blen x - 1, by omega⟩
      have h3 := (blen_le (x := x)).1 (Nat.le_refl _)
      rw [hb, Nat.pow_succ] at h3
      have h4 : blen (x / 2) ≤ b := blen_le.2 (by omega)
      omega
    · exact h1
theorem bitLen_eq (x : Nat) (h : x < 2 ^ 64) : Lib.bitLen x = blen x := by
  induction x using Nat.strongRecOn with
  | _ x ih =>
    by_cases h0 : x = 0
    · subst h0; rfl
    · rw [bitLen_half x h0 h, blen_half h0, ih (x / 2) (by omega) (by omega)]
theorem blen_top (m lo top : Nat) (hlo : lo < 2 ^ m) (ht : 0 < top) : blen (lo + 2 ^ m * top) = m + blen top := by
  have hb := (blen_le (x := top)).1 (Nat.le_refl _)
  apply Nat.le_antisymm
  · rw [blen_le, Nat.pow_add]
    have : 2 ^ m * (top + 1) ≤ 2 ^ m * 2 ^ blen top := Nat.mul_le_mul_left _ hb
    rw [Nat.mul_add] at this
    omega
  · rcases Nat.lt_or_ge (blen (lo + 2 ^ m * top)) (m + blen top) with h1 | h1
    · exfalso
      have h2 : blen top ≠ 0 := by unfold blen; rw [if_neg (by omega)]; omega
      obtain ⟨b, hb'⟩ : ∃ b, blen top = b + 1 := ⟨blen top - 1, by omega⟩
      have h3 : lo + 2 ^ m * top < 2 ^ (m + b) := blen_le.1 (by omega)
      have h4 : ¬ top < 2 ^ b := fun h => by have := blen_le.2 h; omega
      have h5 : 2 ^ m * 2 ^ b ≤ 2 ^ m * top := Nat.mul_le_mul_left _ (by omega)
      rw [Nat.pow_add] at h3
      omega
    · exact h1
end Go.Proofs.YtbllgmcpebifhaaGreatDoor.K
end

section
/- Plain laws: decimal texts of numbers, read back. -/
namespace Go.Proofs.YtbllgmcpebifhaaGreatDoor.K
open Go Go.Lib
set_option linter.all false
set_option exponentiation.threshold 8000

theorem itoa_eq (v : Int) : itoa v = (if v < 0 then [45] else []) ++ decDigits v.natAbs := by
  unfold itoa
  split
  · rfl
  · rw [show v.toNat = v.natAbs by omega]; rfl
theorem dec_head45 (n : Nat) : (decDigits n).head? ≠ some 45 := by
  intro h
  obtain ⟨c, r, hc⟩ : ∃ c r, decDigits n = c :: r := by
    cases hd : decDigits n with
    | nil => exact absurd hd (dec_ne_nil n)
    | cons c r => exact ⟨c, r, rfl⟩
  rw [hc] at h
  simp only [List.head?_cons, Option.some.injEq] at h
  have := dec_isd n c (by rw [hc]; exact .head _)
  rw [h] at this
  unfold isd at this
  simp at this
/-- A text, parted into its sign and the rest. -/
def isNeg (t : List UInt8) : Bool := decide (t.head? = some 45)
def body (t : List UInt8) : List UInt8 := if isNeg t then t.tail else t
theorem itoa_neg (v : Int) : isNeg (itoa v) = decide (v < 0) := by
  unfold isNeg
  rw [itoa_eq]
  by_cases h : v < 0
  · simp [h]
  · simp [h, dec_head45]
theorem itoa_body (v : Int) : body (itoa v) = decDigits v.natAbs := by
  unfold body
  rw [itoa_neg, itoa_eq]
  by_cases h : v < 0 <;> simp [h]
theorem body_eq (t : List UInt8) : t = (if isNeg t then [45] else []) ++ body t := by
  unfold body isNeg
  cases t with
  | nil => simp
  | cons c r => by_cases h : c = 45 <;> simp [h]
theorem itoa_inj {v w : Int} (h : itoa v = itoa w) : v = w := by
  have h1 := itoa_neg v
  have h2 := itoa_neg w
  have h3 := itoa_body v
  have h4 := itoa_body w
  rw [h] at h1 h3
  have h5 : decDigits v.natAbs = decDigits w.natAbs := by rw [← h3, h4]
  have h6 : v.natAbs = w.natAbs := by rw [← dval_dec v.natAbs, h5, dval_dec]
  rw [h2] at h1
  by_cases hv : v < 0 <;> by_cases hw : w < 0 <;> simp [hv, hw] at h1 <;> omega
/-- The value that a text spells, if it does. -/
def tval (t : List UInt8) : Int := if isNeg t then -(dval (body t) : Int) else (dval (body t) : Int)
theorem tval_itoa (v : Int) : tval (itoa v) = v := by
  unfold tval
  rw [itoa_neg, itoa_body, dval_dec]
  by_cases h : v < 0 <;> simp [h] <;> omega
/-- A text that is a number's. -/
def Spells (t : List UInt8) : Prop := Numl (body t) ∧ (isNeg t = true → dval (body t) ≠ 0)
theorem spells_itoa (v : Int) : Spells (itoa v) := by
  refine ⟨by rw [itoa_body]; exact dec_numl _, fun h => ?_⟩
  rw [itoa_neg] at h
  have := of_decide_eq_true h
  rw [itoa_body, dval_dec]; omega
theorem itoa_tval {t : List UInt8} (h : Spells t) : itoa (tval t) = t := by
  conv => rhs; rw [body_eq t]
  rw [itoa_eq]
  have h2 := dec_dval h.1
  by_cases hn : isNeg t = true
  · have h3 := h.2 hn
    have h4 : tval t < 0 := by unfold tval; rw [if_pos hn]; omega
    have h5 : (tval t).natAbs = dval (body t) := by unfold tval; rw [if_pos hn]; omega
    rw [if_pos h4, if_pos hn, h5, h2]
  · have h4 : ¬ tval t < 0 := by unfold tval; rw [if_neg hn]; omega
    have h5 : (tval t).natAbs = dval (body t) := by unfold tval; rw [if_neg hn]; omega
    rw [if_neg h4, if_neg hn, h5, h2]
theorem tval_abs (t : List UInt8) : (tval t).natAbs = dval (body t) := by unfold tval; split <;> omega
theorem ten_big : (2 : Nat) ^ 4800 ≤ 10 ^ 1999 := by decide +kernel
theorem ten_small : (10 : Nat) ^ 2000 < 4294967296 ^ 250 := by decide +kernel
/-- A text with more digits than 2000 is none of a small number. -/
theorem long_big {t : List UInt8} (h : Spells t) (hl : 2000 < (body t).length) : ¬ (tval t).natAbs < 2 ^ 4800 := by
  rw [tval_abs]
  have h0 := dval_pos h.1.2.1 h.1.1 (h.1.2.2 (by omega))
  have h1 : (10 : Nat) ^ 1999 ≤ 10 ^ ((body t).length - 1) := Nat.pow_le_pow_right (by omega) (by omega)
  have := ten_big
  omega
end Go.Proofs.YtbllgmcpebifhaaGreatDoor.K
end

section
/- Plain laws: a text cut at its first p; small numbers parsed. -/
namespace Go.Proofs.YtbllgmcpebifhaaGreatDoor.K
open Go Go.Lib
set_option linter.all false

theorem cut_p (t : List UInt8) : ((112 : UInt8) ∉ t ∧ Lib.cut t [112] = (t, [], false)) ∨ (∃ a b, t = a ++ 112 :: b ∧ (112 : UInt8) ∉ a ∧ Lib.cut t [112] = (a, b, true)) := by
  have hix : Lib.index t [112] = indexByte t 112 := index_one t 112
  have hge := indexByte_ge t 112
  by_cases h : indexByte t 112 = -1
  · refine .inl ⟨fun hm => ?_, by unfold Lib.cut; rw [hix, if_neg (by omega)]⟩
    obtain ⟨k, hk⟩ := List.mem_iff_getElem?.1 hm
    exact indexByte_none h k hk
  · obtain ⟨o, ho⟩ : ∃ o : Nat, indexByte t 112 = o := ⟨(indexByte t 112).toNat, by omega⟩
    obtain ⟨h1, h2⟩ := indexByte_some ho
    have hlt : o < t.length := (List.getElem?_eq_some_iff.1 h1).1
    have hg : t[o] = 112 := (List.getElem?_eq_some_iff.1 h1).2
    refine .inr ⟨t.take o, t.drop (o + 1), ?_, fun hm => ?_, ?_⟩
    · conv => lhs; rw [← List.take_append_drop o t]
      rw [List.drop_eq_getElem_cons hlt, hg]
    · obtain ⟨k, hk⟩ := List.mem_iff_getElem?.1 hm
      rw [List.getElem?_take] at hk
      split at hk
      · exact h2 k (by assumption) hk
      · cases hk
    · unfold Lib.cut
      rw [hix, ho, if_pos (by omega)]
      simp
theorem split_uniq {c : UInt8} {a a' b b' : List UInt8} (h : a ++ c :: b = a' ++ c :: b') (ha : c ∉ a) (ha' : c ∉ a') : a = a' ∧ b = b' := by
  induction a generalizing a' with
  | nil =>
    cases a' with
    | nil => exact ⟨rfl, (List.cons.inj h).2⟩
    | cons x r =>
      have := (List.cons.inj h).1
      exact absurd (this ▸ .head _) ha'
  | cons x r ih =>
    cases a' with
    | nil =>
      have := (List.cons.inj h).1
      exact absurd (this ▸ .head _) ha
    | cons y s =>
      obtain ⟨h1, h2⟩ := List.cons.inj h
      obtain ⟨h3, h4⟩ := ih h2 (fun hm => ha (.tail _ hm)) (fun hm => ha' (.tail _ hm))
      exact ⟨by rw [h1, h3], h4⟩
theorem itoa_no_p (v : Int) : (112 : UInt8) ∉ itoa v := by
  rw [itoa_eq]
  intro h
  rcases List.mem_append.1 h with h | h
  · split at h
    · exact absurd (List.mem_singleton.1 h) (by decide)
    · cases h
  · have := dec_isd _ _ h
    unfold isd at this
    exact absurd this (by decide)

theorem foldl_ge (l : List UInt8) (acc : Nat) : acc ≤ l.foldl (fun a c => 10 * a + (c.toNat - 48)) acc := by
  induction l generalizing acc with
  | nil => exact Nat.le_refl _
  | cons c r ih => exact Nat.le_trans (by omega) (ih (10 * acc + (c.toNat - 48)))
theorem parseUintM_dig (M : Nat) (hM : 1000000000000000000 ≤ M) : ∀ (l : List UInt8) (acc : Nat), (∀ c ∈ l, isd c) → l.foldl (fun a c => 10 * a + (c.toNat - 48)) acc ≤ 1000000000000000000 → parseUintM M acc l = .ok (l.foldl (fun a c => 10 * a + (c.toNat - 48)) acc)
  | [], acc, _, _ => rfl
  | c :: r, acc, hd, hle => by
    have hc := hd c (.head _)
    have hge := foldl_ge r (10 * acc + (c.toNat - 48))
    have hle' : r.foldl (fun a c => 10 * a + (c.toNat - 48)) (10 * acc + (c.toNat - 48)) ≤ 1000000000000000000 := hle
    rw [parseUintM, if_pos ⟨hc.1, hc.2⟩, if_neg (by omega), if_neg (by omega), show acc * 10 + (c.toNat - 48) = 10 * acc + (c.toNat - 48) by omega, parseUintM_dig M hM r _ (fun c h => hd c (.tail _ h)) hle']
    rfl
theorem parse_itoa (e : Int) (he : -5000 ≤ e ∧ e ≤ 5000) : parseIntB 64 (itoa e) = .ok e := by
  have hu : parseUintB 64 (decDigits e.natAbs) = .ok e.natAbs := by
    unfold parseUintB
    rw [if_neg (dec_ne_nil _)]
    have h1 := dval_dec e.natAbs
    unfold dval at h1
    rw [parseUintM_dig _ (by decide) _ 0 (dec_isd _) (by rw [h1]; omega), h1]
  rw [itoa_eq]
  by_cases h : e < 0
  · rw [if_pos h, List.singleton_append, parseIntB_minus, hu]
    unfold signedC
    have : ¬ (2 ^ (64 - 1) < e.natAbs) := by omega
    simp [this]
    omega
  · rw [if_neg h, List.nil_append]
    obtain ⟨c, r, hc⟩ : ∃ c r, decDigits e.natAbs = c :: r := by
      cases hd : decDigits e.natAbs with
      | nil => exact absurd hd (dec_ne_nil _)
      | cons c r => exact ⟨c, r, rfl⟩
    have hcd := dec_isd e.natAbs c (by rw [hc]; exact .head _)
    unfold isd at hcd
    rw [hc, parseIntB_plain 64 c r (by omega) (by omega), ← hc, hu]
    unfold signlessC
    have : ¬ (2 ^ (64 - 1) ≤ e.natAbs) := by omega
    simp [this]
    omega
end Go.Proofs.YtbllgmcpebifhaaGreatDoor.K
end

section
/- Plain laws: limbs times ten plus a digit. -/
namespace Go.Proofs.YtbllgmcpebifhaaGreatDoor.K
open Go Go.Lib
set_option linter.all false
set_option exponentiation.threshold 8000

def ma : List Int → Int → List Int × Int
  | [], c => ([], c)
  | x :: r, c => ((c + 10 * x) % 16777216 :: (ma r ((c + 10 * x) / 16777216)).1, (ma r ((c + 10 * x) / 16777216)).2)
theorem ma_len (l : List Int) (c : Int) : (ma l c).1.length = l.length := by
  induction l generalizing c with
  | nil => rfl
  | cons x r ih => simp [ma, ih]
theorem ma_snoc (l : List Int) (x c : Int) : ma (l ++ [x]) c = ((ma l c).1 ++ [((ma l c).2 + 10 * x) % 16777216], ((ma l c).2 + 10 * x) / 16777216) := by
  induction l generalizing c with
  | nil => rfl
  | cons y r ih => simp only [List.cons_append, ma, ih]
theorem ma_carry (l : List Int) (h : InR 16777216 l) (c : Int) (hc : 0 ≤ c ∧ c < 10) : 0 ≤ (ma l c).2 ∧ (ma l c).2 < 10 := by
  induction l generalizing c with
  | nil => exact hc
  | cons x r ih =>
    have hx := h.head
    exact ih h.tail _ (by omega)
theorem ma_range (l : List Int) (c : Int) : InR 16777216 (ma l c).1 := by
  induction l generalizing c with
  | nil => intro x hx; cases hx
  | cons x r ih =>
    intro y hy
    cases hy with
    | head => omega
    | tail _ hy => exact ih _ y hy
theorem ma_val (l : List Int) (h : InR 16777216 l) (c : Int) (hc : 0 ≤ c) : vl 16777216 (ma l c).1 + 16777216 ^ l.length * (ma l c).2.toNat = 10 * vl 16777216 l + c.toNat := by
  induction l generalizing c with
  | nil => simp [ma, vl]
  | cons x r ih =>
    have hx := h.head
    have := ih h.tail ((c + 10 * x) / 16777216) (by omega)
    simp only [ma, vl, List.length_cons]
    rw [Nat.pow_succ, Nat.mul_comm (16777216 ^ r.length), Nat.mul_assoc, Nat.add_assoc, ← Nat.mul_add, this]
    clear this ih h
    generalize vl 16777216 r = V
    have h1 : ((c + 10 * x) % 16777216).toNat + 16777216 * ((c + 10 * x) / 16777216).toNat = (c + 10 * x).toNat := by omega
    rw [Nat.mul_add, Nat.mul_add, Nat.mul_left_comm 10 16777216 V]
    have h2 : (c + 10 * x).toNat = c.toNat + 10 * x.toNat := by omega
    omega
/-- The limbs of ten times a number and a digit. -/
theorem ma_limbs (n : Nat) (c : Int) (hc : 0 ≤ c ∧ c < 10) :
    (0 < (ma (limbs n) c).2 → (ma (limbs n) c).1 ++ [(ma (limbs n) c).2] = limbs (10 * n + c.toNat)) ∧ (¬ 0 < (ma (limbs n) c).2 → (ma (limbs n) c).1 = limbs (10 * n + c.toNat)) := by
  have hr := limbs_range n
  have hcar := ma_carry (limbs n) hr c hc
  have hran := ma_range (limbs n) c
  have hv := ma_val (limbs n) hr c hc.1
  have hl := ma_len (limbs n) c
  rw [limbs_val] at hv
  constructor
  · intro hp
    have h1 : vl 16777216 ((ma (limbs n) c).1 ++ [(ma (limbs n) c).2]) = 10 * n + c.toNat := by rw [vl_snoc, hl, hv]
    rw [← h1]
    refine limbs_uniq _ (hran.snoc (by omega)) (.inr ⟨by simp, ?_⟩)
    simp
    omega
  · intro hp
    have h0 : (ma (limbs n) c).2 = 0 := by omega
    have h1 : vl 16777216 (ma (limbs n) c).1 = 10 * n + c.toNat := by rw [← hv, h0]; simp
    rw [← h1]
    refine limbs_uniq _ hran ?_
    rcases limbs_trim n with h2 | ⟨h2, h3⟩
    · rw [h2]; exact .inl rfl
    · obtain ⟨m, x, hmx, hx0⟩ : ∃ m x, limbs n = m ++ [x] ∧ x ≠ 0 := by
        have hne : limbs n ≠ [] := by intro h; rw [h] at h2; simp at h2
        refine ⟨(limbs n).dropLast, (limbs n).getLast hne, (List.dropLast_concat_getLast hne).symm, ?_⟩
        rw [List.getLast_eq_getElem]; exact h3
      have hxr := hr x (by rw [hmx]; simp)
      rw [hmx] at h0 ⊢
      rw [ma_snoc] at h0 ⊢
      have hmc := ma_carry m (fun y hy => hr y (by rw [hmx]; exact List.mem_append_left _ hy)) c hc
      dsimp only at h0 ⊢
      refine .inr ⟨by simp, ?_⟩
      simp
      omega
theorem ten_limbs : (10 : Nat) ^ 2000 < 16777216 ^ 300 := by decide +kernel
theorem limbs_len300 {n : Nat} (h : n < 10 ^ 2000) : (limbs n).length ≤ 300 := limbs_len_le 300 n (Nat.lt_trans h ten_limbs)
end Go.Proofs.YtbllgmcpebifhaaGreatDoor.K
end
