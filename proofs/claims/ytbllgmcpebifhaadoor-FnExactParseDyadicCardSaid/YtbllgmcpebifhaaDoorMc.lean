/- Plain laws: shifts, differences and products of digits; decimal texts read. -/
import Derived.Test.YtbllgmcpebifhaaDoorMb
namespace Go.Proofs.YtbllgmcpebifhaaDoor.K
open Go Go.Lib
set_option linter.all false

/-! ### shifts -/
theorem lshS_step (B S K V p c x : Nat) (h : p + K * c = S * V) : p + K * (c + x * S % B) + K * B * (x * S / B) = S * (V + K * x) := by
  have h1 := Nat.div_add_mod (x * S) B
  have h2 : K * (x * S % B) + K * (B * (x * S / B)) = K * (x * S) := by
    rw [← Nat.mul_add, Nat.add_comm, h1]
  have h3 : S * (V + K * x) = S * V + K * (x * S) := by rw [Nat.mul_add, Nat.mul_left_comm, Nat.mul_comm S x]
  rw [Nat.mul_add, Nat.mul_assoc K B, h3, ← h]
  omega

/-- A list of digits, shifted down by s bits (s less than a digit's). -/
def rshl (s : Nat) : List Int → List Int
  | [] => []
  | x :: r => ((x + r.headD 0 * 4294967296) / (2 : Int) ^ s % 4294967296) :: rshl s r
theorem rshl_len (s : Nat) (l : List Int) : (rshl s l).length = l.length := by
  induction l with
  | nil => rfl
  | cons x r ih => simp [rshl, ih]
theorem rshl_range (s : Nat) (l : List Int) : InR 4294967296 (rshl s l) := by
  induction l with
  | nil => intro x hx; cases hx
  | cons x r ih =>
    intro y hy
    cases hy with
    | head => omega
    | tail _ hy => exact ih y hy
theorem rsh_step (S T x y W : Nat) (hS : 0 < S) (hx : x < S * T) : ((x + y * (S * T)) / S % (S * T)) + (S * T) * ((y + S * T * W) / S) = (x + S * T * (y + S * T * W)) / S := by
  have e1 : (x + y * (S * T)) / S = x / S + T * y := by
    rw [show y * (S * T) = S * (T * y) by rw [Nat.mul_comm y, Nat.mul_assoc], Nat.add_mul_div_left _ _ hS]
  have e2 : (y + S * T * W) / S = y / S + T * W := by rw [Nat.mul_assoc, Nat.add_mul_div_left _ _ hS]
  have e3 : (x + S * T * (y + S * T * W)) / S = x / S + T * (y + S * T * W) := by rw [Nat.mul_assoc S T (y + _), Nat.add_mul_div_left _ _ hS]
  have e4 : x / S < T := Nat.div_lt_of_lt_mul hx
  have e5 : T * y = S * T * (y / S) + T * (y % S) := by
    conv => lhs; rw [← Nat.div_add_mod y S]
    rw [Nat.mul_add, ← Nat.mul_assoc, Nat.mul_comm T S]
  have e6 : T * (y % S) + T ≤ S * T := by
    have := Nat.mul_le_mul_left T (Nat.mod_lt y hS)
    rw [Nat.mul_succ, Nat.mul_comm T S] at this
    exact this
  have e7 : (x / S + T * y) % (S * T) = x / S + T * (y % S) := by
    rw [e5, show x / S + (S * T * (y / S) + T * (y % S)) = x / S + T * (y % S) + S * T * (y / S) by omega, Nat.add_mul_mod_self_left, Nat.mod_eq_of_lt (by omega)]
  have e8 : T * (y + S * T * W) = S * T * (y / S) + T * (y % S) + S * T * (T * W) := by
    rw [Nat.mul_add, e5, show T * (S * T * W) = S * T * (T * W) by ac_rfl]
  rw [e1, e2, e3, e7, e8, Nat.mul_add]
  omega
theorem vl_head (B : Nat) (l : List Int) : ∃ W, vl B l = (l.headD 0).toNat + B * W := by
  cases l with
  | nil => exact ⟨0, by simp [vl]⟩
  | cons x r => exact ⟨vl B r, by simp [vl]⟩
theorem InR.headD {b : Nat} {l : List Int} (h : InR b l) (hb : 0 < b) : 0 ≤ l.headD 0 ∧ l.headD 0 < (b : Int) := by
  cases l with
  | nil => exact ⟨Int.le_refl _, by simpa using hb⟩
  | cons x r => exact h.head
theorem rsh_digit (s : Nat) (x y : Int) (hx : 0 ≤ x) (hy : 0 ≤ y) : ((x + y * 4294967296) / (2 : Int) ^ s % 4294967296).toNat = (x.toNat + y.toNat * 4294967296) / 2 ^ s % 4294967296 := by
  obtain ⟨a, rfl⟩ := Int.eq_ofNat_of_zero_le hx
  obtain ⟨e, rfl⟩ := Int.eq_ofNat_of_zero_le hy
  have h1 : (2 : Int) ^ s = ((2 ^ s : Nat) : Int) := by simp
  rw [h1, show ((a : Int) + (e : Int) * 4294967296) = ((a + e * 4294967296 : Nat) : Int) by omega, ← Int.natCast_ediv, show (4294967296 : Int) = ((4294967296 : Nat) : Int) from rfl, ← Int.natCast_emod]
  exact Int.toNat_natCast _
theorem vl_rshl (s : Nat) (hs : s ≤ 32) (l : List Int) (h : InR 4294967296 l) : vl 4294967296 (rshl s l) = vl 4294967296 l / 2 ^ s := by
  induction l with
  | nil => simp [rshl, vl]
  | cons x r ih =>
    have ih := ih h.tail
    have hx := h.head
    have hy := InR.headD h.tail (by omega)
    obtain ⟨W, hW⟩ := vl_head 4294967296 r
    have hST : (4294967296 : Nat) = 2 ^ s * 2 ^ (32 - s) := by rw [← Nat.pow_add, show s + (32 - s) = 32 by omega]
    have := rsh_step (2 ^ s) (2 ^ (32 - s)) x.toNat (r.headD 0).toNat W (Nat.pow_pos (by omega)) (by rw [← hST]; omega)
    rw [← hST] at this
    rw [rshl, vl, vl, rsh_digit s x _ hx.1 hy.1, ih, hW]
    exact this
theorem vl_drop_div (B : Nat) (hB : 0 < B) (l : List Int) (h : InR B l) (k : Nat) : vl B (l.drop k) = vl B l / B ^ k := by
  rcases Nat.lt_or_ge k l.length with hk | hk
  · conv => rhs; rw [← List.take_append_drop k l]
    rw [vl_append, List.length_take, Nat.min_eq_left (by omega)]
    have h1 := vl_lt B _ (h.take k)
    rw [List.length_take, Nat.min_eq_left (by omega)] at h1
    rw [Nat.add_mul_div_left _ _ (Nat.pow_pos hB), Nat.div_eq_of_lt h1, Nat.zero_add]
  · rw [List.drop_eq_nil_of_le hk]
    have h1 := vl_lt B _ h
    rw [Nat.div_eq_of_lt (Nat.lt_of_lt_of_le h1 (Nat.pow_le_pow_right hB hk))]
    rfl

/-! ### differences -/
theorem sub_step (B K p V W x y l t l' : Nat) (h : p + W = V + K * l) (ht : t + y + l = x + B * l') : p + K * t + (W + K * y) = (V + K * x) + K * B * l' := by
  have : K * (t + y + l) = K * (x + B * l') := by rw [ht]
  rw [Nat.mul_add, Nat.mul_add, Nat.mul_add, ← Nat.mul_assoc] at this
  omega

/-! ### products -/
theorem vl_set (B : Nat) : ∀ (l : List Int) (j : Nat) (hj : j < l.length) (y : Int), vl B (l.set j y) + B ^ j * (l[j]).toNat = vl B l + B ^ j * y.toNat
  | [], j, hj, _ => by simp at hj
  | x :: r, 0, _, y => by simp only [List.set_cons_zero, vl, Nat.pow_zero, Nat.one_mul, List.getElem_cons_zero]; omega
  | x :: r, j + 1, hj, y => by
    have ih := vl_set B r j (by simpa using hj) y
    simp only [List.set_cons_succ, vl, List.getElem_cons_succ]
    have h1 : B ^ (j + 1) = B * B ^ j := by rw [Nat.pow_succ, Nat.mul_comm]
    rw [h1, Nat.mul_assoc, Nat.mul_assoc, Nat.add_assoc, ← Nat.mul_add, ih, Nat.mul_add]
    omega
theorem InR.set {b : Nat} {l : List Int} (h : InR b l) (j : Nat) {y : Int} (hy : 0 ≤ y ∧ y < (b : Int)) : InR b (l.set j y) := by
  intro x hx
  rcases List.mem_or_eq_of_mem_set hx with h1 | h1
  · exact h x h1
  · rw [h1]; exact hy
theorem mul_step (B K p q c x y o t R : Nat) (hset : q + K * o = p + K * (t % B)) (h : p + K * c = R) (ht : t = c + x * y + o) : q + K * B * (t / B) = R + K * (x * y) := by
  have h1 := Nat.div_add_mod t B
  have h2 : K * (t % B) + K * (B * (t / B)) = K * c + K * (x * y) + K * o := by
    rw [← Nat.mul_add, Nat.add_comm (t % B), h1, ht, Nat.mul_add, Nat.mul_add]
  rw [Nat.mul_assoc]
  omega

/-! ### decimal texts -/
def isd (c : UInt8) : Prop := 48 ≤ c.toNat ∧ c.toNat ≤ 57
instance (c : UInt8) : Decidable (isd c) := by unfold isd; infer_instance
def dval (l : List UInt8) : Nat := l.foldl (fun a c => 10 * a + (c.toNat - 48)) 0
theorem dval_snoc (l : List UInt8) (c : UInt8) : dval (l ++ [c]) = 10 * dval l + (c.toNat - 48) := by simp [dval]
theorem u8_digit {c : UInt8} (h : isd c) : UInt8.ofNat (48 + (c.toNat - 48)) = c := by
  have : 48 + (c.toNat - 48) = c.toNat := by have := h.1; omega
  rw [this]; simp
theorem toNat_digit {k : Nat} (h : k < 10) : (UInt8.ofNat (48 + k)).toNat = 48 + k := by
  rw [UInt8.toNat_ofNat']; omega
theorem dec_big {n : Nat} (h : ¬ n < 10) : decDigits n = decDigits (n / 10) ++ [UInt8.ofNat (48 + n % 10)] := by
  conv => lhs; rw [decDigits, dif_neg h]
theorem dval_dec (n : Nat) : dval (decDigits n) = n := by
  induction n using Nat.strongRecOn with
  | _ n ih =>
    by_cases h : n < 10
    · rw [decDigits_one h]
      simp only [dval, List.foldl_cons, List.foldl_nil, toNat_digit h]; omega
    · rw [dec_big h, dval_snoc, ih (n / 10) (by omega), toNat_digit (by omega)]; omega
theorem dec_isd (n : Nat) : ∀ c ∈ decDigits n, isd c := by
  induction n using Nat.strongRecOn with
  | _ n ih =>
    intro c hc
    by_cases h : n < 10
    · rw [decDigits_one h] at hc
      rw [List.mem_singleton.1 hc]
      unfold isd
      rw [toNat_digit h]; omega
    · rw [dec_big h] at hc
      rcases List.mem_append.1 hc with h1 | h1
      · exact ih (n / 10) (by omega) c h1
      · rw [List.mem_singleton.1 h1]
        unfold isd
        rw [toNat_digit (by omega)]; omega
/-- A decimal numeral: not empty, digits alone, no zero ahead of others. -/
def Numl (l : List UInt8) : Prop := l ≠ [] ∧ (∀ c ∈ l, isd c) ∧ (1 < l.length → ∀ c, l.head? = some c → c.toNat ≠ 48)
theorem dec_ne_nil (n : Nat) : decDigits n ≠ [] := by
  by_cases h : n < 10
  · rw [decDigits_one h]; simp
  · rw [dec_big h]; simp
theorem dec_head (n : Nat) (hn : 0 < n) : ∀ c, (decDigits n).head? = some c → c.toNat ≠ 48 := by
  induction n using Nat.strongRecOn with
  | _ n ih =>
    intro c hc
    by_cases h : n < 10
    · rw [decDigits_one h] at hc
      simp only [List.head?_cons, Option.some.injEq] at hc
      rw [← hc, toNat_digit h]; omega
    · rw [dec_big h, List.head?_append] at hc
      cases h1 : (decDigits (n / 10)).head? with
      | none => exact absurd (List.head?_eq_none_iff.1 h1) (dec_ne_nil _)
      | some e =>
        rw [h1] at hc
        simp only [Option.some_or, Option.some.injEq] at hc
        subst hc
        exact ih (n / 10) (by omega) (by omega) e h1
theorem dec_numl (n : Nat) : Numl (decDigits n) := by
  refine ⟨dec_ne_nil n, dec_isd n, fun hl c hc => ?_⟩
  rcases Nat.eq_zero_or_pos n with h | h
  · subst h
    rw [decDigits_one (by omega)] at hl; simp at hl
  · exact dec_head n h c hc
theorem dval_pos {l : List UInt8} (h : ∀ c ∈ l, isd c) (hne : l ≠ []) (h0 : ∀ c, l.head? = some c → c.toNat ≠ 48) : 10 ^ (l.length - 1) ≤ dval l := by
  induction hk : l.length generalizing l with
  | zero => exact absurd (List.eq_nil_of_length_eq_zero hk) hne
  | succ k ih =>
    obtain ⟨m, c, rfl⟩ : ∃ m c, l = m ++ [c] := ⟨l.dropLast, l.getLast hne, (List.dropLast_concat_getLast hne).symm⟩
    have hc := h c (by simp)
    by_cases hm : m = []
    · subst hm
      simp only [List.nil_append, List.length_singleton] at hk
      have := h0 c rfl
      have : k = 0 := by omega
      subst this
      rw [dval_snoc]
      simp [dval]
      have := hc.1
      omega
    · have hk' : m.length = k := by simpa using hk
      have := ih (l := m) (fun c hc => h c (List.mem_append_left _ hc)) hm (fun c hc => h0 c (by rw [List.head?_append, hc]; rfl)) hk'
      have hk1 : 0 < k := by rw [← hk']; exact List.length_pos_iff.2 hm
      rw [dval_snoc]
      have e : k + 1 - 1 = (k - 1) + 1 := by omega
      rw [e, Nat.pow_succ]
      omega
theorem dval_lt {l : List UInt8} (h : ∀ c ∈ l, isd c) : dval l < 10 ^ l.length := by
  induction hk : l.length generalizing l with
  | zero => rw [List.eq_nil_of_length_eq_zero hk]; simp [dval]
  | succ k ih =>
    have hne : l ≠ [] := by intro h; rw [h] at hk; simp at hk
    obtain ⟨m, c, rfl⟩ : ∃ m c, l = m ++ [c] := ⟨l.dropLast, l.getLast hne, (List.dropLast_concat_getLast hne).symm⟩
    have hc := h c (by simp)
    have := ih (l := m) (fun c hc => h c (List.mem_append_left _ hc)) (by simpa using hk)
    rw [dval_snoc, Nat.pow_succ]
    have := hc.2
    omega
theorem dec_dval {l : List UInt8} (h : Numl l) : decDigits (dval l) = l := by
  induction hk : l.length generalizing l with
  | zero => exact absurd (List.eq_nil_of_length_eq_zero hk) h.1
  | succ k ih =>
    obtain ⟨m, c, rfl⟩ : ∃ m c, l = m ++ [c] := ⟨l.dropLast, l.getLast h.1, (List.dropLast_concat_getLast h.1).symm⟩
    have hc := h.2.1 c (by simp)
    have hc2 := hc.2
    by_cases hm : m = []
    · subst hm
      rw [dval_snoc]
      have : dval [] = 0 := rfl
      rw [this, Nat.mul_zero, Nat.zero_add, decDigits_one (by omega), u8_digit hc]
      rfl
    · have hh : ∀ c, m.head? = some c → c.toNat ≠ 48 := fun c hc => h.2.2 (by have := List.length_pos_iff.2 hm; simp; omega) c (by rw [List.head?_append, hc]; rfl)
      have hd : ∀ c ∈ m, isd c := fun c hc => h.2.1 c (List.mem_append_left _ hc)
      have h1 := ih (l := m) ⟨hm, hd, fun _ => hh⟩ (by simpa using hk)
      have h2 := dval_pos hd hm hh
      have h3 : 0 < 10 ^ (m.length - 1) := Nat.pow_pos (by omega)
      rw [dval_snoc, dec_big (by omega), show (10 * dval m + (c.toNat - 48)) / 10 = dval m by omega, show (10 * dval m + (c.toNat - 48)) % 10 = c.toNat - 48 by omega, u8_digit hc, h1]
end Go.Proofs.YtbllgmcpebifhaaDoor.K
