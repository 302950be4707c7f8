/- Plain laws: limbs times ten plus a digit. -/
import Derived.Test.YtbllgmcpebifhaaDoorMf
namespace Go.Proofs.YtbllgmcpebifhaaDoor.K
open Go Go.Lib
set_option linter.all false
set_option exponentiation.threshold 8000

def ma : List Int → Int → List Int × Int
  | [], c => ([], c)
  | x :: r, c => ((c + 10 * x) % 16777216 :: (ma r ((c + 10 * x) / 16777216)).1, (ma r ((c + 10 * x) / 16777216)).2)
theorem ma_len (l : List Int) (c : Int) : (ma l c).1.length = l.length := by
  induction l generalizing c with
  | nil => rfl
  | cons x r ih => simp [ma, ih]
theorem ma_snoc (l : List Int) (x c : Int) : ma (l ++ [x]) c = ((ma l c).1 ++ [((ma l c).2 + 10 * x) % 16777216], ((ma l c).2 + 10 * x) / 16777216) := by
  induction l generalizing c with
  | nil => rfl
  | cons y r ih => simp only [List.cons_append, ma, ih]
theorem ma_carry (l : List Int) (h : InR 16777216 l) (c : Int) (hc : 0 ≤ c ∧ c < 10) : 0 ≤ (ma l c).2 ∧ (ma l c).2 < 10 := by
  induction l generalizing c with
  | nil => exact hc
  | cons x r ih =>
    have hx := h.head
    exact ih h.tail _ (by omega)
theorem ma_range (l : List Int) (c : Int) : InR 16777216 (ma l c).1 := by
  induction l generalizing c with
  | nil => intro x hx; cases hx
  | cons x r ih =>
    intro y hy
    cases hy with
    | head => omega
    | tail _ hy => exact ih _ y hy
theorem ma_val (l : List Int) (h : InR 16777216 l) (c : Int) (hc : 0 ≤ c) : vl 16777216 (ma l c).1 + 16777216 ^ l.length * (ma l c).2.toNat = 10 * vl 16777216 l + c.toNat := by
  induction l generalizing c with
  | nil => simp [ma, vl]
  | cons x r ih =>
    have hx := h.head
    have := ih h.tail ((c + 10 * x) / 16777216) (by omega)
    simp only [ma, vl, List.length_cons]
    rw [Nat.pow_succ, Nat.mul_comm (16777216 ^ r.length), Nat.mul_assoc, Nat.add_assoc, ← Nat.mul_add, this]
    clear this ih h
    generalize vl 16777216 r = V
    have h1 : ((c + 10 * x) % 16777216).toNat + 16777216 * ((c + 10 * x) / 16777216).toNat = (c + 10 * x).toNat := by omega
    rw [Nat.mul_add, Nat.mul_add, Nat.mul_left_comm 10 16777216 V]
    have h2 : (c + 10 * x).toNat = c.toNat + 10 * x.toNat := by omega
    omega
/-- The limbs of ten times a number and a digit. -/
theorem ma_limbs (n : Nat) (c : Int) (hc : 0 ≤ c ∧ c < 10) :
    (0 < (ma (limbs n) c).2 → (ma (limbs n) c).1 ++ [(ma (limbs n) c).2] = limbs (10 * n + c.toNat)) ∧ (¬ 0 < (ma (limbs n) c).2 → (ma (limbs n) c).1 = limbs (10 * n + c.toNat)) := by
  have hr := limbs_range n
  have hcar := ma_carry (limbs n) hr c hc
  have hran := ma_range (limbs n) c
  have hv := ma_val (limbs n) hr c hc.1
  have hl := ma_len (limbs n) c
  rw [limbs_val] at hv
  constructor
  · intro hp
    have h1 : vl 16777216 ((ma (limbs n) c).1 ++ [(ma (limbs n) c).2]) = 10 * n + c.toNat := by rw [vl_snoc, hl, hv]
    rw [← h1]
    refine limbs_uniq _ (hran.snoc (by omega)) (.inr ⟨by simp, ?_⟩)
    simp
    omega
  · intro hp
    have h0 : (ma (limbs n) c).2 = 0 := by omega
    have h1 : vl 16777216 (ma (limbs n) c).1 = 10 * n + c.toNat := by rw [← hv, h0]; simp
    rw [← h1]
    refine limbs_uniq _ hran ?_
    rcases limbs_trim n with h2 | ⟨h2, h3⟩
    · rw [h2]; exact .inl rfl
    · obtain ⟨m, x, hmx, hx0⟩ : ∃ m x, limbs n = m ++ [x] ∧ x ≠ 0 := by
        have hne : limbs n ≠ [] := by intro h; rw [h] at h2; simp at h2
        refine ⟨(limbs n).dropLast, (limbs n).getLast hne, (List.dropLast_concat_getLast hne).symm, ?_⟩
        rw [List.getLast_eq_getElem]; exact h3
      have hxr := hr x (by rw [hmx]; simp)
      rw [hmx] at h0 ⊢
      rw [ma_snoc] at h0 ⊢
      have hmc := ma_carry m (fun y hy => hr y (by rw [hmx]; exact List.mem_append_left _ hy)) c hc
      dsimp only at h0 ⊢
      refine .inr ⟨by simp, ?_⟩
      simp
      omega
theorem ten_limbs : (10 : Nat) ^ 2000 < 16777216 ^ 300 := by decide +kernel
theorem limbs_len300 {n : Nat} (h : n < 10 ^ 2000) : (limbs n).length ≤ 300 := limbs_len_le 300 n (Nat.lt_trans h ten_limbs)
end Go.Proofs.YtbllgmcpebifhaaDoor.K
