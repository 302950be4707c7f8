/- Plain laws: digits to the base 2^32. -/
import Derived.Test.YtbllgmcpebifhaaDoorMa
namespace Go.Proofs.YtbllgmcpebifhaaDoor.K
open Go Go.Lib
set_option linter.all false

theorem vl_snoc (b : Nat) (P : List Int) (x : Int) : vl b (P ++ [x]) = vl b P + b ^ P.length * x.toNat := by
  rw [vl_append]; simp [vl]
theorem vl_take_succ (b : Nat) (l : List Int) (i : Nat) (hi : i < l.length) : vl b (l.take (i + 1)) = vl b (l.take i) + b ^ i * l[i].toNat := by
  rw [List.take_succ_eq_append_getElem hi, vl_snoc, List.length_take, Nat.min_eq_left (Nat.le_of_lt hi)]
theorem InR.snoc {b : Nat} {P : List Int} {x : Int} (h : InR b P) (hx : 0 ≤ x ∧ x < (b : Int)) : InR b (P ++ [x]) := by
  intro y hy
  rcases List.mem_append.1 hy with h' | h'
  · exact h y h'
  · rw [List.mem_singleton.1 h']; exact hx
theorem row_set (P : List Int) (c x : Int) (r : List Int) : (P ++ c :: r).set P.length x = P ++ x :: r := by
  rw [List.set_append_right _ _ (Nat.le_refl _), Nat.sub_self]; rfl
theorem row_get (P : List Int) (c : Int) (r : List Int) : (P ++ c :: r)[P.length]? = some c := by
  rw [List.getElem?_append_right (Nat.le_refl _), Nat.sub_self]; rfl

/-- One step of a shift by 24 bits. -/
theorem lsh_step (K V p c x : Nat) (h : p + K * c = 16777216 * V) :
    p + K * (c + x * 16777216 % 4294967296) + K * 4294967296 * (x * 16777216 / 4294967296) = 16777216 * (V + K * x) := by
  have h1 := Nat.div_add_mod (x * 16777216) 4294967296
  have h2 : K * (x * 16777216 % 4294967296) + K * (4294967296 * (x * 16777216 / 4294967296)) = K * (x * 16777216) := by
    rw [← Nat.mul_add, Nat.add_comm, h1]
  rw [Nat.mul_add, Nat.mul_add, Nat.mul_assoc, ← Nat.mul_assoc 16777216 K x, Nat.mul_comm 16777216 K, Nat.mul_assoc, Nat.mul_comm 16777216 x]
  omega
/-- One step of a sum. -/
theorem add_step (K V W p c x y : Nat) (h : p + K * c = V + W) :
    p + K * ((c + x + y) % 4294967296) + K * 4294967296 * ((c + x + y) / 4294967296) = (V + K * x) + (W + K * y) := by
  have h1 := Nat.div_add_mod (c + x + y) 4294967296
  have h2 : K * ((c + x + y) % 4294967296) + K * (4294967296 * ((c + x + y) / 4294967296)) = K * (c + x + y) := by
    rw [← Nat.mul_add, Nat.add_comm, h1]
  rw [Nat.mul_assoc]
  rw [Nat.mul_add, Nat.mul_add] at h2
  omega
end Go.Proofs.YtbllgmcpebifhaaDoor.K
