/- Large numbers with their sign: sums and differences. -/
import Derived.Test.YtbllgmcpebifhaaGreatDoorZGa
namespace Go.Proofs.YtbllgmcpebifhaaGreatDoor.K
open Go Go.RowKit
set_option linter.all false
set_option maxRecDepth 4000
set_option maxHeartbeats 1000000
set_option exponentiation.threshold 8000

theorem vl_drop (b : Nat) (l : List Int) (i : Nat) (hi : i < l.length) : vl b (l.drop i) = l[i].toNat + b * vl b (l.drop (i + 1)) := by
  rw [List.drop_eq_getElem_cons hi, vl]
theorem vl_split (b : Nat) (a : List Int) (k : Nat) (hk : k < a.length) : vl b a = vl b (a.take k) + b ^ k * (a[k].toNat + b * vl b (a.drop (k + 1))) := by
  conv => lhs; rw [← List.take_append_drop k a]
  rw [vl_append, List.length_take, Nat.min_eq_left (by omega), vl_drop b a k hk]
theorem cmp_at (B : Nat) (a b : List Int) (k : Nat) (ha : InR B a) (hb : InR B b) (hk : k < a.length) (hkb : k < b.length) (hd : a.drop (k + 1) = b.drop (k + 1)) (hlt : a[k] < b[k]) : vl B a < vl B b := by
  have h1 := vl_split B a k hk
  have h2 := vl_split B b k hkb
  rw [hd] at h1
  have h3 := vl_lt B _ (ha.take k)
  rw [List.length_take, Nat.min_eq_left (by omega)] at h3
  have p1 := ha _ (List.getElem_mem hk)
  have p2 := hb _ (List.getElem_mem hkb)
  have h4 : B ^ k * (a[k].toNat + B * vl B (b.drop (k + 1)) + 1) ≤ B ^ k * (b[k].toNat + B * vl B (b.drop (k + 1))) := Nat.mul_le_mul_left _ (by omega)
  rw [Nat.mul_add, Nat.mul_one] at h4
  omega
end Go.Proofs.YtbllgmcpebifhaaGreatDoor.K
