/- The reference's rounding: exact where it can be. -/
import Derived.Test.YtbllgmcpebifhaaGreatDoorZJj

section
namespace Go.Proofs.YtbllgmcpebifhaaGreatDoor.K
open Go Go.RowKit
set_option linter.all false
set_option exponentiation.threshold 6000

theorem frep_small {V : Nat} (h : V ≤ 2 ^ 53) : FRep (V * 2 ^ 1074) := by
  refine frep_of V 1074 h ?_
  have h1 : V * 2 ^ 1074 ≤ 2 ^ 53 * 2 ^ 1074 := Nat.mul_le_mul_right _ h
  rw [← Nat.pow_add] at h1
  exact Nat.lt_of_le_of_lt h1 ((Nat.pow_lt_pow_iff_right (a := 2) (by omega)).2 (by omega))
theorem round_low {s b : Nat} (hs : s < 2 ^ b) (k : Nat) (hk : b ≤ 53 + k) : s / 2 ^ k < 2 ^ 53 := by
  rw [Nat.div_lt_iff_lt_mul (Nat.pow_pos (by omega)), ← Nat.pow_add]
  exact Nat.lt_of_lt_of_le hs (Nat.pow_le_pow_right (by omega) hk)
end Go.Proofs.YtbllgmcpebifhaaGreatDoor.K
end

section
/- The reference's rounding: the walk. -/
namespace Go.Proofs.YtbllgmcpebifhaaGreatDoor.K
open Go Go.RowKit
set_option linter.all false
set_option maxRecDepth 4000
set_option maxHeartbeats 1000000
set_option exponentiation.threshold 6000

end Go.Proofs.YtbllgmcpebifhaaGreatDoor.K
end
