/- A whole number out of a value. -/
import Derived.Test.YtbllgmcpebifhaaGreatDoorZGf
import Derived.Test.YtbllgmcpebifhaaGreatDoorZMa

section
namespace Go.Proofs.YtbllgmcpebifhaaGreatDoor.K
open Go Go.RowKit
set_option linter.all false
set_option maxRecDepth 4000
set_option maxHeartbeats 1000000
set_option exponentiation.threshold 8000

end Go.Proofs.YtbllgmcpebifhaaGreatDoor.K
end

section
/- Decimal texts, read into large numbers. -/
namespace Go.Proofs.YtbllgmcpebifhaaGreatDoor.K
open Go Go.RowKit
set_option linter.all false
set_option maxRecDepth 4000
set_option maxHeartbeats 1000000
set_option exponentiation.threshold 8000

end Go.Proofs.YtbllgmcpebifhaaGreatDoor.K
end

section
/- ParseWhole. -/
namespace Go.Proofs.YtbllgmcpebifhaaGreatDoor.K
open Go Go.RowKit
set_option linter.all false
set_option maxRecDepth 4000
set_option maxHeartbeats 1000000
set_option exponentiation.threshold 8000

/-- What ParseWhole hands back. -/
def PPW (t : List UInt8) (r : Value) (L' : List Own) (F' : List Fact) : Prop :=
  (Spells t ∧ (tval t).natAbs < 2 ^ 4800 ∧ ∃ u, r = .tuple #[vWhole (sgn (tval t)) u, .int .i64 0] ∧ L' = [.row u 2 1 (limbs (tval t).natAbs).length ((limbs (tval t).natAbs).map (Value.int .i64))] ∧ F' = []) ∨
  (¬ (Spells t ∧ (tval t).natAbs < 2 ^ 4800) ∧ ∃ code, code ≠ 0 ∧ r = .tuple #[vWhole 0 (.slice none 0 0), .int .i64 code] ∧ L' = [] ∧ F' = [])
theorem PPW.bad {t : List UInt8} {code : Int} (h : ¬ (Spells t ∧ (tval t).natAbs < 2 ^ 4800)) (hc : code ≠ 0) : PPW t (.tuple #[vWhole 0 (.slice none 0 0), .int .i64 code]) [] [] := .inr ⟨h, code, hc, rfl, rfl, rfl⟩

end Go.Proofs.YtbllgmcpebifhaaGreatDoor.K
end
