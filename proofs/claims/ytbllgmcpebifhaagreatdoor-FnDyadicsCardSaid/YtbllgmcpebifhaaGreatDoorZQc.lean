/- Floats of any kind: sizes; the reference's and the program's first functions at them. -/
import Derived.Test.YtbllgmcpebifhaaGreatDoorZQb
import Derived.Laws.BitsAllLaws
namespace Go.Proofs.YtbllgmcpebifhaaGreatDoor.K
open Go Go.RowKit Ieee
set_option linter.all false
set_option maxRecDepth 4000
set_option maxHeartbeats 1000000
set_option exponentiation.threshold 8000

theorem FW.nf {e : Nat} (u : FW e) : nf u.1 = e := u.2.1
/-- The size of a float. -/
def fabs (x : Nat) : Nat := nf (absB x)
theorem read_zero : double.read 0 = .number false 0 (-1074) := by decide +kernel
/-! finite -/
def ffin (x : Nat) : Bool := fcmp .eql (fop .sub x x) 0
def cfin (z : Nat × Nat) : Bool := ffin z.1 && ffin z.2
theorem ffin_nf (x : Nat) : ffin (nf x) = ffin x := by unfold ffin; rw [fop_l, fop_r]
theorem cfin_nf (z : Nat × Nat) : cfin (nf2 z) = cfin z := by simp only [cfin, nf2, ffin_nf]
theorem FW.fin {e : Nat} (u : FW e) : ffin u.1 = ffin e := by rw [← ffin_nf, u.2.1]
theorem CW.eq {e : Nat × Nat} (u : CW e) : nf2 u.1 = e := Prod.ext u.2.1.1 u.2.1.2
theorem CW.fin {e : Nat × Nat} (u : CW e) : cfin u.1 = cfin e := by rw [← cfin_nf, u.eq]
/-! the reference's functions -/
end Go.Proofs.YtbllgmcpebifhaaGreatDoor.K
