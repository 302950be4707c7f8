/- Large numbers with their sign: Sign, Abs, Neg, Int64, Rsh of numbers that are at least 0. -/
import Derived.Test.YtbllgmcpebifhaaGreatDoorZGd
namespace Go.Proofs.YtbllgmcpebifhaaGreatDoor.K
open Go Go.RowKit
set_option linter.all false
set_option maxRecDepth 4000
set_option maxHeartbeats 1000000
set_option exponentiation.threshold 8000

def sgn (e : Int) : Int := if e = 0 then 0 else if e < 0 then -1 else 1
/-- A value is handed back, and R stays. -/
def PVal (u : Value) (R : List Own) (r : Value) (L' : List Own) (F' : List Fact) : Prop := r = u ∧ L' = R ∧ F' = []

theorem Sign_spec (x : Nat) (v : Int) (mx : Value) (R : List Own) (hx : oInt x v mx ∈ R) :
    Spec Tryz.prog 159 [ptr x] R [fDig mx v.natAbs] (PVal (.int .i64 (sgn v)) R) := by
  refine enter Tryz.func159 Tryz.ntmps159 rfl (by kernel_rfl) zCon rfl fun G => ?_
  refine c_dig (mag := mx) zMem fun d hd => ?_
  refine c_isList (v := mx) zMem fun hs1 => ?_
  all_goals ((try refine zR ?_) <;> (repeat' (with_reducible first | refine And.intro ?_ ?_ | intro _)))
  all_goals refine e_res rfl zRes _ [] (fun _ h => h) (fun _ h => h.apart) fsub_nil ⟨?_, rfl, rfl⟩
  all_goals (simp only [retVal, sgn]; congr 1)
  · have := hd.zero (by omega)
    rw [if_pos (by omega)]
  · have hn : ¬ (d.length : Int) = 0 := by assumption
    have := hd.pos (by omega)
    have hneg : v < 0 := by assumption
    rw [if_neg (by omega), if_pos hneg]
  · have hn : ¬ (d.length : Int) = 0 := by assumption
    have := hd.pos (by omega)
    have hneg : ¬ v < 0 := by assumption
    rw [if_neg (by omega), if_neg hneg]

end Go.Proofs.YtbllgmcpebifhaaGreatDoor.K
