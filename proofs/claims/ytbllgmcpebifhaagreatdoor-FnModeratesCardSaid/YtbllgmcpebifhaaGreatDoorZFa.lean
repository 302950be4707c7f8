/- First functions. -/
import Derived.Test.YtbllgmcpebifhaaGreatDoorZKl
import Derived.Test.YtbllgmcpebifhaaGreatDoorZKt
namespace Go.Proofs.YtbllgmcpebifhaaGreatDoor.K
open Go Go.RowKit
set_option linter.all false
set_option maxRecDepth 4000
set_option maxHeartbeats 1000000

/-- A whole number's fields, as the laws hand them over. -/
abbrev vWhole (sg : Int) (v : Value) : Value := .agg #[.int .i64 sg, v]
abbrev vDyadic (sg : Int) (v : Value) (e : Int) : Value := .agg #[.int .i64 sg, v, .int .i64 e]
end Go.Proofs.YtbllgmcpebifhaaGreatDoor.K
