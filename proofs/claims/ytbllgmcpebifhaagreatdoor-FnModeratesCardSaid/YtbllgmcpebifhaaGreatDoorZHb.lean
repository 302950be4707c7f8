/- Division by a small number; bytes reversed; the decimal text of a large number. -/
import Derived.Test.YtbllgmcpebifhaaGreatDoorZHa

section
namespace Go.Proofs.YtbllgmcpebifhaaGreatDoor.K
open Go Go.RowKit Go.Lib
set_option linter.all false
set_option maxRecDepth 4000
set_option maxHeartbeats 1000000

end Go.Proofs.YtbllgmcpebifhaaGreatDoor.K
end

section
/- The value of a whole number; texts of exact numbers. -/
namespace Go.Proofs.YtbllgmcpebifhaaGreatDoor.K
open Go Go.RowKit Go.Lib
set_option linter.all false
set_option maxRecDepth 4000
set_option maxHeartbeats 1000000
set_option exponentiation.threshold 8000

end Go.Proofs.YtbllgmcpebifhaaGreatDoor.K
end
