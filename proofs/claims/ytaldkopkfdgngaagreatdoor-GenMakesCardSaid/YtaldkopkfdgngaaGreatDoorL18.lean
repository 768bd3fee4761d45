/- Plain laws: a move turned. -/
import Derived.Test.YtaldkopkfdgngaaGreatDoorL17
set_option linter.all false
set_option maxRecDepth 100000
namespace Go.Proofs.YtaldkopkfdgngaaGreatDoor
open Go Am

section
variable {p : PosD} {m : MoveD}

def stepD (c lf lt acc r : Int) : Int := bif bAnd .i64 c r != 0 && (goneB lf r && goneB lt r) then IntKind.wrap .i64 (acc + r) else acc
end

end Go.Proofs.YtaldkopkfdgngaaGreatDoor

