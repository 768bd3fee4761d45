/- The functions of the program, as shallow ones. -/
import Derived.Test.YtaldkopkfdgngaaGreatDoorR2
import Derived.KernelRfl
set_option linter.all false
set_option maxRecDepth 100000
namespace Go.Proofs.YtaldkopkfdgngaaGreatDoor
open Go Am Go.Proofs
end Go.Proofs.YtaldkopkfdgngaaGreatDoor

