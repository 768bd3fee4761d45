import Derived.Test.YtaldkopkfdgngaaGreatDoorR3
import Derived.KernelRfl
set_option linter.all false
set_option maxRecDepth 100000
namespace Go.Proofs.YtaldkopkfdgngaaGreatDoor
open Go Am Go.Proofs
theorem wakes10 {S : Type} (k : Bool → Option S) : F_law10_wakes k = k true := by kernel_rfl
end Go.Proofs.YtaldkopkfdgngaaGreatDoor

