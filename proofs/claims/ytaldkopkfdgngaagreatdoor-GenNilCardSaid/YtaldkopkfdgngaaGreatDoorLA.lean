import Derived.Test.YtaldkopkfdgngaaGreatDoorR3
import Derived.KernelRfl
set_option linter.all false
set_option maxRecDepth 100000
namespace Go.Proofs.YtaldkopkfdgngaaGreatDoor
open Go Am Go.Proofs
/-! ### GenNil -/
theorem wakes10 {S : Type} (k : Bool → Option S) : F_law10_wakes k = k true := by kernel_rfl
theorem nil_eq (p : PosD) (m : MoveD) {S : Type} (k : Bool → Option S) : F_law10_GenNil p m k = k true := by
  unfold F_law10_GenNil R_law10_GenNil
  refine (wakes10 _).trans ?_
  kernel_rfl
end Go.Proofs.YtaldkopkfdgngaaGreatDoor
