/- Plain laws: GenFrom. -/
import Derived.Test.YtaldkopkfdgngaaGreatDoorL36
set_option linter.all false
set_option maxRecDepth 100000
namespace Go.Proofs.YtaldkopkfdgngaaGreatDoor
open Go Am

def eqM (a b : MoveD) : Bool := Ty.beq (.pair (.int .i64) (.pair (.int .i64) (.pair (.int .i64) .unit))) a b
theorem eqM_iff {a b : MoveD} : eqM a b = true ↔ a = b := beqM_iff a b

theorem drop_consM {l : List MoveD} {i : Nat} (h : i < l.length) : l.drop i = l.getD i (0, 0, 0, ()) :: l.drop (i + 1) := by
  rw [List.drop_eq_getElem_cons h, List.getD_eq_getElem?_getD, List.getElem?_eq_getElem h]; rfl

end Go.Proofs.YtaldkopkfdgngaaGreatDoor

