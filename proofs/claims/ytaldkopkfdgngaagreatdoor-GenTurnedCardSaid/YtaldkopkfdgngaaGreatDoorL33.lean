/- Plain laws: the document's answer: does a man go so; all moves. -/
import Derived.Test.YtaldkopkfdgngaaGreatDoorL32
set_option linter.all false
set_option maxRecDepth 100000
namespace Go.Proofs.YtaldkopkfdgngaaGreatDoor
open Go Am

/-- Does a man go so, in a right position? -/
def goesP (p : PosD) (m : MoveD) : Bool := formedP p m && (bif pawnP p m then pawnR p m else hitsR p.1 m.1 m.2.1 || decide (rightR p m > 0))

section
variable {p : PosD}

theorem ref10_Right_eq (hb : Bd p.1) {S : Type} (k : Bool → Option S) : F_ref10_Right p k = k (wrongP p == 0) := by
  unfold F_ref10_Right R_ref10_Right
  rw [ref08_Wrong_eq hb]

end

theorem beqM (a b : MoveD) : Ty.beq (.pair (.int .i64) (.pair (.int .i64) (.pair (.int .i64) .unit))) a b = (a.1 == b.1 && (a.2.1 == b.2.1 && (a.2.2.1 == b.2.2.1 && true))) := rfl
theorem beqM_iff (a b : MoveD) : Ty.beq (.pair (.int .i64) (.pair (.int .i64) (.pair (.int .i64) .unit))) a b = true ↔ a = b := by
  obtain ⟨a1, a2, a3, ⟨⟩⟩ := a
  obtain ⟨b1, b2, b3, ⟨⟩⟩ := b
  rw [beqM]
  simp
end Go.Proofs.YtaldkopkfdgngaaGreatDoor

