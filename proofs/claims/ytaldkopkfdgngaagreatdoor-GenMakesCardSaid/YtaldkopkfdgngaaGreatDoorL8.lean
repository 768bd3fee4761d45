/- Plain laws: the document's answer: squares, men, boards. -/
import Derived.Test.YtaldkopkfdgngaaGreatDoorL6
set_option linter.all false
set_option maxRecDepth 100000
namespace Go.Proofs.YtaldkopkfdgngaaGreatDoor
open Go Am

theorem rankS_nat {t : Nat} (h : t < 64) : rankS (t : Int) = (t : Int) / 8 := by
  unfold rankS; rw [show rightS (t : Int) = true from rightS_iff.2 (by omega)]; rfl
theorem rankS_of {s : Int} (h : 0 ≤ s ∧ s < 64) : rankS s = s / 8 := by
  unfold rankS; rw [rightS_iff.2 h]; rfl

theorem men_cases {m : Int} (h : rightM m = true) : m = 1 ∨ m = -1 ∨ m = 2 ∨ m = -2 ∨ m = 3 ∨ m = -3 ∨ m = 4 ∨ m = -4 ∨ m = 5 ∨ m = -5 ∨ m = 6 ∨ m = -6 := by
  have := rightM_bounds h; omega

end Go.Proofs.YtaldkopkfdgngaaGreatDoor

