/- Plain laws: the document's answer: what is wrong with a position; moves. -/
import Derived.Test.YtaldkopkfdgngaaGreatDoorL11
set_option linter.all false
set_option maxRecDepth 100000
namespace Go.Proofs.YtaldkopkfdgngaaGreatDoor
open Go Am

theorem bne_not (x y : Int) : (x != y) = !(x == y) := rfl

theorem wrongB_spec {b : List Int} (h : (wrongB b != 0) = false) : rightB b = true ∧ manyB b 6 0 = 1 ∧ manyB b 6 1 = 1 := by
  unfold wrongB at h
  cases h1 : rightB b with
  | false => rw [h1] at h; cases h
  | true =>
    rw [h1] at h
    cases h2 : Ty.beq (.arr 64 (.int .i8)) b (List.replicate 64 (0 : Int)) with
    | true => rw [h2] at h; cases h
    | false =>
      rw [h2] at h
      cases h3 : manyB b 6 0 != 1 with
      | true => rw [h3] at h; cases h
      | false =>
        rw [h3] at h
        cases h4 : manyB b 6 1 != 1 with
        | true => rw [h4] at h; cases h
        | false => exact ⟨rfl, by simpa using h3, by simpa using h4⟩

end Go.Proofs.YtaldkopkfdgngaaGreatDoor

