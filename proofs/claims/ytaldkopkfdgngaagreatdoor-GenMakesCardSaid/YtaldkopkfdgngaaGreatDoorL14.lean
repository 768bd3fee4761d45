/- Plain laws: the document's answer: the position behind a move. -/
import Derived.Test.YtaldkopkfdgngaaGreatDoorL13
set_option linter.all false
set_option maxRecDepth 100000
namespace Go.Proofs.YtaldkopkfdgngaaGreatDoor
open Go Am

def goneB (z r : Int) : Bool := Int.tmod (IntKind.wrap .i64 (Int.tdiv z r)) 2 == 0
theorem wrong_spec {p : PosD} (h : wrongP p = 0) : (wrongB p.1 != 0) = false ∧ (0 ≤ p.2.2.1 ∧ p.2.2.1 ≤ 15) ∧ (-1 ≤ p.2.2.2.1 ∧ p.2.2.2.1 < 64) ∧ castlesP p = true := by
  unfold wrongP at h
  cases h1 : wrongB p.1 != 0 with
  | true => rw [h1] at h; simp at h1; exact (h1 h).elim
  | false =>
    rw [h1] at h
    cases h2 : decide (otherS p.2.1 < 0) with
    | true => rw [h2] at h; cases h
    | false =>
      cases h3 : decide (p.2.2.1 < 0) with
      | true => rw [h2, h3] at h; cases h
      | false =>
        cases h4 : decide (p.2.2.1 > 15) with
        | true => rw [h2, h3, h4] at h; cases h
        | false =>
          cases h5 : decide (p.2.2.2.1 < -1) with
          | true => rw [h2, h3, h4, h5] at h; cases h
          | false =>
            cases h6 : decide (p.2.2.2.1 ≥ 64) with
            | true => rw [h2, h3, h4, h5, h6] at h; cases h
            | false =>
              rw [h2, h3, h4, h5, h6] at h
              cases h7 : decide (farS (kingB p.1 0) (kingB p.1 1) ≤ 1) with
              | true => rw [h7] at h; cases h
              | false =>
                cases h8 : checkB p.1 (otherS p.2.1) with
                | true => rw [h7, h8] at h; cases h
                | false =>
                  cases h9 : castlesP p with
                  | false => rw [h7, h8, h9] at h; cases h
                  | true =>
                    simp at h3 h4 h5 h6
                    exact ⟨rfl, by omega, by omega, rfl⟩

section
variable {p : PosD} {m : MoveD}

end

end Go.Proofs.YtaldkopkfdgngaaGreatDoor

