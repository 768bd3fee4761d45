/- Plain laws: a board turned. -/
import Derived.Test.YtaldkopkfdgngaaGreatDoorL15
set_option linter.all false
set_option maxRecDepth 100000
namespace Go.Proofs.YtaldkopkfdgngaaGreatDoor
open Go Am

def fl (s : Int) : Int := 8 * (7 - s / 8) + s % 8
/-- A board of men. -/
structure Mb (b : List Int) : Prop where
  len : b.length = 64
  men : ∀ i : Nat, -6 ≤ b.getD i 0 ∧ b.getD i 0 ≤ 6
theorem Mb.set {b : List Int} (h : Mb b) {i : Nat} (hi : i < 64) {x : Int} (hx : -6 ≤ x ∧ x ≤ 6) : Mb (b.set i x) := by
  refine ⟨by simp [h.len], fun j => ?_⟩
  rw [getD_set _ _ _ _ (by rw [h.len]; exact hi)]
  split
  · exact hx
  · exact h.men j
theorem Mb.bd {b : List Int} (h : Mb b) : Bd b := by
  refine ⟨h.len, fun x hx => ?_⟩
  obtain ⟨i, hi, rfl⟩ := List.mem_iff_getElem.1 hx
  have := h.men i
  rw [List.getD_eq_getElem?_getD, List.getElem?_eq_getElem hi] at this
  simp at this
  omega

theorem side_none {m : Int} (h : rightM m = false) : sideM m = -1 := by unfold sideM; rw [h]; rfl
end Go.Proofs.YtaldkopkfdgngaaGreatDoor

