/- Plain laws: the document's answer: what a board lacks; rays. -/
import Derived.Test.YtaldkopkfdgngaaGreatDoorL8
set_option linter.all false
set_option maxRecDepth 100000
namespace Go.Proofs.YtaldkopkfdgngaaGreatDoor
open Go Am

def w (x : Int) : Int := IntKind.wrap .i64 x
def one (p : Int → Bool) (x : Int) : Nat := bif p x then 1 else 0
theorem countP_one (p : Int → Bool) (a : Int) (l : List Int) : (a :: l).countP p = one p a + l.countP p := by
  rw [countP_step]; unfold one; cases p a <;> simp [Nat.add_comm]

theorem right_or (x : Int) : rightM x = true ∨ (∀ c : Int, rightM c = true → (x == c) = false) := by
  cases h : rightM x with
  | true => exact .inl rfl
  | false =>
    right
    intro c hc
    cases hq : x == c with
    | false => rfl
    | true =>
      have : x = c := by simpa using hq
      rw [this, hc] at h; cases h

theorem king0 (x : Int) : one (isM 6 0) x = one (· == 6) x := by
  cases h : rightM x with
  | true => rcases men_cases h with rfl | rfl | rfl | rfl | rfl | rfl | rfl | rfl | rfl | rfl | rfl | rfl <;> rfl
  | false =>
    have h' := (right_or x).resolve_left (by rw [h]; simp)
    simp only [one, isM, h, h' 6 rfl, Bool.false_and, cond_false]
theorem king1 (x : Int) : one (isM 6 1) x = one (· == -6) x := by
  cases h : rightM x with
  | true => rcases men_cases h with rfl | rfl | rfl | rfl | rfl | rfl | rfl | rfl | rfl | rfl | rfl | rfl <;> rfl
  | false =>
    have h' := (right_or x).resolve_left (by rw [h]; simp)
    simp only [one, isM, h, h' (-6) rfl, Bool.false_and, cond_false]

theorem kings0 : ∀ l : List Int, l.countP (isM 6 0) = l.countP (· == 6)
  | [] => rfl
  | x :: l => by have := kings0 l; have := king0 x; simp only [countP_one]; omega
theorem kings1 : ∀ l : List Int, l.countP (isM 6 1) = l.countP (· == -6)
  | [] => rfl
  | x :: l => by have := kings1 l; have := king1 x; simp only [countP_one]; omega

end Go.Proofs.YtaldkopkfdgngaaGreatDoor

