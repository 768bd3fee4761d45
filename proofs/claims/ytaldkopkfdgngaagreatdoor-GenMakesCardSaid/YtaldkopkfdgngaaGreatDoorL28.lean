/- Plain laws: the board behind a move of the list. -/
import Derived.Test.YtaldkopkfdgngaaGreatDoorL27
set_option linter.all false
set_option maxRecDepth 100000
namespace Go.Proofs.YtaldkopkfdgngaaGreatDoor
open Go Am

def noRim (b : List Int) : Prop := ∀ i : Nat, kindM (b.getD i 0) = 1 → 8 ≤ i ∧ i ≤ 55
theorem noRim_set {b : List Int} (h : noRim b) {j : Nat} (hj : j < b.length) {x : Int} (hx : kindM x = 1 → 8 ≤ j ∧ j ≤ 55) : noRim (b.set j x) := by
  intro i hi
  rw [getD_set _ _ _ _ hj] at hi
  by_cases he : j = i
  · rw [if_pos he] at hi; subst he; exact hx hi
  · rw [if_neg he] at hi; exact h i hi
theorem noRim_of {b : List Int} (hl : b.length = 64) (h : rimB b = false) : noRim b := by
  intro i hi
  rcases Nat.lt_or_ge i 64 with hlt | hge
  · unfold rimB at h
    rw [List.any_eq_false] at h
    have := h i (by simp [List.mem_range'_1]; exact hlt)
    rw [hi, rankS_nat hlt] at this
    simp at this
    omega
  · rw [List.getD_eq_getElem?_getD, List.getElem?_eq_none (by omega)] at hi
    cases hi
theorem wrongB_rim {b : List Int} (h : wrongB b = 0) : rimB b = false := by
  cases hr : rimB b with
  | false => rfl
  | true =>
    unfold wrongB at h
    rw [hr] at h
    revert h
    cases rightB b <;> cases Ty.beq (.arr 64 (.int .i8)) b (List.replicate 64 (0 : Int)) <;> cases manyB b 6 0 != 1 <;> cases manyB b 6 1 != 1 <;> intro h <;> cases h

theorem countP_set (q : Int → Bool) : ∀ (l : List Int) (i : Nat) (x : Int), i < l.length → (l.set i x).countP q + one q (l.getD i 0) = l.countP q + one q x
  | [], i, x, h => by simp at h
  | y :: l, 0, x, h => by
    simp only [List.set_cons_zero, countP_one, List.getD_cons_zero]; omega
  | y :: l, i + 1, x, h => by
    have := countP_set q l i x (by simpa using h)
    simp only [List.set_cons_succ, countP_one, List.getD_cons_succ]
    omega

end Go.Proofs.YtaldkopkfdgngaaGreatDoor

