/- Plain law: MoveMen. -/
import Derived.Test.YtaldkopkfdgngaaGreatDoorL6
set_option linter.all false
set_option maxRecDepth 100000
namespace Go.Proofs.YtaldkopkfdgngaaGreatDoor
open Go Am

theorem side_ne {x : Int} {t : Int} (ht : t = 0 ∨ t = 1) (h : sideM x = t) : x ≠ 0 := by
  rintro rfl
  have : sideM 0 = -1 := rfl
  omega

structure Fm (p : PosD) (m : MoveD) : Prop extends Sq p m where
  mine : sideM (atM p m.1) = p.2.1
  not : atM p m.2.1 = 0 ∨ sideM (atM p m.2.1) ≠ p.2.1
  promo : m.2.2.1 ≠ 0 → pawnP p m = true ∧ 2 ≤ m.2.2.1 ∧ m.2.2.1 ≤ 5

theorem formed_spec {p : PosD} (hb : Bd p.1) {m : MoveD} (hw : wrongP p = 0) (h : formedP p m = true) : Fm p m := by
  have hs := formed_sq hb hw h
  unfold formedP at h
  simp only [Bool.and_eq_true] at h
  obtain ⟨_, _, h3, h4, h5⟩ := h
  refine ⟨hs, by simpa using h3, ?_, ?_⟩
  · by_cases h0 : atM p m.2.1 = 0
    · exact .inl h0
    · right
      intro h1
      have e1 : (atM p m.2.1 != 0) = true := by simpa using h0
      have e2 : (sideM (atM p m.2.1) == p.2.1) = true := by simpa using h1
      rw [e1, e2] at h4
      cases h4
  · intro h0
    cases hp : pawnP p m with
    | false =>
      rw [hp] at h5
      simp at h5
      exact (h0 h5).elim
    | true =>
      refine ⟨rfl, ?_⟩
      rw [hp] at h5
      cases hl : rankS m.2.1 == lastS p.2.1 with
      | false => rw [hl] at h5; simp at h5; exact (h0 h5).elim
      | true => rw [hl] at h5; simpa using h5

section
variable {p : PosD} {m : MoveD}

theorem Fm.ne (h : Fm p m) : m.1 ≠ m.2.1 := by
  intro he
  have h1 := h.mine
  rcases h.not with h2 | h2
  · rw [he] at h1
    exact side_ne h.turn h1 h2
  · rw [← he] at h2
    exact h2 h1

end

end Go.Proofs.YtaldkopkfdgngaaGreatDoor

