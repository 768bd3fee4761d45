/- Plain laws: each move of the list is formed. -/
import Derived.Test.YtaldkopkfdgngaaGreatDoorL24
set_option linter.all false
set_option maxRecDepth 100000
namespace Go.Proofs.YtaldkopkfdgngaaGreatDoor
open Go Am

theorem stepS_spec {s f r t : Int} (h : stepS s f r = some t) : (0 ≤ s ∧ s < 64) ∧ t = 8 * (s / 8 + r) + (s % 8 + f) ∧ (0 ≤ s % 8 + f ∧ s % 8 + f < 8) ∧ (0 ≤ s / 8 + r ∧ s / 8 + r < 8) := by
  unfold stepS at h
  cases hc : (rightS s && (decide (-8 < f) && decide (f < 8) && (decide (-8 < r) && decide (r < 8))) && (onS (s % 8 + f) && onS (s / 8 + r))) with
  | false => rw [hc] at h; cases h
  | true =>
    rw [hc] at h
    cases h
    simp only [Bool.and_eq_true] at hc
    exact ⟨rightS_iff.1 hc.1.1, rfl, onS_iff.1 hc.2.1, onS_iff.1 hc.2.2⟩
theorem stepS_rank {s f r t : Int} (h : stepS s f r = some t) : rankS t = rankS s + r := by
  obtain ⟨h1, h2, h3, h4⟩ := stepS_spec h
  rw [rankS_of h1, rankS_of (stepS_right h)]
  omega

theorem strikes_mem {b : List Int} {s t : Int} (h : t ∈ strikesL b s) : (0 ≤ t ∧ t < 64) ∧ (0 ≤ s ∧ s < 64) ∧ ∃ y ∈ stepsM (b.getD s.toNat 0), t ∈ scanS b (walkS (mostM (b.getD s.toNat 0)) s y.1 y.2.1) := by
  unfold strikesL at h
  cases hq : rightS s && rightB b && !(b.getD s.toNat 0 == 0) with
  | false => rw [hq] at h; cases h
  | true =>
    rw [hq] at h
    simp only [Bool.and_eq_true] at hq
    have h' := (sort_perm _).mem_iff.1 h
    unfold alongS at h'
    obtain ⟨y, hy, ht⟩ := List.mem_flatMap.1 h'
    exact ⟨walkS_right _ _ _ _ _ (scanS_mem _ _ _ ht), rightS_iff.1 hq.1.1, y, hy, ht⟩

theorem walk_one {s f r t : Int} (h : t ∈ walkS 1 s f r) : stepS s f r = some t := by
  simp only [walkS] at h
  cases hs : stepS s f r with
  | none => rw [hs] at h; cases h
  | some u =>
    rw [hs] at h
    cases hq : (f == 0 && (r == 0 && true)) with
    | true => rw [hq] at h; cases h
    | false => rw [hq] at h; simp at h; rw [h]

theorem pawn_strike {b : List Int} {s t : Int} (hk : kindM (b.getD s.toNat 0) = 1) (h : t ∈ strikesL b s) : ∃ f, (f = 1 ∨ f = -1) ∧ stepS s f (bif sideM (b.getD s.toNat 0) == 1 then -1 else 1) = some t := by
  obtain ⟨_, _, y, hy, ht⟩ := strikes_mem h
  have h1 := scanS_mem _ _ _ ht
  have hm : mostM (b.getD s.toNat 0) = 1 := by unfold mostM; rw [hk]; rfl
  rw [hm] at h1
  have h2 := walk_one h1
  have hst : stepsM (b.getD s.toNat 0) = bif sideM (b.getD s.toNat 0) == 1 then [(1, -1, ()), (-1, -1, ())] else [(1, 1, ()), (-1, 1, ())] := by unfold stepsM; rw [hk]; rfl
  rw [hst] at hy
  cases hs : sideM (b.getD s.toNat 0) == 1 with
  | true =>
    rw [hs] at hy
    simp at hy
    rcases hy with rfl | rfl
    · exact ⟨1, .inl rfl, h2⟩
    · exact ⟨-1, .inr rfl, h2⟩
  | false =>
    rw [hs] at hy
    simp at hy
    rcases hy with rfl | rfl
    · exact ⟨1, .inl rfl, h2⟩
    · exact ⟨-1, .inr rfl, h2⟩

end Go.Proofs.YtaldkopkfdgngaaGreatDoor

