/- Plain law: each move of the list is formed. -/
import Derived.Test.YtaldkopkfdgngaaGreatDoorL25
set_option linter.all false
set_option maxRecDepth 100000
namespace Go.Proofs.YtaldkopkfdgngaaGreatDoor
open Go Am

/-- What is passed is empty. -/
theorem passed_empty {p : PosD} (h : (passedP p).isSome = true) : p.1.getD p.2.2.2.1.toNat 0 = 0 := by
  cases hp : passedP p with
  | none => rw [hp] at h; cases h
  | some x =>
    unfold passedP at hp
    cases h1 : decide (otherS p.2.1 < 0) with
    | true => rw [h1] at hp; cases hp
    | false =>
      rw [h1] at hp
      simp only [cond_false] at hp
      cases h2 : (rankS p.2.2.2.1 != bif p.2.1 == 1 then 2 else 5) with
      | true => rw [h2] at hp; cases hp
      | false =>
        rw [h2] at hp
        simp only [cond_false] at hp
        split at hp
        · cases h5 : p.1.getD p.2.2.2.1.toNat 0 != 0 with
          | true => rw [h5] at hp; cases hp
          | false => simpa using h5
        · cases hp

theorem stepL_mem {p : PosD} {s t : Int} (h : t ∈ stepL p s) : (0 ≤ t ∧ t < 64) ∧ p.1.getD t.toNat 0 = 0 ∧ (rankS t = rankS s + aheadT p.2.1 ∨ rankS t = rankS s + 2 * aheadT p.2.1) := by
  unfold stepL at h
  cases h1 : stepS s 0 (aheadT p.2.1) with
  | none => rw [h1] at h; cases h
  | some a =>
    rw [h1] at h
    simp only at h
    cases h2 : p.1.getD a.toNat 0 != 0 with
    | true => rw [h2] at h; cases h
    | false =>
      rw [h2] at h
      simp only [cond_false] at h
      rcases List.mem_cons.1 h with rfl | h
      · exact ⟨stepS_right h1, by simpa using h2, .inl (stepS_rank h1)⟩
      · cases h3 : stepS s 0 (2 * aheadT p.2.1) with
        | none => rw [h3] at h; cases h
        | some b =>
          rw [h3] at h
          simp only at h
          cases h4 : p.1.getD b.toNat 0 != 0 with
          | true => rw [h4] at h; cases h
          | false =>
            rw [h4] at h
            simp only [cond_false] at h
            cases h5 : rankS s != secondT p.2.1 with
            | true => rw [h5] at h; cases h
            | false =>
              rw [h5] at h
              simp at h
              subst h
              exact ⟨stepS_right h3, by simpa using h4, .inr (stepS_rank h3)⟩

/-- A square where a man may go: it holds none of who moves. -/
def freeP (p : PosD) (t : Int) : Prop := p.1.getD t.toNat 0 = 0 ∨ sideM (p.1.getD t.toNat 0) ≠ p.2.1

theorem open_free {p : PosD} {t : Int} (h : openP p t = true) : (0 ≤ t ∧ t < 64) ∧ freeP p t := by
  unfold openP at h
  simp only [Bool.and_eq_true, Bool.or_eq_true, beq_iff_eq, bne_iff_ne] at h
  exact ⟨rightS_iff.1 h.1, h.2⟩

theorem pawnL_mem {p : PosD} {s t : Int} (ht : p.2.1 = 0 ∨ p.2.1 = 1) (hk : kindM (p.1.getD s.toNat 0) = 1) (hsd : sideM (p.1.getD s.toNat 0) = p.2.1) (hs : 0 ≤ s ∧ s < 64) (h : t ∈ pawnL p s) :
    (0 ≤ t ∧ t < 64) ∧ freeP p t ∧ rankS t ≠ 7 - lastS p.2.1 := by
  have hrs := rankS_bounds s
  have hr0 : 0 ≤ rankS s := by rw [rankS_of hs]; omega
  unfold pawnL at h
  rcases List.mem_append.1 h with h | h
  · obtain ⟨h1, h2, h3⟩ := stepL_mem h
    refine ⟨h1, .inl h2, ?_⟩
    rcases ht with ht | ht <;> rw [ht] at h3 ⊢
    · have e1 : aheadT 0 = 1 := rfl
      have e2 : lastS 0 = 7 := rfl
      rw [e1] at h3; rw [e2]; omega
    · have e1 : aheadT 1 = -1 := rfl
      have e2 : lastS 1 = 0 := rfl
      rw [e1] at h3; rw [e2]; omega
  · obtain ⟨h1, h2⟩ := List.mem_filter.1 h
    obtain ⟨f, _, hst⟩ := pawn_strike hk h1
    have hrk := stepS_rank hst
    refine ⟨(strikes_mem h1).1, ?_, ?_⟩
    · unfold pawnT at h2
      simp only [Bool.or_eq_true, Bool.and_eq_true, beq_iff_eq] at h2
      rcases h2 with ⟨_, h2⟩ | ⟨h2, rfl⟩
      · exact (open_free h2).2
      · exact .inl (passed_empty h2)
    · rw [hsd] at hrk
      rcases ht with ht | ht <;> rw [ht] at hrk ⊢
      · rw [show (bif (0 : Int) == 1 then (-1 : Int) else 1) = 1 from rfl] at hrk
        rw [show lastS 0 = 7 from rfl]; omega
      · rw [show (bif (1 : Int) == 1 then (-1 : Int) else 1) = -1 from rfl] at hrk
        rw [show lastS 1 = 0 from rfl]; omega

theorem formed_mk {p : PosD} {s t k : Int} (hs : 0 ≤ s ∧ s < 64) (ht : 0 ≤ t ∧ t < 64) (hsd : sideM (p.1.getD s.toNat 0) = p.2.1) (hf : freeP p t)
    (hk : (bif pawnP p (s, t, k, ()) && rankS t == lastS p.2.1 then decide (k ≥ 2) && decide (k ≤ 5) else k == 0) = true) : formedP p (s, t, k, ()) = true := by
  unfold formedP
  show (rightS s && (rightS t && (!(sideM (p.1.getD s.toNat 0) != p.2.1) && (!(p.1.getD t.toNat 0 != 0 && sideM (p.1.getD t.toNat 0) == p.2.1) && _)))) = true
  rw [rightS_iff.2 hs, rightS_iff.2 ht, hsd, hk]
  have : (p.1.getD t.toNat 0 != 0 && sideM (p.1.getD t.toNat 0) == p.2.1) = false := by
    rcases hf with h | h
    · rw [h]; rfl
    · have : (sideM (p.1.getD t.toNat 0) == p.2.1) = false := by simpa using h
      rw [this, Bool.and_false]
  rw [this]
  simp

end Go.Proofs.YtaldkopkfdgngaaGreatDoor

