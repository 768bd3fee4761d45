/- Plain law: each move of the list is formed, begins on its square. -/
import Derived.Test.YtaldkopkfdgngaaGreatDoorL26
set_option linter.all false
set_option maxRecDepth 100000
namespace Go.Proofs.YtaldkopkfdgngaaGreatDoor
open Go Am

theorem turnedL_from {p : PosD} {s t : Int} {m : MoveD} (h : m ∈ turnedL p (s, t, 0, ())) : m.1 = s ∧ m.2.1 = t := by
  unfold turnedL at h
  revert h
  cases kindM (atM p s) != 1 <;> cases rankS t != 0 && rankS t != 7 <;> intro h <;> simp at h <;> rcases h with rfl | rfl | rfl | rfl <;> exact ⟨rfl, rfl⟩

theorem turned_formed {p : PosD} (ht : p.2.1 = 0 ∨ p.2.1 = 1) {s t : Int} (hs : 0 ≤ s ∧ s < 64) (hts : 0 ≤ t ∧ t < 64) (hsd : sideM (p.1.getD s.toNat 0) = p.2.1) (hf : freeP p t)
    (hr : kindM (p.1.getD s.toNat 0) = 1 → rankS t ≠ 7 - lastS p.2.1) {m : MoveD} (h : m ∈ turnedL p (s, t, 0, ())) : formedP p m = true := by
  have hpw : ∀ k, pawnP p (s, t, k, ()) = (kindM (p.1.getD s.toNat 0) == 1) := fun _ => rfl
  unfold turnedL at h
  rw [show atM p ((s, t, 0, ()) : MoveD).1 = p.1.getD s.toNat 0 from rfl] at h
  cases hk : kindM (p.1.getD s.toNat 0) != 1 with
  | true =>
    rw [hk] at h
    simp at h
    subst h
    have hk' : (kindM (p.1.getD s.toNat 0) == 1) = false := by simpa using hk
    exact formed_mk hs hts hsd hf (by rw [hpw, hk']; rfl)
  | false =>
    rw [hk] at h
    have hk1 : kindM (p.1.getD s.toNat 0) = 1 := by simpa using hk
    have hk' : (kindM (p.1.getD s.toNat 0) == 1) = true := by simpa using hk1
    have hr' := hr hk1
    have hrb : 0 ≤ rankS t ∧ rankS t < 8 := by rw [rankS_of hts]; omega
    have hl : lastS p.2.1 = 0 ∨ lastS p.2.1 = 7 := by rcases ht with ht | ht <;> rw [ht] <;> decide
    simp only [cond_false] at h
    cases hq : rankS t != 0 && rankS t != 7 with
    | true =>
      rw [show rankS ((s, t, 0, ()) : MoveD).2.1 = rankS t from rfl, hq] at h
      simp at h
      subst h
      simp only [Bool.and_eq_true, bne_iff_ne] at hq
      have hne : (rankS t == lastS p.2.1) = false := by
        cases hz : rankS t == lastS p.2.1 with
        | false => rfl
        | true => have := eq_of_beq hz; omega
      exact formed_mk hs hts hsd hf (by rw [hpw, hk', hne]; rfl)
    | false =>
      rw [show rankS ((s, t, 0, ()) : MoveD).2.1 = rankS t from rfl, hq] at h
      have he : (rankS t == lastS p.2.1) = true := by
        rw [beq_iff_eq]
        simp only [Bool.and_eq_false_iff, bne_eq_false_iff_eq] at hq
        omega
      have key : ∀ k : Int, 2 ≤ k → k ≤ 5 → formedP p (s, t, k, ()) = true := fun k h1 h2 =>
        formed_mk hs hts hsd hf (by rw [hpw, hk', he]; simp; omega)
      simp at h
      rcases h with rfl | rfl | rfl | rfl <;> exact key _ (by omega) (by omega)

theorem toL_mem {p : PosD} (ht : p.2.1 = 0 ∨ p.2.1 = 1) {s t : Int} (hs : 0 ≤ s ∧ s < 64) (hsd : sideM (p.1.getD s.toNat 0) = p.2.1) (h : t ∈ toL p s) :
    (0 ≤ t ∧ t < 64) ∧ freeP p t ∧ (kindM (p.1.getD s.toNat 0) = 1 → rankS t ≠ 7 - lastS p.2.1) := by
  have hj : t ∈ jumpsL p s → (0 ≤ t ∧ t < 64) ∧ freeP p t := fun h => open_free (List.mem_filter.1 h).2
  unfold toL at h
  cases hk : kindM (p.1.getD s.toNat 0) == 1 with
  | true =>
    rw [hk] at h
    have hk1 : kindM (p.1.getD s.toNat 0) = 1 := by simpa using hk
    obtain ⟨h1, h2, h3⟩ := pawnL_mem ht hk1 hsd hs h
    exact ⟨h1, h2, fun _ => h3⟩
  | false =>
    rw [hk] at h
    have hk1 : kindM (p.1.getD s.toNat 0) ≠ 1 := by simpa using hk
    simp only [cond_false] at h
    cases hk6 : kindM (p.1.getD s.toNat 0) == 6 with
    | false =>
      rw [hk6] at h
      obtain ⟨h1, h2⟩ := hj h
      exact ⟨h1, h2, fun h => (hk1 h).elim⟩
    | true =>
      rw [hk6] at h
      simp only [cond_true] at h
      unfold kingL at h
      rcases List.mem_append.1 h with h | h
      · obtain ⟨h1, h2⟩ := hj h
        exact ⟨h1, h2, fun h => (hk1 h).elim⟩
      · have h2 := (List.mem_filter.1 h).2
        unfold kingT castlesQ at h2
        simp only [Bool.and_eq_true] at h2
        obtain ⟨h3, _, h4, _⟩ := h2
        unfold formedP at h4
        simp only [Bool.and_eq_true] at h4
        refine ⟨rightS_iff.1 h3, ?_, fun h => (hk1 h).elim⟩
        have h5 := h4.2.2.2.1
        by_cases h0 : p.1.getD t.toNat 0 = 0
        · exact .inl h0
        · right
          intro h6
          have e1 : (atM p t != 0) = true := by simpa [atM] using h0
          have e2 : (sideM (atM p t) == p.2.1) = true := by simpa [atM] using h6
          rw [show atM p ((s, t, 0, ()) : MoveD).2.1 = atM p t from rfl, e1, e2] at h5
          cases h5

theorem fromL_formed {p : PosD} (ht : p.2.1 = 0 ∨ p.2.1 = 1) {s : Int} {m : MoveD} (h : m ∈ fromL p s) : formedP p m = true ∧ m.1 = s := by
  unfold fromL at h
  cases hq : rightS s && (!(p.1.getD s.toNat 0 == 0) && sideM (p.1.getD s.toNat 0) == p.2.1) with
  | false => rw [hq] at h; cases h
  | true =>
    rw [hq] at h
    simp only [Bool.and_eq_true, beq_iff_eq] at hq
    obtain ⟨h1, _, h2⟩ := hq
    have hs := rightS_iff.1 h1
    unfold movesL at h
    obtain ⟨t, h3, h4⟩ := List.mem_flatMap.1 h
    have h5 := (sort_perm _).mem_iff.1 h3
    obtain ⟨g1, g2, g3⟩ := toL_mem ht hs h2 h5
    exact ⟨turned_formed ht hs g1 h2 g2 g3 h4, (turnedL_from h4).1⟩

theorem allL_formed {p : PosD} (ht : p.2.1 = 0 ∨ p.2.1 = 1) {m : MoveD} (h : m ∈ allL p) : formedP p m = true := by
  unfold allL at h
  obtain ⟨s, _, h2⟩ := List.mem_flatMap.1 h
  exact (fromL_formed ht h2).1

end Go.Proofs.YtaldkopkfdgngaaGreatDoor

