/- Plain law: what is found is what the document says. -/
import Derived.Test.YtaldkopkfdgngaaGreatDoorL34
set_option linter.all false
set_option maxRecDepth 100000
namespace Go.Proofs.YtaldkopkfdgngaaGreatDoor
open Go Am

theorem scan_reach (b : List Int) (t : Int) : ∀ l : List Int, t ∈ scanS b l ↔ rayReach b t l = true
  | [] => by simp [scanS, rayReach]
  | x :: l => by
    simp only [scanS, rayReach, List.mem_cons]
    have ih := scan_reach b t l
    cases b.getD x.toNat 0 == 0 with
    | true =>
      simp only [cond_true, Bool.true_and, Bool.or_eq_true, beq_iff_eq, ih]
      exact or_congr eq_comm Iff.rfl
    | false =>
      simp only [cond_false, List.not_mem_nil, or_false, Bool.false_and, Bool.or_false, beq_iff_eq]
      exact eq_comm
theorem strikes_iff {b : List Int} (hr : rightB b = true) {s : Int} (hs : 0 ≤ s ∧ s < 64) (h0 : b.getD s.toNat 0 ≠ 0) (t : Int) : t ∈ strikesL b s ↔ hitsR b s t = true := by
  have hm : rightM (b.getD s.toNat 0) = true := (right_at hr _).resolve_left h0
  unfold strikesL hitsR ofM ofS
  rw [rightS_iff.2 hs, hr, show (b.getD s.toNat 0 == 0) = false by simpa using h0, hm]
  simp only [Bool.not_false, Bool.and_true, cond_true]
  rw [(sort_perm _).mem_iff, List.any_eq_true]
  unfold alongS
  rw [List.mem_flatMap]
  constructor
  · rintro ⟨y, hy, ht⟩
    refine ⟨_, List.mem_filter.2 ⟨List.mem_map.2 ⟨y, hy, rfl⟩, ?_⟩, (scan_reach b t _).1 ht⟩
    cases hw : walkS (mostM (b.getD s.toNat 0)) s y.1 y.2.1 with
    | nil => rw [hw] at ht; cases ht
    | cons => rfl
  · rintro ⟨l, hl, ht⟩
    obtain ⟨hl1, _⟩ := List.mem_filter.1 hl
    obtain ⟨y, hy, rfl⟩ := List.mem_map.1 hl1
    exact ⟨y, hy, (scan_reach b t _).2 ht⟩

/-- Of a pawn the first square is all. -/
theorem first_hits {p : PosD} {m : MoveD} (hk : pawnP p m = true) : firstR p m = hitsR p.1 m.1 m.2.1 := by
  have hm : mostM (atM p m.1) = 1 := by
    have : kindM (atM p m.1) = 1 := by unfold pawnP at hk; simpa using hk
    unfold mostM; rw [this]; rfl
  have h1 : ∀ l ∈ ofM (atM p m.1) m.1, ∃ x, l = [x] := by
    intro l hl
    have h0 := ofM_ne l hl
    have h2 : l.length ≤ 1 := by
      unfold ofM at hl
      cases hr : rightM (atM p m.1) with
      | false => rw [hr] at hl; cases hl
      | true =>
        rw [hr] at hl
        simp only [cond_true, ofS, List.mem_filter, List.mem_map] at hl
        obtain ⟨⟨y, hy, rfl⟩, _⟩ := hl
        rw [hm]
        exact walkS_len _ _ _ _
    match l, h0, h2 with
    | [x], _, _ => exact ⟨x, rfl⟩
  unfold firstR hitsR
  rw [show p.1.getD m.1.toNat 0 = atM p m.1 from rfl, Bool.eq_iff_iff, List.any_eq_true, List.any_eq_true]
  have h3 : ∀ l ∈ ofM (atM p m.1) m.1, (l.getD 0 0 == m.2.1) = rayReach p.1 m.2.1 l := by
    intro l hl
    obtain ⟨x, rfl⟩ := h1 l hl
    simp [rayReach]
  exact ⟨fun ⟨l, hl, h⟩ => ⟨l, hl, by rw [← h3 l hl]; exact h⟩, fun ⟨l, hl, h⟩ => ⟨l, hl, by rw [h3 l hl]; exact h⟩⟩

section
variable {p : PosD} {m : MoveD}

theorem to_open (h : Fm p m) : openP p m.2.1 = true := by
  unfold openP
  rw [h.to]
  rcases h.not with h1 | h1
  · rw [show (p.1.getD m.2.1.toNat 0 == 0) = true by simpa [atM] using h1]; rfl
  · rw [show (sideM (p.1.getD m.2.1.toNat 0) != p.2.1) = true by simpa [atM] using h1]; simp

/-- A pawn's strike takes. -/
theorem strike_takes (h : Fm p m) (hk : pawnP p m = true) (hst : m.2.1 ∈ strikesL p.1 m.1) : pawnT p m.2.1 = decide (takesP p m ≥ 0) := by
  have b2 := rightS_iff.1 h.to
  have hfile : (fileS m.1 != fileS m.2.1) = true := by
    have hk1 : kindM (p.1.getD m.1.toNat 0) = 1 := by unfold pawnP atM at hk; simpa using hk
    obtain ⟨f, hf, hst2⟩ := pawn_strike hk1 hst
    obtain ⟨q1, q2, q3, _⟩ := stepS_spec hst2
    rw [fileS_of q1, fileS_of b2]
    simp only [bne_iff_ne]
    generalize (bif sideM (p.1.getD m.1.toNat 0) == 1 then (-1 : Int) else 1) = r at *
    omega
  unfold pawnT takesP
  rw [to_open h, hk, hfile]
  rw [show p.1.getD m.2.1.toNat 0 = atM p m.2.1 from rfl]
  cases atM p m.2.1 != 0 with
  | true => simp; omega
  | false =>
    cases he : m.2.1 == p.2.2.2.1 with
    | false => simp
    | true =>
      cases hp : passedP p with
      | none => simp
      | some x =>
        have : 0 ≤ x := by
          unfold passedP at hp
          cases h1 : decide (otherS p.2.1 < 0) with
          | true => rw [h1] at hp; cases hp
          | false =>
            rw [h1] at hp
            simp only [cond_false] at hp
            cases h2 : (rankS p.2.2.2.1 != bif p.2.1 == 1 then 2 else 5) with
            | true => rw [h2] at hp; cases hp
            | false =>
              rw [h2] at hp
              simp only [cond_false] at hp
              split at hp
              · rename_i bh fr h3 h4
                cases h5 : p.1.getD p.2.2.2.1.toNat 0 != 0 with
                | true => rw [h5] at hp; cases hp
                | false =>
                  cases h6 : p.1.getD bh.toNat 0 != 0 with
                  | true => rw [h5, h6] at hp; cases hp
                  | false =>
                    cases h7 : p.1.getD fr.toNat 0 != makeM 1 (otherS p.2.1) with
                    | true => rw [h5, h6, h7] at hp; cases hp
                    | false =>
                      rw [h5, h6, h7] at hp
                      cases hp
                      exact (stepS_right h4).1
              · cases hp
        simpa using this

theorem step_iff (h : Fm p m) : m.2.1 ∈ stepL p m.1 ↔ stepR2 p m = true := by
  rw [stepL_iff h.turn (rightS_iff.1 h.fr)]
  unfold stepR2
  simp only [Bool.and_eq_true, Bool.or_eq_true, beq_iff_eq]
  exact ⟨fun h => h.2, fun h2 => ⟨rightS_iff.1 h.to, h2⟩⟩

theorem not_zero (h : Fm p m) : p.1.getD m.1.toNat 0 ≠ 0 := side_ne h.turn h.mine

theorem pawnL_iff (hw : wrongP p = 0) (h : Fm p m) (hk : pawnP p m = true) : m.2.1 ∈ pawnL p m.1 ↔ pawnR p m = true := by
  have hr := (wrongB_spec (wrong_spec hw).1).1
  have hs := strikes_iff hr (rightS_iff.1 h.fr) (not_zero h) m.2.1
  unfold pawnL pawnR
  rw [List.mem_append, List.mem_filter, step_iff h, first_hits hk, Bool.or_eq_true, Bool.and_eq_true]
  refine or_congr Iff.rfl ⟨fun ⟨h1, h2⟩ => ⟨hs.1 h1, by rw [← strike_takes h hk h1]; exact h2⟩, fun ⟨h1, h2⟩ => ⟨hs.2 h1, by rw [strike_takes h hk (hs.2 h1)]; exact h2⟩⟩

theorem jumpsL_iff (hw : wrongP p = 0) (h : Fm p m) : m.2.1 ∈ jumpsL p m.1 ↔ hitsR p.1 m.1 m.2.1 = true := by
  have hr := (wrongB_spec (wrong_spec hw).1).1
  have hs := strikes_iff hr (rightS_iff.1 h.fr) (not_zero h) m.2.1
  unfold jumpsL
  rw [List.mem_filter, hs]
  exact ⟨fun h1 => h1.1, fun h1 => ⟨h1, to_open h⟩⟩

theorem right_pos (hw : wrongP p = 0) (h : Fm p m) : decide (rightR p m > 0) = (castleP p m != 0) := by
  rw [← castle_same h (wrong_spec hw).2.1]
  unfold rightR
  cases rowR p m 1 4 6 6 <;> cases rowR p m 2 4 2 6 <;> cases rowR p m 4 60 62 (-6) <;> cases rowR p m 8 60 58 (-6) <;> rfl

theorem kingL_iff (hw : wrongP p = 0) (hf : formedP p m = true) (h : Fm p m) (hk : pawnP p m = false) : m.2.1 ∈ kingL p m.1 ↔ (hitsR p.1 m.1 m.2.1 || decide (rightR p m > 0)) = true := by
  have hp0 : m.2.2.1 = 0 := by
    apply Decidable.byContradiction
    intro hne
    have := (h.promo hne).1
    rw [hk] at this; cases this
  have hm : ((m.1, m.2.1, 0, ()) : MoveD) = m := by
    obtain ⟨m1, m2, m3, ⟨⟩⟩ := m
    simp at hp0 ⊢
    exact hp0.symm
  unfold kingL
  rw [List.mem_append, jumpsL_iff hw h, Bool.or_eq_true, right_pos hw h, List.mem_filter]
  refine or_congr Iff.rfl ?_
  unfold kingT castlesQ
  rw [hm, h.to, hw, hf]
  constructor
  · rintro ⟨_, h2⟩
    simpa using h2
  · intro h2
    refine ⟨?_, by simpa using h2⟩
    have hc : castleP p m ≠ 0 := by simpa using h2
    obtain ⟨_, _, h3⟩ := castle_spec hc
    rcases h3 with ⟨e, _⟩ | ⟨e, _⟩ <;> simp [e]

theorem toL_iff (hw : wrongP p = 0) (hf : formedP p m = true) (h : Fm p m) : m.2.1 ∈ toL p m.1 ↔ (bif pawnP p m then pawnR p m else hitsR p.1 m.1 m.2.1 || decide (rightR p m > 0)) = true := by
  unfold toL
  rw [show (kindM (p.1.getD m.1.toNat 0) == 1) = pawnP p m from rfl]
  cases hk : pawnP p m with
  | true => exact pawnL_iff hw h hk
  | false =>
    simp only [cond_false]
    cases hk6 : kindM (p.1.getD m.1.toNat 0) == 6 with
    | true => exact kingL_iff hw hf h hk
    | false =>
      simp only [cond_false]
      rw [jumpsL_iff hw h]
      have : decide (rightR p m > 0) = false := by
        rw [right_pos hw h]
        cases hq : castleP p m != 0 with
        | false => rfl
        | true =>
          have hc : castleP p m ≠ 0 := by simpa using hq
          have h1 := (castle_spec hc).1
          rw [show p.1.getD m.1.toNat 0 = atM p m.1 from rfl, h1] at hk6
          rcases h.turn with ht | ht <;> rw [ht] at hk6 <;> cases hk6
      rw [this, Bool.or_false]

theorem turned_mem (h : Fm p m) (hf : formedP p m = true) (hr : kindM (p.1.getD m.1.toNat 0) = 1 → rankS m.2.1 ≠ 7 - lastS p.2.1) : m ∈ turnedL p (m.1, m.2.1, 0, ()) := by
  obtain ⟨s, t, k, ⟨⟩⟩ := m
  have hfk : (bif pawnP p (s, t, k, ()) && rankS t == lastS p.2.1 then decide (k ≥ 2) && decide (k ≤ 5) else k == 0) = true := by
    unfold formedP at hf
    simp only [Bool.and_eq_true] at hf
    exact hf.2.2.2.2
  rw [show pawnP p ((s, t, k, ()) : MoveD) = (kindM (p.1.getD s.toNat 0) == 1) from rfl] at hfk
  unfold turnedL
  rw [show atM p ((s, t, 0, ()) : MoveD).1 = p.1.getD s.toNat 0 from rfl]
  change kindM (p.1.getD s.toNat 0) = 1 → rankS t ≠ 7 - lastS p.2.1 at hr
  cases hk : kindM (p.1.getD s.toNat 0) == 1 with
  | false =>
    rw [hk] at hfk
    have h0 : k = 0 := by simpa using hfk
    rw [show (kindM (p.1.getD s.toNat 0) != 1) = true by simpa using hk, h0]
    simp
  | true =>
    rw [hk] at hfk
    have hr' := hr (by simpa using hk)
    rw [show (kindM (p.1.getD s.toNat 0) != 1) = false by simpa using hk]
    simp only [cond_false]
    have hl : lastS p.2.1 = 0 ∨ lastS p.2.1 = 7 := by rcases h.turn with ht | ht <;> rw [ht] <;> decide
    by_cases he : rankS t = lastS p.2.1
    · rw [show (rankS t == lastS p.2.1) = true by simpa using he] at hfk
      simp at hfk
      have : (rankS t != 0 && rankS t != 7) = false := by
        rcases hl with hl | hl <;> rw [he, hl] <;> rfl
      change _ ∈ (bif rankS t != 0 && rankS t != 7 then _ else _)
      rw [this]
      have : k = 2 ∨ k = 3 ∨ k = 4 ∨ k = 5 := by omega
      rcases this with rfl | rfl | rfl | rfl <;> simp
    · rw [show (rankS t == lastS p.2.1) = false by simpa using he] at hfk
      have h0 : k = 0 := by simpa using hfk
      have : (rankS t != 0 && rankS t != 7) = true := by
        simp only [Bool.and_eq_true, bne_iff_ne]
        omega
      change _ ∈ (bif rankS t != 0 && rankS t != 7 then _ else _)
      rw [this, h0]
      simp
end

/-- The moves of a square are those that go from there. -/
theorem fromL_iff {p : PosD} (hb : Bd p.1) (hw : wrongP p = 0) (s : Int) (m : MoveD) : m ∈ fromL p s ↔ goesP p m = true ∧ m.1 = s := by
  have ht := wrong_turn hw
  constructor
  · intro hm
    obtain ⟨hf, hms⟩ := fromL_formed ht hm
    have h := formed_spec hb hw hf
    refine ⟨?_, hms⟩
    subst hms
    unfold goesP
    rw [hf, Bool.true_and, ← toL_iff hw hf h]
    unfold fromL at hm
    cases hq : rightS m.1 && (!(p.1.getD m.1.toNat 0 == 0) && sideM (p.1.getD m.1.toNat 0) == p.2.1) with
    | false => rw [hq] at hm; cases hm
    | true =>
      rw [hq] at hm
      unfold movesL at hm
      obtain ⟨t, h3, h4⟩ := List.mem_flatMap.1 hm
      rw [(turnedL_from h4).2]
      exact (sort_perm _).mem_iff.1 h3
  · rintro ⟨hg, rfl⟩
    unfold goesP at hg
    rw [Bool.and_eq_true] at hg
    obtain ⟨hf, hg⟩ := hg
    have h := formed_spec hb hw hf
    have hto := (toL_iff hw hf h).2 hg
    have hmem := toL_mem ht (rightS_iff.1 h.fr) h.mine hto
    unfold fromL
    rw [h.fr, show (p.1.getD m.1.toNat 0 == 0) = false by simpa using not_zero h, show (sideM (p.1.getD m.1.toNat 0) == p.2.1) = true by simpa [atM] using h.mine]
    simp only [Bool.not_false, Bool.and_self, cond_true]
    unfold movesL
    exact List.mem_flatMap.2 ⟨m.2.1, (sort_perm _).mem_iff.2 hto, turned_mem h hf hmem.2.2⟩

theorem allL_iff {p : PosD} (hb : Bd p.1) (hw : wrongP p = 0) (m : MoveD) : m ∈ allL p ↔ goesP p m = true := by
  unfold allL
  rw [List.mem_flatMap]
  constructor
  · rintro ⟨s, _, h⟩
    exact ((fromL_iff hb hw _ m).1 h).1
  · intro hg
    have hf : formedP p m = true := by
      unfold goesP at hg
      rw [Bool.and_eq_true] at hg
      exact hg.1
    have b1 := rightS_iff.1 (formed_spec hb hw hf).fr
    refine ⟨m.1.toNat, by simp [List.mem_range'_1]; omega, (fromL_iff hb hw _ m).2 ⟨hg, by omega⟩⟩

end Go.Proofs.YtaldkopkfdgngaaGreatDoor

