/- Plain laws: the board behind a move of the list: no pawn on the rim, one king. -/
import Derived.Test.YtaldkopkfdgngaaGreatDoorL28
set_option linter.all false
set_option maxRecDepth 100000
namespace Go.Proofs.YtaldkopkfdgngaaGreatDoor
open Go Am

theorem fromL_rank {p : PosD} (ht : p.2.1 = 0 ∨ p.2.1 = 1) {s : Int} {m : MoveD} (h : m ∈ fromL p s) : kindM (atM p m.1) = 1 → rankS m.2.1 ≠ 7 - lastS p.2.1 := by
  unfold fromL at h
  cases hq : rightS s && (!(p.1.getD s.toNat 0 == 0) && sideM (p.1.getD s.toNat 0) == p.2.1) with
  | false => rw [hq] at h; cases h
  | true =>
    rw [hq] at h
    simp only [Bool.and_eq_true, beq_iff_eq] at hq
    obtain ⟨h1, _, h2⟩ := hq
    unfold movesL at h
    obtain ⟨t, h3, h4⟩ := List.mem_flatMap.1 h
    have h5 := (sort_perm _).mem_iff.1 h3
    obtain ⟨e1, e2⟩ := turnedL_from h4
    rw [e1, e2]
    exact (toL_mem ht (rightS_iff.1 h1) h2 h5).2.2

section
variable {p : PosD} {m : MoveD}

theorem takes_side (h : Fm p m) (hg : decide (takesP p m ≥ 0) = true) : sideM (atM p (takesP p m)) ≠ p.2.1 := by
  have hg' : takesP p m ≥ 0 := by simpa using hg
  unfold takesP at hg' ⊢
  cases h1 : atM p m.2.1 != 0 with
  | true =>
    simp only [cond_true]
    rcases h.not with h2 | h2
    · rw [h2] at h1; cases h1
    · exact h2
  | false =>
    rw [h1] at hg'
    revert hg'
    cases pawnP p m <;> cases m.2.1 == p.2.2.2.1 <;> cases fileS m.1 != fileS m.2.1 <;> simp only [cond_true, cond_false] <;> intro hg' <;> try omega
    cases hp : passedP p with
    | none => rw [hp] at hg'; simp at hg'
    | some s =>
      simp only
      have h2 := passed_spec hp
      unfold atM
      rw [h2]
      rcases h.turn with ht | ht <;> rw [ht] <;> decide

def isK (t : Int) (x : Int) : Bool := x == makeM 6 t
theorem notK {t x : Int} (ht : t = 0 ∨ t = 1) (h : sideM x ≠ t) : one (isK t) x = 0 := by
  unfold one isK
  cases hq : x == makeM 6 t with
  | false => rfl
  | true =>
    have he : x = makeM 6 t := by simpa using hq
    apply (h _).elim
    rw [he]
    rcases ht with rfl | rfl <;> rfl
theorem one0K {t : Int} (ht : t = 0 ∨ t = 1) : one (isK t) 0 = 0 := by rcases ht with rfl | rfl <;> rfl
theorem kindK {t x : Int} (ht : t = 0 ∨ t = 1) (h : kindM x ≠ 6) : one (isK t) x = 0 := by
  unfold one isK
  cases hq : x == makeM 6 t with
  | false => rfl
  | true =>
    have he : x = makeM 6 t := by simpa using hq
    apply (h _).elim
    rw [he]
    rcases ht with rfl | rfl <;> rfl
theorem make_kind {k t : Int} (hk : 2 ≤ k ∧ k ≤ 5) (ht : t = 0 ∨ t = 1) : kindM (makeM k t) = k := by
  have : k = 2 ∨ k = 3 ∨ k = 4 ∨ k = 5 := by omega
  rcases ht with rfl | rfl <;> rcases this with rfl | rfl | rfl | rfl <;> rfl

theorem do3_kings (h : Fm p m) : (do3 p m).countP (isK p.2.1) = p.1.countP (isK p.2.1) := by
  have b1 := rightS_iff.1 h.fr
  have b2 := rightS_iff.1 h.to
  have hl := do1_len h.toSq
  have c1 : (do1 p m).countP (isK p.2.1) = p.1.countP (isK p.2.1) := by
    unfold do1
    cases hg : decide (takesP p m ≥ 0) with
    | false => rfl
    | true =>
      have hb := takes_bounds h.toSq hg
      have := countP_set (isK p.2.1) p.1 (takesP p m).toNat 0 (by rw [h.bd.1]; omega)
      rw [one0K h.turn, notK h.turn (x := p.1.getD (takesP p m).toNat 0) (takes_side h hg)] at this
      simpa using this
  have c2 := countP_set (isK p.2.1) (do1 p m) m.1.toNat 0 (by rw [hl]; omega)
  have c3 := countP_set (isK p.2.1) ((do1 p m).set m.1.toNat 0) m.2.1.toNat (atM p m.1) (by simp [hl]; omega)
  rw [getD_set _ _ _ _ (by rw [hl]; omega), if_neg (toNat_ne b1.1 b2.1 h.ne), do1_to h, one0K h.turn] at c3
  rw [do1_from h, one0K h.turn] at c2
  have c4 : (do2 p m).countP (isK p.2.1) = p.1.countP (isK p.2.1) := by unfold do2; omega
  unfold do3
  cases hp : m.2.2.1 != 0 with
  | false => exact c4
  | true =>
    obtain ⟨hpw, p1, p2⟩ := h.promo (by simpa using hp)
    have c5 := countP_set (isK p.2.1) (do2 p m) m.2.1.toNat (makeM m.2.2.1 p.2.1) (by rw [do2_len h.toSq]; omega)
    have hk : kindM (atM p m.1) = 1 := by unfold pawnP at hpw; simpa using hpw
    rw [do2_at h _ b2.1, if_pos rfl, kindK h.turn (x := atM p m.1) (by rw [hk]; decide), kindK h.turn (x := makeM m.2.2.1 p.2.1) (by rw [make_kind ⟨p1, p2⟩ h.turn]; omega)] at c5
    simp only [cond_true]
    omega

theorem do4_kings (h : Fm p m) : (do4 p m).countP (isK p.2.1) = p.1.countP (isK p.2.1) := by
  rw [← do3_kings h]
  have hl := do3_len h.toSq
  have key : ∀ {mid rook : Int}, (0 ≤ mid ∧ mid < 64) → (0 ≤ rook ∧ rook < 64) → mid ≠ rook → (do3 p m).getD mid.toNat 0 = 0 → (castled (do3 p m) mid rook).countP (isK p.2.1) = (do3 p m).countP (isK p.2.1) := by
    intro mid rook h1 h2 hne h0
    unfold castled
    have c1 := countP_set (isK p.2.1) (do3 p m) mid.toNat ((do3 p m).getD rook.toNat 0) (by omega)
    have c2 := countP_set (isK p.2.1) ((do3 p m).set mid.toNat ((do3 p m).getD rook.toNat 0)) rook.toNat 0 (by simp; omega)
    rw [getD_set _ _ _ _ (by omega), if_neg (toNat_ne h1.1 h2.1 hne), one0K h.turn] at c2
    rw [h0, one0K h.turn] at c1
    omega
  unfold do4
  cases hc : castleP p m != 0 with
  | false => rfl
  | true =>
    have hc' : castleP p m ≠ 0 := by simpa using hc
    obtain ⟨_, h2, h3⟩ := castle_spec hc'
    have ht := h.turn
    have hmid := castle_mid h hc'
    simp only [cond_true]
    rcases h3 with ⟨e, _⟩ | ⟨e, _⟩
    · rw [show decide (m.2.1 < m.1) = false by simp; omega]
      exact key (by omega) (by omega) (by omega) hmid
    · rw [show decide (m.2.1 < m.1) = true by simp; omega]
      exact key (by omega) (by omega) (by omega) hmid

theorem do4_rim (h : Fm p m) (hR : noRim p.1) (hf : formedP p m = true) (hr : kindM (atM p m.1) = 1 → rankS m.2.1 ≠ 7 - lastS p.2.1) : noRim (do4 p m) := by
  have b1 := rightS_iff.1 h.fr
  have b2 := rightS_iff.1 h.to
  have hl := do1_len h.toSq
  have r1 : noRim (do1 p m) := by
    unfold do1
    cases hg : decide (takesP p m ≥ 0) with
    | false => exact hR
    | true =>
      have hb := takes_bounds h.toSq hg
      exact noRim_set hR (by rw [h.bd.1]; omega) (fun hk => by cases hk)
  have r2 : noRim ((do1 p m).set m.1.toNat 0) := noRim_set r1 (by rw [hl]; omega) (fun hk => by cases hk)
  have r3 : noRim (do3 p m) := by
    unfold do3 do2
    cases hp : m.2.2.1 != 0 with
    | true =>
      obtain ⟨hpw, p1, p2⟩ := h.promo (by simpa using hp)
      simp only [cond_true]
      rw [List.set_set]
      exact noRim_set r2 (by simp [hl]; omega) (fun hk => by rw [make_kind ⟨p1, p2⟩ h.turn] at hk; omega)
    | false =>
      refine noRim_set r2 (by simp [hl]; omega) (fun hk => ?_)
      have hp0 : m.2.2.1 = 0 := by simpa using hp
      have h1 := hr hk
      have h2 : rankS m.2.1 ≠ lastS p.2.1 := by
        intro he
        unfold formedP at hf
        simp only [Bool.and_eq_true] at hf
        have h5 := hf.2.2.2.2
        have hpw : pawnP p m = true := by unfold pawnP; simpa using hk
        rw [hpw, show (rankS m.2.1 == lastS p.2.1) = true by simpa using he, hp0] at h5
        cases h5
      rw [rankS_of b2] at h1 h2
      have hla : lastS p.2.1 = 7 ∨ lastS p.2.1 = 0 := by rcases h.turn with ht | ht <;> rw [ht] <;> decide
      omega
  have hl3 := do3_len h.toSq
  have key : ∀ {mid rook : Int}, (0 ≤ mid ∧ mid < 64) → (0 ≤ rook ∧ rook < 64) → (rook < 8 ∨ 55 < rook) → noRim (castled (do3 p m) mid rook) := by
    intro mid rook h1 h2 h3
    unfold castled
    refine noRim_set (noRim_set r3 (by omega) (fun hk => ?_)) (by simp; omega) (fun hk => by cases hk)
    have := r3 _ hk
    omega
  unfold do4
  cases hc : castleP p m != 0 with
  | false => exact r3
  | true =>
    have hc' : castleP p m ≠ 0 := by simpa using hc
    obtain ⟨_, h2, h3⟩ := castle_spec hc'
    have ht := h.turn
    simp only [cond_true]
    rcases h3 with ⟨e, _⟩ | ⟨e, _⟩
    · rw [show decide (m.2.1 < m.1) = false by simp; omega]
      exact key (by omega) (by omega) (by omega)
    · rw [show decide (m.2.1 < m.1) = true by simp; omega]
      exact key (by omega) (by omega) (by omega)
end

end Go.Proofs.YtaldkopkfdgngaaGreatDoor

