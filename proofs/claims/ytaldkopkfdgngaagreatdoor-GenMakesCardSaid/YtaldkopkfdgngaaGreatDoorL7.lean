/- Plain law: MoveMen. -/
import Derived.Test.YtaldkopkfdgngaaGreatDoorL6
set_option linter.all false
set_option maxRecDepth 100000
namespace Go.Proofs.YtaldkopkfdgngaaGreatDoor
open Go Am

theorem side_ne {x : Int} {t : Int} (ht : t = 0 ∨ t = 1) (h : sideM x = t) : x ≠ 0 := by
  rintro rfl
  have : sideM 0 = -1 := rfl
  omega

structure Fm (p : PosD) (m : MoveD) : Prop extends Sq p m where
  mine : sideM (atM p m.1) = p.2.1
  not : atM p m.2.1 = 0 ∨ sideM (atM p m.2.1) ≠ p.2.1
  promo : m.2.2.1 ≠ 0 → pawnP p m = true ∧ 2 ≤ m.2.2.1 ∧ m.2.2.1 ≤ 5

theorem formed_spec {p : PosD} (hb : Bd p.1) {m : MoveD} (hw : wrongP p = 0) (h : formedP p m = true) : Fm p m := by
  have hs := formed_sq hb hw h
  unfold formedP at h
  simp only [Bool.and_eq_true] at h
  obtain ⟨_, _, h3, h4, h5⟩ := h
  refine ⟨hs, by simpa using h3, ?_, ?_⟩
  · by_cases h0 : atM p m.2.1 = 0
    · exact .inl h0
    · right
      intro h1
      have e1 : (atM p m.2.1 != 0) = true := by simpa using h0
      have e2 : (sideM (atM p m.2.1) == p.2.1) = true := by simpa using h1
      rw [e1, e2] at h4
      cases h4
  · intro h0
    cases hp : pawnP p m with
    | false =>
      rw [hp] at h5
      simp at h5
      exact (h0 h5).elim
    | true =>
      refine ⟨rfl, ?_⟩
      rw [hp] at h5
      cases hl : rankS m.2.1 == lastS p.2.1 with
      | false => rw [hl] at h5; simp at h5; exact (h0 h5).elim
      | true => rw [hl] at h5; simpa using h5

section
variable {p : PosD} {m : MoveD}

theorem Fm.ne (h : Fm p m) : m.1 ≠ m.2.1 := by
  intro he
  have h1 := h.mine
  rcases h.not with h2 | h2
  · rw [he] at h1
    exact side_ne h.turn h1 h2
  · rw [← he] at h2
    exact h2 h1

theorem toNat_ne {a b : Int} (ha : 0 ≤ a) (hb : 0 ≤ b) (h : a ≠ b) : a.toNat ≠ b.toNat := by omega

theorem passed_spec {s : Int} (h : passedP p = some s) : p.1.getD s.toNat 0 = makeM 1 (otherS p.2.1) := by
  unfold passedP at h
  cases h1 : decide (otherS p.2.1 < 0) with
  | true => rw [h1] at h; cases h
  | false =>
    rw [h1] at h
    simp only [cond_false] at h
    cases h2 : (rankS p.2.2.2.1 != bif p.2.1 == 1 then 2 else 5) with
    | true => rw [h2] at h; cases h
    | false =>
      rw [h2] at h
      simp only [cond_false] at h
      split at h
      · rename_i bh fr h3 h4
        cases h5 : p.1.getD p.2.2.2.1.toNat 0 != 0 with
        | true => rw [h5] at h; cases h
        | false =>
          cases h6 : p.1.getD bh.toNat 0 != 0 with
          | true => rw [h5, h6] at h; cases h
          | false =>
            cases h7 : p.1.getD fr.toNat 0 != makeM 1 (otherS p.2.1) with
            | true => rw [h5, h6, h7] at h; cases h
            | false =>
              rw [h5, h6, h7] at h
              cases h
              simpa using h7
      · cases h

/-- What is taken is the other side's. -/
theorem takes_spec (h : Fm p m) (hg : takesP p m ≥ 0) : takesP p m < 64 ∧ atM p (takesP p m) ≠ 0 ∧ takesP p m ≠ m.1 ∧ (takesP p m = m.2.1 ∨ (takesP p m ≠ m.2.1 ∧ atM p m.2.1 = 0)) := by
  have hb := takes_bounds h.toSq (by simpa using hg)
  refine ⟨hb.2, ?_⟩
  unfold takesP at hg ⊢
  cases h1 : atM p m.2.1 != 0 with
  | true =>
    simp only [cond_true]
    exact ⟨by simpa using h1, fun he => h.ne he.symm, .inl trivial⟩
  | false =>
    have h1' : atM p m.2.1 = 0 := by simpa using h1
    rw [h1] at hg
    revert hg
    cases pawnP p m <;> cases m.2.1 == p.2.2.2.1 <;> cases fileS m.1 != fileS m.2.1 <;> simp only [cond_true, cond_false] <;> intro hg <;> try omega
    cases hp : passedP p with
    | none => rw [hp] at hg; simp at hg
    | some s =>
      simp only
      have h2 := passed_spec hp
      have h3 : makeM 1 (otherS p.2.1) ≠ 0 ∧ sideM (makeM 1 (otherS p.2.1)) ≠ p.2.1 := by
        rcases h.turn with ht | ht <;> rw [ht] <;> decide
      have h4 : atM p s ≠ 0 := by unfold atM; rw [h2]; exact h3.1
      refine ⟨h4, ?_, .inr ⟨?_, h1'⟩⟩
      · rintro rfl
        apply h3.2
        rw [← h2]
        exact h.mine
      · rintro rfl
        exact h4 h1'

theorem do1_len (h : Sq p m) : (do1 p m).length = 64 := by
  unfold do1
  cases decide (takesP p m ≥ 0) <;> simp [h.bd.1]
theorem do2_len (h : Sq p m) : (do2 p m).length = 64 := by simp [do2, do1_len h]
theorem do3_len (h : Sq p m) : (do3 p m).length = 64 := by
  unfold do3
  cases m.2.2.1 != 0 <;> simp [do2_len h]

theorem do1_at (h : Fm p m) {s : Int} (hs : 0 ≤ s) (hne : ¬ (decide (takesP p m ≥ 0) = true ∧ takesP p m = s)) : (do1 p m).getD s.toNat 0 = atM p s := by
  unfold do1 atM
  cases hg : decide (takesP p m ≥ 0) with
  | false => rfl
  | true =>
    have hb := takes_bounds h.toSq hg
    simp only [cond_true]
    rw [getD_set _ _ _ _ (by rw [h.bd.1]; omega), if_neg]
    intro he
    exact hne ⟨hg, by omega⟩

theorem do1_from (h : Fm p m) : (do1 p m).getD m.1.toNat 0 = atM p m.1 := by
  have b1 := rightS_iff.1 h.fr
  refine do1_at h b1.1 ?_
  rintro ⟨hg, he⟩
  exact (takes_spec h (by simpa using hg)).2.2.1 he

theorem do1_to (h : Fm p m) : (do1 p m).getD m.2.1.toNat 0 = 0 := by
  have b2 := rightS_iff.1 h.to
  by_cases h0 : atM p m.2.1 = 0
  · rw [do1_at h b2.1, h0]
    rintro ⟨hg, he⟩
    have := (takes_spec h (by simpa using hg)).2.1
    rw [he] at this
    exact this h0
  · have e : takesP p m = m.2.1 := by
      unfold takesP
      rw [show (atM p m.2.1 != 0) = true by simpa using h0]; rfl
    unfold do1
    rw [e, show decide (m.2.1 ≥ 0) = true by simpa using b2.1]
    simp only [cond_true]
    rw [getD_set _ _ _ _ (by rw [h.bd.1]; omega), if_pos rfl]

theorem do2_at (h : Fm p m) (s : Int) (hs : 0 ≤ s) : (do2 p m).getD s.toNat 0 = if m.2.1 = s then atM p m.1 else if m.1 = s then 0 else (do1 p m).getD s.toNat 0 := by
  have b1 := rightS_iff.1 h.fr
  have b2 := rightS_iff.1 h.to
  have hl := do1_len h.toSq
  unfold do2
  rw [getD_set _ _ _ _ (by simp [hl]; omega), getD_set _ _ _ _ (by rw [hl]; omega)]
  by_cases h1 : m.2.1 = s
  · rw [if_pos h1, if_pos (by omega)]
  · rw [if_neg h1, if_neg (by omega)]
    by_cases h2 : m.1 = s
    · rw [if_pos h2, if_pos (by omega)]
    · rw [if_neg h2, if_neg (by omega)]

theorem do2_cnt (h : Fm p m) : cnt (do2 p m) = cnt (do1 p m) := by
  have b1 := rightS_iff.1 h.fr
  have b2 := rightS_iff.1 h.to
  have hl := do1_len h.toSq
  have hw : atM p m.1 ≠ 0 := side_ne h.turn h.mine
  have c1 := cnt_set (do1 p m) m.1.toNat 0 (by rw [hl]; omega)
  have c2 := cnt_set ((do1 p m).set m.1.toNat 0) m.2.1.toNat (atM p m.1) (by simp [hl]; omega)
  rw [getD_set _ _ _ _ (by rw [hl]; omega), if_neg (toNat_ne b1.1 b2.1 h.ne), do1_to h, nz_zero, nz_ne hw] at c2
  rw [do1_from h, nz_zero, nz_ne hw] at c1
  unfold do2
  omega

theorem do3_at (h : Fm p m) (s : Int) (hs : 0 ≤ s) (hne : m.2.1 ≠ s) : (do3 p m).getD s.toNat 0 = (do2 p m).getD s.toNat 0 := by
  have b2 := rightS_iff.1 h.to
  unfold do3
  cases m.2.2.1 != 0 with
  | false => rfl
  | true =>
    simp only [cond_true]
    rw [getD_set _ _ _ _ (by rw [do2_len h.toSq]; omega), if_neg (toNat_ne b2.1 hs hne)]

theorem promo_ne (h : Fm p m) (hp : m.2.2.1 ≠ 0) : makeM m.2.2.1 p.2.1 ≠ 0 := by
  obtain ⟨_, h1, h2⟩ := h.promo hp
  unfold makeM
  rw [show decide (m.2.2.1 < 1) = false by simp; omega, show decide (m.2.2.1 > 6) = false by simp; omega]
  rcases h.turn with ht | ht <;> rw [ht]
  · simp; omega
  · simp; omega

theorem do3_to (h : Fm p m) : (do3 p m).getD m.2.1.toNat 0 ≠ 0 := by
  have b2 := rightS_iff.1 h.to
  unfold do3
  cases hp : m.2.2.1 != 0 with
  | false =>
    simp only [cond_false]
    rw [do2_at h _ b2.1, if_pos rfl]
    exact side_ne h.turn h.mine
  | true =>
    simp only [cond_true]
    rw [getD_set _ _ _ _ (by rw [do2_len h.toSq]; omega), if_pos rfl]
    exact promo_ne h (by simpa using hp)

theorem do3_cnt (h : Fm p m) : cnt (do3 p m) = cnt (do1 p m) := by
  have b2 := rightS_iff.1 h.to
  rw [← do2_cnt h]
  unfold do3
  cases hp : m.2.2.1 != 0 with
  | false => rfl
  | true =>
    simp only [cond_true]
    have c := cnt_set (do2 p m) m.2.1.toNat (makeM m.2.2.1 p.2.1) (by rw [do2_len h.toSq]; omega)
    rw [do2_at h _ b2.1, if_pos rfl, nz_ne (side_ne h.turn h.mine), nz_ne (promo_ne h (by simpa using hp))] at c
    omega

theorem castled_cnt {b : List Int} (hl : b.length = 64) {mid rook : Int} (h1 : 0 ≤ mid ∧ mid < 64) (h2 : 0 ≤ rook ∧ rook < 64) (hne : mid ≠ rook) (h0 : b.getD mid.toNat 0 = 0) : cnt (castled b mid rook) = cnt b := by
  unfold castled
  have c1 := cnt_set b mid.toNat (b.getD rook.toNat 0) (by omega)
  have c2 := cnt_set (b.set mid.toNat (b.getD rook.toNat 0)) rook.toNat 0 (by simp; omega)
  rw [getD_set _ _ _ _ (by omega), if_neg (toNat_ne h1.1 h2.1 hne), nz_zero] at c2
  rw [h0, nz_zero] at c1
  omega

theorem castled_at {b : List Int} (hl : b.length = 64) {mid rook s : Int} (h1 : 0 ≤ mid ∧ mid < 64) (h2 : 0 ≤ rook ∧ rook < 64) (hs : 0 ≤ s) (hm : mid ≠ s) (hr : rook ≠ s) : (castled b mid rook).getD s.toNat 0 = b.getD s.toNat 0 := by
  unfold castled
  rw [getD_set _ _ _ _ (by simp; omega), if_neg (toNat_ne h2.1 hs hr), getD_set _ _ _ _ (by omega), if_neg (toNat_ne h1.1 hs hm)]

/-- When a move castles, it takes nothing, turns into nothing, and the square between is empty. -/
theorem castle_mid (h : Fm p m) (hc : castleP p m ≠ 0) : (do3 p m).getD ((m.1 + m.2.1) / 2).toNat 0 = 0 := by
  obtain ⟨h1, h2, h3⟩ := castle_spec hc
  have ht := h.turn
  have hpawn : pawnP p m = false := by
    unfold pawnP; rw [h1]
    rcases ht with ht | ht <;> rw [ht] <;> rfl
  have hp : m.2.2.1 = 0 := by
    apply Decidable.byContradiction
    intro hp
    have := (h.promo hp).1
    rw [hpawn] at this; cases this
  have hto : atM p m.2.1 = 0 := by
    rcases h3 with ⟨e, _, e2⟩ | ⟨e, _, e2, _⟩ <;> rw [e, e2]
  have htk : decide (takesP p m ≥ 0) = false := by
    unfold takesP
    rw [hto, hpawn]; rfl
  have hd1 : do1 p m = p.1 := by unfold do1; rw [htk]; rfl
  rcases h3 with ⟨e, e1, _⟩ | ⟨e, e1, _, _⟩
  · rw [show (m.1 + m.2.1) / 2 = m.1 + 1 by omega, do3_at h _ (by omega) (by omega), do2_at h _ (by omega), if_neg (by omega), if_neg (by omega), hd1]
    exact e1
  · rw [show (m.1 + m.2.1) / 2 = m.1 - 1 by omega, do3_at h _ (by omega) (by omega), do2_at h _ (by omega), if_neg (by omega), if_neg (by omega), hd1]
    exact e1

theorem do4_facts (h : Fm p m) : (do4 p m).length = 64 ∧ cnt (do4 p m) = cnt (do1 p m) ∧ (do4 p m).getD m.1.toNat 0 = 0 ∧ (do4 p m).getD m.2.1.toNat 0 ≠ 0 := by
  have b1 := rightS_iff.1 h.fr
  have b2 := rightS_iff.1 h.to
  have hl := do3_len h.toSq
  have hfrom : (do3 p m).getD m.1.toNat 0 = 0 := by
    rw [do3_at h _ b1.1 (fun he => h.ne he.symm), do2_at h _ b1.1, if_neg (fun he => h.ne he.symm), if_pos rfl]
  unfold do4
  cases hc : castleP p m != 0 with
  | false => exact ⟨hl, do3_cnt h, hfrom, do3_to h⟩
  | true =>
    have hc' : castleP p m ≠ 0 := by simpa using hc
    obtain ⟨h1, h2, h3⟩ := castle_spec hc'
    have ht := h.turn
    have hmid := castle_mid h hc'
    simp only [cond_true]
    rcases h3 with ⟨e, _⟩ | ⟨e, _⟩
    · rw [show decide (m.2.1 < m.1) = false by simp; omega]
      simp only [cond_false]
      refine ⟨by simp [castled, hl], ?_, ?_, ?_⟩
      · rw [castled_cnt hl (by omega) (by omega) (by omega) hmid, do3_cnt h]
      · rw [castled_at hl (by omega) (by omega) b1.1 (by omega) (by omega), hfrom]
      · rw [castled_at hl (by omega) (by omega) b2.1 (by omega) (by omega)]; exact do3_to h
    · rw [show decide (m.2.1 < m.1) = true by simp; omega]
      simp only [cond_true]
      refine ⟨by simp [castled, hl], ?_, ?_, ?_⟩
      · rw [castled_cnt hl (by omega) (by omega) (by omega) hmid, do3_cnt h]
      · rw [castled_at hl (by omega) (by omega) b1.1 (by omega) (by omega), hfrom]
      · rw [castled_at hl (by omega) (by omega) b2.1 (by omega) (by omega)]; exact do3_to h

end

end Go.Proofs.YtaldkopkfdgngaaGreatDoor

