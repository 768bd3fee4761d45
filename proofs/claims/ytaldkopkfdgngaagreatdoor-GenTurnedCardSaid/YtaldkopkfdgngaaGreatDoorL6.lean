/- Plain laws: what a move makes of a position. -/
import Derived.Test.YtaldkopkfdgngaaGreatDoorL5
set_option linter.all false
set_option maxRecDepth 100000
namespace Go.Proofs.YtaldkopkfdgngaaGreatDoor
open Go Am

theorem bAnd_zero (x : Int) : bAnd .i64 0 x = 0 := by
  show IntKind.i64.wrap (((BitVec.ofInt 64 0 &&& BitVec.ofInt 64 x).toNat : Nat) : Int) = 0
  rw [show (BitVec.ofInt 64 0 &&& BitVec.ofInt 64 x) = 0#64 from by simp]
  rfl

/-- A move of a right position whose squares are squares. -/
structure Sq (p : PosD) (m : MoveD) : Prop where
  bd : Bd p.1
  turn : p.2.1 = 0 ∨ p.2.1 = 1
  fr : rightS m.1 = true
  to : rightS m.2.1 = true

theorem wing_spec {p : PosD} {m : MoveD} (h : wingP p m ≠ 0) : atM p m.1 = makeM 6 p.2.1 ∧ m.1 = 4 + 56 * p.2.1 ∧ (m.2.1 = m.1 + 2 ∨ m.2.1 = m.1 - 2) := by
  unfold wingP at h
  cases h1 : atM p m.1 != makeM 6 p.2.1 with
  | true => rw [h1] at h; exact (h rfl).elim
  | false =>
    cases h2 : m.1 != 4 + 56 * p.2.1 with
    | true => rw [h1, h2] at h; exact (h rfl).elim
    | false =>
      have e1 : atM p m.1 = makeM 6 p.2.1 := by simpa using h1
      have e2 : m.1 = 4 + 56 * p.2.1 := by simpa using h2
      refine ⟨e1, e2, ?_⟩
      cases h3 : m.2.1 - m.1 == 2 with
      | true => have : m.2.1 - m.1 = 2 := by simpa using h3
                omega
      | false =>
        cases h4 : m.2.1 - m.1 == -2 with
        | true => have : m.2.1 - m.1 = -2 := by simpa using h4
                  omega
        | false => rw [h1, h2, h3, h4] at h; exact (h rfl).elim

theorem N_move_castle_0_eq {p : PosD} (hb : Bd p.1) (m : MoveD) (hm : 0 ≤ m.1 ∧ m.1 < 64) (r step : Int) (hs : step = 1 ∨ step = -1) (many : Nat) (hmany : many ≤ 3) (hr : r ≠ 0 → ∀ j : Nat, j < many → 0 ≤ m.1 + step * ((j : Int) + 1) ∧ m.1 + step * ((j : Int) + 1) < 64) :
    ∀ (d i n : Nat), i + d = many → d < n → ∀ {S : Type} (kx : Int → Option S) (kr : Int → Option S), N_move_castle_0 n r step (many : Int) (i : Int) p m kx kr = bif r != 0 && (List.range' i d).any (fun j => atM p (m.1 + step * ((j : Int) + 1)) != 0) then kr 0 else kx r
  | 0, i, n + 1, hi, hn, S, kx, kr => by
    rw [N_move_castle_0_succ]
    unfold R_move_castle_0
    rw [show decide ((i : Int) < (many : Int)) = false by simp; omega]
    simp
  | d + 1, i, n + 1, hi, hn, S, kx, kr => by
    obtain ⟨e1, e2, e3⟩ := scan many (by omega) hi
    rw [N_move_castle_0_succ]
    unfold R_move_castle_0
    rw [e1, e3]
    simp only [cond_true, N_move_castle_0_eq hb m hm r step hs many hmany hr d (i + 1) n (by omega) (by omega)]
    cases h0 : r != 0 with
    | false => rfl
    | true =>
      have h0' : r ≠ 0 := by simpa using h0
      have hj := hr h0' i (by omega)
      have e4 : IntKind.wrap .i64 (step * (((i + 1 : Nat)) : Int)) = step * ((i : Int) + 1) := by
        rcases hs with rfl | rfl
        · rw [w64 (by omega)]; omega
        · rw [w64 (by omega)]; omega
      rw [e4, w64 (x := m.1 + step * ((i : Int) + 1)) (by omega), inB_true (n := 64) hj]
      simp only [cond_true, Bool.true_and, List.range'_succ, List.any_cons]
      unfold atM
      cases p.1.getD (m.1 + step * ((i : Int) + 1)).toNat 0 != 0 <;> rfl

/-- The right by which a move castles. -/
def castleP (p : PosD) (m : MoveD) : Int :=
  bif bAnd .i64 (wingP p m) p.2.2.1 != 0 && (bif decide (m.2.1 < m.1) then (List.range' 0 3).any (fun j => atM p (m.1 + -1 * ((j : Int) + 1)) != 0) else (List.range' 0 2).any (fun j => atM p (m.1 + 1 * ((j : Int) + 1)) != 0)) then 0 else bAnd .i64 (wingP p m) p.2.2.1

theorem move_castle_eq {p : PosD} {m : MoveD} (h : Sq p m) {S : Type} (k : Int → Option S) : F_move_castle p m k = k (castleP p m) := by
  unfold F_move_castle R_move_castle castleP
  have b1 := rightS_iff.1 h.fr
  have b2 := rightS_iff.1 h.to
  have ht := h.turn
  simp only [move_wing_eq h.bd h.fr h.to h.turn]
  have hw : bAnd .i64 (wingP p m) p.2.2.1 ≠ 0 → m.1 = 4 + 56 * p.2.1 ∧ (m.2.1 = m.1 + 2 ∨ m.2.1 = m.1 - 2) := by
    intro h0
    refine (wing_spec (p := p) (m := m) (fun hz => h0 ?_)).2
    rw [hz, bAnd_zero]
  rw [L_move_castle_0_N, L_move_castle_0_N]
  cases hlt : decide (m.2.1 < m.1) with
  | true =>
    have hlt' : m.2.1 < m.1 := by simpa using hlt
    have := N_move_castle_0_eq h.bd m b1 (bAnd .i64 (wingP p m) p.2.2.1) (-1) (.inr rfl) 3 (by omega) (fun h0 j hj => by have := hw h0; omega) 3 0 100 rfl (by omega) (fun z1 => k z1) (fun z2 => k z2)
    simp only [cond_true]
    refine Eq.trans this ?_
    cases (bAnd .i64 (wingP p m) p.2.2.1 != 0 && _) <;> rfl
  | false =>
    have hlt' : ¬ m.2.1 < m.1 := by simpa using hlt
    have := N_move_castle_0_eq h.bd m b1 (bAnd .i64 (wingP p m) p.2.2.1) 1 (.inl rfl) 2 (by omega) (fun h0 j hj => by have := hw h0; omega) 2 0 100 rfl (by omega) (fun z1 => k z1) (fun z2 => k z2)
    simp only [cond_false]
    refine Eq.trans this ?_
    cases (bAnd .i64 (wingP p m) p.2.2.1 != 0 && _) <;> rfl

theorem castle_spec {p : PosD} {m : MoveD} (h : castleP p m ≠ 0) : atM p m.1 = makeM 6 p.2.1 ∧ m.1 = 4 + 56 * p.2.1 ∧
    ((m.2.1 = m.1 + 2 ∧ atM p (m.1 + 1) = 0 ∧ atM p (m.1 + 2) = 0) ∨ (m.2.1 = m.1 - 2 ∧ atM p (m.1 - 1) = 0 ∧ atM p (m.1 - 2) = 0 ∧ atM p (m.1 - 3) = 0)) := by
  have hr : bAnd .i64 (wingP p m) p.2.2.1 ≠ 0 := by
    intro h0
    apply h
    unfold castleP
    rw [h0]; rfl
  obtain ⟨h1, h2, h3⟩ := wing_spec (p := p) (m := m) (fun hz => hr (by rw [hz, bAnd_zero]))
  refine ⟨h1, h2, ?_⟩
  unfold castleP at h
  have e0 : (bAnd .i64 (wingP p m) p.2.2.1 != 0) = true := by simpa using hr
  rw [e0] at h
  rcases h3 with h3 | h3
  · rw [show decide (m.2.1 < m.1) = false by simp; omega] at h
    left
    refine ⟨h3, ?_, ?_⟩
    · apply Decidable.byContradiction
      intro hne
      apply h
      have : (atM p (m.1 + 1 * (((0 : Nat) : Int) + 1)) != 0) = true := by simpa using hne
      simp only [cond_false, List.range'_succ, List.any_cons, this, Bool.true_or, Bool.and_true, cond_true]
    · apply Decidable.byContradiction
      intro hne
      apply h
      have : (atM p (m.1 + 1 * (((0 + 1 : Nat) : Int) + 1)) != 0) = true := by simpa using hne
      simp only [cond_false, List.range'_succ, List.any_cons, this, Bool.true_or, Bool.or_true, Bool.and_true, cond_true]
  · rw [show decide (m.2.1 < m.1) = true by simp; omega] at h
    right
    refine ⟨h3, ?_, ?_, ?_⟩
    · apply Decidable.byContradiction
      intro hne
      apply h
      have : (atM p (m.1 + -1 * (((0 : Nat) : Int) + 1)) != 0) = true := by rw [show m.1 + -1 * (((0 : Nat) : Int) + 1) = m.1 - 1 by omega]; simpa using hne
      simp only [cond_true, List.range'_succ, List.any_cons, this, Bool.true_or, Bool.and_true, cond_true]
    · apply Decidable.byContradiction
      intro hne
      apply h
      have : (atM p (m.1 + -1 * (((0 + 1 : Nat) : Int) + 1)) != 0) = true := by rw [show m.1 + -1 * (((0 + 1 : Nat) : Int) + 1) = m.1 - 2 by omega]; simpa using hne
      simp only [cond_true, List.range'_succ, List.any_cons, this, Bool.true_or, Bool.or_true, Bool.and_true, cond_true]
    · apply Decidable.byContradiction
      intro hne
      apply h
      have : (atM p (m.1 + -1 * (((0 + 1 + 1 : Nat) : Int) + 1)) != 0) = true := by rw [show m.1 + -1 * (((0 + 1 + 1 : Nat) : Int) + 1) = m.1 - 3 by omega]; simpa using hne
      simp only [cond_true, List.range'_succ, List.any_cons, this, Bool.true_or, Bool.or_true, Bool.and_true, cond_true]

/-- The square of what a move takes. -/
def takesP (p : PosD) (m : MoveD) : Int :=
  bif atM p m.2.1 != 0 then m.2.1 else bif pawnP p m then bif m.2.1 == p.2.2.2.1 then bif fileS m.1 != fileS m.2.1 then (match passedP p with | some s => s | none => -1) else -1 else -1 else -1

theorem passed_bounds {p : PosD} {s : Int} (h : passedP p = some s) : 0 ≤ s ∧ s < 64 := by
  unfold passedP at h
  cases h1 : decide (otherS p.2.1 < 0) with
  | true => rw [h1] at h; cases h
  | false =>
    rw [h1] at h
    simp only [cond_false] at h
    cases h2 : (rankS p.2.2.2.1 != bif p.2.1 == 1 then 2 else 5) with
    | true => rw [h2] at h; cases h
    | false =>
      rw [h2] at h
      simp only [cond_false] at h
      split at h
      · rename_i bh fr h3 h4
        revert h
        cases p.1.getD p.2.2.2.1.toNat 0 != 0 <;> cases p.1.getD bh.toNat 0 != 0 <;> cases p.1.getD fr.toNat 0 != makeM 1 (otherS p.2.1) <;> intro h <;> cases h
        exact stepS_right h4
      · cases h

theorem takes_bounds {p : PosD} {m : MoveD} (h : Sq p m) (hg : decide (takesP p m ≥ 0) = true) : 0 ≤ takesP p m ∧ takesP p m < 64 := by
  have hg' : takesP p m ≥ 0 := by simpa using hg
  refine ⟨hg', ?_⟩
  have b2 := rightS_iff.1 h.to
  unfold takesP at hg' ⊢
  revert hg'
  cases atM p m.2.1 != 0 with
  | true => intro _; exact b2.2
  | false =>
    cases pawnP p m <;> cases m.2.1 == p.2.2.2.1 <;> cases fileS m.1 != fileS m.2.1 <;> simp only [cond_true, cond_false] <;> intro h0 <;> try omega
    cases hp : passedP p with
    | none => simp
    | some s => exact (passed_bounds hp).2

theorem wrong_turn {p : PosD} (h : wrongP p = 0) : p.2.1 = 0 ∨ p.2.1 = 1 := by
  unfold wrongP at h
  cases h1 : wrongB p.1 != 0 with
  | true => rw [h1] at h; simp at h1; exact (h1 h).elim
  | false =>
    rw [h1] at h
    cases h2 : decide (otherS p.2.1 < 0) with
    | true => rw [h2] at h; cases h
    | false =>
      unfold otherS at h2
      cases h3 : p.2.1 == 0 with
      | true => exact .inl (by simpa using h3)
      | false =>
        cases h4 : p.2.1 == 1 with
        | true => exact .inr (by simpa using h4)
        | false => rw [h3, h4] at h2; simp at h2

theorem formed_sq {p : PosD} (hb : Bd p.1) {m : MoveD} (hw : wrongP p = 0) (h : formedP p m = true) : Sq p m := by
  unfold formedP at h
  simp only [Bool.and_eq_true] at h
  exact ⟨hb, wrong_turn hw, h.1, h.2.1⟩

theorem move_Formed_eq {p : PosD} (hb : Bd p.1) (m : MoveD) {S : Type} (k : Bool → Option S) : F_move_Formed p m k = k (wrongP p == 0 && formedP p m) := by
  unfold F_move_Formed R_move_Formed
  simp only [pos_Wrong_eq hb, move_formed_eq hb]
  cases wrongP p == 0 <;> rfl

end Go.Proofs.YtaldkopkfdgngaaGreatDoor

