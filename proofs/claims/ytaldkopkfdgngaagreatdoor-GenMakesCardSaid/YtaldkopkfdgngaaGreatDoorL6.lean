/- Plain laws: what a move makes of a position. -/
import Derived.Test.YtaldkopkfdgngaaGreatDoorL5
set_option linter.all false
set_option maxRecDepth 100000
namespace Go.Proofs.YtaldkopkfdgngaaGreatDoor
open Go Am

theorem bAnd_zero (x : Int) : bAnd .i64 0 x = 0 := by
  show IntKind.i64.wrap (((BitVec.ofInt 64 0 &&& BitVec.ofInt 64 x).toNat : Nat) : Int) = 0
  rw [show (BitVec.ofInt 64 0 &&& BitVec.ofInt 64 x) = 0#64 from by simp]
  rfl

/-- A move of a right position whose squares are squares. -/
structure Sq (p : PosD) (m : MoveD) : Prop where
  bd : Bd p.1
  turn : p.2.1 = 0 ∨ p.2.1 = 1
  fr : rightS m.1 = true
  to : rightS m.2.1 = true

theorem wing_spec {p : PosD} {m : MoveD} (h : wingP p m ≠ 0) : atM p m.1 = makeM 6 p.2.1 ∧ m.1 = 4 + 56 * p.2.1 ∧ (m.2.1 = m.1 + 2 ∨ m.2.1 = m.1 - 2) := by
  unfold wingP at h
  cases h1 : atM p m.1 != makeM 6 p.2.1 with
  | true => rw [h1] at h; exact (h rfl).elim
  | false =>
    cases h2 : m.1 != 4 + 56 * p.2.1 with
    | true => rw [h1, h2] at h; exact (h rfl).elim
    | false =>
      have e1 : atM p m.1 = makeM 6 p.2.1 := by simpa using h1
      have e2 : m.1 = 4 + 56 * p.2.1 := by simpa using h2
      refine ⟨e1, e2, ?_⟩
      cases h3 : m.2.1 - m.1 == 2 with
      | true => have : m.2.1 - m.1 = 2 := by simpa using h3
                omega
      | false =>
        cases h4 : m.2.1 - m.1 == -2 with
        | true => have : m.2.1 - m.1 = -2 := by simpa using h4
                  omega
        | false => rw [h1, h2, h3, h4] at h; exact (h rfl).elim

theorem N_move_castle_0_eq {p : PosD} (hb : Bd p.1) (m : MoveD) (hm : 0 ≤ m.1 ∧ m.1 < 64) (r step : Int) (hs : step = 1 ∨ step = -1) (many : Nat) (hmany : many ≤ 3) (hr : r ≠ 0 → ∀ j : Nat, j < many → 0 ≤ m.1 + step * ((j : Int) + 1) ∧ m.1 + step * ((j : Int) + 1) < 64) :
    ∀ (d i n : Nat), i + d = many → d < n → ∀ {S : Type} (kx : Int → Option S) (kr : Int → Option S), N_move_castle_0 n r step (many : Int) (i : Int) p m kx kr = bif r != 0 && (List.range' i d).any (fun j => atM p (m.1 + step * ((j : Int) + 1)) != 0) then kr 0 else kx r
  | 0, i, n + 1, hi, hn, S, kx, kr => by
    rw [N_move_castle_0_succ]
    unfold R_move_castle_0
    rw [show decide ((i : Int) < (many : Int)) = false by simp; omega]
    simp
  | d + 1, i, n + 1, hi, hn, S, kx, kr => by
    obtain ⟨e1, e2, e3⟩ := scan many (by omega) hi
    rw [N_move_castle_0_succ]
    unfold R_move_castle_0
    rw [e1, e3]
    simp only [cond_true, N_move_castle_0_eq hb m hm r step hs many hmany hr d (i + 1) n (by omega) (by omega)]
    cases h0 : r != 0 with
    | false => rfl
    | true =>
      have h0' : r ≠ 0 := by simpa using h0
      have hj := hr h0' i (by omega)
      have e4 : IntKind.wrap .i64 (step * (((i + 1 : Nat)) : Int)) = step * ((i : Int) + 1) := by
        rcases hs with rfl | rfl
        · rw [w64 (by omega)]; omega
        · rw [w64 (by omega)]; omega
      rw [e4, w64 (x := m.1 + step * ((i : Int) + 1)) (by omega), inB_true (n := 64) hj]
      simp only [cond_true, Bool.true_and, List.range'_succ, List.any_cons]
      unfold atM
      cases p.1.getD (m.1 + step * ((i : Int) + 1)).toNat 0 != 0 <;> rfl

/-- The right by which a move castles. -/
def castleP (p : PosD) (m : MoveD) : Int :=
  bif bAnd .i64 (wingP p m) p.2.2.1 != 0 && (bif decide (m.2.1 < m.1) then (List.range' 0 3).any (fun j => atM p (m.1 + -1 * ((j : Int) + 1)) != 0) else (List.range' 0 2).any (fun j => atM p (m.1 + 1 * ((j : Int) + 1)) != 0)) then 0 else bAnd .i64 (wingP p m) p.2.2.1

theorem move_castle_eq {p : PosD} {m : MoveD} (h : Sq p m) {S : Type} (k : Int → Option S) : F_move_castle p m k = k (castleP p m) := by
  unfold F_move_castle R_move_castle castleP
  have b1 := rightS_iff.1 h.fr
  have b2 := rightS_iff.1 h.to
  have ht := h.turn
  simp only [move_wing_eq h.bd h.fr h.to h.turn]
  have hw : bAnd .i64 (wingP p m) p.2.2.1 ≠ 0 → m.1 = 4 + 56 * p.2.1 ∧ (m.2.1 = m.1 + 2 ∨ m.2.1 = m.1 - 2) := by
    intro h0
    refine (wing_spec (p := p) (m := m) (fun hz => h0 ?_)).2
    rw [hz, bAnd_zero]
  rw [L_move_castle_0_N, L_move_castle_0_N]
  cases hlt : decide (m.2.1 < m.1) with
  | true =>
    have hlt' : m.2.1 < m.1 := by simpa using hlt
    have := N_move_castle_0_eq h.bd m b1 (bAnd .i64 (wingP p m) p.2.2.1) (-1) (.inr rfl) 3 (by omega) (fun h0 j hj => by have := hw h0; omega) 3 0 100 rfl (by omega) (fun z1 => k z1) (fun z2 => k z2)
    simp only [cond_true]
    refine Eq.trans this ?_
    cases (bAnd .i64 (wingP p m) p.2.2.1 != 0 && _) <;> rfl
  | false =>
    have hlt' : ¬ m.2.1 < m.1 := by simpa using hlt
    have := N_move_castle_0_eq h.bd m b1 (bAnd .i64 (wingP p m) p.2.2.1) 1 (.inl rfl) 2 (by omega) (fun h0 j hj => by have := hw h0; omega) 2 0 100 rfl (by omega) (fun z1 => k z1) (fun z2 => k z2)
    simp only [cond_false]
    refine Eq.trans this ?_
    cases (bAnd .i64 (wingP p m) p.2.2.1 != 0 && _) <;> rfl

theorem castle_spec {p : PosD} {m : MoveD} (h : castleP p m ≠ 0) : atM p m.1 = makeM 6 p.2.1 ∧ m.1 = 4 + 56 * p.2.1 ∧
    ((m.2.1 = m.1 + 2 ∧ atM p (m.1 + 1) = 0 ∧ atM p (m.1 + 2) = 0) ∨ (m.2.1 = m.1 - 2 ∧ atM p (m.1 - 1) = 0 ∧ atM p (m.1 - 2) = 0 ∧ atM p (m.1 - 3) = 0)) := by
  have hr : bAnd .i64 (wingP p m) p.2.2.1 ≠ 0 := by
    intro h0
    apply h
    unfold castleP
    rw [h0]; rfl
  obtain ⟨h1, h2, h3⟩ := wing_spec (p := p) (m := m) (fun hz => hr (by rw [hz, bAnd_zero]))
  refine ⟨h1, h2, ?_⟩
  unfold castleP at h
  have e0 : (bAnd .i64 (wingP p m) p.2.2.1 != 0) = true := by simpa using hr
  rw [e0] at h
  rcases h3 with h3 | h3
  · rw [show decide (m.2.1 < m.1) = false by simp; omega] at h
    left
    refine ⟨h3, ?_, ?_⟩
    · apply Decidable.byContradiction
      intro hne
      apply h
      have : (atM p (m.1 + 1 * (((0 : Nat) : Int) + 1)) != 0) = true := by simpa using hne
      simp only [cond_false, List.range'_succ, List.any_cons, this, Bool.true_or, Bool.and_true, cond_true]
    · apply Decidable.byContradiction
      intro hne
      apply h
      have : (atM p (m.1 + 1 * (((0 + 1 : Nat) : Int) + 1)) != 0) = true := by simpa using hne
      simp only [cond_false, List.range'_succ, List.any_cons, this, Bool.true_or, Bool.or_true, Bool.and_true, cond_true]
  · rw [show decide (m.2.1 < m.1) = true by simp; omega] at h
    right
    refine ⟨h3, ?_, ?_, ?_⟩
    · apply Decidable.byContradiction
      intro hne
      apply h
      have : (atM p (m.1 + -1 * (((0 : Nat) : Int) + 1)) != 0) = true := by rw [show m.1 + -1 * (((0 : Nat) : Int) + 1) = m.1 - 1 by omega]; simpa using hne
      simp only [cond_true, List.range'_succ, List.any_cons, this, Bool.true_or, Bool.and_true, cond_true]
    · apply Decidable.byContradiction
      intro hne
      apply h
      have : (atM p (m.1 + -1 * (((0 + 1 : Nat) : Int) + 1)) != 0) = true := by rw [show m.1 + -1 * (((0 + 1 : Nat) : Int) + 1) = m.1 - 2 by omega]; simpa using hne
      simp only [cond_true, List.range'_succ, List.any_cons, this, Bool.true_or, Bool.or_true, Bool.and_true, cond_true]
    · apply Decidable.byContradiction
      intro hne
      apply h
      have : (atM p (m.1 + -1 * (((0 + 1 + 1 : Nat) : Int) + 1)) != 0) = true := by rw [show m.1 + -1 * (((0 + 1 + 1 : Nat) : Int) + 1) = m.1 - 3 by omega]; simpa using hne
      simp only [cond_true, List.range'_succ, List.any_cons, this, Bool.true_or, Bool.or_true, Bool.and_true, cond_true]

/-- The square of what a move takes. -/
def takesP (p : PosD) (m : MoveD) : Int :=
  bif atM p m.2.1 != 0 then m.2.1 else bif pawnP p m then bif m.2.1 == p.2.2.2.1 then bif fileS m.1 != fileS m.2.1 then (match passedP p with | some s => s | none => -1) else -1 else -1 else -1

theorem move_takes_eq {p : PosD} {m : MoveD} (h : Sq p m) {S : Type} (k : Int → Option S) : F_move_takes p m k = k (takesP p m) := by
  unfold F_move_takes R_move_takes takesP
  rw [inB_true (n := 64) (rightS_iff.1 h.to)]
  simp only [cond_true, move_pawn_eq h.bd h.fr, square_File_eq, pos_Passed_eq h.bd]
  unfold atM
  cases p.1.getD m.2.1.toNat 0 != 0 <;> cases pawnP p m <;> cases m.2.1 == p.2.2.2.1 <;> cases fileS m.1 != fileS m.2.1 <;> cases passedP p <;> rfl

theorem passed_bounds {p : PosD} {s : Int} (h : passedP p = some s) : 0 ≤ s ∧ s < 64 := by
  unfold passedP at h
  cases h1 : decide (otherS p.2.1 < 0) with
  | true => rw [h1] at h; cases h
  | false =>
    rw [h1] at h
    simp only [cond_false] at h
    cases h2 : (rankS p.2.2.2.1 != bif p.2.1 == 1 then 2 else 5) with
    | true => rw [h2] at h; cases h
    | false =>
      rw [h2] at h
      simp only [cond_false] at h
      split at h
      · rename_i bh fr h3 h4
        revert h
        cases p.1.getD p.2.2.2.1.toNat 0 != 0 <;> cases p.1.getD bh.toNat 0 != 0 <;> cases p.1.getD fr.toNat 0 != makeM 1 (otherS p.2.1) <;> intro h <;> cases h
        exact stepS_right h4
      · cases h

theorem takes_bounds {p : PosD} {m : MoveD} (h : Sq p m) (hg : decide (takesP p m ≥ 0) = true) : 0 ≤ takesP p m ∧ takesP p m < 64 := by
  have hg' : takesP p m ≥ 0 := by simpa using hg
  refine ⟨hg', ?_⟩
  have b2 := rightS_iff.1 h.to
  unfold takesP at hg' ⊢
  revert hg'
  cases atM p m.2.1 != 0 with
  | true => intro _; exact b2.2
  | false =>
    cases pawnP p m <;> cases m.2.1 == p.2.2.2.1 <;> cases fileS m.1 != fileS m.2.1 <;> simp only [cond_true, cond_false] <;> intro h0 <;> try omega
    cases hp : passedP p with
    | none => simp
    | some s => exact (passed_bounds hp).2

def cornersF (m : MoveD) (c : Int) : List StepD → Int
  | [] => c
  | x :: l => cornersF m (bif x.1 == m.1 then bAndNot .i64 c x.2.1 else bif x.1 == m.2.1 then bAndNot .i64 c x.2.1 else c) l
def cornersS : List StepD := [(0, 2, ()), (4, 3, ()), (7, 1, ()), (56, 8, ()), (60, 12, ()), (63, 4, ())]

theorem N_move_Do_0_eq (z : Bool) (cs : List StepD) (hcs : cs.length = 6) (m : MoveD) (p0 : PosD) : ∀ (d i n : Nat) (q : PosD), i + d = 6 → d < n → ∀ {S : Type} (kx : Bool → PosD → PosD → Option S) (kr : Option S),
    N_move_Do_0 n z cs (i : Int) m p0 q kx kr = kx z p0 (q.1, q.2.1, cornersF m q.2.2.1 (cs.drop i), q.2.2.2)
  | 0, i, n + 1, q, hi, hn, S, kx, kr => by
    obtain rfl : i = 6 := by omega
    rw [N_move_Do_0_succ, List.drop_eq_nil_of_le (by omega)]
    rfl
  | d + 1, i, n + 1, q, hi, hn, S, kx, kr => by
    obtain ⟨e1, e2, e3⟩ := scan 6 (by omega) hi
    rw [N_move_Do_0_succ]
    unfold R_move_Do_0
    have hd : List.drop i cs = cs.getD i (0, 0, ()) :: cs.drop (i + 1) := by
      rw [List.drop_eq_getElem_cons (by omega), List.getD_eq_getElem?_getD, List.getElem?_eq_getElem (by omega)]; rfl
    rw [show decide ((i : Int) < 6) = true from e1, show inB (i : Int) 6 = true from e2, e3, hd]
    simp only [cond_true, Int.toNat_natCast, N_move_Do_0_eq z cs hcs m p0 d (i + 1) n _ (by omega) (by omega), cornersF]
    cases (cs.getD i (0, 0, ())).1 == m.1 <;> cases (cs.getD i (0, 0, ())).1 == m.2.1 <;> rfl

def twoP (p : PosD) (m : MoveD) : Bool := pawnP p m && (fileS m.1 == fileS m.2.1 && farS m.1 m.2.1 == 2)
def do1 (p : PosD) (m : MoveD) : List Int := bif decide (takesP p m ≥ 0) then p.1.set (takesP p m).toNat 0 else p.1
def do2 (p : PosD) (m : MoveD) : List Int := ((do1 p m).set m.1.toNat 0).set m.2.1.toNat (atM p m.1)
def do3 (p : PosD) (m : MoveD) : List Int := bif m.2.2.1 != 0 then (do2 p m).set m.2.1.toNat (makeM m.2.2.1 p.2.1) else do2 p m
def castled (b : List Int) (mid rook : Int) : List Int := (b.set mid.toNat (b.getD rook.toNat 0)).set rook.toNat 0
def do4 (p : PosD) (m : MoveD) : List Int := bif castleP p m != 0 then (bif decide (m.2.1 < m.1) then castled (do3 p m) ((m.1 + m.2.1) / 2) (m.1 - 4) else castled (do3 p m) ((m.1 + m.2.1) / 2) (m.1 + 3)) else do3 p m
/-- The position behind a formed move. -/
def doP (p : PosD) (m : MoveD) : PosD := (do4 p m, otherS p.2.1, cornersF m p.2.2.1 cornersS, (bif twoP p m then (m.1 + m.2.1) / 2 else -1), ())

theorem L_move_Do_0_eq (z : Bool) (m : MoveD) (p0 q : PosD) {S : Type} (kx : Bool → PosD → PosD → Option S) (kr : Option S) : L_move_Do_0 z cornersS 0 m p0 q kx kr = kx z p0 (q.1, q.2.1, cornersF m q.2.2.1 cornersS, q.2.2.2) := by
  rw [L_move_Do_0_N, show (0 : Int) = ((0 : Nat) : Int) from rfl, N_move_Do_0_eq z cornersS rfl m p0 6 0 _ q rfl (by omega)]
  rfl

theorem move_corners_eq {S : Type} (k : List StepD → Option S) : F_move_corners k = k cornersS := rfl

theorem move_Do_eq {p : PosD} {m : MoveD} (h : Sq p m) {S : Type} (k : PosD → Option S) : F_move_Do p m k = k (doP p m) := by
  have b1 := rightS_iff.1 h.fr
  have b2 := rightS_iff.1 h.to
  have ht := h.turn
  have em : IntKind.wrap .i64 (Int.tdiv (IntKind.wrap .i64 (m.1 + m.2.1)) 2) = (m.1 + m.2.1) / 2 := by
    rw [w64 (x := m.1 + m.2.1) (by omega), Int.tdiv_eq_ediv_of_nonneg (by omega), w64 (by omega)]
  have e4 : IntKind.wrap .i64 (m.1 - 4) = m.1 - 4 := w64 (by omega)
  have e3 : IntKind.wrap .i64 (m.1 + 3) = m.1 + 3 := w64 (by omega)
  have hmid : inB ((m.1 + m.2.1) / 2) 64 = true := inB_true (by omega)
  have hmk := makeM_bounds m.2.2.1 p.2.1
  have e8 : IntKind.wrap .i8 (makeM m.2.2.1 p.2.1) = makeM m.2.2.1 p.2.1 := w8 (by omega)
  have i1 : inB m.1 64 = true := inB_true b1
  have i2 : inB m.2.1 64 = true := inB_true b2
  unfold F_move_Do R_move_Do
  simp only [i1, i2, cond_true, move_takes_eq h, move_castle_eq h, move_pawn_eq h.bd h.fr, square_File_eq, square_Far_eq, men_Make_eq, men_Other_eq, em, e4, e3, e8, hmid,
    move_corners_eq, L_move_Do_0_eq]
  unfold doP do4 do3 do2 do1 castled twoP
  cases hg : decide (takesP p m ≥ 0) with
  | false =>
    simp only [cond_false]
    cases hc : castleP p m != 0 with
    | false =>
      simp only [cond_false]
      cases pawnP p m <;> cases fileS m.1 == fileS m.2.1 <;> cases m.2.2.1 != 0 <;> cases farS m.1 m.2.1 == 2 <;> rfl
    | true =>
      obtain ⟨_, q2, q3⟩ := castle_spec (p := p) (m := m) (by simpa using hc)
      cases hl : decide (m.2.1 < m.1) with
      | true =>
        have hl' : m.2.1 < m.1 := by simpa using hl
        have i3 : inB (m.1 - 4) 64 = true := inB_true (by omega)
        simp only [i3, cond_true, cond_false]
        cases pawnP p m <;> cases fileS m.1 == fileS m.2.1 <;> cases m.2.2.1 != 0 <;> cases farS m.1 m.2.1 == 2 <;> rfl
      | false =>
        have hl' : ¬ m.2.1 < m.1 := by simpa using hl
        have i3 : inB (m.1 + 3) 64 = true := inB_true (by omega)
        simp only [i3, cond_true, cond_false]
        cases pawnP p m <;> cases fileS m.1 == fileS m.2.1 <;> cases m.2.2.1 != 0 <;> cases farS m.1 m.2.1 == 2 <;> rfl
  | true =>
    simp only [inB_true (n := 64) (takes_bounds h hg), cond_true]
    cases hc : castleP p m != 0 with
    | false =>
      simp only [cond_false]
      cases pawnP p m <;> cases fileS m.1 == fileS m.2.1 <;> cases m.2.2.1 != 0 <;> cases farS m.1 m.2.1 == 2 <;> rfl
    | true =>
      obtain ⟨_, q2, q3⟩ := castle_spec (p := p) (m := m) (by simpa using hc)
      cases hl : decide (m.2.1 < m.1) with
      | true =>
        have hl' : m.2.1 < m.1 := by simpa using hl
        have i3 : inB (m.1 - 4) 64 = true := inB_true (by omega)
        simp only [i3, cond_true, cond_false]
        cases pawnP p m <;> cases fileS m.1 == fileS m.2.1 <;> cases m.2.2.1 != 0 <;> cases farS m.1 m.2.1 == 2 <;> rfl
      | false =>
        have hl' : ¬ m.2.1 < m.1 := by simpa using hl
        have i3 : inB (m.1 + 3) 64 = true := inB_true (by omega)
        simp only [i3, cond_true, cond_false]
        cases pawnP p m <;> cases fileS m.1 == fileS m.2.1 <;> cases m.2.2.1 != 0 <;> cases farS m.1 m.2.1 == 2 <;> rfl

theorem wrong_turn {p : PosD} (h : wrongP p = 0) : p.2.1 = 0 ∨ p.2.1 = 1 := by
  unfold wrongP at h
  cases h1 : wrongB p.1 != 0 with
  | true => rw [h1] at h; simp at h1; exact (h1 h).elim
  | false =>
    rw [h1] at h
    cases h2 : decide (otherS p.2.1 < 0) with
    | true => rw [h2] at h; cases h
    | false =>
      unfold otherS at h2
      cases h3 : p.2.1 == 0 with
      | true => exact .inl (by simpa using h3)
      | false =>
        cases h4 : p.2.1 == 1 with
        | true => exact .inr (by simpa using h4)
        | false => rw [h3, h4] at h2; simp at h2

theorem formed_sq {p : PosD} (hb : Bd p.1) {m : MoveD} (hw : wrongP p = 0) (h : formedP p m = true) : Sq p m := by
  unfold formedP at h
  simp only [Bool.and_eq_true] at h
  exact ⟨hb, wrong_turn hw, h.1, h.2.1⟩

theorem move_Make_eq {p : PosD} (hb : Bd p.1) (m : MoveD) {S : Type} (k : PosD → Int → Option S) : F_move_Make p m k =
    bif wrongP p != 0 then k (List.replicate 64 0, 0, 0, 0, ()) (wrongP p) else bif !formedP p m then k (List.replicate 64 0, 0, 0, 0, ()) 5 else k (doP p m) 0 := by
  unfold F_move_Make R_move_Make
  simp only [pos_Wrong_eq hb, move_formed_eq hb]
  cases hw : wrongP p != 0 with
  | true => rfl
  | false =>
    cases hf : formedP p m with
    | false => rfl
    | true => simp only [cond_false, Bool.not_true, move_Do_eq (formed_sq hb (by simpa using hw) hf)]

theorem move_Formed_eq {p : PosD} (hb : Bd p.1) (m : MoveD) {S : Type} (k : Bool → Option S) : F_move_Formed p m k = k (wrongP p == 0 && formedP p m) := by
  unfold F_move_Formed R_move_Formed
  simp only [pos_Wrong_eq hb, move_formed_eq hb]
  cases wrongP p == 0 <;> rfl

end Go.Proofs.YtaldkopkfdgngaaGreatDoor

