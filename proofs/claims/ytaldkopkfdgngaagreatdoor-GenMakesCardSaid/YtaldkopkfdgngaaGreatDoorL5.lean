/- Plain laws: positions and moves. -/
import Derived.Test.YtaldkopkfdgngaaGreatDoorL4
set_option linter.all false
set_option maxRecDepth 100000
namespace Go.Proofs.YtaldkopkfdgngaaGreatDoor
open Go Am

/-- The square of the pawn that went two squares. -/
def passedP (p : PosD) : Option Int :=
  bif decide (otherS p.2.1 < 0) then none else bif rankS p.2.2.2.1 != (bif p.2.1 == 1 then 2 else 5) then none else
  match stepS p.2.2.2.1 0 (bif p.2.1 == 1 then -1 else 1), stepS p.2.2.2.1 0 (bif p.2.1 == 1 then 1 else -1) with
  | some bh, some fr => bif p.1.getD p.2.2.2.1.toNat 0 != 0 then none else bif p.1.getD bh.toNat 0 != 0 then none else bif p.1.getD fr.toNat 0 != makeM 1 (otherS p.2.1) then none else some fr
  | _, _ => none

theorem rankS_inB {e r : Int} (h : (rankS e != r) = false) (hr : 0 ≤ r) : inB e 64 = true := by
  have h' : rankS e = r := by simpa using h
  unfold rankS at h'
  cases hs : rightS e with
  | false => rw [hs] at h'; simp at h'; omega
  | true => exact inB_true (rightS_iff.1 hs)

theorem pos_Passed_eq {p : PosD} (hb : Bd p.1) {S : Type} (k : Int → Bool → Option S) : F_pos_Passed p k = (match passedP p with | some s => k s true | none => k 0 false) := by
  unfold F_pos_Passed R_pos_Passed passedP
  have e0 : IntKind.wrap .i64 (0 - 1) = -1 := rfl
  have e1 : IntKind.wrap .i64 (0 - -1) = 1 := rfl
  have ha : ∀ {S : Type} (k : Int → Option S), F_pos_ahead p.2.1 k = k (bif p.2.1 == 1 then -1 else 1) := by
    intro S k
    unfold F_pos_ahead R_pos_ahead
    cases p.2.1 == 1 <;> rfl
  simp only [ha, square_Step_eq, men_Other_eq, square_Rank_eq, men_Make_eq, hb.w]
  cases ht : p.2.1 == 1 with
  | true =>
    simp only [cond_true, e1]
    cases h1 : decide (otherS p.2.1 < 0) with
    | true => cases stepS p.2.2.2.1 0 (-1) <;> cases stepS p.2.2.2.1 0 1 <;> rfl
    | false =>
      cases h2 : rankS p.2.2.2.1 != 2 with
      | true => cases stepS p.2.2.2.1 0 (-1) <;> cases stepS p.2.2.2.1 0 1 <;> rfl
      | false =>
        rw [rankS_inB h2 (by omega)]
        cases h3 : stepS p.2.2.2.1 0 (-1) with
        | none => cases stepS p.2.2.2.1 0 1 <;> rfl
        | some bh =>
          cases h4 : stepS p.2.2.2.1 0 1 with
          | none => rfl
          | some fr =>
            simp only [inB_true (n := 64) (stepS_right h3), inB_true (n := 64) (stepS_right h4), Bool.not_true, cond_true, cond_false]
            cases p.1.getD p.2.2.2.1.toNat 0 != 0 <;> cases p.1.getD bh.toNat 0 != 0 <;> cases p.1.getD fr.toNat 0 != makeM 1 (otherS p.2.1) <;> rfl
  | false =>
    simp only [cond_false, e0]
    cases h1 : decide (otherS p.2.1 < 0) with
    | true => cases stepS p.2.2.2.1 0 1 <;> cases stepS p.2.2.2.1 0 (-1) <;> rfl
    | false =>
      cases h2 : rankS p.2.2.2.1 != 5 with
      | true => cases stepS p.2.2.2.1 0 1 <;> cases stepS p.2.2.2.1 0 (-1) <;> rfl
      | false =>
        rw [rankS_inB h2 (by omega)]
        cases h3 : stepS p.2.2.2.1 0 1 with
        | none => cases stepS p.2.2.2.1 0 (-1) <;> rfl
        | some bh =>
          cases h4 : stepS p.2.2.2.1 0 (-1) with
          | none => rfl
          | some fr =>
            simp only [inB_true (n := 64) (stepS_right h3), inB_true (n := 64) (stepS_right h4), Bool.not_true, cond_true, cond_false]
            cases p.1.getD p.2.2.2.1.toNat 0 != 0 <;> cases p.1.getD bh.toNat 0 != 0 <;> cases p.1.getD fr.toNat 0 != makeM 1 (otherS p.2.1) <;> rfl

def manB (b : List Int) (s : Int) : Int := bif rightS s then b.getD s.toNat 0 else 0
theorem board_Man_eq {b : List Int} (hb : Bd b) (s : Int) {S : Type} (k : Int → Option S) : F_board_Man b s k = k (manB b s) := by
  unfold F_board_Man R_board_Man manB
  simp only [square_Right_eq, hb.w]
  cases h : rightS s with
  | false => rfl
  | true => rw [inB_true (rightS_iff.1 h)]; rfl

/-- Is a right backed? -/
def backedP (b : List Int) (right : Int) : Bool :=
  bif 1 == right then manB b 4 == 6 && manB b 7 == 4 else bif 2 == right then manB b 4 == 6 && manB b 0 == 4 else
  bif 4 == right then manB b 60 == -6 && manB b 63 == -4 else bif 8 == right then manB b 60 == -6 && manB b 56 == -4 else false

theorem pos_Backed_unroll (p : PosD) (right : Int) {S : Type} (k : Bool → Option S) : F_pos_Backed p right k =
    bif 1 == right then F_board_Man p.1 4 (fun z0 => F_men_Make 6 0 fun z1 => bif z0 == z1 then F_board_Man p.1 7 (fun z2 => F_men_Make 4 0 fun z3 => k (z2 == z3)) else k false) else
    bif 2 == right then F_board_Man p.1 4 (fun z0 => F_men_Make 6 0 fun z1 => bif z0 == z1 then F_board_Man p.1 0 (fun z2 => F_men_Make 4 0 fun z3 => k (z2 == z3)) else k false) else
    bif 4 == right then F_board_Man p.1 60 (fun z0 => F_men_Make 6 1 fun z1 => bif z0 == z1 then F_board_Man p.1 63 (fun z2 => F_men_Make 4 1 fun z3 => k (z2 == z3)) else k false) else
    bif 8 == right then F_board_Man p.1 60 (fun z0 => F_men_Make 6 1 fun z1 => bif z0 == z1 then F_board_Man p.1 56 (fun z2 => F_men_Make 4 1 fun z3 => k (z2 == z3)) else k false) else k false := by kernel_rfl

theorem pos_Backed_eq {p : PosD} (hb : Bd p.1) (right : Int) {S : Type} (k : Bool → Option S) : F_pos_Backed p right k = k (backedP p.1 right) := by
  rw [pos_Backed_unroll]
  simp only [board_Man_eq hb, men_Make_eq]
  rw [show makeM 6 0 = 6 from rfl, show makeM 6 1 = -6 from rfl, show makeM 4 0 = 4 from rfl, show makeM 4 1 = -4 from rfl]
  unfold backedP
  cases (1 == right) <;> cases (2 == right) <;> cases (4 == right) <;> cases (8 == right) <;> cases manB p.1 4 == 6 <;> cases manB p.1 60 == -6 <;> rfl

noncomputable def castK (p : PosD) : List Int → {S : Type} → (Bool → Option S) → Option S
  | [], _, k => k true
  | r :: l, _, k => bif bAnd .i64 p.2.2.1 r != 0 then F_pos_Backed p r (fun z => bif !z then k false else castK p l k) else castK p l k
theorem pos_castles_unroll (p : PosD) {S : Type} (k : Bool → Option S) : F_pos_castles p k = castK p [1, 2, 4, 8] k := by kernel_rfl

def castlesP (p : PosD) : Bool := [(1 : Int), 2, 4, 8].all fun r => !(bAnd .i64 p.2.2.1 r != 0) || backedP p.1 r
theorem castK_eq {p : PosD} (hb : Bd p.1) : ∀ (l : List Int) {S : Type} (k : Bool → Option S), castK p l k = k (l.all fun r => !(bAnd .i64 p.2.2.1 r != 0) || backedP p.1 r)
  | [], _, k => rfl
  | r :: l, S, k => by
    simp only [castK, List.all_cons, pos_Backed_eq hb, castK_eq hb l]
    cases bAnd .i64 p.2.2.1 r != 0 <;> cases backedP p.1 r <;> rfl
theorem pos_castles_eq {p : PosD} (hb : Bd p.1) {S : Type} (k : Bool → Option S) : F_pos_castles p k = k (castlesP p) := by
  rw [pos_castles_unroll, castK_eq hb]; rfl

/-- What is wrong with a position. -/
def wrongP (p : PosD) : Int :=
  bif wrongB p.1 != 0 then wrongB p.1 else
  bif decide (otherS p.2.1 < 0) then 5 else bif decide (p.2.2.1 < 0) then 5 else bif decide (p.2.2.1 > 15) then 5 else bif decide (p.2.2.2.1 < -1) then 5 else bif decide (p.2.2.2.1 ≥ 64) then 5 else
  bif decide (farS (kingB p.1 0) (kingB p.1 1) ≤ 1) then 9 else bif checkB p.1 (otherS p.2.1) then 9 else bif !castlesP p then 10 else
  bif decide (p.2.2.2.1 ≥ 0) then (bif !(passedP p).isSome then 11 else 0) else 0

theorem pos_Wrong_eq {p : PosD} (hb : Bd p.1) {S : Type} (k : Int → Option S) : F_pos_Wrong p k = k (wrongP p) := by
  unfold F_pos_Wrong R_pos_Wrong wrongP
  simp only [board_Wrong_eq hb, pos_Passed_eq hb, men_Other_eq, pos_touch_eq hb, attack_Check_eq hb, pos_castles_eq hb, show ∀ {S : Type} (k : Option S), F_attack_New k = k from fun _ => rfl]
  cases wrongB p.1 != 0 with
  | true => rfl
  | false =>
    simp only [cond_false]
    cases decide (otherS p.2.1 < 0) with
    | true => cases passedP p <;> rfl
    | false =>
    cases decide (p.2.2.1 < 0) with
    | true => cases passedP p <;> rfl
    | false =>
    cases decide (p.2.2.1 > 15) with
    | true => cases passedP p <;> rfl
    | false =>
    cases decide (p.2.2.2.1 < -1) with
    | true => cases passedP p <;> rfl
    | false =>
    cases decide (p.2.2.2.1 ≥ 64) with
    | true => cases passedP p <;> rfl
    | false =>
    cases decide (farS (kingB p.1 0) (kingB p.1 1) ≤ 1) with
    | true => cases passedP p <;> rfl
    | false =>
    cases checkB p.1 (otherS p.2.1) with
    | true => cases passedP p <;> rfl
    | false => cases castlesP p <;> cases decide (p.2.2.2.1 ≥ 0) <;> cases passedP p <;> rfl

def atM (p : PosD) (s : Int) : Int := p.1.getD s.toNat 0
def pawnP (p : PosD) (m : MoveD) : Bool := kindM (atM p m.1) == 1
def lastS (t : Int) : Int := bif t == 0 then 7 else 0
def formedP (p : PosD) (m : MoveD) : Bool :=
  rightS m.1 && (rightS m.2.1 && (!(sideM (atM p m.1) != p.2.1) && (!(atM p m.2.1 != 0 && sideM (atM p m.2.1) == p.2.1) &&
  (bif pawnP p m && rankS m.2.1 == lastS p.2.1 then decide (m.2.2.1 ≥ 2) && decide (m.2.2.1 ≤ 5) else m.2.2.1 == 0))))

theorem move_man_eq {p : PosD} (hb : Bd p.1) {m : MoveD} (h : rightS m.1 = true) {S : Type} (k : Int → Option S) : F_move_man p m k = k (atM p m.1) := by
  unfold F_move_man R_move_man atM
  rw [inB_true (rightS_iff.1 h), hb.w]; rfl
theorem move_pawn_eq {p : PosD} (hb : Bd p.1) {m : MoveD} (h : rightS m.1 = true) {S : Type} (k : Bool → Option S) : F_move_pawn p m k = k (pawnP p m) := by
  unfold F_move_pawn R_move_pawn pawnP
  simp only [move_man_eq hb h, men_Kind_eq]
theorem move_last_eq (t : Int) {S : Type} (k : Int → Option S) : F_move_last t k = k (lastS t) := by
  unfold F_move_last R_move_last lastS
  cases t == 0 <;> rfl

theorem move_formed_eq {p : PosD} (hb : Bd p.1) (m : MoveD) {S : Type} (k : Bool → Option S) : F_move_formed p m k = k (formedP p m) := by
  unfold F_move_formed R_move_formed formedP
  simp only [square_Right_eq]
  cases h1 : rightS m.1 with
  | false => rfl
  | true =>
    cases h2 : rightS m.2.1 with
    | false => rfl
    | true =>
      simp only [move_man_eq hb h1, men_Side_eq, move_pawn_eq hb h1, inB_true (n := 64) (rightS_iff.1 h2), square_Rank_eq, move_last_eq, hb.w]
      unfold atM
      cases sideM (p.1.getD m.1.toNat 0) != p.2.1 <;> cases p.1.getD m.2.1.toNat 0 != 0 <;> cases sideM (p.1.getD m.2.1.toNat 0) == p.2.1 <;> cases pawnP p m <;> cases rankS m.2.1 == lastS p.2.1 <;> cases decide (m.2.2.1 ≥ 2) <;> rfl

/-- The right that a king's move of two files needs. -/
def wingP (p : PosD) (m : MoveD) : Int :=
  bif atM p m.1 != makeM 6 p.2.1 then 0 else bif m.1 != 4 + 56 * p.2.1 then 0 else bif m.2.1 - m.1 == 2 then shl .i64 1 (2 * p.2.1) else bif m.2.1 - m.1 == -2 then shl .i64 2 (2 * p.2.1) else 0

theorem move_wing_eq {p : PosD} (hb : Bd p.1) {m : MoveD} (h1 : rightS m.1 = true) (h2 : rightS m.2.1 = true) (ht : p.2.1 = 0 ∨ p.2.1 = 1) {S : Type} (k : Int → Option S) : F_move_wing p m k = k (wingP p m) := by
  unfold F_move_wing R_move_wing wingP
  have b1 := rightS_iff.1 h1
  have b2 := rightS_iff.1 h2
  simp only [move_man_eq hb h1, men_Make_eq]
  rw [w64 (x := 56 * p.2.1) (by omega), w64 (x := 4 + 56 * p.2.1) (by omega), w64 (x := m.2.1 - m.1) (by omega), w64 (x := 2 * p.2.1) (by omega), show decide (2 * p.2.1 < 0) = false by simp; omega]
  cases atM p m.1 != makeM 6 p.2.1 <;> cases m.1 != 4 + 56 * p.2.1 <;> cases m.2.1 - m.1 == 2 <;> cases m.2.1 - m.1 == -2 <;> rfl

end Go.Proofs.YtaldkopkfdgngaaGreatDoor

