/- Plain law: MoveMakes. -/
import Derived.Test.YtidjjbhadehclaaGreatL14
set_option linter.all false
set_option maxRecDepth 100000
namespace Go.Proofs.YtidjjbhadehclaaGreat
open Go Am

def epR (p : PosD) (m : MoveD) : Int := bif pawnP p m then bif m.2.1 - m.1 == 16 then (m.1 + m.2.1) / 2 else bif m.1 - m.2.1 == 16 then (m.1 + m.2.1) / 2 else -1 else -1

theorem doP_eq {p : PosD} {m : MoveD} (h : Fm p m) (hc : 0 ≤ p.2.2.1 ∧ p.2.2.1 ≤ 15) : doP p m = (do4 p m, 1 - p.2.1, castR p.2.2.1 m.1 m.2.1 0, epR p m, ()) := by
  unfold doP
  rw [corn_of hc, ← cornersF_m m, show otherS p.2.1 = 1 - p.2.1 by rcases h.turn with ht | ht <;> rw [ht] <;> rfl]
  have : (bif twoP p m then (m.1 + m.2.1) / 2 else -1) = epR p m := by
    unfold twoP epR
    have := two_same h.toSq
    rw [← this]
    cases pawnP p m <;> cases m.2.1 - m.1 == 16 <;> cases m.1 - m.2.1 == 16 <;> rfl
  rw [this]

theorem ref09_Behind_eq {p : PosD} {m : MoveD} (h : Fm p m) (hw : wrongP p = 0) {S : Type} (k : PosD → Option S) : F_ref09_Behind p m k = k (doP p m) := by
  have b1 := rightS_iff.1 h.fr
  have b2 := rightS_iff.1 h.to
  obtain ⟨_, hc, hep, _⟩ := wrong_spec hw
  have ht := h.turn
  have i1 : inB m.1 64 = true := inB_true b1
  have i2 : inB m.2.1 64 = true := inB_true b2
  have hpr : 0 ≤ m.2.2.1 ∧ m.2.2.1 ≤ 5 := by
    by_cases hp : m.2.2.1 = 0
    · omega
    · have := (h.promo hp).2; omega
  have eX : IntKind.wrap .i8 (IntKind.wrap .i64 (m.2.2.1 - IntKind.wrap .i64 (IntKind.wrap .i64 (2 * p.2.1) * m.2.2.1))) = makeM m.2.2.1 p.2.1 := by
    have hk : m.2.2.1 = 0 ∨ m.2.2.1 = 1 ∨ m.2.2.1 = 2 ∨ m.2.2.1 = 3 ∨ m.2.2.1 = 4 ∨ m.2.2.1 = 5 := by omega
    rcases ht with ht | ht <;> rw [ht] <;> rcases hk with hk | hk | hk | hk | hk | hk <;> rw [hk] <;> rfl
  have eR : IntKind.wrap .i8 (IntKind.wrap .i64 (4 - IntKind.wrap .i64 (8 * p.2.1))) = 4 - 8 * p.2.1 := by
    rcases ht with ht | ht <;> rw [ht] <;> rfl
  have e1 : IntKind.wrap .i64 (1 - p.2.1) = 1 - p.2.1 := w64 (by omega)
  have f1 : IntKind.wrap .i64 (m.1 + 1) = m.1 + 1 := w64 (by omega)
  have f3 : IntKind.wrap .i64 (m.1 + 3) = m.1 + 3 := w64 (by omega)
  have f2 : IntKind.wrap .i64 (m.1 - 1) = m.1 - 1 := w64 (by omega)
  have f4 : IntKind.wrap .i64 (m.1 - 4) = m.1 - 4 := w64 (by omega)
  have d1 : IntKind.wrap .i64 (m.2.1 - m.1) = m.2.1 - m.1 := w64 (by omega)
  have d2 : IntKind.wrap .i64 (m.1 - m.2.1) = m.1 - m.2.1 := w64 (by omega)
  have em : IntKind.wrap .i64 (Int.tdiv (IntKind.wrap .i64 (m.1 + m.2.1)) 2) = (m.1 + m.2.1) / 2 := by
    rw [w64 (x := m.1 + m.2.1) (by omega), Int.tdiv_eq_ediv_of_nonneg (by omega), w64 (by omega)]
  have hP : ∀ {S : Type} (k : Bool → Option S), F_ref09_Pawn p.1 m.1 k = k (pawnP p m) := fun k => ref09_Pawn_eq b1 k
  unfold F_ref09_Behind R_ref09_Behind
  simp only [ref09_Takes_eq h.toSq, i1, i2, cond_true, ref09_Right_eq hc b1, castle_same h hc, L_ref09_Behind_0_eq hc, eX, eR, e1, f1, f2, f3, f4, d1, d2, em, hP]
  rw [doP_eq h hc]
  have hbeh := beh_eq h
  unfold beh at hbeh
  have fin : ∀ (b : List Int), b = do4 p m → (bif pawnP p m then bif m.2.1 - m.1 == 16 then k (b, 1 - p.2.1, castR p.2.2.1 m.1 m.2.1 0, (m.1 + m.2.1) / 2, ()) else bif m.1 - m.2.1 == 16 then k (b, 1 - p.2.1, castR p.2.2.1 m.1 m.2.1 0, (m.1 + m.2.1) / 2, ()) else k (b, 1 - p.2.1, castR p.2.2.1 m.1 m.2.1 0, -1, ())
      else k (b, 1 - p.2.1, castR p.2.2.1 m.1 m.2.1 0, -1, ())) = k (do4 p m, 1 - p.2.1, castR p.2.2.1 m.1 m.2.1 0, epR p m, ()) := by
    rintro b rfl
    unfold epR
    cases pawnP p m <;> cases m.2.1 - m.1 == 16 <;> cases m.1 - m.2.1 == 16 <;> rfl
  rcases castle_facts h hw with c0 | ⟨c1, c2, c3⟩ | ⟨c1, c2, c3⟩
  · have h4 : do4 p m = do3 p m := by unfold do4; rw [c0]; rfl
    rw [c0]
    cases hg : decide (takesP p m ≥ 0) with
    | true =>
      have hd : do1 p m = p.1.set (takesP p m).toNat 0 := by unfold do1; rw [hg]; rfl
      rw [hd] at hbeh
      rw [inB_true (n := 64) (takes_bounds h.toSq hg)]
      unfold atM at hbeh
      cases hp : decide (m.2.2.1 > 0) with
      | true => rw [hp] at hbeh; exact fin _ (by rw [h4, ← hbeh]; rfl)
      | false => rw [hp] at hbeh; exact fin _ (by rw [h4, ← hbeh]; rfl)
    | false =>
      have hd : do1 p m = p.1 := by unfold do1; rw [hg]; rfl
      rw [hd] at hbeh
      unfold atM at hbeh
      cases hp : decide (m.2.2.1 > 0) with
      | true => rw [hp] at hbeh; exact fin _ (by rw [h4, ← hbeh]; rfl)
      | false => rw [hp] at hbeh; exact fin _ (by rw [h4, ← hbeh]; rfl)
  · have hne : castleP p m ≠ 0 := by rcases c1 with c1 | c1 <;> rw [c1] <;> decide
    obtain ⟨_, q2, _⟩ := castle_spec hne
    have hg := castle_notake h hne
    have hd : do1 p m = p.1 := by unfold do1; rw [hg]; rfl
    have h4 : do4 p m = ((do3 p m).set (m.1 + 1).toNat (4 - 8 * p.2.1)).set (m.1 + 3).toNat 0 := by
      unfold do4 castled
      rw [show (castleP p m != 0) = true by simpa using hne, show decide (m.2.1 < m.1) = false by simp; omega, show (m.1 + m.2.1) / 2 = m.1 + 1 by omega]
      simp only [cond_true, cond_false]
      rw [castle_rook h (r := m.1 + 3) (by omega) (by omega) (by omega) hg, c3]
    have i3 : inB (m.1 + 1) 64 = true := inB_true (by omega)
    have i4 : inB (m.1 + 3) 64 = true := inB_true (by omega)
    rw [hd] at hbeh
    unfold atM at hbeh
    rw [hg, i3, i4]
    rcases c1 with c1 | c1 <;> rw [c1]
    · cases hp : decide (m.2.2.1 > 0) with
      | true => rw [hp] at hbeh; exact fin _ (by rw [h4, ← hbeh]; rfl)
      | false => rw [hp] at hbeh; exact fin _ (by rw [h4, ← hbeh]; rfl)
    · cases hp : decide (m.2.2.1 > 0) with
      | true => rw [hp] at hbeh; exact fin _ (by rw [h4, ← hbeh]; rfl)
      | false => rw [hp] at hbeh; exact fin _ (by rw [h4, ← hbeh]; rfl)
  · have hne : castleP p m ≠ 0 := by rcases c1 with c1 | c1 <;> rw [c1] <;> decide
    obtain ⟨_, q2, _⟩ := castle_spec hne
    have hg := castle_notake h hne
    have hd : do1 p m = p.1 := by unfold do1; rw [hg]; rfl
    have h4 : do4 p m = ((do3 p m).set (m.1 - 1).toNat (4 - 8 * p.2.1)).set (m.1 - 4).toNat 0 := by
      unfold do4 castled
      rw [show (castleP p m != 0) = true by simpa using hne, show decide (m.2.1 < m.1) = true by simp; omega, show (m.1 + m.2.1) / 2 = m.1 - 1 by omega]
      simp only [cond_true, cond_false]
      rw [castle_rook h (r := m.1 - 4) (by omega) (by omega) (by omega) hg, c3]
    have i3 : inB (m.1 - 1) 64 = true := inB_true (by omega)
    have i4 : inB (m.1 - 4) 64 = true := inB_true (by omega)
    rw [hd] at hbeh
    unfold atM at hbeh
    rw [hg, i3, i4]
    rcases c1 with c1 | c1 <;> rw [c1]
    · cases hp : decide (m.2.2.1 > 0) with
      | true => rw [hp] at hbeh; exact fin _ (by rw [h4, ← hbeh]; rfl)
      | false => rw [hp] at hbeh; exact fin _ (by rw [h4, ← hbeh]; rfl)
    · cases hp : decide (m.2.2.1 > 0) with
      | true => rw [hp] at hbeh; exact fin _ (by rw [h4, ← hbeh]; rfl)
      | false => rw [hp] at hbeh; exact fin _ (by rw [h4, ← hbeh]; rfl)

theorem ref09_Make_eq {p : PosD} (hb : Bd p.1) (m : MoveD) {S : Type} (k : PosD → Int → Option S) : F_ref09_Make p m k =
    bif wrongP p != 0 then k (List.replicate 64 0, 0, 0, 0, ()) (wrongP p) else bif !formedP p m then k (List.replicate 64 0, 0, 0, 0, ()) 5 else k (doP p m) 0 := by
  unfold F_ref09_Make R_ref09_Make
  simp only [ref08_Wrong_eq hb]
  cases hw : wrongP p != 0 with
  | true => rfl
  | false =>
    have hw' : wrongP p = 0 := by simpa using hw
    simp only [cond_false, ref09_Formed_eq hb (wrong_turn hw')]
    cases hf : formedP p m with
    | false => rfl
    | true => simp only [Bool.not_true, cond_false, ref09_Behind_eq (formed_spec hb hw' hf) hw']

theorem beqL_refl : ∀ l : List Int, beqL (fun (x y : Int) => x == y) l l = true
  | [] => rfl
  | x :: l => by simp only [beqL, beqL_refl l]; simp
theorem pos_refl (p : PosD) : Ty.beq (.pair (.arr 64 (.int .i8)) (.pair (.int .i64) (.pair (.int .i64) (.pair (.int .i64) .unit)))) p p = true := by
  obtain ⟨b, t, c, e, ⟨⟩⟩ := p
  show (beqL (fun (x y : Int) => x == y) b b && (t == t && (c == c && (e == e && true)))) = true
  rw [beqL_refl]; simp

theorem wakesZ {S : Type} (k : Bool → Option S) : F_law09_wakes k = k true := by kernel_rfl

theorem move_Castles_eq {p : PosD} (hb : Bd p.1) (m : MoveD) {S : Type} (k : Bool → Option S) : F_move_Castles p m k = k (wrongP p == 0 && (formedP p m && castleP p m != 0)) := by
  unfold F_move_Castles R_move_Castles
  simp only [move_Formed_eq hb]
  cases hw : wrongP p == 0 with
  | false => rfl
  | true =>
    cases hf : formedP p m with
    | false => rfl
    | true => simp only [Bool.and_self, Bool.true_and, cond_true, move_castle_eq (formed_sq hb (by simpa using hw) hf)]

theorem makes_eq {p : PosD} (hb : Bd p.1) (m : MoveD) {S : Type} (k : Bool → Option S) : F_law09_MoveMakes p m k = k true := by
  unfold F_law09_MoveMakes R_law09_MoveMakes
  rw [wakesZ]
  simp only [move_Make_eq hb, ref09_Make_eq hb, move_Formed_eq hb, move_Takes_eq hb, move_Castles_eq hb]
  cases hw : wrongP p != 0 with
  | true =>
    have hw' : (wrongP p == 0) = false := by
      cases hq : wrongP p == 0 with
      | false => rfl
      | true => rw [bne_not, hq] at hw; cases hw
    simp only [cond_true, cond_false, hw', pos_refl, Bool.not_true, Bool.false_and, hw, bne_self_eq_false]
    rfl
  | false =>
    have hw' : wrongP p = 0 := by simpa using hw
    have hw2 : (wrongP p == 0) = true := by simpa using hw'
    simp only [cond_false, hw2, Bool.true_and]
    cases hf : formedP p m with
    | false =>
      simp only [Bool.not_false, cond_true, pos_refl, Bool.not_true, cond_false, Bool.false_and]
      rfl
    | true =>
      have h := formed_spec hb hw' hf
      have b1 := rightS_iff.1 h.fr
      obtain ⟨_, hc, _, _⟩ := wrong_spec hw'
      simp only [Bool.not_true, cond_false, pos_refl, ref09_Takes_eq h.toSq, ref09_Right_eq hc b1, castle_same h hc, Bool.true_and, cond_true]
      have hcp : (castleP p m != 0) = decide (castleP p m > 0) := by
        rcases castle_facts h hw' with c | ⟨c | c, _⟩ | ⟨c | c, _⟩ <;> rw [c] <;> rfl
      rw [hcp]
      simp

end Go.Proofs.YtidjjbhadehclaaGreat
