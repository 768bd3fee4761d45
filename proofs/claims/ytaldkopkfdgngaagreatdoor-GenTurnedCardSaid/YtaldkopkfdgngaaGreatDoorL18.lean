/- Plain laws: a move turned. -/
import Derived.Test.YtaldkopkfdgngaaGreatDoorL17
set_option linter.all false
set_option maxRecDepth 100000
namespace Go.Proofs.YtaldkopkfdgngaaGreatDoor
open Go Am

section
variable {p : PosD} {m : MoveD}

theorem at_fl (p : PosD) {s : Int} (h : 0 ≤ s ∧ s < 64) : atM (tP p) (fl s) = 0 - atM p s := tB_fl p.1 h
theorem pawn_fl (h : 0 ≤ m.1 ∧ m.1 < 64) : pawnP (tP p) (tM m) = pawnP p m := by
  show (kindM (atM (tP p) (fl m.1)) == 1) = (kindM (atM p m.1) == 1)
  rw [at_fl p h, neg_kind]
theorem ne_fl (x : Int) : (0 - x != 0) = (x != 0) := by rw [Bool.eq_iff_iff]; simp only [bne_iff_ne]; omega
theorem eqz_fl (x : Int) : (0 - x == 0) = (x == 0) := by rw [Bool.eq_iff_iff]; simp only [beq_iff_eq]; omega

theorem formed_fl (ht : p.2.1 = 0 ∨ p.2.1 = 1) (h : formedP p m = true) : formedP (tP p) (tM m) = true := by
  rw [← h]
  unfold formedP at h
  simp only [Bool.and_eq_true] at h
  have b1 := rightS_iff.1 h.1
  have b2 := rightS_iff.1 h.2.1
  unfold formedP
  rw [pawn_fl b1]
  show (rightS (fl m.1) && (rightS (fl m.2.1) && (!(sideM (atM (tP p) (fl m.1)) != 1 - p.2.1) && (!(atM (tP p) (fl m.2.1) != 0 && sideM (atM (tP p) (fl m.2.1)) == 1 - p.2.1) &&
    (bif pawnP p m && rankS (fl m.2.1) == lastS (1 - p.2.1) then decide (m.2.2.1 ≥ 2) && decide (m.2.2.1 ≤ 5) else m.2.2.1 == 0))))) = _
  have e : (rankS (fl m.2.1) == lastS (1 - p.2.1)) = (rankS m.2.1 == lastS p.2.1) := by
    rw [rankS_fl b2, Bool.eq_iff_iff]
    simp only [beq_iff_eq]
    have : lastS (1 - p.2.1) = 7 - lastS p.2.1 := by rcases ht with ht | ht <;> rw [ht] <;> rfl
    omega
  rw [e, at_fl p b1, at_fl p b2, ne_fl, bne_not (sideM (0 - atM p m.1)) _, bne_not (sideM (atM p m.1)) _, neg_sideB _ ht, neg_sideB _ ht, h.1, h.2.1, rightS_iff.2 (fl_in b1), rightS_iff.2 (fl_in b2)]

theorem takes_fl (h : Sq p m) (he : -1 ≤ p.2.2.2.1 ∧ p.2.2.2.1 < 64) : takesP (tP p) (tM m) = tE (takesP p m) := by
  have b1 := rightS_iff.1 h.fr
  have b2 := rightS_iff.1 h.to
  unfold takesP
  rw [pawn_fl b1, passed_fl h.turn he]
  show (bif atM (tP p) (fl m.2.1) != 0 then fl m.2.1 else bif pawnP p m then bif fl m.2.1 == tE p.2.2.2.1 then bif fileS (fl m.1) != fileS (fl m.2.1) then _ else -1 else -1 else -1) = _
  have e : (fl m.2.1 == tE p.2.2.2.1) = (m.2.1 == p.2.2.2.1) := by
    rw [Bool.eq_iff_iff]
    simp only [beq_iff_eq]
    have bf := fl_in b2
    by_cases h0 : p.2.2.2.1 < 0
    · rw [tE_no h0]; omega
    · rw [tE_sq (by omega)]
      constructor
      · intro hf; exact fl_inj b2 (by omega) hf
      · intro hf; rw [hf]
  rw [at_fl p b2, ne_fl, fileS_fl b1, fileS_fl b2, e]
  cases atM p m.2.1 != 0 with
  | true => exact (tE_sq b2.1).symm
  | false =>
    cases pawnP p m <;> cases m.2.1 == p.2.2.2.1 <;> cases fileS m.1 != fileS m.2.1 <;> simp only [cond_true, cond_false] <;> try exact (tE_no (e := -1) (by omega)).symm
    cases hp : passedP p with
    | none => exact (tE_no (e := -1) (by omega)).symm
    | some s => exact (tE_sq (passed_bounds hp).1).symm

theorem get_fl (b : List Int) {i j : Nat} (hi : i < 64) (h : (fl (i : Int)).toNat = j) : ((tB b).getD i 0 == 0) = (b.getD j 0 == 0) := by
  rw [tB_nat b hi, h, eqz_fl]
theorem clear_fl (b : List Int) : clearR (tB b) 1 = clearR b 4 ∧ clearR (tB b) 2 = clearR b 8 ∧ clearR (tB b) 4 = clearR b 1 ∧ clearR (tB b) 8 = clearR b 2 := by
  refine ⟨?_, ?_, ?_, ?_⟩
  · show ((tB b).getD 5 0 == 0 && (tB b).getD 6 0 == 0) = (b.getD 61 0 == 0 && b.getD 62 0 == 0)
    rw [get_fl b (i := 5) (j := 61) (by omega) rfl, get_fl b (i := 6) (j := 62) (by omega) rfl]
  · show ((tB b).getD 1 0 == 0 && ((tB b).getD 2 0 == 0 && (tB b).getD 3 0 == 0)) = (b.getD 57 0 == 0 && (b.getD 58 0 == 0 && b.getD 59 0 == 0))
    rw [get_fl b (i := 1) (j := 57) (by omega) rfl, get_fl b (i := 2) (j := 58) (by omega) rfl, get_fl b (i := 3) (j := 59) (by omega) rfl]
  · show ((tB b).getD 61 0 == 0 && (tB b).getD 62 0 == 0) = (b.getD 5 0 == 0 && b.getD 6 0 == 0)
    rw [get_fl b (i := 61) (j := 5) (by omega) rfl, get_fl b (i := 62) (j := 6) (by omega) rfl]
  · show ((tB b).getD 57 0 == 0 && ((tB b).getD 58 0 == 0 && (tB b).getD 59 0 == 0)) = (b.getD 1 0 == 0 && (b.getD 2 0 == 0 && b.getD 3 0 == 0))
    rw [get_fl b (i := 57) (j := 1) (by omega) rfl, get_fl b (i := 58) (j := 2) (by omega) rfl, get_fl b (i := 59) (j := 3) (by omega) rfl]

theorem sq_eq {s : Int} (h : 0 ≤ s ∧ s < 64) (c d : Int) (hc : 0 ≤ c ∧ c < 64) (hd : fl c = d) : (fl s == d) = (s == c) := by
  rw [Bool.eq_iff_iff, ← hd]
  simp only [beq_iff_eq]
  exact ⟨fun he => fl_inj h hc he, fun he => by rw [he]⟩
theorem neg_eq (x c d : Int) (hd : d = 0 - c) : (0 - x == d) = (x == c) := by
  rw [Bool.eq_iff_iff]; simp only [beq_iff_eq]; omega

theorem right_fl (h : Sq p m) (hc : 0 ≤ p.2.2.1 ∧ p.2.2.1 ≤ 15) : (rightR (tP p) (tM m) != 0) = (rightR p m != 0) := by
  have b1 := rightS_iff.1 h.fr
  have b2 := rightS_iff.1 h.to
  have hC := castT_of hc
  obtain ⟨c1, c2, c3, c4⟩ := clear_fl p.1
  have e1 : rowR (tP p) (tM m) 1 4 6 6 = rowR p m 4 60 62 (-6) := by
    show (bAnd .i64 (tC p.2.2.1) 1 != 0 && (fl m.1 == 4 && (fl m.2.1 == 6 && (atM (tP p) (fl m.1) == 6 && clearR (tB p.1) 1)))) = _
    rw [hC.a1, c1, at_fl p b1, sq_eq b1 60 4 (by omega) rfl, sq_eq b2 62 6 (by omega) rfl, neg_eq _ (-6) 6 rfl]; rfl
  have e2 : rowR (tP p) (tM m) 2 4 2 6 = rowR p m 8 60 58 (-6) := by
    show (bAnd .i64 (tC p.2.2.1) 2 != 0 && (fl m.1 == 4 && (fl m.2.1 == 2 && (atM (tP p) (fl m.1) == 6 && clearR (tB p.1) 2)))) = _
    rw [hC.a2, c2, at_fl p b1, sq_eq b1 60 4 (by omega) rfl, sq_eq b2 58 2 (by omega) rfl, neg_eq _ (-6) 6 rfl]; rfl
  have e4 : rowR (tP p) (tM m) 4 60 62 (-6) = rowR p m 1 4 6 6 := by
    show (bAnd .i64 (tC p.2.2.1) 4 != 0 && (fl m.1 == 60 && (fl m.2.1 == 62 && (atM (tP p) (fl m.1) == -6 && clearR (tB p.1) 4)))) = _
    rw [hC.a4, c3, at_fl p b1, sq_eq b1 4 60 (by omega) rfl, sq_eq b2 6 62 (by omega) rfl, neg_eq _ 6 (-6) rfl]; rfl
  have e8 : rowR (tP p) (tM m) 8 60 58 (-6) = rowR p m 2 4 2 6 := by
    show (bAnd .i64 (tC p.2.2.1) 8 != 0 && (fl m.1 == 60 && (fl m.2.1 == 58 && (atM (tP p) (fl m.1) == -6 && clearR (tB p.1) 8)))) = _
    rw [hC.a8, c4, at_fl p b1, sq_eq b1 4 60 (by omega) rfl, sq_eq b2 2 58 (by omega) rfl, neg_eq _ 6 (-6) rfl]; rfl
  unfold rightR
  rw [e1, e2, e4, e8]
  cases rowR p m 1 4 6 6 <;> cases rowR p m 2 4 2 6 <;> cases rowR p m 4 60 62 (-6) <;> cases rowR p m 8 60 58 (-6) <;> rfl

def stepD (c lf lt acc r : Int) : Int := bif bAnd .i64 c r != 0 && (goneB lf r && goneB lt r) then IntKind.wrap .i64 (acc + r) else acc
end

end Go.Proofs.YtaldkopkfdgngaaGreatDoor

