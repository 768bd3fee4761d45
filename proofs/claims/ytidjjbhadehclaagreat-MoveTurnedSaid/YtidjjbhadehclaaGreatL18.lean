/- Plain laws: a move turned. -/
import Derived.Test.YtidjjbhadehclaaGreatL17
set_option linter.all false
set_option maxRecDepth 100000
namespace Go.Proofs.YtidjjbhadehclaaGreat
open Go Am

section
variable {p : PosD} {m : MoveD}

theorem at_fl (p : PosD) {s : Int} (h : 0 ≤ s ∧ s < 64) : atM (tP p) (fl s) = 0 - atM p s := tB_fl p.1 h
theorem pawn_fl (h : 0 ≤ m.1 ∧ m.1 < 64) : pawnP (tP p) (tM m) = pawnP p m := by
  show (kindM (atM (tP p) (fl m.1)) == 1) = (kindM (atM p m.1) == 1)
  rw [at_fl p h, neg_kind]
theorem ne_fl (x : Int) : (0 - x != 0) = (x != 0) := by rw [Bool.eq_iff_iff]; simp only [bne_iff_ne]; omega
theorem eqz_fl (x : Int) : (0 - x == 0) = (x == 0) := by rw [Bool.eq_iff_iff]; simp only [beq_iff_eq]; omega

theorem formed_fl (ht : p.2.1 = 0 ∨ p.2.1 = 1) (h : formedP p m = true) : formedP (tP p) (tM m) = true := by
  rw [← h]
  unfold formedP at h
  simp only [Bool.and_eq_true] at h
  have b1 := rightS_iff.1 h.1
  have b2 := rightS_iff.1 h.2.1
  unfold formedP
  rw [pawn_fl b1]
  show (rightS (fl m.1) && (rightS (fl m.2.1) && (!(sideM (atM (tP p) (fl m.1)) != 1 - p.2.1) && (!(atM (tP p) (fl m.2.1) != 0 && sideM (atM (tP p) (fl m.2.1)) == 1 - p.2.1) &&
    (bif pawnP p m && rankS (fl m.2.1) == lastS (1 - p.2.1) then decide (m.2.2.1 ≥ 2) && decide (m.2.2.1 ≤ 5) else m.2.2.1 == 0))))) = _
  have e : (rankS (fl m.2.1) == lastS (1 - p.2.1)) = (rankS m.2.1 == lastS p.2.1) := by
    rw [rankS_fl b2, Bool.eq_iff_iff]
    simp only [beq_iff_eq]
    have : lastS (1 - p.2.1) = 7 - lastS p.2.1 := by rcases ht with ht | ht <;> rw [ht] <;> rfl
    omega
  rw [e, at_fl p b1, at_fl p b2, ne_fl, bne_not (sideM (0 - atM p m.1)) _, bne_not (sideM (atM p m.1)) _, neg_sideB _ ht, neg_sideB _ ht, h.1, h.2.1, rightS_iff.2 (fl_in b1), rightS_iff.2 (fl_in b2)]

theorem takes_fl (h : Sq p m) (he : -1 ≤ p.2.2.2.1 ∧ p.2.2.2.1 < 64) : takesP (tP p) (tM m) = tE (takesP p m) := by
  have b1 := rightS_iff.1 h.fr
  have b2 := rightS_iff.1 h.to
  unfold takesP
  rw [pawn_fl b1, passed_fl h.turn he]
  show (bif atM (tP p) (fl m.2.1) != 0 then fl m.2.1 else bif pawnP p m then bif fl m.2.1 == tE p.2.2.2.1 then bif fileS (fl m.1) != fileS (fl m.2.1) then _ else -1 else -1 else -1) = _
  have e : (fl m.2.1 == tE p.2.2.2.1) = (m.2.1 == p.2.2.2.1) := by
    rw [Bool.eq_iff_iff]
    simp only [beq_iff_eq]
    have bf := fl_in b2
    by_cases h0 : p.2.2.2.1 < 0
    · rw [tE_no h0]; omega
    · rw [tE_sq (by omega)]
      constructor
      · intro hf; exact fl_inj b2 (by omega) hf
      · intro hf; rw [hf]
  rw [at_fl p b2, ne_fl, fileS_fl b1, fileS_fl b2, e]
  cases atM p m.2.1 != 0 with
  | true => exact (tE_sq b2.1).symm
  | false =>
    cases pawnP p m <;> cases m.2.1 == p.2.2.2.1 <;> cases fileS m.1 != fileS m.2.1 <;> simp only [cond_true, cond_false] <;> try exact (tE_no (e := -1) (by omega)).symm
    cases hp : passedP p with
    | none => exact (tE_no (e := -1) (by omega)).symm
    | some s => exact (tE_sq (passed_bounds hp).1).symm

theorem do1_fl (h : Sq p m) (he : -1 ≤ p.2.2.2.1 ∧ p.2.2.2.1 < 64) : do1 (tP p) (tM m) = tB (do1 p m) := by
  unfold do1
  rw [takes_fl h he]
  cases hg : decide (takesP p m ≥ 0) with
  | false =>
    rw [tE_no (by have := of_decide_eq_false hg; omega)]; rfl
  | true =>
    have b := takes_bounds h hg
    rw [tE_sq b.1, show decide (fl (takesP p m) ≥ 0) = true by have := fl_in b; simp; omega]
    simp only [cond_true]
    rw [tB_set h.bd.1 b]; rfl

theorem do2_fl (h : Sq p m) (he : -1 ≤ p.2.2.2.1 ∧ p.2.2.2.1 < 64) : do2 (tP p) (tM m) = tB (do2 p m) := by
  have b1 := rightS_iff.1 h.fr
  have b2 := rightS_iff.1 h.to
  unfold do2
  rw [tB_set (by simp [do1_len h]) b2, tB_set (do1_len h) b1, ← do1_fl h he]
  show ((do1 (tP p) (tM m)).set (fl m.1).toNat 0).set (fl m.2.1).toNat (atM (tP p) (fl m.1)) = _
  rw [at_fl p b1]
  rfl

theorem do3_fl (h : Sq p m) (he : -1 ≤ p.2.2.2.1 ∧ p.2.2.2.1 < 64) : do3 (tP p) (tM m) = tB (do3 p m) := by
  have b2 := rightS_iff.1 h.to
  unfold do3
  show (bif m.2.2.1 != 0 then (do2 (tP p) (tM m)).set (fl m.2.1).toNat (makeM m.2.2.1 (1 - p.2.1)) else do2 (tP p) (tM m)) = _
  rw [do2_fl h he, neg_make _ h.turn]
  cases m.2.2.1 != 0 with
  | false => rfl
  | true =>
    simp only [cond_true]
    rw [tB_set (do2_len h) b2]

theorem castled_fl {b : List Int} (hl : b.length = 64) {mid rook : Int} (h1 : 0 ≤ mid ∧ mid < 64) (h2 : 0 ≤ rook ∧ rook < 64) : castled (tB b) (fl mid) (fl rook) = tB (castled b mid rook) := by
  unfold castled
  rw [tB_set (by simp [hl]) h2, tB_set hl h1, tB_fl b h2]
  rfl

/-! ### castling -/
theorem get_fl (b : List Int) {i j : Nat} (hi : i < 64) (h : (fl (i : Int)).toNat = j) : ((tB b).getD i 0 == 0) = (b.getD j 0 == 0) := by
  rw [tB_nat b hi, h, eqz_fl]
theorem clear_fl (b : List Int) : clearR (tB b) 1 = clearR b 4 ∧ clearR (tB b) 2 = clearR b 8 ∧ clearR (tB b) 4 = clearR b 1 ∧ clearR (tB b) 8 = clearR b 2 := by
  refine ⟨?_, ?_, ?_, ?_⟩
  · show ((tB b).getD 5 0 == 0 && (tB b).getD 6 0 == 0) = (b.getD 61 0 == 0 && b.getD 62 0 == 0)
    rw [get_fl b (i := 5) (j := 61) (by omega) rfl, get_fl b (i := 6) (j := 62) (by omega) rfl]
  · show ((tB b).getD 1 0 == 0 && ((tB b).getD 2 0 == 0 && (tB b).getD 3 0 == 0)) = (b.getD 57 0 == 0 && (b.getD 58 0 == 0 && b.getD 59 0 == 0))
    rw [get_fl b (i := 1) (j := 57) (by omega) rfl, get_fl b (i := 2) (j := 58) (by omega) rfl, get_fl b (i := 3) (j := 59) (by omega) rfl]
  · show ((tB b).getD 61 0 == 0 && (tB b).getD 62 0 == 0) = (b.getD 5 0 == 0 && b.getD 6 0 == 0)
    rw [get_fl b (i := 61) (j := 5) (by omega) rfl, get_fl b (i := 62) (j := 6) (by omega) rfl]
  · show ((tB b).getD 57 0 == 0 && ((tB b).getD 58 0 == 0 && (tB b).getD 59 0 == 0)) = (b.getD 1 0 == 0 && (b.getD 2 0 == 0 && b.getD 3 0 == 0))
    rw [get_fl b (i := 57) (j := 1) (by omega) rfl, get_fl b (i := 58) (j := 2) (by omega) rfl, get_fl b (i := 59) (j := 3) (by omega) rfl]

theorem sq_eq {s : Int} (h : 0 ≤ s ∧ s < 64) (c d : Int) (hc : 0 ≤ c ∧ c < 64) (hd : fl c = d) : (fl s == d) = (s == c) := by
  rw [Bool.eq_iff_iff, ← hd]
  simp only [beq_iff_eq]
  exact ⟨fun he => fl_inj h hc he, fun he => by rw [he]⟩
theorem neg_eq (x c d : Int) (hd : d = 0 - c) : (0 - x == d) = (x == c) := by
  rw [Bool.eq_iff_iff]; simp only [beq_iff_eq]; omega

theorem right_fl (h : Sq p m) (hc : 0 ≤ p.2.2.1 ∧ p.2.2.1 ≤ 15) : (rightR (tP p) (tM m) != 0) = (rightR p m != 0) := by
  have b1 := rightS_iff.1 h.fr
  have b2 := rightS_iff.1 h.to
  have hC := castT_of hc
  obtain ⟨c1, c2, c3, c4⟩ := clear_fl p.1
  have e1 : rowR (tP p) (tM m) 1 4 6 6 = rowR p m 4 60 62 (-6) := by
    show (bAnd .i64 (tC p.2.2.1) 1 != 0 && (fl m.1 == 4 && (fl m.2.1 == 6 && (atM (tP p) (fl m.1) == 6 && clearR (tB p.1) 1)))) = _
    rw [hC.a1, c1, at_fl p b1, sq_eq b1 60 4 (by omega) rfl, sq_eq b2 62 6 (by omega) rfl, neg_eq _ (-6) 6 rfl]; rfl
  have e2 : rowR (tP p) (tM m) 2 4 2 6 = rowR p m 8 60 58 (-6) := by
    show (bAnd .i64 (tC p.2.2.1) 2 != 0 && (fl m.1 == 4 && (fl m.2.1 == 2 && (atM (tP p) (fl m.1) == 6 && clearR (tB p.1) 2)))) = _
    rw [hC.a2, c2, at_fl p b1, sq_eq b1 60 4 (by omega) rfl, sq_eq b2 58 2 (by omega) rfl, neg_eq _ (-6) 6 rfl]; rfl
  have e4 : rowR (tP p) (tM m) 4 60 62 (-6) = rowR p m 1 4 6 6 := by
    show (bAnd .i64 (tC p.2.2.1) 4 != 0 && (fl m.1 == 60 && (fl m.2.1 == 62 && (atM (tP p) (fl m.1) == -6 && clearR (tB p.1) 4)))) = _
    rw [hC.a4, c3, at_fl p b1, sq_eq b1 4 60 (by omega) rfl, sq_eq b2 6 62 (by omega) rfl, neg_eq _ 6 (-6) rfl]; rfl
  have e8 : rowR (tP p) (tM m) 8 60 58 (-6) = rowR p m 2 4 2 6 := by
    show (bAnd .i64 (tC p.2.2.1) 8 != 0 && (fl m.1 == 60 && (fl m.2.1 == 58 && (atM (tP p) (fl m.1) == -6 && clearR (tB p.1) 8)))) = _
    rw [hC.a8, c4, at_fl p b1, sq_eq b1 4 60 (by omega) rfl, sq_eq b2 2 58 (by omega) rfl, neg_eq _ 6 (-6) rfl]; rfl
  unfold rightR
  rw [e1, e2, e4, e8]
  cases rowR p m 1 4 6 6 <;> cases rowR p m 2 4 2 6 <;> cases rowR p m 4 60 62 (-6) <;> cases rowR p m 8 60 58 (-6) <;> rfl

theorem do4_fl (hb : Bd p.1) (hw : wrongP p = 0) (hf : formedP p m = true) : do4 (tP p) (tM m) = tB (do4 p m) := by
  have h := formed_spec hb hw hf
  have h' := formed_spec (p := tP p) (m := tM m) (mb_of hb.1 (wrongB_spec (wrong_spec hw).1).1).tB.bd (wrong_fl hb hw) (formed_fl h.turn hf)
  obtain ⟨_, hc, he, _⟩ := wrong_spec hw
  have hC := castT_of hc
  have hcc : (castleP (tP p) (tM m) != 0) = (castleP p m != 0) := by
    rw [← castle_same h hc, ← castle_same h' ⟨hC.lo, hC.hi⟩, right_fl h.toSq hc]
  unfold do4
  rw [hcc, do3_fl h.toSq he]
  cases hq : castleP p m != 0 with
  | false => rfl
  | true =>
    obtain ⟨_, q2, q3⟩ := castle_spec (p := p) (m := m) (by simpa using hq)
    have ht := h.turn
    have hl := do3_len h.toSq
    show (bif true then (bif decide (fl m.2.1 < fl m.1) then castled (tB (do3 p m)) ((fl m.1 + fl m.2.1) / 2) (fl m.1 - 4) else castled (tB (do3 p m)) ((fl m.1 + fl m.2.1) / 2) (fl m.1 + 3)) else tB (do3 p m)) = _
    rcases q3 with ⟨q3, _⟩ | ⟨q3, _⟩
    · rw [show decide (m.2.1 < m.1) = false by simp; omega, show decide (fl m.2.1 < fl m.1) = false by simp; unfold fl; omega]
      simp only [cond_true, cond_false]
      rw [show (fl m.1 + fl m.2.1) / 2 = fl ((m.1 + m.2.1) / 2) by unfold fl; omega, show fl m.1 + 3 = fl (m.1 + 3) by unfold fl; omega]
      exact castled_fl hl (by omega) (by omega)
    · rw [show decide (m.2.1 < m.1) = true by simp; omega, show decide (fl m.2.1 < fl m.1) = true by simp; unfold fl; omega]
      simp only [cond_true]
      rw [show (fl m.1 + fl m.2.1) / 2 = fl ((m.1 + m.2.1) / 2) by unfold fl; omega, show fl m.1 - 4 = fl (m.1 - 4) by unfold fl; omega]
      exact castled_fl hl (by omega) (by omega)

/-! ### rights that go -/
def stepD (c lf lt acc r : Int) : Int := bif bAnd .i64 c r != 0 && (goneB lf r && goneB lt r) then IntKind.wrap .i64 (acc + r) else acc
def castD (c lf lt : Int) : Int := stepD c lf lt (stepD c lf lt (stepD c lf lt (stepD c lf lt 0 1) 2) 4) 8
theorem castR_D (c f t : Int) : castR c f t 0 = castD c (lostS f) (lostS t) := rfl
def losts : List Int := [2, 3, 1, 8, 12, 4, 0]
def goB : Bool := (List.range 16).all fun c => losts.all fun f => losts.all fun t => castD (tC (c : Nat)) (tC f) (tC t) == tC (castD (c : Nat) f t) && (decide (0 ≤ castD (c : Nat) f t) && decide (castD (c : Nat) f t ≤ 15))
theorem go_all : goB = true := by kernel_rfl
theorem lost_in (s : Int) : lostS s ∈ losts := by
  unfold lostS losts
  cases s == 0 <;> cases s == 4 <;> cases s == 7 <;> cases s == 56 <;> cases s == 60 <;> cases s == 63 <;> decide
theorem lost_fl {s : Int} (h : 0 ≤ s ∧ s < 64) : lostS (fl s) = tC (lostS s) := by
  unfold lostS
  rw [sq_eq h 56 0 (by omega) rfl, sq_eq h 60 4 (by omega) rfl, sq_eq h 63 7 (by omega) rfl, sq_eq h 0 56 (by omega) rfl, sq_eq h 4 60 (by omega) rfl, sq_eq h 7 63 (by omega) rfl]
  by_cases a1 : s = 0
  · subst a1; rfl
  by_cases a2 : s = 4
  · subst a2; rfl
  by_cases a3 : s = 7
  · subst a3; rfl
  by_cases a4 : s = 56
  · subst a4; rfl
  by_cases a5 : s = 60
  · subst a5; rfl
  by_cases a6 : s = 63
  · subst a6; rfl
  rw [show (s == 0) = false by simpa using a1, show (s == 4) = false by simpa using a2, show (s == 7) = false by simpa using a3, show (s == 56) = false by simpa using a4, show (s == 60) = false by simpa using a5, show (s == 63) = false by simpa using a6]
  rfl
theorem castR_fl {c f t : Int} (hc : 0 ≤ c ∧ c ≤ 15) (hf : 0 ≤ f ∧ f < 64) (ht : 0 ≤ t ∧ t < 64) : castR (tC c) (fl f) (fl t) 0 = tC (castR c f t 0) ∧ 0 ≤ castR c f t 0 ∧ castR c f t 0 ≤ 15 := by
  rw [castR_D, castR_D, lost_fl hf, lost_fl ht]
  have hT := go_all
  unfold goB at hT
  rw [List.all_eq_true] at hT
  have h1 := hT c.toNat (by simp; omega)
  rw [Int.toNat_of_nonneg hc.1, List.all_eq_true] at h1
  have h2 := h1 _ (lost_in f)
  rw [List.all_eq_true] at h2
  have h3 := h2 _ (lost_in t)
  simpa only [Bool.and_eq_true, beq_iff_eq, decide_eq_true_eq] using h3

theorem ep_fl (h : Sq p m) : epR (tP p) (tM m) = tE (epR p m) ∧ -1 ≤ epR p m ∧ epR p m < 64 := by
  have b1 := rightS_iff.1 h.fr
  have b2 := rightS_iff.1 h.to
  unfold epR
  rw [pawn_fl b1]
  show (bif pawnP p m then bif fl m.2.1 - fl m.1 == 16 then (fl m.1 + fl m.2.1) / 2 else bif fl m.1 - fl m.2.1 == 16 then (fl m.1 + fl m.2.1) / 2 else -1 else -1) = _ ∧ _
  cases pawnP p m with
  | false => exact ⟨(tE_no (e := -1) (by omega)).symm, by simp, by simp⟩
  | true =>
    simp only [cond_true]
    by_cases e1 : m.2.1 - m.1 = 16
    · rw [show (m.2.1 - m.1 == 16) = true by simpa using e1, show (fl m.2.1 - fl m.1 == 16) = false by simp; unfold fl; omega, show (fl m.1 - fl m.2.1 == 16) = true by simp; unfold fl; omega]
      simp only [cond_true, cond_false]
      rw [tE_sq (by omega)]
      exact ⟨by unfold fl; omega, by omega, by omega⟩
    · by_cases e2 : m.1 - m.2.1 = 16
      · rw [show (m.2.1 - m.1 == 16) = false by simpa using e1, show (m.1 - m.2.1 == 16) = true by simpa using e2, show (fl m.2.1 - fl m.1 == 16) = true by simp; unfold fl; omega]
        simp only [cond_true, cond_false]
        rw [tE_sq (by omega)]
        exact ⟨by unfold fl; omega, by omega, by omega⟩
      · rw [show (m.2.1 - m.1 == 16) = false by simpa using e1, show (m.1 - m.2.1 == 16) = false by simpa using e2, show (fl m.2.1 - fl m.1 == 16) = false by simp; unfold fl; omega, show (fl m.1 - fl m.2.1 == 16) = false by simp; unfold fl; omega]
        exact ⟨(tE_no (e := -1) (by omega)).symm, by simp, by simp⟩

theorem doP_fl (hb : Bd p.1) (hw : wrongP p = 0) (hf : formedP p m = true) : doP (tP p) (tM m) = tP (doP p m) := by
  have h := formed_spec hb hw hf
  have h' := formed_spec (p := tP p) (m := tM m) (mb_of hb.1 (wrongB_spec (wrong_spec hw).1).1).tB.bd (wrong_fl hb hw) (formed_fl h.turn hf)
  obtain ⟨_, hc, he, _⟩ := wrong_spec hw
  have hC := castT_of hc
  rw [doP_eq h hc, doP_eq h' ⟨hC.lo, hC.hi⟩, do4_fl hb hw hf, (ep_fl h.toSq).1]
  show (tB (do4 p m), 1 - (1 - p.2.1), castR (tC p.2.2.1) (fl m.1) (fl m.2.1) 0, tE (epR p m), ()) = _
  rw [(castR_fl hc (rightS_iff.1 h.fr) (rightS_iff.1 h.to)).1]
  rfl
end

end Go.Proofs.YtidjjbhadehclaaGreat
