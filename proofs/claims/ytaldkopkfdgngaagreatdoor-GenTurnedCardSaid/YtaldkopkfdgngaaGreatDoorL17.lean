/- Plain laws: a position turned. -/
import Derived.Test.YtaldkopkfdgngaaGreatDoorL16
set_option linter.all false
set_option maxRecDepth 100000
namespace Go.Proofs.YtaldkopkfdgngaaGreatDoor
open Go Am

def tC (c : Int) : Int := c / 4 + c % 4 * 4
def tE (e : Int) : Int := bif decide (e ≥ 0) then fl e else -1
def tP (p : PosD) : PosD := (tB p.1, 1 - p.2.1, tC p.2.2.1, tE p.2.2.2.1, ())
def tM (m : MoveD) : MoveD := (fl m.1, fl m.2.1, m.2.2.1, ())

theorem tE_sq {e : Int} (h : 0 ≤ e) : tE e = fl e := by unfold tE; rw [show decide (e ≥ 0) = true by simpa using h]; rfl
theorem tE_no {e : Int} (h : e < 0) : tE e = -1 := by unfold tE; rw [show decide (e ≥ 0) = false by simp; omega]; rfl

def castB : Bool := (List.range 16).all fun c => decide (0 ≤ tC (c : Nat)) && (decide (tC (c : Nat) ≤ 15) && ((bAnd .i64 (tC (c : Nat)) 1 != 0) == (bAnd .i64 (c : Nat) 4 != 0) && ((bAnd .i64 (tC (c : Nat)) 2 != 0) == (bAnd .i64 (c : Nat) 8 != 0) &&
  ((bAnd .i64 (tC (c : Nat)) 4 != 0) == (bAnd .i64 (c : Nat) 1 != 0) && ((bAnd .i64 (tC (c : Nat)) 8 != 0) == (bAnd .i64 (c : Nat) 2 != 0) &&
  (bOr .i64 (bAnd .i64 (shr .i64 (c : Nat) 2) 3) (shl .i64 (bAnd .i64 (c : Nat) 3) 2) == tC (c : Nat) &&
  IntKind.wrap .i64 ((IntKind.wrap .i64 (Int.tdiv (c : Nat) 4)) + (IntKind.wrap .i64 ((Int.tmod (c : Nat) 4) * 4))) == tC (c : Nat)))))))
theorem cast_all : castB = true := by kernel_rfl

structure CastT (c : Int) : Prop where
  lo : 0 ≤ tC c
  hi : tC c ≤ 15
  a1 : (bAnd .i64 (tC c) 1 != 0) = (bAnd .i64 c 4 != 0)
  a2 : (bAnd .i64 (tC c) 2 != 0) = (bAnd .i64 c 8 != 0)
  a4 : (bAnd .i64 (tC c) 4 != 0) = (bAnd .i64 c 1 != 0)
  a8 : (bAnd .i64 (tC c) 8 != 0) = (bAnd .i64 c 2 != 0)
  pg : bOr .i64 (bAnd .i64 (shr .i64 c 2) 3) (shl .i64 (bAnd .i64 c 3) 2) = tC c
  rf : IntKind.wrap .i64 ((IntKind.wrap .i64 (Int.tdiv c 4)) + (IntKind.wrap .i64 ((Int.tmod c 4) * 4))) = tC c
theorem castT_of {c : Int} (h : 0 ≤ c ∧ c ≤ 15) : CastT c := by
  have hT := cast_all
  unfold castB at hT
  rw [List.all_eq_true] at hT
  have h1 := hT c.toNat (by simp; omega)
  rw [Int.toNat_of_nonneg h.1] at h1
  simp only [Bool.and_eq_true, beq_iff_eq, decide_eq_true_eq] at h1
  exact ⟨h1.1, h1.2.1, h1.2.2.1, h1.2.2.2.1, h1.2.2.2.2.1, h1.2.2.2.2.2.1, h1.2.2.2.2.2.2.1, h1.2.2.2.2.2.2.2⟩

theorem manB_fl (b : List Int) {s t : Int} (h : 0 ≤ s ∧ s < 64) (he : fl s = t) (c : Int) : (manB (tB b) s == 0 - c) = (manB b t == c) := by
  unfold manB
  rw [rightS_iff.2 h, ← he, rightS_iff.2 (fl_in h)]
  simp only [cond_true]
  rw [tB_at b h, Bool.eq_iff_iff]
  simp only [beq_iff_eq]
  omega

theorem backed_fl (b : List Int) : backedP (tB b) 1 = backedP b 4 ∧ backedP (tB b) 2 = backedP b 8 ∧ backedP (tB b) 4 = backedP b 1 ∧ backedP (tB b) 8 = backedP b 2 := by
  have e1 := manB_fl b (s := 4) (t := 60) (by omega) rfl (-6)
  have e2 := manB_fl b (s := 7) (t := 63) (by omega) rfl (-4)
  have e3 := manB_fl b (s := 0) (t := 56) (by omega) rfl (-4)
  have e4 := manB_fl b (s := 60) (t := 4) (by omega) rfl 6
  have e5 := manB_fl b (s := 63) (t := 7) (by omega) rfl 4
  have e6 := manB_fl b (s := 56) (t := 0) (by omega) rfl 4
  rw [show (0 : Int) - -6 = 6 from rfl] at e1
  rw [show (0 : Int) - -4 = 4 from rfl] at e2 e3
  rw [show (0 : Int) - 6 = -6 from rfl] at e4
  rw [show (0 : Int) - 4 = -4 from rfl] at e5 e6
  refine ⟨?_, ?_, ?_, ?_⟩
  · show (manB (tB b) 4 == 6 && manB (tB b) 7 == 4) = (manB b 60 == -6 && manB b 63 == -4)
    rw [e1, e2]
  · show (manB (tB b) 4 == 6 && manB (tB b) 0 == 4) = (manB b 60 == -6 && manB b 56 == -4)
    rw [e1, e3]
  · show (manB (tB b) 60 == -6 && manB (tB b) 63 == -4) = (manB b 4 == 6 && manB b 7 == 4)
    rw [e4, e5]
  · show (manB (tB b) 60 == -6 && manB (tB b) 56 == -4) = (manB b 4 == 6 && manB b 0 == 4)
    rw [e4, e6]

theorem castles_fl {p : PosD} (hc : 0 ≤ p.2.2.1 ∧ p.2.2.1 ≤ 15) : castlesP (tP p) = castlesP p := by
  have h := castT_of hc
  obtain ⟨b1, b2, b3, b4⟩ := backed_fl p.1
  unfold castlesP tP
  simp only [List.all_cons, List.all_nil, Bool.and_true, h.a1, h.a2, h.a4, h.a8, b1, b2, b3, b4]
  cases (!(bAnd .i64 p.2.2.1 1 != 0) || backedP p.1 1) <;> cases (!(bAnd .i64 p.2.2.1 2 != 0) || backedP p.1 2) <;> cases (!(bAnd .i64 p.2.2.1 4 != 0) || backedP p.1 4) <;> cases (!(bAnd .i64 p.2.2.1 8 != 0) || backedP p.1 8) <;> rfl

theorem passed0 {p : PosD} (ht : p.2.1 = 0) : passedP p = bif rankS p.2.2.2.1 == 5 && (p.1.getD p.2.2.2.1.toNat 0 == 0 && (p.1.getD (p.2.2.2.1 + 8).toNat 0 == 0 && p.1.getD (p.2.2.2.1 - 8).toNat 0 == -1)) then some (p.2.2.2.1 - 8) else none := by
  unfold passedP
  rw [ht]
  simp only [show otherS 0 = 1 from rfl, show ((0 : Int) == 1) = false from rfl, cond_false, show makeM 1 1 = -1 from rfl, bne_not, show decide ((1 : Int) < 0) = false from rfl]
  cases hr : rankS p.2.2.2.1 == 5 with
  | false => rfl
  | true =>
    obtain ⟨_, _, h1, h2, _, _⟩ := step_up (e := p.2.2.2.1) (.inl (by simpa using hr))
    rw [h1, h2]
    simp only [Bool.not_true, cond_false]
    cases p.1.getD p.2.2.2.1.toNat 0 == 0 <;> cases p.1.getD (p.2.2.2.1 + 8).toNat 0 == 0 <;> cases p.1.getD (p.2.2.2.1 - 8).toNat 0 == -1 <;> rfl
theorem passed1 {p : PosD} (ht : p.2.1 = 1) : passedP p = bif rankS p.2.2.2.1 == 2 && (p.1.getD p.2.2.2.1.toNat 0 == 0 && (p.1.getD (p.2.2.2.1 - 8).toNat 0 == 0 && p.1.getD (p.2.2.2.1 + 8).toNat 0 == 1)) then some (p.2.2.2.1 + 8) else none := by
  unfold passedP
  rw [ht]
  simp only [show otherS 1 = 0 from rfl, show ((1 : Int) == 1) = true from rfl, cond_false, cond_true, show makeM 1 0 = 1 from rfl, bne_not, show decide ((0 : Int) < 0) = false from rfl]
  cases hr : rankS p.2.2.2.1 == 2 with
  | false => rfl
  | true =>
    obtain ⟨_, _, h1, h2, _, _⟩ := step_up (e := p.2.2.2.1) (.inr (by simpa using hr))
    rw [h1, h2]
    simp only [Bool.not_true, cond_false]
    cases p.1.getD p.2.2.2.1.toNat 0 == 0 <;> cases p.1.getD (p.2.2.2.1 - 8).toNat 0 == 0 <;> cases p.1.getD (p.2.2.2.1 + 8).toNat 0 == 1 <;> rfl

theorem eq_fl (b : List Int) {s : Int} (h : 0 ≤ s ∧ s < 64) (c d : Int) (hd : d = 0 - c) : ((tB b).getD (fl s).toNat 0 == d) = (b.getD s.toNat 0 == c) := by
  rw [tB_fl b h, Bool.eq_iff_iff]
  simp only [beq_iff_eq]
  omega

theorem passed_fl {p : PosD} (ht : p.2.1 = 0 ∨ p.2.1 = 1) (he : -1 ≤ p.2.2.2.1 ∧ p.2.2.2.1 < 64) : passedP (tP p) = (passedP p).map fl := by
  rcases ht with ht | ht
  · rw [passed0 ht, passed1 (p := tP p) (show 1 - p.2.1 = 1 by omega)]
    by_cases h0 : p.2.2.2.1 < 0
    · rw [show (tP p).2.2.2.1 = -1 from tE_no h0, show p.2.2.2.1 = -1 by omega]; rfl
    · have b := show 0 ≤ p.2.2.2.1 ∧ p.2.2.2.1 < 64 by omega
      rw [show (tP p).2.2.2.1 = fl p.2.2.2.1 from tE_sq (by omega), rankS_fl b]
      have hrk : (7 - rankS p.2.2.2.1 == 2) = (rankS p.2.2.2.1 == 5) := by rw [Bool.eq_iff_iff]; simp only [beq_iff_eq]; omega
      rw [hrk]
      cases hr : rankS p.2.2.2.1 == 5 with
      | false => rfl
      | true =>
        obtain ⟨_, _, _, _, h5, h6⟩ := step_up (e := p.2.2.2.1) (.inl (by simpa using hr))
        rw [show fl p.2.2.2.1 - 8 = fl (p.2.2.2.1 + 8) by unfold fl; omega, show fl p.2.2.2.1 + 8 = fl (p.2.2.2.1 - 8) by unfold fl; omega]
        show (bif true && ((tB p.1).getD _ 0 == 0 && ((tB p.1).getD _ 0 == 0 && (tB p.1).getD _ 0 == 1)) then some _ else none) = _
        rw [eq_fl p.1 b 0 0 rfl, eq_fl p.1 (s := p.2.2.2.1 + 8) (by omega) 0 0 rfl, eq_fl p.1 (s := p.2.2.2.1 - 8) (by omega) (-1) 1 rfl]
        cases (true && (p.1.getD p.2.2.2.1.toNat 0 == 0 && (p.1.getD (p.2.2.2.1 + 8).toNat 0 == 0 && p.1.getD (p.2.2.2.1 - 8).toNat 0 == -1))) <;> rfl
  · rw [passed1 ht, passed0 (p := tP p) (show 1 - p.2.1 = 0 by omega)]
    by_cases h0 : p.2.2.2.1 < 0
    · rw [show (tP p).2.2.2.1 = -1 from tE_no h0, show p.2.2.2.1 = -1 by omega]; rfl
    · have b := show 0 ≤ p.2.2.2.1 ∧ p.2.2.2.1 < 64 by omega
      rw [show (tP p).2.2.2.1 = fl p.2.2.2.1 from tE_sq (by omega), rankS_fl b]
      have hrk : (7 - rankS p.2.2.2.1 == 5) = (rankS p.2.2.2.1 == 2) := by rw [Bool.eq_iff_iff]; simp only [beq_iff_eq]; omega
      rw [hrk]
      cases hr : rankS p.2.2.2.1 == 2 with
      | false => rfl
      | true =>
        obtain ⟨_, _, _, _, h5, h6⟩ := step_up (e := p.2.2.2.1) (.inr (by simpa using hr))
        rw [show fl p.2.2.2.1 - 8 = fl (p.2.2.2.1 + 8) by unfold fl; omega, show fl p.2.2.2.1 + 8 = fl (p.2.2.2.1 - 8) by unfold fl; omega]
        show (bif true && ((tB p.1).getD _ 0 == 0 && ((tB p.1).getD _ 0 == 0 && (tB p.1).getD _ 0 == -1)) then some _ else none) = _
        rw [eq_fl p.1 b 0 0 rfl, eq_fl p.1 (s := p.2.2.2.1 - 8) (by omega) 0 0 rfl, eq_fl p.1 (s := p.2.2.2.1 + 8) (by omega) 1 (-1) rfl]
        cases (true && (p.1.getD p.2.2.2.1.toNat 0 == 0 && (p.1.getD (p.2.2.2.1 - 8).toNat 0 == 0 && p.1.getD (p.2.2.2.1 + 8).toNat 0 == 1))) <;> rfl

theorem wrong_iff {p : PosD} : wrongP p = 0 ↔ (wrongB p.1 = 0 ∧ decide (otherS p.2.1 < 0) = false ∧ decide (p.2.2.1 < 0) = false ∧ decide (p.2.2.1 > 15) = false ∧ decide (p.2.2.2.1 < -1) = false ∧ decide (p.2.2.2.1 ≥ 64) = false ∧
    decide (farS (kingB p.1 0) (kingB p.1 1) ≤ 1) = false ∧ checkB p.1 (otherS p.2.1) = false ∧ castlesP p = true ∧ (decide (p.2.2.2.1 ≥ 0) && !(passedP p).isSome) = false) := by
  unfold wrongP
  cases hw : wrongB p.1 != 0 with
  | true =>
    have : wrongB p.1 ≠ 0 := by simpa using hw
    simp [this]
  | false =>
    have : wrongB p.1 = 0 := by simpa using hw
    simp only [this, true_and, cond_false]
    generalize decide (otherS p.2.1 < 0) = x1
    cases x1
    case true => simp
    generalize decide (p.2.2.1 < 0) = x1
    cases x1
    case true => simp
    generalize decide (p.2.2.1 > 15) = x1
    cases x1
    case true => simp
    generalize decide (p.2.2.2.1 < -1) = x1
    cases x1
    case true => simp
    generalize decide (p.2.2.2.1 ≥ 64) = x1
    cases x1
    case true => simp
    generalize decide (farS (kingB p.1 0) (kingB p.1 1) ≤ 1) = x1
    cases x1
    case true => simp
    generalize checkB p.1 (otherS p.2.1) = x1
    cases x1
    case true => simp
    cases castlesP p <;> cases decide (p.2.2.2.1 ≥ 0) <;> cases (passedP p).isSome <;> simp

theorem other_turn {t : Int} (ht : t = 0 ∨ t = 1) : otherS t = 1 - t := by rcases ht with rfl | rfl <;> rfl

theorem wrong_fl {p : PosD} (hb : Bd p.1) (h : wrongP p = 0) : wrongP (tP p) = 0 := by
  have ht := wrong_turn h
  obtain ⟨h1, h2, h3, h4, h5, h6, h7, h8, h9, h10⟩ := wrong_iff.1 h
  have hc : 0 ≤ p.2.2.1 ∧ p.2.2.1 ≤ 15 := by
    have a := of_decide_eq_false h3
    have b := of_decide_eq_false h4
    omega
  have he : -1 ≤ p.2.2.2.1 ∧ p.2.2.2.1 < 64 := by
    have a := of_decide_eq_false h5
    have b := of_decide_eq_false h6
    omega
  have hC := castT_of hc
  have hE : -1 ≤ tE p.2.2.2.1 ∧ tE p.2.2.2.1 < 64 ∧ decide (tE p.2.2.2.1 ≥ 0) = decide (p.2.2.2.1 ≥ 0) := by
    by_cases h0 : p.2.2.2.1 < 0
    · rw [tE_no h0]; exact ⟨by omega, by omega, by rw [show decide (p.2.2.2.1 ≥ 0) = false by simp; omega]; rfl⟩
    · rw [tE_sq (by omega)]
      have := fl_in (s := p.2.2.2.1) (by omega)
      exact ⟨by omega, by omega, by rw [show decide (p.2.2.2.1 ≥ 0) = true by simp; omega]; simp; omega⟩
  obtain ⟨a1, a2, a3, a4, _, _, _⟩ := kings_spec hb (by rw [h1]; rfl)
  obtain ⟨K1, K2⟩ := tB_king hb h1
  rw [wrong_iff]
  refine ⟨tB_wrong hb h1, ?_, ?_, ?_, ?_, ?_, ?_, ?_, by rw [castles_fl hc]; exact h9, ?_⟩
  · show decide (otherS (1 - p.2.1) < 0) = false
    rcases ht with ht | ht <;> rw [ht] <;> rfl
  · show decide (tC p.2.2.1 < 0) = false
    have := hC.lo; simp; omega
  · show decide (tC p.2.2.1 > 15) = false
    have := hC.hi; simp; omega
  · show decide (tE p.2.2.2.1 < -1) = false
    simp; omega
  · show decide (tE p.2.2.2.1 ≥ 64) = false
    simp; omega
  · show decide (farS (kingB (tB p.1) 0) (kingB (tB p.1) 1) ≤ 1) = false
    rw [K1, K2, far_fl ⟨a3, a4⟩ ⟨a1, a2⟩]; exact h7
  · show checkB (tB p.1) (otherS (1 - p.2.1)) = false
    have e : otherS (1 - p.2.1) = 1 - otherS p.2.1 := by rcases ht with ht | ht <;> rw [ht] <;> rfl
    rw [e]
    exact check_fl hb h1 (by rw [other_turn ht]; omega) h8
  · show (decide (tE p.2.2.2.1 ≥ 0) && !(passedP (tP p)).isSome) = false
    rw [hE.2.2, passed_fl ht he, Option.isSome_map]; exact h10

end Go.Proofs.YtaldkopkfdgngaaGreatDoor

