/- Plain laws: men, squares, boards. -/
import Derived.Test.YteeiccpbiniljaaGreatDoorR2
import Derived.Test.YteeiccpbiniljaaGreatDoorPl1
set_option linter.all false
set_option maxRecDepth 100000
namespace Go.Proofs.YteeiccpbiniljaaGreatDoor
open Go Am

/-! ### men -/
def rightM (m : Int) : Bool := m != 0 && (decide (m ≥ -6) && decide (m ≤ 6))
def sideM (m : Int) : Int := bif rightM m then (bif decide (m > 0) then 0 else 1) else -1
def kindM (m : Int) : Int := bif rightM m then (if 0 - m > m then 0 - m else m) else 0
def makeM (kind side : Int) : Int := bif decide (kind < 1) then 0 else bif decide (kind > 6) then 0 else bif side == 0 then kind else bif side == 1 then 0 - kind else 0
def otherS (s : Int) : Int := bif s == 0 then 1 else bif s == 1 then 0 else -1

theorem men_Right_eq (m : Int) {S : Type} (k : Bool → Option S) : F_men_Right m k = k (rightM m) := by
  unfold F_men_Right R_men_Right rightM
  cases m != 0 <;> cases decide (m ≥ -6) <;> rfl
theorem men_Side_eq (m : Int) {S : Type} (k : Int → Option S) : F_men_Side m k = k (sideM m) := by
  unfold F_men_Side R_men_Side sideM
  simp only [men_Right_eq]
  cases rightM m <;> cases decide (m > 0) <;> rfl
theorem rightM_bounds {m : Int} (h : rightM m = true) : m ≠ 0 ∧ -6 ≤ m ∧ m ≤ 6 := by
  simp [rightM] at h; omega
theorem men_Kind_eq (m : Int) {S : Type} (k : Int → Option S) : F_men_Kind m k = k (kindM m) := by
  unfold F_men_Kind R_men_Kind kindM
  simp only [men_Right_eq]
  cases h : rightM m with
  | false => rfl
  | true =>
    have := rightM_bounds h
    rw [w64 (by omega)]
    rfl
theorem men_Make_eq (kind side : Int) {S : Type} (k : Int → Option S) : F_men_Make kind side k = k (makeM kind side) := by
  unfold F_men_Make R_men_Make makeM
  by_cases h1 : kind < 1
  · simp [h1]
  · by_cases h2 : kind > 6
    · simp [h1, h2]
    · have e1 : decide (kind < 1) = false := by simpa using h1
      have e2 : decide (kind > 6) = false := by simpa using h2
      rw [w64 (by omega), e1, e2]
      cases side == 0 <;> cases side == 1 <;> rfl
theorem men_Other_eq (s : Int) {S : Type} (k : Int → Option S) : F_men_Other s k = k (otherS s) := by
  unfold F_men_Other R_men_Other otherS
  by_cases h1 : s = 0
  · subst h1; rfl
  · by_cases h2 : s = 1
    · subst h2; rfl
    · have e1 : (s != 0) = true := by simpa using h1
      have e2 : (s != 1) = true := by simpa using h2
      have e3 : (s == 0) = false := by simpa using h1
      have e4 : (s == 1) = false := by simpa using h2
      rw [e1, e2, e3, e4]; rfl

/-! ### squares -/
def rightS (s : Int) : Bool := decide (s ≥ 0) && decide (s < 64)
def fileS (s : Int) : Int := bif rightS s then s % 8 else -1
def rankS (s : Int) : Int := bif rightS s then s / 8 else -1
def onS (n : Int) : Bool := decide (n ≥ 0) && decide (n < 8)
/-- The square of a step: -1: there is none. -/
def stepS (s f r : Int) : Option Int := bif rightS s && (decide (-8 < f) && decide (f < 8) && (decide (-8 < r) && decide (r < 8))) && (onS (s % 8 + f) && onS (s / 8 + r)) then some (8 * (s / 8 + r) + (s % 8 + f)) else none
def gapS (a b : Int) : Int := if b - a > a - b then b - a else a - b
def farS (a b : Int) : Int := bif rightS a && rightS b then (if gapS (rankS a) (rankS b) > gapS (fileS a) (fileS b) then gapS (rankS a) (rankS b) else gapS (fileS a) (fileS b)) else -1

theorem rightS_iff {s : Int} : rightS s = true ↔ 0 ≤ s ∧ s < 64 := by simp [rightS]
theorem onS_iff {s : Int} : onS s = true ↔ 0 ≤ s ∧ s < 8 := by simp [onS]
theorem square_Right_eq (s : Int) {S : Type} (k : Bool → Option S) : F_square_Right s k = k (rightS s) := by
  unfold F_square_Right R_square_Right rightS
  cases decide (s ≥ 0) <;> rfl
theorem square_on_eq (s : Int) {S : Type} (k : Bool → Option S) : F_square_on s k = k (onS s) := by
  unfold F_square_on R_square_on onS
  cases decide (s ≥ 0) <;> rfl
theorem square_File_eq (s : Int) {S : Type} (k : Int → Option S) : F_square_File s k = k (fileS s) := by
  unfold F_square_File R_square_File fileS
  simp only [square_Right_eq]
  cases h : rightS s with
  | false => rfl
  | true => have := rightS_iff.1 h; rw [Int.tmod_eq_emod_of_nonneg this.1]; rfl
theorem square_Rank_eq (s : Int) {S : Type} (k : Int → Option S) : F_square_Rank s k = k (rankS s) := by
  unfold F_square_Rank R_square_Rank rankS
  simp only [square_Right_eq]
  cases h : rightS s with
  | false => rfl
  | true => have := rightS_iff.1 h; rw [Int.tdiv_eq_ediv_of_nonneg this.1, w64 (by omega)]; rfl
theorem square_At_eq (f r : Int) {S : Type} (k : Int → Bool → Option S) : F_square_At f r k = bif onS f && onS r then k (8 * r + f) true else k 0 false := by
  unfold F_square_At R_square_At
  simp only [square_on_eq]
  cases h : onS f with
  | false => rfl
  | true =>
    cases h' : onS r with
    | false => rfl
    | true =>
      have h1 := onS_iff.1 h
      have h2 := onS_iff.1 h'
      rw [w64 (x := 8 * r) (by omega), w64 (by omega)]
      rfl
theorem square_Step_eq (s f r : Int) {S : Type} (k : Int → Bool → Option S) : F_square_Step s f r k = (match stepS s f r with | some t => k t true | none => k 0 false) := by
  unfold F_square_Step R_square_Step stepS
  simp only [square_Right_eq, square_At_eq]
  cases h : rightS s with
  | false => rfl
  | true =>
    have hs := rightS_iff.1 h
    by_cases h1 : f ≤ -8
    · have : decide (-8 < f) = false := by simpa using h1
      simp [h1, this]
    · by_cases h2 : f ≥ 8
      · have : decide (f < 8) = false := by simpa using h2
        simp [h1, h2, this]
      · by_cases h3 : r ≤ -8
        · have : decide (-8 < r) = false := by simpa using h3
          simp [h1, h2, h3, this]
        · by_cases h4 : r ≥ 8
          · have : decide (r < 8) = false := by simpa using h4
            simp [h1, h2, h3, h4, this]
          · have e1 : decide (-8 < f) = true := by simp; omega
            have e2 : decide (f < 8) = true := by simp; omega
            have e3 : decide (-8 < r) = true := by simp; omega
            have e4 : decide (r < 8) = true := by simp; omega
            rw [Int.tmod_eq_emod_of_nonneg hs.1, Int.tdiv_eq_ediv_of_nonneg hs.1, w64 (x := s / 8) (by omega), w64 (x := s % 8 + f) (by omega), w64 (x := s / 8 + r) (by omega)]
            simp only [e1, e2, e3, e4, h1, h2, h3, h4, decide_false, cond_false, Bool.not_true, Bool.and_true, Bool.true_and]
            cases onS (s % 8 + f) && onS (s / 8 + r) <;> rfl
theorem square_gap_eq (a b : Int) (h : -1000 ≤ a ∧ a ≤ 1000) (h' : -1000 ≤ b ∧ b ≤ 1000) {S : Type} (k : Int → Option S) : F_square_gap a b k = k (gapS a b) := by
  unfold F_square_gap R_square_gap gapS
  rw [w64 (x := b - a) (by omega), w64 (x := a - b) (by omega)]
theorem fileS_bounds (s : Int) : -1 ≤ fileS s ∧ fileS s < 8 := by
  unfold fileS
  cases h : rightS s
  · simp
  · have := rightS_iff.1 h; simp; omega
theorem rankS_bounds (s : Int) : -1 ≤ rankS s ∧ rankS s < 8 := by
  unfold rankS
  cases h : rightS s
  · simp
  · have := rightS_iff.1 h; simp; omega
theorem square_Far_eq (a b : Int) {S : Type} (k : Int → Option S) : F_square_Far a b k = k (farS a b) := by
  unfold F_square_Far R_square_Far farS
  have h1 := fileS_bounds a
  have h2 := fileS_bounds b
  have h3 := rankS_bounds a
  have h4 := rankS_bounds b
  simp only [square_Right_eq, square_File_eq, square_Rank_eq]
  rw [square_gap_eq _ _ (by omega) (by omega), square_gap_eq _ _ (by omega) (by omega)]
  cases rightS a <;> cases rightS b <;> rfl
theorem square_Flip_eq (s : Int) {S : Type} (k : Int → Option S) : F_square_Flip s k = k (bif rightS s then bXor .i64 s 56 else -1) := by
  unfold F_square_Flip R_square_Flip
  simp only [square_Right_eq]
  cases rightS s <;> rfl

end Go.Proofs.YteeiccpbiniljaaGreatDoor
