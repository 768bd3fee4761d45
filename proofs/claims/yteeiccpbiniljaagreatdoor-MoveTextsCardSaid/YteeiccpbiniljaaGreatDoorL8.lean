/- Plain laws: the document's answer: squares, men, boards. -/
import Derived.Test.YteeiccpbiniljaaGreatDoorL3
set_option linter.all false
set_option maxRecDepth 100000
namespace Go.Proofs.YteeiccpbiniljaaGreatDoor
open Go Am

/-! ### squares -/
theorem ref01_Right_eq (s : Int) {S : Type} (k : Bool → Option S) : F_ref01_Right s k = k (rightS s) := by
  unfold F_ref01_Right R_ref01_Right rightS
  rw [show decide (0 ≤ s) = decide (s ≥ 0) from rfl, show decide (s ≤ 63) = decide (s < 64) by simp; omega]
  cases decide (s ≥ 0) <;> rfl

theorem N_ref01_File_0_eq : ∀ (d n : Nat) (s : Int), 0 ≤ s → s < 8 * ((d : Int) + 1) → d < n → s < 1000 → ∀ {S : Type} (kx : Int → Option S) (kr : Option S), N_ref01_File_0 n s kx kr = kx (s % 8)
  | d, n + 1, s, h0, h1, hn, h2, S, kx, kr => by
    rw [N_ref01_File_0_succ]
    unfold R_ref01_File_0
    by_cases h : s ≥ 8
    · cases d with
      | zero => omega
      | succ d =>
        rw [show decide (s ≥ 8) = true by simpa using h, w64 (by omega)]
        simp only [cond_true]
        rw [N_ref01_File_0_eq d n (s - 8) (by omega) (by omega) (by omega) (by omega), show (s - 8) % 8 = s % 8 by omega]
    · rw [show decide (s ≥ 8) = false by simpa using h, show s % 8 = s by omega]
      rfl

theorem ref01_File_eq (s : Int) {S : Type} (k : Int → Option S) : F_ref01_File s k = k (fileS s) := by
  unfold F_ref01_File R_ref01_File fileS
  simp only [ref01_Right_eq]
  cases h : rightS s with
  | false => rfl
  | true =>
    have := rightS_iff.1 h
    rw [L_ref01_File_0_N, N_ref01_File_0_eq 8 _ s this.1 (by omega) (by omega) (by omega)]; rfl

theorem N_ref01_Rank_0_eq : ∀ (d n : Nat) (s c : Int), 0 ≤ s → s < 8 * ((d : Int) + 1) → d < n → s < 1000 → 0 ≤ c → c < 1000 - s / 8 → ∀ {S : Type} (kx : Int → Option S) (kr : Option S), N_ref01_Rank_0 n s c kx kr = kx (c + s / 8)
  | d, n + 1, s, c, h0, h1, hn, h2, h3, h4, S, kx, kr => by
    rw [N_ref01_Rank_0_succ]
    unfold R_ref01_Rank_0
    by_cases h : s ≥ 8
    · cases d with
      | zero => omega
      | succ d =>
        rw [show decide (s ≥ 8) = true by simpa using h, w64 (x := s - 8) (by omega), w64 (x := c + 1) (by omega)]
        simp only [cond_true]
        rw [N_ref01_Rank_0_eq d n (s - 8) (c + 1) (by omega) (by omega) (by omega) (by omega) (by omega) (by omega), show c + 1 + (s - 8) / 8 = c + s / 8 by omega]
    · rw [show decide (s ≥ 8) = false by simpa using h, show c + s / 8 = c by omega]
      rfl

theorem ref01_Rank_eq (s : Int) {S : Type} (k : Int → Option S) : F_ref01_Rank s k = k (rankS s) := by
  unfold F_ref01_Rank R_ref01_Rank rankS
  simp only [ref01_Right_eq]
  cases h : rightS s with
  | false => rfl
  | true =>
    have := rightS_iff.1 h
    rw [L_ref01_Rank_0_N, N_ref01_Rank_0_eq 8 _ s 0 this.1 (by omega) (by omega) (by omega) (by omega) (by omega), Int.zero_add]; rfl

/-- The first of the squares for which something is so. -/
theorem find_one {p : Nat → Bool} {s : Nat} (hs : s < 64) (hp : p s = true) (hu : ∀ t, t < 64 → p t = true → t = s) : (List.range' 0 64).find? p = some s := by
  cases h : (List.range' 0 64).find? p with
  | none =>
    rw [List.find?_eq_none] at h
    exact absurd hp (h s (by simp [List.mem_range'_1]; omega))
  | some t =>
    have h1 := List.find?_some h
    have h2 := List.mem_of_find?_eq_some h
    rw [hu t (by simp [List.mem_range'_1] at h2; omega) h1]
theorem find_none {p : Nat → Bool} (hu : ∀ t, t < 64 → p t = false) : (List.range' 0 64).find? p = none := by
  rw [List.find?_eq_none]
  intro t ht
  simp [hu t (by simp [List.mem_range'_1] at ht; omega)]

theorem fileS_nat {t : Nat} (h : t < 64) : fileS (t : Int) = (t : Int) % 8 := by
  unfold fileS; rw [show rightS (t : Int) = true from rightS_iff.2 (by omega)]; rfl
theorem rankS_nat {t : Nat} (h : t < 64) : rankS (t : Int) = (t : Int) / 8 := by
  unfold rankS; rw [show rightS (t : Int) = true from rightS_iff.2 (by omega)]; rfl
theorem fileS_of {s : Int} (h : 0 ≤ s ∧ s < 64) : fileS s = s % 8 := by
  unfold fileS; rw [rightS_iff.2 h]; rfl
theorem rankS_of {s : Int} (h : 0 ≤ s ∧ s < 64) : rankS s = s / 8 := by
  unfold rankS; rw [rightS_iff.2 h]; rfl

def findS (f r : Int) : Int := bif onS f && onS r then 8 * r + f else -1

/-- The square of a step, as the document has it. -/
def stepR (s f r : Int) : Int := match stepS s f r with | some t => t | none => -1

theorem step_find (s f r : Int) (b : 0 ≤ s ∧ s < 64) : (List.range' 0 64).find? (fun (t : Nat) => fileS (t : Int) - fileS s == f && rankS (t : Int) - rankS s == r) = (stepS s f r).map Int.toNat := by
  have hs : rightS s = true := rightS_iff.2 b
  unfold stepS
  rw [hs, fileS_of b, rankS_of b, Bool.true_and]
  cases hc : (decide (-8 < f) && decide (f < 8) && (decide (-8 < r) && decide (r < 8)) && (onS (s % 8 + f) && onS (s / 8 + r))) with
  | true =>
    simp only [Bool.and_eq_true] at hc
    have h1 := onS_iff.1 hc.2.1
    have h2 := onS_iff.1 hc.2.2
    have h3 := find_one (p := fun (t : Nat) => fileS (t : Int) - s % 8 == f && rankS (t : Int) - s / 8 == r) (s := (8 * (s / 8 + r) + (s % 8 + f)).toNat) (by omega)
      (by
        rw [fileS_nat (by omega), rankS_nat (by omega)]
        simp only [Bool.and_eq_true, beq_iff_eq]
        omega)
      (by
        intro t ht h
        rw [fileS_nat ht, rankS_nat ht] at h
        simp only [Bool.and_eq_true, beq_iff_eq] at h
        omega)
    rw [h3]
    rfl
  | false =>
    have h3 := find_none (p := fun (t : Nat) => fileS (t : Int) - s % 8 == f && rankS (t : Int) - s / 8 == r)
      (by
        intro t ht
        rw [fileS_nat ht, rankS_nat ht]
        cases h : ((t : Int) % 8 - s % 8 == f && (t : Int) / 8 - s / 8 == r) with
        | false => rfl
        | true =>
          simp only [Bool.and_eq_true, beq_iff_eq] at h
          have : (decide (-8 < f) && decide (f < 8) && (decide (-8 < r) && decide (r < 8)) && (onS (s % 8 + f) && onS (s / 8 + r))) = true := by
            simp only [Bool.and_eq_true, decide_eq_true_eq, onS_iff]
            omega
          rw [hc] at this; cases this)
    rw [h3]
    rfl

/-! ### men -/
theorem ref02_Kind_unroll (m : Int) {S : Type} (k : Int → Option S) : F_ref02_Kind m k =
    bif m == 1 then k 1 else bif m == -1 then k 1 else bif m == 2 then k 2 else bif m == -2 then k 2 else bif m == 3 then k 3 else bif m == -3 then k 3 else
    bif m == 4 then k 4 else bif m == -4 then k 4 else bif m == 5 then k 5 else bif m == -5 then k 5 else bif m == 6 then k 6 else bif m == -6 then k 6 else k 0 := by kernel_rfl

theorem men_cases {m : Int} (h : rightM m = true) : m = 1 ∨ m = -1 ∨ m = 2 ∨ m = -2 ∨ m = 3 ∨ m = -3 ∨ m = 4 ∨ m = -4 ∨ m = 5 ∨ m = -5 ∨ m = 6 ∨ m = -6 := by
  have := rightM_bounds h; omega

theorem ref02_Kind_eq (m : Int) {S : Type} (k : Int → Option S) : F_ref02_Kind m k = k (kindM m) := by
  rw [ref02_Kind_unroll]
  cases h : rightM m with
  | true => rcases men_cases h with rfl | rfl | rfl | rfl | rfl | rfl | rfl | rfl | rfl | rfl | rfl | rfl <;> rfl
  | false =>
    have hk : kindM m = 0 := by unfold kindM; rw [h]; rfl
    have ne : ∀ c : Int, rightM c = true → (m == c) = false := by
      intro c hc
      cases hq : m == c with
      | false => rfl
      | true =>
        have : m = c := by simpa using hq
        rw [this, hc] at h; cases h
    rw [ne 1 rfl, ne (-1) rfl, ne 2 rfl, ne (-2) rfl, ne 3 rfl, ne (-3) rfl, ne 4 rfl, ne (-4) rfl, ne 5 rfl, ne (-5) rfl, ne 6 rfl, ne (-6) rfl, hk]
    rfl

theorem kind_zero (m : Int) : (kindM m == 0) = !rightM m := by
  cases h : rightM m with
  | true => rcases men_cases h with rfl | rfl | rfl | rfl | rfl | rfl | rfl | rfl | rfl | rfl | rfl | rfl <;> rfl
  | false => unfold kindM; rw [h]; rfl

/-! ### boards -/
/-- All squares of a man. -/
def whereL (b : List Int) (m : Int) (i d : Nat) : List Int := ((List.range' i d).filter fun s => b.getD s 0 == m).map fun (s : Nat) => (s : Int)

theorem range_drop {b : List Int} (hb : b.length = 64) (p : Int → Bool) : ∀ (d i : Nat), i + d = 64 → ((List.range' i d).filter fun s => p (b.getD s 0)).length = (b.drop i).countP p
  | 0, i, hi => by rw [List.drop_eq_nil_of_le (by omega)]; rfl
  | d + 1, i, hi => by
    rw [drop_cons (b := b) (i := i) (by omega), countP_step, List.range'_succ, List.filter_cons, ← range_drop hb p d (i + 1) (by omega)]
    cases p (b.getD i 0) <;> simp

theorem whereL_len {b : List Int} (hb : Bd b) (m : Int) : (whereL b m 0 64).length = b.countP (· == m) := by
  unfold whereL
  rw [List.length_map, range_drop hb.1 (· == m) 64 0 rfl, List.drop_zero]

end Go.Proofs.YteeiccpbiniljaaGreatDoor
