/- Plain laws: all moves. -/
import Derived.Test.YtaldkopkfdgngaaGreatDoorL23
set_option linter.all false
set_option maxRecDepth 100000
namespace Go.Proofs.YtaldkopkfdgngaaGreatDoor
open Go Am

theorem stepL_len (p : PosD) (s : Int) : (stepL p s).length ≤ 2 := by
  unfold stepL
  cases stepS s 0 (aheadT p.2.1) with
  | none => simp
  | some a =>
    simp only
    cases p.1.getD a.toNat 0 != 0 with
    | true => simp
    | false =>
      simp only [cond_false]
      cases stepS s 0 (2 * aheadT p.2.1) with
      | none => simp
      | some b => simp only; cases p.1.getD b.toNat 0 != 0 <;> cases rankS s != secondT p.2.1 <;> simp
theorem pawnL_len (p : PosD) (s : Int) : (pawnL p s).length ≤ 600 := by
  have h1 := stepL_len p s
  have h2 := List.length_filter_le (pawnT p) (strikesL p.1 s)
  have h3 := strikesL_len p.1 s
  unfold pawnL
  rw [List.length_append]
  omega
theorem kingL_len (p : PosD) (s : Int) : (kingL p s).length ≤ 600 := by
  have h1 := jumpsL_len p s
  have h2 := List.length_filter_le (kingT p s) [s + 2, s - 2]
  unfold kingL
  rw [List.length_append]
  simp at h2
  omega
theorem toL_len (p : PosD) (s : Int) : (toL p s).length ≤ 600 := by
  have h1 := pawnL_len p s
  have h2 := kingL_len p s
  have h3 := jumpsL_len p s
  unfold toL
  cases kindM (p.1.getD s.toNat 0) == 1 <;> cases kindM (p.1.getD s.toNat 0) == 6 <;> simp only [cond_true, cond_false] <;> omega
theorem fromL_len (p : PosD) (s : Int) : (fromL p s).length ≤ 2400 := by
  unfold fromL
  cases rightS s && (!(p.1.getD s.toNat 0 == 0) && sideM (p.1.getD s.toNat 0) == p.2.1) with
  | false => simp
  | true =>
    simp only [cond_true]
    have h1 := movesL_len p s (sortL (toL p s))
    have h2 := toL_len p s
    rw [(sort_perm _).length_eq] at h1
    omega

theorem sorted_from {p : PosD} (hb : Bd p.1) {s : Int} (hs : 0 ≤ s ∧ s < 64) (l : List Int) (hl : l.length ≤ 600) {S : Type} (k : List MoveD → Option S) :
    F_slices_Sort l (fun z => L_gen_Gen_from_0 s (((List.length z) : Nat) : Int) 0 p [] z (fun z5 => k z5) Option.none) = k (movesL p s (sortL l)) := by
  have hsl : (sortL l).length = l.length := (sort_perm l).length_eq
  rw [Sort_eq l (by omega), L_gen_Gen_from_0_N, show (0 : Int) = ((0 : Nat) : Int) from rfl, N_from_0_eq hb hs (sortL l) (by omega) (sortL l).length 0 _ [] (by omega) (by omega) (by simp; omega)]
  simp

theorem from_eq {p : PosD} (hb : Bd p.1) (ht : p.2.1 = 0 ∨ p.2.1 = 1) (s : Int) {S : Type} (k : List MoveD → Option S) : F_gen_Gen_from p s k = k (fromL p s) := by
  unfold F_gen_Gen_from R_gen_Gen_from fromL toL
  simp only [square_Right_eq]
  cases hs : rightS s with
  | false => rfl
  | true =>
    have hs' := rightS_iff.1 hs
    have i1 : inB s 64 = true := inB_true hs'
    have f1 := sorted_from hb hs' (pawnL p s) (pawnL_len p s) k
    have f2 := sorted_from hb hs' (kingL p s) (kingL_len p s) k
    have f3 := sorted_from hb hs' (jumpsL p s) (Nat.le_trans (jumpsL_len p s) (by omega)) k
    simp only [i1, men_Side_eq, men_Kind_eq, hb.w, N_pawn_eq hb, king_eq hb hs', jumps_eq hb, f1, f2, f3]
    generalize p.1.getD s.toNat 0 = m
    cases h0 : m == 0 with
    | true => rfl
    | false =>
      cases h1 : sideM m != p.2.1 with
      | true =>
        have : (sideM m == p.2.1) = false := by
          cases hq : sideM m == p.2.1 with
          | false => rfl
          | true => rw [bne_not, hq] at h1; cases h1
        rw [this]; rfl
      | false =>
        have h2 : sideM m = p.2.1 := by simpa using h1
        have hr : rightM m = true := by
          cases hq : rightM m with
          | true => rfl
          | false => have := side_none hq; omega
        rw [show (sideM m == p.2.1) = true by simpa using h2]
        rcases men_cases hr with rfl | rfl | rfl | rfl | rfl | rfl | rfl | rfl | rfl | rfl | rfl | rfl <;> rfl

def allL (p : PosD) : List MoveD := (List.range' 0 64).flatMap fun (s : Nat) => fromL p (s : Int)

theorem N_Each_eq {p : PosD} (hb : Bd p.1) (ht : p.2.1 = 0 ∨ p.2.1 = 1) : ∀ (d i n : Nat) (out : List MoveD), i + d = 64 → d < n → out.length ≤ 2400 * i → ∀ {S : Type} (kx : List MoveD → Option S) (kr : Option S),
    N_gen_Gen_Each_0 n (i : Int) p out kx kr = kx (out ++ (List.range' i d).flatMap fun (s : Nat) => fromL p (s : Int))
  | 0, i, n + 1, out, hi, hn, ho, S, kx, kr => by
    obtain rfl : i = 64 := by omega
    rw [N_gen_Gen_Each_0_succ]
    unfold R_gen_Gen_Each_0
    simp
  | d + 1, i, n + 1, out, hi, hn, ho, S, kx, kr => by
    obtain ⟨e1, e2, e3⟩ := scan 64 (by omega) hi
    have hf := fromL_len p (i : Int)
    rw [N_gen_Gen_Each_0_succ]
    unfold R_gen_Gen_Each_0
    rw [show decide ((i : Int) < 64) = true from e1, e3, from_eq hb ht, cond_true, show decide (out.length + (fromL p (i : Int)).length ≤ 34359738368) = true by simp; omega, cond_true]
    refine (N_Each_eq hb ht d (i + 1) n (out ++ fromL p (i : Int)) (by omega) (by omega) (by simp only [List.length_append]; omega) kx kr).trans ?_
    simp [List.range'_succ]

theorem Each_eq {p : PosD} (hb : Bd p.1) (ht : p.2.1 = 0 ∨ p.2.1 = 1) {S : Type} (k : List MoveD → Option S) : F_gen_Gen_Each p k = k (allL p) := by
  unfold F_gen_Gen_Each R_gen_Gen_Each
  rw [L_gen_Gen_Each_0_N, show (0 : Int) = ((0 : Nat) : Int) from rfl, N_Each_eq hb ht 64 0 _ [] rfl (by omega) (by simp)]
  rfl

theorem All_eq {p : PosD} (hb : Bd p.1) {S : Type} (k : List MoveD → Option S) : F_gen_Gen_All p k = k (bif wrongP p == 0 then allL p else []) := by
  unfold F_gen_Gen_All R_gen_Gen_All F_gen_Gen_right R_gen_Gen_right
  simp only [pos_Wrong_eq hb]
  cases hw : wrongP p == 0 with
  | false => rfl
  | true => simp only [Bool.not_true, cond_false, cond_true, Each_eq hb (wrong_turn (by simpa using hw))]

end Go.Proofs.YtaldkopkfdgngaaGreatDoor

