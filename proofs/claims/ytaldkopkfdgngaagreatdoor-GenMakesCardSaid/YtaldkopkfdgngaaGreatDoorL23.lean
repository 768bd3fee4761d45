/- Plain laws: the moves of a square, all moves. -/
import Derived.Test.YtaldkopkfdgngaaGreatDoorL22
import Derived.KernelRfl
set_option linter.all false
set_option maxRecDepth 100000
namespace Go.Proofs.YtaldkopkfdgngaaGreatDoor
open Go Am

theorem N_pawn_eq {p : PosD} (hb : Bd p.1) (s : Int) {S : Type} (k : List Int → Option S) : F_gen_Gen_pawn p s k = k (pawnL p s) := by
  have hst : (stepL p s).length ≤ 2 := by
    unfold stepL
    cases stepS s 0 (aheadT p.2.1) with
    | none => simp
    | some a =>
      simp only
      cases p.1.getD a.toNat 0 != 0 with
      | true => simp
      | false =>
        simp only [cond_false]
        cases stepS s 0 (2 * aheadT p.2.1) with
        | none => simp
        | some b => simp only; cases p.1.getD b.toNat 0 != 0 <;> cases rankS s != secondT p.2.1 <;> simp
  have hl := strikesL_len p.1 s
  have hsq : ∀ t ∈ strikesL p.1 s, 0 ≤ t ∧ t < 64 := by
    intro t ht
    unfold strikesL at ht
    cases hq : rightS s && rightB p.1 && !(p.1.getD s.toNat 0 == 0) with
    | false => rw [hq] at ht; cases ht
    | true =>
      rw [hq] at ht
      have ht' := (sort_perm _).mem_iff.1 ht
      unfold alongS at ht'
      obtain ⟨y, _, hy⟩ := List.mem_flatMap.1 ht'
      exact walkS_right _ _ _ _ _ (scanS_mem _ _ _ hy)
  unfold F_gen_Gen_pawn R_gen_Gen_pawn
  rw [ranks_eq, pawn_0_eq]
  simp only [pos_Passed_eq hb, Strikes_eq hb]
  have key : ∀ z : Bool, z = (passedP p).isSome → L_gen_Gen_pawn_2 z (((strikesL p.1 s).length : Nat) : Int) 0 p (stepL p s) (strikesL p.1 s) (fun z8 => k z8) Option.none = k (pawnL p s) := by
    rintro z rfl
    rw [L_gen_Gen_pawn_2_N, show (0 : Int) = ((0 : Nat) : Int) from rfl, N_pawn_2_eq hb _ hsq (by omega) _ 0 _ _ (Nat.zero_add _) (by omega) (by omega), List.drop_zero]
    rfl
  cases hp : passedP p with
  | none => exact key false (by rw [hp]; rfl)
  | some x => exact key true (by rw [hp]; rfl)

def turnedL (p : PosD) (m : MoveD) : List MoveD :=
  bif kindM (atM p m.1) != 1 then [m] else bif rankS m.2.1 != 0 && rankS m.2.1 != 7 then [m] else [(m.1, m.2.1, 5, ()), (m.1, m.2.1, 4, ()), (m.1, m.2.1, 3, ()), (m.1, m.2.1, 2, ())]
theorem turned_0_eq (m : MoveD) {S : Type} (kx : List MoveD → Option S) (kr : Option S) : L_gen_turned_0 5 m [] kx kr = kx [(m.1, m.2.1, 5, ()), (m.1, m.2.1, 4, ()), (m.1, m.2.1, 3, ()), (m.1, m.2.1, 2, ())] := by kernel_rfl
theorem gen_turned_eq {p : PosD} (hb : Bd p.1) (m : MoveD) (hm : 0 ≤ m.1 ∧ m.1 < 64) {S : Type} (k : List MoveD → Option S) : F_gen_turned p m k = k (turnedL p m) := by
  unfold F_gen_turned R_gen_turned turnedL atM
  simp only [square_Rank_eq, men_Kind_eq, hb.w, inB_true (n := 64) hm, cond_true, turned_0_eq]
  cases kindM (p.1.getD m.1.toNat 0) != 1 <;> cases rankS m.2.1 != 0 <;> cases rankS m.2.1 != 7 <;> rfl
theorem turnedL_len (p : PosD) (m : MoveD) : (turnedL p m).length ≤ 4 := by
  unfold turnedL
  cases kindM (atM p m.1) != 1 <;> cases rankS m.2.1 != 0 && rankS m.2.1 != 7 <;> simp

def movesL (p : PosD) (s : Int) (l : List Int) : List MoveD := l.flatMap fun t => turnedL p (s, t, 0, ())
theorem movesL_len (p : PosD) (s : Int) : ∀ l : List Int, (movesL p s l).length ≤ 4 * l.length
  | [] => by simp [movesL]
  | t :: l => by
    have h1 := movesL_len p s l
    have h2 := turnedL_len p (s, t, 0, ())
    unfold movesL at h1 ⊢
    simp only [List.flatMap_cons, List.length_append, List.length_cons]
    omega

theorem N_from_0_eq {p : PosD} (hb : Bd p.1) {s : Int} (hs : 0 ≤ s ∧ s < 64) (l : List Int) (hll : l.length ≤ 1000) : ∀ (d i n : Nat) (out : List MoveD), i + d = l.length → d < n → out.length + 4 * d ≤ 10000 → ∀ {S : Type} (kx : List MoveD → Option S) (kr : Option S),
    N_gen_Gen_from_0 n s ((l.length : Nat) : Int) (i : Int) p out l kx kr = kx (out ++ movesL p s (l.drop i))
  | 0, i, n + 1, out, hi, hn, ho, S, kx, kr => by
    rw [N_gen_Gen_from_0_succ]
    unfold R_gen_Gen_from_0
    rw [show decide ((i : Int) < ((l.length : Nat) : Int)) = false by simp; omega, List.drop_eq_nil_of_le (by omega)]
    simp [movesL]
  | d + 1, i, n + 1, out, hi, hn, ho, S, kx, kr => by
    obtain ⟨e1, e2, e3⟩ := scan l.length (by omega) hi
    have ht := turnedL_len p (s, l.getD i 0, 0, ())
    rw [N_gen_Gen_from_0_succ]
    unfold R_gen_Gen_from_0
    simp only [e1, e2, e3, cond_true, Int.toNat_natCast, gen_turned_eq hb (s, l.getD i 0, 0, ()) hs, big_ok (show out.length + (turnedL p (s, l.getD i 0, 0, ())).length ≤ 100000 by omega),
      N_from_0_eq hb hs l hll d (i + 1) n (out ++ turnedL p (s, l.getD i 0, 0, ())) (by omega) (by omega) (by simp only [List.length_append]; omega)]
    rw [drop_cons (b := l) (i := i) (by omega)]
    unfold movesL
    simp

def toL (p : PosD) (s : Int) : List Int := bif kindM (p.1.getD s.toNat 0) == 1 then pawnL p s else bif kindM (p.1.getD s.toNat 0) == 6 then kingL p s else jumpsL p s
/-- The moves of a square. -/
def fromL (p : PosD) (s : Int) : List MoveD := bif rightS s && (!(p.1.getD s.toNat 0 == 0) && sideM (p.1.getD s.toNat 0) == p.2.1) then movesL p s (sortL (toL p s)) else []

end Go.Proofs.YtaldkopkfdgngaaGreatDoor

