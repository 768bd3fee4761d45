/- Plain laws: boards, rays, who strikes. -/
import Derived.Test.YteeiccpbiniljaaGreatDoorL2
import Derived.KernelRfl
set_option linter.all false
set_option maxRecDepth 100000
namespace Go.Proofs.YteeiccpbiniljaaGreatDoor
open Go Am

theorem scan (N : Nat) (hN : N ≤ 1000) {i d : Nat} (h : i + (d + 1) = N) : decide ((i : Int) < (N : Int)) = true ∧ inB (i : Int) N = true ∧ IntKind.wrap .i64 ((i : Int) + 1) = ((i + 1 : Nat) : Int) :=
  ⟨by simp; omega, inB_true (by omega), by rw [w64 (by omega)]; rfl⟩

/-! ### boards -/
def rightB (b : List Int) : Bool := b.all fun m => m == 0 || rightM m

theorem N_board_Right_0_eq {b : List Int} (hb : Bd b) : ∀ (d i n : Nat), i + d = 64 → d < n → ∀ {S : Type} (kx : Option S) (kr : Bool → Option S), N_board_Right_0 n b (i : Int) kx kr = bif rightB (b.drop i) then kx else kr false
  | 0, i, n + 1, hi, hn, S, kx, kr => by
    obtain rfl : i = 64 := by omega
    rw [N_board_Right_0_succ]
    unfold R_board_Right_0 rightB
    rw [List.drop_eq_nil_of_le (by rw [hb.1]; exact Nat.le_refl _)]
    rfl
  | d + 1, i, n + 1, hi, hn, S, kx, kr => by
    obtain ⟨e1, e2, e3⟩ := scan 64 (by omega) hi
    rw [N_board_Right_0_succ]
    unfold R_board_Right_0 rightB
    simp only [e2, e3, cond_true, men_Right_eq, Int.toNat_natCast, hb.w, N_board_Right_0_eq hb d (i + 1) n (by omega) (by omega)]
    rw [show decide ((i : Int) < 64) = true from e1, drop_cons (b := b) (i := i) (by rw [hb.1]; omega)]
    simp only [cond_true, List.all_cons]
    rw [show (b.getD i 0 != 0) = !(b.getD i 0 == 0) from rfl]
    cases b.getD i 0 == 0 <;> cases rightM (b.getD i 0) <;> rfl

theorem board_Right_eq {b : List Int} (hb : Bd b) {S : Type} (k : Bool → Option S) : F_board_Right b k = k (rightB b) := by
  unfold F_board_Right R_board_Right
  rw [L_board_Right_0_N, show (0 : Int) = ((0 : Nat) : Int) from rfl, N_board_Right_0_eq hb 64 0 _ rfl (by omega)]
  simp only [List.drop_zero]
  cases rightB b <;> rfl

theorem countP_step {α : Type} (p : α → Bool) (a : α) (l : List α) : (a :: l).countP p = bif p a then l.countP p + 1 else l.countP p := by
  rw [List.countP_cons]; cases p a <;> simp

/-- Does a man count? -/
def isM (kind side m : Int) : Bool := rightM m && (sideM m == side && (kind == 0 || kindM m == kind))
def manyB (b : List Int) (kind side : Int) : Int := (b.countP (isM kind side) : Nat)

theorem N_board_Many_0_eq {b : List Int} (hb : Bd b) (kind side : Int) : ∀ (d i n c : Nat), i + d = 64 → d < n → c ≤ i → ∀ {S : Type} (kx : Int → Option S) (kr : Option S), N_board_Many_0 n kind side (c : Int) b (i : Int) kx kr = kx (((c + (b.drop i).countP (isM kind side) : Nat)) : Int)
  | 0, i, n + 1, c, hi, hn, hc, S, kx, kr => by
    obtain rfl : i = 64 := by omega
    rw [N_board_Many_0_succ]
    unfold R_board_Many_0
    rw [List.drop_eq_nil_of_le (by rw [hb.1]; exact Nat.le_refl _)]
    rfl
  | d + 1, i, n + 1, c, hi, hn, hc, S, kx, kr => by
    obtain ⟨e1, e2, e3⟩ := scan 64 (by omega) hi
    have e4 : IntKind.wrap .i64 ((c : Int) + 1) = ((c + 1 : Nat) : Int) := by rw [w64 (by omega)]; rfl
    rw [N_board_Many_0_succ]
    unfold R_board_Many_0
    simp only [e2, e3, e4, cond_true, men_Right_eq, men_Side_eq, men_Kind_eq, Int.toNat_natCast, hb.w, N_board_Many_0_eq hb kind side d (i + 1) n c (by omega) (by omega) (by omega), N_board_Many_0_eq hb kind side d (i + 1) n (c + 1) (by omega) (by omega) (by omega)]
    rw [show decide ((i : Int) < 64) = true from e1, drop_cons (b := b) (i := i) (by rw [hb.1]; omega)]
    rw [countP_step]
    simp only [cond_true]
    rw [show isM kind side (b.getD i 0) = (rightM (b.getD i 0) && (sideM (b.getD i 0) == side && (kind == 0 || kindM (b.getD i 0) == kind))) from rfl]
    have e5 : ∀ z : Nat, c + 1 + z = c + (z + 1) := fun z => by omega
    cases rightM (b.getD i 0) <;> cases sideM (b.getD i 0) == side <;> cases kind == 0 <;> cases kindM (b.getD i 0) == kind <;> simp only [Bool.true_and, Bool.false_and, Bool.and_true, Bool.and_false, Bool.true_or, Bool.false_or, Bool.or_true, cond_true, cond_false, Nat.add_zero, e5]

theorem board_Many_eq {b : List Int} (hb : Bd b) (kind side : Int) {S : Type} (k : Int → Option S) : F_board_Many b kind side k = k (manyB b kind side) := by
  unfold F_board_Many R_board_Many
  rw [L_board_Many_0_N]
  have := N_board_Many_0_eq hb kind side 64 0 (100 + b.length) 0 rfl (by omega) (Nat.le_refl _) (fun z0 => k z0) Option.none
  simpa [manyB] using this

def rimB (b : List Int) : Bool := (List.range' 0 64).any fun s => kindM (b.getD s 0) == 1 && (rankS s == 0 || rankS s == 7)

theorem N_board_rim_0_eq {b : List Int} (hb : Bd b) : ∀ (d i n : Nat), i + d = 64 → d < n → ∀ {S : Type} (kx : Option S) (kr : Bool → Option S), N_board_rim_0 n b (i : Int) kx kr = bif (List.range' i d).any (fun s => kindM (b.getD s 0) == 1 && (rankS s == 0 || rankS s == 7)) then kr true else kx
  | 0, i, n + 1, hi, hn, S, kx, kr => by
    obtain rfl : i = 64 := by omega
    rw [N_board_rim_0_succ]
    rfl
  | d + 1, i, n + 1, hi, hn, S, kx, kr => by
    obtain ⟨e1, e2, e3⟩ := scan 64 (by omega) hi
    rw [N_board_rim_0_succ]
    unfold R_board_rim_0
    simp only [e2, e3, cond_true, men_Kind_eq, square_Rank_eq, Int.toNat_natCast, hb.w, N_board_rim_0_eq hb d (i + 1) n (by omega) (by omega)]
    rw [show decide ((i : Int) < 64) = true from e1]
    simp only [cond_true, List.range'_succ, List.any_cons]
    cases kindM (b.getD i 0) == 1 <;> cases rankS (i : Int) == 0 <;> cases rankS (i : Int) == 7 <;> simp

theorem board_rim_eq {b : List Int} (hb : Bd b) {S : Type} (k : Bool → Option S) : F_board_rim b k = k (rimB b) := by
  unfold F_board_rim R_board_rim
  rw [L_board_rim_0_N, show (0 : Int) = ((0 : Nat) : Int) from rfl, N_board_rim_0_eq hb 64 0 _ rfl (by omega)]
  unfold rimB
  cases (List.range' 0 64).any _ <;> rfl

def wrongB (b : List Int) : Int :=
  bif !rightB b then 5 else bif Ty.beq (.arr 64 (.int .i8)) b (List.replicate 64 (0 : Int)) then 6 else bif manyB b 6 0 != 1 then 6 else bif manyB b 6 1 != 1 then 6 else
  bif rimB b then 7 else bif decide (manyB b 0 0 > 16) then 8 else bif decide (manyB b 0 1 > 16) then 8 else 0

theorem board_Wrong_eq {b : List Int} (hb : Bd b) {S : Type} (k : Int → Option S) : F_board_Wrong b k = k (wrongB b) := by
  unfold F_board_Wrong R_board_Wrong wrongB
  simp only [board_Right_eq hb, board_Many_eq hb, board_rim_eq hb]
  cases rightB b <;> try rfl
  cases Ty.beq (.arr 64 (.int .i8)) b (List.replicate 64 (0 : Int)) <;> try rfl
  cases manyB b 6 0 != 1 <;> try rfl
  cases manyB b 6 1 != 1 <;> try rfl
  cases rimB b <;> try rfl
  cases decide (manyB b 0 0 > 16) <;> try rfl
  cases decide (manyB b 0 1 > 16) <;> rfl

/-- Where a man first stands. -/
def whereB (b : List Int) (k : Int) : Option Nat := (List.range' 0 64).find? fun s => b.getD s 0 == k
def kingB (b : List Int) (side : Int) : Int := bif makeM 6 side != 0 then (match whereB b (makeM 6 side) with | some s => (s : Int) | none => -1) else -1

theorem N_board_King_0_eq {b : List Int} (hb : Bd b) (m : Int) : ∀ (d i n : Nat), i + d = 64 → d < n → ∀ {S : Type} (kx : Option S) (kr : Int → Option S), N_board_King_0 n m b (i : Int) kx kr = bif m != 0 then (match (List.range' i d).find? (fun s => b.getD s 0 == m) with | some s => kr (s : Int) | none => kx) else kx
  | 0, i, n + 1, hi, hn, S, kx, kr => by
    obtain rfl : i = 64 := by omega
    rw [N_board_King_0_succ]
    unfold R_board_King_0
    cases m != 0 <;> rfl
  | d + 1, i, n + 1, hi, hn, S, kx, kr => by
    obtain ⟨e1, e2, e3⟩ := scan 64 (by omega) hi
    rw [N_board_King_0_succ]
    unfold R_board_King_0
    simp only [e2, e3, cond_true, Int.toNat_natCast, hb.w, N_board_King_0_eq hb m d (i + 1) n (by omega) (by omega)]
    rw [show decide ((i : Int) < 64) = true from e1]
    simp only [cond_true, List.range'_succ, List.find?_cons]
    cases m != 0 <;> cases b.getD i 0 == m <;> rfl

theorem board_King_eq {b : List Int} (hb : Bd b) (side : Int) {S : Type} (k : Int → Option S) : F_board_King b side k = k (kingB b side) := by
  unfold F_board_King R_board_King
  simp only [men_Make_eq]
  rw [L_board_King_0_N, show (0 : Int) = ((0 : Nat) : Int) from rfl, N_board_King_0_eq hb _ 64 0 _ rfl (by omega)]
  unfold kingB whereB
  cases makeM 6 side != 0 with
  | false => rfl
  | true =>
    simp only [cond_true]
    cases (List.range' 0 64).find? _ <;> rfl

theorem pos_touch_eq {p : PosD} (hb : Bd p.1) {S : Type} (k : Bool → Option S) : F_pos_touch p k = k (decide (farS (kingB p.1 0) (kingB p.1 1) ≤ 1)) := by
  unfold F_pos_touch R_pos_touch
  simp only [board_King_eq hb, square_Far_eq]

end Go.Proofs.YteeiccpbiniljaaGreatDoor
