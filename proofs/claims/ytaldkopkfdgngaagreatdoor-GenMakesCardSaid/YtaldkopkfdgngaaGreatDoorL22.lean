/- Plain laws: where men go: kings, pawns, all. -/
import Derived.Test.YtaldkopkfdgngaaGreatDoorL21
set_option linter.all false
set_option maxRecDepth 100000
namespace Go.Proofs.YtaldkopkfdgngaaGreatDoor
open Go Am

theorem big_ok {n : Nat} (h : n ≤ 100000) : decide (n ≤ 34359738368) = true := by simp; omega

theorem bigS (out : List Int) (x : Int) (h : out.length ≤ 10000) : decide (out.length + (List.set (List.replicate 1 (0 : Int)) 0 x).length ≤ 34359738368) = true := by simp; omega

def castlesQ (p : PosD) (m : MoveD) : Bool := wrongP p == 0 && (formedP p m && castleP p m != 0)
def kingT (p : PosD) (s t : Int) : Bool := rightS t && castlesQ p (s, t, 0, ())
def kingL (p : PosD) (s : Int) : List Int := jumpsL p s ++ [s + 2, s - 2].filter (kingT p s)
theorem jumpsL_len (p : PosD) (s : Int) : (jumpsL p s).length ≤ 512 := Nat.le_trans (List.length_filter_le _ _) (strikesL_len _ _)

theorem king_step {p : PosD} (hb : Bd p.1) (s a b : Int) (i : Nat) (hi : i < 2) (out : List Int) (ho : out.length ≤ 1000) (n : Nat) {S : Type} (kx : List Int → Option S) (kr : Option S) :
    N_gen_Gen_king_0 (n + 1) s [a, b] (i : Int) p out kx kr = N_gen_Gen_king_0 n s [a, b] ((i + 1 : Nat) : Int) p (out ++ [([a, b] : List Int).getD i 0].filter (kingT p s)) kx kr := by
  have e1 : decide ((i : Int) < 2) = true := by simp; omega
  have e2 : inB (i : Int) 2 = true := inB_true (by omega)
  have e3 : IntKind.wrap .i64 ((i : Int) + 1) = ((i + 1 : Nat) : Int) := by rw [w64 (by omega)]; rfl
  rw [N_gen_Gen_king_0_succ]
  unfold R_gen_Gen_king_0
  simp only [e1, e2, e3, cond_true, Int.toNat_natCast, square_Right_eq, move_Castles_eq hb, bigS out _ (show out.length ≤ 10000 by omega)]
  simp only [one_set, cond_true]
  generalize ([a, b] : List Int).getD i 0 = t
  unfold kingT castlesQ
  simp only [List.filter_cons, List.filter_nil]
  cases rightS t <;> cases (wrongP p == 0 && (formedP p (s, t, 0, ()) && castleP p (s, t, 0, ()) != 0)) <;> simp

theorem king_eq {p : PosD} (hb : Bd p.1) {s : Int} (hs : 0 ≤ s ∧ s < 64) {S : Type} (k : List Int → Option S) : F_gen_Gen_king p s k = k (kingL p s) := by
  have hl := jumpsL_len p s
  unfold F_gen_Gen_king R_gen_Gen_king
  rw [jumps_eq hb, w64 (x := s + 2) (by omega), w64 (x := s - 2) (by omega), L_gen_Gen_king_0_N]
  rw [show (0 : Int) = ((0 : Nat) : Int) from rfl, show 100 + ([s + 2, s - 2] : List Int).length + (jumpsL p s).length = ((99 + ([s + 2, s - 2] : List Int).length + (jumpsL p s).length - 1) + 1) + 1 by simp; omega,
    king_step hb s _ _ 0 (by omega) _ (by omega), king_step hb s _ _ 1 (by omega) _ (by
      have := List.length_filter_le (kingT p s) [([s + 2, s - 2] : List Int).getD 0 0]
      simp only [List.length_append]; simp at this; simp; omega)]
  obtain ⟨n, hn⟩ : ∃ n, 99 + ([s + 2, s - 2] : List Int).length + (jumpsL p s).length - 1 = n + 1 := ⟨99 + ([s + 2, s - 2] : List Int).length + (jumpsL p s).length - 2, by simp; omega⟩
  rw [hn, N_gen_Gen_king_0_succ]
  unfold R_gen_Gen_king_0
  rw [show decide ((((0 + 1 : Nat) + 1 : Nat) : Int) < 2) = false by decide]
  simp only [cond_false]
  congr 1
  unfold kingL
  rw [List.append_assoc, ← List.filter_append]
  rfl

def aheadT (t : Int) : Int := bif t == 0 then 1 else -1
def secondT (t : Int) : Int := bif t == 0 then 1 else 6
theorem ranks_eq (t : Int) {S : Type} (k : Int → Int → Option S) : F_gen_ranks t k = k (aheadT t) (secondT t) := by
  unfold F_gen_ranks R_gen_ranks aheadT secondT
  cases t == 0 <;> rfl
/-- One step ahead, or two. -/
def stepL (p : PosD) (s : Int) : List Int :=
  match stepS s 0 (aheadT p.2.1) with
  | none => []
  | some a => bif p.1.getD a.toNat 0 != 0 then [] else a :: (match stepS s 0 (2 * aheadT p.2.1) with
    | none => []
    | some b => bif p.1.getD b.toNat 0 != 0 then [] else bif rankS s != secondT p.2.1 then [] else [b])

theorem pawn_0_eq (p : PosD) (s : Int) {S : Type} (kx : Int → PosD → List Int → Option S) (kr : Option S) : L_gen_Gen_pawn_0 s (aheadT p.2.1) (secondT p.2.1) 1 p [] kx kr = kx s p (stepL p s) := by
  have ha : aheadT p.2.1 = 1 ∨ aheadT p.2.1 = -1 := by unfold aheadT; cases p.2.1 == 0 <;> simp
  have e1 : IntKind.wrap .i64 (1 * aheadT p.2.1) = aheadT p.2.1 := by rw [w64 (by omega)]; omega
  have e2 : IntKind.wrap .i64 (2 * aheadT p.2.1) = 2 * aheadT p.2.1 := w64 (by omega)
  rw [L_gen_Gen_pawn_0_N, show 100 + ([] : List Int).length = 99 + 1 from rfl, N_gen_Gen_pawn_0_succ]
  unfold R_gen_Gen_pawn_0 stepL
  simp only [e1, square_Step_eq, show decide ((1 : Int) ≤ 2) = true from rfl, cond_true, show ((1 : Int) == 2) = false from rfl, cond_false, one_set]
  cases h1 : stepS s 0 (aheadT p.2.1) with
  | none => rfl
  | some a =>
    have i1 : inB a 64 = true := inB_true (stepS_right h1)
    simp only [Bool.not_true, cond_false, i1, cond_true]
    cases p.1.getD a.toNat 0 != 0 with
    | true => rfl
    | false =>
      change N_gen_Gen_pawn_0 (98 + 1) s (aheadT p.2.1) (secondT p.2.1) 2 p [a] kx kr = kx s p (a :: _)
      rw [N_gen_Gen_pawn_0_succ]
      unfold R_gen_Gen_pawn_0
      simp only [e2, square_Step_eq, show decide ((2 : Int) ≤ 2) = true from rfl, cond_true, show ((2 : Int) == 2) = true from rfl, one_set, square_Rank_eq]
      cases h2 : stepS s 0 (2 * aheadT p.2.1) with
      | none => rfl
      | some b =>
        have i2 : inB b 64 = true := inB_true (stepS_right h2)
        simp only [Bool.not_true, cond_false, i2, cond_true]
        cases p.1.getD b.toNat 0 != 0 with
        | true => rfl
        | false =>
          simp only [cond_false]
          cases rankS s != secondT p.2.1 with
          | true => rfl
          | false =>
            change N_gen_Gen_pawn_0 (97 + 1) s (aheadT p.2.1) (secondT p.2.1) 3 p [a, b] kx kr = kx s p [a, b]
            rw [N_gen_Gen_pawn_0_succ]
            rfl

def pawnT (p : PosD) (t : Int) : Bool := (p.1.getD t.toNat 0 != 0 && openP p t) || ((passedP p).isSome && t == p.2.2.2.1)
def pawnL (p : PosD) (s : Int) : List Int := stepL p s ++ (strikesL p.1 s).filter (pawnT p)

theorem N_pawn_2_eq {p : PosD} (hb : Bd p.1) (l : List Int) (hl : ∀ t ∈ l, 0 ≤ t ∧ t < 64) (hll : l.length ≤ 1000) : ∀ (d i n : Nat) (out : List Int), i + d = l.length → d < n → out.length + d ≤ 10000 → ∀ {S : Type} (kx : List Int → Option S) (kr : Option S),
    N_gen_Gen_pawn_2 n (passedP p).isSome ((l.length : Nat) : Int) (i : Int) p out l kx kr = kx (out ++ (l.drop i).filter (pawnT p))
  | 0, i, n + 1, out, hi, hn, ho, S, kx, kr => by
    rw [N_gen_Gen_pawn_2_succ]
    unfold R_gen_Gen_pawn_2
    rw [show decide ((i : Int) < ((l.length : Nat) : Int)) = false by simp; omega, List.drop_eq_nil_of_le (by omega)]
    simp
  | d + 1, i, n + 1, out, hi, hn, ho, S, kx, kr => by
    obtain ⟨e1, e2, e3⟩ := scan l.length (by omega) hi
    have ht : 0 ≤ l.getD i 0 ∧ l.getD i 0 < 64 := by
      rw [List.getD_eq_getElem?_getD, List.getElem?_eq_getElem (by omega)]
      exact hl _ (List.getElem_mem _)
    have i1 : inB (l.getD i 0) 64 = true := inB_true ht
    rw [N_gen_Gen_pawn_2_succ]
    unfold R_gen_Gen_pawn_2
    simp only [e1, e2, e3, i1, cond_true, Int.toNat_natCast, gen_open_eq hb, bigS out _ (show out.length ≤ 10000 by omega), N_pawn_2_eq hb l hl hll d (i + 1) n out (by omega) (by omega) (by omega)]
    simp only [one_set, cond_true, N_pawn_2_eq hb l hl hll d (i + 1) n (out ++ [l.getD i 0]) (by omega) (by omega) (by simp; omega)]
    rw [drop_cons (b := l) (i := i) (by omega), List.filter_cons]
    unfold pawnT
    cases p.1.getD (l.getD i 0).toNat 0 != 0 <;> cases openP p (l.getD i 0) <;> cases (passedP p).isSome <;> cases l.getD i 0 == p.2.2.2.1 <;> simp

end Go.Proofs.YtaldkopkfdgngaaGreatDoor

