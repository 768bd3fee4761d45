/- Plain laws: the document's answer: pawns, what is struck. -/
import Derived.Test.YtaldkopkfdgngaaGreatDoorL27
set_option linter.all false
set_option maxRecDepth 100000
namespace Go.Proofs.YtaldkopkfdgngaaGreatDoor
open Go Am

def upT (t : Int) : Int := bif t == 1 then -8 else 8
def firstR (p : PosD) (m : MoveD) : Bool := (ofM (atM p m.1) m.1).any (fun l => l.getD 0 0 == m.2.1)
def stepR2 (p : PosD) (m : MoveD) : Bool := atM p m.2.1 == 0 && (m.2.1 == m.1 + upT p.2.1 || (m.2.1 == m.1 + 2 * upT p.2.1 && (rankS m.1 == secondT p.2.1 && atM p (m.1 + upT p.2.1) == 0)))
/-- Does a pawn go so? -/
def pawnR (p : PosD) (m : MoveD) : Bool := stepR2 p m || (firstR p m && decide (takesP p m ≥ 0))

theorem drop_consL {l : List (List Int)} {i : Nat} (h : i < l.length) : l.drop i = l.getD i [] :: l.drop (i + 1) := by
  rw [List.drop_eq_getElem_cons h, List.getD_eq_getElem?_getD, List.getElem?_eq_getElem h]; rfl
theorem getD_memL {l : List (List Int)} {i : Nat} (h : i < l.length) : l.getD i [] ∈ l := by
  rw [List.getD_eq_getElem?_getD, List.getElem?_eq_getElem h]; exact List.getElem_mem _

theorem ofM_ne {m s : Int} : ∀ l ∈ ofM m s, 0 < l.length := by
  intro l hl
  unfold ofM at hl
  cases hm : rightM m with
  | false => rw [hm] at hl; cases hl
  | true =>
    rw [hm] at hl
    simp only [cond_true, ofS, List.mem_filter] at hl
    obtain ⟨_, h2⟩ := hl
    cases l with
    | nil => cases h2
    | cons => simp

theorem N_ref10_pawn_0_eq {p : PosD} {m : MoveD} (h : Sq p m) (rays : List (List Int)) (hr : ∀ l ∈ rays, 0 < l.length) (hrl : rays.length ≤ 64) : ∀ (d i n : Nat), i + d = rays.length → d < n → ∀ {S : Type} (kx : Option S) (kr : Bool → Option S),
    N_ref10_pawn_0 n (i : Int) p m rays kx kr = bif (rays.drop i).any (fun l => l.getD 0 0 == m.2.1) then kr (decide (takesP p m ≥ 0)) else kx
  | 0, i, n + 1, hi, hn, S, kx, kr => by
    rw [N_ref10_pawn_0_succ]
    unfold R_ref10_pawn_0
    rw [show decide ((i : Int) < ((rays.length : Nat) : Int)) = false by simp; omega, List.drop_eq_nil_of_le (by omega)]
    rfl
  | d + 1, i, n + 1, hi, hn, S, kx, kr => by
    obtain ⟨e1, e2, e3⟩ := scan rays.length (by omega) hi
    have i0 : inB 0 (rays.getD i []).length = true := inB_true (by have := hr _ (getD_memL (l := rays) (i := i) (by omega)); omega)
    have ih := N_ref10_pawn_0_eq h rays hr hrl d (i + 1) n (by omega) (by omega) kx kr
    rw [N_ref10_pawn_0_succ]
    unfold R_ref10_pawn_0
    simp only [e1, e2, e3, cond_true, Int.toNat_natCast, i0, ref09_Takes_eq h, ih]
    rw [drop_consL (l := rays) (i := i) (by omega), List.any_cons]
    cases (rays.getD i []).getD 0 0 == m.2.1 <;> rfl

theorem rank_second {s t : Int} (hs : 0 ≤ s ∧ s < 64) (ht : t = 0 ∨ t = 1) (h : (rankS s == secondT t) = true) : 0 ≤ s + upT t ∧ s + upT t < 64 := by
  have h' : rankS s = secondT t := by simpa using h
  rw [rankS_of hs] at h'
  rcases ht with rfl | rfl
  · have e1 : secondT 0 = 1 := rfl
    have e2 : upT 0 = 8 := rfl
    rw [e1] at h'; rw [e2]; omega
  · have e1 : secondT 1 = 6 := rfl
    have e2 : upT 1 = -8 := rfl
    rw [e1] at h'; rw [e2]; omega

theorem ref10_pawn_eq {p : PosD} {m : MoveD} (h : Sq p m) {S : Type} (k : Bool → Option S) : F_ref10_pawn p m k = k (pawnR p m) := by
  have b1 := rightS_iff.1 h.fr
  have b2 := rightS_iff.1 h.to
  have hin : ∀ (kx : Option S) (kr : Bool → Option S), L_ref10_pawn_0 0 p m (ofM (atM p m.1) m.1) kx kr = bif firstR p m then kr (decide (takesP p m ≥ 0)) else kx := by
    intro kx kr
    have hl := (ofM_len (m := atM p m.1) (s := m.1)).1
    rw [L_ref10_pawn_0_N]
    exact N_ref10_pawn_0_eq h (ofM (atM p m.1) m.1) ofM_ne hl (ofM (atM p m.1) m.1).length 0 _ (Nat.zero_add _) (by omega) kx kr
  have hlast : ∀ (k : Bool → Option S), F_ref06_Of (IntKind.wrap .i64 (p.1.getD m.1.toNat 0)) m.1 (fun z => L_ref10_pawn_0 0 p m z (k false) (fun z2 => k z2)) = k (firstR p m && decide (takesP p m ≥ 0)) := by
    intro k
    rw [h.bd.w, ref06_Of_eq b1, show p.1.getD m.1.toNat 0 = atM p m.1 from rfl, hin]
    cases firstR p m <;> rfl
  unfold F_ref10_pawn R_ref10_pawn pawnR stepR2
  rw [inB_true (n := 64) b1, inB_true (n := 64) b2]
  simp only [cond_true, hlast, ref01_Rank_eq]
  rw [show p.1.getD m.2.1.toNat 0 = atM p m.2.1 from rfl]
  rcases h.turn with ht | ht
  · have e1 : IntKind.wrap .i64 (m.1 + 8) = m.1 + upT p.2.1 := by rw [ht, w64 (by omega)]; rfl
    have e2 : IntKind.wrap .i64 (m.1 + 16) = m.1 + 2 * upT p.2.1 := by rw [ht, w64 (by omega)]; rfl
    have e3 : secondT p.2.1 = 1 := by rw [ht]; rfl
    have hrk := rank_second b1 h.turn
    rw [show (p.2.1 == 1) = false by rw [ht]; rfl, e1, e2, show p.1.getD (m.1 + upT p.2.1).toNat 0 = atM p (m.1 + upT p.2.1) from rfl]
    rw [e3] at hrk ⊢
    cases atM p m.2.1 == 0 with
    | false => rfl
    | true =>
      cases m.2.1 == m.1 + upT p.2.1 with
      | true => rfl
      | false =>
        cases m.2.1 == m.1 + 2 * upT p.2.1 with
        | false => rfl
        | true =>
          cases hq : rankS m.1 == 1 with
          | false => rfl
          | true =>
            rw [inB_true (n := 64) (hrk hq)]
            cases atM p (m.1 + upT p.2.1) == 0 <;> rfl
  · have e1 : IntKind.wrap .i64 (m.1 + -8) = m.1 + upT p.2.1 := by rw [ht, w64 (by omega)]; rfl
    have e2 : IntKind.wrap .i64 (m.1 + -16) = m.1 + 2 * upT p.2.1 := by rw [ht, w64 (by omega)]; rfl
    have e3 : secondT p.2.1 = 6 := by rw [ht]; rfl
    have hrk := rank_second b1 h.turn
    rw [show (p.2.1 == 1) = true by rw [ht]; rfl, e1, e2, show p.1.getD (m.1 + upT p.2.1).toNat 0 = atM p (m.1 + upT p.2.1) from rfl]
    rw [e3] at hrk ⊢
    cases atM p m.2.1 == 0 with
    | false => rfl
    | true =>
      cases m.2.1 == m.1 + upT p.2.1 with
      | true => rfl
      | false =>
        cases m.2.1 == m.1 + 2 * upT p.2.1 with
        | false => rfl
        | true =>
          cases hq : rankS m.1 == 6 with
          | false => rfl
          | true =>
            rw [inB_true (n := 64) (hrk hq)]
            cases atM p (m.1 + upT p.2.1) == 0 <;> rfl

end Go.Proofs.YtaldkopkfdgngaaGreatDoor

