/- Plain laws: the document's answer: pawns, what is struck. -/
import Derived.Test.YtaldkopkfdgngaaGreatDoorL27
set_option linter.all false
set_option maxRecDepth 100000
namespace Go.Proofs.YtaldkopkfdgngaaGreatDoor
open Go Am

def upT (t : Int) : Int := bif t == 1 then -8 else 8
def firstR (p : PosD) (m : MoveD) : Bool := (ofM (atM p m.1) m.1).any (fun l => l.getD 0 0 == m.2.1)
def stepR2 (p : PosD) (m : MoveD) : Bool := atM p m.2.1 == 0 && (m.2.1 == m.1 + upT p.2.1 || (m.2.1 == m.1 + 2 * upT p.2.1 && (rankS m.1 == secondT p.2.1 && atM p (m.1 + upT p.2.1) == 0)))
/-- Does a pawn go so? -/
def pawnR (p : PosD) (m : MoveD) : Bool := stepR2 p m || (firstR p m && decide (takesP p m ≥ 0))

theorem drop_consL {l : List (List Int)} {i : Nat} (h : i < l.length) : l.drop i = l.getD i [] :: l.drop (i + 1) := by
  rw [List.drop_eq_getElem_cons h, List.getD_eq_getElem?_getD, List.getElem?_eq_getElem h]; rfl
theorem getD_memL {l : List (List Int)} {i : Nat} (h : i < l.length) : l.getD i [] ∈ l := by
  rw [List.getD_eq_getElem?_getD, List.getElem?_eq_getElem h]; exact List.getElem_mem _

theorem ofM_ne {m s : Int} : ∀ l ∈ ofM m s, 0 < l.length := by
  intro l hl
  unfold ofM at hl
  cases hm : rightM m with
  | false => rw [hm] at hl; cases hl
  | true =>
    rw [hm] at hl
    simp only [cond_true, ofS, List.mem_filter] at hl
    obtain ⟨_, h2⟩ := hl
    cases l with
    | nil => cases h2
    | cons => simp

theorem N_ref10_pawn_0_eq {p : PosD} {m : MoveD} (h : Sq p m) (rays : List (List Int)) (hr : ∀ l ∈ rays, 0 < l.length) (hrl : rays.length ≤ 64) : ∀ (d i n : Nat), i + d = rays.length → d < n → ∀ {S : Type} (kx : Option S) (kr : Bool → Option S),
    N_ref10_pawn_0 n (i : Int) p m rays kx kr = bif (rays.drop i).any (fun l => l.getD 0 0 == m.2.1) then kr (decide (takesP p m ≥ 0)) else kx
  | 0, i, n + 1, hi, hn, S, kx, kr => by
    rw [N_ref10_pawn_0_succ]
    unfold R_ref10_pawn_0
    rw [show decide ((i : Int) < ((rays.length : Nat) : Int)) = false by simp; omega, List.drop_eq_nil_of_le (by omega)]
    rfl
  | d + 1, i, n + 1, hi, hn, S, kx, kr => by
    obtain ⟨e1, e2, e3⟩ := scan rays.length (by omega) hi
    have i0 : inB 0 (rays.getD i []).length = true := inB_true (by have := hr _ (getD_memL (l := rays) (i := i) (by omega)); omega)
    have ih := N_ref10_pawn_0_eq h rays hr hrl d (i + 1) n (by omega) (by omega) kx kr
    rw [N_ref10_pawn_0_succ]
    unfold R_ref10_pawn_0
    simp only [e1, e2, e3, cond_true, Int.toNat_natCast, i0, ref09_Takes_eq h, ih]
    rw [drop_consL (l := rays) (i := i) (by omega), List.any_cons]
    cases (rays.getD i []).getD 0 0 == m.2.1 <;> rfl

theorem rank_second {s t : Int} (hs : 0 ≤ s ∧ s < 64) (ht : t = 0 ∨ t = 1) (h : (rankS s == secondT t) = true) : 0 ≤ s + upT t ∧ s + upT t < 64 := by
  have h' : rankS s = secondT t := by simpa using h
  rw [rankS_of hs] at h'
  rcases ht with rfl | rfl
  · have e1 : secondT 0 = 1 := rfl
    have e2 : upT 0 = 8 := rfl
    rw [e1] at h'; rw [e2]; omega
  · have e1 : secondT 1 = 6 := rfl
    have e2 : upT 1 = -8 := rfl
    rw [e1] at h'; rw [e2]; omega

theorem ref10_pawn_eq {p : PosD} {m : MoveD} (h : Sq p m) {S : Type} (k : Bool → Option S) : F_ref10_pawn p m k = k (pawnR p m) := by
  have b1 := rightS_iff.1 h.fr
  have b2 := rightS_iff.1 h.to
  have hin : ∀ (kx : Option S) (kr : Bool → Option S), L_ref10_pawn_0 0 p m (ofM (atM p m.1) m.1) kx kr = bif firstR p m then kr (decide (takesP p m ≥ 0)) else kx := by
    intro kx kr
    have hl := (ofM_len (m := atM p m.1) (s := m.1)).1
    rw [L_ref10_pawn_0_N]
    exact N_ref10_pawn_0_eq h (ofM (atM p m.1) m.1) ofM_ne hl (ofM (atM p m.1) m.1).length 0 _ (Nat.zero_add _) (by omega) kx kr
  have hlast : ∀ (k : Bool → Option S), F_ref06_Of (IntKind.wrap .i64 (p.1.getD m.1.toNat 0)) m.1 (fun z => L_ref10_pawn_0 0 p m z (k false) (fun z2 => k z2)) = k (firstR p m && decide (takesP p m ≥ 0)) := by
    intro k
    rw [h.bd.w, ref06_Of_eq b1, show p.1.getD m.1.toNat 0 = atM p m.1 from rfl, hin]
    cases firstR p m <;> rfl
  unfold F_ref10_pawn R_ref10_pawn pawnR stepR2
  rw [inB_true (n := 64) b1, inB_true (n := 64) b2]
  simp only [cond_true, hlast, ref01_Rank_eq]
  rw [show p.1.getD m.2.1.toNat 0 = atM p m.2.1 from rfl]
  rcases h.turn with ht | ht
  · have e1 : IntKind.wrap .i64 (m.1 + 8) = m.1 + upT p.2.1 := by rw [ht, w64 (by omega)]; rfl
    have e2 : IntKind.wrap .i64 (m.1 + 16) = m.1 + 2 * upT p.2.1 := by rw [ht, w64 (by omega)]; rfl
    have e3 : secondT p.2.1 = 1 := by rw [ht]; rfl
    have hrk := rank_second b1 h.turn
    rw [show (p.2.1 == 1) = false by rw [ht]; rfl, e1, e2, show p.1.getD (m.1 + upT p.2.1).toNat 0 = atM p (m.1 + upT p.2.1) from rfl]
    rw [e3] at hrk ⊢
    cases atM p m.2.1 == 0 with
    | false => rfl
    | true =>
      cases m.2.1 == m.1 + upT p.2.1 with
      | true => rfl
      | false =>
        cases m.2.1 == m.1 + 2 * upT p.2.1 with
        | false => rfl
        | true =>
          cases hq : rankS m.1 == 1 with
          | false => rfl
          | true =>
            rw [inB_true (n := 64) (hrk hq)]
            cases atM p (m.1 + upT p.2.1) == 0 <;> rfl
  · have e1 : IntKind.wrap .i64 (m.1 + -8) = m.1 + upT p.2.1 := by rw [ht, w64 (by omega)]; rfl
    have e2 : IntKind.wrap .i64 (m.1 + -16) = m.1 + 2 * upT p.2.1 := by rw [ht, w64 (by omega)]; rfl
    have e3 : secondT p.2.1 = 6 := by rw [ht]; rfl
    have hrk := rank_second b1 h.turn
    rw [show (p.2.1 == 1) = true by rw [ht]; rfl, e1, e2, show p.1.getD (m.1 + upT p.2.1).toNat 0 = atM p (m.1 + upT p.2.1) from rfl]
    rw [e3] at hrk ⊢
    cases atM p m.2.1 == 0 with
    | false => rfl
    | true =>
      cases m.2.1 == m.1 + upT p.2.1 with
      | true => rfl
      | false =>
        cases m.2.1 == m.1 + 2 * upT p.2.1 with
        | false => rfl
        | true =>
          cases hq : rankS m.1 == 6 with
          | false => rfl
          | true =>
            rw [inB_true (n := 64) (hrk hq)]
            cases atM p (m.1 + upT p.2.1) == 0 <;> rfl

def markL (b : List Int) : List Int → List Bool → List Bool
  | [], O => O
  | t :: l, O => bif b.getD t.toNat 0 != 0 then O.set t.toNat true else markL b l (O.set t.toNat true)
theorem markL_len (b : List Int) : ∀ (l : List Int) (O : List Bool), (markL b l O).length = O.length
  | [], O => rfl
  | t :: l, O => by
    simp only [markL]
    cases b.getD t.toNat 0 != 0 with
    | true => simp
    | false => simp [markL_len b l]
theorem getD_setB (l : List Bool) (i j : Nat) (x : Bool) (hi : i < l.length) : (l.set i x).getD j false = if i = j then x else l.getD j false := by
  simp only [List.getD_eq_getElem?_getD, List.getElem?_set]
  split
  · rename_i h; subst h; simp [hi]
  · rfl
theorem markL_at (b : List Int) {to : Int} (hto : 0 ≤ to ∧ to < 64) : ∀ (l : List Int) (O : List Bool), O.length = 64 → (∀ t ∈ l, 0 ≤ t ∧ t < 64) → (markL b l O).getD to.toNat false = (O.getD to.toNat false || rayReach b to l)
  | [], O, hO, hl => by simp [markL, rayReach]
  | t :: l, O, hO, hl => by
    have ht := hl t (by simp)
    have hs : (O.set t.toNat true).getD to.toNat false = (t == to || O.getD to.toNat false) := by
      rw [getD_setB _ _ _ _ (by omega)]
      by_cases he : t = to
      · subst he; simp
      · rw [if_neg (by omega), show (t == to) = false by simpa using he]; rfl
    have ih := markL_at b hto l (O.set t.toNat true) (by simpa using hO) (fun x hx => hl x (List.mem_cons_of_mem _ hx))
    simp only [markL, rayReach]
    rw [show (b.getD t.toNat 0 != 0) = !(b.getD t.toNat 0 == 0) from rfl]
    cases b.getD t.toNat 0 == 0 with
    | false =>
      simp only [Bool.not_false, cond_true, hs]
      cases t == to <;> cases O.getD to.toNat false <;> rfl
    | true =>
      simp only [Bool.not_true, cond_false, ih, hs]
      cases t == to <;> cases O.getD to.toNat false <;> cases rayReach b to l <;> rfl

theorem N_ref10_struck_2_eq (b : List Int) (rays : List (List Int)) (hr : rays.length ≤ 64) (i : Nat) (hi : i < rays.length) (l : List Int) (hl : rays.getD i [] = l) (hsq : ∀ t ∈ l, 0 ≤ t ∧ t < 64) (hll : l.length ≤ 64) (Z : List Bool) :
    ∀ (d j n : Nat) (O : List Bool), j + d = l.length → d < n → ∀ {S : Type} (kx : Int → List Int → List Bool → List Bool → List (List Int) → Option S) (kr : Option S),
    N_ref10_struck_2 n (i : Int) (j : Int) b Z O rays kx kr = kx (i : Int) b Z (markL b (l.drop j) O) rays
  | 0, j, n + 1, O, hj, hn, S, kx, kr => by
    rw [N_ref10_struck_2_succ]
    unfold R_ref10_struck_2
    rw [inB_true (j := (i : Int)) (n := rays.length) (by omega), Int.toNat_natCast, hl, show decide ((j : Int) < ((l.length : Nat) : Int)) = false by simp; omega, List.drop_eq_nil_of_le (by omega)]
    rfl
  | d + 1, j, n + 1, O, hj, hn, S, kx, kr => by
    obtain ⟨e1, e2, e3⟩ := scan l.length (by omega) hj
    have ht : 0 ≤ l.getD j 0 ∧ l.getD j 0 < 64 := by
      rw [List.getD_eq_getElem?_getD, List.getElem?_eq_getElem (by omega)]
      exact hsq _ (List.getElem_mem _)
    have ih := N_ref10_struck_2_eq b rays hr i hi l hl hsq hll Z d (j + 1) n (O.set (l.getD j 0).toNat true) (by omega) (by omega) kx kr
    rw [N_ref10_struck_2_succ]
    unfold R_ref10_struck_2
    rw [inB_true (j := (i : Int)) (n := rays.length) (by omega), Int.toNat_natCast, hl, e1, e2, e3, Int.toNat_natCast, inB_true (n := 64) ht, drop_cons (b := l) (i := j) (by omega)]
    simp only [cond_true, ih, markL]
    cases b.getD (l.getD j 0).toNat 0 != 0 <;> rfl

def markA (b : List Int) : List (List Int) → List Bool → List Bool
  | [], O => O
  | l :: r, O => markA b r (markL b l O)
theorem markA_at (b : List Int) {to : Int} (hto : 0 ≤ to ∧ to < 64) : ∀ (r : List (List Int)) (O : List Bool), O.length = 64 → (∀ l ∈ r, ∀ t ∈ l, 0 ≤ t ∧ t < 64) → (markA b r O).getD to.toNat false = (O.getD to.toNat false || r.any (rayReach b to))
  | [], O, hO, hl => by simp [markA]
  | l :: r, O, hO, hl => by
    simp only [markA, List.any_cons]
    rw [markA_at b hto r _ (by rw [markL_len]; exact hO) (fun x hx => hl x (List.mem_cons_of_mem _ hx)), markL_at b hto l O hO (hl l (by simp)), Bool.or_assoc]

theorem N_ref10_struck_0_eq (b : List Int) (rays : List (List Int)) (hr : rays.length ≤ 64) (hsq : ∀ l ∈ rays, ∀ t ∈ l, 0 ≤ t ∧ t < 64) (hll : ∀ l ∈ rays, l.length ≤ 64) (Z : List Bool) :
    ∀ (d i n : Nat) (O : List Bool), i + d = rays.length → d < n → ∀ {S : Type} (kx : List Bool → List Bool → Option S) (kr : Option S),
    N_ref10_struck_0 n (i : Int) b Z O rays kx kr = kx Z (markA b (rays.drop i) O)
  | 0, i, n + 1, O, hi, hn, S, kx, kr => by
    rw [N_ref10_struck_0_succ]
    unfold R_ref10_struck_0
    rw [show decide ((i : Int) < ((rays.length : Nat) : Int)) = false by simp; omega, List.drop_eq_nil_of_le (by omega)]
    rfl
  | d + 1, i, n + 1, O, hi, hn, S, kx, kr => by
    obtain ⟨e1, e2, e3⟩ := scan rays.length (by omega) hi
    have hmem := getD_memL (l := rays) (i := i) (by omega)
    have ih := N_ref10_struck_0_eq b rays hr hsq hll Z d (i + 1) n (markL b (rays.getD i []) O) (by omega) (by omega) kx kr
    have hin : ∀ (kx : Int → List Int → List Bool → List Bool → List (List Int) → Option S) (kr : Option S), L_ref10_struck_2 (i : Int) 0 b Z O rays kx kr = kx (i : Int) b Z (markL b (rays.getD i []) O) rays := by
      intro kx kr
      rw [L_ref10_struck_2_N]
      exact N_ref10_struck_2_eq b rays hr i (by omega) _ rfl (hsq _ hmem) (hll _ hmem) Z (rays.getD i []).length 0 _ O (Nat.zero_add _) (by have := hll _ hmem; omega) kx kr
    rw [N_ref10_struck_0_succ]
    unfold R_ref10_struck_0
    rw [hin, e1, e3, drop_consL (l := rays) (i := i) (by omega)]
    simp only [cond_true, ih, markA]

/-- All that is struck. -/
def struckL (b : List Int) (s : Int) : List Bool := markA b (ofM (b.getD s.toNat 0) s) (List.replicate 64 false)
theorem struckL_at (b : List Int) (s : Int) {to : Int} (hto : 0 ≤ to ∧ to < 64) : (struckL b s).getD to.toNat false = hitsR b s to := by
  unfold struckL hitsR
  rw [markA_at b hto _ _ (by simp) ofM_right]
  rw [show (List.replicate 64 false).getD to.toNat false = false by
    rw [List.getD_eq_getElem?_getD, List.getElem?_replicate]; split <;> rfl]
  rfl
theorem ref10_struck_eq {b : List Int} (hb : Bd b) {s : Int} (hs : 0 ≤ s ∧ s < 64) {S : Type} (k : List Bool → Option S) : F_ref10_struck b s k = k (struckL b s) := by
  have hl := ofM_len (m := b.getD s.toNat 0) (s := s)
  unfold F_ref10_struck R_ref10_struck
  rw [inB_true (n := 64) hs, hb.w]
  simp only [ref06_Of_eq hs, cond_true]
  rw [L_ref10_struck_0_N]
  exact N_ref10_struck_0_eq b _ hl.1 ofM_right hl.2 _ (ofM (b.getD s.toNat 0) s).length 0 _ _ (Nat.zero_add _) (by omega) _ _

end Go.Proofs.YtaldkopkfdgngaaGreatDoor

