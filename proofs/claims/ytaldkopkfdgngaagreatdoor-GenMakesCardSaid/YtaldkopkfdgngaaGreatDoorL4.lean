/- Plain laws: rays, who strikes. -/
import Derived.Test.YtaldkopkfdgngaaGreatDoorL3
set_option linter.all false
set_option maxRecDepth 100000
namespace Go.Proofs.YtaldkopkfdgngaaGreatDoor
open Go Am

/-- The squares by a step, so many at most. -/
def walkS : Nat → Int → Int → Int → List Int
  | 0, _, _, _ => []
  | n + 1, s, f, r => match stepS s f r with
    | none => []
    | some t => bif f == 0 && (r == 0 && true) then [] else t :: walkS n t f r

theorem stepS_right {s f r t : Int} (h : stepS s f r = some t) : 0 ≤ t ∧ t < 64 := by
  unfold stepS at h
  cases hc : (rightS s && (decide (-8 < f) && decide (f < 8) && (decide (-8 < r) && decide (r < 8))) && (onS (s % 8 + f) && onS (s / 8 + r))) with
  | false => rw [hc] at h; cases h
  | true =>
    rw [hc] at h
    cases h
    simp only [Bool.and_eq_true] at hc
    have h1 := onS_iff.1 hc.2.1
    have h2 := onS_iff.1 hc.2.2
    omega

theorem walkS_right : ∀ (n : Nat) (s f r : Int), ∀ t ∈ walkS n s f r, 0 ≤ t ∧ t < 64
  | 0, _, _, _, t, h => by simp [walkS] at h
  | n + 1, s, f, r, t, h => by
    simp only [walkS] at h
    cases hs : stepS s f r with
    | none => rw [hs] at h; cases h
    | some u =>
      rw [hs] at h
      simp only at h
      cases hq : (f == 0 && (r == 0 && true)) with
      | true => rw [hq] at h; cases h
      | false =>
        rw [hq] at h
        rcases List.mem_cons.1 h with rfl | h
        · exact stepS_right hs
        · exact walkS_right n u f r t h

theorem walkS_len : ∀ (n : Nat) (s f r : Int), (walkS n s f r).length ≤ n
  | 0, _, _, _ => by simp [walkS]
  | n + 1, s, f, r => by
    simp only [walkS]
    cases stepS s f r with
    | none => simp
    | some u =>
      simp only
      cases (f == 0 && (r == 0 && true))
      · simp; exact walkS_len n u f r
      · simp

theorem N_rays_walk_0_eq (most : Nat) (hm : most ≤ 64) (y : StepD) : ∀ (d : Nat) (s : Int) (out : List Int) (n : Nat), out.length + d = most → d < n → ∀ {S : Type} (kx : List Int → Option S) (kr : Option S),
    N_rays_walk_0 n s (most : Int) y out kx kr = kx (out ++ walkS d s y.1 y.2.1)
  | 0, s, out, n + 1, hl, hn, S, kx, kr => by
    rw [N_rays_walk_0_succ]
    unfold R_rays_walk_0
    rw [show decide (((out.length : Nat) : Int) < (most : Int)) = false by simp; omega]
    simp [walkS]
  | d + 1, s, out, n + 1, hl, hn, S, kx, kr => by
    rw [N_rays_walk_0_succ]
    unfold R_rays_walk_0
    rw [show decide (((out.length : Nat) : Int) < (most : Int)) = true by simp; omega]
    simp only [cond_true, square_Step_eq, walkS]
    cases hs : stepS s y.1 y.2.1 with
    | none => simp
    | some t =>
      simp only [Bool.not_true, cond_false]
      rw [show Ty.beq (.pair (.int .i64) (.pair (.int .i64) .unit)) y (0, 0, ()) = (y.1 == 0 && (y.2.1 == 0 && true)) from rfl]
      cases (y.1 == 0 && (y.2.1 == 0 && true)) with
      | true => simp
      | false =>
        simp only [cond_false]
        rw [show List.set (List.replicate 1 (0 : Int)) 0 t = [t] from rfl]
        rw [show decide (out.length + [t].length ≤ 34359738368) = true by simp; omega]
        simp only [cond_true]
        rw [N_rays_walk_0_eq most hm y d t (out ++ [t]) n (by simp; omega) (by omega)]
        simp

theorem rays_walk_eq (s : Int) (y : StepD) (most : Nat) (hm : most ≤ 64) {S : Type} (k : List Int → Option S) : F_rays_walk s y (most : Int) k = k (walkS most s y.1 y.2.1) := by
  unfold F_rays_walk R_rays_walk
  rw [L_rays_walk_0_N, N_rays_walk_0_eq most hm y most s [] _ (by simp) (by simp; omega)]
  simp

def straightS : List StepD := [(0, 1, ()), (1, 0, ()), (0, -1, ()), (-1, 0, ())]
def slantS : List StepD := [(1, 1, ()), (1, -1, ()), (-1, -1, ()), (-1, 1, ())]
def jumpsS : List StepD := [(1, 2, ()), (2, 1, ()), (2, -1, ()), (1, -2, ()), (-1, -2, ()), (-2, -1, ()), (-2, 1, ()), (-1, 2, ())]
def stepsM (m : Int) : List StepD := bif kindM m == 1 then (bif sideM m == 1 then [(1, -1, ()), (-1, -1, ())] else [(1, 1, ()), (-1, 1, ())]) else bif kindM m == 2 then jumpsS else bif kindM m == 3 then slantS else bif kindM m == 4 then straightS else straightS ++ slantS
def mostM (m : Int) : Nat := bif kindM m == 1 then 1 else bif kindM m == 2 then 1 else bif kindM m == 3 then 64 else bif kindM m == 4 then 64 else bif kindM m == 6 then 1 else 64

theorem mostM_le (m : Int) : mostM m ≤ 64 := by
  unfold mostM
  cases kindM m == 1 <;> cases kindM m == 2 <;> cases kindM m == 3 <;> cases kindM m == 4 <;> cases kindM m == 6 <;> simp

theorem rays_steps_eq (m : Int) {S : Type} (k : Int → List StepD → Option S) : F_rays_steps m k = k (mostM m : Nat) (stepsM m) := by
  unfold F_rays_steps R_rays_steps
  simp only [men_Kind_eq, men_Side_eq, show ∀ {S : Type} (k : List StepD → Option S), F_rays_jumps k = k jumpsS from fun _ => rfl, show ∀ {S : Type} (k : List StepD → Option S), F_rays_slant k = k slantS from fun _ => rfl, show ∀ {S : Type} (k : List StepD → Option S), F_rays_straight k = k straightS from fun _ => rfl]
  unfold stepsM mostM
  cases kindM m == 1 <;> cases sideM m == 1 <;> cases kindM m == 2 <;> cases kindM m == 3 <;> cases kindM m == 4 <;> cases kindM m == 6 <;> rfl

def stepOut (b : List Int) (man : Int) (most : Nat) (to : Int) (out : List Int) : List Int :=
  bif b.getD to.toNat 0 == man then (bif decide (((out.length : Nat) : Int) < (most : Int)) then out ++ [to] else out) else out

/-- A ray is looked along. -/
def scanOut (b : List Int) (man : Int) (most : Nat) : List Int → List Int → List Int
  | [], out => out
  | to :: l, out => bif b.getD to.toNat 0 == 0 then scanOut b man most l (stepOut b man most to out) else stepOut b man most to out

theorem from_1_eq {b : List Int} (hb : Bd b) (man : Int) (most : Nat) (hm : most ≤ 64) (to : Int) (ht : 0 ≤ to ∧ to < 64) (out : List Int) {S : Type} (k : Bool → List Int → Int → Int → List Int → Option S) :
    F_attack_Eye_from_1 to b man (most : Int) out k = k (b.getD to.toNat 0 == 0) b man (most : Int) (stepOut b man most to out) := by
  unfold F_attack_Eye_from_1 R_attack_Eye_from_1 stepOut
  rw [inB_true (j := to) (n := 64) ht, hb.w]
  rw [show List.set (List.replicate 1 (0 : Int)) 0 to = [to] from rfl]
  cases b.getD to.toNat 0 == man with
  | false => rfl
  | true =>
    simp only [cond_true]
    cases h : decide (((out.length : Nat) : Int) < (most : Int)) with
    | false => rfl
    | true =>
      have : out.length < most := by simpa using h
      rw [show decide (out.length + [to].length ≤ 34359738368) = true by simp; omega]
      rfl

theorem N_rays_Along_2_eq {b : List Int} (hb : Bd b) (man : Int) (most : Nat) (hm : most ≤ 64) (a0 a1 a2 a3 : Int) (a9 : List StepD) (l : List Int) (hl : ∀ t ∈ l, 0 ≤ t ∧ t < 64) (hll : l.length ≤ 64) :
    ∀ (d i : Nat) (out : List Int) (n : Nat), i + d = l.length → d < n → ∀ {S : Type} (kx : Int → Int → Int → Int → List Int → Int → Int → List StepD → List Int → Option S) (kr : Option S),
    N_rays_Along_2 n a0 a1 a2 a3 ((l.length : Nat) : Int) (i : Int) b man (most : Int) a9 l out kx kr = kx a0 a1 a2 a3 b man (most : Int) a9 (scanOut b man most (l.drop i) out)
  | 0, i, out, n + 1, hi, hn, S, kx, kr => by
    rw [N_rays_Along_2_succ]
    unfold R_rays_Along_2
    rw [show decide ((i : Int) < ((l.length : Nat) : Int)) = false by simp; omega, List.drop_eq_nil_of_le (by omega)]
    rfl
  | d + 1, i, out, n + 1, hi, hn, S, kx, kr => by
    obtain ⟨e1, e2, e3⟩ := scan l.length (by omega) hi
    have ht : 0 ≤ l.getD i 0 ∧ l.getD i 0 < 64 := by
      rw [List.getD_eq_getElem?_getD, List.getElem?_eq_getElem (by omega)]
      exact hl _ (List.getElem_mem _)
    rw [N_rays_Along_2_succ]
    unfold R_rays_Along_2
    simp only [e1, e2, e3, cond_true, Int.toNat_natCast, from_1_eq hb man most hm _ ht, N_rays_Along_2_eq hb man most hm a0 a1 a2 a3 a9 l hl hll d (i + 1) _ n (by omega) (by omega)]
    rw [drop_cons (b := l) (i := i) (by omega)]
    simp only [scanOut]
    cases b.getD (l.getD i 0).toNat 0 == 0 <;> rfl

/-- All rays of a man are looked along. -/
def alongOut (b : List Int) (man : Int) (most : Nat) (s : Int) (len : Nat) : List StepD → List Int → List Int
  | [], out => out
  | y :: l, out => alongOut b man most s len l (scanOut b man most (walkS len s y.1 y.2.1) out)

theorem N_rays_Along_0_eq {b : List Int} (hb : Bd b) (man : Int) (most : Nat) (hm : most ≤ 64) (s : Int) (len : Nat) (hlen : len ≤ 64) (l : List StepD) (hll : l.length ≤ 64) :
    ∀ (d i : Nat) (out : List Int) (n : Nat), i + d = l.length → d < n → ∀ {S : Type} (kx : List Int → Int → Int → List Int → Option S) (kr : Option S),
    N_rays_Along_0 n s (len : Int) ((l.length : Nat) : Int) (i : Int) b man (most : Int) l out kx kr = kx b man (most : Int) (alongOut b man most s len (l.drop i) out)
  | 0, i, out, n + 1, hi, hn, S, kx, kr => by
    rw [N_rays_Along_0_succ]
    unfold R_rays_Along_0
    rw [show decide ((i : Int) < ((l.length : Nat) : Int)) = false by simp; omega, List.drop_eq_nil_of_le (by omega)]
    rfl
  | d + 1, i, out, n + 1, hi, hn, S, kx, kr => by
    obtain ⟨e1, e2, e3⟩ := scan l.length (by omega) hi
    rw [N_rays_Along_0_succ]
    unfold R_rays_Along_0
    rw [e1, e2]
    simp only [cond_true, Int.toNat_natCast]
    have hd : List.drop i l = l.getD i (0, 0, ()) :: l.drop (i + 1) := by
      rw [List.drop_eq_getElem_cons (by omega), List.getD_eq_getElem?_getD, List.getElem?_eq_getElem (by omega)]; rfl
    rw [rays_walk_eq s _ len hlen, L_rays_Along_2_N, show (0 : Int) = ((0 : Nat) : Int) from rfl,
      N_rays_Along_2_eq hb man most hm _ _ _ _ _ _ (walkS_right _ _ _ _) (Nat.le_trans (walkS_len _ _ _ _) hlen) _ 0 out _ (Nat.zero_add _) (by omega)]
    rw [e3, N_rays_Along_0_eq hb man most hm s len hlen l hll d (i + 1) _ n (by omega) (by omega), hd]
    rfl

theorem stepsM_len (m : Int) : (stepsM m).length ≤ 64 := by
  unfold stepsM
  cases kindM m == 1 <;> cases sideM m == 1 <;> cases kindM m == 2 <;> cases kindM m == 3 <;> cases kindM m == 4 <;> decide

theorem rays_Along_eq {b : List Int} (hb : Bd b) (m s man : Int) (most : Nat) (hm : most ≤ 64) (out : List Int) {S : Type} (k : List Int → Int → Int → List Int → Option S) :
    F_rays_Along m s b man (most : Int) out k = k b man (most : Int) (alongOut b man most s (mostM m) (stepsM m) out) := by
  unfold F_rays_Along R_rays_Along
  simp only [rays_steps_eq]
  rw [L_rays_Along_0_N, show (0 : Int) = ((0 : Nat) : Int) from rfl, N_rays_Along_0_eq hb man most hm s _ (mostM_le m) _ (stepsM_len m) _ 0 out _ (Nat.zero_add _) (by omega)]
  rfl

/-- The men of all kinds, from some kind on. -/
def fromOut (b : List Int) (s side : Int) (most : Nat) : List Nat → List Int → List Int
  | [], out => out
  | kind :: l, out => fromOut b s side most l (alongOut b (makeM kind side) most s (mostM (0 - makeM kind side)) (stepsM (0 - makeM kind side)) out)

theorem makeM_bounds (kind side : Int) : -6 ≤ makeM kind side ∧ makeM kind side ≤ 6 := by
  unfold makeM
  by_cases h1 : kind < 1
  · simp [h1]
  · by_cases h2 : kind > 6
    · simp [h1, h2]
    · simp only [h1, h2, decide_false, cond_false]
      cases side == 0 <;> cases side == 1 <;> simp <;> omega

theorem N_attack_Eye_from_0_eq {b : List Int} (hb : Bd b) (s side : Int) (most : Nat) (hm : most ≤ 64) :
    ∀ (d i : Nat) (out : List Int) (n : Nat), i + d = 7 → d < n → ∀ {S : Type} (kx : List Int → Option S) (kr : Option S),
    N_attack_Eye_from_0 n s side (i : Int) b (most : Int) out kx kr = kx (fromOut b s side most (List.range' i d) out)
  | 0, i, out, n + 1, hi, hn, S, kx, kr => by
    obtain rfl : i = 7 := by omega
    rw [N_attack_Eye_from_0_succ]
    rfl
  | d + 1, i, out, n + 1, hi, hn, S, kx, kr => by
    have hb1 := makeM_bounds i side
    rw [N_attack_Eye_from_0_succ]
    unfold R_attack_Eye_from_0
    rw [show decide ((i : Int) ≤ 6) = true by simp; omega]
    simp only [cond_true, men_Make_eq]
    rw [w64 (x := 0 - makeM (i : Int) side) (by omega), rays_Along_eq hb _ _ _ most hm]
    rw [show IntKind.wrap .i64 ((i : Int) + 1) = ((i + 1 : Nat) : Int) by rw [w64 (by omega)]; rfl]
    rw [N_attack_Eye_from_0_eq hb s side most hm d (i + 1) _ n (by omega) (by omega)]
    rfl

def rayHit (b : List Int) (man : Int) : List Int → Bool
  | [] => false
  | to :: l => b.getD to.toNat 0 == man || (b.getD to.toNat 0 == 0 && rayHit b man l)

theorem stepOut_one {b : List Int} {man to x : Int} : stepOut b man 1 to [x] = [x] := by
  unfold stepOut
  cases b.getD to.toNat 0 == man <;> rfl

theorem scanOut_one {b : List Int} {man x : Int} : ∀ l : List Int, scanOut b man 1 l [x] = [x]
  | [] => rfl
  | to :: l => by
    simp only [scanOut, stepOut_one, scanOut_one l]
    cases b.getD to.toNat 0 == 0 <;> rfl

theorem scanOut_nil {b : List Int} {man : Int} : ∀ l : List Int, (scanOut b man 1 l [] = [] ∧ rayHit b man l = false) ∨ ∃ x, scanOut b man 1 l [] = [x] ∧ rayHit b man l = true
  | [] => .inl ⟨rfl, rfl⟩
  | to :: l => by
    simp only [scanOut, rayHit]
    cases h : b.getD to.toNat 0 == man with
    | true =>
      have : stepOut b man 1 to [] = [to] := by unfold stepOut; rw [h]; rfl
      rw [this, scanOut_one]
      refine .inr ⟨to, ?_, rfl⟩
      cases b.getD to.toNat 0 == 0 <;> rfl
    | false =>
      have : stepOut b man 1 to [] = [] := by unfold stepOut; rw [h]; rfl
      rw [this]
      cases b.getD to.toNat 0 == 0 with
      | true => simpa using scanOut_nil l
      | false => exact .inl ⟨rfl, rfl⟩

/-- Does any man of a kind, of a side, strike a square? -/
def alongHit (b : List Int) (man s : Int) (len : Nat) (l : List StepD) : Bool := l.any fun y => rayHit b man (walkS len s y.1 y.2.1)
def hitsB (b : List Int) (s side : Int) : Bool := (List.range' 1 6).any fun kind => alongHit b (makeM (kind : Nat) side) s (mostM (0 - makeM (kind : Nat) side)) (stepsM (0 - makeM (kind : Nat) side))

theorem alongOut_one {b : List Int} {man s x : Int} {len : Nat} : ∀ l : List StepD, alongOut b man 1 s len l [x] = [x]
  | [] => rfl
  | y :: l => by simp only [alongOut, scanOut_one, alongOut_one l]

theorem alongOut_nil {b : List Int} {man s : Int} {len : Nat} : ∀ l : List StepD, (alongOut b man 1 s len l [] = [] ∧ alongHit b man s len l = false) ∨ ∃ x, alongOut b man 1 s len l [] = [x] ∧ alongHit b man s len l = true
  | [] => .inl ⟨rfl, rfl⟩
  | y :: l => by
    simp only [alongOut, alongHit, List.any_cons]
    rcases scanOut_nil (b := b) (man := man) (walkS len s y.1 y.2.1) with ⟨h1, h2⟩ | ⟨x, h1, h2⟩
    · rw [h1, h2]
      simpa [alongHit] using alongOut_nil (b := b) (man := man) (s := s) (len := len) l
    · rw [h1, h2, alongOut_one]
      exact .inr ⟨x, rfl, rfl⟩

theorem fromOut_one {b : List Int} {s side x : Int} : ∀ l : List Nat, fromOut b s side 1 l [x] = [x]
  | [] => rfl
  | y :: l => by simp only [fromOut, alongOut_one, fromOut_one l]

theorem fromOut_nil {b : List Int} {s side : Int} : ∀ l : List Nat, (fromOut b s side 1 l [] = [] ∧ (l.any fun kind => alongHit b (makeM (kind : Nat) side) s (mostM (0 - makeM (kind : Nat) side)) (stepsM (0 - makeM (kind : Nat) side))) = false) ∨
    ∃ x, fromOut b s side 1 l [] = [x] ∧ (l.any fun kind => alongHit b (makeM (kind : Nat) side) s (mostM (0 - makeM (kind : Nat) side)) (stepsM (0 - makeM (kind : Nat) side))) = true
  | [] => .inl ⟨rfl, rfl⟩
  | y :: l => by
    simp only [fromOut, List.any_cons]
    rcases alongOut_nil (b := b) (man := makeM (y : Nat) side) (s := s) (len := mostM (0 - makeM (y : Nat) side)) (stepsM (0 - makeM (y : Nat) side)) with ⟨h1, h2⟩ | ⟨x, h1, h2⟩
    · rw [h1, h2]
      simpa using fromOut_nil (b := b) (s := s) (side := side) l
    · rw [h1, h2, fromOut_one]
      exact .inr ⟨x, rfl, rfl⟩

theorem sort_nil {S : Type} (k : List Int → Option S) : F_slices_Sort [] k = k [] := by kernel_rfl
theorem sort_one (x : Int) {S : Type} (k : List Int → Option S) : F_slices_Sort [x] k = k [x] := by kernel_rfl

theorem attack_Struck_eq {b : List Int} (hb : Bd b) (s side : Int) {S : Type} (k : Bool → Option S) : F_attack_Eye_Struck b s side k = k (rightS s && rightB b && (decide (otherS side ≥ 0) && hitsB b s side)) := by
  unfold F_attack_Eye_Struck R_attack_Eye_Struck F_attack_Eye_sees R_attack_Eye_sees
  simp only [square_Right_eq, board_Right_eq hb, men_Other_eq]
  cases rightS s with
  | false => rfl
  | true =>
    simp only [cond_true, Bool.true_and]
    cases rightB b with
    | false => rfl
    | true =>
      simp only [cond_true, Bool.true_and]
      cases decide (otherS side ≥ 0) with
      | false => rfl
      | true =>
        simp only [cond_true, Bool.true_and]
        unfold F_attack_Eye_from R_attack_Eye_from
        have h := N_attack_Eye_from_0_eq hb s side 1 (by omega) 6 1 [] (100 + b.length + ([] : List Int).length) rfl (by omega) (S := S)
        rw [L_attack_Eye_from_0_N]
        rw [show (1 : Int) = ((1 : Nat) : Int) from rfl, h]
        unfold hitsB
        rcases fromOut_nil (b := b) (s := s) (side := side) (List.range' 1 6) with ⟨h1, h2⟩ | ⟨x, h1, h2⟩
        · rw [h1, h2, sort_nil]; rfl
        · rw [h1, h2, sort_one]; rfl

def checkB (b : List Int) (side : Int) : Bool := decide (kingB b side ≥ 0) && (rightS (kingB b side) && rightB b && (decide (otherS (otherS side) ≥ 0) && hitsB b (kingB b side) (otherS side)))

theorem attack_Check_eq {b : List Int} (hb : Bd b) (side : Int) {S : Type} (k : Bool → Option S) : F_attack_Eye_Check b side k = k (checkB b side) := by
  unfold F_attack_Eye_Check R_attack_Eye_Check checkB
  simp only [board_King_eq hb, men_Other_eq, attack_Struck_eq hb]
  cases decide (kingB b side ≥ 0) <;> rfl

end Go.Proofs.YtaldkopkfdgngaaGreatDoor

