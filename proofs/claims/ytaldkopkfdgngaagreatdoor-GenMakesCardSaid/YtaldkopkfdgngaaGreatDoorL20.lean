/- Plain laws: what a man strikes, where men jump. -/
import Derived.Test.YtaldkopkfdgngaaGreatDoorL19
set_option linter.all false
set_option maxRecDepth 100000
namespace Go.Proofs.YtaldkopkfdgngaaGreatDoor
open Go Am

theorem one_set (x : Int) : List.set (List.replicate 1 (0 : Int)) 0 x = [x] := rfl

/-- A ray, up to the first man. -/
def scanS (b : List Int) : List Int → List Int
  | [] => []
  | t :: l => t :: (bif b.getD t.toNat 0 == 0 then scanS b l else [])
theorem scanS_len (b : List Int) : ∀ l : List Int, (scanS b l).length ≤ l.length
  | [] => by simp [scanS]
  | t :: l => by
    simp only [scanS]
    cases b.getD t.toNat 0 == 0 with
    | true => simp; exact scanS_len b l
    | false => simp
theorem scanS_mem (b : List Int) : ∀ (l : List Int), ∀ x ∈ scanS b l, x ∈ l
  | [], x, h => h
  | t :: l, x, h => by
    simp only [scanS] at h
    rcases List.mem_cons.1 h with rfl | h
    · simp
    · cases hq : b.getD t.toNat 0 == 0 with
      | true => rw [hq] at h; exact List.mem_cons_of_mem _ (scanS_mem b l x h)
      | false => rw [hq] at h; cases h

theorem Strikes_1_eq {b : List Int} (t : Int) (ht : 0 ≤ t ∧ t < 64) (out : List Int) (ho : out.length ≤ 10000) {S : Type} (k : Bool → List Int → List Int → Option S) :
    F_attack_Eye_Strikes_1 t b out k = k (b.getD t.toNat 0 == 0) b (out ++ [t]) := by
  unfold F_attack_Eye_Strikes_1 R_attack_Eye_Strikes_1
  rw [one_set, inB_true (j := t) (n := 64) ht, show decide (out.length + [t].length ≤ 34359738368) = true by simp; omega]
  rfl

theorem N_rays_Along_S_2_eq {b : List Int} (a0 a1 a2 a3 : Int) (a7 : List StepD) (l : List Int) (hl : ∀ t ∈ l, 0 ≤ t ∧ t < 64) (hll : l.length ≤ 64) :
    ∀ (d i : Nat) (out : List Int) (n : Nat), i + d = l.length → d < n → out.length + d ≤ 10000 → ∀ {S : Type} (kx : Int → Int → Int → Int → List Int → List StepD → List Int → Option S) (kr : Option S),
    N_rays_Along_S_2 n a0 a1 a2 a3 ((l.length : Nat) : Int) (i : Int) b a7 l out kx kr = kx a0 a1 a2 a3 b a7 (out ++ scanS b (l.drop i))
  | 0, i, out, n + 1, hi, hn, ho, S, kx, kr => by
    rw [N_rays_Along_S_2_succ]
    unfold R_rays_Along_S_2
    rw [show decide ((i : Int) < ((l.length : Nat) : Int)) = false by simp; omega, List.drop_eq_nil_of_le (by omega)]
    simp [scanS]
  | d + 1, i, out, n + 1, hi, hn, ho, S, kx, kr => by
    obtain ⟨e1, e2, e3⟩ := scan l.length (by omega) hi
    have ht : 0 ≤ l.getD i 0 ∧ l.getD i 0 < 64 := by
      rw [List.getD_eq_getElem?_getD, List.getElem?_eq_getElem (by omega)]
      exact hl _ (List.getElem_mem _)
    rw [N_rays_Along_S_2_succ]
    unfold R_rays_Along_S_2
    simp only [e1, e2, e3, cond_true, Int.toNat_natCast, Strikes_1_eq _ ht out (by omega), N_rays_Along_S_2_eq a0 a1 a2 a3 a7 l hl hll d (i + 1) (out ++ [l.getD i 0]) n (by omega) (by omega) (by simp; omega)]
    rw [drop_cons (b := l) (i := i) (by omega)]
    simp only [scanS]
    cases b.getD (l.getD i 0).toNat 0 == 0 <;> simp

def alongS (b : List Int) (s : Int) (len : Nat) (l : List StepD) : List Int := l.flatMap fun y => scanS b (walkS len s y.1 y.2.1)
theorem alongS_len (b : List Int) (s : Int) (len : Nat) (hlen : len ≤ 64) : ∀ l : List StepD, (alongS b s len l).length ≤ 64 * l.length
  | [] => by simp [alongS]
  | y :: l => by
    have h1 := alongS_len b s len hlen l
    have h2 := scanS_len b (walkS len s y.1 y.2.1)
    have h3 := walkS_len len s y.1 y.2.1
    unfold alongS at h1 ⊢
    simp only [List.flatMap_cons, List.length_append, List.length_cons]
    omega

theorem N_rays_Along_S_0_eq {b : List Int} (s : Int) (len : Nat) (hlen : len ≤ 64) (l : List StepD) (hll : l.length ≤ 64) :
    ∀ (d i : Nat) (out : List Int) (n : Nat), i + d = l.length → d < n → out.length + 64 * d ≤ 10000 → ∀ {S : Type} (kx : List Int → List Int → Option S) (kr : Option S),
    N_rays_Along_S_0 n s (len : Int) ((l.length : Nat) : Int) (i : Int) b l out kx kr = kx b (out ++ alongS b s len (l.drop i))
  | 0, i, out, n + 1, hi, hn, ho, S, kx, kr => by
    rw [N_rays_Along_S_0_succ]
    unfold R_rays_Along_S_0
    rw [show decide ((i : Int) < ((l.length : Nat) : Int)) = false by simp; omega, List.drop_eq_nil_of_le (by omega)]
    simp [alongS]
  | d + 1, i, out, n + 1, hi, hn, ho, S, kx, kr => by
    obtain ⟨e1, e2, e3⟩ := scan l.length (by omega) hi
    rw [N_rays_Along_S_0_succ]
    unfold R_rays_Along_S_0
    rw [e1, e2]
    simp only [cond_true, Int.toNat_natCast]
    have hd : List.drop i l = l.getD i (0, 0, ()) :: l.drop (i + 1) := by
      rw [List.drop_eq_getElem_cons (by omega), List.getD_eq_getElem?_getD, List.getElem?_eq_getElem (by omega)]; rfl
    have hw := walkS_len len s (l.getD i (0, 0, ())).1 (l.getD i (0, 0, ())).2.1
    have hsc := scanS_len b (walkS len s (l.getD i (0, 0, ())).1 (l.getD i (0, 0, ())).2.1)
    generalize l.getD i (0, 0, ()) = y at hd hw hsc ⊢
    rw [rays_walk_eq s _ len hlen, L_rays_Along_S_2_N, show (0 : Int) = ((0 : Nat) : Int) from rfl,
      N_rays_Along_S_2_eq _ _ _ _ _ (walkS len s y.1 y.2.1) (walkS_right _ _ _ _) (by omega) _ 0 out _ (Nat.zero_add _) (by omega) (by omega)]
    rw [e3, List.drop_zero, N_rays_Along_S_0_eq s len hlen l hll d (i + 1) _ n (by omega) (by omega) (by simp only [List.length_append]; omega), hd]
    unfold alongS
    simp

theorem stepsM_len8 (m : Int) : (stepsM m).length ≤ 8 := by
  unfold stepsM
  cases kindM m == 1 <;> cases sideM m == 1 <;> cases kindM m == 2 <;> cases kindM m == 3 <;> cases kindM m == 4 <;> decide

/-- What the man of a square strikes. -/
def strikesL (b : List Int) (s : Int) : List Int :=
  bif rightS s && rightB b && !(b.getD s.toNat 0 == 0) then sortL (alongS b s (mostM (b.getD s.toNat 0)) (stepsM (b.getD s.toNat 0))) else []

theorem Sort_eq (l : List Int) (h : l.length ≤ 10000) {S : Type} (k : List Int → Option S) : F_slices_Sort l k = k (sortL l) := by
  unfold F_slices_Sort sortK
  rw [show decide (l.length < 4611686018427387904) = true by simp; omega]
  rfl

theorem Along_S_eq (b : List Int) (m s : Int) {S : Type} (k : List Int → List Int → Option S) : F_rays_Along_S m s b [] k = k b (alongS b s (mostM m) (stepsM m)) := by
  have h8 := stepsM_len8 m
  unfold F_rays_Along_S R_rays_Along_S
  simp only [rays_steps_eq]
  rw [L_rays_Along_S_0_N, show (0 : Int) = ((0 : Nat) : Int) from rfl, N_rays_Along_S_0_eq s _ (mostM_le m) _ (stepsM_len m) _ 0 [] _ (Nat.zero_add _) (by omega) (by simp; omega)]
  simp

theorem Strikes_eq {b : List Int} (hb : Bd b) (s : Int) {S : Type} (k : List Int → Option S) : F_attack_Eye_Strikes b s k = k (strikesL b s) := by
  unfold F_attack_Eye_Strikes R_attack_Eye_Strikes F_attack_Eye_sees R_attack_Eye_sees strikesL
  simp only [square_Right_eq, board_Right_eq hb]
  cases hs : rightS s with
  | false => rfl
  | true =>
    cases hr : rightB b with
    | false => rfl
    | true =>
      have h8 := stepsM_len8 (b.getD s.toNat 0)
      have hl := alongS_len b s (mostM (b.getD s.toNat 0)) (mostM_le _) (stepsM (b.getD s.toNat 0))
      have i1 : inB s 64 = true := inB_true (rightS_iff.1 hs)
      simp only [i1, hb.w, Along_S_eq, Sort_eq _ (show (alongS b s (mostM (b.getD s.toNat 0)) (stepsM (b.getD s.toNat 0))).length ≤ 10000 by omega)]
      cases b.getD s.toNat 0 == 0 <;> rfl

/-- Is a square open to a side? -/
def openP (p : PosD) (t : Int) : Bool := rightS t && (p.1.getD t.toNat 0 == 0 || sideM (p.1.getD t.toNat 0) != p.2.1)
theorem gen_open_eq {p : PosD} (hb : Bd p.1) (t : Int) {S : Type} (k : Bool → Option S) : F_gen_open p t k = k (openP p t) := by
  unfold F_gen_open R_gen_open openP
  simp only [square_Right_eq, men_Side_eq, hb.w]
  cases hs : rightS t with
  | false => rfl
  | true =>
    rw [inB_true (rightS_iff.1 hs)]
    cases p.1.getD t.toNat 0 == 0 <;> rfl
theorem jumps_1_eq {p : PosD} (hb : Bd p.1) (t : Int) {S : Type} (k : Bool → PosD → Option S) : F_gen_Gen_jumps_1 t p k = k (!openP p t) p := by
  unfold F_gen_Gen_jumps_1 R_gen_Gen_jumps_1
  simp only [gen_open_eq hb]

end Go.Proofs.YtaldkopkfdgngaaGreatDoor

