/- Plain laws: the document's answer: who strikes; that it is the program's. -/
import Derived.Test.YtaldkopkfdgngaaGreatDoorL10
set_option linter.all false
set_option maxRecDepth 100000
namespace Go.Proofs.YtaldkopkfdgngaaGreatDoor
open Go Am

def ofM (m s : Int) : List (List Int) := bif rightM m then ofS m s (stepsM m) else []

theorem ref06_Of_eq {m s : Int} (hs : 0 ≤ s ∧ s < 64) {S : Type} (k : List (List Int) → Option S) : F_ref06_Of m s k = k (ofM m s) := by
  unfold F_ref06_Of R_ref06_Of ofM
  cases hm : rightM m with
  | true =>
    simp only [ref06_Steps_eq hm]
    rw [L_ref06_Of_0_N]
    exact N_ref06_Of_0_eq hm hs (stepsM m) (stepsM_all hm) (stepsM_len m) (stepsM m).length 0 _ [] (Nat.zero_add _) (by simp [flat_len]; have := stepsM_len m; omega) (by simp) _ _
  | false =>
    simp only [ref06_Steps_none hm]
    rw [L_ref06_Of_0_N]
    rfl

theorem ofM_right {m s : Int} : ∀ l ∈ ofM m s, ∀ t ∈ l, 0 ≤ t ∧ t < 64 := by
  intro l hl t ht
  unfold ofM at hl
  cases hm : rightM m with
  | false => rw [hm] at hl; cases hl
  | true =>
    rw [hm] at hl
    simp only [cond_true, ofS, List.mem_filter, List.mem_map] at hl
    obtain ⟨⟨y, hy, rfl⟩, _⟩ := hl
    exact walkS_right _ _ _ _ t ht
theorem ofM_len {m s : Int} : (ofM m s).length ≤ 64 ∧ ∀ l ∈ ofM m s, l.length ≤ 64 := by
  unfold ofM
  cases hm : rightM m with
  | false => exact ⟨by simp, fun l hl => by cases hl⟩
  | true =>
    simp only [cond_true]
    constructor
    · unfold ofS
      exact Nat.le_trans (List.length_filter_le _ _) (by rw [List.length_map]; exact stepsM_len m)
    · intro l hl
      simp only [ofS, List.mem_filter, List.mem_map] at hl
      obtain ⟨⟨y, hy, rfl⟩, _⟩ := hl
      exact Nat.le_trans (walkS_len _ _ _ _) (mostM_le m)

/-- Does a ray reach a square? -/
def rayReach (b : List Int) (to : Int) : List Int → Bool
  | [] => false
  | x :: l => x == to || (b.getD x.toNat 0 == 0 && rayReach b to l)

theorem N_ref07_Hits_2_eq (b : List Int) (to : Int) (rays : List (List Int)) (hr : rays.length ≤ 64) (i : Nat) (hi : i < rays.length) (l : List Int) (hl : rays.getD i [] = l) (hsq : ∀ t ∈ l, 0 ≤ t ∧ t < 64) (hll : l.length ≤ 64) :
    ∀ (d j n : Nat), j + d = l.length → d < n → ∀ {S : Type} (kx : Int → Int → List Int → List (List Int) → Option S) (kr : Bool → Option S),
    N_ref07_Hits_2 n to (i : Int) (j : Int) b rays kx kr = bif rayReach b to (l.drop j) then kr true else kx to (i : Int) b rays
  | 0, j, n + 1, hj, hn, S, kx, kr => by
    rw [N_ref07_Hits_2_succ]
    unfold R_ref07_Hits_2
    rw [inB_true (j := (i : Int)) (n := rays.length) (by omega), Int.toNat_natCast, hl, show decide ((j : Int) < ((l.length : Nat) : Int)) = false by simp; omega, List.drop_eq_nil_of_le (by omega)]
    rfl
  | d + 1, j, n + 1, hj, hn, S, kx, kr => by
    obtain ⟨e1, e2, e3⟩ := scan l.length (by omega) hj
    have ht : 0 ≤ l.getD j 0 ∧ l.getD j 0 < 64 := by
      rw [List.getD_eq_getElem?_getD, List.getElem?_eq_getElem (by omega)]
      exact hsq _ (List.getElem_mem _)
    have ih := N_ref07_Hits_2_eq b to rays hr i hi l hl hsq hll d (j + 1) n (by omega) (by omega) kx kr
    rw [N_ref07_Hits_2_succ]
    unfold R_ref07_Hits_2
    rw [inB_true (j := (i : Int)) (n := rays.length) (by omega), Int.toNat_natCast, hl, e1, e2, e3, Int.toNat_natCast, inB_true (n := 64) ht, drop_cons (b := l) (i := j) (by omega)]
    simp only [cond_true, ih, rayReach]
    rw [show (b.getD (l.getD j 0).toNat 0 != 0) = !(b.getD (l.getD j 0).toNat 0 == 0) from rfl]
    cases l.getD j 0 == to <;> cases b.getD (l.getD j 0).toNat 0 == 0 <;> rfl

theorem N_ref07_Hits_0_eq (b : List Int) (hb : b.length = 64) (to : Int) (rays : List (List Int)) (hr : rays.length ≤ 64) (hsq : ∀ l ∈ rays, ∀ t ∈ l, 0 ≤ t ∧ t < 64) (hll : ∀ l ∈ rays, l.length ≤ 64) :
    ∀ (d i n : Nat), i + d = rays.length → d < n → ∀ {S : Type} (kx : Option S) (kr : Bool → Option S),
    N_ref07_Hits_0 n to (i : Int) b rays kx kr = bif (rays.drop i).any (rayReach b to) then kr true else kx
  | 0, i, n + 1, hi, hn, S, kx, kr => by
    rw [N_ref07_Hits_0_succ]
    unfold R_ref07_Hits_0
    rw [show decide ((i : Int) < ((rays.length : Nat) : Int)) = false by simp; omega, List.drop_eq_nil_of_le (by omega)]
    rfl
  | d + 1, i, n + 1, hi, hn, S, kx, kr => by
    obtain ⟨e1, e2, e3⟩ := scan rays.length (by omega) hi
    have hd : rays.drop i = rays.getD i [] :: rays.drop (i + 1) := by
      rw [List.drop_eq_getElem_cons (by omega), List.getD_eq_getElem?_getD, List.getElem?_eq_getElem (by omega)]; rfl
    have hmem : rays.getD i [] ∈ rays := by
      rw [List.getD_eq_getElem?_getD, List.getElem?_eq_getElem (by omega)]
      exact List.getElem_mem _
    have ih := N_ref07_Hits_0_eq b hb to rays hr hsq hll d (i + 1) n (by omega) (by omega) kx kr
    have hin : ∀ (kx : Int → Int → List Int → List (List Int) → Option S) (kr : Bool → Option S), L_ref07_Hits_2 to (i : Int) 0 b rays kx kr = bif rayReach b to (rays.getD i []) then kr true else kx to (i : Int) b rays := by
      intro kx kr
      rw [L_ref07_Hits_2_N]
      exact N_ref07_Hits_2_eq b to rays hr i (by omega) _ rfl (hsq _ hmem) (hll _ hmem) (rays.getD i []).length 0 _ (Nat.zero_add _) (by have := hll _ hmem; omega) kx kr
    rw [N_ref07_Hits_0_succ]
    unfold R_ref07_Hits_0
    rw [hin, e1, e3, hd]
    simp only [cond_true, ih, List.any_cons]
    cases rayReach b to (rays.getD i []) <;> rfl

/-- Does the man on one square strike another one? -/
def hitsR (b : List Int) (s to : Int) : Bool := (ofM (b.getD s.toNat 0) s).any (rayReach b to)

theorem ref07_Hits_eq {b : List Int} (hb : Bd b) {s : Int} (hs : 0 ≤ s ∧ s < 64) (to : Int) {S : Type} (k : Bool → Option S) : F_ref07_Hits b s to k = k (hitsR b s to) := by
  unfold F_ref07_Hits R_ref07_Hits
  rw [inB_true (n := 64) hs, hb.w]
  simp only [ref06_Of_eq hs]
  have hin : ∀ (kx : Option S) (kr : Bool → Option S), L_ref07_Hits_0 to 0 b (ofM (b.getD s.toNat 0) s) kx kr = bif hitsR b s to then kr true else kx := by
    intro kx kr
    rw [L_ref07_Hits_0_N]
    exact N_ref07_Hits_0_eq b hb.1 to _ ofM_len.1 ofM_right ofM_len.2 (ofM (b.getD s.toNat 0) s).length 0 _ (Nat.zero_add _) (by have := (ofM_len (m := b.getD s.toNat 0) (s := s)).1; omega) kx kr
  rw [hin]
  cases hitsR b s to <;> rfl

def byL (b : List Int) (s side : Int) (i d : Nat) : List Int := ((List.range' i d).filter fun (f : Nat) => sideM (b.getD f 0) == side && hitsR b (f : Int) s).map fun (f : Nat) => (f : Int)

theorem N_ref07_By_0_eq {b : List Int} (hb : Bd b) (s side : Int) : ∀ (d i n : Nat) (out : List Int), i + d = 64 → d < n → out.length ≤ i → ∀ {S : Type} (kx : List Int → Option S) (kr : Option S),
    N_ref07_By_0 n s side (i : Int) b out kx kr = kx (out ++ byL b s side i d)
  | 0, i, n + 1, out, hi, hn, ho, S, kx, kr => by
    obtain rfl : i = 64 := by omega
    rw [N_ref07_By_0_succ]
    unfold R_ref07_By_0 byL
    simp
  | d + 1, i, n + 1, out, hi, hn, ho, S, kx, kr => by
    obtain ⟨e1, e2, e3⟩ := scan 64 (by omega) hi
    rw [N_ref07_By_0_succ]
    unfold R_ref07_By_0
    rw [show decide ((i : Int) < 64) = true from e1, show inB (i : Int) 64 = true from e2, show List.set (List.replicate 1 (0 : Int)) 0 (i : Int) = [(i : Int)] from rfl,
      show decide (out.length + [(i : Int)].length ≤ 34359738368) = true by simp; omega]
    simp only [e3, cond_true, Int.toNat_natCast, hb.w, ref02_Side_eq, ref07_Hits_eq hb (s := (i : Int)) (by omega), N_ref07_By_0_eq hb s side d (i + 1) n out (by omega) (by omega) (by omega), N_ref07_By_0_eq hb s side d (i + 1) n (out ++ [(i : Int)]) (by omega) (by omega) (by simp; omega)]
    unfold byL
    simp only [List.range'_succ, List.filter_cons]
    cases sideM (b.getD i 0) == side <;> cases hitsR b (i : Int) s <;> simp

theorem ref07_By_eq {b : List Int} (hb : Bd b) (hr : rightB b = true) {s : Int} (hs : 0 ≤ s ∧ s < 64) (side : Int) {S : Type} (k : List Int → Option S) : F_ref07_By b s side k = k (byL b s side 0 64) := by
  unfold F_ref07_By R_ref07_By
  simp only [ref03_Right_eq hb, hr]
  have hin : ∀ (kx : List Int → Option S) (kr : Option S), L_ref07_By_0 s side 0 b [] kx kr = kx (byL b s side 0 64) := by
    intro kx kr
    rw [L_ref07_By_0_N]
    exact N_ref07_By_0_eq hb s side 64 0 _ [] rfl (by simp; omega) (by simp) kx kr
  rw [hin, show decide (s < 0) = false by simp; omega, show decide (s > 63) = false by simp; omega]
  rfl

theorem whereL_head (b : List Int) (m : Int) : whereL b m 0 64 = [] ∧ whereB b m = none ∨ ∃ (s : Nat) (l : List Int), whereL b m 0 64 = (s : Int) :: l ∧ whereB b m = some s := by
  unfold whereL whereB
  have h : ((List.range' 0 64).filter fun s => b.getD s 0 == m).head? = (List.range' 0 64).find? fun s => b.getD s 0 == m := List.head?_filter
  cases hq : (List.range' 0 64).filter fun s => b.getD s 0 == m with
  | nil => rw [hq] at h; exact .inl ⟨rfl, h.symm⟩
  | cons s l => rw [hq] at h; exact .inr ⟨s, l.map fun (s : Nat) => (s : Int), rfl, h.symm⟩

theorem ref07_King_eq {b : List Int} (hb : Bd b) {side : Int} (hs : side = 0 ∨ side = 1) {S : Type} (k : Int → Option S) : F_ref07_King b side k = k (kingB b side) := by
  unfold F_ref07_King R_ref07_King kingB
  simp only [ref03_Where_eq hb]
  rcases hs with rfl | rfl
  · rw [show makeM 6 0 = 6 from rfl]
    rcases whereL_head b 6 with ⟨h1, h2⟩ | ⟨s, l, h1, h2⟩
    · rw [h1, h2]; rfl
    · rw [h1, h2]
      have e1 : ((((((s : Int) :: l).length : Nat) : Int)) == 0) = false := by simp; omega
      have e2 : inB 0 ((s : Int) :: l).length = true := inB_true (by simp)
      rw [e1, e2]; rfl
  · rw [show makeM 6 1 = -6 from rfl]
    rcases whereL_head b (-6) with ⟨h1, h2⟩ | ⟨s, l, h1, h2⟩
    · rw [h1, h2]; rfl
    · rw [h1, h2]
      have e1 : ((((((s : Int) :: l).length : Nat) : Int)) == 0) = false := by simp; omega
      have e2 : inB 0 ((s : Int) :: l).length = true := inB_true (by simp)
      rw [e1, e2]; rfl

theorem kingB_bounds (b : List Int) (side : Int) : -1 ≤ kingB b side ∧ kingB b side < 64 := by
  unfold kingB
  cases makeM 6 side != 0 with
  | false => simp
  | true =>
    simp only [cond_true]
    cases h : whereB b (makeM 6 side) with
    | none => simp
    | some s =>
      have := List.mem_of_find?_eq_some h
      simp [List.mem_range'_1] at this
      simp; omega

def checkR (b : List Int) (side : Int) : Bool := decide (kingB b side ≥ 0) && decide ((((byL b (kingB b side) (1 - side) 0 64).length : Nat) : Int) > 0)
theorem ref07_Check_eq {b : List Int} (hb : Bd b) (hr : rightB b = true) {side : Int} (hs : side = 0 ∨ side = 1) {S : Type} (k : Bool → Option S) : F_ref07_Check b side k = k (checkR b side) := by
  unfold F_ref07_Check R_ref07_Check checkR
  simp only [ref07_King_eq hb hs]
  rw [w64 (x := 1 - side) (by omega)]
  cases h : decide (kingB b side ≥ 0) with
  | false => rfl
  | true =>
    have hk := kingB_bounds b side
    have h' : kingB b side ≥ 0 := by simpa using h
    simp only [cond_true, ref07_By_eq hb hr (s := kingB b side) ⟨h', hk.2⟩, Bool.true_and]

def men12 : List Int := [1, -1, 2, -2, 3, -3, 4, -4, 5, -5, 6, -6]
def eqL (a b : List Int) : Bool := beqL (fun x y => x == y) a b
theorem eqL_eq : ∀ {a b : List Int}, eqL a b = true → a = b
  | [], [], _ => rfl
  | x :: a, y :: b, h => by
    simp only [eqL, beqL, Bool.and_eq_true] at h
    have h1 : x = y := by simpa using h.1
    rw [h1, eqL_eq (a := a) (b := b) h.2]
  | [], _ :: _, h | _ :: _, [], h => by simp [eqL, beqL] at h
def geoB : Bool := men12.all fun m => (List.range 64).all fun s => (stepsM (0 - m)).all fun y =>
  (List.range (walkS (mostM (0 - m)) (s : Nat) y.1 y.2.1).length).all fun i => (stepsM m).any fun y' =>
    eqL ((walkS (mostM m) ((walkS (mostM (0 - m)) (s : Nat) y.1 y.2.1).getD i 0) y'.1 y'.2.1).take (i + 1)) (((walkS (mostM (0 - m)) (s : Nat) y.1 y.2.1).take i).reverse ++ [((s : Nat) : Int)])
theorem geo : geoB = true := by kernel_rfl

theorem geo_of {m : Int} (hm : rightM m = true) {s : Int} (hs : 0 ≤ s ∧ s < 64) {y : StepD} (hy : y ∈ stepsM (0 - m)) {i : Nat} (hi : i < (walkS (mostM (0 - m)) s y.1 y.2.1).length) :
    ∃ y' ∈ stepsM m, (walkS (mostM m) ((walkS (mostM (0 - m)) s y.1 y.2.1).getD i 0) y'.1 y'.2.1).take (i + 1) = ((walkS (mostM (0 - m)) s y.1 y.2.1).take i).reverse ++ [s] := by
  have h := geo
  unfold geoB at h
  rw [List.all_eq_true] at h
  have h1 := h m (by rcases men_cases hm with rfl | rfl | rfl | rfl | rfl | rfl | rfl | rfl | rfl | rfl | rfl | rfl <;> decide)
  rw [List.all_eq_true] at h1
  have h2 := h1 s.toNat (by simp; omega)
  rw [show ((s.toNat : Nat) : Int) = s by omega] at h2
  rw [List.all_eq_true] at h2
  have h3 := h2 y hy
  rw [List.all_eq_true] at h3
  have h4 := h3 i (by simpa using hi)
  rw [List.any_eq_true] at h4
  obtain ⟨y', hy', h5⟩ := h4
  exact ⟨y', hy', eqL_eq h5⟩

/-- What is reached along a ray. -/
theorem reach_take {b : List Int} {to : Int} : ∀ (pre l : List Int), l.take (pre.length + 1) = pre ++ [to] → (∀ x ∈ pre, b.getD x.toNat 0 = 0) → rayReach b to l = true
  | [], [], h, _ => by simp at h
  | [], x :: l, h, _ => by
    simp at h
    subst h
    simp [rayReach]
  | p :: pre, [], h, _ => by simp at h
  | p :: pre, x :: l, h, hp => by
    simp only [List.length_cons, List.take_succ_cons, List.cons_append, List.cons.injEq] at h
    obtain ⟨rfl, h⟩ := h
    have h0 := hp x (by simp)
    simp only [rayReach, h0, reach_take pre l h (fun y hy => hp y (by simp [hy]))]
    simp

theorem reach_spec {b : List Int} {to : Int} : ∀ l : List Int, rayReach b to l = true → ∃ i, i < l.length ∧ l.getD i 0 = to ∧ ∀ x ∈ l.take i, b.getD x.toNat 0 = 0
  | [], h => by cases h
  | x :: l, h => by
    simp only [rayReach, Bool.or_eq_true, Bool.and_eq_true] at h
    rcases h with h | ⟨h1, h2⟩
    · exact ⟨0, by simp, by simpa using h, by simp⟩
    · obtain ⟨i, g1, g2, g3⟩ := reach_spec l h2
      refine ⟨i + 1, by simpa using g1, by simpa using g2, ?_⟩
      intro y hy
      simp only [List.take_succ_cons, List.mem_cons] at hy
      rcases hy with rfl | hy
      · simpa using h1
      · exact g3 y hy

theorem hit_spec {b : List Int} {man : Int} : ∀ l : List Int, rayHit b man l = true → ∃ i, i < l.length ∧ b.getD (l.getD i 0).toNat 0 = man ∧ ∀ x ∈ l.take i, b.getD x.toNat 0 = 0
  | [], h => by cases h
  | x :: l, h => by
    simp only [rayHit, Bool.or_eq_true, Bool.and_eq_true] at h
    rcases h with h | ⟨h1, h2⟩
    · exact ⟨0, by simp, by simpa using h, by simp⟩
    · obtain ⟨i, g1, g2, g3⟩ := hit_spec l h2
      refine ⟨i + 1, by simpa using g1, by simpa using g2, ?_⟩
      intro y hy
      simp only [List.take_succ_cons, List.mem_cons] at hy
      rcases hy with rfl | hy
      · simpa using h1
      · exact g3 y hy

theorem hit_take {b : List Int} {man to : Int} (hm : b.getD to.toNat 0 = man) : ∀ (pre l : List Int), l.take (pre.length + 1) = pre ++ [to] → (∀ x ∈ pre, b.getD x.toNat 0 = 0) → rayHit b man l = true
  | [], [], h, _ => by simp at h
  | [], x :: l, h, _ => by
    simp at h
    subst h
    simp only [rayHit, hm]
    simp
  | p :: pre, [], h, _ => by simp at h
  | p :: pre, x :: l, h, hp => by
    simp only [List.length_cons, List.take_succ_cons, List.cons_append, List.cons.injEq] at h
    obtain ⟨rfl, h⟩ := h
    have h0 := hp x (by simp)
    simp only [rayHit, h0, hit_take hm pre l h (fun y hy => hp y (by simp [hy]))]
    simp

theorem neg_right {m : Int} (h : rightM m = true) : rightM (0 - m) = true := by
  rcases men_cases h with rfl | rfl | rfl | rfl | rfl | rfl | rfl | rfl | rfl | rfl | rfl | rfl <;> rfl

/-- A man of a kind strikes a square just if it stands where the rays from the square lead. -/
theorem along_iff {b : List Int} {m : Int} (hm : rightM m = true) {s : Int} (hs : 0 ≤ s ∧ s < 64) :
    alongHit b m s (mostM (0 - m)) (stepsM (0 - m)) = true ↔ ∃ f : Int, 0 ≤ f ∧ f < 64 ∧ b.getD f.toNat 0 = m ∧ hitsR b f s = true := by
  unfold alongHit
  rw [List.any_eq_true]
  constructor
  · rintro ⟨y, hy, h⟩
    obtain ⟨i, g1, g2, g3⟩ := hit_spec _ h
    obtain ⟨y', hy', g4⟩ := geo_of hm hs hy g1
    have hf : 0 ≤ (walkS (mostM (0 - m)) s y.1 y.2.1).getD i 0 ∧ (walkS (mostM (0 - m)) s y.1 y.2.1).getD i 0 < 64 := by
      rw [List.getD_eq_getElem?_getD, List.getElem?_eq_getElem g1]
      exact walkS_right _ _ _ _ _ (List.getElem_mem _)
    refine ⟨_, hf.1, hf.2, g2, ?_⟩
    unfold hitsR ofM
    rw [g2, hm]
    simp only [cond_true, List.any_eq_true]
    have hreach : rayReach b s (walkS (mostM m) ((walkS (mostM (0 - m)) s y.1 y.2.1).getD i 0) y'.1 y'.2.1) = true := by
      refine reach_take ((walkS (mostM (0 - m)) s y.1 y.2.1).take i).reverse _ ?_ (fun x hx => g3 x (by simpa using hx))
      rw [← g4]
      congr 1
      rw [List.length_reverse, List.length_take]; omega
    refine ⟨_, ?_, hreach⟩
    unfold ofS
    rw [List.mem_filter]
    refine ⟨List.mem_map.2 ⟨y', hy', rfl⟩, ?_⟩
    cases hq : walkS (mostM m) ((walkS (mostM (0 - m)) s y.1 y.2.1).getD i 0) y'.1 y'.2.1 with
    | nil => rw [hq] at hreach; cases hreach
    | cons _ _ => rfl
  · rintro ⟨f, hf0, hf1, hbf, h⟩
    unfold hitsR ofM at h
    rw [hbf, hm] at h
    simp only [cond_true, List.any_eq_true, ofS, List.mem_filter, List.mem_map] at h
    obtain ⟨_, ⟨⟨y, hy, rfl⟩, _⟩, h⟩ := h
    obtain ⟨i, g1, g2, g3⟩ := reach_spec _ h
    have hn := neg_right hm
    have e : 0 - (0 - m) = m := by omega
    obtain ⟨y', hy', g4⟩ := geo_of hn ⟨hf0, hf1⟩ (y := y) (by rw [e]; exact hy) (i := i) (by rw [e]; exact g1)
    rw [e, g2] at g4
    refine ⟨y', hy', ?_⟩
    refine hit_take (to := f) hbf ((walkS (mostM m) f y.1 y.2.1).take i).reverse _ ?_ (fun x hx => g3 x (by simpa using hx))
    rw [← g4]
    congr 1
    rw [List.length_reverse, List.length_take]; omega

theorem make_of {m side : Int} (hm : rightM m = true) (hs : sideM m = side) : ∃ k : Nat, 1 ≤ k ∧ k < 7 ∧ makeM (k : Int) side = m := by
  subst hs
  rcases men_cases hm with rfl | rfl | rfl | rfl | rfl | rfl | rfl | rfl | rfl | rfl | rfl | rfl
  · exact ⟨1, by decide⟩
  · exact ⟨1, by decide⟩
  · exact ⟨2, by decide⟩
  · exact ⟨2, by decide⟩
  · exact ⟨3, by decide⟩
  · exact ⟨3, by decide⟩
  · exact ⟨4, by decide⟩
  · exact ⟨4, by decide⟩
  · exact ⟨5, by decide⟩
  · exact ⟨5, by decide⟩
  · exact ⟨6, by decide⟩
  · exact ⟨6, by decide⟩

theorem make_right {k : Nat} (hk : 1 ≤ k ∧ k < 7) {side : Int} (hs : side = 0 ∨ side = 1) : rightM (makeM (k : Int) side) = true ∧ sideM (makeM (k : Int) side) = side := by
  have : k = 1 ∨ k = 2 ∨ k = 3 ∨ k = 4 ∨ k = 5 ∨ k = 6 := by omega
  rcases this with rfl | rfl | rfl | rfl | rfl | rfl <;> rcases hs with rfl | rfl <;> decide

theorem hits_same {b : List Int} {s : Int} (hs : 0 ≤ s ∧ s < 64) {side : Int} (hsd : side = 0 ∨ side = 1) : hitsB b s side = decide ((((byL b s side 0 64).length : Nat) : Int) > 0) := by
  rw [Bool.eq_iff_iff]
  unfold hitsB
  rw [List.any_eq_true]
  constructor
  · rintro ⟨k, hk, h⟩
    simp only [List.mem_range'_1] at hk
    obtain ⟨r1, r2⟩ := make_right (k := k) (by omega) hsd
    obtain ⟨f, f0, f1, f2, f3⟩ := (along_iff r1 hs).1 h
    have hmem : f ∈ byL b s side 0 64 := by
      unfold byL
      refine List.mem_map.2 ⟨f.toNat, List.mem_filter.2 ⟨by simp [List.mem_range'_1]; omega, ?_⟩, by omega⟩
      rw [f2, r2, show ((f.toNat : Nat) : Int) = f by omega, f3]
      simp
    have := List.length_pos_of_mem hmem
    simp; omega
  · intro h
    have h' : 0 < (byL b s side 0 64).length := by simpa using h
    obtain ⟨f, hf⟩ := List.exists_mem_of_length_pos h'
    unfold byL at hf
    obtain ⟨g, hg, rfl⟩ := List.mem_map.1 hf
    rw [List.mem_filter] at hg
    obtain ⟨hg1, hg2⟩ := hg
    simp only [List.mem_range'_1, Bool.and_eq_true, beq_iff_eq] at hg1 hg2
    obtain ⟨hg2, hg3⟩ := hg2
    have hr : rightM (b.getD g 0) = true := by
      cases hq : rightM (b.getD g 0) with
      | true => rfl
      | false =>
        unfold hitsR ofM at hg3
        rw [Int.toNat_natCast, hq] at hg3
        cases hg3
    obtain ⟨k, k1, k2, k3⟩ := make_of hr hg2
    refine ⟨k, by simp [List.mem_range'_1]; omega, ?_⟩
    rw [k3]
    exact (along_iff hr hs).2 ⟨g, by omega, by omega, by rw [Int.toNat_natCast], hg3⟩

theorem check_same {b : List Int} (hr : rightB b = true) {side : Int} (hs : side = 0 ∨ side = 1) : checkR b side = checkB b side := by
  unfold checkR checkB
  cases h : decide (kingB b side ≥ 0) with
  | false => rfl
  | true =>
    have hk := kingB_bounds b side
    have h' : kingB b side ≥ 0 := by simpa using h
    have ho : otherS side = 1 - side := by rcases hs with rfl | rfl <;> rfl
    have ho2 : decide (otherS (otherS side) ≥ 0) = true := by rcases hs with rfl | rfl <;> rfl
    rw [rightS_iff.2 ⟨h', hk.2⟩, hr, ho2, ho, hits_same (s := kingB b side) ⟨h', hk.2⟩ (side := 1 - side) (by omega)]
    rfl

end Go.Proofs.YtaldkopkfdgngaaGreatDoor

