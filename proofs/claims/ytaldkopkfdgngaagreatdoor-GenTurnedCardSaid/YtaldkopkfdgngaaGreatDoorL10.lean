/- Plain laws: the document's answer: rays, who strikes. -/
import Derived.Test.YtaldkopkfdgngaaGreatDoorL9
set_option linter.all false
set_option maxRecDepth 100000
namespace Go.Proofs.YtaldkopkfdgngaaGreatDoor
open Go Am

theorem N_ref06_Ray_0_eq (f r : Int) (hfr : (f == 0 && (r == 0 && true)) = false) : ∀ (m n : Nat) (s : Int) (out : List Int), (walkS m s f r).length < m → m ≤ n → out.length + m ≤ 1000 → ∀ {S : Type} (kx : List Int → Option S) (kr : Option S), N_ref06_Ray_0 n f r (stepR s f r) out kx kr = kx (out ++ walkS m s f r)
  | 0, n, s, out, hl, hn, ho, S, kx, kr => by simp [walkS] at hl
  | m + 1, n + 1, s, out, hl, hn, ho, S, kx, kr => by
    rw [N_ref06_Ray_0_succ]
    unfold R_ref06_Ray_0
    simp only [walkS] at hl ⊢
    unfold stepR at *
    cases hs : stepS s f r with
    | none => simp
    | some t =>
      rw [hs] at hl
      simp only [hfr, cond_false, List.length_cons] at hl
      have ht := stepS_right hs
      simp only [hfr, cond_false]
      rw [show decide (t ≥ 0) = true by simpa using ht.1, show List.set (List.replicate 1 (0 : Int)) 0 t = [t] from rfl, show decide (out.length + [t].length ≤ 34359738368) = true by simp; omega]
      simp only [cond_true, ref01_Step_eq]
      have ih := N_ref06_Ray_0_eq f r hfr m n t (out ++ [t]) (by omega) (by omega) (by simp; omega) kx kr
      unfold stepR at ih ⊢
      rw [ih]
      simp

def allSteps : List StepD := jumpsS ++ (slantS ++ straightS)
def shortB : Bool := (List.range 64).all fun s => allSteps.all fun y => decide ((walkS 9 (s : Nat) y.1 y.2.1).length < 9)
theorem short : shortB = true := by kernel_rfl

theorem walk_stable : ∀ (k : Nat) (s f r : Int), (walkS k s f r).length < k → ∀ n, k ≤ n → walkS n s f r = walkS k s f r
  | 0, s, f, r, h, n, hn => by simp [walkS] at h
  | k + 1, s, f, r, h, n + 1, hn => by
    simp only [walkS] at h ⊢
    cases hs : stepS s f r with
    | none => rfl
    | some t =>
      rw [hs] at h
      simp only at h ⊢
      cases hq : (f == 0 && (r == 0 && true)) with
      | true => rfl
      | false =>
        rw [hq] at h
        simp only [cond_false, List.length_cons] at h
        rw [walk_stable k t f r (by omega) n (by omega)]

theorem walk_take : ∀ (k n : Nat) (s f r : Int), k ≤ n → walkS k s f r = (walkS n s f r).take k
  | 0, n, s, f, r, h => by simp [walkS]
  | k + 1, n + 1, s, f, r, h => by
    simp only [walkS]
    cases stepS s f r with
    | none => rfl
    | some t =>
      simp only
      cases (f == 0 && (r == 0 && true)) with
      | true => rfl
      | false => simp only [cond_false, List.take_succ_cons]; rw [walk_take k n t f r (by omega)]

theorem short_of {s : Int} (hs : 0 ≤ s ∧ s < 64) {y : StepD} (hy : y ∈ allSteps) : (walkS 64 s y.1 y.2.1).length < 9 := by
  have h := short
  unfold shortB at h
  rw [List.all_eq_true] at h
  have h1 := h s.toNat (by simp; omega)
  rw [List.all_eq_true] at h1
  have h2 := h1 y hy
  rw [show ((s.toNat : Nat) : Int) = s by omega] at h2
  have h3 : (walkS 9 s y.1 y.2.1).length < 9 := by simpa using h2
  rw [walk_stable 9 s _ _ h3 64 (by omega)]
  exact h3

theorem step_ne {y : StepD} (hy : y ∈ allSteps) : (y.1 == 0 && (y.2.1 == 0 && true)) = false := by
  have : (allSteps.all fun y => !(y.1 == 0 && (y.2.1 == 0 && true))) = true := by decide
  rw [List.all_eq_true] at this
  have h := this y hy
  cases hq : (y.1 == 0 && (y.2.1 == 0 && true)) with
  | false => rfl
  | true => rw [hq] at h; cases h

theorem ref06_Ray_eq {s : Int} (hs : 0 ≤ s ∧ s < 64) {y : StepD} (hy : y ∈ allSteps) {S : Type} (k : List Int → Option S) : F_ref06_Ray s y.1 y.2.1 k = k (walkS 64 s y.1 y.2.1) := by
  have hne := step_ne hy
  have hsh := short_of hs hy
  have hL : ∀ (kx : List Int → Option S) (kr : Option S), L_ref06_Ray_0 y.1 y.2.1 (stepR s y.1 y.2.1) [] kx kr = kx (walkS 64 s y.1 y.2.1) := by
    intro kx kr
    rw [L_ref06_Ray_0_N, N_ref06_Ray_0_eq y.1 y.2.1 hne 64 _ s [] (by omega) (by simp) (by simp)]
    rfl
  unfold F_ref06_Ray R_ref06_Ray
  simp only [ref01_Step_eq]
  rw [hL]
  cases h1 : y.1 == 0 with
  | false => rfl
  | true =>
    cases h2 : y.2.1 == 0 with
    | false => rfl
    | true => rw [h1, h2] at hne; cases hne

theorem stepsM_all {m : Int} (h : rightM m = true) : ∀ y ∈ stepsM m, y ∈ allSteps := by
  have : ∀ c ∈ [(1 : Int), -1, 2, -2, 3, -3, 4, -4, 5, -5, 6, -6], ∀ y ∈ stepsM c, y ∈ allSteps := by decide
  apply this
  rcases men_cases h with rfl | rfl | rfl | rfl | rfl | rfl | rfl | rfl | rfl | rfl | rfl | rfl <;> decide

def flat : List StepD → List Int
  | [] => []
  | y :: l => y.1 :: y.2.1 :: flat l
theorem flat_len : ∀ l : List StepD, (flat l).length = 2 * l.length
  | [] => rfl
  | y :: l => by simp [flat, flat_len l]; omega
theorem flat_get : ∀ (l : List StepD) (j : Nat), j < l.length → (flat l).getD (2 * j) 0 = (l.getD j (0, 0, ())).1 ∧ (flat l).getD (2 * j + 1) 0 = (l.getD j (0, 0, ())).2.1
  | [], j, h => by simp at h
  | y :: l, 0, h => ⟨rfl, rfl⟩
  | y :: l, j + 1, h => by
    have := flat_get l j (by simpa using h)
    rw [show 2 * (j + 1) = 2 * j + 1 + 1 by omega]
    simpa [flat] using this

theorem ref06_Steps_eq {m : Int} (h : rightM m = true) {S : Type} (k : List Int → Option S) : F_ref06_Steps m k = k (flat (stepsM m)) := by
  unfold F_ref06_Steps R_ref06_Steps
  simp only [ref02_Kind_eq]
  rcases men_cases h with rfl | rfl | rfl | rfl | rfl | rfl | rfl | rfl | rfl | rfl | rfl | rfl <;> rfl
theorem ref06_Steps_none {m : Int} (h : rightM m = false) {S : Type} (k : List Int → Option S) : F_ref06_Steps m k = k [] := by
  unfold F_ref06_Steps R_ref06_Steps
  simp only [ref02_Kind_eq]
  have : kindM m = 0 := by unfold kindM; rw [h]; rfl
  rw [this]; rfl

def slidesM (m : Int) : Bool := kindM m == 3 || (kindM m == 4 || kindM m == 5)
theorem ref06_Slides_eq (m : Int) {S : Type} (k : Bool → Option S) : F_ref06_Slides m k = k (slidesM m) := by
  unfold F_ref06_Slides R_ref06_Slides slidesM
  simp only [ref02_Kind_eq]
  cases kindM m == 3 <;> cases kindM m == 4 <;> rfl
theorem slides_most {m : Int} (h : rightM m = true) : (slidesM m = true ∧ mostM m = 64) ∨ (slidesM m = false ∧ mostM m = 1) := by
  rcases men_cases h with rfl | rfl | rfl | rfl | rfl | rfl | rfl | rfl | rfl | rfl | rfl | rfl <;> decide

def ofS (m s : Int) (l : List StepD) : List (List Int) := (l.map fun y => walkS (mostM m) s y.1 y.2.1).filter fun l => !l.isEmpty

theorem N_ref06_Of_0_eq {m : Int} (hm : rightM m = true) {s : Int} (hs : 0 ≤ s ∧ s < 64) (L : List StepD) (hL : ∀ y ∈ L, y ∈ allSteps) (hl : L.length ≤ 64) : ∀ (d j n : Nat) (out : List (List Int)), j + d = L.length → d < n → out.length ≤ j → ∀ {S : Type} (kx : List (List Int) → Option S) (kr : Option S),
    N_ref06_Of_0 n m s ((2 * j : Nat) : Int) out (flat L) kx kr = kx (out ++ ofS m s (L.drop j))
  | 0, j, n + 1, out, hj, hn, ho, S, kx, kr => by
    rw [N_ref06_Of_0_succ]
    unfold R_ref06_Of_0
    rw [show decide (((2 * j : Nat) : Int) < (((flat L).length : Nat) : Int)) = false by simp [flat_len]; omega, List.drop_eq_nil_of_le (by omega)]
    simp [ofS]
  | d + 1, j, n + 1, out, hj, hn, ho, S, kx, kr => by
    obtain ⟨g1, g2⟩ := flat_get L j (by omega)
    have hd : L.drop j = L.getD j (0, 0, ()) :: L.drop (j + 1) := by
      rw [List.drop_eq_getElem_cons (by omega), List.getD_eq_getElem?_getD, List.getElem?_eq_getElem (by omega)]; rfl
    have hy : L.getD j (0, 0, ()) ∈ allSteps := by
      apply hL
      rw [List.getD_eq_getElem?_getD, List.getElem?_eq_getElem (by omega)]
      exact List.getElem_mem _
    have hsh := short_of hs hy
    have fl := flat_len L
    rw [N_ref06_Of_0_succ]
    unfold R_ref06_Of_0
    rw [show decide (((2 * j : Nat) : Int) < (((flat L).length : Nat) : Int)) = true by simp [flat_len]; omega, inB_true (j := ((2 * j : Nat) : Int)) (n := (flat L).length) (by omega), w64 (x := ((2 * j : Nat) : Int) + 1) (by omega),
      inB_true (j := ((2 * j : Nat) : Int) + 1) (n := (flat L).length) (by omega), show (((2 * j : Nat) : Int) + 1).toNat = 2 * j + 1 by omega, show (((2 * j : Nat) : Int)).toNat = 2 * j by omega, g1, g2,
      show IntKind.wrap .i64 (((2 * j : Nat) : Int) + 2) = ((2 * (j + 1) : Nat) : Int) by rw [w64 (by omega)]; omega]
    simp only [cond_true, ref06_Ray_eq hs hy, ref06_Slides_eq]
    have hmt : walkS (mostM m) s (L.getD j (0, 0, ())).1 (L.getD j (0, 0, ())).2.1 = (walkS 64 s (L.getD j (0, 0, ())).1 (L.getD j (0, 0, ())).2.1).take (mostM m) := walk_take _ _ _ _ _ (mostM_le m)
    rw [hd]
    have hof : ofS m s (L.getD j (0, 0, ()) :: L.drop (j + 1)) = (bif ((walkS 64 s (L.getD j (0, 0, ())).1 (L.getD j (0, 0, ())).2.1).take (mostM m)).isEmpty then [] else [(walkS 64 s (L.getD j (0, 0, ())).1 (L.getD j (0, 0, ())).2.1).take (mostM m)]) ++ ofS m s (L.drop (j + 1)) := by
      unfold ofS
      rw [List.map_cons, List.filter_cons, hmt]
      cases ((walkS 64 s (L.getD j (0, 0, ())).1 (L.getD j (0, 0, ())).2.1).take (mostM m)).isEmpty <;> simp
    rw [hof]
    generalize walkS 64 s (L.getD j (0, 0, ())).1 (L.getD j (0, 0, ())).2.1 = l at *
    have hs1 : ∀ z : List Int, List.set (List.replicate 1 ([] : List Int)) 0 z = [z] := fun z => rfl
    have hs2 : ∀ z : List Int, decide (out.length + [z].length ≤ 34359738368) = true := fun z => by simp; omega
    have ih0 := N_ref06_Of_0_eq hm hs L hL hl d (j + 1) n out (by omega) (by omega) (by omega) kx kr
    have ih1 : ∀ z : List Int, N_ref06_Of_0 n m s ((2 * (j + 1) : Nat) : Int) (out ++ [z]) (flat L) kx kr = kx (out ++ [z] ++ ofS m s (L.drop (j + 1))) := fun z => N_ref06_Of_0_eq hm hs L hL hl d (j + 1) n (out ++ [z]) (by omega) (by omega) (by simp; omega) kx kr
    simp only [hs1, hs2, cond_true, ih0, ih1]
    cases l with
    | nil => simp
    | cons a l =>
      cases l with
      | nil =>
        rcases slides_most hm with ⟨q1, q2⟩ | ⟨q1, q2⟩ <;> simp [q2]
      | cons a' l =>
        rcases slides_most hm with ⟨q1, q2⟩ | ⟨q1, q2⟩
        · rw [q1, q2, List.take_of_length_le (i := 64) (l := a :: a' :: l) (by simp at hsh ⊢; omega)]
          have e : decide ((((a :: a' :: l).length : Nat) : Int) > 1) = true := by simp; omega
          have e' : decide ((((a :: a' :: l).length : Nat) : Int) > 0) = true := by simp; omega
          rw [e, e']
          simp
        · rw [q1, q2]
          have e : decide ((((a :: a' :: l).length : Nat) : Int) > 1) = true := by simp; omega
          have e' : decide (1 ≤ (((a :: a' :: l).length : Nat) : Int)) = true := by simp; omega
          rw [e, e']
          simp

end Go.Proofs.YtaldkopkfdgngaaGreatDoor

