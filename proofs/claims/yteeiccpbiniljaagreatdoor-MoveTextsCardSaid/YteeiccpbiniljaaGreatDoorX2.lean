/- Plain laws: a square is read from its name. -/
import Derived.Test.YteeiccpbiniljaaGreatDoorX1
set_option linter.all false
set_option maxRecDepth 100000
namespace Go.Proofs.YteeiccpbiniljaaGreatDoor
open Go Am

def sqL : List UInt8 → Option Int
  | [a, b] => bif (decide (97 ≤ a.toNat) && decide (a.toNat ≤ 104)) && (decide (49 ≤ b.toNat) && decide (b.toNat ≤ 56)) then some (8 * ((b.toNat : Int) - 49) + ((a.toNat : Int) - 97)) else none
  | _ => none

theorem sqL_sound {l : List UInt8} {s : Int} (h : sqL l = some s) : (0 ≤ s ∧ s < 64) ∧ l = nameL s := by
  match l, h with
  | [a, b], h =>
    simp only [sqL] at h
    cases hq : (decide (97 ≤ a.toNat) && decide (a.toNat ≤ 104)) && (decide (49 ≤ b.toNat) && decide (b.toNat ≤ 56)) with
    | false => rw [hq] at h; cases h
    | true =>
      rw [hq] at h
      simp only [Bool.and_eq_true, decide_eq_true_eq] at hq
      simp only [cond_true, Option.some.injEq] at h
      refine ⟨by omega, ?_⟩
      unfold nameL
      have e1 : 97 + (s % 8).toNat = a.toNat := by omega
      have e2 : 49 + (s / 8).toNat = b.toNat := by omega
      rw [e1, e2, UInt8.ofNat_toNat, UInt8.ofNat_toNat]

def sqB : Bool := (List.range 64).all fun n => sqL (nameL (n : Nat)) == some ((n : Nat) : Int)
theorem sq_all : sqB = true := by kernel_rfl
theorem sqL_name {s : Int} (hs : 0 ≤ s ∧ s < 64) : sqL (nameL s) = some s := by
  have h := sq_all
  unfold sqB at h
  rw [List.all_eq_true] at h
  have h1 := h s.toNat (by simp; omega)
  rw [Int.toNat_of_nonneg hs.1] at h1
  simpa using h1

theorem mk_get {l : List UInt8} {i : Nat} (h : i < (mkB l).size) : (mkB l)[i]'h = l[i]'(by rw [mkB_size] at h; exact h) := by
  show ((mkB l).data)[i] = _
  simp [mkB]

/-- What is decoded at a place. -/
theorem dec_mk {l : List UInt8} {i : Nat} (h : i < l.length) : (l[i].toNat < 128 ∧ Utf8.decode (mkB l) i = (l[i].toNat, 1)) ∨ (128 ≤ l[i].toNat ∧ 128 ≤ (Utf8.decode (mkB l) i).1 ∧ 1 ≤ (Utf8.decode (mkB l) i).2) := by
  have h' : i < (mkB l).size := by rw [mkB_size]; exact h
  have := dec_cases (mkB l) i h'
  rw [mk_get h'] at this
  exact this

theorem w32 {x : Int} (h : 0 ≤ x ∧ x ≤ 1000) : IntKind.wrap .i32 x = x := by
  simp [IntKind.wrap, IntKind.bits, IntKind.signed]; split <;> omega

section
variable {S : Type} (kx : Int → List Int → Option S) (kr : Int → Bool → Option S)

theorem sq_two (n : Nat) (at' : List Int) (l : List UInt8) : N_square_Parse_0 (n + 1) 2 at' (mkB l) 2 kx kr = bif decide (2 < l.length) then kr 0 false else kx 2 at' := by
  rw [N_square_Parse_0_succ]
  unfold R_square_Parse_0
  rw [mkB_size]
  cases decide (2 < l.length) <;> rfl

theorem sq_one (n : Nat) (x : Int) (a : UInt8) (l : List UInt8) : N_square_Parse_0 (n + 2) 1 [x, 0] (mkB (a :: l)) 1 kx kr = match l with
    | [] => kx 1 [x, 0]
    | b :: r => bif decide (49 ≤ b.toNat) && decide (b.toNat ≤ 56) then (match r with | [] => kx 2 [x, (b.toNat : Int) - 49] | _ :: _ => kr 0 false) else kr 0 false := by
  rw [N_square_Parse_0_succ]
  unfold R_square_Parse_0
  rw [mkB_size]
  cases l with
  | nil => rfl
  | cons b r =>
    rw [show decide (1 < (a :: b :: r).length) = true by simp]
    simp only [cond_true, show ((1 : Int) == 0) = false from rfl, show ((1 : Int) == 1) = true from rfl, cond_false]
    rcases dec_mk (l := a :: b :: r) (i := 1) (by simp) with ⟨h1, h2⟩ | ⟨h1, h2, h3⟩
    · rw [h2]
      change b.toNat < 128 at h1
      simp only [List.getElem_cons_succ, List.getElem_cons_zero]
      rw [show decide (((b.toNat : Nat) : Int) ≥ 49) = decide (49 ≤ b.toNat) by rw [decide_eq_decide]; omega, show decide (((b.toNat : Nat) : Int) ≤ 56) = decide (b.toNat ≤ 56) by rw [decide_eq_decide]; omega]
      cases h4 : decide (49 ≤ b.toNat) with
      | false => rfl
      | true =>
        cases h5 : decide (b.toNat ≤ 56) with
        | false => rfl
        | true =>
          simp only [decide_eq_true_eq] at h4 h5
          rw [w32 (by omega), w64 (x := (b.toNat : Int) - 49) (by omega)]
          simp only [cond_true, Bool.and_self]
          refine (sq_two kx kr n _ (a :: b :: r)).trans ?_
          cases r with
          | nil => rfl
          | cons c r => rw [show decide (2 < (a :: b :: c :: r).length) = true by simp]; rfl
    · change 128 ≤ b.toNat at h1
      rw [show decide ((((Utf8.decode (mkB (a :: b :: r)) 1).1 : Nat) : Int) ≥ 49) = true by simp; omega, show decide ((((Utf8.decode (mkB (a :: b :: r)) 1).1 : Nat) : Int) ≤ 56) = false by simp; omega,
        show decide (b.toNat ≤ 56) = false by simp; omega]
      simp only [cond_true, cond_false, Bool.and_false]

theorem sq_zero (n : Nat) (l : List UInt8) : N_square_Parse_0 (n + 3) 0 [0, 0] (mkB l) 0 kx kr = match l with
    | [] => kx 0 [0, 0]
    | a :: r => bif decide (97 ≤ a.toNat) && decide (a.toNat ≤ 104) then N_square_Parse_0 (n + 2) 1 [(a.toNat : Int) - 97, 0] (mkB (a :: r)) 1 kx kr else kr 0 false := by
  rw [N_square_Parse_0_succ]
  unfold R_square_Parse_0
  rw [mkB_size]
  cases l with
  | nil => rfl
  | cons a r =>
    rw [show decide (0 < (a :: r).length) = true by simp]
    simp only [cond_true, show ((0 : Int) == 0) = true from rfl, show ((0 : Int) == 1) = false from rfl, cond_false]
    rcases dec_mk (l := a :: r) (i := 0) (by simp) with ⟨h1, h2⟩ | ⟨h1, h2, h3⟩
    · rw [h2]
      change a.toNat < 128 at h1
      simp only [List.getElem_cons_zero]
      rw [show decide (((a.toNat : Nat) : Int) ≥ 97) = decide (97 ≤ a.toNat) by rw [decide_eq_decide]; omega, show decide (((a.toNat : Nat) : Int) ≤ 104) = decide (a.toNat ≤ 104) by rw [decide_eq_decide]; omega]
      cases h4 : decide (97 ≤ a.toNat) with
      | false => rfl
      | true =>
        cases h5 : decide (a.toNat ≤ 104) with
        | false => rfl
        | true =>
          simp only [decide_eq_true_eq] at h4 h5
          rw [w32 (by omega), w64 (x := (a.toNat : Int) - 97) (by omega), show IntKind.wrap .i64 (0 + 1) = 1 from rfl]
          simp only [cond_true, Bool.and_self]
          rfl
    · change 128 ≤ a.toNat at h1
      rw [show decide ((((Utf8.decode (mkB (a :: r)) 0).1 : Nat) : Int) ≥ 97) = true by simp; omega, show decide ((((Utf8.decode (mkB (a :: r)) 0).1 : Nat) : Int) ≤ 104) = false by simp; omega,
        show decide (a.toNat ≤ 104) = false by simp; omega]
      simp only [cond_true, cond_false, Bool.and_false]
end

theorem square_At_on {f r : Int} (hf : 0 ≤ f ∧ f < 8) (hr : 0 ≤ r ∧ r < 8) {S : Type} (k : Int → Bool → Option S) : F_square_At f r k = k (8 * r + f) true := by
  unfold F_square_At R_square_At
  simp only [square_on_eq, onS_iff.2 hf, onS_iff.2 hr, Bool.not_true, cond_false]
  rw [w64 (x := 8 * r) (by omega), w64 (by omega)]

theorem square_Parse_eq (l : List UInt8) {S : Type} (k : Int → Bool → Option S) : F_square_Parse (mkB l) k = match sqL l with | some s => k s true | none => k 0 false := by
  unfold F_square_Parse R_square_Parse
  rw [L_square_Parse_0_N]
  obtain ⟨n, hn⟩ : ∃ n, 100 + ([0, 0] : List Int).length + (mkB l).size = n + 3 := ⟨99 + (mkB l).size, by simp; omega⟩
  rw [hn, sq_zero]
  cases l with
  | nil => rfl
  | cons a r =>
    simp only [sq_one]
    cases h1 : decide (97 ≤ a.toNat) && decide (a.toNat ≤ 104) with
    | false =>
      cases r with
      | nil => rfl
      | cons b r =>
        cases r with
        | nil => simp only [sqL, h1, Bool.false_and, cond_false]
        | cons => rfl
    | true =>
      cases r with
      | nil => rfl
      | cons b r =>
        cases h2 : decide (49 ≤ b.toNat) && decide (b.toNat ≤ 56) with
        | false =>
          cases r with
          | nil => simp only [sqL, h2, Bool.and_false, cond_false, cond_true]
          | cons => simp only [sqL, h2, cond_false, cond_true]
        | true =>
          cases r with
          | cons => simp only [sqL, h2, cond_true]
          | nil =>
            simp only [sqL, h1, h2, Bool.and_self, cond_true]
            simp only [Bool.and_eq_true, decide_eq_true_eq] at h1 h2
            show F_square_At ((a.toNat : Int) - 97) ((b.toNat : Int) - 49) (fun z2 z3 => k z2 z3) = _
            rw [square_At_on (by omega) (by omega)]

end Go.Proofs.YteeiccpbiniljaaGreatDoor
