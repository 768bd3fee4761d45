/- Plain laws: whole numbers, lists, loops. -/
import Derived.Test.YteeiccpbiniljaaGreatDoorAm5
namespace Am
open Go

theorem w64 {x : Int} (h : -9223372036854775808 ≤ x ∧ x ≤ 9223372036854775807) : IntKind.wrap .i64 x = x := by
  simp [IntKind.wrap, IntKind.bits, IntKind.signed]; split <;> omega
theorem w8 {x : Int} (h : -128 ≤ x ∧ x ≤ 127) : IntKind.wrap .i8 x = x := by
  simp [IntKind.wrap, IntKind.bits, IntKind.signed]; split <;> omega

theorem inB_true {j : Int} {n : Nat} (h : 0 ≤ j ∧ j < n) : inB j n = true := by simp [inB, h]
theorem inB_false {j : Int} {n : Nat} (h : ¬ (0 ≤ j ∧ j < n)) : inB j n = false := by
  cases hq : inB j n with
  | false => rfl
  | true => simp [inB] at hq; exact (h hq).elim

/-- A board: sixty-four bytes. -/
def Bd (b : List Int) : Prop := b.length = 64 ∧ ∀ x ∈ b, -128 ≤ x ∧ x ≤ 127

theorem Bd.at {b : List Int} (h : Bd b) (i : Nat) : -128 ≤ b.getD i 0 ∧ b.getD i 0 ≤ 127 := by
  rcases Nat.lt_or_ge i b.length with hi | hi
  · rw [List.getD_eq_getElem?_getD, List.getElem?_eq_getElem hi]
    exact h.2 _ (List.getElem_mem hi)
  · rw [List.getD_eq_getElem?_getD, List.getElem?_eq_none hi]
    simp

theorem Bd.w {b : List Int} (h : Bd b) (i : Nat) : IntKind.wrap .i64 (b.getD i 0) = b.getD i 0 := w64 (by have := h.at i; omega)

theorem Bd.set {b : List Int} (h : Bd b) (i : Nat) {x : Int} (hx : -128 ≤ x ∧ x ≤ 127) : Bd (b.set i x) := by
  refine ⟨by simp [h.1], fun y hy => ?_⟩
  rcases List.mem_or_eq_of_mem_set hy with hy | rfl
  · exact h.2 y hy
  · exact hx

/-- What stands from a place on. -/
theorem drop_cons {b : List Int} {i : Nat} (h : i < b.length) : b.drop i = b.getD i 0 :: b.drop (i + 1) := by
  rw [List.drop_eq_getElem_cons h, List.getD_eq_getElem?_getD, List.getElem?_eq_getElem h]; rfl

theorem getD_set (l : List Int) (i j : Nat) (x : Int) (hi : i < l.length) : (l.set i x).getD j 0 = if i = j then x else l.getD j 0 := by
  simp only [List.getD_eq_getElem?_getD, List.getElem?_set]
  split
  · rename_i h; subst h; simp [hi]
  · rfl

/-- How many places hold something. -/
def cnt (l : List Int) : Nat := l.countP (· != 0)
def nz (x : Int) : Nat := bif x != 0 then 1 else 0
theorem cnt_cons (x : Int) (l : List Int) : cnt (x :: l) = nz x + cnt l := by
  unfold cnt nz
  rw [List.countP_cons]
  cases x != 0 <;> simp [Nat.add_comm]
theorem cnt_set : ∀ (l : List Int) (i : Nat) (x : Int), i < l.length → cnt (l.set i x) + nz (l.getD i 0) = cnt l + nz x
  | [], i, x, h => by simp at h
  | y :: l, 0, x, h => by simp [cnt_cons]; omega
  | y :: l, i + 1, x, h => by
    have := cnt_set l i x (by simpa using h)
    simp only [List.set_cons_succ, cnt_cons, List.getD_cons_succ]
    omega
theorem nz_zero : nz 0 = 0 := rfl
theorem nz_ne {x : Int} (h : x ≠ 0) : nz x = 1 := by
  have : (x != 0) = true := by simpa using h
  simp [nz, this]

section
variable {V W X : Type} {B : V → {S : Type} → (V → Option S) → (W → Option S) → (X → Option S) → Option S}
theorem iter_succ (n : Nat) (v : V) {S : Type} (k : W → Option S) (kr : X → Option S) : iter B (n + 1) v k kr = B v (fun y => iter B n y k kr) k kr := rfl
end

end Am
