/- The plain law of MoveOrder. -/
import Derived.Test.YtidjjbhadehclaaR1
import Derived.KernelRfl
set_option linter.all false
set_option maxRecDepth 100000
namespace Go.Proofs.Ytidjjbhadehclaa
open Go Am

theorem wakes_eq {S : Type} (k : Bool → Option S) : F_law09_wakes k = k true := by kernel_rfl

/-- The order, as a function. -/
def ls (a b : MoveD) : Bool := bif a.1 != b.1 then decide (a.1 < b.1) else bif a.2.1 != b.2.1 then decide (a.2.1 < b.2.1) else decide (a.2.2.1 > b.2.2.1)

theorem move_Less_eq (a b : MoveD) {S : Type} (k : Bool → Option S) : F_move_Less a b k = k (ls a b) := by
  unfold F_move_Less R_move_Less ls
  cases a.1 != b.1 <;> cases a.2.1 != b.2.1 <;> rfl

theorem ref_Less_eq (a b : MoveD) {S : Type} (k : Bool → Option S) : F_ref09_Less a b k = k (ls a b) := by
  unfold F_ref09_Less R_ref09_Less ls
  cases a.1 != b.1 <;> cases a.2.1 != b.2.1 <;> rfl

theorem ls_iff (a b : MoveD) : ls a b = true ↔ (a.1 < b.1 ∨ (a.1 = b.1 ∧ (a.2.1 < b.2.1 ∨ (a.2.1 = b.2.1 ∧ a.2.2.1 > b.2.2.1)))) := by
  obtain ⟨a1, a2, a3, ⟨⟩⟩ := a
  obtain ⟨b1, b2, b3, ⟨⟩⟩ := b
  simp only [ls]
  by_cases h1 : a1 = b1
  · subst h1
    by_cases h2 : a2 = b2
    · subst h2; simp
    · have : (a2 != b2) = true := by simpa using h2
      simp [this, h2]
  · have : (a1 != b1) = true := by simpa using h1
    simp [this, h1]

theorem ls_anti (a b : MoveD) (h : ls a b = true) : ls b a = false := by
  rw [Bool.eq_false_iff]
  intro h'
  rw [ls_iff] at h h'
  omega

theorem ls_total (a b : MoveD) (h : ls a b = false) (h' : ls b a = false) : Am.Ty.beq (.pair (.int .i64) (.pair (.int .i64) (.pair (.int .i64) .unit))) a b = true := by
  have h1 : ¬ ls a b = true := by rw [h]; simp
  have h2 : ¬ ls b a = true := by rw [h']; simp
  rw [ls_iff] at h1 h2
  obtain ⟨a1, a2, a3, ⟨⟩⟩ := a
  obtain ⟨b1, b2, b3, ⟨⟩⟩ := b
  simp only [Am.Ty.beq] at h1 h2 ⊢
  have e1 : a1 = b1 := by omega
  have e2 : a2 = b2 := by omega
  have e3 : a3 = b3 := by omega
  subst e1; subst e2; subst e3
  simp

theorem ls_trans (a b c : MoveD) (h : ls a b = true) (h' : ls b c = true) : ls a c = true := by
  rw [ls_iff] at h h' ⊢
  omega

theorem order_eq (a b c : MoveD) {S : Type} (k : Bool → Option S) : F_law09_MoveOrder a b c k = k true := by
  unfold F_law09_MoveOrder R_law09_MoveOrder
  simp only [wakes_eq, move_Less_eq, ref_Less_eq]
  cases h1 : ls a b with
  | true =>
    have h2 := ls_anti a b h1
    cases h3 : ls b c with
    | true => have h4 := ls_trans a b c h1 h3; simp [h2, h4]
    | false => simp [h2]
  | false =>
    cases h2 : ls b a with
    | true => simp
    | false => simp [ls_total a b h1 h2]

end Go.Proofs.Ytidjjbhadehclaa
