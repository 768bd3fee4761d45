/- Plain law: MoveTexts, whole. -/
import Derived.Test.YteeiccpbiniljaaGreatDoorX4
set_option linter.all false
set_option maxRecDepth 100000
namespace Go.Proofs.YteeiccpbiniljaaGreatDoor
open Go Am

theorem wakes9 {S : Type} (k : Bool → Option S) : F_law09_wakes k = k true := by kernel_rfl

theorem textM_len (m : MoveD) : ∃ l : List UInt8, textM m = mkB l ∧ l.length ≤ 1000000 ∧ parseR l = if validM m = true then some m else none := by
  unfold textM
  cases hv : validM m with
  | true =>
    refine ⟨textL m, rfl, ?_, by rw [if_pos rfl]; exact parse_complete hv⟩
    have hsl : (smallL m.2.2.1).length ≤ 1 := by
      unfold smallL
      cases m.2.2.1 == 2 <;> cases m.2.2.1 == 3 <;> cases m.2.2.1 == 4 <;> cases m.2.2.1 == 5 <;> decide
    unfold textL
    rw [List.length_append, List.length_append, nameL_len, nameL_len]
    omega
  | false => exact ⟨[], rfl, by simp, rfl⟩

theorem parse_text (m : MoveD) {S : Type} (k : MoveD → Bool → Option S) : F_move_Parse (textM m) k = bif validM m then k m true else k (0, 0, 0, ()) false := by
  obtain ⟨l, h1, h2, h3⟩ := textM_len m
  rw [h1, move_Parse_eq l h2, h3]
  cases validM m <;> rfl

theorem moveTexts_eq (m : MoveD) (t : ByteArray) {S : Type} (k : Bool → Option S) : F_law09_MoveTexts m t k = k true := by
  unfold F_law09_MoveTexts R_law09_MoveTexts
  exact moveTexts_core (Fw := @F_law09_wakes) (Ft := @F_move_Text) (Fr := @F_ref09_Text) (Fp := @F_move_Parse) k (fun k => wakes9 k) (fun k => move_Text_eq m k) (fun k => ref09_Text_eq m k) (fun k => parse_text m k) (fun hs => second hs k)

end Go.Proofs.YteeiccpbiniljaaGreatDoor
