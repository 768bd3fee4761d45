/- Plain laws: the document's answer: does a man go so; all moves. -/
import Derived.Test.YtaldkopkfdgngaaGreatDoorL32
set_option linter.all false
set_option maxRecDepth 100000
namespace Go.Proofs.YtaldkopkfdgngaaGreatDoor
open Go Am

/-- Does a man go so, in a right position? -/
def goesP (p : PosD) (m : MoveD) : Bool := formedP p m && (bif pawnP p m then pawnR p m else hitsR p.1 m.1 m.2.1 || decide (rightR p m > 0))

section
variable {p : PosD}

theorem ref10_Right_eq (hb : Bd p.1) {S : Type} (k : Bool → Option S) : F_ref10_Right p k = k (wrongP p == 0) := by
  unfold F_ref10_Right R_ref10_Right
  rw [ref08_Wrong_eq hb]

theorem ref10_Goes_eq (hb : Bd p.1) (hw : wrongP p = 0) (m : MoveD) {S : Type} (k : Bool → Option S) : F_ref10_Goes p m k = k (goesP p m) := by
  have ht := wrong_turn hw
  unfold F_ref10_Goes R_ref10_Goes goesP
  rw [ref09_Formed_eq hb ht]
  cases hf : formedP p m with
  | false => rfl
  | true =>
    have h := formed_spec hb hw hf
    have b1 := rightS_iff.1 h.fr
    rw [ref09_Pawn_eq b1, show (kindM (p.1.getD m.1.toNat 0) == 1) = pawnP p m from rfl]
    simp only [ref10_pawn_eq h.toSq, ref07_Hits_eq hb b1, ref09_Right_eq (wrong_spec hw).2.1 b1]
    cases pawnP p m with
    | true => rfl
    | false => cases hitsR p.1 m.1 m.2.1 <;> rfl

theorem one_setM (x : MoveD) : List.set (List.replicate 1 ((0, 0, 0, ()) : MoveD)) 0 x = [x] := rfl

end

theorem beqM (a b : MoveD) : Ty.beq (.pair (.int .i64) (.pair (.int .i64) (.pair (.int .i64) .unit))) a b = (a.1 == b.1 && (a.2.1 == b.2.1 && (a.2.2.1 == b.2.2.1 && true))) := rfl
theorem beqM_iff (a b : MoveD) : Ty.beq (.pair (.int .i64) (.pair (.int .i64) (.pair (.int .i64) .unit))) a b = true ↔ a = b := by
  obtain ⟨a1, a2, a3, ⟨⟩⟩ := a
  obtain ⟨b1, b2, b3, ⟨⟩⟩ := b
  rw [beqM]
  simp
theorem beqM_refl (a : MoveD) : Ty.beq (.pair (.int .i64) (.pair (.int .i64) (.pair (.int .i64) .unit))) a a = true := (beqM_iff a a).2 rfl

theorem N_Same_eq (l : List MoveD) (hl : l.length ≤ 1000000) : ∀ (d i n : Nat), i + d = l.length → d < n → ∀ {S : Type} (kx : Option S) (kr : Bool → Option S), N_ref09_Same_0 n l l (i : Int) kx kr = kx
  | 0, i, n + 1, hi, hn, S, kx, kr => by
    rw [N_ref09_Same_0_succ]
    unfold R_ref09_Same_0
    rw [show decide ((i : Int) < ((l.length : Nat) : Int)) = false by simp; omega]
    rfl
  | d + 1, i, n + 1, hi, hn, S, kx, kr => by
    have e1 : decide ((i : Int) < ((l.length : Nat) : Int)) = true := by simp; omega
    have e2 : inB (i : Int) l.length = true := inB_true (by omega)
    have e3 : IntKind.wrap .i64 ((i : Int) + 1) = ((i + 1 : Nat) : Int) := by rw [w64 (by omega)]; rfl
    rw [N_ref09_Same_0_succ]
    unfold R_ref09_Same_0
    simp only [e1, e2, e3, cond_true, beqM_refl, Bool.not_true, cond_false, N_Same_eq l hl d (i + 1) n (by omega) (by omega)]
theorem ref09_Same_self (l : List MoveD) (hl : l.length ≤ 1000000) {S : Type} (k : Bool → Option S) : F_ref09_Same l l k = k true := by
  unfold F_ref09_Same R_ref09_Same
  rw [show (((l.length : Nat) : Int) != ((l.length : Nat) : Int)) = false by simp, cond_false, L_ref09_Same_0_N]
  exact N_Same_eq l hl l.length 0 _ (Nat.zero_add _) (by omega) _ _

end Go.Proofs.YtaldkopkfdgngaaGreatDoor

