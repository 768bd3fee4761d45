/- The functions of the program, as shallow ones. -/
import Derived.Test.YtaldkopkfdgngaaGreatDoorR1
import Derived.KernelRfl
set_option linter.all false
set_option maxRecDepth 100000
namespace Go.Proofs.YtaldkopkfdgngaaGreatDoor
open Go Am Go.Proofs
def i_move_takes : StSh := ⟨[Sh.hole (.pair (.arr 64 (.int .i8)) (.pair (.int .i64) (.pair (.int .i64) (.pair (.int .i64) .unit)))), Sh.hole (.pair (.int .i64) (.pair (.int .i64) (.pair (.int .i64) .unit)))], []⟩
def o_move_takes : StSh := ⟨[Sh.hole (.int .i64)], []⟩
noncomputable def R_move_takes (F_move_pawn : (PosD → MoveD → {S : Type} → (Bool → Option S) → Option S)) (F_pos_Passed : (PosD → {S : Type} → (Int → Bool → Option S) → Option S)) (F_square_File : (Int → {S : Type} → (Int → Option S) → Option S))  (a0 : PosD) (a1 : MoveD) {S : Type} (k : Int → Option S) : Option S :=
  (bif (Am.inB a1.2.1 64) then (bif ((List.getD a0.1 (Int.toNat a1.2.1) 0) != 0) then (k a1.2.1) else (F_move_pawn a0 a1 (fun z0 => (bif z0 then (bif (a1.2.1 == a0.2.2.2.1) then (F_square_File a1.1 (fun z1 => (F_square_File a1.2.1 (fun z2 => (bif (z1 != z2) then (F_pos_Passed a0 (fun z3 => (fun z4 => (bif z4 then (k z3) else (k (-1)))))) else (k (-1))))))) else (k (-1))) else (k (-1)))))) else (Option.none))
noncomputable def F_move_takes (a0 : PosD) (a1 : MoveD) {S : Type} (k : Int → Option S) : Option S := R_move_takes (@F_move_pawn) (@F_pos_Passed) (@F_square_File)  a0 a1 k
noncomputable def W_move_takes (F : (PosD → MoveD → {S : Type} → (Int → Option S) → Option S)) : Summ := ⟨.pure, Am.Summ.pureK i_move_takes o_move_takes (fun (x : (PosD × (MoveD × Unit))) _ k => F x.1 x.2.1 (fun z0 => k (z0, ())))⟩
def i_move_corners : StSh := ⟨[], []⟩
def o_move_corners : StSh := ⟨[Sh.hole (.arr 6 (.pair (.int .i64) (.pair (.int .i64) .unit)))], []⟩
noncomputable def R_move_corners   {S : Type} (k : (List StepD) → Option S) : Option S :=
  (k [(0, 2, ()), (4, 3, ()), (7, 1, ()), (56, 8, ()), (60, 12, ()), (63, 4, ())])
noncomputable def F_move_corners {S : Type} (k : (List StepD) → Option S) : Option S := R_move_corners    k
noncomputable def W_move_corners (F : ({S : Type} → ((List StepD) → Option S) → Option S)) : Summ := ⟨.pure, Am.Summ.pureK i_move_corners o_move_corners (fun (x : Unit) _ k => F (fun z0 => k (z0, ())))⟩
end Go.Proofs.YtaldkopkfdgngaaGreatDoor

