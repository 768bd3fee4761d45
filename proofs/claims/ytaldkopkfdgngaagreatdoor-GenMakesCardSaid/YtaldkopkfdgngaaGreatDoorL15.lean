/- Plain law: MoveMakes. -/
import Derived.Test.YtaldkopkfdgngaaGreatDoorL14
set_option linter.all false
set_option maxRecDepth 100000
namespace Go.Proofs.YtaldkopkfdgngaaGreatDoor
open Go Am

theorem move_Castles_eq {p : PosD} (hb : Bd p.1) (m : MoveD) {S : Type} (k : Bool → Option S) : F_move_Castles p m k = k (wrongP p == 0 && (formedP p m && castleP p m != 0)) := by
  unfold F_move_Castles R_move_Castles
  simp only [move_Formed_eq hb]
  cases hw : wrongP p == 0 with
  | false => rfl
  | true =>
    cases hf : formedP p m with
    | false => rfl
    | true => simp only [Bool.and_self, Bool.true_and, cond_true, move_castle_eq (formed_sq hb (by simpa using hw) hf)]

end Go.Proofs.YtaldkopkfdgngaaGreatDoor

