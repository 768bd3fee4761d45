/- Plain law: MoveTurned. -/
import Derived.Test.YtaldkopkfdgngaaGreatDoorL18
set_option linter.all false
set_option maxRecDepth 100000
namespace Go.Proofs.YtaldkopkfdgngaaGreatDoor
open Go Am

section
variable {Fw : ({S : Type} → (Bool → Option S) → Option S)} {Fm : (PosD → MoveD → {S : Type} → (PosD → Int → Option S) → Option S)} {Fp : (PosD → {S : Type} → (PosD → Option S) → Option S)} {F8 : (PosD → {S : Type} → (PosD → Option S) → Option S)} {Fr : (PosD → {S : Type} → (Int → Option S) → Option S)} {Ff : (PosD → MoveD → {S : Type} → (Bool → Option S) → Option S)}

end

end Go.Proofs.YtaldkopkfdgngaaGreatDoor

