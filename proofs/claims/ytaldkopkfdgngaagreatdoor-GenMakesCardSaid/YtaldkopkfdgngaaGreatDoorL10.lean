/- Plain laws: the document's answer: rays, who strikes. -/
import Derived.Test.YtaldkopkfdgngaaGreatDoorL9
set_option linter.all false
set_option maxRecDepth 100000
namespace Go.Proofs.YtaldkopkfdgngaaGreatDoor
open Go Am

def flat : List StepD → List Int
  | [] => []
  | y :: l => y.1 :: y.2.1 :: flat l
end Go.Proofs.YtaldkopkfdgngaaGreatDoor

