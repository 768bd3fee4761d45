/- Plain laws: the document's answer: who strikes; that it is the program's. -/
import Derived.Test.YtaldkopkfdgngaaGreatDoorL10
set_option linter.all false
set_option maxRecDepth 100000
namespace Go.Proofs.YtaldkopkfdgngaaGreatDoor
open Go Am

end Go.Proofs.YtaldkopkfdgngaaGreatDoor

