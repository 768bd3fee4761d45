/- Plain laws: the document's answer: moves. -/
import Derived.Test.YtaldkopkfdgngaaGreatDoorL12
import Derived.Test.YtaldkopkfdgngaaGreatDoorL7
set_option linter.all false
set_option maxRecDepth 100000
namespace Go.Proofs.YtaldkopkfdgngaaGreatDoor
open Go Am

end Go.Proofs.YtaldkopkfdgngaaGreatDoor

