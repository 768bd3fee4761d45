/- Plain laws: a position turned. -/
import Derived.Test.YtaldkopkfdgngaaGreatDoorL16
set_option linter.all false
set_option maxRecDepth 100000
namespace Go.Proofs.YtaldkopkfdgngaaGreatDoor
open Go Am

def tC (c : Int) : Int := c / 4 + c % 4 * 4
structure CastT (c : Int) : Prop where
  lo : 0 ≤ tC c
  hi : tC c ≤ 15
  a1 : (bAnd .i64 (tC c) 1 != 0) = (bAnd .i64 c 4 != 0)
  a2 : (bAnd .i64 (tC c) 2 != 0) = (bAnd .i64 c 8 != 0)
  a4 : (bAnd .i64 (tC c) 4 != 0) = (bAnd .i64 c 1 != 0)
  a8 : (bAnd .i64 (tC c) 8 != 0) = (bAnd .i64 c 2 != 0)
  pg : bOr .i64 (bAnd .i64 (shr .i64 c 2) 3) (shl .i64 (bAnd .i64 c 3) 2) = tC c
  rf : IntKind.wrap .i64 ((IntKind.wrap .i64 (Int.tdiv c 4)) + (IntKind.wrap .i64 ((Int.tmod c 4) * 4))) = tC c
end Go.Proofs.YtaldkopkfdgngaaGreatDoor

