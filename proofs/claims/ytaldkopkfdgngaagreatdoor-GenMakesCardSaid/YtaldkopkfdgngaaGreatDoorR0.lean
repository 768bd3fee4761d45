/- slices.Sort, told. -/
import Derived.Test.YtaldkopkfdgngaaGreatDoorAm5
set_option linter.all false
namespace Go.Proofs.YtaldkopkfdgngaaGreatDoor
open Go Am Go.Proofs
def i_slices_Sort : StSh := ⟨[Sh.slice 0], [BSh.list (.int .i64)]⟩
def o_slices_Sort : StSh := ⟨[Sh.tup []], [BSh.list (.int .i64)]⟩
def F_slices_Sort (a0 : (List Int)) {S : Type} (k : (List Int) → Option S) : Option S := sortK a0 k
def W_slices_Sort (F : ((List Int) → {S : Type} → ((List Int) → Option S) → Option S)) : Summ := ⟨.wild, Am.Summ.callK 1 i_slices_Sort o_slices_Sort (fun (x : ((List Int) × Unit)) _ k => F x.1 (fun z0 => k (z0, ())))⟩
end Go.Proofs.YtaldkopkfdgngaaGreatDoor

