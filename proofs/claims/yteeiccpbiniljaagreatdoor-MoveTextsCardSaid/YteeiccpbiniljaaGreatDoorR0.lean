/- strings.ToLower, told. -/
import Derived.Test.YteeiccpbiniljaaGreatDoorAm5
set_option linter.all false
namespace Go.Proofs.YteeiccpbiniljaaGreatDoor
open Go Am Go.Proofs
def i_strings_ToLower : StSh := ⟨[Sh.hole .str], []⟩
def o_strings_ToLower : StSh := ⟨[Sh.hole .str], []⟩
def F_strings_ToLower (a0 : ByteArray) {S : Type} (k : ByteArray → Option S) : Option S := lowK a0 k
def W_strings_ToLower (F : (ByteArray → {S : Type} → (ByteArray → Option S) → Option S)) : Summ := ⟨.pure, Am.Summ.pureK i_strings_ToLower o_strings_ToLower (fun (x : (ByteArray × Unit)) _ k => F x.1 (fun z0 => k (z0, ())))⟩
end Go.Proofs.YteeiccpbiniljaaGreatDoor
