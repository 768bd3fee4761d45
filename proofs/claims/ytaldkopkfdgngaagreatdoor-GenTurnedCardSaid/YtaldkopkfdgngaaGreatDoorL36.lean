/- Plain laws: GenAll, GenFrom. -/
import Derived.Test.YtaldkopkfdgngaaGreatDoorL35
import Derived.Test.YtaldkopkfdgngaaGreatDoorLA
set_option linter.all false
set_option maxRecDepth 100000
namespace Go.Proofs.YtaldkopkfdgngaaGreatDoor
open Go Am

theorem new_eq {S : Type} (k : Option S) : F_gen_New k = k := rfl

theorem all_len (p : PosD) : (allL p).length ≤ 153600 := by
  have key : ∀ (d i : Nat), ((List.range' i d).flatMap fun (s : Nat) => fromL p (s : Int)).length ≤ 2400 * d := by
    intro d
    induction d with
    | zero => intro i; simp
    | succ d ih =>
      intro i
      have h1 := ih (i + 1)
      have h2 := fromL_len p (i : Int)
      rw [List.range'_succ, List.flatMap_cons, List.length_append]
      omega
  exact key 64 0

end Go.Proofs.YtaldkopkfdgngaaGreatDoor

