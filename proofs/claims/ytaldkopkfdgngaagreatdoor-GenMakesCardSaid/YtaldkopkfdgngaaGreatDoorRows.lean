/-
  NARROWER THAN 'FOR EVERY INPUT', by the rows' own cells (each row's printed sentence says how): GenAll: laid · GenTurned: laid · GenFrom: laid · GenNil: laid · GenMakes: laid.
  DERIVED. THE GIVEN ROWS OF THIS SEAT. 5 by the template 'for every input the law returns true; each argument reads behind the call as it read before'; 0 by the template 'total and deterministic' (their statements: YtaldkopkfdgngaaGreatDoorTotals.lean).
  GIVEN WITH THE SEED: the statements are not yours to turn. If you find one false, say at which input.
  Laid BY PROGRAM, IN A SANDBOX (cutbox-rows.mjs): the forced cells as the released guide's own fill.sh prints them over the translation 1c7be9baf305d1b7… (all of the seat's roots in one cut). By AI agents, Wed Nov 11 2026. No macro, syntax, notation, axiom, sorry.
-/
import Derived.Test.YtaldkopkfdgngaaGreatDoorChecked
import GoSem.PinnedTables
import GoSem.Claim
import GoSem.ClaimJoined
import GoSem.ClaimMapViews
import Derived.JoinedTies
import Derived.KernelRfl
namespace Go.Proofs.YtaldkopkfdgngaaGreatDoor
/- THE CELL 'sum', in the pinned program and in every row, IS THE sha256 OF THE DUMP (.gsa) THAT YtaldkopkfdgngaaGreatDoorProg.lean LOADS. Nothing in Lean hashes anything: it is a label: what it is worth is what the hold of that sum in a sandbox is worth. -/
noncomputable def Tryz.pinned : Pinned := { name := "ytaldkopkfdgngaagreatdoor", sum := "1c7be9baf305d1b75b7e62bac2fc831521aaf7ea4412e9374d4df562a1f37c40", checked := Tryz.checked }
namespace Rows
def none {H : Type} : Left H := { results := [], args := [] }

/- WHAT THE LISTED PACKAGE-LEVEL VARIABLES READ AS WHEN THE CALL BEGINS. Each datum BY PROGRAM (the guide's laid-datum.mjs) off the statement by which the dump's own 'gosem.cut.vars' lays the variable. In a bare row this is a premise. The card (YtaldkopkfdgngaaGreatDoorCards.lean) ties it to the program's text. -/
def laid_unicode_utf8_acceptRanges {H : Type} : DataW H := .agg [.agg [.lit (.int .u8 128), .lit (.int .u8 191)], .agg [.lit (.int .u8 160), .lit (.int .u8 191)], .agg [.lit (.int .u8 128), .lit (.int .u8 159)], .agg [.lit (.int .u8 144), .lit (.int .u8 191)], .agg [.lit (.int .u8 128), .lit (.int .u8 143)], .agg [.lit (.int .u8 0), .lit (.int .u8 0)], .agg [.lit (.int .u8 0), .lit (.int .u8 0)], .agg [.lit (.int .u8 0), .lit (.int .u8 0)], .agg [.lit (.int .u8 0), .lit (.int .u8 0)], .agg [.lit (.int .u8 0), .lit (.int .u8 0)], .agg [.lit (.int .u8 0), .lit (.int .u8 0)], .agg [.lit (.int .u8 0), .lit (.int .u8 0)], .agg [.lit (.int .u8 0), .lit (.int .u8 0)], .agg [.lit (.int .u8 0), .lit (.int .u8 0)], .agg [.lit (.int .u8 0), .lit (.int .u8 0)], .agg [.lit (.int .u8 0), .lit (.int .u8 0)]]
/-- One of Go's own tables, pinned by name: the form's constant. -/
def laid_unicode_CaseRanges : DataW Unit := Go.Pinned.caseRanges
/-- One of Go's own tables, pinned by name: the form's constant. -/
def laid_unicode_utf8_first : DataW Unit := Go.Pinned.utf8First

/-- 'alfillaw10.GenAll': WHATEVER THE INPUT: true; the input reads as it did. -/
def genAllSpec : ChangeSpec := { name := "genAll", fn := fun _ => fun
  | [d] => { results := [.lit (.bool true)], args := [d] }
  | _ => none }
def genAllRow : OpenClaim := { program := "ytaldkopkfdgngaagreatdoor", sum := "1c7be9baf305d1b75b7e62bac2fc831521aaf7ea4412e9374d4df562a1f37c40", func := "alfil/alfillaw10.GenAll", spec := "genAll", inPlace := ["internal/abi.NoEscape", "internal/bytealg.MakeNoZero"], unfollowed := true, recurses := true, named := ["unicode/utf8.first", "unicode/utf8.acceptRanges", "unicode.CaseRanges"], apart := false, laid := [("unicode/utf8.acceptRanges", laid_unicode_utf8_acceptRanges), ("unicode.CaseRanges", laid_unicode_CaseRanges), ("unicode/utf8.first", laid_unicode_utf8_first)] }
def GenAllSaid : Prop := genAllRow.holds Tryz.pinned (OpenSpec.ofChange genAllSpec)

/-- ITS FALSE NEIGHBOUR: 'it returns false'. Refute it at one input. -/
def genAllWrong : ChangeSpec := { name := "genAll", fn := fun _ => fun
  | [d] => { results := [.lit (.bool false)], args := [d] }
  | _ => none }
def GenAllWrongFalsely : Prop := genAllRow.holds Tryz.pinned (OpenSpec.ofChange genAllWrong)

/-- 'alfillaw10.GenTurned': WHATEVER THE INPUT: true; the input reads as it did. -/
def genTurnedSpec : ChangeSpec := { name := "genTurned", fn := fun _ => fun
  | [d] => { results := [.lit (.bool true)], args := [d] }
  | _ => none }
def genTurnedRow : OpenClaim := { program := "ytaldkopkfdgngaagreatdoor", sum := "1c7be9baf305d1b75b7e62bac2fc831521aaf7ea4412e9374d4df562a1f37c40", func := "alfil/alfillaw10.GenTurned", spec := "genTurned", inPlace := ["internal/abi.NoEscape", "internal/bytealg.MakeNoZero"], unfollowed := true, recurses := true, named := ["unicode/utf8.first", "unicode/utf8.acceptRanges", "unicode.CaseRanges"], apart := false, laid := [("unicode/utf8.acceptRanges", laid_unicode_utf8_acceptRanges), ("unicode.CaseRanges", laid_unicode_CaseRanges), ("unicode/utf8.first", laid_unicode_utf8_first)] }
def GenTurnedSaid : Prop := genTurnedRow.holds Tryz.pinned (OpenSpec.ofChange genTurnedSpec)

/-- ITS FALSE NEIGHBOUR: 'it returns false'. Refute it at one input. -/
def genTurnedWrong : ChangeSpec := { name := "genTurned", fn := fun _ => fun
  | [d] => { results := [.lit (.bool false)], args := [d] }
  | _ => none }
def GenTurnedWrongFalsely : Prop := genTurnedRow.holds Tryz.pinned (OpenSpec.ofChange genTurnedWrong)

/-- 'alfillaw10.GenFrom': WHATEVER THE INPUT: true; the input reads as it did. -/
def genFromSpec : ChangeSpec := { name := "genFrom", fn := fun _ => fun
  | [d1, d2, d3] => { results := [.lit (.bool true)], args := [d1, d2, d3] }
  | _ => none }
def genFromRow : OpenClaim := { program := "ytaldkopkfdgngaagreatdoor", sum := "1c7be9baf305d1b75b7e62bac2fc831521aaf7ea4412e9374d4df562a1f37c40", func := "alfil/alfillaw10.GenFrom", spec := "genFrom", inPlace := ["internal/abi.NoEscape", "internal/bytealg.MakeNoZero"], unfollowed := true, recurses := true, named := ["unicode/utf8.first", "unicode/utf8.acceptRanges", "unicode.CaseRanges"], apart := false, laid := [("unicode/utf8.acceptRanges", laid_unicode_utf8_acceptRanges), ("unicode.CaseRanges", laid_unicode_CaseRanges), ("unicode/utf8.first", laid_unicode_utf8_first)] }
def GenFromSaid : Prop := genFromRow.holds Tryz.pinned (OpenSpec.ofChange genFromSpec)

/-- ITS FALSE NEIGHBOUR: 'it returns false'. Refute it at one input. -/
def genFromWrong : ChangeSpec := { name := "genFrom", fn := fun _ => fun
  | [d1, d2, d3] => { results := [.lit (.bool false)], args := [d1, d2, d3] }
  | _ => none }
def GenFromWrongFalsely : Prop := genFromRow.holds Tryz.pinned (OpenSpec.ofChange genFromWrong)

/-- 'alfillaw10.GenNil': WHATEVER THE INPUT: true; the input reads as it did. -/
def genNilSpec : ChangeSpec := { name := "genNil", fn := fun _ => fun
  | [d1, d2] => { results := [.lit (.bool true)], args := [d1, d2] }
  | _ => none }
def genNilRow : OpenClaim := { program := "ytaldkopkfdgngaagreatdoor", sum := "1c7be9baf305d1b75b7e62bac2fc831521aaf7ea4412e9374d4df562a1f37c40", func := "alfil/alfillaw10.GenNil", spec := "genNil", inPlace := ["internal/abi.NoEscape", "internal/bytealg.MakeNoZero"], unfollowed := true, recurses := true, named := ["unicode/utf8.first", "unicode/utf8.acceptRanges", "unicode.CaseRanges"], apart := false, laid := [("unicode/utf8.acceptRanges", laid_unicode_utf8_acceptRanges), ("unicode.CaseRanges", laid_unicode_CaseRanges), ("unicode/utf8.first", laid_unicode_utf8_first)] }
def GenNilSaid : Prop := genNilRow.holds Tryz.pinned (OpenSpec.ofChange genNilSpec)

/-- ITS FALSE NEIGHBOUR: 'it returns false'. Refute it at one input. -/
def genNilWrong : ChangeSpec := { name := "genNil", fn := fun _ => fun
  | [d1, d2] => { results := [.lit (.bool false)], args := [d1, d2] }
  | _ => none }
def GenNilWrongFalsely : Prop := genNilRow.holds Tryz.pinned (OpenSpec.ofChange genNilWrong)

/-- 'alfillaw10.GenMakes': WHATEVER THE INPUT: true; the input reads as it did. -/
def genMakesSpec : ChangeSpec := { name := "genMakes", fn := fun _ => fun
  | [d] => { results := [.lit (.bool true)], args := [d] }
  | _ => none }
def genMakesRow : OpenClaim := { program := "ytaldkopkfdgngaagreatdoor", sum := "1c7be9baf305d1b75b7e62bac2fc831521aaf7ea4412e9374d4df562a1f37c40", func := "alfil/alfillaw10.GenMakes", spec := "genMakes", inPlace := ["internal/abi.NoEscape", "internal/bytealg.MakeNoZero"], unfollowed := true, recurses := true, named := ["unicode/utf8.first", "unicode/utf8.acceptRanges", "unicode.CaseRanges"], apart := false, laid := [("unicode/utf8.acceptRanges", laid_unicode_utf8_acceptRanges), ("unicode.CaseRanges", laid_unicode_CaseRanges), ("unicode/utf8.first", laid_unicode_utf8_first)] }
def GenMakesSaid : Prop := genMakesRow.holds Tryz.pinned (OpenSpec.ofChange genMakesSpec)

/-- ITS FALSE NEIGHBOUR: 'it returns false'. Refute it at one input. -/
def genMakesWrong : ChangeSpec := { name := "genMakes", fn := fun _ => fun
  | [d] => { results := [.lit (.bool false)], args := [d] }
  | _ => none }
def GenMakesWrongFalsely : Prop := genMakesRow.holds Tryz.pinned (OpenSpec.ofChange genMakesWrong)

/- THE SECOND FORM. 'bulk': how many values and letters a reading holds, each counted each time it is reached (what is shared counts as often as it is met; a slice's spare places count too). A statement '..UptoSaid' is the law's where the arguments, and the package variables that the reading takes, are together of bulk at most 1048576: NARROWER than '..Said'. Prove '..Said' where nothing that the law and all that it calls make is longer than what came in: it says more and counts as full. Else prove '..UptoSaid'. A law counts once. -/
mutual
def uptoBulk {H : Type} : DataW H → Nat
  | .lit (.string bytes) => bytes.length + 1
  | .lit _ => 1
  | .nil => 1
  | .ptr d => uptoBulk d + 1
  | .slice elems spare => uptoBulkAll elems + uptoBulkAll spare + 1
  | .agg parts => uptoBulkAll parts + 1
  | .iface _ d => uptoBulk d + 1
  | .map entries => uptoBulkEntries entries + 1
  | .held _ => 1
def uptoBulkAll {H : Type} : List (DataW H) → Nat
  | [] => 0
  | d :: r => uptoBulk d + uptoBulkAll r
def uptoBulkEntries {H : Type} : List (Lit × DataW H) → Nat
  | [] => 0
  | x :: r => uptoBulkEntry x + uptoBulkEntries r
def uptoBulkEntry {H : Type} : Lit × DataW H → Nat
  | (.string bytes, d) => bytes.length + uptoBulk d + 1
  | (_, d) => uptoBulk d + 1
 end
def uptoSmall : (H : Type) → List (DataW H) → Bool := fun _ ds => decide (uptoBulkAll ds ≤ 1048576)
def OpenSpec.upto (s : _root_.Go.ChangeSpec) : _root_.Go.OpenSpec := { _root_.Go.OpenSpec.ofChange s with cond := some uptoSmall }

/-- 'alfillaw10.GenAll', WHERE WHAT IT READS IS OF BULK AT MOST 1048576: true; the input reads as it did. -/
def genAllUptoRow : OpenClaim := { program := "ytaldkopkfdgngaagreatdoor", sum := "1c7be9baf305d1b75b7e62bac2fc831521aaf7ea4412e9374d4df562a1f37c40", func := "alfil/alfillaw10.GenAll", spec := "genAll", inPlace := ["internal/abi.NoEscape", "internal/bytealg.MakeNoZero"], unfollowed := true, recurses := true, named := ["unicode/utf8.first", "unicode/utf8.acceptRanges", "unicode.CaseRanges"], apart := false, laid := [("unicode/utf8.acceptRanges", laid_unicode_utf8_acceptRanges), ("unicode.CaseRanges", laid_unicode_CaseRanges), ("unicode/utf8.first", laid_unicode_utf8_first)], narrowed := true }
def GenAllUptoSaid : Prop := genAllUptoRow.holds Tryz.pinned (OpenSpec.upto genAllSpec)

/-- 'alfillaw10.GenTurned', WHERE WHAT IT READS IS OF BULK AT MOST 1048576: true; the input reads as it did. -/
def genTurnedUptoRow : OpenClaim := { program := "ytaldkopkfdgngaagreatdoor", sum := "1c7be9baf305d1b75b7e62bac2fc831521aaf7ea4412e9374d4df562a1f37c40", func := "alfil/alfillaw10.GenTurned", spec := "genTurned", inPlace := ["internal/abi.NoEscape", "internal/bytealg.MakeNoZero"], unfollowed := true, recurses := true, named := ["unicode/utf8.first", "unicode/utf8.acceptRanges", "unicode.CaseRanges"], apart := false, laid := [("unicode/utf8.acceptRanges", laid_unicode_utf8_acceptRanges), ("unicode.CaseRanges", laid_unicode_CaseRanges), ("unicode/utf8.first", laid_unicode_utf8_first)], narrowed := true }
def GenTurnedUptoSaid : Prop := genTurnedUptoRow.holds Tryz.pinned (OpenSpec.upto genTurnedSpec)

/-- 'alfillaw10.GenFrom', WHERE WHAT IT READS IS OF BULK AT MOST 1048576: true; the input reads as it did. -/
def genFromUptoRow : OpenClaim := { program := "ytaldkopkfdgngaagreatdoor", sum := "1c7be9baf305d1b75b7e62bac2fc831521aaf7ea4412e9374d4df562a1f37c40", func := "alfil/alfillaw10.GenFrom", spec := "genFrom", inPlace := ["internal/abi.NoEscape", "internal/bytealg.MakeNoZero"], unfollowed := true, recurses := true, named := ["unicode/utf8.first", "unicode/utf8.acceptRanges", "unicode.CaseRanges"], apart := false, laid := [("unicode/utf8.acceptRanges", laid_unicode_utf8_acceptRanges), ("unicode.CaseRanges", laid_unicode_CaseRanges), ("unicode/utf8.first", laid_unicode_utf8_first)], narrowed := true }
def GenFromUptoSaid : Prop := genFromUptoRow.holds Tryz.pinned (OpenSpec.upto genFromSpec)

/-- 'alfillaw10.GenNil', WHERE WHAT IT READS IS OF BULK AT MOST 1048576: true; the input reads as it did. -/
def genNilUptoRow : OpenClaim := { program := "ytaldkopkfdgngaagreatdoor", sum := "1c7be9baf305d1b75b7e62bac2fc831521aaf7ea4412e9374d4df562a1f37c40", func := "alfil/alfillaw10.GenNil", spec := "genNil", inPlace := ["internal/abi.NoEscape", "internal/bytealg.MakeNoZero"], unfollowed := true, recurses := true, named := ["unicode/utf8.first", "unicode/utf8.acceptRanges", "unicode.CaseRanges"], apart := false, laid := [("unicode/utf8.acceptRanges", laid_unicode_utf8_acceptRanges), ("unicode.CaseRanges", laid_unicode_CaseRanges), ("unicode/utf8.first", laid_unicode_utf8_first)], narrowed := true }
def GenNilUptoSaid : Prop := genNilUptoRow.holds Tryz.pinned (OpenSpec.upto genNilSpec)

/-- 'alfillaw10.GenMakes', WHERE WHAT IT READS IS OF BULK AT MOST 1048576: true; the input reads as it did. -/
def genMakesUptoRow : OpenClaim := { program := "ytaldkopkfdgngaagreatdoor", sum := "1c7be9baf305d1b75b7e62bac2fc831521aaf7ea4412e9374d4df562a1f37c40", func := "alfil/alfillaw10.GenMakes", spec := "genMakes", inPlace := ["internal/abi.NoEscape", "internal/bytealg.MakeNoZero"], unfollowed := true, recurses := true, named := ["unicode/utf8.first", "unicode/utf8.acceptRanges", "unicode.CaseRanges"], apart := false, laid := [("unicode/utf8.acceptRanges", laid_unicode_utf8_acceptRanges), ("unicode.CaseRanges", laid_unicode_CaseRanges), ("unicode/utf8.first", laid_unicode_utf8_first)], narrowed := true }
def GenMakesUptoSaid : Prop := genMakesUptoRow.holds Tryz.pinned (OpenSpec.upto genMakesSpec)

end Rows
end Go.Proofs.YtaldkopkfdgngaaGreatDoor
