/- strings.ToLower is told by the library's contract. -/
import Derived.Test.YteeiccpbiniljaaGreatDoorS1
import Derived.Test.YteeiccpbiniljaaGreatDoorR0
import Derived.Shelf.Strings.OnBuilder
import Derived.KernelRfl
set_option linter.all false
set_option maxRecDepth 100000
namespace Go.Proofs.YteeiccpbiniljaaGreatDoor
open Go Am Go.Proofs
def lowRen : Go.Shelf.Ren :=
{
  f := fun x =>
    match x with
    | 159 => 12
    | 165 => 23
    | 166 => 24
    | 167 => 25
    | 169 => 26
    | 230 => 27
    | 204 => 28
    | 240 => 55
    | 241 => 56
    | 197 => 57
    | 118 => 58
    | 168 => 59
    | 270 => 60
    | 262 => 61
    | 276 => 76
    | 277 => 77
    | 260 => 78
    | 242 => 79
    | 313 => 80
    | 278 => 84
    | 274 => 85
    | 275 => 86
    | n => n,
  t := fun x =>
    match x with
    | 9 => 9
    | 4 => 4
    | 3 => 3
    | 5 => 5
    | 72 => 52
    | 0 => 0
    | 76 => 56
    | 75 => 55
    | 107 => 61
    | 70 => 49
    | 20 => 20
    | 37 => 50
    | 127 => 80
    | 21 => 21
    | 105 => 81
    | 164 => 99
    | 162 => 105
    | 203 => 103
    | 119 => 108
    | 46 => 109
    | 139 => 112
    | 138 => 111
    | 51 => 113
    | 160 => 114
    | 208 => 122
    | 206 => 120
    | 80 => 59
    | n => n,
  g := fun x =>
    match x with
    | 13 => 0
    | 3 => 2
    | 4 => 3
    | n => n }

theorem lowLays : Go.Proofs.Lays.n159 Go.Proofs.Tryz.prog lowRen :=
{ mixed := by kernel_rfl,
  f118 :=
    Eq.trans Go.Proofs.Tryz.func58 (by kernel_rfl),
  f159 :=
    Eq.trans Go.Proofs.Tryz.func12 (by kernel_rfl),
  f165 :=
    Eq.trans Go.Proofs.Tryz.func23 (by kernel_rfl),
  f166 :=
    Eq.trans Go.Proofs.Tryz.func24 (by kernel_rfl),
  f167 :=
    Eq.trans Go.Proofs.Tryz.func25 (by kernel_rfl),
  f168 :=
    Eq.trans Go.Proofs.Tryz.func59 (by kernel_rfl),
  f169 :=
    Eq.trans Go.Proofs.Tryz.func26 (by kernel_rfl),
  f197 :=
    Eq.trans Go.Proofs.Tryz.func57 (by kernel_rfl),
  f204 :=
    Eq.trans Go.Proofs.Tryz.func28 (by kernel_rfl),
  f230 :=
    Eq.trans Go.Proofs.Tryz.func27 (by kernel_rfl),
  f240 :=
    Eq.trans Go.Proofs.Tryz.func55 (by kernel_rfl),
  f241 :=
    Eq.trans Go.Proofs.Tryz.func56 (by kernel_rfl),
  f242 :=
    Eq.trans Go.Proofs.Tryz.func79 (by kernel_rfl),
  f260 :=
    Eq.trans Go.Proofs.Tryz.func78 (by kernel_rfl),
  f262 :=
    Eq.trans Go.Proofs.Tryz.func61 (by kernel_rfl),
  f270 :=
    Eq.trans Go.Proofs.Tryz.func60 (by kernel_rfl),
  f274 :=
    Eq.trans Go.Proofs.Tryz.func85 (by kernel_rfl),
  f275 :=
    Eq.trans Go.Proofs.Tryz.func86 (by kernel_rfl),
  f276 :=
    Eq.trans Go.Proofs.Tryz.func76 (by kernel_rfl),
  f277 :=
    Eq.trans Go.Proofs.Tryz.func77 (by kernel_rfl),
  f278 :=
    Eq.trans Go.Proofs.Tryz.func84 (by kernel_rfl),
  f313 :=
    Eq.trans Go.Proofs.Tryz.func80 (by kernel_rfl),
  t0 := Go.Proofs.Tryz.underlying0, a0 := Go.Proofs.Tryz.isAgg0, z0 := Go.Proofs.Tryz.sizeOf0,
  v0 := Go.Proofs.Tryz.zeroValue0, t3 := Go.Proofs.Tryz.underlying3, a3 := Go.Proofs.Tryz.isAgg3,
  z3 := Go.Proofs.Tryz.sizeOf3, v3 := Go.Proofs.Tryz.zeroValue3, t4 := Go.Proofs.Tryz.underlying4,
  a4 := Go.Proofs.Tryz.isAgg4, z4 := Go.Proofs.Tryz.sizeOf4, v4 := Go.Proofs.Tryz.zeroValue4,
  t5 := Go.Proofs.Tryz.underlying5, a5 := Go.Proofs.Tryz.isAgg5, z5 := Go.Proofs.Tryz.sizeOf5,
  v5 := Go.Proofs.Tryz.zeroValue5, t9 := Go.Proofs.Tryz.underlying9, a9 := Go.Proofs.Tryz.isAgg9,
  z9 := Go.Proofs.Tryz.sizeOf9, v9 := Go.Proofs.Tryz.zeroValue9, t20 := Go.Proofs.Tryz.underlying20,
  a20 := Go.Proofs.Tryz.isAgg20, z20 := Go.Proofs.Tryz.sizeOf20, v20 := Go.Proofs.Tryz.zeroValue20,
  t21 := Go.Proofs.Tryz.underlying21, a21 := Go.Proofs.Tryz.isAgg21, z21 := Go.Proofs.Tryz.sizeOf21,
  v21 := Go.Proofs.Tryz.zeroValue21, t37 := Go.Proofs.Tryz.underlying50, a37 := Go.Proofs.Tryz.isAgg50,
  z37 := Go.Proofs.Tryz.sizeOf50, v37 := Go.Proofs.Tryz.zeroValue50, t46 := Go.Proofs.Tryz.underlying109,
  a46 := Go.Proofs.Tryz.isAgg109, z46 := Go.Proofs.Tryz.sizeOf109, v46 := Go.Proofs.Tryz.zeroValue109,
  t51 := Go.Proofs.Tryz.underlying113, a51 := Go.Proofs.Tryz.isAgg113, z51 := Go.Proofs.Tryz.sizeOf113,
  v51 := Go.Proofs.Tryz.zeroValue113, t70 := Go.Proofs.Tryz.underlying49, a70 := Go.Proofs.Tryz.isAgg49,
  z70 := Go.Proofs.Tryz.sizeOf49, v70 := Go.Proofs.Tryz.zeroValue49, t72 := Go.Proofs.Tryz.underlying52,
  a72 := Go.Proofs.Tryz.isAgg52, z72 := Go.Proofs.Tryz.sizeOf52, v72 := Go.Proofs.Tryz.zeroValue52,
  t75 := Go.Proofs.Tryz.underlying55, a75 := Go.Proofs.Tryz.isAgg55, z75 := Go.Proofs.Tryz.sizeOf55,
  v75 := Go.Proofs.Tryz.zeroValue55, t76 := Go.Proofs.Tryz.underlying56, a76 := Go.Proofs.Tryz.isAgg56,
  z76 := Go.Proofs.Tryz.sizeOf56, v76 := Go.Proofs.Tryz.zeroValue56, t105 := Go.Proofs.Tryz.underlying81,
  a105 := Go.Proofs.Tryz.isAgg81, z105 := Go.Proofs.Tryz.sizeOf81, v105 := Go.Proofs.Tryz.zeroValue81,
  t107 := Go.Proofs.Tryz.underlying61, a107 := Go.Proofs.Tryz.isAgg61, z107 := Go.Proofs.Tryz.sizeOf61,
  v107 := Go.Proofs.Tryz.zeroValue61, t119 := Go.Proofs.Tryz.underlying108, a119 := Go.Proofs.Tryz.isAgg108,
  z119 := Go.Proofs.Tryz.sizeOf108, t127 := Go.Proofs.Tryz.underlying80, a127 := Go.Proofs.Tryz.isAgg80,
  z127 := Go.Proofs.Tryz.sizeOf80, v127 := Go.Proofs.Tryz.zeroValue80, t138 := Go.Proofs.Tryz.underlying111,
  a138 := Go.Proofs.Tryz.isAgg111, z138 := Go.Proofs.Tryz.sizeOf111, v138 := Go.Proofs.Tryz.zeroValue111,
  t139 := Go.Proofs.Tryz.underlying112, a139 := Go.Proofs.Tryz.isAgg112, z139 := Go.Proofs.Tryz.sizeOf112,
  v139 := Go.Proofs.Tryz.zeroValue112, t160 := Go.Proofs.Tryz.underlying114, a160 := Go.Proofs.Tryz.isAgg114,
  z160 := Go.Proofs.Tryz.sizeOf114, v160 := Go.Proofs.Tryz.zeroValue114, t162 := Go.Proofs.Tryz.underlying105,
  a162 := Go.Proofs.Tryz.isAgg105, z162 := Go.Proofs.Tryz.sizeOf105, v162 := Go.Proofs.Tryz.zeroValue105,
  t164 := Go.Proofs.Tryz.underlying99, a164 := Go.Proofs.Tryz.isAgg99, z164 := Go.Proofs.Tryz.sizeOf99,
  v164 := Go.Proofs.Tryz.zeroValue99, t203 := Go.Proofs.Tryz.underlying103, a203 := Go.Proofs.Tryz.isAgg103,
  z203 := Go.Proofs.Tryz.sizeOf103, v203 := Go.Proofs.Tryz.zeroValue103, t206 := Go.Proofs.Tryz.underlying120,
  a206 := Go.Proofs.Tryz.isAgg120, z206 := Go.Proofs.Tryz.sizeOf120, v206 := Go.Proofs.Tryz.zeroValue120,
  t208 := Go.Proofs.Tryz.underlying122, a208 := Go.Proofs.Tryz.isAgg122, z208 := Go.Proofs.Tryz.sizeOf122,
  v208 := Go.Proofs.Tryz.zeroValue122, g3 := by kernel_rfl,
  g4 := by kernel_rfl,
  g13 := by kernel_rfl }

theorem lowExtra : Builder.Extra Tryz.prog lowRen where
  sizeBuilder := by kernel_rfl
  liesBuilder := by kernel_rfl
  t5 := lowLays.t5
  a5 := lowLays.a5
  z5 := lowLays.z5
  v5 := lowLays.v5
  infoByte := by kernel_rfl
  cellsByte := by kernel_rfl
  sizeByte := by kernel_rfl
  neB5 := by decide
theorem good_strings_ToLower : Am.Good Tryz.prog 12 (W_strings_ToLower (@F_strings_ToLower)) :=
  Am.Ran.pure (Am.ran_lower (P := Tryz.prog) (f := 12) ⟨Tryz.f12, Tryz.func12, (by decide +kernel), by kernel_rfl⟩
    (fun s w h1 h2 => Go.Proofs.Any.strings_ToLower_ascii lowLays lowExtra s w h1 h2))
end Go.Proofs.YteeiccpbiniljaaGreatDoor
