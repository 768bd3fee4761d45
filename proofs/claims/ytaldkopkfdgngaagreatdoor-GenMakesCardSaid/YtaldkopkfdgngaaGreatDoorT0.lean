/- slices.Sort is told by the library's contract. -/
import Derived.Test.YtaldkopkfdgngaaGreatDoorS1
import Derived.Test.YtaldkopkfdgngaaGreatDoorR0
import Derived.Shelf.Sort.Plain
import Derived.Shelf.Slices.In.SortNone
import Derived.KernelRfl
set_option linter.all false
set_option maxRecDepth 100000
namespace Go.Proofs.YtaldkopkfdgngaaGreatDoor
open Go Am Go.Proofs
def sortRen : Go.Shelf.Ren :=
{
  f := fun x =>
    match x with
    | 189 => 63
    | 125 => 107
    | 257 => 106
    | 128 => 141
    | 129 => 142
    | 294 => 132
    | 295 => 133
    | 296 => 134
    | 297 => 135
    | 298 => 136
    | 299 => 137
    | 216 => 138
    | 300 => 139
    | 301 => 140
    | 328 => 153
    | 329 => 154
    | 330 => 155
    | 331 => 156
    | 332 => 157
    | 215 => 158
    | 343 => 166
    | n => n,
  t := fun x =>
    match x with
    | 28 => 73
    | 3 => 3
    | 46 => 56
    | 0 => 0
    | 51 => 140
    | 53 => 142
    | 4 => 4
    | 183 => 134
    | 182 => 133
    | 131 => 81
    | 5 => 5
    | 9 => 9
    | 218 => 157
    | 222 => 161
    | 228 => 171
    | 229 => 109
    | n => n,
  g := fun x =>
    x }

theorem sortLays : Go.Proofs.Lays.n189 Go.Proofs.Tryz.prog sortRen :=
{ mixed := by kernel_rfl,
  f125 :=
    Eq.trans Go.Proofs.Tryz.func107 (by kernel_rfl),
  f128 :=
    Eq.trans Go.Proofs.Tryz.func141 (by kernel_rfl),
  f129 :=
    Eq.trans Go.Proofs.Tryz.func142 (by kernel_rfl),
  f189 :=
    Eq.trans Go.Proofs.Tryz.func63 (by kernel_rfl),
  f215 :=
    Eq.trans Go.Proofs.Tryz.func158 (by kernel_rfl),
  f216 :=
    Eq.trans Go.Proofs.Tryz.func138 (by kernel_rfl),
  f257 :=
    Eq.trans Go.Proofs.Tryz.func106 (by kernel_rfl),
  f294 :=
    Eq.trans Go.Proofs.Tryz.func132 (by kernel_rfl),
  f295 :=
    Eq.trans Go.Proofs.Tryz.func133 (by kernel_rfl),
  f296 :=
    Eq.trans Go.Proofs.Tryz.func134 (by kernel_rfl),
  f297 :=
    Eq.trans Go.Proofs.Tryz.func135 (by kernel_rfl),
  f298 :=
    Eq.trans Go.Proofs.Tryz.func136 (by kernel_rfl),
  f299 :=
    Eq.trans Go.Proofs.Tryz.func137 (by kernel_rfl),
  f300 :=
    Eq.trans Go.Proofs.Tryz.func139 (by kernel_rfl),
  f301 :=
    Eq.trans Go.Proofs.Tryz.func140 (by kernel_rfl),
  f328 :=
    Eq.trans Go.Proofs.Tryz.func153 (by kernel_rfl),
  f329 :=
    Eq.trans Go.Proofs.Tryz.func154 (by kernel_rfl),
  f330 :=
    Eq.trans Go.Proofs.Tryz.func155 (by kernel_rfl),
  f331 :=
    Eq.trans Go.Proofs.Tryz.func156 (by kernel_rfl),
  f332 :=
    Eq.trans Go.Proofs.Tryz.func157 (by kernel_rfl),
  f343 :=
    Eq.trans Go.Proofs.Tryz.func166 (by kernel_rfl),
  t0 := Go.Proofs.Tryz.underlying0, a0 := Go.Proofs.Tryz.isAgg0, z0 := Go.Proofs.Tryz.sizeOf0,
  v0 := Go.Proofs.Tryz.zeroValue0, t3 := Go.Proofs.Tryz.underlying3, a3 := Go.Proofs.Tryz.isAgg3,
  z3 := Go.Proofs.Tryz.sizeOf3, v3 := Go.Proofs.Tryz.zeroValue3, t4 := Go.Proofs.Tryz.underlying4,
  a4 := Go.Proofs.Tryz.isAgg4, z4 := Go.Proofs.Tryz.sizeOf4, v4 := Go.Proofs.Tryz.zeroValue4,
  t5 := Go.Proofs.Tryz.underlying5, a5 := Go.Proofs.Tryz.isAgg5, z5 := Go.Proofs.Tryz.sizeOf5,
  v5 := Go.Proofs.Tryz.zeroValue5, t9 := Go.Proofs.Tryz.underlying9, a9 := Go.Proofs.Tryz.isAgg9,
  z9 := Go.Proofs.Tryz.sizeOf9, v9 := Go.Proofs.Tryz.zeroValue9, t28 := Go.Proofs.Tryz.underlying73,
  a28 := Go.Proofs.Tryz.isAgg73, z28 := Go.Proofs.Tryz.sizeOf73, v28 := Go.Proofs.Tryz.zeroValue73,
  t46 := Go.Proofs.Tryz.underlying56, a46 := Go.Proofs.Tryz.isAgg56, z46 := Go.Proofs.Tryz.sizeOf56,
  v46 := Go.Proofs.Tryz.zeroValue56, t51 := Go.Proofs.Tryz.underlying140, a51 := Go.Proofs.Tryz.isAgg140,
  z51 := Go.Proofs.Tryz.sizeOf140, v51 := Go.Proofs.Tryz.zeroValue140, t53 := Go.Proofs.Tryz.underlying142,
  a53 := Go.Proofs.Tryz.isAgg142, z53 := Go.Proofs.Tryz.sizeOf142, v53 := Go.Proofs.Tryz.zeroValue142,
  t131 := Go.Proofs.Tryz.underlying81, a131 := Go.Proofs.Tryz.isAgg81, z131 := Go.Proofs.Tryz.sizeOf81,
  v131 := Go.Proofs.Tryz.zeroValue81, t182 := Go.Proofs.Tryz.underlying133, a182 := Go.Proofs.Tryz.isAgg133,
  z182 := Go.Proofs.Tryz.sizeOf133, v182 := Go.Proofs.Tryz.zeroValue133, t183 := Go.Proofs.Tryz.underlying134,
  a183 := Go.Proofs.Tryz.isAgg134, z183 := Go.Proofs.Tryz.sizeOf134, v183 := Go.Proofs.Tryz.zeroValue134,
  t218 := Go.Proofs.Tryz.underlying157, a218 := Go.Proofs.Tryz.isAgg157, z218 := Go.Proofs.Tryz.sizeOf157,
  v218 := Go.Proofs.Tryz.zeroValue157, t222 := Go.Proofs.Tryz.underlying161, a222 := Go.Proofs.Tryz.isAgg161,
  z222 := Go.Proofs.Tryz.sizeOf161, v222 := Go.Proofs.Tryz.zeroValue161, t228 := Go.Proofs.Tryz.underlying171,
  a228 := Go.Proofs.Tryz.isAgg171, z228 := Go.Proofs.Tryz.sizeOf171, v228 := Go.Proofs.Tryz.zeroValue171,
  t229 := Go.Proofs.Tryz.underlying109, a229 := Go.Proofs.Tryz.isAgg109, z229 := Go.Proofs.Tryz.sizeOf109,
  v229 := Go.Proofs.Tryz.zeroValue109 }

theorem good_slices_Sort : Am.Good Tryz.prog 63 (W_slices_Sort (@F_slices_Sort)) :=
  Am.Ran.wild (Am.ran_sort (P := Tryz.prog) (f := 63) ⟨Tryz.f63, Tryz.func63, (by decide +kernel), by kernel_rfl⟩
    (fun blk off cap zs w h1 h2 h3 => Go.Proofs.Any.slices_Sort_int sortLays blk off cap zs w h1 h2 h3) (fun p cap w => Go.Proofs.Any.slices_Sort_int_none sortLays p cap w))
end Go.Proofs.YtaldkopkfdgngaaGreatDoor

