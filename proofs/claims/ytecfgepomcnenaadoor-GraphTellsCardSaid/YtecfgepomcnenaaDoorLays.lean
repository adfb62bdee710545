/-
  DERIVED: THE SHELF's CONTRACTS AT THIS DUMP, IN PLAIN WORDS (tools/lay-plain.mjs out of 'YtecfgepomcnenaaDoorLays.lean', which tools/lay-shelf.mjs wrote): THE SAME DECLARATIONS UNDER THE SAME NAMES: 'import', 'namespace', 'open', 'def', 'theorem' AND NOTHING ELSE: no command of the shelf's: FOR A HAND-IN. Each laying: the table of numbers ('.._ren') and one theorem, a field a fact of the dump's own or the kernel's comparison; each contract: ONE APPLICATION.
-/
import Derived.Shelf.Sort.Plain
import Derived.Shelf.Slices.In.SortNone
import Derived.Ground.NamesProg
import Derived.Shelf.Slices.CompactI
import Derived.Shelf.Slices.Empties2
import Derived.Ground.Names2Prog
import Derived.Shelf.Slices.Delete
import Derived.Shelf.Slices.Turned
import Derived.Shelf.Slices.Empties
import Derived.Shelf.Slices.Equal
import Derived.Test.YtecfgepomcnenaaDoorProg
namespace Go.Proofs
open Go.Shelf
def Tryd.lSortI_ren : Go.Shelf.Ren := ⟨fun | 189 => 75 | 125 => 103 | 257 => 102 | 128 => 123 | 129 => 124 | 294 => 114 | 295 => 115 | 296 => 116 | 297 => 117 | 298 => 118 | 299 => 119 | 216 => 120 | 300 => 121 | 301 => 122 | 328 => 133 | 329 => 134 | 330 => 135 | 331 => 136 | 332 => 137 | 215 => 113 | 343 => 141 | n => n, fun | 28 => 45 | 3 => 3 | 46 => 137 | 0 => 0 | 51 => 167 | 53 => 169 | 4 => 4 | 183 => 159 | 182 => 158 | 131 => 164 | 5 => 5 | 9 => 9 | 218 => 175 | 222 => 179 | 228 => 183 | 229 => 68 | n => n, fun | n => n⟩
theorem Tryd.lSortI : Go.Proofs.Lays.n189 Tryd.prog Tryd.lSortI_ren := {
  mixed := by kernel_rfl
  f125 := Tryd.func103.trans (congrArg some (by kernel_rfl))
  f128 := Tryd.func123.trans (congrArg some (by kernel_rfl))
  f129 := Tryd.func124.trans (congrArg some (by kernel_rfl))
  f189 := Tryd.func75.trans (congrArg some (by kernel_rfl))
  f215 := Tryd.func113.trans (congrArg some (by kernel_rfl))
  f216 := Tryd.func120.trans (congrArg some (by kernel_rfl))
  f257 := Tryd.func102.trans (congrArg some (by kernel_rfl))
  f294 := Tryd.func114.trans (congrArg some (by kernel_rfl))
  f295 := Tryd.func115.trans (congrArg some (by kernel_rfl))
  f296 := Tryd.func116.trans (congrArg some (by kernel_rfl))
  f297 := Tryd.func117.trans (congrArg some (by kernel_rfl))
  f298 := Tryd.func118.trans (congrArg some (by kernel_rfl))
  f299 := Tryd.func119.trans (congrArg some (by kernel_rfl))
  f300 := Tryd.func121.trans (congrArg some (by kernel_rfl))
  f301 := Tryd.func122.trans (congrArg some (by kernel_rfl))
  f328 := Tryd.func133.trans (congrArg some (by kernel_rfl))
  f329 := Tryd.func134.trans (congrArg some (by kernel_rfl))
  f330 := Tryd.func135.trans (congrArg some (by kernel_rfl))
  f331 := Tryd.func136.trans (congrArg some (by kernel_rfl))
  f332 := Tryd.func137.trans (congrArg some (by kernel_rfl))
  f343 := Tryd.func141.trans (congrArg some (by kernel_rfl))
  t0 := Tryd.underlying0
  a0 := Tryd.isAgg0
  z0 := Tryd.sizeOf0
  v0 := Tryd.zeroValue0
  t3 := Tryd.underlying3
  a3 := Tryd.isAgg3
  z3 := Tryd.sizeOf3
  v3 := Tryd.zeroValue3
  t4 := Tryd.underlying4
  a4 := Tryd.isAgg4
  z4 := Tryd.sizeOf4
  v4 := Tryd.zeroValue4
  t5 := Tryd.underlying5
  a5 := Tryd.isAgg5
  z5 := Tryd.sizeOf5
  v5 := Tryd.zeroValue5
  t9 := Tryd.underlying9
  a9 := Tryd.isAgg9
  z9 := Tryd.sizeOf9
  v9 := Tryd.zeroValue9
  t28 := Tryd.underlying45
  a28 := Tryd.isAgg45
  z28 := Tryd.sizeOf45
  v28 := Tryd.zeroValue45
  t46 := Tryd.underlying137
  a46 := Tryd.isAgg137
  z46 := Tryd.sizeOf137
  v46 := Tryd.zeroValue137
  t51 := Tryd.underlying167
  a51 := Tryd.isAgg167
  z51 := Tryd.sizeOf167
  v51 := Tryd.zeroValue167
  t53 := Tryd.underlying169
  a53 := Tryd.isAgg169
  z53 := Tryd.sizeOf169
  v53 := Tryd.zeroValue169
  t131 := Tryd.underlying164
  a131 := Tryd.isAgg164
  z131 := Tryd.sizeOf164
  v131 := Tryd.zeroValue164
  t182 := Tryd.underlying158
  a182 := Tryd.isAgg158
  z182 := Tryd.sizeOf158
  v182 := Tryd.zeroValue158
  t183 := Tryd.underlying159
  a183 := Tryd.isAgg159
  z183 := Tryd.sizeOf159
  v183 := Tryd.zeroValue159
  t218 := Tryd.underlying175
  a218 := Tryd.isAgg175
  z218 := Tryd.sizeOf175
  v218 := Tryd.zeroValue175
  t222 := Tryd.underlying179
  a222 := Tryd.isAgg179
  z222 := Tryd.sizeOf179
  v222 := Tryd.zeroValue179
  t228 := Tryd.underlying183
  a228 := Tryd.isAgg183
  z228 := Tryd.sizeOf183
  v228 := Tryd.zeroValue183
  t229 := Tryd.underlying68
  a229 := Tryd.isAgg68
  z229 := Tryd.sizeOf68
  v229 := Tryd.zeroValue68 }
def Tryd.lCompI_ren : Go.Shelf.Ren := ⟨fun | 20 => 81 | n => n, fun | 22 => 45 | 3 => 3 | 4 => 4 | 0 => 0 | n => n, fun | n => n⟩
theorem Tryd.lCompI : Go.Proofs.Lays2.n20 Tryd.prog Tryd.lCompI_ren := {
  mixed := by kernel_rfl
  f20 := Tryd.func81.trans (congrArg some (by kernel_rfl))
  t0 := Tryd.underlying0
  a0 := Tryd.isAgg0
  z0 := Tryd.sizeOf0
  v0 := Tryd.zeroValue0
  t3 := Tryd.underlying3
  a3 := Tryd.isAgg3
  z3 := Tryd.sizeOf3
  v3 := Tryd.zeroValue3
  t4 := Tryd.underlying4
  a4 := Tryd.isAgg4
  z4 := Tryd.sizeOf4
  v4 := Tryd.zeroValue4
  t22 := Tryd.underlying45
  a22 := Tryd.isAgg45
  z22 := Tryd.sizeOf45
  v22 := Tryd.zeroValue45
  i3 := by kernel_rfl }
def Tryd.lDelI_ren : Go.Shelf.Ren := ⟨fun | 23 => 80 | n => n, fun | 22 => 45 | 3 => 3 | 4 => 4 | 0 => 0 | n => n, fun | n => n⟩
theorem Tryd.lDelI : Go.Proofs.Lays2.n23 Tryd.prog Tryd.lDelI_ren := {
  mixed := by kernel_rfl
  f23 := Tryd.func80.trans (congrArg some (by kernel_rfl))
  t0 := Tryd.underlying0
  a0 := Tryd.isAgg0
  z0 := Tryd.sizeOf0
  v0 := Tryd.zeroValue0
  t3 := Tryd.underlying3
  a3 := Tryd.isAgg3
  z3 := Tryd.sizeOf3
  v3 := Tryd.zeroValue3
  t4 := Tryd.underlying4
  a4 := Tryd.isAgg4
  z4 := Tryd.sizeOf4
  v4 := Tryd.zeroValue4
  t22 := Tryd.underlying45
  a22 := Tryd.isAgg45
  z22 := Tryd.sizeOf45
  v22 := Tryd.zeroValue45
  i3 := by kernel_rfl }
def Tryd.lContI_ren : Go.Shelf.Ren := ⟨fun | 107 => 79 | 108 => 104 | n => n, fun | 28 => 45 | 3 => 3 | 4 => 4 | 0 => 0 | n => n, fun | n => n⟩
theorem Tryd.lContI : Go.Proofs.Lays.n107 Tryd.prog Tryd.lContI_ren := {
  mixed := by kernel_rfl
  f107 := Tryd.func79.trans (congrArg some (by kernel_rfl))
  f108 := Tryd.func104.trans (congrArg some (by kernel_rfl))
  t0 := Tryd.underlying0
  a0 := Tryd.isAgg0
  z0 := Tryd.sizeOf0
  v0 := Tryd.zeroValue0
  t3 := Tryd.underlying3
  a3 := Tryd.isAgg3
  z3 := Tryd.sizeOf3
  v3 := Tryd.zeroValue3
  t4 := Tryd.underlying4
  a4 := Tryd.isAgg4
  z4 := Tryd.sizeOf4
  v4 := Tryd.zeroValue4
  t28 := Tryd.underlying45
  a28 := Tryd.isAgg45
  z28 := Tryd.sizeOf45
  v28 := Tryd.zeroValue45 }
def Tryd.lEqI_ren : Go.Shelf.Ren := ⟨fun | 111 => 85 | n => n, fun | 28 => 45 | 3 => 3 | 4 => 4 | 0 => 0 | n => n, fun | n => n⟩
theorem Tryd.lEqI : Go.Proofs.Lays.n111 Tryd.prog Tryd.lEqI_ren := {
  mixed := by kernel_rfl
  f111 := Tryd.func85.trans (congrArg some (by kernel_rfl))
  t0 := Tryd.underlying0
  a0 := Tryd.isAgg0
  z0 := Tryd.sizeOf0
  v0 := Tryd.zeroValue0
  t3 := Tryd.underlying3
  a3 := Tryd.isAgg3
  z3 := Tryd.sizeOf3
  v3 := Tryd.zeroValue3
  t4 := Tryd.underlying4
  a4 := Tryd.isAgg4
  z4 := Tryd.sizeOf4
  v4 := Tryd.zeroValue4
  t28 := Tryd.underlying45
  a28 := Tryd.isAgg45
  z28 := Tryd.sizeOf45
  v28 := Tryd.zeroValue45 }
end Go.Proofs
