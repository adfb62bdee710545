/-
  DERIVED: THE SHELF's CONTRACTS AT THIS DUMP, IN PLAIN WORDS (tools/lay-plain.mjs out of 'YtfmdeahblaikoaaDoorLays.lean', which tools/lay-shelf.mjs wrote): THE SAME DECLARATIONS UNDER THE SAME NAMES: 'import', 'namespace', 'open', 'def', 'theorem' AND NOTHING ELSE: no command of the shelf's: FOR A HAND-IN. Each laying: the table of numbers ('.._ren') and one theorem, a field a fact of the dump's own or the kernel's comparison; each contract: ONE APPLICATION.
-/
import Derived.Shelf.Sort.Plain
import Derived.Shelf.Slices.In.SortNone
import Derived.Ground.NamesProg
import Derived.Shelf.Slices.CompactI
import Derived.Shelf.Slices.Empties2
import Derived.Ground.Names2Prog
import Derived.Shelf.Slices.Turned
import Derived.Shelf.Slices.Empties
import Derived.Test.YtfmdeahblaikoaaDoorProg
namespace Go.Proofs
open Go.Shelf
def Tryd.lSortI_ren : Go.Shelf.Ren := ⟨fun | 189 => 58 | 125 => 70 | 257 => 86 | 128 => 103 | 129 => 104 | 294 => 110 | 295 => 111 | 296 => 112 | 297 => 113 | 298 => 114 | 299 => 115 | 216 => 116 | 300 => 117 | 301 => 118 | 328 => 128 | 329 => 121 | 330 => 122 | 331 => 129 | 332 => 130 | 215 => 71 | 343 => 140 | n => n, fun | 28 => 23 | 3 => 3 | 46 => 140 | 0 => 0 | 51 => 170 | 53 => 172 | 4 => 4 | 183 => 164 | 182 => 163 | 131 => 155 | 5 => 5 | 9 => 9 | 218 => 194 | 222 => 198 | 228 => 221 | 229 => 61 | n => n, fun | n => n⟩
theorem Tryd.lSortI : Go.Proofs.Lays.n189 Tryd.prog Tryd.lSortI_ren := {
  mixed := by kernel_rfl
  f125 := Tryd.func70.trans (congrArg some (by kernel_rfl))
  f128 := Tryd.func103.trans (congrArg some (by kernel_rfl))
  f129 := Tryd.func104.trans (congrArg some (by kernel_rfl))
  f189 := Tryd.func58.trans (congrArg some (by kernel_rfl))
  f215 := Tryd.func71.trans (congrArg some (by kernel_rfl))
  f216 := Tryd.func116.trans (congrArg some (by kernel_rfl))
  f257 := Tryd.func86.trans (congrArg some (by kernel_rfl))
  f294 := Tryd.func110.trans (congrArg some (by kernel_rfl))
  f295 := Tryd.func111.trans (congrArg some (by kernel_rfl))
  f296 := Tryd.func112.trans (congrArg some (by kernel_rfl))
  f297 := Tryd.func113.trans (congrArg some (by kernel_rfl))
  f298 := Tryd.func114.trans (congrArg some (by kernel_rfl))
  f299 := Tryd.func115.trans (congrArg some (by kernel_rfl))
  f300 := Tryd.func117.trans (congrArg some (by kernel_rfl))
  f301 := Tryd.func118.trans (congrArg some (by kernel_rfl))
  f328 := Tryd.func128.trans (congrArg some (by kernel_rfl))
  f329 := Tryd.func121.trans (congrArg some (by kernel_rfl))
  f330 := Tryd.func122.trans (congrArg some (by kernel_rfl))
  f331 := Tryd.func129.trans (congrArg some (by kernel_rfl))
  f332 := Tryd.func130.trans (congrArg some (by kernel_rfl))
  f343 := Tryd.func140.trans (congrArg some (by kernel_rfl))
  t0 := Tryd.underlying0
  a0 := Tryd.isAgg0
  z0 := Tryd.sizeOf0
  v0 := Tryd.zeroValue0
  t3 := Tryd.underlying3
  a3 := Tryd.isAgg3
  z3 := Tryd.sizeOf3
  v3 := Tryd.zeroValue3
  t4 := Tryd.underlying4
  a4 := Tryd.isAgg4
  z4 := Tryd.sizeOf4
  v4 := Tryd.zeroValue4
  t5 := Tryd.underlying5
  a5 := Tryd.isAgg5
  z5 := Tryd.sizeOf5
  v5 := Tryd.zeroValue5
  t9 := Tryd.underlying9
  a9 := Tryd.isAgg9
  z9 := Tryd.sizeOf9
  v9 := Tryd.zeroValue9
  t28 := Tryd.underlying23
  a28 := Tryd.isAgg23
  z28 := Tryd.sizeOf23
  v28 := Tryd.zeroValue23
  t46 := Tryd.underlying140
  a46 := Tryd.isAgg140
  z46 := Tryd.sizeOf140
  v46 := Tryd.zeroValue140
  t51 := Tryd.underlying170
  a51 := Tryd.isAgg170
  z51 := Tryd.sizeOf170
  v51 := Tryd.zeroValue170
  t53 := Tryd.underlying172
  a53 := Tryd.isAgg172
  z53 := Tryd.sizeOf172
  v53 := Tryd.zeroValue172
  t131 := Tryd.underlying155
  a131 := Tryd.isAgg155
  z131 := Tryd.sizeOf155
  v131 := Tryd.zeroValue155
  t182 := Tryd.underlying163
  a182 := Tryd.isAgg163
  z182 := Tryd.sizeOf163
  v182 := Tryd.zeroValue163
  t183 := Tryd.underlying164
  a183 := Tryd.isAgg164
  z183 := Tryd.sizeOf164
  v183 := Tryd.zeroValue164
  t218 := Tryd.underlying194
  a218 := Tryd.isAgg194
  z218 := Tryd.sizeOf194
  v218 := Tryd.zeroValue194
  t222 := Tryd.underlying198
  a222 := Tryd.isAgg198
  z222 := Tryd.sizeOf198
  v222 := Tryd.zeroValue198
  t228 := Tryd.underlying221
  a228 := Tryd.isAgg221
  z228 := Tryd.sizeOf221
  v228 := Tryd.zeroValue221
  t229 := Tryd.underlying61
  a229 := Tryd.isAgg61
  z229 := Tryd.sizeOf61
  v229 := Tryd.zeroValue61 }
def Tryd.lCompI_ren : Go.Shelf.Ren := ⟨fun | 20 => 59 | n => n, fun | 22 => 23 | 3 => 3 | 4 => 4 | 0 => 0 | n => n, fun | n => n⟩
theorem Tryd.lCompI : Go.Proofs.Lays2.n20 Tryd.prog Tryd.lCompI_ren := {
  mixed := by kernel_rfl
  f20 := Tryd.func59.trans (congrArg some (by kernel_rfl))
  t0 := Tryd.underlying0
  a0 := Tryd.isAgg0
  z0 := Tryd.sizeOf0
  v0 := Tryd.zeroValue0
  t3 := Tryd.underlying3
  a3 := Tryd.isAgg3
  z3 := Tryd.sizeOf3
  v3 := Tryd.zeroValue3
  t4 := Tryd.underlying4
  a4 := Tryd.isAgg4
  z4 := Tryd.sizeOf4
  v4 := Tryd.zeroValue4
  t22 := Tryd.underlying23
  a22 := Tryd.isAgg23
  z22 := Tryd.sizeOf23
  v22 := Tryd.zeroValue23
  i3 := by kernel_rfl }
def Tryd.lContI_ren : Go.Shelf.Ren := ⟨fun | 107 => 66 | 108 => 93 | n => n, fun | 28 => 23 | 3 => 3 | 4 => 4 | 0 => 0 | n => n, fun | n => n⟩
theorem Tryd.lContI : Go.Proofs.Lays.n107 Tryd.prog Tryd.lContI_ren := {
  mixed := by kernel_rfl
  f107 := Tryd.func66.trans (congrArg some (by kernel_rfl))
  f108 := Tryd.func93.trans (congrArg some (by kernel_rfl))
  t0 := Tryd.underlying0
  a0 := Tryd.isAgg0
  z0 := Tryd.sizeOf0
  v0 := Tryd.zeroValue0
  t3 := Tryd.underlying3
  a3 := Tryd.isAgg3
  z3 := Tryd.sizeOf3
  v3 := Tryd.zeroValue3
  t4 := Tryd.underlying4
  a4 := Tryd.isAgg4
  z4 := Tryd.sizeOf4
  v4 := Tryd.zeroValue4
  t28 := Tryd.underlying23
  a28 := Tryd.isAgg23
  z28 := Tryd.sizeOf23
  v28 := Tryd.zeroValue23 }
end Go.Proofs
