/- A part. -/
import Derived.Shelf.Sort.Plain
import Derived.Ground.Names2Prog
import Derived.Test.YtdcjkdgjlljodaaProg
set_option linter.all false
namespace Go.Proofs
open Go.Shelf
def Try.lays189_ren : Go.Shelf.Ren := ⟨fun | 189 => 48 | 125 => 57 | 257 => 56 | 128 => 72 | 129 => 73 | 294 => 63 | 295 => 64 | 296 => 65 | 297 => 66 | 298 => 67 | 299 => 68 | 216 => 69 | 300 => 70 | 301 => 71 | 328 => 76 | 329 => 77 | 330 => 78 | 331 => 79 | 332 => 80 | 215 => 81 | 343 => 82 | n => n, fun | 28 => 30 | 3 => 3 | 46 => 81 | 0 => 0 | 51 => 98 | 53 => 22 | 4 => 4 | 183 => 91 | 182 => 90 | 131 => 83 | 5 => 5 | 9 => 9 | 218 => 101 | 222 => 105 | 228 => 107 | 229 => 108 | n => n, fun | n => n⟩
theorem Try.lays189 : Go.Proofs.Lays.n189 Try.prog Try.lays189_ren := {
 mixed := by kernel_rfl
 f125 := Try.func57.trans (congrArg some (by kernel_rfl))
 f128 := Try.func72.trans (congrArg some (by kernel_rfl))
 f129 := Try.func73.trans (congrArg some (by kernel_rfl))
 f189 := Try.func48.trans (congrArg some (by kernel_rfl))
 f215 := Try.func81.trans (congrArg some (by kernel_rfl))
 f216 := Try.func69.trans (congrArg some (by kernel_rfl))
 f257 := Try.func56.trans (congrArg some (by kernel_rfl))
 f294 := Try.func63.trans (congrArg some (by kernel_rfl))
 f295 := Try.func64.trans (congrArg some (by kernel_rfl))
 f296 := Try.func65.trans (congrArg some (by kernel_rfl))
 f297 := Try.func66.trans (congrArg some (by kernel_rfl))
 f298 := Try.func67.trans (congrArg some (by kernel_rfl))
 f299 := Try.func68.trans (congrArg some (by kernel_rfl))
 f300 := Try.func70.trans (congrArg some (by kernel_rfl))
 f301 := Try.func71.trans (congrArg some (by kernel_rfl))
 f328 := Try.func76.trans (congrArg some (by kernel_rfl))
 f329 := Try.func77.trans (congrArg some (by kernel_rfl))
 f330 := Try.func78.trans (congrArg some (by kernel_rfl))
 f331 := Try.func79.trans (congrArg some (by kernel_rfl))
 f332 := Try.func80.trans (congrArg some (by kernel_rfl))
 f343 := Try.func82.trans (congrArg some (by kernel_rfl))
 t0 := Try.underlying0
 a0 := Try.isAgg0
 z0 := Try.sizeOf0
 v0 := Try.zeroValue0
 t3 := Try.underlying3
 a3 := Try.isAgg3
 z3 := Try.sizeOf3
 v3 := Try.zeroValue3
 t4 := Try.underlying4
 a4 := Try.isAgg4
 z4 := Try.sizeOf4
 v4 := Try.zeroValue4
 t5 := Try.underlying5
 a5 := Try.isAgg5
 z5 := Try.sizeOf5
 v5 := Try.zeroValue5
 t9 := Try.underlying9
 a9 := Try.isAgg9
 z9 := Try.sizeOf9
 v9 := Try.zeroValue9
 t28 := Try.underlying30
 a28 := Try.isAgg30
 z28 := Try.sizeOf30
 v28 := Try.zeroValue30
 t46 := Try.underlying81
 a46 := Try.isAgg81
 z46 := Try.sizeOf81
 v46 := Try.zeroValue81
 t51 := Try.underlying98
 a51 := Try.isAgg98
 z51 := Try.sizeOf98
 v51 := Try.zeroValue98
 t53 := Try.underlying22
 a53 := Try.isAgg22
 z53 := Try.sizeOf22
 v53 := Try.zeroValue22
 t131 := Try.underlying83
 a131 := Try.isAgg83
 z131 := Try.sizeOf83
 v131 := Try.zeroValue83
 t182 := Try.underlying90
 a182 := Try.isAgg90
 z182 := Try.sizeOf90
 v182 := Try.zeroValue90
 t183 := Try.underlying91
 a183 := Try.isAgg91
 z183 := Try.sizeOf91
 v183 := Try.zeroValue91
 t218 := Try.underlying101
 a218 := Try.isAgg101
 z218 := Try.sizeOf101
 v218 := Try.zeroValue101
 t222 := Try.underlying105
 a222 := Try.isAgg105
 z222 := Try.sizeOf105
 v222 := Try.zeroValue105
 t228 := Try.underlying107
 a228 := Try.isAgg107
 z228 := Try.sizeOf107
 v228 := Try.zeroValue107
 t229 := Try.underlying108
 a229 := Try.isAgg108
 z229 := Try.sizeOf108
 v229 := Try.zeroValue108 }
end Go.Proofs
