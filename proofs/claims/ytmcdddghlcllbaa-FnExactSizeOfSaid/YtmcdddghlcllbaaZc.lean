/- The library's contracts for slices.Sort and slices.Compact over whole numbers, laid at this program; the functions as contracts of the abstract machine. -/
import Derived.Test.YtmcdddghlcllbaaZb
import Derived.Test.YtmcdddghlcllbaaProg
import Derived.KernelRfl
set_option autoImplicit false
set_option linter.unusedVariables false
namespace Go.Proofs.Ytmcdddghlcllbaa.Den

def laysSort_ren : Go.Shelf.Ren := ⟨fun | 189 => 41 | 125 => 57 | 257 => 56 | 128 => 80 | 129 => 81 | 294 => 71 | 295 => 72 | 296 => 73 | 297 => 74 | 298 => 75 | 299 => 76 | 216 => 77 | 300 => 78 | 301 => 79 | 328 => 85 | 329 => 86 | 330 => 87 | 331 => 88 | 332 => 89 | 215 => 90 | 343 => 91 | n => n, fun | 28 => 41 | 3 => 3 | 46 => 68 | 0 => 0 | 51 => 78 | 53 => 81 | 4 => 4 | 183 => 90 | 182 => 89 | 131 => 24 | 5 => 5 | 9 => 9 | 218 => 100 | 222 => 104 | 228 => 107 | 229 => 108 | n => n, fun | n => n⟩
theorem laysSort : Go.Proofs.Lays.n189 Try.prog laysSort_ren := {
  mixed := by kernel_rfl,
  f125 := Try.func57.trans (congrArg some (by kernel_rfl)),
  f128 := Try.func80.trans (congrArg some (by kernel_rfl)),
  f129 := Try.func81.trans (congrArg some (by kernel_rfl)),
  f189 := Try.func41.trans (congrArg some (by kernel_rfl)),
  f215 := Try.func90.trans (congrArg some (by kernel_rfl)),
  f216 := Try.func77.trans (congrArg some (by kernel_rfl)),
  f257 := Try.func56.trans (congrArg some (by kernel_rfl)),
  f294 := Try.func71.trans (congrArg some (by kernel_rfl)),
  f295 := Try.func72.trans (congrArg some (by kernel_rfl)),
  f296 := Try.func73.trans (congrArg some (by kernel_rfl)),
  f297 := Try.func74.trans (congrArg some (by kernel_rfl)),
  f298 := Try.func75.trans (congrArg some (by kernel_rfl)),
  f299 := Try.func76.trans (congrArg some (by kernel_rfl)),
  f300 := Try.func78.trans (congrArg some (by kernel_rfl)),
  f301 := Try.func79.trans (congrArg some (by kernel_rfl)),
  f328 := Try.func85.trans (congrArg some (by kernel_rfl)),
  f329 := Try.func86.trans (congrArg some (by kernel_rfl)),
  f330 := Try.func87.trans (congrArg some (by kernel_rfl)),
  f331 := Try.func88.trans (congrArg some (by kernel_rfl)),
  f332 := Try.func89.trans (congrArg some (by kernel_rfl)),
  f343 := Try.func91.trans (congrArg some (by kernel_rfl)),
  t0 := Try.underlying0,
  a0 := Try.isAgg0,
  z0 := Try.sizeOf0,
  v0 := Try.zeroValue0,
  t3 := Try.underlying3,
  a3 := Try.isAgg3,
  z3 := Try.sizeOf3,
  v3 := Try.zeroValue3,
  t4 := Try.underlying4,
  a4 := Try.isAgg4,
  z4 := Try.sizeOf4,
  v4 := Try.zeroValue4,
  t5 := Try.underlying5,
  a5 := Try.isAgg5,
  z5 := Try.sizeOf5,
  v5 := Try.zeroValue5,
  t9 := Try.underlying9,
  a9 := Try.isAgg9,
  z9 := Try.sizeOf9,
  v9 := Try.zeroValue9,
  t28 := Try.underlying41,
  a28 := Try.isAgg41,
  z28 := Try.sizeOf41,
  v28 := Try.zeroValue41,
  t46 := Try.underlying68,
  a46 := Try.isAgg68,
  z46 := Try.sizeOf68,
  v46 := Try.zeroValue68,
  t51 := Try.underlying78,
  a51 := Try.isAgg78,
  z51 := Try.sizeOf78,
  v51 := Try.zeroValue78,
  t53 := Try.underlying81,
  a53 := Try.isAgg81,
  z53 := Try.sizeOf81,
  v53 := Try.zeroValue81,
  t131 := Try.underlying24,
  a131 := Try.isAgg24,
  z131 := Try.sizeOf24,
  v131 := Try.zeroValue24,
  t182 := Try.underlying89,
  a182 := Try.isAgg89,
  z182 := Try.sizeOf89,
  v182 := Try.zeroValue89,
  t183 := Try.underlying90,
  a183 := Try.isAgg90,
  z183 := Try.sizeOf90,
  v183 := Try.zeroValue90,
  t218 := Try.underlying100,
  a218 := Try.isAgg100,
  z218 := Try.sizeOf100,
  v218 := Try.zeroValue100,
  t222 := Try.underlying104,
  a222 := Try.isAgg104,
  z222 := Try.sizeOf104,
  v222 := Try.zeroValue104,
  t228 := Try.underlying107,
  a228 := Try.isAgg107,
  z228 := Try.sizeOf107,
  v228 := Try.zeroValue107,
  t229 := Try.underlying108,
  a229 := Try.isAgg108,
  z229 := Try.sizeOf108,
  v229 := Try.zeroValue108 }

def laysCompact_ren : Go.Shelf.Ren := ⟨fun | 20 => 44 | n => n, fun | 22 => 41 | 3 => 3 | 4 => 4 | 0 => 0 | n => n, fun | n => n⟩
theorem laysCompact : Go.Proofs.Lays2.n20 Try.prog laysCompact_ren := {
  mixed := by kernel_rfl,
  f20 := Try.func44.trans (congrArg some (by kernel_rfl)),
  t0 := Try.underlying0,
  a0 := Try.isAgg0,
  z0 := Try.sizeOf0,
  v0 := Try.zeroValue0,
  t3 := Try.underlying3,
  a3 := Try.isAgg3,
  z3 := Try.sizeOf3,
  v3 := Try.zeroValue3,
  t4 := Try.underlying4,
  a4 := Try.isAgg4,
  z4 := Try.sizeOf4,
  v4 := Try.zeroValue4,
  t22 := Try.underlying41,
  a22 := Try.isAgg41,
  z22 := Try.sizeOf41,
  v22 := Try.zeroValue41,
  i3 := by kernel_rfl }

def slices_Sort_int.f (k : Nat) : List Int × Unit → Option (List Int × Unit) := fun x => if x.1.length ≤ big then some (sorted x.1, ()) else none
def slices_Sort_int.fc : Fc := sortFc 41
theorem slices_Sort_int.ok : ∀ k, FcOK Try.prog slices_Sort_int.fc k := sort_ok laysSort ⟨_, Try.func41, by kernel_rfl, by kernel_rfl⟩

def slices_Compact_int.f (k : Nat) : List Int × Unit → Option (List Int × Unit) := fun x => if x.1.length ≤ big then some (Lib.compact x.1, ()) else none
def slices_Compact_int.fc : Fc := compactFc 44
theorem slices_Compact_int.ok : ∀ k, FcOK Try.prog slices_Compact_int.fc k := compact_ok laysCompact ⟨_, Try.func44, by kernel_rfl, by kernel_rfl⟩

end Go.Proofs.Ytmcdddghlcllbaa.Den
