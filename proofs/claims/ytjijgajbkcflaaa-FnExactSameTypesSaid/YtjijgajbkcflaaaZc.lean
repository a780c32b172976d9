/- The library's contracts for slices.Sort and slices.Compact over whole numbers, laid at this program; the two functions as contracts of the abstract machine. -/
import Derived.Test.YtjijgajbkcflaaaZb
import Derived.Test.YtjijgajbkcflaaaProg
import Derived.KernelRfl
set_option autoImplicit false
set_option linter.unusedVariables false
namespace Go.Proofs.Ytjijgajbkcflaaa.Den

def laysSort_ren : Go.Shelf.Ren := ⟨fun | 189 => 81 | 125 => 108 | 257 => 107 | 128 => 130 | 129 => 131 | 294 => 121 | 295 => 122 | 296 => 123 | 297 => 124 | 298 => 125 | 299 => 126 | 216 => 127 | 300 => 128 | 301 => 129 | 328 => 137 | 329 => 138 | 330 => 139 | 331 => 140 | 332 => 141 | 215 => 142 | 343 => 143 | n => n, fun | 28 => 43 | 3 => 3 | 46 => 115 | 0 => 0 | 51 => 133 | 53 => 68 | 4 => 4 | 183 => 127 | 182 => 126 | 131 => 34 | 5 => 5 | 9 => 9 | 218 => 141 | 222 => 145 | 228 => 147 | 229 => 148 | n => n, fun | n => n⟩
theorem laysSort : Go.Proofs.Lays.n189 Try.prog laysSort_ren := {
  mixed := by kernel_rfl,
  f125 := Try.func108.trans (congrArg some (by kernel_rfl)),
  f128 := Try.func130.trans (congrArg some (by kernel_rfl)),
  f129 := Try.func131.trans (congrArg some (by kernel_rfl)),
  f189 := Try.func81.trans (congrArg some (by kernel_rfl)),
  f215 := Try.func142.trans (congrArg some (by kernel_rfl)),
  f216 := Try.func127.trans (congrArg some (by kernel_rfl)),
  f257 := Try.func107.trans (congrArg some (by kernel_rfl)),
  f294 := Try.func121.trans (congrArg some (by kernel_rfl)),
  f295 := Try.func122.trans (congrArg some (by kernel_rfl)),
  f296 := Try.func123.trans (congrArg some (by kernel_rfl)),
  f297 := Try.func124.trans (congrArg some (by kernel_rfl)),
  f298 := Try.func125.trans (congrArg some (by kernel_rfl)),
  f299 := Try.func126.trans (congrArg some (by kernel_rfl)),
  f300 := Try.func128.trans (congrArg some (by kernel_rfl)),
  f301 := Try.func129.trans (congrArg some (by kernel_rfl)),
  f328 := Try.func137.trans (congrArg some (by kernel_rfl)),
  f329 := Try.func138.trans (congrArg some (by kernel_rfl)),
  f330 := Try.func139.trans (congrArg some (by kernel_rfl)),
  f331 := Try.func140.trans (congrArg some (by kernel_rfl)),
  f332 := Try.func141.trans (congrArg some (by kernel_rfl)),
  f343 := Try.func143.trans (congrArg some (by kernel_rfl)),
  t0 := Try.underlying0,
  a0 := Try.isAgg0,
  z0 := Try.sizeOf0,
  v0 := Try.zeroValue0,
  t3 := Try.underlying3,
  a3 := Try.isAgg3,
  z3 := Try.sizeOf3,
  v3 := Try.zeroValue3,
  t4 := Try.underlying4,
  a4 := Try.isAgg4,
  z4 := Try.sizeOf4,
  v4 := Try.zeroValue4,
  t5 := Try.underlying5,
  a5 := Try.isAgg5,
  z5 := Try.sizeOf5,
  v5 := Try.zeroValue5,
  t9 := Try.underlying9,
  a9 := Try.isAgg9,
  z9 := Try.sizeOf9,
  v9 := Try.zeroValue9,
  t28 := Try.underlying43,
  a28 := Try.isAgg43,
  z28 := Try.sizeOf43,
  v28 := Try.zeroValue43,
  t46 := Try.underlying115,
  a46 := Try.isAgg115,
  z46 := Try.sizeOf115,
  v46 := Try.zeroValue115,
  t51 := Try.underlying133,
  a51 := Try.isAgg133,
  z51 := Try.sizeOf133,
  v51 := Try.zeroValue133,
  t53 := Try.underlying68,
  a53 := Try.isAgg68,
  z53 := Try.sizeOf68,
  v53 := Try.zeroValue68,
  t131 := Try.underlying34,
  a131 := Try.isAgg34,
  z131 := Try.sizeOf34,
  v131 := Try.zeroValue34,
  t182 := Try.underlying126,
  a182 := Try.isAgg126,
  z182 := Try.sizeOf126,
  v182 := Try.zeroValue126,
  t183 := Try.underlying127,
  a183 := Try.isAgg127,
  z183 := Try.sizeOf127,
  v183 := Try.zeroValue127,
  t218 := Try.underlying141,
  a218 := Try.isAgg141,
  z218 := Try.sizeOf141,
  v218 := Try.zeroValue141,
  t222 := Try.underlying145,
  a222 := Try.isAgg145,
  z222 := Try.sizeOf145,
  v222 := Try.zeroValue145,
  t228 := Try.underlying147,
  a228 := Try.isAgg147,
  z228 := Try.sizeOf147,
  v228 := Try.zeroValue147,
  t229 := Try.underlying148,
  a229 := Try.isAgg148,
  z229 := Try.sizeOf148,
  v229 := Try.zeroValue148 }

def laysCompact_ren : Go.Shelf.Ren := ⟨fun | 20 => 84 | n => n, fun | 22 => 43 | 3 => 3 | 4 => 4 | 0 => 0 | n => n, fun | n => n⟩
theorem laysCompact : Go.Proofs.Lays2.n20 Try.prog laysCompact_ren := {
  mixed := by kernel_rfl,
  f20 := Try.func84.trans (congrArg some (by kernel_rfl)),
  t0 := Try.underlying0,
  a0 := Try.isAgg0,
  z0 := Try.sizeOf0,
  v0 := Try.zeroValue0,
  t3 := Try.underlying3,
  a3 := Try.isAgg3,
  z3 := Try.sizeOf3,
  v3 := Try.zeroValue3,
  t4 := Try.underlying4,
  a4 := Try.isAgg4,
  z4 := Try.sizeOf4,
  v4 := Try.zeroValue4,
  t22 := Try.underlying43,
  a22 := Try.isAgg43,
  z22 := Try.sizeOf43,
  v22 := Try.zeroValue43,
  i3 := by kernel_rfl }

def slices_Sort_int.f (k : Nat) : List Int × Unit → Option (List Int × Unit) := fun x => if x.1.length ≤ big then some (sorted x.1, ()) else none
def slices_Sort_int.fc : Fc := sortFc 81
theorem slices_Sort_int.ok : ∀ k, FcOK Try.prog slices_Sort_int.fc k := sort_ok laysSort ⟨_, Try.func81, by kernel_rfl, by kernel_rfl⟩

def slices_Compact_int.f (k : Nat) : List Int × Unit → Option (List Int × Unit) := fun x => if x.1.length ≤ big then some (Lib.compact x.1, ()) else none
def slices_Compact_int.fc : Fc := compactFc 84
theorem slices_Compact_int.ok : ∀ k, FcOK Try.prog slices_Compact_int.fc k := compact_ok laysCompact ⟨_, Try.func84, by kernel_rfl, by kernel_rfl⟩

end Go.Proofs.Ytjijgajbkcflaaa.Den
