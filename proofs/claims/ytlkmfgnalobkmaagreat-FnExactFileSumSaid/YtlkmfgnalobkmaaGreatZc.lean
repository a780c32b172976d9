/- The library's contracts for slices.Sort and slices.Compact over whole numbers, laid at this program; the functions as contracts of the abstract machine. -/
import Derived.Test.YtlkmfgnalobkmaaGreatZb
import Derived.Test.YtlkmfgnalobkmaaGreatProg
import Derived.KernelRfl
set_option autoImplicit false
set_option linter.unusedVariables false
namespace Go.Proofs.YtlkmfgnalobkmaaGreat.Den

def laysSort_ren : Go.Shelf.Ren := ⟨fun | 189 => 130 | 125 => 148 | 257 => 147 | 128 => 162 | 129 => 163 | 294 => 153 | 295 => 154 | 296 => 155 | 297 => 156 | 298 => 157 | 299 => 158 | 216 => 159 | 300 => 160 | 301 => 161 | 328 => 165 | 329 => 166 | 330 => 167 | 331 => 168 | 332 => 169 | 215 => 170 | 343 => 171 | n => n, fun | 28 => 57 | 3 => 3 | 46 => 119 | 0 => 0 | 51 => 179 | 53 => 122 | 4 => 4 | 183 => 172 | 182 => 171 | 131 => 39 | 5 => 5 | 9 => 9 | 218 => 182 | 222 => 186 | 228 => 188 | 229 => 189 | n => n, fun | n => n⟩
theorem laysSort : Go.Proofs.Lays.n189 Tryz.prog laysSort_ren := {
  mixed := by kernel_rfl,
  f125 := Tryz.func148.trans (congrArg some (by kernel_rfl)),
  f128 := Tryz.func162.trans (congrArg some (by kernel_rfl)),
  f129 := Tryz.func163.trans (congrArg some (by kernel_rfl)),
  f189 := Tryz.func130.trans (congrArg some (by kernel_rfl)),
  f215 := Tryz.func170.trans (congrArg some (by kernel_rfl)),
  f216 := Tryz.func159.trans (congrArg some (by kernel_rfl)),
  f257 := Tryz.func147.trans (congrArg some (by kernel_rfl)),
  f294 := Tryz.func153.trans (congrArg some (by kernel_rfl)),
  f295 := Tryz.func154.trans (congrArg some (by kernel_rfl)),
  f296 := Tryz.func155.trans (congrArg some (by kernel_rfl)),
  f297 := Tryz.func156.trans (congrArg some (by kernel_rfl)),
  f298 := Tryz.func157.trans (congrArg some (by kernel_rfl)),
  f299 := Tryz.func158.trans (congrArg some (by kernel_rfl)),
  f300 := Tryz.func160.trans (congrArg some (by kernel_rfl)),
  f301 := Tryz.func161.trans (congrArg some (by kernel_rfl)),
  f328 := Tryz.func165.trans (congrArg some (by kernel_rfl)),
  f329 := Tryz.func166.trans (congrArg some (by kernel_rfl)),
  f330 := Tryz.func167.trans (congrArg some (by kernel_rfl)),
  f331 := Tryz.func168.trans (congrArg some (by kernel_rfl)),
  f332 := Tryz.func169.trans (congrArg some (by kernel_rfl)),
  f343 := Tryz.func171.trans (congrArg some (by kernel_rfl)),
  t0 := Tryz.underlying0,
  a0 := Tryz.isAgg0,
  z0 := Tryz.sizeOf0,
  v0 := Tryz.zeroValue0,
  t3 := Tryz.underlying3,
  a3 := Tryz.isAgg3,
  z3 := Tryz.sizeOf3,
  v3 := Tryz.zeroValue3,
  t4 := Tryz.underlying4,
  a4 := Tryz.isAgg4,
  z4 := Tryz.sizeOf4,
  v4 := Tryz.zeroValue4,
  t5 := Tryz.underlying5,
  a5 := Tryz.isAgg5,
  z5 := Tryz.sizeOf5,
  v5 := Tryz.zeroValue5,
  t9 := Tryz.underlying9,
  a9 := Tryz.isAgg9,
  z9 := Tryz.sizeOf9,
  v9 := Tryz.zeroValue9,
  t28 := Tryz.underlying57,
  a28 := Tryz.isAgg57,
  z28 := Tryz.sizeOf57,
  v28 := Tryz.zeroValue57,
  t46 := Tryz.underlying119,
  a46 := Tryz.isAgg119,
  z46 := Tryz.sizeOf119,
  v46 := Tryz.zeroValue119,
  t51 := Tryz.underlying179,
  a51 := Tryz.isAgg179,
  z51 := Tryz.sizeOf179,
  v51 := Tryz.zeroValue179,
  t53 := Tryz.underlying122,
  a53 := Tryz.isAgg122,
  z53 := Tryz.sizeOf122,
  v53 := Tryz.zeroValue122,
  t131 := Tryz.underlying39,
  a131 := Tryz.isAgg39,
  z131 := Tryz.sizeOf39,
  v131 := Tryz.zeroValue39,
  t182 := Tryz.underlying171,
  a182 := Tryz.isAgg171,
  z182 := Tryz.sizeOf171,
  v182 := Tryz.zeroValue171,
  t183 := Tryz.underlying172,
  a183 := Tryz.isAgg172,
  z183 := Tryz.sizeOf172,
  v183 := Tryz.zeroValue172,
  t218 := Tryz.underlying182,
  a218 := Tryz.isAgg182,
  z218 := Tryz.sizeOf182,
  v218 := Tryz.zeroValue182,
  t222 := Tryz.underlying186,
  a222 := Tryz.isAgg186,
  z222 := Tryz.sizeOf186,
  v222 := Tryz.zeroValue186,
  t228 := Tryz.underlying188,
  a228 := Tryz.isAgg188,
  z228 := Tryz.sizeOf188,
  v228 := Tryz.zeroValue188,
  t229 := Tryz.underlying189,
  a229 := Tryz.isAgg189,
  z229 := Tryz.sizeOf189,
  v229 := Tryz.zeroValue189 }

def laysCompact_ren : Go.Shelf.Ren := ⟨fun | 20 => 133 | n => n, fun | 22 => 57 | 3 => 3 | 4 => 4 | 0 => 0 | n => n, fun | n => n⟩
theorem laysCompact : Go.Proofs.Lays2.n20 Tryz.prog laysCompact_ren := {
  mixed := by kernel_rfl,
  f20 := Tryz.func133.trans (congrArg some (by kernel_rfl)),
  t0 := Tryz.underlying0,
  a0 := Tryz.isAgg0,
  z0 := Tryz.sizeOf0,
  v0 := Tryz.zeroValue0,
  t3 := Tryz.underlying3,
  a3 := Tryz.isAgg3,
  z3 := Tryz.sizeOf3,
  v3 := Tryz.zeroValue3,
  t4 := Tryz.underlying4,
  a4 := Tryz.isAgg4,
  z4 := Tryz.sizeOf4,
  v4 := Tryz.zeroValue4,
  t22 := Tryz.underlying57,
  a22 := Tryz.isAgg57,
  z22 := Tryz.sizeOf57,
  v22 := Tryz.zeroValue57,
  i3 := by kernel_rfl }

def slices_Sort_int.f (k : Nat) : List Int × Unit → Option (List Int × Unit) := fun x => if x.1.length ≤ big then some (sorted x.1, ()) else none
def slices_Sort_int.fc : Fc := sortFc 130
theorem slices_Sort_int.ok : ∀ k, FcOK Tryz.prog slices_Sort_int.fc k := sort_ok laysSort ⟨_, Tryz.func130, by kernel_rfl, by kernel_rfl⟩

def slices_Compact_int.f (k : Nat) : List Int × Unit → Option (List Int × Unit) := fun x => if x.1.length ≤ big then some (Lib.compact x.1, ()) else none
def slices_Compact_int.fc : Fc := compactFc 133
theorem slices_Compact_int.ok : ∀ k, FcOK Tryz.prog slices_Compact_int.fc k := compact_ok laysCompact ⟨_, Tryz.func133, by kernel_rfl, by kernel_rfl⟩

end Go.Proofs.YtlkmfgnalobkmaaGreat.Den
