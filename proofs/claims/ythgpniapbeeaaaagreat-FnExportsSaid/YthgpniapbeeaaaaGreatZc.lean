/- The library's contracts for slices.Sort and slices.Compact over whole numbers, laid at this program; the functions as contracts of the abstract machine. -/
import Derived.Test.YthgpniapbeeaaaaGreatZb
import Derived.Test.YthgpniapbeeaaaaGreatProg
import Derived.KernelRfl
set_option autoImplicit false
set_option linter.unusedVariables false
namespace Go.Proofs.YthgpniapbeeaaaaGreat.Den

def laysSort_ren : Go.Shelf.Ren := ⟨fun | 189 => 144 | 125 => 200 | 257 => 199 | 128 => 236 | 129 => 237 | 294 => 227 | 295 => 228 | 296 => 229 | 297 => 230 | 298 => 231 | 299 => 232 | 216 => 233 | 300 => 234 | 301 => 235 | 328 => 258 | 329 => 259 | 330 => 260 | 331 => 261 | 332 => 262 | 215 => 263 | 343 => 268 | n => n, fun | 28 => 40 | 3 => 3 | 46 => 207 | 0 => 0 | 51 => 235 | 53 => 110 | 4 => 4 | 183 => 229 | 182 => 228 | 131 => 57 | 5 => 5 | 9 => 9 | 218 => 254 | 222 => 258 | 228 => 263 | 229 => 264 | n => n, fun | n => n⟩
theorem laysSort : Go.Proofs.Lays.n189 Tryz.prog laysSort_ren := {
  mixed := by kernel_rfl,
  f125 := Tryz.func200.trans (congrArg some (by kernel_rfl)),
  f128 := Tryz.func236.trans (congrArg some (by kernel_rfl)),
  f129 := Tryz.func237.trans (congrArg some (by kernel_rfl)),
  f189 := Tryz.func144.trans (congrArg some (by kernel_rfl)),
  f215 := Tryz.func263.trans (congrArg some (by kernel_rfl)),
  f216 := Tryz.func233.trans (congrArg some (by kernel_rfl)),
  f257 := Tryz.func199.trans (congrArg some (by kernel_rfl)),
  f294 := Tryz.func227.trans (congrArg some (by kernel_rfl)),
  f295 := Tryz.func228.trans (congrArg some (by kernel_rfl)),
  f296 := Tryz.func229.trans (congrArg some (by kernel_rfl)),
  f297 := Tryz.func230.trans (congrArg some (by kernel_rfl)),
  f298 := Tryz.func231.trans (congrArg some (by kernel_rfl)),
  f299 := Tryz.func232.trans (congrArg some (by kernel_rfl)),
  f300 := Tryz.func234.trans (congrArg some (by kernel_rfl)),
  f301 := Tryz.func235.trans (congrArg some (by kernel_rfl)),
  f328 := Tryz.func258.trans (congrArg some (by kernel_rfl)),
  f329 := Tryz.func259.trans (congrArg some (by kernel_rfl)),
  f330 := Tryz.func260.trans (congrArg some (by kernel_rfl)),
  f331 := Tryz.func261.trans (congrArg some (by kernel_rfl)),
  f332 := Tryz.func262.trans (congrArg some (by kernel_rfl)),
  f343 := Tryz.func268.trans (congrArg some (by kernel_rfl)),
  t0 := Tryz.underlying0,
  a0 := Tryz.isAgg0,
  z0 := Tryz.sizeOf0,
  v0 := Tryz.zeroValue0,
  t3 := Tryz.underlying3,
  a3 := Tryz.isAgg3,
  z3 := Tryz.sizeOf3,
  v3 := Tryz.zeroValue3,
  t4 := Tryz.underlying4,
  a4 := Tryz.isAgg4,
  z4 := Tryz.sizeOf4,
  v4 := Tryz.zeroValue4,
  t5 := Tryz.underlying5,
  a5 := Tryz.isAgg5,
  z5 := Tryz.sizeOf5,
  v5 := Tryz.zeroValue5,
  t9 := Tryz.underlying9,
  a9 := Tryz.isAgg9,
  z9 := Tryz.sizeOf9,
  v9 := Tryz.zeroValue9,
  t28 := Tryz.underlying40,
  a28 := Tryz.isAgg40,
  z28 := Tryz.sizeOf40,
  v28 := Tryz.zeroValue40,
  t46 := Tryz.underlying207,
  a46 := Tryz.isAgg207,
  z46 := Tryz.sizeOf207,
  v46 := Tryz.zeroValue207,
  t51 := Tryz.underlying235,
  a51 := Tryz.isAgg235,
  z51 := Tryz.sizeOf235,
  v51 := Tryz.zeroValue235,
  t53 := Tryz.underlying110,
  a53 := Tryz.isAgg110,
  z53 := Tryz.sizeOf110,
  v53 := Tryz.zeroValue110,
  t131 := Tryz.underlying57,
  a131 := Tryz.isAgg57,
  z131 := Tryz.sizeOf57,
  v131 := Tryz.zeroValue57,
  t182 := Tryz.underlying228,
  a182 := Tryz.isAgg228,
  z182 := Tryz.sizeOf228,
  v182 := Tryz.zeroValue228,
  t183 := Tryz.underlying229,
  a183 := Tryz.isAgg229,
  z183 := Tryz.sizeOf229,
  v183 := Tryz.zeroValue229,
  t218 := Tryz.underlying254,
  a218 := Tryz.isAgg254,
  z218 := Tryz.sizeOf254,
  v218 := Tryz.zeroValue254,
  t222 := Tryz.underlying258,
  a222 := Tryz.isAgg258,
  z222 := Tryz.sizeOf258,
  v222 := Tryz.zeroValue258,
  t228 := Tryz.underlying263,
  a228 := Tryz.isAgg263,
  z228 := Tryz.sizeOf263,
  v228 := Tryz.zeroValue263,
  t229 := Tryz.underlying264,
  a229 := Tryz.isAgg264,
  z229 := Tryz.sizeOf264,
  v229 := Tryz.zeroValue264 }

def laysCompact_ren : Go.Shelf.Ren := ⟨fun | 20 => 197 | n => n, fun | 22 => 40 | 3 => 3 | 4 => 4 | 0 => 0 | n => n, fun | n => n⟩
theorem laysCompact : Go.Proofs.Lays2.n20 Tryz.prog laysCompact_ren := {
  mixed := by kernel_rfl,
  f20 := Tryz.func197.trans (congrArg some (by kernel_rfl)),
  t0 := Tryz.underlying0,
  a0 := Tryz.isAgg0,
  z0 := Tryz.sizeOf0,
  v0 := Tryz.zeroValue0,
  t3 := Tryz.underlying3,
  a3 := Tryz.isAgg3,
  z3 := Tryz.sizeOf3,
  v3 := Tryz.zeroValue3,
  t4 := Tryz.underlying4,
  a4 := Tryz.isAgg4,
  z4 := Tryz.sizeOf4,
  v4 := Tryz.zeroValue4,
  t22 := Tryz.underlying40,
  a22 := Tryz.isAgg40,
  z22 := Tryz.sizeOf40,
  v22 := Tryz.zeroValue40,
  i3 := by kernel_rfl }

def slices_Sort_int.f (k : Nat) : List Int × Unit → Option (List Int × Unit) := fun x => if x.1.length ≤ big then some (sorted x.1, ()) else none
def slices_Sort_int.fc : Fc := sortFc 144
theorem slices_Sort_int.ok : ∀ k, FcOK Tryz.prog slices_Sort_int.fc k := sort_ok laysSort ⟨_, Tryz.func144, by kernel_rfl, by kernel_rfl⟩

def slices_Compact_int.f (k : Nat) : List Int × Unit → Option (List Int × Unit) := fun x => if x.1.length ≤ big then some (Lib.compact x.1, ()) else none
def slices_Compact_int.fc : Fc := compactFc 197
theorem slices_Compact_int.ok : ∀ k, FcOK Tryz.prog slices_Compact_int.fc k := compact_ok laysCompact ⟨_, Tryz.func197, by kernel_rfl, by kernel_rfl⟩

end Go.Proofs.YthgpniapbeeaaaaGreat.Den
