/- The library's contracts for slices.Sort and slices.Compact over whole numbers, and slices.SortFunc over fingers, laid at this program; the functions as contracts of the abstract machine. -/
import Derived.Test.YthgpniapbeeaaaaGreatZi
import Derived.Test.YthgpniapbeeaaaaGreatProg
import Derived.KernelRfl
import Derived.Lib.Small
import Derived.Lib.Walk
set_option autoImplicit false
set_option linter.unusedVariables false
namespace Go.Proofs.YthgpniapbeeaaaaGreat.Den
open Go.Shelf Go.Lib Go.Sort Go.RowKit

def laysSort_ren : Go.Shelf.Ren := ⟨fun | 189 => 144 | 125 => 200 | 257 => 199 | 128 => 236 | 129 => 237 | 294 => 227 | 295 => 228 | 296 => 229 | 297 => 230 | 298 => 231 | 299 => 232 | 216 => 233 | 300 => 234 | 301 => 235 | 328 => 258 | 329 => 259 | 330 => 260 | 331 => 261 | 332 => 262 | 215 => 263 | 343 => 268 | n => n, fun | 28 => 40 | 3 => 3 | 46 => 207 | 0 => 0 | 51 => 235 | 53 => 110 | 4 => 4 | 183 => 229 | 182 => 228 | 131 => 57 | 5 => 5 | 9 => 9 | 218 => 254 | 222 => 258 | 228 => 263 | 229 => 264 | n => n, fun | n => n⟩
theorem laysSort : Go.Proofs.Lays.n189 Tryz.prog laysSort_ren := {
  mixed := by kernel_rfl,
  f125 := Tryz.func200.trans (congrArg some (by kernel_rfl)),
  f128 := Tryz.func236.trans (congrArg some (by kernel_rfl)),
  f129 := Tryz.func237.trans (congrArg some (by kernel_rfl)),
  f189 := Tryz.func144.trans (congrArg some (by kernel_rfl)),
  f215 := Tryz.func263.trans (congrArg some (by kernel_rfl)),
  f216 := Tryz.func233.trans (congrArg some (by kernel_rfl)),
  f257 := Tryz.func199.trans (congrArg some (by kernel_rfl)),
  f294 := Tryz.func227.trans (congrArg some (by kernel_rfl)),
  f295 := Tryz.func228.trans (congrArg some (by kernel_rfl)),
  f296 := Tryz.func229.trans (congrArg some (by kernel_rfl)),
  f297 := Tryz.func230.trans (congrArg some (by kernel_rfl)),
  f298 := Tryz.func231.trans (congrArg some (by kernel_rfl)),
  f299 := Tryz.func232.trans (congrArg some (by kernel_rfl)),
  f300 := Tryz.func234.trans (congrArg some (by kernel_rfl)),
  f301 := Tryz.func235.trans (congrArg some (by kernel_rfl)),
  f328 := Tryz.func258.trans (congrArg some (by kernel_rfl)),
  f329 := Tryz.func259.trans (congrArg some (by kernel_rfl)),
  f330 := Tryz.func260.trans (congrArg some (by kernel_rfl)),
  f331 := Tryz.func261.trans (congrArg some (by kernel_rfl)),
  f332 := Tryz.func262.trans (congrArg some (by kernel_rfl)),
  f343 := Tryz.func268.trans (congrArg some (by kernel_rfl)),
  t0 := Tryz.underlying0,
  a0 := Tryz.isAgg0,
  z0 := Tryz.sizeOf0,
  v0 := Tryz.zeroValue0,
  t3 := Tryz.underlying3,
  a3 := Tryz.isAgg3,
  z3 := Tryz.sizeOf3,
  v3 := Tryz.zeroValue3,
  t4 := Tryz.underlying4,
  a4 := Tryz.isAgg4,
  z4 := Tryz.sizeOf4,
  v4 := Tryz.zeroValue4,
  t5 := Tryz.underlying5,
  a5 := Tryz.isAgg5,
  z5 := Tryz.sizeOf5,
  v5 := Tryz.zeroValue5,
  t9 := Tryz.underlying9,
  a9 := Tryz.isAgg9,
  z9 := Tryz.sizeOf9,
  v9 := Tryz.zeroValue9,
  t28 := Tryz.underlying40,
  a28 := Tryz.isAgg40,
  z28 := Tryz.sizeOf40,
  v28 := Tryz.zeroValue40,
  t46 := Tryz.underlying207,
  a46 := Tryz.isAgg207,
  z46 := Tryz.sizeOf207,
  v46 := Tryz.zeroValue207,
  t51 := Tryz.underlying235,
  a51 := Tryz.isAgg235,
  z51 := Tryz.sizeOf235,
  v51 := Tryz.zeroValue235,
  t53 := Tryz.underlying110,
  a53 := Tryz.isAgg110,
  z53 := Tryz.sizeOf110,
  v53 := Tryz.zeroValue110,
  t131 := Tryz.underlying57,
  a131 := Tryz.isAgg57,
  z131 := Tryz.sizeOf57,
  v131 := Tryz.zeroValue57,
  t182 := Tryz.underlying228,
  a182 := Tryz.isAgg228,
  z182 := Tryz.sizeOf228,
  v182 := Tryz.zeroValue228,
  t183 := Tryz.underlying229,
  a183 := Tryz.isAgg229,
  z183 := Tryz.sizeOf229,
  v183 := Tryz.zeroValue229,
  t218 := Tryz.underlying254,
  a218 := Tryz.isAgg254,
  z218 := Tryz.sizeOf254,
  v218 := Tryz.zeroValue254,
  t222 := Tryz.underlying258,
  a222 := Tryz.isAgg258,
  z222 := Tryz.sizeOf258,
  v222 := Tryz.zeroValue258,
  t228 := Tryz.underlying263,
  a228 := Tryz.isAgg263,
  z228 := Tryz.sizeOf263,
  v228 := Tryz.zeroValue263,
  t229 := Tryz.underlying264,
  a229 := Tryz.isAgg264,
  z229 := Tryz.sizeOf264,
  v229 := Tryz.zeroValue264 }

def laysCompact_ren : Go.Shelf.Ren := ⟨fun | 20 => 197 | n => n, fun | 22 => 40 | 3 => 3 | 4 => 4 | 0 => 0 | n => n, fun | n => n⟩
theorem laysCompact : Go.Proofs.Lays2.n20 Tryz.prog laysCompact_ren := {
  mixed := by kernel_rfl,
  f20 := Tryz.func197.trans (congrArg some (by kernel_rfl)),
  t0 := Tryz.underlying0,
  a0 := Tryz.isAgg0,
  z0 := Tryz.sizeOf0,
  v0 := Tryz.zeroValue0,
  t3 := Tryz.underlying3,
  a3 := Tryz.isAgg3,
  z3 := Tryz.sizeOf3,
  v3 := Tryz.zeroValue3,
  t4 := Tryz.underlying4,
  a4 := Tryz.isAgg4,
  z4 := Tryz.sizeOf4,
  v4 := Tryz.zeroValue4,
  t22 := Tryz.underlying40,
  a22 := Tryz.isAgg40,
  z22 := Tryz.sizeOf40,
  v22 := Tryz.zeroValue40,
  i3 := by kernel_rfl }

def laysSortF_ren : Go.Shelf.Ren := ⟨fun | 6 => 171 | 15 => 200 | 14 => 213 | 28 => 236 | 29 => 237 | 20 => 245 | 21 => 246 | 22 => 247 | 23 => 248 | 24 => 249 | 25 => 250 | 26 => 251 | 27 => 252 | 46 => 264 | 47 => 259 | 48 => 260 | 49 => 265 | 50 => 266 | 57 => 269 | n => n, fun | 22 => 75 | 24 => 79 | 25 => 187 | 3 => 3 | 39 => 207 | 0 => 0 | 53 => 235 | 55 => 110 | 4 => 4 | 46 => 229 | 45 => 228 | 50 => 57 | 5 => 5 | 9 => 9 | 66 => 254 | 70 => 258 | 76 => 263 | 77 => 264 | n => n, fun | n => n⟩
theorem laysSortF : Go.Proofs.SlLaysF0.n6 Tryz.prog laysSortF_ren := {
  mixed := by kernel_rfl,
  f6 := ⟨ "slices.SortFunc[[]loop.example/g00837/impl.Finger,loop.example/g00837/impl.Finger]", by decide, Tryz.func171.trans (congrArg some (by kernel_rfl))⟩,
  f14 := ⟨ "slices.pdqsortCmpFunc[loop.example/g00837/impl.Finger]", by decide, Tryz.func213.trans (congrArg some (by kernel_rfl))⟩,
  f15 := Tryz.func200.trans (congrArg some (by kernel_rfl)),
  f20 := ⟨ "slices.insertionSortCmpFunc[loop.example/g00837/impl.Finger]", by decide, Tryz.func245.trans (congrArg some (by kernel_rfl))⟩,
  f21 := ⟨ "slices.heapSortCmpFunc[loop.example/g00837/impl.Finger]", by decide, Tryz.func246.trans (congrArg some (by kernel_rfl))⟩,
  f22 := ⟨ "slices.breakPatternsCmpFunc[loop.example/g00837/impl.Finger]", by decide, Tryz.func247.trans (congrArg some (by kernel_rfl))⟩,
  f23 := ⟨ "slices.choosePivotCmpFunc[loop.example/g00837/impl.Finger]", by decide, Tryz.func248.trans (congrArg some (by kernel_rfl))⟩,
  f24 := ⟨ "slices.reverseRangeCmpFunc[loop.example/g00837/impl.Finger]", by decide, Tryz.func249.trans (congrArg some (by kernel_rfl))⟩,
  f25 := ⟨ "slices.partialInsertionSortCmpFunc[loop.example/g00837/impl.Finger]", by decide, Tryz.func250.trans (congrArg some (by kernel_rfl))⟩,
  f26 := ⟨ "slices.partitionEqualCmpFunc[loop.example/g00837/impl.Finger]", by decide, Tryz.func251.trans (congrArg some (by kernel_rfl))⟩,
  f27 := ⟨ "slices.partitionCmpFunc[loop.example/g00837/impl.Finger]", by decide, Tryz.func252.trans (congrArg some (by kernel_rfl))⟩,
  f28 := Tryz.func236.trans (congrArg some (by kernel_rfl)),
  f29 := Tryz.func237.trans (congrArg some (by kernel_rfl)),
  f46 := ⟨ "slices.siftDownCmpFunc[loop.example/g00837/impl.Finger]", by decide, Tryz.func264.trans (congrArg some (by kernel_rfl))⟩,
  f47 := Tryz.func259.trans (congrArg some (by kernel_rfl)),
  f48 := Tryz.func260.trans (congrArg some (by kernel_rfl)),
  f49 := ⟨ "slices.medianAdjacentCmpFunc[loop.example/g00837/impl.Finger]", by decide, Tryz.func265.trans (congrArg some (by kernel_rfl))⟩,
  f50 := ⟨ "slices.medianCmpFunc[loop.example/g00837/impl.Finger]", by decide, Tryz.func266.trans (congrArg some (by kernel_rfl))⟩,
  f57 := ⟨ "slices.order2CmpFunc[loop.example/g00837/impl.Finger]", by decide, Tryz.func269.trans (congrArg some (by kernel_rfl))⟩,
  t0 := Tryz.underlying0,
  a0 := Tryz.isAgg0,
  z0 := Tryz.sizeOf0,
  v0 := Tryz.zeroValue0,
  t3 := Tryz.underlying3,
  a3 := Tryz.isAgg3,
  z3 := Tryz.sizeOf3,
  v3 := Tryz.zeroValue3,
  t4 := Tryz.underlying4,
  a4 := Tryz.isAgg4,
  z4 := Tryz.sizeOf4,
  v4 := Tryz.zeroValue4,
  t5 := Tryz.underlying5,
  a5 := Tryz.isAgg5,
  z5 := Tryz.sizeOf5,
  v5 := Tryz.zeroValue5,
  t9 := Tryz.underlying9,
  a9 := Tryz.isAgg9,
  z9 := Tryz.sizeOf9,
  v9 := Tryz.zeroValue9,
  t22 := Tryz.underlying75,
  a22 := Tryz.isAgg75,
  z22 := Tryz.sizeOf75,
  v22 := Tryz.zeroValue75,
  t25 := Tryz.underlying187,
  a25 := Tryz.isAgg187,
  z25 := Tryz.sizeOf187,
  v25 := Tryz.zeroValue187,
  t39 := Tryz.underlying207,
  a39 := Tryz.isAgg207,
  z39 := Tryz.sizeOf207,
  v39 := Tryz.zeroValue207,
  t45 := Tryz.underlying228,
  a45 := Tryz.isAgg228,
  z45 := Tryz.sizeOf228,
  v45 := Tryz.zeroValue228,
  t46 := Tryz.underlying229,
  a46 := Tryz.isAgg229,
  z46 := Tryz.sizeOf229,
  v46 := Tryz.zeroValue229,
  t50 := Tryz.underlying57,
  a50 := Tryz.isAgg57,
  z50 := Tryz.sizeOf57,
  v50 := Tryz.zeroValue57,
  t53 := Tryz.underlying235,
  a53 := Tryz.isAgg235,
  z53 := Tryz.sizeOf235,
  v53 := Tryz.zeroValue235,
  t55 := Tryz.underlying110,
  a55 := Tryz.isAgg110,
  z55 := Tryz.sizeOf110,
  v55 := Tryz.zeroValue110,
  t66 := Tryz.underlying254,
  a66 := Tryz.isAgg254,
  z66 := Tryz.sizeOf254,
  v66 := Tryz.zeroValue254,
  t70 := Tryz.underlying258,
  a70 := Tryz.isAgg258,
  z70 := Tryz.sizeOf258,
  v70 := Tryz.zeroValue258,
  t76 := Tryz.underlying263,
  a76 := Tryz.isAgg263,
  z76 := Tryz.sizeOf263,
  v76 := Tryz.zeroValue263,
  t77 := Tryz.underlying264,
  a77 := Tryz.isAgg264,
  z77 := Tryz.sizeOf264,
  v77 := Tryz.zeroValue264 }

def slices_Sort_int.f (k : Nat) : List Int × Unit → Option (List Int × Unit) := fun x => if x.1.length ≤ big then some (sorted x.1, ()) else none
def slices_Sort_int.fc : Fc := sortFc 144
theorem slices_Sort_int.ok : ∀ k, FcOK Tryz.prog slices_Sort_int.fc k := sort_ok laysSort ⟨_, Tryz.func144, by kernel_rfl, by kernel_rfl⟩

def slices_Compact_int.f (k : Nat) : List Int × Unit → Option (List Int × Unit) := fun x => if x.1.length ≤ big then some (Lib.compact x.1, ()) else none
def slices_Compact_int.fc : Fc := compactFc 197
theorem slices_Compact_int.ok : ∀ k, FcOK Tryz.prog slices_Compact_int.fc k := compact_ok laysCompact ⟨_, Tryz.func197, by kernel_rfl, by kernel_rfl⟩

@[go_sem] theorem binOp_string_gtr_den (t : TypeId) (a b : ByteArray) : binOp .gtr t (.string a) (.string b) = pure (.bool !(Op.bytesLess a.toList b.toList || a.toList == b.toList)) := by simp [binOp, Op.stringOp]

theorem walkIsNaN (x : ByteArray) (w : World) : Calls Tryz.prog 214 #[.string x] w fun e w' => e = .returned (.bool false) ∧ w' = w := by
  go_enter Tryz.func214, Tryz.ntmps214
  go_wp2
  go_ret
  exact ⟨by simp, rfl⟩

set_option maxHeartbeats 1000000 in
theorem walkCompare (x y : ByteArray) (w : World) : Calls Tryz.prog 173 #[.string x, .string y] w fun e w' => e = .returned (.int .i64 (cmpS x y)) ∧ w' = w := by
  have hn := fun x W => walkIsNaN x W
  go_enter Tryz.func173, Tryz.ntmps173
  go_wp2_with (go_at_call 214; refine (hn _ _).mono ?_; rintro e w' ⟨rfl, hw⟩; rw [hw])
  all_goals (go_ret; refine ⟨?_, rfl⟩)
  all_goals (unfold cmpS; simp only [*]; rfl)

set_option maxHeartbeats 1000000 in
theorem walkClosure (x y : TNam.D) (W : World) : Calls Tryz.prog 172 #[.agg (encN x).toArray, .agg (encN y).toArray] W fun e w' => e = .returned (.int .i64 (cmpN x y)) ∧ ∃ q os', w' = grow (W.drewN q) os' := by
  obtain ⟨a, b, c⟩ := x
  obtain ⟨d, e, f⟩ := y
  show Calls Tryz.prog 172 #[.agg #[.string a, .int .i64 b, .int .i64 c], .agg #[.string d, .int .i64 e, .int .i64 f]] W fun z w' => z = .returned (.int .i64 (cmpS a d)) ∧ ∃ q os', w' = grow (W.drewN q) os'
  have hcon := fun W' => walkCompare a d W'
  generalize cmpS a d = r at hcon ⊢
  go_enter Tryz.func172, Tryz.ntmps172
  go_wp2_with (go_at_call 173; refine (hcon _).mono ?_; rintro e w' ⟨rfl, rfl⟩)
  go_ret
  exact ⟨rfl, 0, _, by rw [alloc_eq_grow, alloc_eq_grow, grow_grow]; rfl⟩

def slices_SortFunc_Finger.f (k : Nat) : List TNam.D × Unit × Unit → Option (List TNam.D × Unit) := fun x => if x.1.length ≤ big then some (sortedN x.1, ()) else none
def slices_SortFunc_Finger.fc : Fc := sortNFc 171 172
theorem slices_SortFunc_Finger.ok : ∀ k, FcOK Tryz.prog slices_SortFunc_Finger.fc k := sortN_ok laysSortF Tryz.isAgg79 Tryz.sizeOf79 (fun _ _ => enters_of Tryz.func172 (by kernel_rfl) rfl _ _) walkClosure ⟨_, Tryz.func171, by kernel_rfl, by kernel_rfl⟩

end Go.Proofs.YthgpniapbeeaaaaGreat.Den
