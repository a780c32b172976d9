/- The row of the law laws_FnExactSizeOf: for every input that the row speaks of the law returns true and leaves its arguments as they were. Made of the plain law and of its function's contract; no further condition. -/
import Derived.Test.YtmcdddghlcllbaaRows
import Derived.Test.YtmcdddghlcllbaaPFnExactSizeOf
import Derived.WalkKit
import Derived.ProofKit
import Derived.OpenShut
import Derived.ShutString
import Derived.ChangeOld
import Derived.Below
import Derived.SizedLaws
import Derived.Carry
set_option linter.unusedVariables false
set_option linter.unusedSimpArgs false
namespace Go.Proofs.Ytmcdddghlcllbaa.rowFnExactSizeOf
open Go.ChangeShapes Go.WideShapes Go.ChangeAt Go.RowKit Go.Proofs.Ytmcdddghlcllbaa.Den
theorem own : ownKnob Try.prog.godebug = none := by kernel_rfl
theorem laidOut : laidOutB Try.prog = true := by kernel_rfl
theorem fits : argsB Try.prog Try.f3.params.toList Go.Proofs.Ytmcdddghlcllbaa.LawFnExactSizeOf.laws_FnExactSizeOf.fc.args = true := by kernel_rfl
set_option maxRecDepth 100000 in
theorem lifted (os : Os) (started : os.Started) (H : Type) (enc : TypeId × Value → H) :
    ReturnsInHanded {} Try.checked os 3 .any (Rows.fnExactSizeOfSpec.pre6 enc Try.prog Try.f3 Rows.fnExactSizeOfRow.domain false) (Rows.fnExactSizeOfSpec.post enc Try.prog Try.f3 false true false false) := by
  refine returnsInHanded_of_change_sized (C := Try.checked) own started (by kernel_rfl) Try.func3
    (ChangeSpec.witness6 (enc := enc) (C := Try.checked) false ⟨#[], #[.slice none 0 0, .int .i64 0], []⟩ 8 (by kernel_rfl) (by kernel_rfl) (by kernel_rfl) (by kernel_rfl)) ?_
  intro W base args ds gs before hval0 hW hcnd hsz0 _
  have hsz : (DataW.weightsEach Try.prog (Try.f3.params.toList ++ Rows.fnExactSizeOfSpec.plain.varTypes Try.prog) (ds ++ gs)).all (· ≤ reachBytes) = true := hsz0
  have hval : ∀ (j : Nat) t v, Try.f3.params[j]? = some t → args[j]? = some v → Value.okWide Try.prog W .any base t v := hval0
  have hW' := hW
  obtain ⟨p, q, hA0, hV, rfl, hfz, hnd⟩ := hW
  have hA : DataW.TrodAll enc Try.prog W 0 (fun _ => true) true Try.f3.params.toList args.toList ds p := hA0
  obtain ⟨rfl, rfl⟩ := trodVars_none hV
  obtain ⟨⟨x0, x1, _⟩, ⟨o0, o1, _⟩, hvs, hos⟩ := args_read (W := W) Try.f3.params.toList Go.Proofs.Ytmcdddghlcllbaa.LawFnExactSizeOf.laws_FnExactSizeOf.fc.args args.toList ds p 0 fits hA (fun j t v h1 h2 => hval j t v (by simpa using h1) (by simpa using h2)) (fun q hq => of_decide_eq_true (List.all_eq_true.1 hsz q (weights_more _ _ _ _ q hq)))
  clear hA0 hval0 hsz0 hsz
  obtain ⟨k, h⟩ := EvP.at (Go.Proofs.Ytmcdddghlcllbaa.LawFnExactSizeOf.law x0 x1 o0 o1)
  have c : Calls Try.prog 3 args W fun e W' => e = .returned (.bool true) ∧ Below W.heap.size W W' :=
    row_call (fc := Go.Proofs.Ytmcdddghlcllbaa.LawFnExactSizeOf.laws_FnExactSizeOf.fc) (k := k) (x := (x0, x1, ())) (y := (true, ())) (W := W) (vs := args.toList) (Go.Proofs.Ytmcdddghlcllbaa.LawFnExactSizeOf.laws_FnExactSizeOf.ok k) h (by kernel_rfl) hvs hos (fun x hx => by simp [tabs] at hx)
  refine c.mono fun e W' ⟨he, bel⟩ => ?_
  subst he
  have hd : ds.length = 2 := (trodAll_len _ _ _ _ hA).trans (by kernel_rfl)
  obtain ⟨d0, d1, rfl⟩ : ∃ d0 d1, ds = [d0, d1] := by
    match ds, hd with
    | [d0, d1], _ => exact ⟨d0, d1, rfl⟩
  exact ⟨_, rfl, _, _, _, [], _, [], hW', trodAll_mk1 (shut_bool Try.underlying4 _), args_back laidOut bel _ Go.Proofs.Ytmcdddghlcllbaa.LawFnExactSizeOf.laws_FnExactSizeOf.fc.args _ _ _ fits hA, rfl, bel.frame _, fun h => by cases h⟩
theorem over : Rows.fnExactSizeOfRow.holds Try.pinned (OpenSpec.ofChange Rows.fnExactSizeOfSpec) :=
  OpenClaim.holds_of_wide 3 Try.f3 rfl rfl rfl rfl rfl rfl rfl ⟨rfl, rfl, rfl, rfl, rfl⟩ rfl rfl rfl rfl rfl (by kernel_rfl) Try.func3 (by kernel_rfl)
    (of_decide_eq_true (by kernel_rfl)) (by unfold Func.isWrapper; first | (rw [if_pos (by decide +kernel)]; kernel_rfl) | (rw [if_neg (by decide +kernel)]; exact ⟨rfl, rfl⟩))
    (fun os started H enc _ => lifted os started H enc)
theorem proved : Rows.FnExactSizeOfSaid := over
#print axioms proved
end Go.Proofs.Ytmcdddghlcllbaa.rowFnExactSizeOf
namespace Go.Proofs.Ytmcdddghlcllbaa
/-- The row, under a short name, for the claim. -/
theorem fnExactSizeOf_holds : Rows.FnExactSizeOfSaid := rowFnExactSizeOf.proved
end Go.Proofs.Ytmcdddghlcllbaa
