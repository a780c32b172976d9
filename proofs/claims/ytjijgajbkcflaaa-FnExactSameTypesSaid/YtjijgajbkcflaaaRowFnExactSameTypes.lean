/- The row of the law laws_FnExactSameTypes: for every input that the row speaks of the law returns true and leaves its arguments as they were. Made of the plain law and of its function's contract; no further condition. -/
import Derived.Test.YtjijgajbkcflaaaRows
import Derived.Test.YtjijgajbkcflaaaPFnExactSameTypes
import Derived.WalkKit
import Derived.ProofKit
import Derived.OpenShut
import Derived.ShutString
import Derived.ChangeOld
import Derived.Below
import Derived.SizedLaws
import Derived.Carry
set_option linter.unusedVariables false
set_option linter.unusedSimpArgs false
namespace Go.Proofs.Ytjijgajbkcflaaa.rowFnExactSameTypes
open Go.ChangeShapes Go.WideShapes Go.ChangeAt Go.RowKit Go.Proofs.Ytjijgajbkcflaaa.Den
theorem own : ownKnob Try.prog.godebug = none := by kernel_rfl
theorem laidOut : laidOutB Try.prog = true := by kernel_rfl
theorem fits : argsB Try.prog Try.f7.params.toList Go.Proofs.Ytjijgajbkcflaaa.LawFnExactSameTypes.laws_FnExactSameTypes.fc.args = true := by kernel_rfl
set_option maxRecDepth 100000 in
theorem lifted (os : Os) (started : os.Started) (H : Type) (enc : TypeId × Value → H) :
    ReturnsInHanded {} Try.checked os 7 .any (Rows.fnExactSameTypesSpec.pre6 enc Try.prog Try.f7 Rows.fnExactSameTypesRow.domain false) (Rows.fnExactSameTypesSpec.post enc Try.prog Try.f7 false true false false) := by
  refine returnsInHanded_of_change_sized (C := Try.checked) own started (by kernel_rfl) Try.func7
    (ChangeSpec.witness6 (enc := enc) (C := Try.checked) false ⟨#[], #[.slice none 0 0, .int .i64 0, .slice none 0 0, .int .i64 0], []⟩ 8 (by kernel_rfl) (by kernel_rfl) (by kernel_rfl) (by kernel_rfl)) ?_
  intro W base args ds gs before hval0 hW hcnd hsz0 _
  have hsz : (DataW.weightsEach Try.prog (Try.f7.params.toList ++ Rows.fnExactSameTypesSpec.plain.varTypes Try.prog) (ds ++ gs)).all (· ≤ reachBytes) = true := hsz0
  have hval : ∀ (j : Nat) t v, Try.f7.params[j]? = some t → args[j]? = some v → Value.okWide Try.prog W .any base t v := hval0
  have hW' := hW
  obtain ⟨p, q, hA0, hV, rfl, hfz, hnd⟩ := hW
  have hA : DataW.TrodAll enc Try.prog W 0 (fun _ => true) true Try.f7.params.toList args.toList ds p := hA0
  obtain ⟨rfl, rfl⟩ := trodVars_none hV
  obtain ⟨⟨x0, x1, x2, x3, _⟩, ⟨o0, o1, o2, o3, _⟩, hvs, hos⟩ := args_read (W := W) Try.f7.params.toList Go.Proofs.Ytjijgajbkcflaaa.LawFnExactSameTypes.laws_FnExactSameTypes.fc.args args.toList ds p 0 fits hA (fun j t v h1 h2 => hval j t v (by simpa using h1) (by simpa using h2)) (fun q hq => of_decide_eq_true (List.all_eq_true.1 hsz q (weights_more _ _ _ _ q hq)))
  clear hA0 hval0 hsz0 hsz
  obtain ⟨k, h⟩ := EvP.at (Go.Proofs.Ytjijgajbkcflaaa.LawFnExactSameTypes.law x0 x1 x2 x3 o0 o1 o2 o3)
  have c : Calls Try.prog 7 args W fun e W' => e = .returned (.bool true) ∧ Below W.heap.size W W' :=
    row_call (fc := Go.Proofs.Ytjijgajbkcflaaa.LawFnExactSameTypes.laws_FnExactSameTypes.fc) (k := k) (x := (x0, x1, x2, x3, ())) (y := (true, ())) (W := W) (vs := args.toList) (Go.Proofs.Ytjijgajbkcflaaa.LawFnExactSameTypes.laws_FnExactSameTypes.ok k) h (by kernel_rfl) hvs hos
  refine c.mono fun e W' ⟨he, bel⟩ => ?_
  subst he
  have hd : ds.length = 4 := (trodAll_len _ _ _ _ hA).trans (by kernel_rfl)
  obtain ⟨d0, d1, d2, d3, rfl⟩ : ∃ d0 d1 d2 d3, ds = [d0, d1, d2, d3] := by
    match ds, hd with
    | [d0, d1, d2, d3], _ => exact ⟨d0, d1, d2, d3, rfl⟩
  exact ⟨_, rfl, _, _, _, [], _, [], hW', trodAll_mk1 (shut_bool Try.underlying4 _), args_back laidOut bel _ Go.Proofs.Ytjijgajbkcflaaa.LawFnExactSameTypes.laws_FnExactSameTypes.fc.args _ _ _ fits hA, rfl, bel.frame _, fun h => by cases h⟩
theorem over : Rows.fnExactSameTypesRow.holds Try.pinned (OpenSpec.ofChange Rows.fnExactSameTypesSpec) :=
  OpenClaim.holds_of_wide 7 Try.f7 rfl rfl rfl rfl rfl rfl rfl ⟨rfl, rfl, rfl, rfl, rfl⟩ rfl rfl rfl rfl rfl (by kernel_rfl) Try.func7 (by kernel_rfl)
    (of_decide_eq_true (by kernel_rfl)) (by unfold Func.isWrapper; first | (rw [if_pos (by decide +kernel)]; kernel_rfl) | (rw [if_neg (by decide +kernel)]; exact ⟨rfl, rfl⟩))
    (fun os started H enc _ => lifted os started H enc)
theorem proved : Rows.FnExactSameTypesSaid := over
#print axioms proved
end Go.Proofs.Ytjijgajbkcflaaa.rowFnExactSameTypes
namespace Go.Proofs.Ytjijgajbkcflaaa
/-- The row, under a short name, for the claim. -/
theorem fnExactSameTypes_holds : Rows.FnExactSameTypesSaid := rowFnExactSameTypes.proved
end Go.Proofs.Ytjijgajbkcflaaa
