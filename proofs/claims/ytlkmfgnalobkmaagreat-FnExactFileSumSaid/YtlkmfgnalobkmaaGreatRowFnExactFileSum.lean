/- The row of the law laws_FnExactFileSum: for every input that the row speaks of the law returns true and leaves its arguments as they were. Made of the plain law and of its function's contract; no further condition. -/
import Derived.Test.YtlkmfgnalobkmaaGreatRows
import Derived.Test.YtlkmfgnalobkmaaGreatPFnExactFileSum
import Derived.WalkKit
import Derived.ProofKit
import Derived.OpenShut
import Derived.ShutString
import Derived.ChangeOld
import Derived.Below
import Derived.SizedLaws
import Derived.Carry
set_option linter.unusedVariables false
set_option linter.unusedSimpArgs false
namespace Go.Proofs.YtlkmfgnalobkmaaGreat.rowFnExactFileSum
open Go.ChangeShapes Go.WideShapes Go.ChangeAt Go.RowKit Go.Proofs.YtlkmfgnalobkmaaGreat.Den
theorem own : ownKnob Tryz.prog.godebug = none := by kernel_rfl
theorem laidOut : laidOutB Tryz.prog = true := by kernel_rfl
theorem fits : argsB Tryz.prog Tryz.f4.params.toList Go.Proofs.YtlkmfgnalobkmaaGreat.LawFnExactFileSum.laws_FnExactFileSum.fc.args = true := by kernel_rfl
set_option maxRecDepth 100000 in
theorem lifted (os : Os) (started : os.Started) (H : Type) (enc : TypeId × Value → H) :
    ReturnsInHanded {} Tryz.checked os 4 .any (Rows.fnExactFileSumSpec.pre6 enc Tryz.prog Tryz.f4 Rows.fnExactFileSumRow.domain false) (Rows.fnExactFileSumSpec.post enc Tryz.prog Tryz.f4 false true false false) := by
  refine returnsInHanded_of_change_sized (C := Tryz.checked) own started (by kernel_rfl) Tryz.func4
    (ChangeSpec.witness6 (enc := enc) (C := Tryz.checked) false ⟨#[], #[.agg #[.string ByteArray.empty, .slice none 0 0, .slice none 0 0, .slice none 0 0, .slice none 0 0]], []⟩ 8 (by kernel_rfl) (by kernel_rfl) (by kernel_rfl) (by kernel_rfl)) ?_
  intro W base args ds gs before hval0 hW hcnd hsz0 _
  have hsz : (DataW.weightsEach Tryz.prog (Tryz.f4.params.toList ++ Rows.fnExactFileSumSpec.plain.varTypes Tryz.prog) (ds ++ gs)).all (· ≤ reachBytes) = true := hsz0
  have hval : ∀ (j : Nat) t v, Tryz.f4.params[j]? = some t → args[j]? = some v → Value.okWide Tryz.prog W .any base t v := hval0
  have hW' := hW
  obtain ⟨p, q, hA0, hV, rfl, hfz, hnd⟩ := hW
  have hA : DataW.TrodAll enc Tryz.prog W 0 (fun _ => true) true Tryz.f4.params.toList args.toList ds p := hA0
  obtain ⟨rfl, rfl⟩ := trodVars_none hV
  obtain ⟨⟨x0, _⟩, ⟨o0, _⟩, hvs, hos⟩ := args_read (W := W) Tryz.f4.params.toList Go.Proofs.YtlkmfgnalobkmaaGreat.LawFnExactFileSum.laws_FnExactFileSum.fc.args args.toList ds p 0 fits hA (fun j t v h1 h2 => hval j t v (by simpa using h1) (by simpa using h2)) (fun q hq => of_decide_eq_true (List.all_eq_true.1 hsz q (weights_more _ _ _ _ q hq)))
  clear hA0 hval0 hsz0 hsz
  obtain ⟨k, h⟩ := EvP.at (Go.Proofs.YtlkmfgnalobkmaaGreat.LawFnExactFileSum.law x0 o0)
  have c : Calls Tryz.prog 4 args W fun e W' => e = .returned (.bool true) ∧ Below W.heap.size W W' :=
    row_call (fc := Go.Proofs.YtlkmfgnalobkmaaGreat.LawFnExactFileSum.laws_FnExactFileSum.fc) (k := k) (x := (x0, ())) (y := (true, ())) (W := W) (vs := args.toList) (Go.Proofs.YtlkmfgnalobkmaaGreat.LawFnExactFileSum.laws_FnExactFileSum.ok k) h (by kernel_rfl) hvs hos (fun x hx => by simp [tabs] at hx)
  refine c.mono fun e W' ⟨he, bel⟩ => ?_
  subst he
  have hd : ds.length = 1 := (trodAll_len _ _ _ _ hA).trans (by kernel_rfl)
  obtain ⟨d0, rfl⟩ : ∃ d0, ds = [d0] := by
    match ds, hd with
    | [d0], _ => exact ⟨d0, rfl⟩
  exact ⟨_, rfl, _, _, _, [], _, [], hW', trodAll_mk1 (shut_bool Tryz.underlying4 _), args_back laidOut bel _ Go.Proofs.YtlkmfgnalobkmaaGreat.LawFnExactFileSum.laws_FnExactFileSum.fc.args _ _ _ fits hA, rfl, bel.frame _, fun h => by cases h⟩
theorem both {a b : Bool} (h : a = true) (k : b = true) : (a && b) = true := by rw [h, k]; rfl
theorem part1 : Rows.fnExactFileSumRow.wf (OpenSpec.ofChange Rows.fnExactFileSumSpec) = true := by kernel_rfl
theorem part2 : laidOutB Tryz.prog = true := by kernel_rfl
theorem part3 : mapsRowed Tryz.prog = true := by kernel_rfl
theorem part10 : (Rows.fnExactFileSumRow.inPlace == Tryz.prog.inPlace 4) = true := by kernel_rfl
theorem part11 : (Rows.fnExactFileSumRow.unfollowed == Tryz.prog.unfollowed 4) = true := by kernel_rfl
theorem part12 : (Rows.fnExactFileSumRow.recurses == Tryz.prog.recurses 4) = true := by kernel_rfl
theorem part13 : (Rows.fnExactFileSumRow.named == Tryz.prog.varsNamed 4) = true := by kernel_rfl
theorem part23 : (Rows.fnExactFileSumRow.plainKeys == Tryz.prog.plainKeys) = true := by kernel_rfl
theorem part25 : Tryz.prog.stopsHeard = true := by kernel_rfl
theorem part26 : Tryz.prog.mayEnter = true := by kernel_rfl
theorem part27 : (Rows.fnExactFileSumRow.lifted == Tryz.prog.liftsFinal) = true := by kernel_rfl
theorem closed : joinedFacts Tryz.prog 4 Tryz.f4 Rows.fnExactFileSumSpec Rows.fnExactFileSumRow = true := by
  unfold joinedFacts
  exact both (both (both (both (both (both (both (both (both (both (both (both (both (both (both (both (both (both (both (both (both (both (both (both (both (both (both (both (both (both (both part1 part2) part3) (by kernel_rfl)) (by kernel_rfl)) (by kernel_rfl)) (by kernel_rfl)) (by kernel_rfl)) (by kernel_rfl)) part10) part11) part12) part13) (by kernel_rfl)) (by kernel_rfl)) (by kernel_rfl)) (by kernel_rfl)) (by kernel_rfl)) (by kernel_rfl)) (by kernel_rfl)) (by kernel_rfl)) (by kernel_rfl)) part23) (by kernel_rfl)) part25) part26) part27) (by kernel_rfl)) (by kernel_rfl)) (by kernel_rfl)) (by kernel_rfl)) (by kernel_rfl)
theorem over : Rows.fnExactFileSumRow.holds Tryz.pinned (OpenSpec.ofChange Rows.fnExactFileSumSpec) :=
  OpenClaim.holds_of_wide 4 Tryz.f4 rfl rfl rfl rfl rfl rfl rfl ⟨rfl, rfl, rfl, rfl, rfl⟩ rfl rfl rfl rfl rfl (by kernel_rfl) Tryz.func4 closed
    (of_decide_eq_true (by kernel_rfl)) (by unfold Func.isWrapper; first | (rw [if_pos (by decide +kernel)]; kernel_rfl) | (rw [if_neg (by decide +kernel)]; exact ⟨rfl, rfl⟩))
    (fun os started H enc _ => lifted os started H enc)
theorem proved : Rows.FnExactFileSumSaid := over
#print axioms proved
end Go.Proofs.YtlkmfgnalobkmaaGreat.rowFnExactFileSum
namespace Go.Proofs.YtlkmfgnalobkmaaGreat
/-- The row, under a short name, for the claim. -/
theorem fnExactFileSum_holds : Rows.FnExactFileSumSaid := rowFnExactFileSum.proved
end Go.Proofs.YtlkmfgnalobkmaaGreat
