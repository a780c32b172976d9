/- The row of the law laws_FnLines: for every input that the row speaks of the law returns true and leaves its arguments as they were. Made of the plain law and of its function's contract; no further condition. -/
import Derived.Test.YtjijgajbkcflaaaDoorRows
import Derived.Test.YtjijgajbkcflaaaDoorPFnLines
import Derived.WalkKit
import Derived.LaidMore
import Derived.Lay
import Derived.LaidSub
import Derived.LaidHandle
import Derived.MakeChecks
import Derived.Lib.LaidTab
import Derived.Stop.Joined
import Derived.Test.YtjijgajbkcflaaaDoorTie
import Derived.Test.YtjijgajbkcflaaaDoorCards
import Derived.SevenTiedAt
import Derived.ProofKit
import Derived.OpenShut
import Derived.ShutString
import Derived.ChangeOld
import Derived.Below
import Derived.SizedLaws
import Derived.Carry
set_option linter.unusedVariables false
set_option linter.unusedSimpArgs false
namespace Go.Proofs.YtjijgajbkcflaaaDoor.rowFnLines
open Go.ChangeShapes Go.WideShapes Go.ChangeAt Go.RowKit Go.Proofs.YtjijgajbkcflaaaDoor.Den
theorem own : ownKnob Tryd.prog.godebug = none := by kernel_rfl
theorem laidOut : laidOutB Tryd.prog = true := by kernel_rfl
theorem fits : argsB Tryd.prog Tryd.f3.params.toList Go.Proofs.YtjijgajbkcflaaaDoor.LawFnLines.laws_FnLines.fc.args = true := by kernel_rfl
set_option maxRecDepth 100000

theorem lifted (os : Os) (started : os.Started) (H : Type) (enc : TypeId × Value → H) :
    ReturnsInHanded {} Tryd.checked os 3 .any (fun w args => (Rows.fnLinesSpec.pre enc Tryd.prog Tryd.f3 [] false w args ∧ laidMetH Tryd.prog Rows.fnLinesRow.laid w) ∧ sizedMet enc Tryd.prog Tryd.f3 (OpenSpec.ofChange Rows.fnLinesSpec) false w args) (Rows.fnLinesSpec.post enc Tryd.prog Tryd.f3 false true false false) := by
  refine returnsInHanded_of_change_and (C := Tryd.checked) (X := fun w _ => laidMetH Tryd.prog Rows.fnLinesRow.laid w) (fun _ _ _ hh h => h.of_heap hh) own started (by kernel_rfl) Tryd.func3
    (ChangeSpec.witness_shaped (enc := enc) (C := Tryd.checked) (os := os) (X := fun w _ => laidMetH Tryd.prog Rows.fnLinesRow.laid w) false (World.laidAll Tryd.prog os Rows.fnLinesRow.laid) #[.slice none 0 0, .slice none 0 0] 8 (World.laidAll_os _ _ _) (World.shaped_of_ZipB (by kernel_rfl) (by kernel_rfl)) (by kernel_rfl) (by kernel_rfl) (by kernel_rfl)
      (by rw [MakeChecks.laidMetH_plain _ _ _ (by kernel_rfl)]; exact laidMet_laidAll _ (by kernel_rfl) (by kernel_rfl))) ?_
  intro W base args ds gs before hval0 hW hcnd hsz0 hL _
  have hsz : (DataW.weightsEach Tryd.prog (Tryd.f3.params.toList ++ Rows.fnLinesSpec.plain.varTypes Tryd.prog) (ds ++ gs)).all (· ≤ reachBytes) = true := hsz0
  have hval : ∀ (j : Nat) t v, Tryd.f3.params[j]? = some t → args[j]? = some v → Value.okWide Tryd.prog W .any base t v := hval0
  have hW' := hW
  obtain ⟨p, q, hA0, hV, rfl, hfz, hnd⟩ := hW
  have hA : DataW.TrodAll enc Tryd.prog W 0 (fun _ => true) true Tryd.f3.params.toList args.toList ds p := hA0
  obtain ⟨rfl, rfl⟩ := trodVars_none hV
  obtain ⟨⟨x0, x1, _⟩, ⟨o0, o1, _⟩, hvs, hos⟩ := args_read (W := W) Tryd.f3.params.toList Go.Proofs.YtjijgajbkcflaaaDoor.LawFnLines.laws_FnLines.fc.args args.toList ds p 0 fits hA (fun j t v h1 h2 => hval j t v (by simpa using h1) (by simpa using h2)) (fun q hq => of_decide_eq_true (List.all_eq_true.1 hsz q (weights_more _ _ _ _ q hq)))
  clear hA0 hval0 hsz0 hsz
  obtain ⟨k, h⟩ := EvP.at (Go.Proofs.YtjijgajbkcflaaaDoor.LawFnLines.law x0 x1 o0 o1)
  have c : Calls Tryd.prog 3 args W fun e W' => e = .returned (.bool true) ∧ Below W.heap.size W W' :=
    row_call (fc := Go.Proofs.YtjijgajbkcflaaaDoor.LawFnLines.laws_FnLines.fc) (k := k) (x := (x0, x1, ())) (y := (true, ())) (W := W) (vs := args.toList) (Go.Proofs.YtjijgajbkcflaaaDoor.LawFnLines.laws_FnLines.ok k) h (by kernel_rfl) hvs hos (fun x hx => by simp [tabs] at hx)
  refine c.mono fun e W' ⟨he, bel⟩ => ?_
  subst he
  have hd : ds.length = 2 := (trodAll_len _ _ _ _ hA).trans (by kernel_rfl)
  obtain ⟨d0, d1, rfl⟩ : ∃ d0 d1, ds = [d0, d1] := by
    match ds, hd with
    | [d0, d1], _ => exact ⟨d0, d1, rfl⟩
  exact ⟨_, rfl, _, _, _, [], _, [], hW', trodAll_mk1 (shut_bool Tryd.underlying4 _), args_back laidOut bel _ Go.Proofs.YtjijgajbkcflaaaDoor.LawFnLines.laws_FnLines.fc.args _ _ _ fits hA, rfl, bel.frame _, fun h => by cases h⟩
theorem over : Rows.fnLinesRow.holds Tryd.pinned (OpenSpec.ofChange Rows.fnLinesSpec) :=
  OpenClaim.holds_of_wide 3 Tryd.f3 rfl rfl rfl rfl rfl rfl rfl ⟨rfl, rfl, rfl, rfl, rfl⟩ rfl rfl rfl rfl rfl (by kernel_rfl) Tryd.func3 (by kernel_rfl)
    (of_decide_eq_true (by kernel_rfl)) (by unfold Func.isWrapper; first | (rw [if_pos (by decide +kernel)]; kernel_rfl) | (rw [if_neg (by decide +kernel)]; exact ⟨rfl, rfl⟩))
    (fun os started H enc _ => lifted os started H enc)
theorem card : Rows.FnLinesCardSaid :=
  Claim7.holds_tied_plain_at .later [] [.data, .data, .data, .data, .sentinel, .sentinel, .pinned] true (true, "6e478658d842b2819b3746ccf4d1c5dc583f2fb9f76027c42e08f0b0b6a957b1") true
    over (fun _ h => by cases h) (by kernel_rfl) (fun _ h => by cases h) fnLines_row_tie rfl ⟨rfl, rfl⟩ (by kernel_rfl) rfl
    (fun f fn hf hfn => by
      obtain rfl : f = 3 := Option.some.inj ((show Tryd.prog.funcNamed Rows.fnLinesRow.func = some 3 by kernel_rfl).symm.trans hf) |>.symm
      obtain rfl : fn = Tryd.f3 := (Option.some.inj (Tryd.func3.symm.trans hfn)).symm
      exact ⟨by kernel_rfl, fun j t ht => by
        have hm : t ∈ Tryd.f3.params.toList := by simpa using Array.mem_of_getElem? ht
        have hall : (Tryd.f3.params.toList.all fun u => !Tryd.prog.wantsStandIn u) = true := by kernel_rfl
        exact (show Tryd.prog.wantsStandIn t = false by simpa using List.all_eq_true.1 hall t hm)⟩)
    (by kernel_rfl)
#print axioms card
end Go.Proofs.YtjijgajbkcflaaaDoor.rowFnLines
namespace Go.Proofs.YtjijgajbkcflaaaDoor
/-- The card, under a short name, for the claim. -/
theorem fnLines_holds : Rows.FnLinesCardSaid := rowFnLines.card
end Go.Proofs.YtjijgajbkcflaaaDoor
