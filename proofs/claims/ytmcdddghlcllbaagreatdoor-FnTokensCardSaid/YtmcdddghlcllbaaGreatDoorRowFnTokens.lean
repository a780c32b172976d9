/- The row of the law laws_FnTokens: for every input that the row speaks of the law returns true and leaves its arguments as they were. Made of the plain law and of its function's contract; no further condition. -/
import Derived.Test.YtmcdddghlcllbaaGreatDoorRows
import Derived.Test.YtmcdddghlcllbaaGreatDoorPFnTokens
import Derived.WalkKit
import Derived.LaidMore
import Derived.Lay
import Derived.LaidSub
import Derived.LaidHandle
import Derived.MakeChecks
import Derived.Lib.LaidTab
import Derived.Stop.Joined
import Derived.Test.YtmcdddghlcllbaaGreatDoorTie
import Derived.Test.YtmcdddghlcllbaaGreatDoorCards
import Derived.SevenTiedAt
import Derived.ProofKit
import Derived.OpenShut
import Derived.ShutString
import Derived.ChangeOld
import Derived.Below
import Derived.SizedLaws
import Derived.Carry
set_option linter.unusedVariables false
set_option linter.unusedSimpArgs false
namespace Go.Proofs.YtmcdddghlcllbaaGreatDoor.rowFnTokens
open Go.ChangeShapes Go.WideShapes Go.ChangeAt Go.RowKit Go.Proofs.YtmcdddghlcllbaaGreatDoor.Den
theorem own : ownKnob Tryz.prog.godebug = none := by kernel_rfl
theorem laidOut : laidOutB Tryz.prog = true := by kernel_rfl
theorem fits : argsB Tryz.prog Tryz.f3.params.toList Go.Proofs.YtmcdddghlcllbaaGreatDoor.LawFnTokens.laws_FnTokens.fc.args = true := by kernel_rfl
set_option maxRecDepth 100000

theorem lifted (os : Os) (started : os.Started) (H : Type) (enc : TypeId × Value → H) :
    ReturnsInHanded {} Tryz.checked os 3 .any (fun w args => (Rows.fnTokensSpec.pre enc Tryz.prog Tryz.f3 [] false w args ∧ laidMetH Tryz.prog Rows.fnTokensRow.laid w) ∧ sizedMet enc Tryz.prog Tryz.f3 (OpenSpec.ofChange Rows.fnTokensSpec) false w args) (Rows.fnTokensSpec.post enc Tryz.prog Tryz.f3 false true false false) := by
  refine returnsInHanded_of_change_and (C := Tryz.checked) (X := fun w _ => laidMetH Tryz.prog Rows.fnTokensRow.laid w) (fun _ _ _ hh h => h.of_heap hh) own started (by kernel_rfl) Tryz.func3
    (ChangeSpec.witness_shaped (enc := enc) (C := Tryz.checked) (os := os) (X := fun w _ => laidMetH Tryz.prog Rows.fnTokensRow.laid w) false (World.laidAll Tryz.prog os Rows.fnTokensRow.laid) #[.slice none 0 0, .slice none 0 0] 8 (World.laidAll_os _ _ _) (World.shaped_of_ZipB (by kernel_rfl) (by kernel_rfl)) (by kernel_rfl) (by kernel_rfl) (by kernel_rfl)
      (by rw [MakeChecks.laidMetH_plain _ _ _ (by kernel_rfl)]; exact laidMet_laidAll _ (by kernel_rfl) (by kernel_rfl))) ?_
  intro W base args ds gs before hval0 hW hcnd hsz0 hL _
  have hsz : (DataW.weightsEach Tryz.prog (Tryz.f3.params.toList ++ Rows.fnTokensSpec.plain.varTypes Tryz.prog) (ds ++ gs)).all (· ≤ reachBytes) = true := hsz0
  have hval : ∀ (j : Nat) t v, Tryz.f3.params[j]? = some t → args[j]? = some v → Value.okWide Tryz.prog W .any base t v := hval0
  have hW' := hW
  obtain ⟨p, q, hA0, hV, rfl, hfz, hnd⟩ := hW
  have hA : DataW.TrodAll enc Tryz.prog W 0 (fun _ => true) true Tryz.f3.params.toList args.toList ds p := hA0
  obtain ⟨rfl, rfl⟩ := trodVars_none hV
  obtain ⟨⟨x0, x1, _⟩, ⟨o0, o1, _⟩, hvs, hos⟩ := args_read (W := W) Tryz.f3.params.toList Go.Proofs.YtmcdddghlcllbaaGreatDoor.LawFnTokens.laws_FnTokens.fc.args args.toList ds p 0 fits hA (fun j t v h1 h2 => hval j t v (by simpa using h1) (by simpa using h2)) (fun q hq => of_decide_eq_true (List.all_eq_true.1 hsz q (weights_more _ _ _ _ q hq)))
  clear hA0 hval0 hsz0 hsz
  obtain ⟨k, h⟩ := EvP.at (Go.Proofs.YtmcdddghlcllbaaGreatDoor.LawFnTokens.law x0 x1 o0 o1)
  have c : Calls Tryz.prog 3 args W fun e W' => e = .returned (.bool true) ∧ Below W.heap.size W W' :=
    row_call (fc := Go.Proofs.YtmcdddghlcllbaaGreatDoor.LawFnTokens.laws_FnTokens.fc) (k := k) (x := (x0, x1, ())) (y := (true, ())) (W := W) (vs := args.toList) (Go.Proofs.YtmcdddghlcllbaaGreatDoor.LawFnTokens.laws_FnTokens.ok k) h (by kernel_rfl) hvs hos (fun x hx => by simp [tabs] at hx)
  refine c.mono fun e W' ⟨he, bel⟩ => ?_
  subst he
  have hd : ds.length = 2 := (trodAll_len _ _ _ _ hA).trans (by kernel_rfl)
  obtain ⟨d0, d1, rfl⟩ : ∃ d0 d1, ds = [d0, d1] := by
    match ds, hd with
    | [d0, d1], _ => exact ⟨d0, d1, rfl⟩
  exact ⟨_, rfl, _, _, _, [], _, [], hW', trodAll_mk1 (shut_bool Tryz.underlying4 _), args_back laidOut bel _ Go.Proofs.YtmcdddghlcllbaaGreatDoor.LawFnTokens.laws_FnTokens.fc.args _ _ _ fits hA, rfl, bel.frame _, fun h => by cases h⟩
theorem both {a b : Bool} (h : a = true) (k : b = true) : (a && b) = true := by rw [h, k]; rfl
theorem part1 : Rows.fnTokensRow.wf (OpenSpec.ofChange Rows.fnTokensSpec) = true := by kernel_rfl
theorem part2 : laidOutB Tryz.prog = true := by kernel_rfl
theorem part3 : mapsRowed Tryz.prog = true := by kernel_rfl
theorem part10 : (Rows.fnTokensRow.inPlace == Tryz.prog.inPlace 3) = true := by kernel_rfl
theorem part11 : (Rows.fnTokensRow.unfollowed == Tryz.prog.unfollowed 3) = true := by kernel_rfl
theorem part12 : (Rows.fnTokensRow.recurses == Tryz.prog.recurses 3) = true := by kernel_rfl
theorem part13 : (Rows.fnTokensRow.named == Tryz.prog.varsNamed 3) = true := by kernel_rfl
theorem part23 : (Rows.fnTokensRow.plainKeys == Tryz.prog.plainKeys) = true := by kernel_rfl
theorem part25 : Tryz.prog.stopsHeard = true := by kernel_rfl
theorem part26 : Tryz.prog.mayEnter = true := by kernel_rfl
theorem part27 : (Rows.fnTokensRow.lifted == Tryz.prog.liftsFinal) = true := by kernel_rfl
theorem closed : joinedFacts Tryz.prog 3 Tryz.f3 Rows.fnTokensSpec Rows.fnTokensRow = true := by
  unfold joinedFacts
  exact both (both (both (both (both (both (both (both (both (both (both (both (both (both (both (both (both (both (both (both (both (both (both (both (both (both (both (both (both (both (both part1 part2) part3) (by kernel_rfl)) (by kernel_rfl)) (by kernel_rfl)) (by kernel_rfl)) (by kernel_rfl)) (by kernel_rfl)) part10) part11) part12) part13) (by kernel_rfl)) (by kernel_rfl)) (by kernel_rfl)) (by kernel_rfl)) (by kernel_rfl)) (by kernel_rfl)) (by kernel_rfl)) (by kernel_rfl)) (by kernel_rfl)) part23) (by kernel_rfl)) part25) part26) part27) (by kernel_rfl)) (by kernel_rfl)) (by kernel_rfl)) (by kernel_rfl)) (by kernel_rfl)
theorem over : Rows.fnTokensRow.holds Tryz.pinned (OpenSpec.ofChange Rows.fnTokensSpec) :=
  OpenClaim.holds_of_wide 3 Tryz.f3 rfl rfl rfl rfl rfl rfl rfl ⟨rfl, rfl, rfl, rfl, rfl⟩ rfl rfl rfl rfl rfl (by kernel_rfl) Tryz.func3 closed
    (of_decide_eq_true (by kernel_rfl)) (by unfold Func.isWrapper; first | (rw [if_pos (by decide +kernel)]; kernel_rfl) | (rw [if_neg (by decide +kernel)]; exact ⟨rfl, rfl⟩))
    (fun os started H enc _ => lifted os started H enc)
theorem card : Rows.FnTokensCardSaid :=
  Claim7.holds_tied_plain_at .later [] [.data, .data, .data, .data, .sentinel, .sentinel, .pinned] true (true, "73d3194e9803932be3e3437b460eb5dc52096401f6eb2f994150e4e0074863fc") true
    over (fun _ h => by cases h) (by kernel_rfl) (fun _ h => by cases h) fnTokens_row_tie rfl ⟨rfl, rfl⟩ (by kernel_rfl) rfl
    (fun f fn hf hfn => by
      obtain rfl : f = 3 := Option.some.inj ((show Tryz.prog.funcNamed Rows.fnTokensRow.func = some 3 by kernel_rfl).symm.trans hf) |>.symm
      obtain rfl : fn = Tryz.f3 := (Option.some.inj (Tryz.func3.symm.trans hfn)).symm
      exact ⟨by kernel_rfl, fun j t ht => by
        have hm : t ∈ Tryz.f3.params.toList := by simpa using Array.mem_of_getElem? ht
        have hall : (Tryz.f3.params.toList.all fun u => !Tryz.prog.wantsStandIn u) = true := by kernel_rfl
        exact (show Tryz.prog.wantsStandIn t = false by simpa using List.all_eq_true.1 hall t hm)⟩)
    (by kernel_rfl)
#print axioms card
end Go.Proofs.YtmcdddghlcllbaaGreatDoor.rowFnTokens
namespace Go.Proofs.YtmcdddghlcllbaaGreatDoor
/-- The card, under a short name, for the claim. -/
theorem fnTokens_holds : Rows.FnTokensCardSaid := rowFnTokens.card
end Go.Proofs.YtmcdddghlcllbaaGreatDoor
