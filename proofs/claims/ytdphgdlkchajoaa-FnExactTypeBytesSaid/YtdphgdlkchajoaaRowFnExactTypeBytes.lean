/- The row of the law laws_FnExactTypeBytes: for every input that the row speaks of the law returns true and leaves its arguments as they were. Made of the plain statement and of the walk; no further condition. -/
import Derived.Test.YtdphgdlkchajoaaRows
import Derived.Test.YtdphgdlkchajoaaRichFnExactTypeBytes
import Derived.Test.YtdphgdlkchajoaaPureFnExactTypeBytes
import Derived.WalkKit
import Derived.ProofKit
import Derived.OpenShut
import Derived.ShutString
import Derived.ChangeOld
import Derived.Below
import Derived.SizedLaws
import Derived.Carry
set_option linter.unusedVariables false
set_option linter.unusedSimpArgs false
namespace Go.Proofs.Ytdphgdlkchajoaa.fnExactTypeBytes
open Go.ChangeShapes Go.WideShapes Go.ChangeAt Go.RowKit Go.Proofs.YtdphgdlkchajoaaW.PrintWords Go.Proofs.Ytdphgdlkchajoaa.Opens Go.Proofs.Ytdphgdlkchajoaa.RichFnExactTypeBytes
open Go.ChangeMaps (open_string shut_string)
theorem own : ownKnob Try.prog.godebug = none := by kernel_rfl
theorem laidOut : laidOutB Try.prog = true := by kernel_rfl
set_option maxRecDepth 100000 in
theorem lifted (os : Os) (started : os.Started) (H : Type) (enc : TypeId × Value → H) :
    ReturnsInHanded {} Try.checked os 10 .any (Rows.fnExactTypeBytesSpec.pre6 enc Try.prog Try.f10 Rows.fnExactTypeBytesRow.domain false) (Rows.fnExactTypeBytesSpec.post enc Try.prog Try.f10 false true false false) := by
  refine returnsInHanded_of_change_sized (C := Try.checked) own started (by kernel_rfl) Try.func10
    (ChangeSpec.witness6 (enc := enc) (C := Try.checked) false ⟨#[], #[.agg #[.int .i64 0, .int .i64 0, .int .i64 0, .slice none 0 0, .string ByteArray.empty, .string ByteArray.empty]], []⟩ 8 (by kernel_rfl) (by kernel_rfl) (by kernel_rfl) (by kernel_rfl)) ?_
  intro W base args ds gs before hval0 hW hcnd hsz0 _
  have hsz : (DataW.weightsEach Try.prog (Try.f10.params.toList ++ Rows.fnExactTypeBytesSpec.plain.varTypes Try.prog) (ds ++ gs)).all (· ≤ reachBytes) = true := hsz0
  have hval : ∀ (j : Nat) t v, Try.f10.params[j]? = some t → args[j]? = some v → Value.okWide Try.prog W .any base t v := hval0
  have hW' := hW
  obtain ⟨p, q, hA0, hV, rfl, hfz, hnd⟩ := hW
  have hA : DataW.TrodAll enc Try.prog W 0 (fun _ => true) true Try.f10.params.toList args.toList ds p := hA0
  rw [Try.params10] at hA hval hsz
  obtain ⟨v0, vs0, d0, ds0, p0, q0, hargs, rfl, rfl, h0, r0⟩ := trodAll_cons hA
  obtain ⟨rfl, rfl, rfl⟩ := trodAll_nil r0
  obtain rfl : args = #[v0] := by cases args; simp_all
  obtain ⟨rfl, rfl⟩ := trodVars_none hV
  obtain ⟨⟨cs0⟩, rfl, hcs0⟩ := okWide_struct Try.underlying65 (hval 0 65 v0 rfl rfl)
  have k0 := h0
  have lt0 : ∀ x ∈ p0, x.block < W.heap.size := by obtain ⟨m, hm⟩ := k0; exact DataW.trod_lt m _ _ _ hm
  obtain ⟨fuel0, hf0⟩ := h0
  obtain ⟨⟨a0_0, a0_1, a0_2, l0_3, a0_4, a0_5⟩, hK0, ⟨o0_0, o0_1, o0_2, o0_3, o0_4, o0_5⟩⟩ := (opens_agg6 (fun x => x) (fun x0 x1 x2 x3 x4 x5 => (x0, x1, x2, x3, x4, x5)) (fun _ _ _ _ _ _ => rfl) Try.underlying65 (by kernel_rfl) (by kernel_rfl) (opens_int Try.underlying3) (opens_int Try.underlying3) (opens_int Try.underlying3) (opens_row 166 32 Try.underlying63 (by kernel_rfl) (by kernel_rfl) (opens166 _)) (opens_str Try.underlying9) (opens_str Try.underlying9) : Opens Try.prog W 65 _ _) enc _ _ _ _ _ _ hf0 (fun q hq => of_decide_eq_true (List.all_eq_true.1 hsz q (DataW.weights_mem_each (j := 0) (t := 65) rfl rfl q hq)))
  obtain ⟨_, _, e0, rfl, ⟨_, _, rfl, rfl, ⟨_, _, rfl, rfl, ⟨_, _, rfl, ⟨A0_3, c0_3, rfl, m0_3, r0_3⟩, ⟨_, _, rfl, rfl, rfl⟩⟩⟩⟩⟩ := hK0
  replace e0 := (show cs0 = _ from e0)
  simp only [List.cons_append, List.nil_append] at e0
  subst e0
  clear hA0 hval0 hsz0 hsz
  obtain ⟨k, h⟩ := Pure.FnExactTypeBytes a0_0 a0_1 a0_2 l0_3 a0_4 a0_5 o0_0 o0_1 o0_2 o0_3 o0_4 o0_5
  refine (PFnExactTypeBytes.laws_FnExactTypeBytes.calls k a0_0 a0_1 a0_2 A0_3 c0_3 l0_3 a0_4 a0_5 true W r0_3 m0_3 h).mono fun e W' ⟨he, bel0⟩ => ?_
  have bel : Below W.heap.size W W' := bel0
  subst he
  exact ⟨_, rfl, _, _, _, [], _, [], hW', trodAll_mk1 (shut_bool Try.underlying4 _), (trodAll_cons_mk (Below.trod laidOut (by kernel_rfl) (of_decide_eq_true (by kernel_rfl)) k0 bel lt0) trodAll_mk0), rfl, bel.frame _, fun h => by cases h⟩
theorem over : Rows.fnExactTypeBytesRow.holds Try.pinned (OpenSpec.ofChange Rows.fnExactTypeBytesSpec) :=
  OpenClaim.holds_of_wide 10 Try.f10 rfl rfl rfl rfl rfl rfl rfl ⟨rfl, rfl, rfl, rfl, rfl⟩ rfl rfl rfl rfl rfl (by kernel_rfl) Try.func10 (by kernel_rfl)
    (of_decide_eq_true (by kernel_rfl)) (by unfold Func.isWrapper; first | (rw [if_pos (by decide +kernel)]; kernel_rfl) | (rw [if_neg (by decide +kernel)]; exact ⟨rfl, rfl⟩))
    (fun os started H enc _ => lifted os started H enc)
theorem proved : Rows.FnExactTypeBytesSaid := over
#print axioms proved
end Go.Proofs.Ytdphgdlkchajoaa.fnExactTypeBytes
namespace Go.Proofs.Ytdphgdlkchajoaa
/-- The row, under a short name, for the claim. -/
theorem fnExactTypeBytes_holds : Rows.FnExactTypeBytesSaid := fnExactTypeBytes.proved
end Go.Proofs.Ytdphgdlkchajoaa
