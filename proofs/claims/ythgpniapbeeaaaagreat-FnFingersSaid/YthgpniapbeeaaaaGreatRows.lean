/-
  No cell of these rows narrows 'for every input' (looked for: loops, veiled, ifaces, maps, wideKeys, modest, calm, conditions, laid).
  DERIVED. THE GIVEN ROWS OF THIS SEAT. 12 by the template 'for every input the law returns true; each argument reads behind the call as it read before'; 0 by the template 'total and deterministic' (their statements: YthgpniapbeeaaaaGreatTotals.lean).
  GIVEN WITH THE SEED: the statements are not yours to turn. If you find one false, say at which input.
  Laid BY PROGRAM, IN A SANDBOX (cutbox-rows.mjs): the forced cells as the released guide's own fill.sh prints them over the translation 73f29bb08df9896d… (all of the seat's roots in one cut). By AI agents, Wed Nov 11 2026. No macro, syntax, notation, axiom, sorry.
-/
import Derived.Test.YthgpniapbeeaaaaGreatChecked
import GoSem.Claim
import GoSem.ClaimJoined
import GoSem.ClaimMapViews
import Derived.JoinedTies
import Derived.KernelRfl
namespace Go.Proofs.YthgpniapbeeaaaaGreat
/- THE CELL 'sum', in the pinned program and in every row, IS THE sha256 OF THE DUMP (.gsa) THAT YthgpniapbeeaaaaGreatProg.lean LOADS. Nothing in Lean hashes anything: it is a label: what it is worth is what the hold of that sum in a sandbox is worth. -/
noncomputable def Tryz.pinned : Pinned := { name := "ythgpniapbeeaaaagreat", sum := "73f29bb08df9896d2d772e30844ea05ea6cbac27be4d3e00a7416c30ff33804d", checked := Tryz.checked }
namespace Rows
def none {H : Type} : Left H := { results := [], args := [] }

/-- 'laws.FnExports': WHATEVER THE INPUT: true; the input reads as it did. -/
def fnExportsSpec : ChangeSpec := { name := "fnExports", fn := fun _ => fun
  | [d1, d2] => { results := [.lit (.bool true)], args := [d1, d2] }
  | _ => none }
def fnExportsRow : OpenClaim := { program := "ythgpniapbeeaaaagreat", sum := "73f29bb08df9896d2d772e30844ea05ea6cbac27be4d3e00a7416c30ff33804d", func := "loop.example/g00837/laws.FnExports", spec := "fnExports", unfollowed := true, recurses := true, plainKeys := false, apart := false }
def FnExportsSaid : Prop := fnExportsRow.holds Tryz.pinned (OpenSpec.ofChange fnExportsSpec)

/-- ITS FALSE NEIGHBOUR: 'it returns false'. Refute it at one input. -/
def fnExportsWrong : ChangeSpec := { name := "fnExports", fn := fun _ => fun
  | [d1, d2] => { results := [.lit (.bool false)], args := [d1, d2] }
  | _ => none }
def FnExportsWrongFalsely : Prop := fnExportsRow.holds Tryz.pinned (OpenSpec.ofChange fnExportsWrong)

/-- 'laws.FnExactGoodScope': WHATEVER THE INPUT: true; the input reads as it did. -/
def fnExactGoodScopeSpec : ChangeSpec := { name := "fnExactGoodScope", fn := fun _ => fun
  | [d] => { results := [.lit (.bool true)], args := [d] }
  | _ => none }
def fnExactGoodScopeRow : OpenClaim := { program := "ythgpniapbeeaaaagreat", sum := "73f29bb08df9896d2d772e30844ea05ea6cbac27be4d3e00a7416c30ff33804d", func := "loop.example/g00837/laws.FnExactGoodScope", spec := "fnExactGoodScope", unfollowed := true, recurses := true, plainKeys := false, apart := false }
def FnExactGoodScopeSaid : Prop := fnExactGoodScopeRow.holds Tryz.pinned (OpenSpec.ofChange fnExactGoodScopeSpec)

/-- ITS FALSE NEIGHBOUR: 'it returns false'. Refute it at one input. -/
def fnExactGoodScopeWrong : ChangeSpec := { name := "fnExactGoodScope", fn := fun _ => fun
  | [d] => { results := [.lit (.bool false)], args := [d] }
  | _ => none }
def FnExactGoodScopeWrongFalsely : Prop := fnExactGoodScopeRow.holds Tryz.pinned (OpenSpec.ofChange fnExactGoodScopeWrong)

/-- 'laws.FnExactObjectAt': WHATEVER THE INPUT: true; the input reads as it did. -/
def fnExactObjectAtSpec : ChangeSpec := { name := "fnExactObjectAt", fn := fun _ => fun
  | [d1, d2] => { results := [.lit (.bool true)], args := [d1, d2] }
  | _ => none }
def fnExactObjectAtRow : OpenClaim := { program := "ythgpniapbeeaaaagreat", sum := "73f29bb08df9896d2d772e30844ea05ea6cbac27be4d3e00a7416c30ff33804d", func := "loop.example/g00837/laws.FnExactObjectAt", spec := "fnExactObjectAt", unfollowed := true, recurses := true, plainKeys := false, apart := false }
def FnExactObjectAtSaid : Prop := fnExactObjectAtRow.holds Tryz.pinned (OpenSpec.ofChange fnExactObjectAtSpec)

/-- ITS FALSE NEIGHBOUR: 'it returns false'. Refute it at one input. -/
def fnExactObjectAtWrong : ChangeSpec := { name := "fnExactObjectAt", fn := fun _ => fun
  | [d1, d2] => { results := [.lit (.bool false)], args := [d1, d2] }
  | _ => none }
def FnExactObjectAtWrongFalsely : Prop := fnExactObjectAtRow.holds Tryz.pinned (OpenSpec.ofChange fnExactObjectAtWrong)

/-- 'laws.FnExactAlikeObjects': WHATEVER THE INPUT: true; the input reads as it did. -/
def fnExactAlikeObjectsSpec : ChangeSpec := { name := "fnExactAlikeObjects", fn := fun _ => fun
  | [d1, d2, d3, d4] => { results := [.lit (.bool true)], args := [d1, d2, d3, d4] }
  | _ => none }
def fnExactAlikeObjectsRow : OpenClaim := { program := "ythgpniapbeeaaaagreat", sum := "73f29bb08df9896d2d772e30844ea05ea6cbac27be4d3e00a7416c30ff33804d", func := "loop.example/g00837/laws.FnExactAlikeObjects", spec := "fnExactAlikeObjects", unfollowed := true, recurses := true, plainKeys := false, apart := false }
def FnExactAlikeObjectsSaid : Prop := fnExactAlikeObjectsRow.holds Tryz.pinned (OpenSpec.ofChange fnExactAlikeObjectsSpec)

/-- ITS FALSE NEIGHBOUR: 'it returns false'. Refute it at one input. -/
def fnExactAlikeObjectsWrong : ChangeSpec := { name := "fnExactAlikeObjects", fn := fun _ => fun
  | [d1, d2, d3, d4] => { results := [.lit (.bool false)], args := [d1, d2, d3, d4] }
  | _ => none }
def FnExactAlikeObjectsWrongFalsely : Prop := fnExactAlikeObjectsRow.holds Tryz.pinned (OpenSpec.ofChange fnExactAlikeObjectsWrong)

/-- 'laws.FnExactAlikeScopes': WHATEVER THE INPUT: true; the input reads as it did. -/
def fnExactAlikeScopesSpec : ChangeSpec := { name := "fnExactAlikeScopes", fn := fun _ => fun
  | [d1, d2] => { results := [.lit (.bool true)], args := [d1, d2] }
  | _ => none }
def fnExactAlikeScopesRow : OpenClaim := { program := "ythgpniapbeeaaaagreat", sum := "73f29bb08df9896d2d772e30844ea05ea6cbac27be4d3e00a7416c30ff33804d", func := "loop.example/g00837/laws.FnExactAlikeScopes", spec := "fnExactAlikeScopes", unfollowed := true, recurses := true, plainKeys := false, apart := false }
def FnExactAlikeScopesSaid : Prop := fnExactAlikeScopesRow.holds Tryz.pinned (OpenSpec.ofChange fnExactAlikeScopesSpec)

/-- ITS FALSE NEIGHBOUR: 'it returns false'. Refute it at one input. -/
def fnExactAlikeScopesWrong : ChangeSpec := { name := "fnExactAlikeScopes", fn := fun _ => fun
  | [d1, d2] => { results := [.lit (.bool false)], args := [d1, d2] }
  | _ => none }
def FnExactAlikeScopesWrongFalsely : Prop := fnExactAlikeScopesRow.holds Tryz.pinned (OpenSpec.ofChange fnExactAlikeScopesWrong)

/-- 'laws.FnExactObjectFinger': WHATEVER THE INPUT: true; the input reads as it did. -/
def fnExactObjectFingerSpec : ChangeSpec := { name := "fnExactObjectFinger", fn := fun _ => fun
  | [d1, d2] => { results := [.lit (.bool true)], args := [d1, d2] }
  | _ => none }
def fnExactObjectFingerRow : OpenClaim := { program := "ythgpniapbeeaaaagreat", sum := "73f29bb08df9896d2d772e30844ea05ea6cbac27be4d3e00a7416c30ff33804d", func := "loop.example/g00837/laws.FnExactObjectFinger", spec := "fnExactObjectFinger", unfollowed := true, recurses := true, plainKeys := false, apart := false }
def FnExactObjectFingerSaid : Prop := fnExactObjectFingerRow.holds Tryz.pinned (OpenSpec.ofChange fnExactObjectFingerSpec)

/-- ITS FALSE NEIGHBOUR: 'it returns false'. Refute it at one input. -/
def fnExactObjectFingerWrong : ChangeSpec := { name := "fnExactObjectFinger", fn := fun _ => fun
  | [d1, d2] => { results := [.lit (.bool false)], args := [d1, d2] }
  | _ => none }
def FnExactObjectFingerWrongFalsely : Prop := fnExactObjectFingerRow.holds Tryz.pinned (OpenSpec.ofChange fnExactObjectFingerWrong)

/-- 'laws.FnExactIsExport': WHATEVER THE INPUT: true; the input reads as it did. -/
def fnExactIsExportSpec : ChangeSpec := { name := "fnExactIsExport", fn := fun _ => fun
  | [d] => { results := [.lit (.bool true)], args := [d] }
  | _ => none }
def fnExactIsExportRow : OpenClaim := { program := "ythgpniapbeeaaaagreat", sum := "73f29bb08df9896d2d772e30844ea05ea6cbac27be4d3e00a7416c30ff33804d", func := "loop.example/g00837/laws.FnExactIsExport", spec := "fnExactIsExport", unfollowed := true, recurses := true, plainKeys := false, apart := false }
def FnExactIsExportSaid : Prop := fnExactIsExportRow.holds Tryz.pinned (OpenSpec.ofChange fnExactIsExportSpec)

/-- ITS FALSE NEIGHBOUR: 'it returns false'. Refute it at one input. -/
def fnExactIsExportWrong : ChangeSpec := { name := "fnExactIsExport", fn := fun _ => fun
  | [d] => { results := [.lit (.bool false)], args := [d] }
  | _ => none }
def FnExactIsExportWrongFalsely : Prop := fnExactIsExportRow.holds Tryz.pinned (OpenSpec.ofChange fnExactIsExportWrong)

/-- 'laws.FnExactGoodMods': WHATEVER THE INPUT: true; the input reads as it did. -/
def fnExactGoodModsSpec : ChangeSpec := { name := "fnExactGoodMods", fn := fun _ => fun
  | [d] => { results := [.lit (.bool true)], args := [d] }
  | _ => none }
def fnExactGoodModsRow : OpenClaim := { program := "ythgpniapbeeaaaagreat", sum := "73f29bb08df9896d2d772e30844ea05ea6cbac27be4d3e00a7416c30ff33804d", func := "loop.example/g00837/laws.FnExactGoodMods", spec := "fnExactGoodMods", unfollowed := true, recurses := true, plainKeys := false, apart := false }
def FnExactGoodModsSaid : Prop := fnExactGoodModsRow.holds Tryz.pinned (OpenSpec.ofChange fnExactGoodModsSpec)

/-- ITS FALSE NEIGHBOUR: 'it returns false'. Refute it at one input. -/
def fnExactGoodModsWrong : ChangeSpec := { name := "fnExactGoodMods", fn := fun _ => fun
  | [d] => { results := [.lit (.bool false)], args := [d] }
  | _ => none }
def FnExactGoodModsWrongFalsely : Prop := fnExactGoodModsRow.holds Tryz.pinned (OpenSpec.ofChange fnExactGoodModsWrong)

/-- 'laws.FnExactModAt': WHATEVER THE INPUT: true; the input reads as it did. -/
def fnExactModAtSpec : ChangeSpec := { name := "fnExactModAt", fn := fun _ => fun
  | [d1, d2] => { results := [.lit (.bool true)], args := [d1, d2] }
  | _ => none }
def fnExactModAtRow : OpenClaim := { program := "ythgpniapbeeaaaagreat", sum := "73f29bb08df9896d2d772e30844ea05ea6cbac27be4d3e00a7416c30ff33804d", func := "loop.example/g00837/laws.FnExactModAt", spec := "fnExactModAt", unfollowed := true, recurses := true, plainKeys := false, apart := false }
def FnExactModAtSaid : Prop := fnExactModAtRow.holds Tryz.pinned (OpenSpec.ofChange fnExactModAtSpec)

/-- ITS FALSE NEIGHBOUR: 'it returns false'. Refute it at one input. -/
def fnExactModAtWrong : ChangeSpec := { name := "fnExactModAt", fn := fun _ => fun
  | [d1, d2] => { results := [.lit (.bool false)], args := [d1, d2] }
  | _ => none }
def FnExactModAtWrongFalsely : Prop := fnExactModAtRow.holds Tryz.pinned (OpenSpec.ofChange fnExactModAtWrong)

/-- 'laws.FnFingers': WHATEVER THE INPUT: true; the input reads as it did. -/
def fnFingersSpec : ChangeSpec := { name := "fnFingers", fn := fun _ => fun
  | [d1, d2] => { results := [.lit (.bool true)], args := [d1, d2] }
  | _ => none }
def fnFingersRow : OpenClaim := { program := "ythgpniapbeeaaaagreat", sum := "73f29bb08df9896d2d772e30844ea05ea6cbac27be4d3e00a7416c30ff33804d", func := "loop.example/g00837/laws.FnFingers", spec := "fnFingers", unfollowed := true, recurses := true, plainKeys := false, apart := false }
def FnFingersSaid : Prop := fnFingersRow.holds Tryz.pinned (OpenSpec.ofChange fnFingersSpec)

/-- ITS FALSE NEIGHBOUR: 'it returns false'. Refute it at one input. -/
def fnFingersWrong : ChangeSpec := { name := "fnFingers", fn := fun _ => fun
  | [d1, d2] => { results := [.lit (.bool false)], args := [d1, d2] }
  | _ => none }
def FnFingersWrongFalsely : Prop := fnFingersRow.holds Tryz.pinned (OpenSpec.ofChange fnFingersWrong)

/-- 'laws.FnScopes': WHATEVER THE INPUT: true; the input reads as it did. -/
def fnScopesSpec : ChangeSpec := { name := "fnScopes", fn := fun _ => fun
  | [d1, d2] => { results := [.lit (.bool true)], args := [d1, d2] }
  | _ => none }
def fnScopesRow : OpenClaim := { program := "ythgpniapbeeaaaagreat", sum := "73f29bb08df9896d2d772e30844ea05ea6cbac27be4d3e00a7416c30ff33804d", func := "loop.example/g00837/laws.FnScopes", spec := "fnScopes", unfollowed := true, recurses := true, plainKeys := false, apart := false }
def FnScopesSaid : Prop := fnScopesRow.holds Tryz.pinned (OpenSpec.ofChange fnScopesSpec)

/-- ITS FALSE NEIGHBOUR: 'it returns false'. Refute it at one input. -/
def fnScopesWrong : ChangeSpec := { name := "fnScopes", fn := fun _ => fun
  | [d1, d2] => { results := [.lit (.bool false)], args := [d1, d2] }
  | _ => none }
def FnScopesWrongFalsely : Prop := fnScopesRow.holds Tryz.pinned (OpenSpec.ofChange fnScopesWrong)

/-- 'laws.FnAlike': WHATEVER THE INPUT: true; the input reads as it did. -/
def fnAlikeSpec : ChangeSpec := { name := "fnAlike", fn := fun _ => fun
  | [d1, d2] => { results := [.lit (.bool true)], args := [d1, d2] }
  | _ => none }
def fnAlikeRow : OpenClaim := { program := "ythgpniapbeeaaaagreat", sum := "73f29bb08df9896d2d772e30844ea05ea6cbac27be4d3e00a7416c30ff33804d", func := "loop.example/g00837/laws.FnAlike", spec := "fnAlike", unfollowed := true, recurses := true, plainKeys := false, apart := false }
def FnAlikeSaid : Prop := fnAlikeRow.holds Tryz.pinned (OpenSpec.ofChange fnAlikeSpec)

/-- ITS FALSE NEIGHBOUR: 'it returns false'. Refute it at one input. -/
def fnAlikeWrong : ChangeSpec := { name := "fnAlike", fn := fun _ => fun
  | [d1, d2] => { results := [.lit (.bool false)], args := [d1, d2] }
  | _ => none }
def FnAlikeWrongFalsely : Prop := fnAlikeRow.holds Tryz.pinned (OpenSpec.ofChange fnAlikeWrong)

/- THE SECOND FORM. 'bulk': how many values and letters a reading holds, each counted each time it is reached (what is shared counts as often as it is met; a slice's spare places count too). A statement '..UptoSaid' is the law's where the arguments, and the package variables that the reading takes, are together of bulk at most 1048576: NARROWER than '..Said'. Prove '..Said' where nothing that the law and all that it calls make is longer than what came in: it says more and counts as full. Else prove '..UptoSaid'. A law counts once. -/
mutual
def uptoBulk {H : Type} : DataW H → Nat
  | .lit (.string bytes) => bytes.length + 1
  | .lit _ => 1
  | .nil => 1
  | .ptr d => uptoBulk d + 1
  | .slice elems spare => uptoBulkAll elems + uptoBulkAll spare + 1
  | .agg parts => uptoBulkAll parts + 1
  | .iface _ d => uptoBulk d + 1
  | .map entries => uptoBulkEntries entries + 1
  | .held _ => 1
def uptoBulkAll {H : Type} : List (DataW H) → Nat
  | [] => 0
  | d :: r => uptoBulk d + uptoBulkAll r
def uptoBulkEntries {H : Type} : List (Lit × DataW H) → Nat
  | [] => 0
  | x :: r => uptoBulkEntry x + uptoBulkEntries r
def uptoBulkEntry {H : Type} : Lit × DataW H → Nat
  | (.string bytes, d) => bytes.length + uptoBulk d + 1
  | (_, d) => uptoBulk d + 1
 end
def uptoSmall : (H : Type) → List (DataW H) → Bool := fun _ ds => decide (uptoBulkAll ds ≤ 1048576)
def OpenSpec.upto (s : _root_.Go.ChangeSpec) : _root_.Go.OpenSpec := { _root_.Go.OpenSpec.ofChange s with cond := some uptoSmall }

/-- 'laws.FnExports', WHERE WHAT IT READS IS OF BULK AT MOST 1048576: true; the input reads as it did. -/
def fnExportsUptoRow : OpenClaim := { program := "ythgpniapbeeaaaagreat", sum := "73f29bb08df9896d2d772e30844ea05ea6cbac27be4d3e00a7416c30ff33804d", func := "loop.example/g00837/laws.FnExports", spec := "fnExports", unfollowed := true, recurses := true, plainKeys := false, apart := false, narrowed := true }
def FnExportsUptoSaid : Prop := fnExportsUptoRow.holds Tryz.pinned (OpenSpec.upto fnExportsSpec)

/-- 'laws.FnExactGoodScope', WHERE WHAT IT READS IS OF BULK AT MOST 1048576: true; the input reads as it did. -/
def fnExactGoodScopeUptoRow : OpenClaim := { program := "ythgpniapbeeaaaagreat", sum := "73f29bb08df9896d2d772e30844ea05ea6cbac27be4d3e00a7416c30ff33804d", func := "loop.example/g00837/laws.FnExactGoodScope", spec := "fnExactGoodScope", unfollowed := true, recurses := true, plainKeys := false, apart := false, narrowed := true }
def FnExactGoodScopeUptoSaid : Prop := fnExactGoodScopeUptoRow.holds Tryz.pinned (OpenSpec.upto fnExactGoodScopeSpec)

/-- 'laws.FnExactObjectAt', WHERE WHAT IT READS IS OF BULK AT MOST 1048576: true; the input reads as it did. -/
def fnExactObjectAtUptoRow : OpenClaim := { program := "ythgpniapbeeaaaagreat", sum := "73f29bb08df9896d2d772e30844ea05ea6cbac27be4d3e00a7416c30ff33804d", func := "loop.example/g00837/laws.FnExactObjectAt", spec := "fnExactObjectAt", unfollowed := true, recurses := true, plainKeys := false, apart := false, narrowed := true }
def FnExactObjectAtUptoSaid : Prop := fnExactObjectAtUptoRow.holds Tryz.pinned (OpenSpec.upto fnExactObjectAtSpec)

/-- 'laws.FnExactAlikeObjects', WHERE WHAT IT READS IS OF BULK AT MOST 1048576: true; the input reads as it did. -/
def fnExactAlikeObjectsUptoRow : OpenClaim := { program := "ythgpniapbeeaaaagreat", sum := "73f29bb08df9896d2d772e30844ea05ea6cbac27be4d3e00a7416c30ff33804d", func := "loop.example/g00837/laws.FnExactAlikeObjects", spec := "fnExactAlikeObjects", unfollowed := true, recurses := true, plainKeys := false, apart := false, narrowed := true }
def FnExactAlikeObjectsUptoSaid : Prop := fnExactAlikeObjectsUptoRow.holds Tryz.pinned (OpenSpec.upto fnExactAlikeObjectsSpec)

/-- 'laws.FnExactAlikeScopes', WHERE WHAT IT READS IS OF BULK AT MOST 1048576: true; the input reads as it did. -/
def fnExactAlikeScopesUptoRow : OpenClaim := { program := "ythgpniapbeeaaaagreat", sum := "73f29bb08df9896d2d772e30844ea05ea6cbac27be4d3e00a7416c30ff33804d", func := "loop.example/g00837/laws.FnExactAlikeScopes", spec := "fnExactAlikeScopes", unfollowed := true, recurses := true, plainKeys := false, apart := false, narrowed := true }
def FnExactAlikeScopesUptoSaid : Prop := fnExactAlikeScopesUptoRow.holds Tryz.pinned (OpenSpec.upto fnExactAlikeScopesSpec)

/-- 'laws.FnExactObjectFinger', WHERE WHAT IT READS IS OF BULK AT MOST 1048576: true; the input reads as it did. -/
def fnExactObjectFingerUptoRow : OpenClaim := { program := "ythgpniapbeeaaaagreat", sum := "73f29bb08df9896d2d772e30844ea05ea6cbac27be4d3e00a7416c30ff33804d", func := "loop.example/g00837/laws.FnExactObjectFinger", spec := "fnExactObjectFinger", unfollowed := true, recurses := true, plainKeys := false, apart := false, narrowed := true }
def FnExactObjectFingerUptoSaid : Prop := fnExactObjectFingerUptoRow.holds Tryz.pinned (OpenSpec.upto fnExactObjectFingerSpec)

/-- 'laws.FnExactIsExport', WHERE WHAT IT READS IS OF BULK AT MOST 1048576: true; the input reads as it did. -/
def fnExactIsExportUptoRow : OpenClaim := { program := "ythgpniapbeeaaaagreat", sum := "73f29bb08df9896d2d772e30844ea05ea6cbac27be4d3e00a7416c30ff33804d", func := "loop.example/g00837/laws.FnExactIsExport", spec := "fnExactIsExport", unfollowed := true, recurses := true, plainKeys := false, apart := false, narrowed := true }
def FnExactIsExportUptoSaid : Prop := fnExactIsExportUptoRow.holds Tryz.pinned (OpenSpec.upto fnExactIsExportSpec)

/-- 'laws.FnExactGoodMods', WHERE WHAT IT READS IS OF BULK AT MOST 1048576: true; the input reads as it did. -/
def fnExactGoodModsUptoRow : OpenClaim := { program := "ythgpniapbeeaaaagreat", sum := "73f29bb08df9896d2d772e30844ea05ea6cbac27be4d3e00a7416c30ff33804d", func := "loop.example/g00837/laws.FnExactGoodMods", spec := "fnExactGoodMods", unfollowed := true, recurses := true, plainKeys := false, apart := false, narrowed := true }
def FnExactGoodModsUptoSaid : Prop := fnExactGoodModsUptoRow.holds Tryz.pinned (OpenSpec.upto fnExactGoodModsSpec)

/-- 'laws.FnExactModAt', WHERE WHAT IT READS IS OF BULK AT MOST 1048576: true; the input reads as it did. -/
def fnExactModAtUptoRow : OpenClaim := { program := "ythgpniapbeeaaaagreat", sum := "73f29bb08df9896d2d772e30844ea05ea6cbac27be4d3e00a7416c30ff33804d", func := "loop.example/g00837/laws.FnExactModAt", spec := "fnExactModAt", unfollowed := true, recurses := true, plainKeys := false, apart := false, narrowed := true }
def FnExactModAtUptoSaid : Prop := fnExactModAtUptoRow.holds Tryz.pinned (OpenSpec.upto fnExactModAtSpec)

/-- 'laws.FnFingers', WHERE WHAT IT READS IS OF BULK AT MOST 1048576: true; the input reads as it did. -/
def fnFingersUptoRow : OpenClaim := { program := "ythgpniapbeeaaaagreat", sum := "73f29bb08df9896d2d772e30844ea05ea6cbac27be4d3e00a7416c30ff33804d", func := "loop.example/g00837/laws.FnFingers", spec := "fnFingers", unfollowed := true, recurses := true, plainKeys := false, apart := false, narrowed := true }
def FnFingersUptoSaid : Prop := fnFingersUptoRow.holds Tryz.pinned (OpenSpec.upto fnFingersSpec)

/-- 'laws.FnScopes', WHERE WHAT IT READS IS OF BULK AT MOST 1048576: true; the input reads as it did. -/
def fnScopesUptoRow : OpenClaim := { program := "ythgpniapbeeaaaagreat", sum := "73f29bb08df9896d2d772e30844ea05ea6cbac27be4d3e00a7416c30ff33804d", func := "loop.example/g00837/laws.FnScopes", spec := "fnScopes", unfollowed := true, recurses := true, plainKeys := false, apart := false, narrowed := true }
def FnScopesUptoSaid : Prop := fnScopesUptoRow.holds Tryz.pinned (OpenSpec.upto fnScopesSpec)

/-- 'laws.FnAlike', WHERE WHAT IT READS IS OF BULK AT MOST 1048576: true; the input reads as it did. -/
def fnAlikeUptoRow : OpenClaim := { program := "ythgpniapbeeaaaagreat", sum := "73f29bb08df9896d2d772e30844ea05ea6cbac27be4d3e00a7416c30ff33804d", func := "loop.example/g00837/laws.FnAlike", spec := "fnAlike", unfollowed := true, recurses := true, plainKeys := false, apart := false, narrowed := true }
def FnAlikeUptoSaid : Prop := fnAlikeUptoRow.holds Tryz.pinned (OpenSpec.upto fnAlikeSpec)

end Rows
end Go.Proofs.YthgpniapbeeaaaaGreat
