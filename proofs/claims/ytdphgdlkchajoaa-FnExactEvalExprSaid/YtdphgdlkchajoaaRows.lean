/-
  No cell of these rows narrows 'for every input' (looked for: loops, veiled, ifaces, maps, wideKeys, modest, calm, conditions, laid).
  DERIVED. THE GIVEN ROWS OF THIS SEAT. 10 by the template 'for every input the law returns true; each argument reads behind the call as it read before'; 0 by the template 'total and deterministic' (their statements: YtdphgdlkchajoaaTotals.lean).
  GIVEN WITH THE SEED: the statements are not yours to turn. If you find one false, say at which input.
  Laid BY PROGRAM, IN A SANDBOX (cutbox-rows.mjs): the forced cells as the released guide's own fill.sh prints them over the translation da383c6becf1c977… (all of the seat's roots in one cut). By AI agents, Wed Nov 11 2026. No macro, syntax, notation, axiom, sorry.
-/
import Derived.Test.YtdphgdlkchajoaaChecked
import GoSem.Claim
import GoSem.ClaimJoined
import GoSem.ClaimMapViews
import Derived.JoinedTies
import Derived.KernelRfl
namespace Go.Proofs.Ytdphgdlkchajoaa
/- THE CELL 'sum', in the pinned program and in every row, IS THE sha256 OF THE DUMP (.gsa) THAT YtdphgdlkchajoaaProg.lean LOADS. Nothing in Lean hashes anything: it is a label: what it is worth is what the hold of that sum in a sandbox is worth. -/
noncomputable def Try.pinned : Pinned := { name := "ytdphgdlkchajoaa", sum := "da383c6becf1c977e91b67a753113ed2bae71ccff9bba4eccb7da90ed99600d3", checked := Try.checked }
namespace Rows
def none {H : Type} : Left H := { results := [], args := [] }

/-- 'laws.FnMixes': WHATEVER THE INPUT: true; the input reads as it did. -/
def fnMixesSpec : ChangeSpec := { name := "fnMixes", fn := fun _ => fun
  | [d1, d2] => { results := [.lit (.bool true)], args := [d1, d2] }
  | _ => none }
def fnMixesRow : OpenClaim := { program := "ytdphgdlkchajoaa", sum := "da383c6becf1c977e91b67a753113ed2bae71ccff9bba4eccb7da90ed99600d3", func := "loop.example/g00837/laws.FnMixes", spec := "fnMixes", apart := false }
def FnMixesSaid : Prop := fnMixesRow.holds Try.pinned (OpenSpec.ofChange fnMixesSpec)

/-- ITS FALSE NEIGHBOUR: 'it returns false'. Refute it at one input. -/
def fnMixesWrong : ChangeSpec := { name := "fnMixes", fn := fun _ => fun
  | [d1, d2] => { results := [.lit (.bool false)], args := [d1, d2] }
  | _ => none }
def FnMixesWrongFalsely : Prop := fnMixesRow.holds Try.pinned (OpenSpec.ofChange fnMixesWrong)

/-- 'laws.FnExactReadNum': WHATEVER THE INPUT: true; the input reads as it did. -/
def fnExactReadNumSpec : ChangeSpec := { name := "fnExactReadNum", fn := fun _ => fun
  | [d1, d2] => { results := [.lit (.bool true)], args := [d1, d2] }
  | _ => none }
def fnExactReadNumRow : OpenClaim := { program := "ytdphgdlkchajoaa", sum := "da383c6becf1c977e91b67a753113ed2bae71ccff9bba4eccb7da90ed99600d3", func := "loop.example/g00837/laws.FnExactReadNum", spec := "fnExactReadNum", apart := false }
def FnExactReadNumSaid : Prop := fnExactReadNumRow.holds Try.pinned (OpenSpec.ofChange fnExactReadNumSpec)

/-- ITS FALSE NEIGHBOUR: 'it returns false'. Refute it at one input. -/
def fnExactReadNumWrong : ChangeSpec := { name := "fnExactReadNum", fn := fun _ => fun
  | [d1, d2] => { results := [.lit (.bool false)], args := [d1, d2] }
  | _ => none }
def FnExactReadNumWrongFalsely : Prop := fnExactReadNumRow.holds Try.pinned (OpenSpec.ofChange fnExactReadNumWrong)

/-- 'laws.FnExactGoodExpr': WHATEVER THE INPUT: true; the input reads as it did. -/
def fnExactGoodExprSpec : ChangeSpec := { name := "fnExactGoodExpr", fn := fun _ => fun
  | [d] => { results := [.lit (.bool true)], args := [d] }
  | _ => none }
def fnExactGoodExprRow : OpenClaim := { program := "ytdphgdlkchajoaa", sum := "da383c6becf1c977e91b67a753113ed2bae71ccff9bba4eccb7da90ed99600d3", func := "loop.example/g00837/laws.FnExactGoodExpr", spec := "fnExactGoodExpr", apart := false }
def FnExactGoodExprSaid : Prop := fnExactGoodExprRow.holds Try.pinned (OpenSpec.ofChange fnExactGoodExprSpec)

/-- ITS FALSE NEIGHBOUR: 'it returns false'. Refute it at one input. -/
def fnExactGoodExprWrong : ChangeSpec := { name := "fnExactGoodExpr", fn := fun _ => fun
  | [d] => { results := [.lit (.bool false)], args := [d] }
  | _ => none }
def FnExactGoodExprWrongFalsely : Prop := fnExactGoodExprRow.holds Try.pinned (OpenSpec.ofChange fnExactGoodExprWrong)

/-- 'laws.FnNames': WHATEVER THE INPUT: true; the input reads as it did. -/
def fnNamesSpec : ChangeSpec := { name := "fnNames", fn := fun _ => fun
  | [d1, d2] => { results := [.lit (.bool true)], args := [d1, d2] }
  | _ => none }
def fnNamesRow : OpenClaim := { program := "ytdphgdlkchajoaa", sum := "da383c6becf1c977e91b67a753113ed2bae71ccff9bba4eccb7da90ed99600d3", func := "loop.example/g00837/laws.FnNames", spec := "fnNames", apart := false }
def FnNamesSaid : Prop := fnNamesRow.holds Try.pinned (OpenSpec.ofChange fnNamesSpec)

/-- ITS FALSE NEIGHBOUR: 'it returns false'. Refute it at one input. -/
def fnNamesWrong : ChangeSpec := { name := "fnNames", fn := fun _ => fun
  | [d1, d2] => { results := [.lit (.bool false)], args := [d1, d2] }
  | _ => none }
def FnNamesWrongFalsely : Prop := fnNamesRow.holds Try.pinned (OpenSpec.ofChange fnNamesWrong)

/-- 'laws.FnExactLineOf': WHATEVER THE INPUT: true; the input reads as it did. -/
def fnExactLineOfSpec : ChangeSpec := { name := "fnExactLineOf", fn := fun _ => fun
  | [d1, d2] => { results := [.lit (.bool true)], args := [d1, d2] }
  | _ => none }
def fnExactLineOfRow : OpenClaim := { program := "ytdphgdlkchajoaa", sum := "da383c6becf1c977e91b67a753113ed2bae71ccff9bba4eccb7da90ed99600d3", func := "loop.example/g00837/laws.FnExactLineOf", spec := "fnExactLineOf", inPlace := ["internal/bytealg.CountString", "internal/bytealg.IndexByteString", "internal/bytealg.IndexString"], named := ["internal/bytealg.MaxLen"], apart := false }
def FnExactLineOfSaid : Prop := fnExactLineOfRow.holds Try.pinned (OpenSpec.ofChange fnExactLineOfSpec)

/-- ITS FALSE NEIGHBOUR: 'it returns false'. Refute it at one input. -/
def fnExactLineOfWrong : ChangeSpec := { name := "fnExactLineOf", fn := fun _ => fun
  | [d1, d2] => { results := [.lit (.bool false)], args := [d1, d2] }
  | _ => none }
def FnExactLineOfWrongFalsely : Prop := fnExactLineOfRow.holds Try.pinned (OpenSpec.ofChange fnExactLineOfWrong)

/-- 'laws.FnNumbers': WHATEVER THE INPUT: true; the input reads as it did. -/
def fnNumbersSpec : ChangeSpec := { name := "fnNumbers", fn := fun _ => fun
  | [d1, d2] => { results := [.lit (.bool true)], args := [d1, d2] }
  | _ => none }
def fnNumbersRow : OpenClaim := { program := "ytdphgdlkchajoaa", sum := "da383c6becf1c977e91b67a753113ed2bae71ccff9bba4eccb7da90ed99600d3", func := "loop.example/g00837/laws.FnNumbers", spec := "fnNumbers", apart := false }
def FnNumbersSaid : Prop := fnNumbersRow.holds Try.pinned (OpenSpec.ofChange fnNumbersSpec)

/-- ITS FALSE NEIGHBOUR: 'it returns false'. Refute it at one input. -/
def fnNumbersWrong : ChangeSpec := { name := "fnNumbers", fn := fun _ => fun
  | [d1, d2] => { results := [.lit (.bool false)], args := [d1, d2] }
  | _ => none }
def FnNumbersWrongFalsely : Prop := fnNumbersRow.holds Try.pinned (OpenSpec.ofChange fnNumbersWrong)

/-- 'laws.FnExactObjectBytes': WHATEVER THE INPUT: true; the input reads as it did. -/
def fnExactObjectBytesSpec : ChangeSpec := { name := "fnExactObjectBytes", fn := fun _ => fun
  | [d] => { results := [.lit (.bool true)], args := [d] }
  | _ => none }
def fnExactObjectBytesRow : OpenClaim := { program := "ytdphgdlkchajoaa", sum := "da383c6becf1c977e91b67a753113ed2bae71ccff9bba4eccb7da90ed99600d3", func := "loop.example/g00837/laws.FnExactObjectBytes", spec := "fnExactObjectBytes", apart := false }
def FnExactObjectBytesSaid : Prop := fnExactObjectBytesRow.holds Try.pinned (OpenSpec.ofChange fnExactObjectBytesSpec)

/-- ITS FALSE NEIGHBOUR: 'it returns false'. Refute it at one input. -/
def fnExactObjectBytesWrong : ChangeSpec := { name := "fnExactObjectBytes", fn := fun _ => fun
  | [d] => { results := [.lit (.bool false)], args := [d] }
  | _ => none }
def FnExactObjectBytesWrongFalsely : Prop := fnExactObjectBytesRow.holds Try.pinned (OpenSpec.ofChange fnExactObjectBytesWrong)

/-- 'laws.FnExactTypeBytes': WHATEVER THE INPUT: true; the input reads as it did. -/
def fnExactTypeBytesSpec : ChangeSpec := { name := "fnExactTypeBytes", fn := fun _ => fun
  | [d] => { results := [.lit (.bool true)], args := [d] }
  | _ => none }
def fnExactTypeBytesRow : OpenClaim := { program := "ytdphgdlkchajoaa", sum := "da383c6becf1c977e91b67a753113ed2bae71ccff9bba4eccb7da90ed99600d3", func := "loop.example/g00837/laws.FnExactTypeBytes", spec := "fnExactTypeBytes", unfollowed := true, recurses := true, apart := false }
def FnExactTypeBytesSaid : Prop := fnExactTypeBytesRow.holds Try.pinned (OpenSpec.ofChange fnExactTypeBytesSpec)

/-- ITS FALSE NEIGHBOUR: 'it returns false'. Refute it at one input. -/
def fnExactTypeBytesWrong : ChangeSpec := { name := "fnExactTypeBytes", fn := fun _ => fun
  | [d] => { results := [.lit (.bool false)], args := [d] }
  | _ => none }
def FnExactTypeBytesWrongFalsely : Prop := fnExactTypeBytesRow.holds Try.pinned (OpenSpec.ofChange fnExactTypeBytesWrong)

/-- 'laws.FnExactEvalExpr': WHATEVER THE INPUT: true; the input reads as it did. -/
def fnExactEvalExprSpec : ChangeSpec := { name := "fnExactEvalExpr", fn := fun _ => fun
  | [d1, d2] => { results := [.lit (.bool true)], args := [d1, d2] }
  | _ => none }
def fnExactEvalExprRow : OpenClaim := { program := "ytdphgdlkchajoaa", sum := "da383c6becf1c977e91b67a753113ed2bae71ccff9bba4eccb7da90ed99600d3", func := "loop.example/g00837/laws.FnExactEvalExpr", spec := "fnExactEvalExpr", unfollowed := true, recurses := true, apart := false }
def FnExactEvalExprSaid : Prop := fnExactEvalExprRow.holds Try.pinned (OpenSpec.ofChange fnExactEvalExprSpec)

/-- ITS FALSE NEIGHBOUR: 'it returns false'. Refute it at one input. -/
def fnExactEvalExprWrong : ChangeSpec := { name := "fnExactEvalExpr", fn := fun _ => fun
  | [d1, d2] => { results := [.lit (.bool false)], args := [d1, d2] }
  | _ => none }
def FnExactEvalExprWrongFalsely : Prop := fnExactEvalExprRow.holds Try.pinned (OpenSpec.ofChange fnExactEvalExprWrong)

/-- 'laws.FnExactSameScope': WHATEVER THE INPUT: true; the input reads as it did. -/
def fnExactSameScopeSpec : ChangeSpec := { name := "fnExactSameScope", fn := fun _ => fun
  | [d1, d2] => { results := [.lit (.bool true)], args := [d1, d2] }
  | _ => none }
def fnExactSameScopeRow : OpenClaim := { program := "ytdphgdlkchajoaa", sum := "da383c6becf1c977e91b67a753113ed2bae71ccff9bba4eccb7da90ed99600d3", func := "loop.example/g00837/laws.FnExactSameScope", spec := "fnExactSameScope", unfollowed := true, recurses := true, apart := false }
def FnExactSameScopeSaid : Prop := fnExactSameScopeRow.holds Try.pinned (OpenSpec.ofChange fnExactSameScopeSpec)

/-- ITS FALSE NEIGHBOUR: 'it returns false'. Refute it at one input. -/
def fnExactSameScopeWrong : ChangeSpec := { name := "fnExactSameScope", fn := fun _ => fun
  | [d1, d2] => { results := [.lit (.bool false)], args := [d1, d2] }
  | _ => none }
def FnExactSameScopeWrongFalsely : Prop := fnExactSameScopeRow.holds Try.pinned (OpenSpec.ofChange fnExactSameScopeWrong)

/- THE SECOND FORM. 'bulk': how many values and letters a reading holds, each counted each time it is reached (what is shared counts as often as it is met; a slice's spare places count too). A statement '..UptoSaid' is the law's where the arguments, and the package variables that the reading takes, are together of bulk at most 1048576: NARROWER than '..Said'. Prove '..Said' where nothing that the law and all that it calls make is longer than what came in: it says more and counts as full. Else prove '..UptoSaid'. A law counts once. -/
mutual
def uptoBulk {H : Type} : DataW H → Nat
  | .lit (.string bytes) => bytes.length + 1
  | .lit _ => 1
  | .nil => 1
  | .ptr d => uptoBulk d + 1
  | .slice elems spare => uptoBulkAll elems + uptoBulkAll spare + 1
  | .agg parts => uptoBulkAll parts + 1
  | .iface _ d => uptoBulk d + 1
  | .map entries => uptoBulkEntries entries + 1
  | .held _ => 1
def uptoBulkAll {H : Type} : List (DataW H) → Nat
  | [] => 0
  | d :: r => uptoBulk d + uptoBulkAll r
def uptoBulkEntries {H : Type} : List (Lit × DataW H) → Nat
  | [] => 0
  | x :: r => uptoBulkEntry x + uptoBulkEntries r
def uptoBulkEntry {H : Type} : Lit × DataW H → Nat
  | (.string bytes, d) => bytes.length + uptoBulk d + 1
  | (_, d) => uptoBulk d + 1
 end
def uptoSmall : (H : Type) → List (DataW H) → Bool := fun _ ds => decide (uptoBulkAll ds ≤ 1048576)
def OpenSpec.upto (s : _root_.Go.ChangeSpec) : _root_.Go.OpenSpec := { _root_.Go.OpenSpec.ofChange s with cond := some uptoSmall }

/-- 'laws.FnMixes', WHERE WHAT IT READS IS OF BULK AT MOST 1048576: true; the input reads as it did. -/
def fnMixesUptoRow : OpenClaim := { program := "ytdphgdlkchajoaa", sum := "da383c6becf1c977e91b67a753113ed2bae71ccff9bba4eccb7da90ed99600d3", func := "loop.example/g00837/laws.FnMixes", spec := "fnMixes", apart := false, narrowed := true }
def FnMixesUptoSaid : Prop := fnMixesUptoRow.holds Try.pinned (OpenSpec.upto fnMixesSpec)

/-- 'laws.FnExactReadNum', WHERE WHAT IT READS IS OF BULK AT MOST 1048576: true; the input reads as it did. -/
def fnExactReadNumUptoRow : OpenClaim := { program := "ytdphgdlkchajoaa", sum := "da383c6becf1c977e91b67a753113ed2bae71ccff9bba4eccb7da90ed99600d3", func := "loop.example/g00837/laws.FnExactReadNum", spec := "fnExactReadNum", apart := false, narrowed := true }
def FnExactReadNumUptoSaid : Prop := fnExactReadNumUptoRow.holds Try.pinned (OpenSpec.upto fnExactReadNumSpec)

/-- 'laws.FnExactGoodExpr', WHERE WHAT IT READS IS OF BULK AT MOST 1048576: true; the input reads as it did. -/
def fnExactGoodExprUptoRow : OpenClaim := { program := "ytdphgdlkchajoaa", sum := "da383c6becf1c977e91b67a753113ed2bae71ccff9bba4eccb7da90ed99600d3", func := "loop.example/g00837/laws.FnExactGoodExpr", spec := "fnExactGoodExpr", apart := false, narrowed := true }
def FnExactGoodExprUptoSaid : Prop := fnExactGoodExprUptoRow.holds Try.pinned (OpenSpec.upto fnExactGoodExprSpec)

/-- 'laws.FnNames', WHERE WHAT IT READS IS OF BULK AT MOST 1048576: true; the input reads as it did. -/
def fnNamesUptoRow : OpenClaim := { program := "ytdphgdlkchajoaa", sum := "da383c6becf1c977e91b67a753113ed2bae71ccff9bba4eccb7da90ed99600d3", func := "loop.example/g00837/laws.FnNames", spec := "fnNames", apart := false, narrowed := true }
def FnNamesUptoSaid : Prop := fnNamesUptoRow.holds Try.pinned (OpenSpec.upto fnNamesSpec)

/-- 'laws.FnExactLineOf', WHERE WHAT IT READS IS OF BULK AT MOST 1048576: true; the input reads as it did. -/
def fnExactLineOfUptoRow : OpenClaim := { program := "ytdphgdlkchajoaa", sum := "da383c6becf1c977e91b67a753113ed2bae71ccff9bba4eccb7da90ed99600d3", func := "loop.example/g00837/laws.FnExactLineOf", spec := "fnExactLineOf", inPlace := ["internal/bytealg.CountString", "internal/bytealg.IndexByteString", "internal/bytealg.IndexString"], named := ["internal/bytealg.MaxLen"], apart := false, narrowed := true }
def FnExactLineOfUptoSaid : Prop := fnExactLineOfUptoRow.holds Try.pinned (OpenSpec.upto fnExactLineOfSpec)

/-- 'laws.FnNumbers', WHERE WHAT IT READS IS OF BULK AT MOST 1048576: true; the input reads as it did. -/
def fnNumbersUptoRow : OpenClaim := { program := "ytdphgdlkchajoaa", sum := "da383c6becf1c977e91b67a753113ed2bae71ccff9bba4eccb7da90ed99600d3", func := "loop.example/g00837/laws.FnNumbers", spec := "fnNumbers", apart := false, narrowed := true }
def FnNumbersUptoSaid : Prop := fnNumbersUptoRow.holds Try.pinned (OpenSpec.upto fnNumbersSpec)

/-- 'laws.FnExactObjectBytes', WHERE WHAT IT READS IS OF BULK AT MOST 1048576: true; the input reads as it did. -/
def fnExactObjectBytesUptoRow : OpenClaim := { program := "ytdphgdlkchajoaa", sum := "da383c6becf1c977e91b67a753113ed2bae71ccff9bba4eccb7da90ed99600d3", func := "loop.example/g00837/laws.FnExactObjectBytes", spec := "fnExactObjectBytes", apart := false, narrowed := true }
def FnExactObjectBytesUptoSaid : Prop := fnExactObjectBytesUptoRow.holds Try.pinned (OpenSpec.upto fnExactObjectBytesSpec)

/-- 'laws.FnExactTypeBytes', WHERE WHAT IT READS IS OF BULK AT MOST 1048576: true; the input reads as it did. -/
def fnExactTypeBytesUptoRow : OpenClaim := { program := "ytdphgdlkchajoaa", sum := "da383c6becf1c977e91b67a753113ed2bae71ccff9bba4eccb7da90ed99600d3", func := "loop.example/g00837/laws.FnExactTypeBytes", spec := "fnExactTypeBytes", unfollowed := true, recurses := true, apart := false, narrowed := true }
def FnExactTypeBytesUptoSaid : Prop := fnExactTypeBytesUptoRow.holds Try.pinned (OpenSpec.upto fnExactTypeBytesSpec)

/-- 'laws.FnExactEvalExpr', WHERE WHAT IT READS IS OF BULK AT MOST 1048576: true; the input reads as it did. -/
def fnExactEvalExprUptoRow : OpenClaim := { program := "ytdphgdlkchajoaa", sum := "da383c6becf1c977e91b67a753113ed2bae71ccff9bba4eccb7da90ed99600d3", func := "loop.example/g00837/laws.FnExactEvalExpr", spec := "fnExactEvalExpr", unfollowed := true, recurses := true, apart := false, narrowed := true }
def FnExactEvalExprUptoSaid : Prop := fnExactEvalExprUptoRow.holds Try.pinned (OpenSpec.upto fnExactEvalExprSpec)

/-- 'laws.FnExactSameScope', WHERE WHAT IT READS IS OF BULK AT MOST 1048576: true; the input reads as it did. -/
def fnExactSameScopeUptoRow : OpenClaim := { program := "ytdphgdlkchajoaa", sum := "da383c6becf1c977e91b67a753113ed2bae71ccff9bba4eccb7da90ed99600d3", func := "loop.example/g00837/laws.FnExactSameScope", spec := "fnExactSameScope", unfollowed := true, recurses := true, apart := false, narrowed := true }
def FnExactSameScopeUptoSaid : Prop := fnExactSameScopeUptoRow.holds Try.pinned (OpenSpec.upto fnExactSameScopeSpec)

end Rows
end Go.Proofs.Ytdphgdlkchajoaa
