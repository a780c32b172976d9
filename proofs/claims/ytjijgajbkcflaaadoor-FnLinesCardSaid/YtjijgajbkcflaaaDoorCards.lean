/-
  DERIVED. GIVEN WITH THE SEED: THE CARDS: each row of YtjijgajbkcflaaaDoorRows.lean that lists a variable, with what it lists TIED to the program's text (the seventh form; the later family's looks); each row that meets fmt, with fmt's text TOLD by the authors' own Lean function (tested against real Go, not proved from fmt's source: count such statements apart). THE CARD IS WHAT COUNTS. Prove the row's statement (the work); the ties are given (YtjijgajbkcflaaaDoorTie.lean); close each card by the builder's one call (the guide's Derived/Test/ToyasCard.lean, 'card_holds'). Laid BY PROGRAM, IN A SANDBOX (cutbox-door.mjs). By AI agents, Wed Nov 11 2026. No macro, syntax, notation, axiom, sorry.
-/
import Derived.Test.YtjijgajbkcflaaaDoorRows
import GoSem.ClaimSeven
namespace Go.Proofs.YtjijgajbkcflaaaDoor
namespace Rows

/-- THE TIED CARD OF 'laws.FnLines'. -/
def fnLinesCard : Claim7 := { stood := { row := fnLinesRow, standIns := [], harness := (true, "6e478658d842b2819b3746ccf4d1c5dc583f2fb9f76027c42e08f0b0b6a957b1"), looks := true }, kinds := [], alts := [], laidByText := true, laidKinds := [.data, .data, .data, .data, .sentinel, .sentinel, .pinned], laidTests := true, laidLooks := .later }
def FnLinesCardSaid : Prop := Claim7.holds Tryd.pinned (.plain (OpenSpec.ofChange fnLinesSpec)) fnLinesCard

/-- THE TIED CARD OF 'laws.FnExactGoodTokens'. -/
def fnExactGoodTokensCard : Claim7 := { stood := { row := fnExactGoodTokensRow, standIns := [], harness := (true, "6e478658d842b2819b3746ccf4d1c5dc583f2fb9f76027c42e08f0b0b6a957b1"), looks := true }, kinds := [], alts := [], laidByText := true, laidKinds := [.data, .data, .data, .data, .sentinel, .sentinel, .pinned], laidTests := true, laidLooks := .later }
def FnExactGoodTokensCardSaid : Prop := Claim7.holds Tryd.pinned (.plain (OpenSpec.ofChange fnExactGoodTokensSpec)) fnExactGoodTokensCard

/-- THE TIED CARD OF 'laws.FnExactTokensText'. -/
def fnExactTokensTextCard : Claim7 := { stood := { row := fnExactTokensTextRow, standIns := [], harness := (true, "6e478658d842b2819b3746ccf4d1c5dc583f2fb9f76027c42e08f0b0b6a957b1"), looks := true }, kinds := [], alts := [], laidByText := true, laidKinds := [.data, .data, .data, .data, .sentinel, .sentinel, .pinned], laidTests := true, laidLooks := .later }
def FnExactTokensTextCardSaid : Prop := Claim7.holds Tryd.pinned (.plain (OpenSpec.ofChange fnExactTokensTextSpec)) fnExactTokensTextCard

/-- THE SECOND FORM's CARD OF 'laws.FnLines'. -/
def fnLinesUptoCard : Claim7 := { stood := { row := fnLinesUptoRow, standIns := [], harness := (true, "6e478658d842b2819b3746ccf4d1c5dc583f2fb9f76027c42e08f0b0b6a957b1"), looks := true }, kinds := [], alts := [], laidByText := true, laidKinds := [.data, .data, .data, .data, .sentinel, .sentinel, .pinned], laidTests := true, laidLooks := .later }
def FnLinesUptoCardSaid : Prop := Claim7.holds Tryd.pinned (.plain (OpenSpec.upto fnLinesSpec)) fnLinesUptoCard

/-- THE SECOND FORM's CARD OF 'laws.FnExactGoodTokens'. -/
def fnExactGoodTokensUptoCard : Claim7 := { stood := { row := fnExactGoodTokensUptoRow, standIns := [], harness := (true, "6e478658d842b2819b3746ccf4d1c5dc583f2fb9f76027c42e08f0b0b6a957b1"), looks := true }, kinds := [], alts := [], laidByText := true, laidKinds := [.data, .data, .data, .data, .sentinel, .sentinel, .pinned], laidTests := true, laidLooks := .later }
def FnExactGoodTokensUptoCardSaid : Prop := Claim7.holds Tryd.pinned (.plain (OpenSpec.upto fnExactGoodTokensSpec)) fnExactGoodTokensUptoCard

/-- THE SECOND FORM's CARD OF 'laws.FnExactTokensText'. -/
def fnExactTokensTextUptoCard : Claim7 := { stood := { row := fnExactTokensTextUptoRow, standIns := [], harness := (true, "6e478658d842b2819b3746ccf4d1c5dc583f2fb9f76027c42e08f0b0b6a957b1"), looks := true }, kinds := [], alts := [], laidByText := true, laidKinds := [.data, .data, .data, .data, .sentinel, .sentinel, .pinned], laidTests := true, laidLooks := .later }
def FnExactTokensTextUptoCardSaid : Prop := Claim7.holds Tryd.pinned (.plain (OpenSpec.upto fnExactTokensTextSpec)) fnExactTokensTextUptoCard
end Rows
end Go.Proofs.YtjijgajbkcflaaaDoor
