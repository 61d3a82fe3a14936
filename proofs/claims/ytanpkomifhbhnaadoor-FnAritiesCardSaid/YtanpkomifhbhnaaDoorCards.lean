/-
  DERIVED. GIVEN WITH THE SEED: THE CARDS: each row of YtanpkomifhbhnaaDoorRows.lean that lists a variable, with what it lists TIED to the program's text (the seventh form; the later family's looks); each row that meets fmt, with fmt's text TOLD by the authors' own Lean function (tested against real Go, not proved from fmt's source: count such statements apart). THE CARD IS WHAT COUNTS. Prove the row's statement (the work); the ties are given (YtanpkomifhbhnaaDoorTie.lean); close each card by the builder's one call (the guide's Derived/Test/ToyasCard.lean, 'card_holds'). Laid BY PROGRAM, IN A SANDBOX (cutbox-door.mjs). By AI agents, Wed Nov 11 2026. No macro, syntax, notation, axiom, sorry.
-/
import Derived.Test.YtanpkomifhbhnaaDoorRows
import GoSem.ClaimSeven
namespace Go.Proofs.YtanpkomifhbhnaaDoor
namespace Rows

/-- THE TIED CARD OF 'laws.FnExactArityOk'. -/
def fnExactArityOkCard : Claim7 := { stood := { row := fnExactArityOkRow, standIns := [], harness := (true, "062382cebdfdf3fbeab101f33f55d4c81f1cb6ffe209a8b323b4b47c753b7f9c"), looks := true }, kinds := [], alts := [], laidByText := true, laidKinds := [.listed, .data], laidTests := true, laidLooks := .later }
def FnExactArityOkCardSaid : Prop := Claim7.holds Tryd.pinned (.plain (OpenSpec.ofChange fnExactArityOkSpec)) fnExactArityOkCard

/-- THE TIED CARD OF 'laws.FnExactUnknown'. -/
def fnExactUnknownCard : Claim7 := { stood := { row := fnExactUnknownRow, standIns := [], harness := (true, "062382cebdfdf3fbeab101f33f55d4c81f1cb6ffe209a8b323b4b47c753b7f9c"), looks := true }, kinds := [], alts := [], laidByText := true, laidKinds := [.listed, .data], laidTests := true, laidLooks := .later }
def FnExactUnknownCardSaid : Prop := Claim7.holds Tryd.pinned (.plain (OpenSpec.ofChange fnExactUnknownSpec)) fnExactUnknownCard

/-- THE TIED CARD OF 'laws.FnExactParseRequest'. -/
def fnExactParseRequestCard : Claim7 := { stood := { row := fnExactParseRequestRow, standIns := [], harness := (true, "062382cebdfdf3fbeab101f33f55d4c81f1cb6ffe209a8b323b4b47c753b7f9c"), looks := true }, kinds := [], alts := [], laidByText := true, laidKinds := [.data, .pinned], laidTests := true, laidLooks := .later }
def FnExactParseRequestCardSaid : Prop := Claim7.holds Tryd.pinned (.plain (OpenSpec.ofChange fnExactParseRequestSpec)) fnExactParseRequestCard

/-- THE TIED CARD OF 'laws.FnExactReadInt'. -/
def fnExactReadIntCard : Claim7 := { stood := { row := fnExactReadIntRow, standIns := [], harness := (true, "062382cebdfdf3fbeab101f33f55d4c81f1cb6ffe209a8b323b4b47c753b7f9c"), looks := true }, kinds := [], alts := [], laidByText := true, laidKinds := [.data, .data, .data, .sentinel, .sentinel], laidTests := true, laidLooks := .later }
def FnExactReadIntCardSaid : Prop := Claim7.holds Tryd.pinned (.plain (OpenSpec.ofChange fnExactReadIntSpec)) fnExactReadIntCard

/-- THE TIED CARD OF 'laws.FnExactRequests'. -/
def fnExactRequestsCard : Claim7 := { stood := { row := fnExactRequestsRow, standIns := [], harness := (true, "062382cebdfdf3fbeab101f33f55d4c81f1cb6ffe209a8b323b4b47c753b7f9c"), looks := true }, kinds := [], alts := [], laidByText := true, laidKinds := [.data, .pinned], laidTests := true, laidLooks := .later }
def FnExactRequestsCardSaid : Prop := Claim7.holds Tryd.pinned (.plain (OpenSpec.ofChange fnExactRequestsSpec)) fnExactRequestsCard

/-- THE TIED CARD OF 'laws.FnRequests'. -/
def fnRequestsCard : Claim7 := { stood := { row := fnRequestsRow, standIns := [], harness := (true, "062382cebdfdf3fbeab101f33f55d4c81f1cb6ffe209a8b323b4b47c753b7f9c"), looks := true }, kinds := [], alts := [], laidByText := true, laidKinds := [.data, .data, .data, .data, .pinned], laidTests := true, laidLooks := .later }
def FnRequestsCardSaid : Prop := Claim7.holds Tryd.pinned (.plain (OpenSpec.ofChange fnRequestsSpec)) fnRequestsCard

/-- THE TIED CARD OF 'laws.FnArities'. -/
def fnAritiesCard : Claim7 := { stood := { row := fnAritiesRow, standIns := [], harness := (true, "062382cebdfdf3fbeab101f33f55d4c81f1cb6ffe209a8b323b4b47c753b7f9c"), looks := true }, kinds := [], alts := [], laidByText := true, laidKinds := [.data, .data, .data, .sentinel, .sentinel, .listed, .data], laidTests := true, laidLooks := .later }
def FnAritiesCardSaid : Prop := Claim7.holds Tryd.pinned (.plain (OpenSpec.ofChange fnAritiesSpec)) fnAritiesCard

/-- THE TIED CARD OF 'laws.FnReplies'. -/
def fnRepliesCard : Claim7 := { stood := { row := fnRepliesRow, standIns := [], harness := (true, "062382cebdfdf3fbeab101f33f55d4c81f1cb6ffe209a8b323b4b47c753b7f9c"), looks := true }, kinds := [], alts := [], laidByText := true, laidKinds := [.data, .data, .data, .sentinel, .sentinel], laidTests := true, laidLooks := .later }
def FnRepliesCardSaid : Prop := Claim7.holds Tryd.pinned (.plain (OpenSpec.ofChange fnRepliesSpec)) fnRepliesCard

/-- THE TIED CARD OF 'laws.FnCounts'. -/
def fnCountsCard : Claim7 := { stood := { row := fnCountsRow, standIns := [], harness := (true, "062382cebdfdf3fbeab101f33f55d4c81f1cb6ffe209a8b323b4b47c753b7f9c"), looks := true }, kinds := [], alts := [], laidByText := true, laidKinds := [.data, .data, .data, .sentinel, .sentinel, .listed, .data], laidTests := true, laidLooks := .later }
def FnCountsCardSaid : Prop := Claim7.holds Tryd.pinned (.plain (OpenSpec.ofChange fnCountsSpec)) fnCountsCard

/-- THE SECOND FORM's CARD OF 'laws.FnExactArityOk'. -/
def fnExactArityOkUptoCard : Claim7 := { stood := { row := fnExactArityOkUptoRow, standIns := [], harness := (true, "062382cebdfdf3fbeab101f33f55d4c81f1cb6ffe209a8b323b4b47c753b7f9c"), looks := true }, kinds := [], alts := [], laidByText := true, laidKinds := [.listed, .data], laidTests := true, laidLooks := .later }
def FnExactArityOkUptoCardSaid : Prop := Claim7.holds Tryd.pinned (.plain (OpenSpec.upto fnExactArityOkSpec)) fnExactArityOkUptoCard

/-- THE SECOND FORM's CARD OF 'laws.FnExactUnknown'. -/
def fnExactUnknownUptoCard : Claim7 := { stood := { row := fnExactUnknownUptoRow, standIns := [], harness := (true, "062382cebdfdf3fbeab101f33f55d4c81f1cb6ffe209a8b323b4b47c753b7f9c"), looks := true }, kinds := [], alts := [], laidByText := true, laidKinds := [.listed, .data], laidTests := true, laidLooks := .later }
def FnExactUnknownUptoCardSaid : Prop := Claim7.holds Tryd.pinned (.plain (OpenSpec.upto fnExactUnknownSpec)) fnExactUnknownUptoCard

/-- THE SECOND FORM's CARD OF 'laws.FnExactParseRequest'. -/
def fnExactParseRequestUptoCard : Claim7 := { stood := { row := fnExactParseRequestUptoRow, standIns := [], harness := (true, "062382cebdfdf3fbeab101f33f55d4c81f1cb6ffe209a8b323b4b47c753b7f9c"), looks := true }, kinds := [], alts := [], laidByText := true, laidKinds := [.data, .pinned], laidTests := true, laidLooks := .later }
def FnExactParseRequestUptoCardSaid : Prop := Claim7.holds Tryd.pinned (.plain (OpenSpec.upto fnExactParseRequestSpec)) fnExactParseRequestUptoCard

/-- THE SECOND FORM's CARD OF 'laws.FnExactReadInt'. -/
def fnExactReadIntUptoCard : Claim7 := { stood := { row := fnExactReadIntUptoRow, standIns := [], harness := (true, "062382cebdfdf3fbeab101f33f55d4c81f1cb6ffe209a8b323b4b47c753b7f9c"), looks := true }, kinds := [], alts := [], laidByText := true, laidKinds := [.data, .data, .data, .sentinel, .sentinel], laidTests := true, laidLooks := .later }
def FnExactReadIntUptoCardSaid : Prop := Claim7.holds Tryd.pinned (.plain (OpenSpec.upto fnExactReadIntSpec)) fnExactReadIntUptoCard

/-- THE SECOND FORM's CARD OF 'laws.FnExactRequests'. -/
def fnExactRequestsUptoCard : Claim7 := { stood := { row := fnExactRequestsUptoRow, standIns := [], harness := (true, "062382cebdfdf3fbeab101f33f55d4c81f1cb6ffe209a8b323b4b47c753b7f9c"), looks := true }, kinds := [], alts := [], laidByText := true, laidKinds := [.data, .pinned], laidTests := true, laidLooks := .later }
def FnExactRequestsUptoCardSaid : Prop := Claim7.holds Tryd.pinned (.plain (OpenSpec.upto fnExactRequestsSpec)) fnExactRequestsUptoCard

/-- THE SECOND FORM's CARD OF 'laws.FnRequests'. -/
def fnRequestsUptoCard : Claim7 := { stood := { row := fnRequestsUptoRow, standIns := [], harness := (true, "062382cebdfdf3fbeab101f33f55d4c81f1cb6ffe209a8b323b4b47c753b7f9c"), looks := true }, kinds := [], alts := [], laidByText := true, laidKinds := [.data, .data, .data, .data, .pinned], laidTests := true, laidLooks := .later }
def FnRequestsUptoCardSaid : Prop := Claim7.holds Tryd.pinned (.plain (OpenSpec.upto fnRequestsSpec)) fnRequestsUptoCard

/-- THE SECOND FORM's CARD OF 'laws.FnArities'. -/
def fnAritiesUptoCard : Claim7 := { stood := { row := fnAritiesUptoRow, standIns := [], harness := (true, "062382cebdfdf3fbeab101f33f55d4c81f1cb6ffe209a8b323b4b47c753b7f9c"), looks := true }, kinds := [], alts := [], laidByText := true, laidKinds := [.data, .data, .data, .sentinel, .sentinel, .listed, .data], laidTests := true, laidLooks := .later }
def FnAritiesUptoCardSaid : Prop := Claim7.holds Tryd.pinned (.plain (OpenSpec.upto fnAritiesSpec)) fnAritiesUptoCard

/-- THE SECOND FORM's CARD OF 'laws.FnReplies'. -/
def fnRepliesUptoCard : Claim7 := { stood := { row := fnRepliesUptoRow, standIns := [], harness := (true, "062382cebdfdf3fbeab101f33f55d4c81f1cb6ffe209a8b323b4b47c753b7f9c"), looks := true }, kinds := [], alts := [], laidByText := true, laidKinds := [.data, .data, .data, .sentinel, .sentinel], laidTests := true, laidLooks := .later }
def FnRepliesUptoCardSaid : Prop := Claim7.holds Tryd.pinned (.plain (OpenSpec.upto fnRepliesSpec)) fnRepliesUptoCard

/-- THE SECOND FORM's CARD OF 'laws.FnCounts'. -/
def fnCountsUptoCard : Claim7 := { stood := { row := fnCountsUptoRow, standIns := [], harness := (true, "062382cebdfdf3fbeab101f33f55d4c81f1cb6ffe209a8b323b4b47c753b7f9c"), looks := true }, kinds := [], alts := [], laidByText := true, laidKinds := [.data, .data, .data, .sentinel, .sentinel, .listed, .data], laidTests := true, laidLooks := .later }
def FnCountsUptoCardSaid : Prop := Claim7.holds Tryd.pinned (.plain (OpenSpec.upto fnCountsSpec)) fnCountsUptoCard
end Rows
end Go.Proofs.YtanpkomifhbhnaaDoor
