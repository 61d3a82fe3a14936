/-
  DERIVED. GIVEN WITH THE SEED: THE CARDS: each row of YtdoaemagednclaaDoorRows.lean that lists a variable, with what it lists TIED to the program's text (the seventh form; the later family's looks); each row that meets fmt, with fmt's text TOLD by the authors' own Lean function (tested against real Go, not proved from fmt's source: count such statements apart). THE CARD IS WHAT COUNTS. Prove the row's statement (the work); the ties are given (YtdoaemagednclaaDoorTie.lean); close each card by the builder's one call (the guide's Derived/Test/ToyasCard.lean, 'card_holds'). Laid BY PROGRAM, IN A SANDBOX (cutbox-door.mjs). By AI agents, Wed Nov 11 2026. No macro, syntax, notation, axiom, sorry.
-/
import Derived.Test.YtdoaemagednclaaDoorRows
import GoSem.ClaimSeven
namespace Go.Proofs.YtdoaemagednclaaDoor
namespace Rows

/-- THE TIED CARD OF 'laws.FnReplies'. -/
def fnRepliesCard : Claim7 := { stood := { row := fnRepliesRow, standIns := [], harness := (true, "c3d87002a5579ac87406fc0a8fda6402783148944890605e091717e725d1c05a"), looks := true }, kinds := [], alts := [], laidByText := true, laidKinds := [.data, .data, .data, .sentinel, .sentinel], laidTests := true, laidLooks := .later }
def FnRepliesCardSaid : Prop := Claim7.holds Tryd.pinned (.plain (OpenSpec.ofChange fnRepliesSpec)) fnRepliesCard

/-- THE TIED CARD OF 'laws.FnCounts'. -/
def fnCountsCard : Claim7 := { stood := { row := fnCountsRow, standIns := [], harness := (true, "c3d87002a5579ac87406fc0a8fda6402783148944890605e091717e725d1c05a"), looks := true }, kinds := [], alts := [], laidByText := true, laidKinds := [.data, .data, .data, .sentinel, .sentinel, .listed, .data], laidTests := true, laidLooks := .later }
def FnCountsCardSaid : Prop := Claim7.holds Tryd.pinned (.plain (OpenSpec.ofChange fnCountsSpec)) fnCountsCard

/-- THE SECOND FORM's CARD OF 'laws.FnReplies'. -/
def fnRepliesUptoCard : Claim7 := { stood := { row := fnRepliesUptoRow, standIns := [], harness := (true, "c3d87002a5579ac87406fc0a8fda6402783148944890605e091717e725d1c05a"), looks := true }, kinds := [], alts := [], laidByText := true, laidKinds := [.data, .data, .data, .sentinel, .sentinel], laidTests := true, laidLooks := .later }
def FnRepliesUptoCardSaid : Prop := Claim7.holds Tryd.pinned (.plain (OpenSpec.upto fnRepliesSpec)) fnRepliesUptoCard

/-- THE SECOND FORM's CARD OF 'laws.FnCounts'. -/
def fnCountsUptoCard : Claim7 := { stood := { row := fnCountsUptoRow, standIns := [], harness := (true, "c3d87002a5579ac87406fc0a8fda6402783148944890605e091717e725d1c05a"), looks := true }, kinds := [], alts := [], laidByText := true, laidKinds := [.data, .data, .data, .sentinel, .sentinel, .listed, .data], laidTests := true, laidLooks := .later }
def FnCountsUptoCardSaid : Prop := Claim7.holds Tryd.pinned (.plain (OpenSpec.upto fnCountsSpec)) fnCountsUptoCard
end Rows
end Go.Proofs.YtdoaemagednclaaDoor
