/-
  DERIVED. GIVEN WITH THE SEED: THE CARDS: each row of YticnhfflppkpoaaGreatDoorRows.lean that lists a variable, with what it lists TIED to the program's text (the seventh form; the later family's looks); each row that meets fmt, with fmt's text TOLD by the authors' own Lean function (tested against real Go, not proved from fmt's source: count such statements apart). THE CARD IS WHAT COUNTS. Prove the row's statement (the work); the ties are given (YticnhfflppkpoaaGreatDoorTie.lean); close each card by the builder's one call (the guide's Derived/Test/ToyasCard.lean, 'card_holds'). Laid BY PROGRAM, IN A SANDBOX (cutbox-door.mjs). By AI agents, Wed Nov 11 2026. No macro, syntax, notation, axiom, sorry.
-/
import Derived.Test.YticnhfflppkpoaaGreatDoorRows
import GoSem.ClaimSeven
namespace Go.Proofs.YticnhfflppkpoaaGreatDoor
namespace Rows

/-- THE TIED CARD OF 'laws.FnExactSeqsRise'. -/
def fnExactSeqsRiseCard : Claim7 := { stood := { row := fnExactSeqsRiseRow, standIns := [], harness := (true, "14604fdb7fd61d2a611d70e6cc828d7beef063dbf874feb08cd73a8f33b12f3b"), looks := true }, kinds := [], alts := [], laidByText := true, laidKinds := [.data, .data, .data, .sentinel, .sentinel], laidTests := true, laidLooks := .later }
def FnExactSeqsRiseCardSaid : Prop := Claim7.holds Tryz.pinned (.plain (OpenSpec.ofChange fnExactSeqsRiseSpec)) fnExactSeqsRiseCard

/-- THE TIED CARD OF 'laws.FnExactDirOf'. -/
def fnExactDirOfCard : Claim7 := { stood := { row := fnExactDirOfRow, standIns := [], harness := (true, "14604fdb7fd61d2a611d70e6cc828d7beef063dbf874feb08cd73a8f33b12f3b"), looks := true }, kinds := [], alts := [], laidByText := true, laidKinds := [.data, .data, .data, .sentinel, .sentinel], laidTests := true, laidLooks := .later }
def FnExactDirOfCardSaid : Prop := Claim7.holds Tryz.pinned (.plain (OpenSpec.ofChange fnExactDirOfSpec)) fnExactDirOfCard

/-- THE SECOND FORM's CARD OF 'laws.FnExactSeqsRise'. -/
def fnExactSeqsRiseUptoCard : Claim7 := { stood := { row := fnExactSeqsRiseUptoRow, standIns := [], harness := (true, "14604fdb7fd61d2a611d70e6cc828d7beef063dbf874feb08cd73a8f33b12f3b"), looks := true }, kinds := [], alts := [], laidByText := true, laidKinds := [.data, .data, .data, .sentinel, .sentinel], laidTests := true, laidLooks := .later }
def FnExactSeqsRiseUptoCardSaid : Prop := Claim7.holds Tryz.pinned (.plain (OpenSpec.upto fnExactSeqsRiseSpec)) fnExactSeqsRiseUptoCard

/-- THE SECOND FORM's CARD OF 'laws.FnExactDirOf'. -/
def fnExactDirOfUptoCard : Claim7 := { stood := { row := fnExactDirOfUptoRow, standIns := [], harness := (true, "14604fdb7fd61d2a611d70e6cc828d7beef063dbf874feb08cd73a8f33b12f3b"), looks := true }, kinds := [], alts := [], laidByText := true, laidKinds := [.data, .data, .data, .sentinel, .sentinel], laidTests := true, laidLooks := .later }
def FnExactDirOfUptoCardSaid : Prop := Claim7.holds Tryz.pinned (.plain (OpenSpec.upto fnExactDirOfSpec)) fnExactDirOfUptoCard
end Rows
end Go.Proofs.YticnhfflppkpoaaGreatDoor
