/-
  DERIVED. GIVEN WITH THE SEED: THE CARDS: each row of YtaacpdejpcbbbaaGreatDoorRows.lean that lists a variable, with what it lists TIED to the program's text (the seventh form; the later family's looks); each row that meets fmt, with fmt's text TOLD by the authors' own Lean function (tested against real Go, not proved from fmt's source: count such statements apart). THE CARD IS WHAT COUNTS. Prove the row's statement (the work); the ties are given (YtaacpdejpcbbbaaGreatDoorTie.lean); close each card by the builder's one call (the guide's Derived/Test/ToyasCard.lean, 'card_holds'). Laid BY PROGRAM, IN A SANDBOX (cutbox-door.mjs). By AI agents, Wed Nov 11 2026. No macro, syntax, notation, axiom, sorry.
-/
import Derived.Test.YtaacpdejpcbbbaaGreatDoorRows
import GoSem.ClaimSeven
namespace Go.Proofs.YtaacpdejpcbbbaaGreatDoor
namespace Rows

/-- THE TIED CARD OF 'laws.FnExactEngineOk'. -/
def fnExactEngineOkCard : Claim7 := { stood := { row := fnExactEngineOkRow, standIns := [], harness := (true, "54d290c108b168fa2067a75f543a038f80515c15c43816c949efa441585e0093"), looks := true }, kinds := [], alts := [], laidByText := true, laidKinds := [.data, .data, .data, .sentinel, .sentinel], laidTests := true, laidLooks := .later }
def FnExactEngineOkCardSaid : Prop := Claim7.holds Tryz.pinned (.plain (OpenSpec.ofChange fnExactEngineOkSpec)) fnExactEngineOkCard

/-- THE TIED CARD OF 'laws.FnExactUsed'. -/
def fnExactUsedCard : Claim7 := { stood := { row := fnExactUsedRow, standIns := [], harness := (true, "54d290c108b168fa2067a75f543a038f80515c15c43816c949efa441585e0093"), looks := true }, kinds := [], alts := [], laidByText := true, laidKinds := [.data, .data, .data, .sentinel, .sentinel], laidTests := true, laidLooks := .later }
def FnExactUsedCardSaid : Prop := Claim7.holds Tryz.pinned (.plain (OpenSpec.ofChange fnExactUsedSpec)) fnExactUsedCard

/-- THE TIED CARD OF 'laws.FnExactLiveBytes'. -/
def fnExactLiveBytesCard : Claim7 := { stood := { row := fnExactLiveBytesRow, standIns := [], harness := (true, "54d290c108b168fa2067a75f543a038f80515c15c43816c949efa441585e0093"), looks := true }, kinds := [], alts := [], laidByText := true, laidKinds := [.data, .data, .data, .sentinel, .sentinel], laidTests := true, laidLooks := .later }
def FnExactLiveBytesCardSaid : Prop := Claim7.holds Tryz.pinned (.plain (OpenSpec.ofChange fnExactLiveBytesSpec)) fnExactLiveBytesCard

/-- THE TIED CARD OF 'laws.FnExactGetValue'. -/
def fnExactGetValueCard : Claim7 := { stood := { row := fnExactGetValueRow, standIns := [], harness := (true, "54d290c108b168fa2067a75f543a038f80515c15c43816c949efa441585e0093"), looks := true }, kinds := [], alts := [], laidByText := true, laidKinds := [.data, .data, .data, .sentinel, .sentinel], laidTests := true, laidLooks := .later }
def FnExactGetValueCardSaid : Prop := Claim7.holds Tryz.pinned (.plain (OpenSpec.ofChange fnExactGetValueSpec)) fnExactGetValueCard

/-- THE TIED CARD OF 'laws.FnExactOpenEngine'. -/
def fnExactOpenEngineCard : Claim7 := { stood := { row := fnExactOpenEngineRow, standIns := [], harness := (true, "54d290c108b168fa2067a75f543a038f80515c15c43816c949efa441585e0093"), looks := true }, kinds := [], alts := [], laidByText := true, laidKinds := [.data, .data, .data, .sentinel, .sentinel], laidTests := true, laidLooks := .later }
def FnExactOpenEngineCardSaid : Prop := Claim7.holds Tryz.pinned (.plain (OpenSpec.ofChange fnExactOpenEngineSpec)) fnExactOpenEngineCard

/-- THE SECOND FORM's CARD OF 'laws.FnExactEngineOk'. -/
def fnExactEngineOkUptoCard : Claim7 := { stood := { row := fnExactEngineOkUptoRow, standIns := [], harness := (true, "54d290c108b168fa2067a75f543a038f80515c15c43816c949efa441585e0093"), looks := true }, kinds := [], alts := [], laidByText := true, laidKinds := [.data, .data, .data, .sentinel, .sentinel], laidTests := true, laidLooks := .later }
def FnExactEngineOkUptoCardSaid : Prop := Claim7.holds Tryz.pinned (.plain (OpenSpec.upto fnExactEngineOkSpec)) fnExactEngineOkUptoCard

/-- THE SECOND FORM's CARD OF 'laws.FnExactUsed'. -/
def fnExactUsedUptoCard : Claim7 := { stood := { row := fnExactUsedUptoRow, standIns := [], harness := (true, "54d290c108b168fa2067a75f543a038f80515c15c43816c949efa441585e0093"), looks := true }, kinds := [], alts := [], laidByText := true, laidKinds := [.data, .data, .data, .sentinel, .sentinel], laidTests := true, laidLooks := .later }
def FnExactUsedUptoCardSaid : Prop := Claim7.holds Tryz.pinned (.plain (OpenSpec.upto fnExactUsedSpec)) fnExactUsedUptoCard

/-- THE SECOND FORM's CARD OF 'laws.FnExactLiveBytes'. -/
def fnExactLiveBytesUptoCard : Claim7 := { stood := { row := fnExactLiveBytesUptoRow, standIns := [], harness := (true, "54d290c108b168fa2067a75f543a038f80515c15c43816c949efa441585e0093"), looks := true }, kinds := [], alts := [], laidByText := true, laidKinds := [.data, .data, .data, .sentinel, .sentinel], laidTests := true, laidLooks := .later }
def FnExactLiveBytesUptoCardSaid : Prop := Claim7.holds Tryz.pinned (.plain (OpenSpec.upto fnExactLiveBytesSpec)) fnExactLiveBytesUptoCard

/-- THE SECOND FORM's CARD OF 'laws.FnExactGetValue'. -/
def fnExactGetValueUptoCard : Claim7 := { stood := { row := fnExactGetValueUptoRow, standIns := [], harness := (true, "54d290c108b168fa2067a75f543a038f80515c15c43816c949efa441585e0093"), looks := true }, kinds := [], alts := [], laidByText := true, laidKinds := [.data, .data, .data, .sentinel, .sentinel], laidTests := true, laidLooks := .later }
def FnExactGetValueUptoCardSaid : Prop := Claim7.holds Tryz.pinned (.plain (OpenSpec.upto fnExactGetValueSpec)) fnExactGetValueUptoCard

/-- THE SECOND FORM's CARD OF 'laws.FnExactOpenEngine'. -/
def fnExactOpenEngineUptoCard : Claim7 := { stood := { row := fnExactOpenEngineUptoRow, standIns := [], harness := (true, "54d290c108b168fa2067a75f543a038f80515c15c43816c949efa441585e0093"), looks := true }, kinds := [], alts := [], laidByText := true, laidKinds := [.data, .data, .data, .sentinel, .sentinel], laidTests := true, laidLooks := .later }
def FnExactOpenEngineUptoCardSaid : Prop := Claim7.holds Tryz.pinned (.plain (OpenSpec.upto fnExactOpenEngineSpec)) fnExactOpenEngineUptoCard
end Rows
end Go.Proofs.YtaacpdejpcbbbaaGreatDoor
