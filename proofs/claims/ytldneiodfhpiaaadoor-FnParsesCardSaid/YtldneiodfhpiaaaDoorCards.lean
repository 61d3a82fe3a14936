/-
  DERIVED. GIVEN WITH THE SEED: THE CARDS: each row of YtldneiodfhpiaaaDoorRows.lean that lists a variable, with what it lists TIED to the program's text (the seventh form; the later family's looks); each row that meets fmt, with fmt's text TOLD by the authors' own Lean function (tested against real Go, not proved from fmt's source: count such statements apart). THE CARD IS WHAT COUNTS. Prove the row's statement (the work); the ties are given (YtldneiodfhpiaaaDoorTie.lean); close each card by the builder's one call (the guide's Derived/Test/ToyasCard.lean, 'card_holds'). Laid BY PROGRAM, IN A SANDBOX (cutbox-door.mjs). By AI agents, Wed Nov 11 2026. No macro, syntax, notation, axiom, sorry.
-/
import Derived.Test.YtldneiodfhpiaaaDoorRows
import GoSem.ClaimSeven
namespace Go.Proofs.YtldneiodfhpiaaaDoor
namespace Rows

/-- THE TIED CARD OF 'laws.FnExactCommands'. -/
def fnExactCommandsCard : Claim7 := { stood := { row := fnExactCommandsRow, standIns := [], harness := (true, "6074df8fd412e40c1ebe3f784f710f57cf1edf9fb255d98927b2388c82eab1ab"), looks := false }, kinds := [], alts := [], laidByText := true, laidKinds := [.listed, .data], laidTests := true, laidLooks := .later }
def FnExactCommandsCardSaid : Prop := Claim7.holds Tryd.pinned (.plain (OpenSpec.ofChange fnExactCommandsSpec)) fnExactCommandsCard

/-- THE TIED CARD OF 'laws.FnParses'. -/
def fnParsesCard : Claim7 := { stood := { row := fnParsesRow, standIns := [], harness := (true, "6074df8fd412e40c1ebe3f784f710f57cf1edf9fb255d98927b2388c82eab1ab"), looks := false }, kinds := [], alts := [], laidByText := true, laidKinds := [.data, .pinned], laidTests := true, laidLooks := .later }
def FnParsesCardSaid : Prop := Claim7.holds Tryd.pinned (.plain (OpenSpec.ofChange fnParsesSpec)) fnParsesCard

/-- THE TIED CARD OF 'laws.FnExactBulk'. -/
def fnExactBulkCard : Claim7 := { stood := { row := fnExactBulkRow, standIns := [], harness := (true, "6074df8fd412e40c1ebe3f784f710f57cf1edf9fb255d98927b2388c82eab1ab"), looks := false }, kinds := [], alts := [], laidByText := true, laidKinds := [.data, .data, .data], laidTests := true, laidLooks := .later }
def FnExactBulkCardSaid : Prop := Claim7.holds Tryd.pinned (.plain (OpenSpec.ofChange fnExactBulkSpec)) fnExactBulkCard

/-- THE TIED CARD OF 'laws.FnExactNumber'. -/
def fnExactNumberCard : Claim7 := { stood := { row := fnExactNumberRow, standIns := [], harness := (true, "6074df8fd412e40c1ebe3f784f710f57cf1edf9fb255d98927b2388c82eab1ab"), looks := false }, kinds := [], alts := [], laidByText := true, laidKinds := [.data, .data, .data], laidTests := true, laidLooks := .later }
def FnExactNumberCardSaid : Prop := Claim7.holds Tryd.pinned (.plain (OpenSpec.ofChange fnExactNumberSpec)) fnExactNumberCard

/-- THE TIED CARD OF 'laws.FnExactWrites'. -/
def fnExactWritesCard : Claim7 := { stood := { row := fnExactWritesRow, standIns := [], harness := (true, "6074df8fd412e40c1ebe3f784f710f57cf1edf9fb255d98927b2388c82eab1ab"), looks := false }, kinds := [], alts := [], laidByText := true, laidKinds := [.listed, .data], laidTests := true, laidLooks := .later }
def FnExactWritesCardSaid : Prop := Claim7.holds Tryd.pinned (.plain (OpenSpec.ofChange fnExactWritesSpec)) fnExactWritesCard

/-- THE TIED CARD OF 'laws.FnExactArray'. -/
def fnExactArrayCard : Claim7 := { stood := { row := fnExactArrayRow, standIns := [], harness := (true, "6074df8fd412e40c1ebe3f784f710f57cf1edf9fb255d98927b2388c82eab1ab"), looks := false }, kinds := [], alts := [], laidByText := true, laidKinds := [.data, .data, .data], laidTests := true, laidLooks := .later }
def FnExactArrayCardSaid : Prop := Claim7.holds Tryd.pinned (.plain (OpenSpec.ofChange fnExactArraySpec)) fnExactArrayCard

/-- THE TIED CARD OF 'laws.FnExactRequestText'. -/
def fnExactRequestTextCard : Claim7 := { stood := { row := fnExactRequestTextRow, standIns := [], harness := (true, "6074df8fd412e40c1ebe3f784f710f57cf1edf9fb255d98927b2388c82eab1ab"), looks := false }, kinds := [], alts := [], laidByText := true, laidKinds := [.data, .data, .data], laidTests := true, laidLooks := .later }
def FnExactRequestTextCardSaid : Prop := Claim7.holds Tryd.pinned (.plain (OpenSpec.ofChange fnExactRequestTextSpec)) fnExactRequestTextCard

/-- THE SECOND FORM's CARD OF 'laws.FnExactCommands'. -/
def fnExactCommandsUptoCard : Claim7 := { stood := { row := fnExactCommandsUptoRow, standIns := [], harness := (true, "6074df8fd412e40c1ebe3f784f710f57cf1edf9fb255d98927b2388c82eab1ab"), looks := false }, kinds := [], alts := [], laidByText := true, laidKinds := [.listed, .data], laidTests := true, laidLooks := .later }
def FnExactCommandsUptoCardSaid : Prop := Claim7.holds Tryd.pinned (.plain (OpenSpec.upto fnExactCommandsSpec)) fnExactCommandsUptoCard

/-- THE SECOND FORM's CARD OF 'laws.FnParses'. -/
def fnParsesUptoCard : Claim7 := { stood := { row := fnParsesUptoRow, standIns := [], harness := (true, "6074df8fd412e40c1ebe3f784f710f57cf1edf9fb255d98927b2388c82eab1ab"), looks := false }, kinds := [], alts := [], laidByText := true, laidKinds := [.data, .pinned], laidTests := true, laidLooks := .later }
def FnParsesUptoCardSaid : Prop := Claim7.holds Tryd.pinned (.plain (OpenSpec.upto fnParsesSpec)) fnParsesUptoCard

/-- THE SECOND FORM's CARD OF 'laws.FnExactBulk'. -/
def fnExactBulkUptoCard : Claim7 := { stood := { row := fnExactBulkUptoRow, standIns := [], harness := (true, "6074df8fd412e40c1ebe3f784f710f57cf1edf9fb255d98927b2388c82eab1ab"), looks := false }, kinds := [], alts := [], laidByText := true, laidKinds := [.data, .data, .data], laidTests := true, laidLooks := .later }
def FnExactBulkUptoCardSaid : Prop := Claim7.holds Tryd.pinned (.plain (OpenSpec.upto fnExactBulkSpec)) fnExactBulkUptoCard

/-- THE SECOND FORM's CARD OF 'laws.FnExactNumber'. -/
def fnExactNumberUptoCard : Claim7 := { stood := { row := fnExactNumberUptoRow, standIns := [], harness := (true, "6074df8fd412e40c1ebe3f784f710f57cf1edf9fb255d98927b2388c82eab1ab"), looks := false }, kinds := [], alts := [], laidByText := true, laidKinds := [.data, .data, .data], laidTests := true, laidLooks := .later }
def FnExactNumberUptoCardSaid : Prop := Claim7.holds Tryd.pinned (.plain (OpenSpec.upto fnExactNumberSpec)) fnExactNumberUptoCard

/-- THE SECOND FORM's CARD OF 'laws.FnExactWrites'. -/
def fnExactWritesUptoCard : Claim7 := { stood := { row := fnExactWritesUptoRow, standIns := [], harness := (true, "6074df8fd412e40c1ebe3f784f710f57cf1edf9fb255d98927b2388c82eab1ab"), looks := false }, kinds := [], alts := [], laidByText := true, laidKinds := [.listed, .data], laidTests := true, laidLooks := .later }
def FnExactWritesUptoCardSaid : Prop := Claim7.holds Tryd.pinned (.plain (OpenSpec.upto fnExactWritesSpec)) fnExactWritesUptoCard

/-- THE SECOND FORM's CARD OF 'laws.FnExactArray'. -/
def fnExactArrayUptoCard : Claim7 := { stood := { row := fnExactArrayUptoRow, standIns := [], harness := (true, "6074df8fd412e40c1ebe3f784f710f57cf1edf9fb255d98927b2388c82eab1ab"), looks := false }, kinds := [], alts := [], laidByText := true, laidKinds := [.data, .data, .data], laidTests := true, laidLooks := .later }
def FnExactArrayUptoCardSaid : Prop := Claim7.holds Tryd.pinned (.plain (OpenSpec.upto fnExactArraySpec)) fnExactArrayUptoCard

/-- THE SECOND FORM's CARD OF 'laws.FnExactRequestText'. -/
def fnExactRequestTextUptoCard : Claim7 := { stood := { row := fnExactRequestTextUptoRow, standIns := [], harness := (true, "6074df8fd412e40c1ebe3f784f710f57cf1edf9fb255d98927b2388c82eab1ab"), looks := false }, kinds := [], alts := [], laidByText := true, laidKinds := [.data, .data, .data], laidTests := true, laidLooks := .later }
def FnExactRequestTextUptoCardSaid : Prop := Claim7.holds Tryd.pinned (.plain (OpenSpec.upto fnExactRequestTextSpec)) fnExactRequestTextUptoCard
end Rows
end Go.Proofs.YtldneiodfhpiaaaDoor
