/-
  DERIVED. GIVEN WITH THE SEED: THE CARDS: each row of YtohankpncipefaaGreatDoorRows.lean that lists a variable, with what it lists TIED to the program's text (the seventh form; the later family's looks); each row that meets fmt, with fmt's text TOLD by the authors' own Lean function (tested against real Go, not proved from fmt's source: count such statements apart). THE CARD IS WHAT COUNTS. Prove the row's statement (the work); the ties are given (YtohankpncipefaaGreatDoorTie.lean); close each card by the builder's one call (the guide's Derived/Test/ToyasCard.lean, 'card_holds'). Laid BY PROGRAM, IN A SANDBOX (cutbox-door.mjs). By AI agents, Wed Nov 11 2026. No macro, syntax, notation, axiom, sorry.
-/
import Derived.Test.YtohankpncipefaaGreatDoorRows
import GoSem.ClaimSeven
namespace Go.Proofs.YtohankpncipefaaGreatDoor
namespace Rows

/-- THE TIED CARD OF 'consollaw34.DiffTells'. -/
def diffTellsCard : Claim7 := { stood := { row := diffTellsRow, standIns := [], harness := (true, "2bf5e7a125e7da04deecec4ffc0b46605f04f7114a4e5ed2a3e9b1bb78243993"), looks := true }, kinds := [], alts := [], laidByText := true, laidKinds := [.data, .data, .data, .data, .pinned], laidTests := true, laidLooks := .later }
def DiffTellsCardSaid : Prop := Claim7.holds Tryz.pinned (.plain (OpenSpec.ofChange diffTellsSpec)) diffTellsCard

/-- THE TIED CARD OF 'consollaw34.DiffClauses'. -/
def diffClausesCard : Claim7 := { stood := { row := diffClausesRow, standIns := [], harness := (true, "2bf5e7a125e7da04deecec4ffc0b46605f04f7114a4e5ed2a3e9b1bb78243993"), looks := true }, kinds := [], alts := [], laidByText := true, laidKinds := [.data, .data, .data, .data, .data, .pinned], laidTests := true, laidLooks := .later }
def DiffClausesCardSaid : Prop := Claim7.holds Tryz.pinned (.plain (OpenSpec.ofChange diffClausesSpec)) diffClausesCard

/-- THE SECOND FORM's CARD OF 'consollaw34.DiffTells'. -/
def diffTellsUptoCard : Claim7 := { stood := { row := diffTellsUptoRow, standIns := [], harness := (true, "2bf5e7a125e7da04deecec4ffc0b46605f04f7114a4e5ed2a3e9b1bb78243993"), looks := true }, kinds := [], alts := [], laidByText := true, laidKinds := [.data, .data, .data, .data, .pinned], laidTests := true, laidLooks := .later }
def DiffTellsUptoCardSaid : Prop := Claim7.holds Tryz.pinned (.plain (OpenSpec.upto diffTellsSpec)) diffTellsUptoCard

/-- THE SECOND FORM's CARD OF 'consollaw34.DiffClauses'. -/
def diffClausesUptoCard : Claim7 := { stood := { row := diffClausesUptoRow, standIns := [], harness := (true, "2bf5e7a125e7da04deecec4ffc0b46605f04f7114a4e5ed2a3e9b1bb78243993"), looks := true }, kinds := [], alts := [], laidByText := true, laidKinds := [.data, .data, .data, .data, .data, .pinned], laidTests := true, laidLooks := .later }
def DiffClausesUptoCardSaid : Prop := Claim7.holds Tryz.pinned (.plain (OpenSpec.upto diffClausesSpec)) diffClausesUptoCard
end Rows
end Go.Proofs.YtohankpncipefaaGreatDoor
