/-
  DERIVED. GIVEN WITH THE SEED: THE CARDS: each row of YtjlnaogechkjdaaDoorRows.lean that lists a variable, with what it lists TIED to the program's text (the seventh form; the later family's looks); each row that meets fmt, with fmt's text TOLD by the authors' own Lean function (tested against real Go, not proved from fmt's source: count such statements apart). THE CARD IS WHAT COUNTS. Prove the row's statement (the work); the ties are given (YtjlnaogechkjdaaDoorTie.lean); close each card by the builder's one call (the guide's Derived/Test/ToyasCard.lean, 'card_holds'). Laid BY PROGRAM, IN A SANDBOX (cutbox-door.mjs). By AI agents, Wed Nov 11 2026. No macro, syntax, notation, axiom, sorry.
-/
import Derived.Test.YtjlnaogechkjdaaDoorRows
import GoSem.ClaimSeven
namespace Go.Proofs.YtjlnaogechkjdaaDoor
namespace Rows

/-- THE TIED CARD OF 'consollaw45.AgreeTells'. -/
def agreeTellsCard : Claim7 := { stood := { row := agreeTellsRow, standIns := [], harness := (true, "7f8a3204ec2ad8c286df029f6f00ad715e0efefdf8ca5b9c2e92ea0bdf91b5d4"), looks := true }, kinds := [], alts := [], laidByText := true, laidKinds := [.data, .data, .data, .sentinel, .sentinel], laidTests := true, laidLooks := .later }
def AgreeTellsCardSaid : Prop := Claim7.holds Tryd.pinned (.plain (OpenSpec.ofChange agreeTellsSpec)) agreeTellsCard

/-- THE TIED CARD OF 'consollaw45.AgreeConvicts'. -/
def agreeConvictsCard : Claim7 := { stood := { row := agreeConvictsRow, standIns := [], harness := (true, "7f8a3204ec2ad8c286df029f6f00ad715e0efefdf8ca5b9c2e92ea0bdf91b5d4"), looks := true }, kinds := [], alts := [], laidByText := true, laidKinds := [.data, .data, .data, .sentinel, .sentinel], laidTests := true, laidLooks := .later }
def AgreeConvictsCardSaid : Prop := Claim7.holds Tryd.pinned (.plain (OpenSpec.ofChange agreeConvictsSpec)) agreeConvictsCard

/-- THE TIED CARD OF 'consollaw45.AgreeTurns'. -/
def agreeTurnsCard : Claim7 := { stood := { row := agreeTurnsRow, standIns := [], harness := (true, "7f8a3204ec2ad8c286df029f6f00ad715e0efefdf8ca5b9c2e92ea0bdf91b5d4"), looks := true }, kinds := [], alts := [], laidByText := true, laidKinds := [.data, .data, .data, .sentinel, .sentinel], laidTests := true, laidLooks := .later }
def AgreeTurnsCardSaid : Prop := Claim7.holds Tryd.pinned (.plain (OpenSpec.ofChange agreeTurnsSpec)) agreeTurnsCard

/-- THE TIED CARD OF 'consollaw45.AgreeLeast'. -/
def agreeLeastCard : Claim7 := { stood := { row := agreeLeastRow, standIns := [], harness := (true, "7f8a3204ec2ad8c286df029f6f00ad715e0efefdf8ca5b9c2e92ea0bdf91b5d4"), looks := true }, kinds := [], alts := [], laidByText := true, laidKinds := [.data, .data, .data, .sentinel, .sentinel], laidTests := true, laidLooks := .later }
def AgreeLeastCardSaid : Prop := Claim7.holds Tryd.pinned (.plain (OpenSpec.ofChange agreeLeastSpec)) agreeLeastCard

/-- THE SECOND FORM's CARD OF 'consollaw45.AgreeTells'. -/
def agreeTellsUptoCard : Claim7 := { stood := { row := agreeTellsUptoRow, standIns := [], harness := (true, "7f8a3204ec2ad8c286df029f6f00ad715e0efefdf8ca5b9c2e92ea0bdf91b5d4"), looks := true }, kinds := [], alts := [], laidByText := true, laidKinds := [.data, .data, .data, .sentinel, .sentinel], laidTests := true, laidLooks := .later }
def AgreeTellsUptoCardSaid : Prop := Claim7.holds Tryd.pinned (.plain (OpenSpec.upto agreeTellsSpec)) agreeTellsUptoCard

/-- THE SECOND FORM's CARD OF 'consollaw45.AgreeConvicts'. -/
def agreeConvictsUptoCard : Claim7 := { stood := { row := agreeConvictsUptoRow, standIns := [], harness := (true, "7f8a3204ec2ad8c286df029f6f00ad715e0efefdf8ca5b9c2e92ea0bdf91b5d4"), looks := true }, kinds := [], alts := [], laidByText := true, laidKinds := [.data, .data, .data, .sentinel, .sentinel], laidTests := true, laidLooks := .later }
def AgreeConvictsUptoCardSaid : Prop := Claim7.holds Tryd.pinned (.plain (OpenSpec.upto agreeConvictsSpec)) agreeConvictsUptoCard

/-- THE SECOND FORM's CARD OF 'consollaw45.AgreeTurns'. -/
def agreeTurnsUptoCard : Claim7 := { stood := { row := agreeTurnsUptoRow, standIns := [], harness := (true, "7f8a3204ec2ad8c286df029f6f00ad715e0efefdf8ca5b9c2e92ea0bdf91b5d4"), looks := true }, kinds := [], alts := [], laidByText := true, laidKinds := [.data, .data, .data, .sentinel, .sentinel], laidTests := true, laidLooks := .later }
def AgreeTurnsUptoCardSaid : Prop := Claim7.holds Tryd.pinned (.plain (OpenSpec.upto agreeTurnsSpec)) agreeTurnsUptoCard

/-- THE SECOND FORM's CARD OF 'consollaw45.AgreeLeast'. -/
def agreeLeastUptoCard : Claim7 := { stood := { row := agreeLeastUptoRow, standIns := [], harness := (true, "7f8a3204ec2ad8c286df029f6f00ad715e0efefdf8ca5b9c2e92ea0bdf91b5d4"), looks := true }, kinds := [], alts := [], laidByText := true, laidKinds := [.data, .data, .data, .sentinel, .sentinel], laidTests := true, laidLooks := .later }
def AgreeLeastUptoCardSaid : Prop := Claim7.holds Tryd.pinned (.plain (OpenSpec.upto agreeLeastSpec)) agreeLeastUptoCard
end Rows
end Go.Proofs.YtjlnaogechkjdaaDoor
