/-
  DERIVED. GIVEN WITH THE SEED: THE CARDS: each row of YtjlnaogechkjdaaGreatDoorRows.lean that lists a variable, with what it lists TIED to the program's text (the seventh form; the later family's looks); each row that meets fmt, with fmt's text TOLD by the authors' own Lean function (tested against real Go, not proved from fmt's source: count such statements apart). THE CARD IS WHAT COUNTS. Prove the row's statement (the work); the ties are given (YtjlnaogechkjdaaGreatDoorTie.lean); close each card by the builder's one call (the guide's Derived/Test/ToyasCard.lean, 'card_holds'). Laid BY PROGRAM, IN A SANDBOX (cutbox-door.mjs). By AI agents, Wed Nov 11 2026. No macro, syntax, notation, axiom, sorry.
-/
import Derived.Test.YtjlnaogechkjdaaGreatDoorRows
import GoSem.ClaimSeven
namespace Go.Proofs.YtjlnaogechkjdaaGreatDoor
namespace Rows

/-- THE TIED CARD OF 'consollaw45.AgreeExplains'. -/
def agreeExplainsCard : Claim7 := { stood := { row := agreeExplainsRow, standIns := [], harness := (true, "514ebb739cf5a4ea9e414264eb52116af287090ababe9cb32714ee2dbce79135"), looks := true }, kinds := [], alts := [], laidByText := true, laidKinds := [.data, .data, .data, .sentinel, .sentinel], laidTests := true, laidLooks := .later }
def AgreeExplainsCardSaid : Prop := Claim7.holds Tryz.pinned (.plain (OpenSpec.ofChange agreeExplainsSpec)) agreeExplainsCard

/-- THE SECOND FORM's CARD OF 'consollaw45.AgreeExplains'. -/
def agreeExplainsUptoCard : Claim7 := { stood := { row := agreeExplainsUptoRow, standIns := [], harness := (true, "514ebb739cf5a4ea9e414264eb52116af287090ababe9cb32714ee2dbce79135"), looks := true }, kinds := [], alts := [], laidByText := true, laidKinds := [.data, .data, .data, .sentinel, .sentinel], laidTests := true, laidLooks := .later }
def AgreeExplainsUptoCardSaid : Prop := Claim7.holds Tryz.pinned (.plain (OpenSpec.upto agreeExplainsSpec)) agreeExplainsUptoCard
end Rows
end Go.Proofs.YtjlnaogechkjdaaGreatDoor
