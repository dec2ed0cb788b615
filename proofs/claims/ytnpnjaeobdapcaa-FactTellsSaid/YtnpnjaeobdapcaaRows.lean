/-
  No cell of these rows narrows 'for every input' (looked for: loops, veiled, ifaces, maps, wideKeys, modest, calm, conditions, laid).
  DERIVED. THE GIVEN ROWS OF THIS SEAT. 4 by the template 'for every input the law returns true; each argument reads behind the call as it read before'; 0 by the template 'total and deterministic' (their statements: YtnpnjaeobdapcaaTotals.lean).
  GIVEN WITH THE SEED: the statements are not yours to turn. If you find one false, say at which input.
  Laid BY PROGRAM, IN A SANDBOX (cutbox-rows.mjs): the forced cells as the released guide's own fill.sh prints them over the translation 5607f25244460875… (all of the seat's roots in one cut). By AI agents, Wed Nov 11 2026. No macro, syntax, notation, axiom, sorry.
-/
import Derived.Test.YtnpnjaeobdapcaaChecked
import GoSem.Claim
import GoSem.ClaimJoined
import GoSem.ClaimMapViews
import Derived.JoinedTies
import Derived.KernelRfl
namespace Go.Proofs.Ytnpnjaeobdapcaa
/- THE CELL 'sum', in the pinned program and in every row, IS THE sha256 OF THE DUMP (.gsa) THAT YtnpnjaeobdapcaaProg.lean LOADS. Nothing in Lean hashes anything: it is a label: what it is worth is what the hold of that sum in a sandbox is worth. -/
noncomputable def Try.pinned : Pinned := { name := "ytnpnjaeobdapcaa", sum := "5607f25244460875708428240111c943f4598be07b270d59f4330a20cd4195f6", checked := Try.checked }
namespace Rows
def none {H : Type} : Left H := { results := [], args := [] }

/-- 'consollaw24.FactNow': WHATEVER THE INPUT: true; the input reads as it did. -/
def factNowSpec : ChangeSpec := { name := "factNow", fn := fun _ => fun
  | [d1, d2, d3, d4] => { results := [.lit (.bool true)], args := [d1, d2, d3, d4] }
  | _ => none }
def factNowRow : OpenClaim := { program := "ytnpnjaeobdapcaa", sum := "5607f25244460875708428240111c943f4598be07b270d59f4330a20cd4195f6", func := "consol/consollaw24.FactNow", spec := "factNow", unfollowed := true, recurses := true, apart := false }
def FactNowSaid : Prop := factNowRow.holds Try.pinned (OpenSpec.ofChange factNowSpec)

/-- ITS FALSE NEIGHBOUR: 'it returns false'. Refute it at one input. -/
def factNowWrong : ChangeSpec := { name := "factNow", fn := fun _ => fun
  | [d1, d2, d3, d4] => { results := [.lit (.bool false)], args := [d1, d2, d3, d4] }
  | _ => none }
def FactNowWrongFalsely : Prop := factNowRow.holds Try.pinned (OpenSpec.ofChange factNowWrong)

/-- 'consollaw24.FactMore': WHATEVER THE INPUT: true; the input reads as it did. -/
def factMoreSpec : ChangeSpec := { name := "factMore", fn := fun _ => fun
  | [d1, d2, d3, d4, d5, d6, d7] => { results := [.lit (.bool true)], args := [d1, d2, d3, d4, d5, d6, d7] }
  | _ => none }
def factMoreRow : OpenClaim := { program := "ytnpnjaeobdapcaa", sum := "5607f25244460875708428240111c943f4598be07b270d59f4330a20cd4195f6", func := "consol/consollaw24.FactMore", spec := "factMore", unfollowed := true, recurses := true, apart := false }
def FactMoreSaid : Prop := factMoreRow.holds Try.pinned (OpenSpec.ofChange factMoreSpec)

/-- ITS FALSE NEIGHBOUR: 'it returns false'. Refute it at one input. -/
def factMoreWrong : ChangeSpec := { name := "factMore", fn := fun _ => fun
  | [d1, d2, d3, d4, d5, d6, d7] => { results := [.lit (.bool false)], args := [d1, d2, d3, d4, d5, d6, d7] }
  | _ => none }
def FactMoreWrongFalsely : Prop := factMoreRow.holds Try.pinned (OpenSpec.ofChange factMoreWrong)

/-- 'consollaw24.FactTells': WHATEVER THE INPUT: true; the input reads as it did. -/
def factTellsSpec : ChangeSpec := { name := "factTells", fn := fun _ => fun
  | [d1, d2, d3, d4, d5] => { results := [.lit (.bool true)], args := [d1, d2, d3, d4, d5] }
  | _ => none }
def factTellsRow : OpenClaim := { program := "ytnpnjaeobdapcaa", sum := "5607f25244460875708428240111c943f4598be07b270d59f4330a20cd4195f6", func := "consol/consollaw24.FactTells", spec := "factTells", unfollowed := true, recurses := true, apart := false }
def FactTellsSaid : Prop := factTellsRow.holds Try.pinned (OpenSpec.ofChange factTellsSpec)

/-- ITS FALSE NEIGHBOUR: 'it returns false'. Refute it at one input. -/
def factTellsWrong : ChangeSpec := { name := "factTells", fn := fun _ => fun
  | [d1, d2, d3, d4, d5] => { results := [.lit (.bool false)], args := [d1, d2, d3, d4, d5] }
  | _ => none }
def FactTellsWrongFalsely : Prop := factTellsRow.holds Try.pinned (OpenSpec.ofChange factTellsWrong)

/-- 'consollaw24.FactKnown': WHATEVER THE INPUT: true; the input reads as it did. -/
def factKnownSpec : ChangeSpec := { name := "factKnown", fn := fun _ => fun
  | [d1, d2, d3, d4] => { results := [.lit (.bool true)], args := [d1, d2, d3, d4] }
  | _ => none }
def factKnownRow : OpenClaim := { program := "ytnpnjaeobdapcaa", sum := "5607f25244460875708428240111c943f4598be07b270d59f4330a20cd4195f6", func := "consol/consollaw24.FactKnown", spec := "factKnown", unfollowed := true, recurses := true, apart := false }
def FactKnownSaid : Prop := factKnownRow.holds Try.pinned (OpenSpec.ofChange factKnownSpec)

/-- ITS FALSE NEIGHBOUR: 'it returns false'. Refute it at one input. -/
def factKnownWrong : ChangeSpec := { name := "factKnown", fn := fun _ => fun
  | [d1, d2, d3, d4] => { results := [.lit (.bool false)], args := [d1, d2, d3, d4] }
  | _ => none }
def FactKnownWrongFalsely : Prop := factKnownRow.holds Try.pinned (OpenSpec.ofChange factKnownWrong)

/- THE SECOND FORM. 'bulk': how many values and letters a reading holds, each counted each time it is reached (what is shared counts as often as it is met; a slice's spare places count too). A statement '..UptoSaid' is the law's where the arguments, and the package variables that the reading takes, are together of bulk at most 1048576: NARROWER than '..Said'. Prove '..Said' where nothing that the law and all that it calls make is longer than what came in: it says more and counts as full. Else prove '..UptoSaid'. A law counts once. -/
mutual
def uptoBulk {H : Type} : DataW H → Nat
  | .lit (.string bytes) => bytes.length + 1
  | .lit _ => 1
  | .nil => 1
  | .ptr d => uptoBulk d + 1
  | .slice elems spare => uptoBulkAll elems + uptoBulkAll spare + 1
  | .agg parts => uptoBulkAll parts + 1
  | .iface _ d => uptoBulk d + 1
  | .map entries => uptoBulkEntries entries + 1
  | .held _ => 1
def uptoBulkAll {H : Type} : List (DataW H) → Nat
  | [] => 0
  | d :: r => uptoBulk d + uptoBulkAll r
def uptoBulkEntries {H : Type} : List (Lit × DataW H) → Nat
  | [] => 0
  | x :: r => uptoBulkEntry x + uptoBulkEntries r
def uptoBulkEntry {H : Type} : Lit × DataW H → Nat
  | (.string bytes, d) => bytes.length + uptoBulk d + 1
  | (_, d) => uptoBulk d + 1
 end
def uptoSmall : (H : Type) → List (DataW H) → Bool := fun _ ds => decide (uptoBulkAll ds ≤ 1048576)
def OpenSpec.upto (s : _root_.Go.ChangeSpec) : _root_.Go.OpenSpec := { _root_.Go.OpenSpec.ofChange s with cond := some uptoSmall }

/-- 'consollaw24.FactNow', WHERE WHAT IT READS IS OF BULK AT MOST 1048576: true; the input reads as it did. -/
def factNowUptoRow : OpenClaim := { program := "ytnpnjaeobdapcaa", sum := "5607f25244460875708428240111c943f4598be07b270d59f4330a20cd4195f6", func := "consol/consollaw24.FactNow", spec := "factNow", unfollowed := true, recurses := true, apart := false, narrowed := true }
def FactNowUptoSaid : Prop := factNowUptoRow.holds Try.pinned (OpenSpec.upto factNowSpec)

/-- 'consollaw24.FactMore', WHERE WHAT IT READS IS OF BULK AT MOST 1048576: true; the input reads as it did. -/
def factMoreUptoRow : OpenClaim := { program := "ytnpnjaeobdapcaa", sum := "5607f25244460875708428240111c943f4598be07b270d59f4330a20cd4195f6", func := "consol/consollaw24.FactMore", spec := "factMore", unfollowed := true, recurses := true, apart := false, narrowed := true }
def FactMoreUptoSaid : Prop := factMoreUptoRow.holds Try.pinned (OpenSpec.upto factMoreSpec)

/-- 'consollaw24.FactTells', WHERE WHAT IT READS IS OF BULK AT MOST 1048576: true; the input reads as it did. -/
def factTellsUptoRow : OpenClaim := { program := "ytnpnjaeobdapcaa", sum := "5607f25244460875708428240111c943f4598be07b270d59f4330a20cd4195f6", func := "consol/consollaw24.FactTells", spec := "factTells", unfollowed := true, recurses := true, apart := false, narrowed := true }
def FactTellsUptoSaid : Prop := factTellsUptoRow.holds Try.pinned (OpenSpec.upto factTellsSpec)

/-- 'consollaw24.FactKnown', WHERE WHAT IT READS IS OF BULK AT MOST 1048576: true; the input reads as it did. -/
def factKnownUptoRow : OpenClaim := { program := "ytnpnjaeobdapcaa", sum := "5607f25244460875708428240111c943f4598be07b270d59f4330a20cd4195f6", func := "consol/consollaw24.FactKnown", spec := "factKnown", unfollowed := true, recurses := true, apart := false, narrowed := true }
def FactKnownUptoSaid : Prop := factKnownUptoRow.holds Try.pinned (OpenSpec.upto factKnownSpec)

end Rows
end Go.Proofs.Ytnpnjaeobdapcaa
