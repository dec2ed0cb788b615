/-
  No cell of these rows narrows 'for every input' (looked for: loops, veiled, ifaces, maps, wideKeys, modest, calm, conditions, laid).
  DERIVED. THE GIVEN ROWS OF THIS SEAT. 5 by the template 'for every input the law returns true; each argument reads behind the call as it read before'; 0 by the template 'total and deterministic' (their statements: YtpkendnpabjgoaaTotals.lean).
  GIVEN WITH THE SEED: the statements are not yours to turn. If you find one false, say at which input.
  Laid BY PROGRAM, IN A SANDBOX (cutbox-rows.mjs): the forced cells as the released guide's own fill.sh prints them over the translation 466d1e08c639cb98… (all of the seat's roots in one cut). By AI agents, Wed Nov 11 2026. No macro, syntax, notation, axiom, sorry.
-/
import Derived.Test.YtpkendnpabjgoaaChecked
import GoSem.Claim
import GoSem.ClaimJoined
import GoSem.ClaimMapViews
import Derived.JoinedTies
import Derived.KernelRfl
namespace Go.Proofs.Ytpkendnpabjgoaa
/- THE CELL 'sum', in the pinned program and in every row, IS THE sha256 OF THE DUMP (.gsa) THAT YtpkendnpabjgoaaProg.lean LOADS. Nothing in Lean hashes anything: it is a label: what it is worth is what the hold of that sum in a sandbox is worth. -/
noncomputable def Try.pinned : Pinned := { name := "ytpkendnpabjgoaa", sum := "466d1e08c639cb9864ee1f0fa7e97a9129bb578bba7c82e052f3c032d63145bb", checked := Try.checked }
namespace Rows
def none {H : Type} : Left H := { results := [], args := [] }

/-- 'consollaw29.RestateTells': WHATEVER THE INPUT: true; the input reads as it did. -/
def restateTellsSpec : ChangeSpec := { name := "restateTells", fn := fun _ => fun
  | [d1, d2, d3, d4, d5] => { results := [.lit (.bool true)], args := [d1, d2, d3, d4, d5] }
  | _ => none }
def restateTellsRow : OpenClaim := { program := "ytpkendnpabjgoaa", sum := "466d1e08c639cb9864ee1f0fa7e97a9129bb578bba7c82e052f3c032d63145bb", func := "consol/consollaw29.RestateTells", spec := "restateTells", unfollowed := true, recurses := true, apart := false }
def RestateTellsSaid : Prop := restateTellsRow.holds Try.pinned (OpenSpec.ofChange restateTellsSpec)

/-- ITS FALSE NEIGHBOUR: 'it returns false'. Refute it at one input. -/
def restateTellsWrong : ChangeSpec := { name := "restateTells", fn := fun _ => fun
  | [d1, d2, d3, d4, d5] => { results := [.lit (.bool false)], args := [d1, d2, d3, d4, d5] }
  | _ => none }
def RestateTellsWrongFalsely : Prop := restateTellsRow.holds Try.pinned (OpenSpec.ofChange restateTellsWrong)

/-- 'consollaw29.RestateCloses': WHATEVER THE INPUT: true; the input reads as it did. -/
def restateClosesSpec : ChangeSpec := { name := "restateCloses", fn := fun _ => fun
  | [d1, d2, d3] => { results := [.lit (.bool true)], args := [d1, d2, d3] }
  | _ => none }
def restateClosesRow : OpenClaim := { program := "ytpkendnpabjgoaa", sum := "466d1e08c639cb9864ee1f0fa7e97a9129bb578bba7c82e052f3c032d63145bb", func := "consol/consollaw29.RestateCloses", spec := "restateCloses", unfollowed := true, recurses := true, apart := false }
def RestateClosesSaid : Prop := restateClosesRow.holds Try.pinned (OpenSpec.ofChange restateClosesSpec)

/-- ITS FALSE NEIGHBOUR: 'it returns false'. Refute it at one input. -/
def restateClosesWrong : ChangeSpec := { name := "restateCloses", fn := fun _ => fun
  | [d1, d2, d3] => { results := [.lit (.bool false)], args := [d1, d2, d3] }
  | _ => none }
def RestateClosesWrongFalsely : Prop := restateClosesRow.holds Try.pinned (OpenSpec.ofChange restateClosesWrong)

/-- 'consollaw29.RestateKeeps': WHATEVER THE INPUT: true; the input reads as it did. -/
def restateKeepsSpec : ChangeSpec := { name := "restateKeeps", fn := fun _ => fun
  | [d1, d2, d3, d4] => { results := [.lit (.bool true)], args := [d1, d2, d3, d4] }
  | _ => none }
def restateKeepsRow : OpenClaim := { program := "ytpkendnpabjgoaa", sum := "466d1e08c639cb9864ee1f0fa7e97a9129bb578bba7c82e052f3c032d63145bb", func := "consol/consollaw29.RestateKeeps", spec := "restateKeeps", unfollowed := true, recurses := true, apart := false }
def RestateKeepsSaid : Prop := restateKeepsRow.holds Try.pinned (OpenSpec.ofChange restateKeepsSpec)

/-- ITS FALSE NEIGHBOUR: 'it returns false'. Refute it at one input. -/
def restateKeepsWrong : ChangeSpec := { name := "restateKeeps", fn := fun _ => fun
  | [d1, d2, d3, d4] => { results := [.lit (.bool false)], args := [d1, d2, d3, d4] }
  | _ => none }
def RestateKeepsWrongFalsely : Prop := restateKeepsRow.holds Try.pinned (OpenSpec.ofChange restateKeepsWrong)

/-- 'consollaw29.RestateBalances': WHATEVER THE INPUT: true; the input reads as it did. -/
def restateBalancesSpec : ChangeSpec := { name := "restateBalances", fn := fun _ => fun
  | [d1, d2, d3] => { results := [.lit (.bool true)], args := [d1, d2, d3] }
  | _ => none }
def restateBalancesRow : OpenClaim := { program := "ytpkendnpabjgoaa", sum := "466d1e08c639cb9864ee1f0fa7e97a9129bb578bba7c82e052f3c032d63145bb", func := "consol/consollaw29.RestateBalances", spec := "restateBalances", unfollowed := true, recurses := true, apart := false }
def RestateBalancesSaid : Prop := restateBalancesRow.holds Try.pinned (OpenSpec.ofChange restateBalancesSpec)

/-- ITS FALSE NEIGHBOUR: 'it returns false'. Refute it at one input. -/
def restateBalancesWrong : ChangeSpec := { name := "restateBalances", fn := fun _ => fun
  | [d1, d2, d3] => { results := [.lit (.bool false)], args := [d1, d2, d3] }
  | _ => none }
def RestateBalancesWrongFalsely : Prop := restateBalancesRow.holds Try.pinned (OpenSpec.ofChange restateBalancesWrong)

/-- 'consollaw29.RestateFaith': WHATEVER THE INPUT: true; the input reads as it did. -/
def restateFaithSpec : ChangeSpec := { name := "restateFaith", fn := fun _ => fun
  | [d1, d2, d3, d4] => { results := [.lit (.bool true)], args := [d1, d2, d3, d4] }
  | _ => none }
def restateFaithRow : OpenClaim := { program := "ytpkendnpabjgoaa", sum := "466d1e08c639cb9864ee1f0fa7e97a9129bb578bba7c82e052f3c032d63145bb", func := "consol/consollaw29.RestateFaith", spec := "restateFaith", unfollowed := true, recurses := true, apart := false }
def RestateFaithSaid : Prop := restateFaithRow.holds Try.pinned (OpenSpec.ofChange restateFaithSpec)

/-- ITS FALSE NEIGHBOUR: 'it returns false'. Refute it at one input. -/
def restateFaithWrong : ChangeSpec := { name := "restateFaith", fn := fun _ => fun
  | [d1, d2, d3, d4] => { results := [.lit (.bool false)], args := [d1, d2, d3, d4] }
  | _ => none }
def RestateFaithWrongFalsely : Prop := restateFaithRow.holds Try.pinned (OpenSpec.ofChange restateFaithWrong)

/- THE SECOND FORM. 'bulk': how many values and letters a reading holds, each counted each time it is reached (what is shared counts as often as it is met; a slice's spare places count too). A statement '..UptoSaid' is the law's where the arguments, and the package variables that the reading takes, are together of bulk at most 1048576: NARROWER than '..Said'. Prove '..Said' where nothing that the law and all that it calls make is longer than what came in: it says more and counts as full. Else prove '..UptoSaid'. A law counts once. -/
mutual
def uptoBulk {H : Type} : DataW H → Nat
  | .lit (.string bytes) => bytes.length + 1
  | .lit _ => 1
  | .nil => 1
  | .ptr d => uptoBulk d + 1
  | .slice elems spare => uptoBulkAll elems + uptoBulkAll spare + 1
  | .agg parts => uptoBulkAll parts + 1
  | .iface _ d => uptoBulk d + 1
  | .map entries => uptoBulkEntries entries + 1
  | .held _ => 1
def uptoBulkAll {H : Type} : List (DataW H) → Nat
  | [] => 0
  | d :: r => uptoBulk d + uptoBulkAll r
def uptoBulkEntries {H : Type} : List (Lit × DataW H) → Nat
  | [] => 0
  | x :: r => uptoBulkEntry x + uptoBulkEntries r
def uptoBulkEntry {H : Type} : Lit × DataW H → Nat
  | (.string bytes, d) => bytes.length + uptoBulk d + 1
  | (_, d) => uptoBulk d + 1
 end
def uptoSmall : (H : Type) → List (DataW H) → Bool := fun _ ds => decide (uptoBulkAll ds ≤ 1048576)
def OpenSpec.upto (s : _root_.Go.ChangeSpec) : _root_.Go.OpenSpec := { _root_.Go.OpenSpec.ofChange s with cond := some uptoSmall }

/-- 'consollaw29.RestateTells', WHERE WHAT IT READS IS OF BULK AT MOST 1048576: true; the input reads as it did. -/
def restateTellsUptoRow : OpenClaim := { program := "ytpkendnpabjgoaa", sum := "466d1e08c639cb9864ee1f0fa7e97a9129bb578bba7c82e052f3c032d63145bb", func := "consol/consollaw29.RestateTells", spec := "restateTells", unfollowed := true, recurses := true, apart := false, narrowed := true }
def RestateTellsUptoSaid : Prop := restateTellsUptoRow.holds Try.pinned (OpenSpec.upto restateTellsSpec)

/-- 'consollaw29.RestateCloses', WHERE WHAT IT READS IS OF BULK AT MOST 1048576: true; the input reads as it did. -/
def restateClosesUptoRow : OpenClaim := { program := "ytpkendnpabjgoaa", sum := "466d1e08c639cb9864ee1f0fa7e97a9129bb578bba7c82e052f3c032d63145bb", func := "consol/consollaw29.RestateCloses", spec := "restateCloses", unfollowed := true, recurses := true, apart := false, narrowed := true }
def RestateClosesUptoSaid : Prop := restateClosesUptoRow.holds Try.pinned (OpenSpec.upto restateClosesSpec)

/-- 'consollaw29.RestateKeeps', WHERE WHAT IT READS IS OF BULK AT MOST 1048576: true; the input reads as it did. -/
def restateKeepsUptoRow : OpenClaim := { program := "ytpkendnpabjgoaa", sum := "466d1e08c639cb9864ee1f0fa7e97a9129bb578bba7c82e052f3c032d63145bb", func := "consol/consollaw29.RestateKeeps", spec := "restateKeeps", unfollowed := true, recurses := true, apart := false, narrowed := true }
def RestateKeepsUptoSaid : Prop := restateKeepsUptoRow.holds Try.pinned (OpenSpec.upto restateKeepsSpec)

/-- 'consollaw29.RestateBalances', WHERE WHAT IT READS IS OF BULK AT MOST 1048576: true; the input reads as it did. -/
def restateBalancesUptoRow : OpenClaim := { program := "ytpkendnpabjgoaa", sum := "466d1e08c639cb9864ee1f0fa7e97a9129bb578bba7c82e052f3c032d63145bb", func := "consol/consollaw29.RestateBalances", spec := "restateBalances", unfollowed := true, recurses := true, apart := false, narrowed := true }
def RestateBalancesUptoSaid : Prop := restateBalancesUptoRow.holds Try.pinned (OpenSpec.upto restateBalancesSpec)

/-- 'consollaw29.RestateFaith', WHERE WHAT IT READS IS OF BULK AT MOST 1048576: true; the input reads as it did. -/
def restateFaithUptoRow : OpenClaim := { program := "ytpkendnpabjgoaa", sum := "466d1e08c639cb9864ee1f0fa7e97a9129bb578bba7c82e052f3c032d63145bb", func := "consol/consollaw29.RestateFaith", spec := "restateFaith", unfollowed := true, recurses := true, apart := false, narrowed := true }
def RestateFaithUptoSaid : Prop := restateFaithUptoRow.holds Try.pinned (OpenSpec.upto restateFaithSpec)

end Rows
end Go.Proofs.Ytpkendnpabjgoaa
