/-
  No cell of these rows narrows 'for every input' (looked for: loops, veiled, ifaces, maps, wideKeys, modest, calm, conditions, laid).
  DERIVED. THE GIVEN ROWS OF THIS SEAT. 5 by the template 'for every input the law returns true; each argument reads behind the call as it read before'; 0 by the template 'total and deterministic' (their statements: YtkldidgcgioceaaTotals.lean).
  GIVEN WITH THE SEED: the statements are not yours to turn. If you find one false, say at which input.
  Laid BY PROGRAM, IN A SANDBOX (cutbox-rows.mjs): the forced cells as the released guide's own fill.sh prints them over the translation b5b437a9f5def6b8… (all of the seat's roots in one cut). By AI agents, Wed Nov 11 2026. No macro, syntax, notation, axiom, sorry.
-/
import Derived.Test.YtkldidgcgioceaaChecked
import GoSem.Claim
import GoSem.ClaimJoined
import GoSem.ClaimMapViews
import Derived.JoinedTies
import Derived.KernelRfl
namespace Go.Proofs.Ytkldidgcgioceaa
/- THE CELL 'sum', in the pinned program and in every row, IS THE sha256 OF THE DUMP (.gsa) THAT YtkldidgcgioceaaProg.lean LOADS. Nothing in Lean hashes anything: it is a label: what it is worth is what the hold of that sum in a sandbox is worth. -/
noncomputable def Try.pinned : Pinned := { name := "ytkldidgcgioceaa", sum := "b5b437a9f5def6b87175b4a0b1e68f55cdb491ffa8fbf3e07d7b0acc68a11bbb", checked := Try.checked }
namespace Rows
def none {H : Type} : Left H := { results := [], args := [] }

/-- 'consollaw28.CrossTells': WHATEVER THE INPUT: true; the input reads as it did. -/
def crossTellsSpec : ChangeSpec := { name := "crossTells", fn := fun _ => fun
  | [d1, d2, d3] => { results := [.lit (.bool true)], args := [d1, d2, d3] }
  | _ => none }
def crossTellsRow : OpenClaim := { program := "ytkldidgcgioceaa", sum := "b5b437a9f5def6b87175b4a0b1e68f55cdb491ffa8fbf3e07d7b0acc68a11bbb", func := "consol/consollaw28.CrossTells", spec := "crossTells", unfollowed := true, recurses := true, apart := false }
def CrossTellsSaid : Prop := crossTellsRow.holds Try.pinned (OpenSpec.ofChange crossTellsSpec)

/-- ITS FALSE NEIGHBOUR: 'it returns false'. Refute it at one input. -/
def crossTellsWrong : ChangeSpec := { name := "crossTells", fn := fun _ => fun
  | [d1, d2, d3] => { results := [.lit (.bool false)], args := [d1, d2, d3] }
  | _ => none }
def CrossTellsWrongFalsely : Prop := crossTellsRow.holds Try.pinned (OpenSpec.ofChange crossTellsWrong)

/-- 'consollaw28.CrossOnly': WHATEVER THE INPUT: true; the input reads as it did. -/
def crossOnlySpec : ChangeSpec := { name := "crossOnly", fn := fun _ => fun
  | [d1, d2] => { results := [.lit (.bool true)], args := [d1, d2] }
  | _ => none }
def crossOnlyRow : OpenClaim := { program := "ytkldidgcgioceaa", sum := "b5b437a9f5def6b87175b4a0b1e68f55cdb491ffa8fbf3e07d7b0acc68a11bbb", func := "consol/consollaw28.CrossOnly", spec := "crossOnly", unfollowed := true, recurses := true, apart := false }
def CrossOnlySaid : Prop := crossOnlyRow.holds Try.pinned (OpenSpec.ofChange crossOnlySpec)

/-- ITS FALSE NEIGHBOUR: 'it returns false'. Refute it at one input. -/
def crossOnlyWrong : ChangeSpec := { name := "crossOnly", fn := fun _ => fun
  | [d1, d2] => { results := [.lit (.bool false)], args := [d1, d2] }
  | _ => none }
def CrossOnlyWrongFalsely : Prop := crossOnlyRow.holds Try.pinned (OpenSpec.ofChange crossOnlyWrong)

/-- 'consollaw28.CrossChain': WHATEVER THE INPUT: true; the input reads as it did. -/
def crossChainSpec : ChangeSpec := { name := "crossChain", fn := fun _ => fun
  | [d] => { results := [.lit (.bool true)], args := [d] }
  | _ => none }
def crossChainRow : OpenClaim := { program := "ytkldidgcgioceaa", sum := "b5b437a9f5def6b87175b4a0b1e68f55cdb491ffa8fbf3e07d7b0acc68a11bbb", func := "consol/consollaw28.CrossChain", spec := "crossChain", unfollowed := true, recurses := true, apart := false }
def CrossChainSaid : Prop := crossChainRow.holds Try.pinned (OpenSpec.ofChange crossChainSpec)

/-- ITS FALSE NEIGHBOUR: 'it returns false'. Refute it at one input. -/
def crossChainWrong : ChangeSpec := { name := "crossChain", fn := fun _ => fun
  | [d] => { results := [.lit (.bool false)], args := [d] }
  | _ => none }
def CrossChainWrongFalsely : Prop := crossChainRow.holds Try.pinned (OpenSpec.ofChange crossChainWrong)

/-- 'consollaw28.CrossLess': WHATEVER THE INPUT: true; the input reads as it did. -/
def crossLessSpec : ChangeSpec := { name := "crossLess", fn := fun _ => fun
  | [d1, d2, d3, d4] => { results := [.lit (.bool true)], args := [d1, d2, d3, d4] }
  | _ => none }
def crossLessRow : OpenClaim := { program := "ytkldidgcgioceaa", sum := "b5b437a9f5def6b87175b4a0b1e68f55cdb491ffa8fbf3e07d7b0acc68a11bbb", func := "consol/consollaw28.CrossLess", spec := "crossLess", unfollowed := true, recurses := true, apart := false }
def CrossLessSaid : Prop := crossLessRow.holds Try.pinned (OpenSpec.ofChange crossLessSpec)

/-- ITS FALSE NEIGHBOUR: 'it returns false'. Refute it at one input. -/
def crossLessWrong : ChangeSpec := { name := "crossLess", fn := fun _ => fun
  | [d1, d2, d3, d4] => { results := [.lit (.bool false)], args := [d1, d2, d3, d4] }
  | _ => none }
def CrossLessWrongFalsely : Prop := crossLessRow.holds Try.pinned (OpenSpec.ofChange crossLessWrong)

/-- 'consollaw28.CrossIssuers': WHATEVER THE INPUT: true; the input reads as it did. -/
def crossIssuersSpec : ChangeSpec := { name := "crossIssuers", fn := fun _ => fun
  | [d1, d2, d3] => { results := [.lit (.bool true)], args := [d1, d2, d3] }
  | _ => none }
def crossIssuersRow : OpenClaim := { program := "ytkldidgcgioceaa", sum := "b5b437a9f5def6b87175b4a0b1e68f55cdb491ffa8fbf3e07d7b0acc68a11bbb", func := "consol/consollaw28.CrossIssuers", spec := "crossIssuers", unfollowed := true, recurses := true, apart := false }
def CrossIssuersSaid : Prop := crossIssuersRow.holds Try.pinned (OpenSpec.ofChange crossIssuersSpec)

/-- ITS FALSE NEIGHBOUR: 'it returns false'. Refute it at one input. -/
def crossIssuersWrong : ChangeSpec := { name := "crossIssuers", fn := fun _ => fun
  | [d1, d2, d3] => { results := [.lit (.bool false)], args := [d1, d2, d3] }
  | _ => none }
def CrossIssuersWrongFalsely : Prop := crossIssuersRow.holds Try.pinned (OpenSpec.ofChange crossIssuersWrong)

/- THE SECOND FORM. 'bulk': how many values and letters a reading holds, each counted each time it is reached (what is shared counts as often as it is met; a slice's spare places count too). A statement '..UptoSaid' is the law's where the arguments, and the package variables that the reading takes, are together of bulk at most 1048576: NARROWER than '..Said'. Prove '..Said' where nothing that the law and all that it calls make is longer than what came in: it says more and counts as full. Else prove '..UptoSaid'. A law counts once. -/
mutual
def uptoBulk {H : Type} : DataW H → Nat
  | .lit (.string bytes) => bytes.length + 1
  | .lit _ => 1
  | .nil => 1
  | .ptr d => uptoBulk d + 1
  | .slice elems spare => uptoBulkAll elems + uptoBulkAll spare + 1
  | .agg parts => uptoBulkAll parts + 1
  | .iface _ d => uptoBulk d + 1
  | .map entries => uptoBulkEntries entries + 1
  | .held _ => 1
def uptoBulkAll {H : Type} : List (DataW H) → Nat
  | [] => 0
  | d :: r => uptoBulk d + uptoBulkAll r
def uptoBulkEntries {H : Type} : List (Lit × DataW H) → Nat
  | [] => 0
  | x :: r => uptoBulkEntry x + uptoBulkEntries r
def uptoBulkEntry {H : Type} : Lit × DataW H → Nat
  | (.string bytes, d) => bytes.length + uptoBulk d + 1
  | (_, d) => uptoBulk d + 1
 end
def uptoSmall : (H : Type) → List (DataW H) → Bool := fun _ ds => decide (uptoBulkAll ds ≤ 1048576)
def OpenSpec.upto (s : _root_.Go.ChangeSpec) : _root_.Go.OpenSpec := { _root_.Go.OpenSpec.ofChange s with cond := some uptoSmall }

/-- 'consollaw28.CrossTells', WHERE WHAT IT READS IS OF BULK AT MOST 1048576: true; the input reads as it did. -/
def crossTellsUptoRow : OpenClaim := { program := "ytkldidgcgioceaa", sum := "b5b437a9f5def6b87175b4a0b1e68f55cdb491ffa8fbf3e07d7b0acc68a11bbb", func := "consol/consollaw28.CrossTells", spec := "crossTells", unfollowed := true, recurses := true, apart := false, narrowed := true }
def CrossTellsUptoSaid : Prop := crossTellsUptoRow.holds Try.pinned (OpenSpec.upto crossTellsSpec)

/-- 'consollaw28.CrossOnly', WHERE WHAT IT READS IS OF BULK AT MOST 1048576: true; the input reads as it did. -/
def crossOnlyUptoRow : OpenClaim := { program := "ytkldidgcgioceaa", sum := "b5b437a9f5def6b87175b4a0b1e68f55cdb491ffa8fbf3e07d7b0acc68a11bbb", func := "consol/consollaw28.CrossOnly", spec := "crossOnly", unfollowed := true, recurses := true, apart := false, narrowed := true }
def CrossOnlyUptoSaid : Prop := crossOnlyUptoRow.holds Try.pinned (OpenSpec.upto crossOnlySpec)

/-- 'consollaw28.CrossChain', WHERE WHAT IT READS IS OF BULK AT MOST 1048576: true; the input reads as it did. -/
def crossChainUptoRow : OpenClaim := { program := "ytkldidgcgioceaa", sum := "b5b437a9f5def6b87175b4a0b1e68f55cdb491ffa8fbf3e07d7b0acc68a11bbb", func := "consol/consollaw28.CrossChain", spec := "crossChain", unfollowed := true, recurses := true, apart := false, narrowed := true }
def CrossChainUptoSaid : Prop := crossChainUptoRow.holds Try.pinned (OpenSpec.upto crossChainSpec)

/-- 'consollaw28.CrossLess', WHERE WHAT IT READS IS OF BULK AT MOST 1048576: true; the input reads as it did. -/
def crossLessUptoRow : OpenClaim := { program := "ytkldidgcgioceaa", sum := "b5b437a9f5def6b87175b4a0b1e68f55cdb491ffa8fbf3e07d7b0acc68a11bbb", func := "consol/consollaw28.CrossLess", spec := "crossLess", unfollowed := true, recurses := true, apart := false, narrowed := true }
def CrossLessUptoSaid : Prop := crossLessUptoRow.holds Try.pinned (OpenSpec.upto crossLessSpec)

/-- 'consollaw28.CrossIssuers', WHERE WHAT IT READS IS OF BULK AT MOST 1048576: true; the input reads as it did. -/
def crossIssuersUptoRow : OpenClaim := { program := "ytkldidgcgioceaa", sum := "b5b437a9f5def6b87175b4a0b1e68f55cdb491ffa8fbf3e07d7b0acc68a11bbb", func := "consol/consollaw28.CrossIssuers", spec := "crossIssuers", unfollowed := true, recurses := true, apart := false, narrowed := true }
def CrossIssuersUptoSaid : Prop := crossIssuersUptoRow.holds Try.pinned (OpenSpec.upto crossIssuersSpec)

end Rows
end Go.Proofs.Ytkldidgcgioceaa
