/-
  NARROWER THAN 'FOR EVERY INPUT', by the rows' own cells (each row's printed sentence says how): FavourTells: loops · FavourLeast: loops · FavourChains: loops · FavourMore: loops · FavourAlone: loops.
  DERIVED. THE GIVEN ROWS OF THIS SEAT. 5 by the template 'for every input the law returns true; each argument reads behind the call as it read before'; 0 by the template 'total and deterministic' (their statements: YtcabodhhdeecgaaTotals.lean).
  GIVEN WITH THE SEED: the statements are not yours to turn. If you find one false, say at which input.
  Laid BY PROGRAM, IN A SANDBOX (cutbox-rows.mjs): the forced cells as the released guide's own fill.sh prints them over the translation 7d5f3d3f63e5455d… (all of the seat's roots in one cut). By AI agents, Wed Nov 11 2026. No macro, syntax, notation, axiom, sorry.
-/
import Derived.Test.YtcabodhhdeecgaaChecked
import GoSem.Claim
import GoSem.ClaimJoined
import GoSem.ClaimMapViews
import Derived.JoinedTies
import Derived.KernelRfl
namespace Go.Proofs.Ytcabodhhdeecgaa
/- THE CELL 'sum', in the pinned program and in every row, IS THE sha256 OF THE DUMP (.gsa) THAT YtcabodhhdeecgaaProg.lean LOADS. Nothing in Lean hashes anything: it is a label: what it is worth is what the hold of that sum in a sandbox is worth. -/
noncomputable def Try.pinned : Pinned := { name := "ytcabodhhdeecgaa", sum := "7d5f3d3f63e5455d18ff8667324985cbbe961352a80ac731903d51398f0547c5", checked := Try.checked }
namespace Rows
def none {H : Type} : Left H := { results := [], args := [] }

/-- 'consollaw18.FavourTells': WHATEVER THE INPUT: true; the input reads as it did. -/
def favourTellsSpec : ChangeSpec := { name := "favourTells", fn := fun _ => fun
  | [d1, d2] => { results := [.lit (.bool true)], args := [d1, d2] }
  | _ => none }
def favourTellsRow : OpenClaim := { program := "ytcabodhhdeecgaa", sum := "7d5f3d3f63e5455d18ff8667324985cbbe961352a80ac731903d51398f0547c5", func := "consol/consollaw18.FavourTells", spec := "favourTells", recurses := true, loops := true, apart := false }
def FavourTellsSaid : Prop := favourTellsRow.holds Try.pinned (OpenSpec.ofChange favourTellsSpec)

/-- ITS FALSE NEIGHBOUR: 'it returns false'. Refute it at one input. -/
def favourTellsWrong : ChangeSpec := { name := "favourTells", fn := fun _ => fun
  | [d1, d2] => { results := [.lit (.bool false)], args := [d1, d2] }
  | _ => none }
def FavourTellsWrongFalsely : Prop := favourTellsRow.holds Try.pinned (OpenSpec.ofChange favourTellsWrong)

/-- 'consollaw18.FavourLeast': WHATEVER THE INPUT: true; the input reads as it did. -/
def favourLeastSpec : ChangeSpec := { name := "favourLeast", fn := fun _ => fun
  | [d1, d2] => { results := [.lit (.bool true)], args := [d1, d2] }
  | _ => none }
def favourLeastRow : OpenClaim := { program := "ytcabodhhdeecgaa", sum := "7d5f3d3f63e5455d18ff8667324985cbbe961352a80ac731903d51398f0547c5", func := "consol/consollaw18.FavourLeast", spec := "favourLeast", recurses := true, loops := true, apart := false }
def FavourLeastSaid : Prop := favourLeastRow.holds Try.pinned (OpenSpec.ofChange favourLeastSpec)

/-- ITS FALSE NEIGHBOUR: 'it returns false'. Refute it at one input. -/
def favourLeastWrong : ChangeSpec := { name := "favourLeast", fn := fun _ => fun
  | [d1, d2] => { results := [.lit (.bool false)], args := [d1, d2] }
  | _ => none }
def FavourLeastWrongFalsely : Prop := favourLeastRow.holds Try.pinned (OpenSpec.ofChange favourLeastWrong)

/-- 'consollaw18.FavourChains': WHATEVER THE INPUT: true; the input reads as it did. -/
def favourChainsSpec : ChangeSpec := { name := "favourChains", fn := fun _ => fun
  | [d1, d2] => { results := [.lit (.bool true)], args := [d1, d2] }
  | _ => none }
def favourChainsRow : OpenClaim := { program := "ytcabodhhdeecgaa", sum := "7d5f3d3f63e5455d18ff8667324985cbbe961352a80ac731903d51398f0547c5", func := "consol/consollaw18.FavourChains", spec := "favourChains", recurses := true, loops := true, apart := false }
def FavourChainsSaid : Prop := favourChainsRow.holds Try.pinned (OpenSpec.ofChange favourChainsSpec)

/-- ITS FALSE NEIGHBOUR: 'it returns false'. Refute it at one input. -/
def favourChainsWrong : ChangeSpec := { name := "favourChains", fn := fun _ => fun
  | [d1, d2] => { results := [.lit (.bool false)], args := [d1, d2] }
  | _ => none }
def FavourChainsWrongFalsely : Prop := favourChainsRow.holds Try.pinned (OpenSpec.ofChange favourChainsWrong)

/-- 'consollaw18.FavourMore': WHATEVER THE INPUT: true; the input reads as it did. -/
def favourMoreSpec : ChangeSpec := { name := "favourMore", fn := fun _ => fun
  | [d1, d2, d3, d4, d5] => { results := [.lit (.bool true)], args := [d1, d2, d3, d4, d5] }
  | _ => none }
def favourMoreRow : OpenClaim := { program := "ytcabodhhdeecgaa", sum := "7d5f3d3f63e5455d18ff8667324985cbbe961352a80ac731903d51398f0547c5", func := "consol/consollaw18.FavourMore", spec := "favourMore", recurses := true, loops := true, apart := false }
def FavourMoreSaid : Prop := favourMoreRow.holds Try.pinned (OpenSpec.ofChange favourMoreSpec)

/-- ITS FALSE NEIGHBOUR: 'it returns false'. Refute it at one input. -/
def favourMoreWrong : ChangeSpec := { name := "favourMore", fn := fun _ => fun
  | [d1, d2, d3, d4, d5] => { results := [.lit (.bool false)], args := [d1, d2, d3, d4, d5] }
  | _ => none }
def FavourMoreWrongFalsely : Prop := favourMoreRow.holds Try.pinned (OpenSpec.ofChange favourMoreWrong)

/-- 'consollaw18.FavourAlone': WHATEVER THE INPUT: true; the input reads as it did. -/
def favourAloneSpec : ChangeSpec := { name := "favourAlone", fn := fun _ => fun
  | [d1, d2, d3] => { results := [.lit (.bool true)], args := [d1, d2, d3] }
  | _ => none }
def favourAloneRow : OpenClaim := { program := "ytcabodhhdeecgaa", sum := "7d5f3d3f63e5455d18ff8667324985cbbe961352a80ac731903d51398f0547c5", func := "consol/consollaw18.FavourAlone", spec := "favourAlone", recurses := true, loops := true, apart := false }
def FavourAloneSaid : Prop := favourAloneRow.holds Try.pinned (OpenSpec.ofChange favourAloneSpec)

/-- ITS FALSE NEIGHBOUR: 'it returns false'. Refute it at one input. -/
def favourAloneWrong : ChangeSpec := { name := "favourAlone", fn := fun _ => fun
  | [d1, d2, d3] => { results := [.lit (.bool false)], args := [d1, d2, d3] }
  | _ => none }
def FavourAloneWrongFalsely : Prop := favourAloneRow.holds Try.pinned (OpenSpec.ofChange favourAloneWrong)

/- THE SECOND FORM. 'bulk': how many values and letters a reading holds, each counted each time it is reached (what is shared counts as often as it is met; a slice's spare places count too). A statement '..UptoSaid' is the law's where the arguments, and the package variables that the reading takes, are together of bulk at most 1048576: NARROWER than '..Said'. Prove '..Said' where nothing that the law and all that it calls make is longer than what came in: it says more and counts as full. Else prove '..UptoSaid'. A law counts once. -/
mutual
def uptoBulk {H : Type} : DataW H → Nat
  | .lit (.string bytes) => bytes.length + 1
  | .lit _ => 1
  | .nil => 1
  | .ptr d => uptoBulk d + 1
  | .slice elems spare => uptoBulkAll elems + uptoBulkAll spare + 1
  | .agg parts => uptoBulkAll parts + 1
  | .iface _ d => uptoBulk d + 1
  | .map entries => uptoBulkEntries entries + 1
  | .held _ => 1
def uptoBulkAll {H : Type} : List (DataW H) → Nat
  | [] => 0
  | d :: r => uptoBulk d + uptoBulkAll r
def uptoBulkEntries {H : Type} : List (Lit × DataW H) → Nat
  | [] => 0
  | x :: r => uptoBulkEntry x + uptoBulkEntries r
def uptoBulkEntry {H : Type} : Lit × DataW H → Nat
  | (.string bytes, d) => bytes.length + uptoBulk d + 1
  | (_, d) => uptoBulk d + 1
 end
def uptoSmall : (H : Type) → List (DataW H) → Bool := fun _ ds => decide (uptoBulkAll ds ≤ 1048576)
def OpenSpec.upto (s : _root_.Go.ChangeSpec) : _root_.Go.OpenSpec := { _root_.Go.OpenSpec.ofChange s with cond := some uptoSmall }

/-- 'consollaw18.FavourTells', WHERE WHAT IT READS IS OF BULK AT MOST 1048576: true; the input reads as it did. -/
def favourTellsUptoRow : OpenClaim := { program := "ytcabodhhdeecgaa", sum := "7d5f3d3f63e5455d18ff8667324985cbbe961352a80ac731903d51398f0547c5", func := "consol/consollaw18.FavourTells", spec := "favourTells", recurses := true, loops := true, apart := false, narrowed := true }
def FavourTellsUptoSaid : Prop := favourTellsUptoRow.holds Try.pinned (OpenSpec.upto favourTellsSpec)

/-- 'consollaw18.FavourLeast', WHERE WHAT IT READS IS OF BULK AT MOST 1048576: true; the input reads as it did. -/
def favourLeastUptoRow : OpenClaim := { program := "ytcabodhhdeecgaa", sum := "7d5f3d3f63e5455d18ff8667324985cbbe961352a80ac731903d51398f0547c5", func := "consol/consollaw18.FavourLeast", spec := "favourLeast", recurses := true, loops := true, apart := false, narrowed := true }
def FavourLeastUptoSaid : Prop := favourLeastUptoRow.holds Try.pinned (OpenSpec.upto favourLeastSpec)

/-- 'consollaw18.FavourChains', WHERE WHAT IT READS IS OF BULK AT MOST 1048576: true; the input reads as it did. -/
def favourChainsUptoRow : OpenClaim := { program := "ytcabodhhdeecgaa", sum := "7d5f3d3f63e5455d18ff8667324985cbbe961352a80ac731903d51398f0547c5", func := "consol/consollaw18.FavourChains", spec := "favourChains", recurses := true, loops := true, apart := false, narrowed := true }
def FavourChainsUptoSaid : Prop := favourChainsUptoRow.holds Try.pinned (OpenSpec.upto favourChainsSpec)

/-- 'consollaw18.FavourMore', WHERE WHAT IT READS IS OF BULK AT MOST 1048576: true; the input reads as it did. -/
def favourMoreUptoRow : OpenClaim := { program := "ytcabodhhdeecgaa", sum := "7d5f3d3f63e5455d18ff8667324985cbbe961352a80ac731903d51398f0547c5", func := "consol/consollaw18.FavourMore", spec := "favourMore", recurses := true, loops := true, apart := false, narrowed := true }
def FavourMoreUptoSaid : Prop := favourMoreUptoRow.holds Try.pinned (OpenSpec.upto favourMoreSpec)

/-- 'consollaw18.FavourAlone', WHERE WHAT IT READS IS OF BULK AT MOST 1048576: true; the input reads as it did. -/
def favourAloneUptoRow : OpenClaim := { program := "ytcabodhhdeecgaa", sum := "7d5f3d3f63e5455d18ff8667324985cbbe961352a80ac731903d51398f0547c5", func := "consol/consollaw18.FavourAlone", spec := "favourAlone", recurses := true, loops := true, apart := false, narrowed := true }
def FavourAloneUptoSaid : Prop := favourAloneUptoRow.holds Try.pinned (OpenSpec.upto favourAloneSpec)

end Rows
end Go.Proofs.Ytcabodhhdeecgaa
