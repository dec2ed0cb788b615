/-
  NARROWER THAN 'FOR EVERY INPUT', by the rows' own cells (each row's printed sentence says how): QuoteTells: loops · QuoteGroups: loops · QuoteFewer: loops · QuoteOrder: loops.
  DERIVED. THE GIVEN ROWS OF THIS SEAT. 4 by the template 'for every input the law returns true; each argument reads behind the call as it read before'; 0 by the template 'total and deterministic' (their statements: YtmcgfkkagijcmaaTotals.lean).
  GIVEN WITH THE SEED: the statements are not yours to turn. If you find one false, say at which input.
  Laid BY PROGRAM, IN A SANDBOX (cutbox-rows.mjs): the forced cells as the released guide's own fill.sh prints them over the translation 794262457c348818… (all of the seat's roots in one cut). By AI agents, Wed Nov 11 2026. No macro, syntax, notation, axiom, sorry.
-/
import Derived.Test.YtmcgfkkagijcmaaChecked
import GoSem.Claim
import GoSem.ClaimJoined
import GoSem.ClaimMapViews
import Derived.JoinedTies
import Derived.KernelRfl
namespace Go.Proofs.Ytmcgfkkagijcmaa
/- THE CELL 'sum', in the pinned program and in every row, IS THE sha256 OF THE DUMP (.gsa) THAT YtmcgfkkagijcmaaProg.lean LOADS. Nothing in Lean hashes anything: it is a label: what it is worth is what the hold of that sum in a sandbox is worth. -/
noncomputable def Try.pinned : Pinned := { name := "ytmcgfkkagijcmaa", sum := "794262457c348818b4fbd3a04943a4b1f6f88e98c9dd0a83c0c4b06f5c0a18ee", checked := Try.checked }
namespace Rows
def none {H : Type} : Left H := { results := [], args := [] }

/-- 'consollaw15.QuoteTells': WHATEVER THE INPUT: true; the input reads as it did. -/
def quoteTellsSpec : ChangeSpec := { name := "quoteTells", fn := fun _ => fun
  | [d1, d2, d3] => { results := [.lit (.bool true)], args := [d1, d2, d3] }
  | _ => none }
def quoteTellsRow : OpenClaim := { program := "ytmcgfkkagijcmaa", sum := "794262457c348818b4fbd3a04943a4b1f6f88e98c9dd0a83c0c4b06f5c0a18ee", func := "consol/consollaw15.QuoteTells", spec := "quoteTells", unfollowed := true, recurses := true, loops := true, apart := false }
def QuoteTellsSaid : Prop := quoteTellsRow.holds Try.pinned (OpenSpec.ofChange quoteTellsSpec)

/-- ITS FALSE NEIGHBOUR: 'it returns false'. Refute it at one input. -/
def quoteTellsWrong : ChangeSpec := { name := "quoteTells", fn := fun _ => fun
  | [d1, d2, d3] => { results := [.lit (.bool false)], args := [d1, d2, d3] }
  | _ => none }
def QuoteTellsWrongFalsely : Prop := quoteTellsRow.holds Try.pinned (OpenSpec.ofChange quoteTellsWrong)

/-- 'consollaw15.QuoteGroups': WHATEVER THE INPUT: true; the input reads as it did. -/
def quoteGroupsSpec : ChangeSpec := { name := "quoteGroups", fn := fun _ => fun
  | [d] => { results := [.lit (.bool true)], args := [d] }
  | _ => none }
def quoteGroupsRow : OpenClaim := { program := "ytmcgfkkagijcmaa", sum := "794262457c348818b4fbd3a04943a4b1f6f88e98c9dd0a83c0c4b06f5c0a18ee", func := "consol/consollaw15.QuoteGroups", spec := "quoteGroups", unfollowed := true, recurses := true, loops := true, apart := false }
def QuoteGroupsSaid : Prop := quoteGroupsRow.holds Try.pinned (OpenSpec.ofChange quoteGroupsSpec)

/-- ITS FALSE NEIGHBOUR: 'it returns false'. Refute it at one input. -/
def quoteGroupsWrong : ChangeSpec := { name := "quoteGroups", fn := fun _ => fun
  | [d] => { results := [.lit (.bool false)], args := [d] }
  | _ => none }
def QuoteGroupsWrongFalsely : Prop := quoteGroupsRow.holds Try.pinned (OpenSpec.ofChange quoteGroupsWrong)

/-- 'consollaw15.QuoteFewer': WHATEVER THE INPUT: true; the input reads as it did. -/
def quoteFewerSpec : ChangeSpec := { name := "quoteFewer", fn := fun _ => fun
  | [d1, d2] => { results := [.lit (.bool true)], args := [d1, d2] }
  | _ => none }
def quoteFewerRow : OpenClaim := { program := "ytmcgfkkagijcmaa", sum := "794262457c348818b4fbd3a04943a4b1f6f88e98c9dd0a83c0c4b06f5c0a18ee", func := "consol/consollaw15.QuoteFewer", spec := "quoteFewer", unfollowed := true, recurses := true, loops := true, apart := false }
def QuoteFewerSaid : Prop := quoteFewerRow.holds Try.pinned (OpenSpec.ofChange quoteFewerSpec)

/-- ITS FALSE NEIGHBOUR: 'it returns false'. Refute it at one input. -/
def quoteFewerWrong : ChangeSpec := { name := "quoteFewer", fn := fun _ => fun
  | [d1, d2] => { results := [.lit (.bool false)], args := [d1, d2] }
  | _ => none }
def QuoteFewerWrongFalsely : Prop := quoteFewerRow.holds Try.pinned (OpenSpec.ofChange quoteFewerWrong)

/-- 'consollaw15.QuoteOrder': WHATEVER THE INPUT: true; the input reads as it did. -/
def quoteOrderSpec : ChangeSpec := { name := "quoteOrder", fn := fun _ => fun
  | [d1, d2] => { results := [.lit (.bool true)], args := [d1, d2] }
  | _ => none }
def quoteOrderRow : OpenClaim := { program := "ytmcgfkkagijcmaa", sum := "794262457c348818b4fbd3a04943a4b1f6f88e98c9dd0a83c0c4b06f5c0a18ee", func := "consol/consollaw15.QuoteOrder", spec := "quoteOrder", unfollowed := true, recurses := true, loops := true, apart := false }
def QuoteOrderSaid : Prop := quoteOrderRow.holds Try.pinned (OpenSpec.ofChange quoteOrderSpec)

/-- ITS FALSE NEIGHBOUR: 'it returns false'. Refute it at one input. -/
def quoteOrderWrong : ChangeSpec := { name := "quoteOrder", fn := fun _ => fun
  | [d1, d2] => { results := [.lit (.bool false)], args := [d1, d2] }
  | _ => none }
def QuoteOrderWrongFalsely : Prop := quoteOrderRow.holds Try.pinned (OpenSpec.ofChange quoteOrderWrong)

/- THE SECOND FORM. 'bulk': how many values and letters a reading holds, each counted each time it is reached (what is shared counts as often as it is met; a slice's spare places count too). A statement '..UptoSaid' is the law's where the arguments, and the package variables that the reading takes, are together of bulk at most 1048576: NARROWER than '..Said'. Prove '..Said' where nothing that the law and all that it calls make is longer than what came in: it says more and counts as full. Else prove '..UptoSaid'. A law counts once. -/
mutual
def uptoBulk {H : Type} : DataW H → Nat
  | .lit (.string bytes) => bytes.length + 1
  | .lit _ => 1
  | .nil => 1
  | .ptr d => uptoBulk d + 1
  | .slice elems spare => uptoBulkAll elems + uptoBulkAll spare + 1
  | .agg parts => uptoBulkAll parts + 1
  | .iface _ d => uptoBulk d + 1
  | .map entries => uptoBulkEntries entries + 1
  | .held _ => 1
def uptoBulkAll {H : Type} : List (DataW H) → Nat
  | [] => 0
  | d :: r => uptoBulk d + uptoBulkAll r
def uptoBulkEntries {H : Type} : List (Lit × DataW H) → Nat
  | [] => 0
  | x :: r => uptoBulkEntry x + uptoBulkEntries r
def uptoBulkEntry {H : Type} : Lit × DataW H → Nat
  | (.string bytes, d) => bytes.length + uptoBulk d + 1
  | (_, d) => uptoBulk d + 1
 end
def uptoSmall : (H : Type) → List (DataW H) → Bool := fun _ ds => decide (uptoBulkAll ds ≤ 1048576)
def OpenSpec.upto (s : _root_.Go.ChangeSpec) : _root_.Go.OpenSpec := { _root_.Go.OpenSpec.ofChange s with cond := some uptoSmall }

/-- 'consollaw15.QuoteTells', WHERE WHAT IT READS IS OF BULK AT MOST 1048576: true; the input reads as it did. -/
def quoteTellsUptoRow : OpenClaim := { program := "ytmcgfkkagijcmaa", sum := "794262457c348818b4fbd3a04943a4b1f6f88e98c9dd0a83c0c4b06f5c0a18ee", func := "consol/consollaw15.QuoteTells", spec := "quoteTells", unfollowed := true, recurses := true, loops := true, apart := false, narrowed := true }
def QuoteTellsUptoSaid : Prop := quoteTellsUptoRow.holds Try.pinned (OpenSpec.upto quoteTellsSpec)

/-- 'consollaw15.QuoteGroups', WHERE WHAT IT READS IS OF BULK AT MOST 1048576: true; the input reads as it did. -/
def quoteGroupsUptoRow : OpenClaim := { program := "ytmcgfkkagijcmaa", sum := "794262457c348818b4fbd3a04943a4b1f6f88e98c9dd0a83c0c4b06f5c0a18ee", func := "consol/consollaw15.QuoteGroups", spec := "quoteGroups", unfollowed := true, recurses := true, loops := true, apart := false, narrowed := true }
def QuoteGroupsUptoSaid : Prop := quoteGroupsUptoRow.holds Try.pinned (OpenSpec.upto quoteGroupsSpec)

/-- 'consollaw15.QuoteFewer', WHERE WHAT IT READS IS OF BULK AT MOST 1048576: true; the input reads as it did. -/
def quoteFewerUptoRow : OpenClaim := { program := "ytmcgfkkagijcmaa", sum := "794262457c348818b4fbd3a04943a4b1f6f88e98c9dd0a83c0c4b06f5c0a18ee", func := "consol/consollaw15.QuoteFewer", spec := "quoteFewer", unfollowed := true, recurses := true, loops := true, apart := false, narrowed := true }
def QuoteFewerUptoSaid : Prop := quoteFewerUptoRow.holds Try.pinned (OpenSpec.upto quoteFewerSpec)

/-- 'consollaw15.QuoteOrder', WHERE WHAT IT READS IS OF BULK AT MOST 1048576: true; the input reads as it did. -/
def quoteOrderUptoRow : OpenClaim := { program := "ytmcgfkkagijcmaa", sum := "794262457c348818b4fbd3a04943a4b1f6f88e98c9dd0a83c0c4b06f5c0a18ee", func := "consol/consollaw15.QuoteOrder", spec := "quoteOrder", unfollowed := true, recurses := true, loops := true, apart := false, narrowed := true }
def QuoteOrderUptoSaid : Prop := quoteOrderUptoRow.holds Try.pinned (OpenSpec.upto quoteOrderSpec)

end Rows
end Go.Proofs.Ytmcgfkkagijcmaa
