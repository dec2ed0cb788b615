/-
  The statement QuoteGroups of the layer of quotes holds: for all inputs the law returns true, and each argument reads as before. No conditions.
-/
import Derived.Test.YtmcgfkkagijcmaaCb
import Derived.Test.YtmcgfkkagijcmaaCc
import Derived.Test.YtmcgfkkagijcmaaRows
import Derived.KernelRfl

namespace Go.Proofs.Ytmcgfkkagijcmaa
open Go.ChangeShapes Go.WideShapes Go.RowKit Go.Own

set_option maxRecDepth 100000 in
theorem quoteGroups_lifted (os : Os) (started : os.Started) (H : Type) (enc : TypeId × Value → H) :
    ReturnsInHanded {} Try.checked os 4 .any (Rows.quoteGroupsSpec.pre6 enc Try.prog Try.f4 Rows.quoteGroupsRow.domain false) (Rows.quoteGroupsSpec.post enc Try.prog Try.f4 false true false false) :=
  row_liftedz (C := Try.checked) (P := Try.prog) rfl Try.own started (by kernel_rfl) Try.func4
    (ChangeSpec.witness6 (enc := enc) (C := Try.checked) false ⟨#[], #[.slice none 0 0], []⟩ 8 (by kernel_rfl) (by kernel_rfl) (by kernel_rfl) (by kernel_rfl))
    Try.laidOut rfl (by kernel_rfl) rfl undBool (fun ds hd => by
      match ds, hd with
      | [d0], _ => rfl)
    (Qs := [_]) ⟨vInds, trivial⟩
    (fun avs hA0 => by
      obtain ⟨_, _, rfl, ⟨l, ⟨⟨hx, hl⟩, hz⟩, rfl⟩, hA1⟩ := alls_cons hA0
      obtain rfl := alls_nil hA1
      exact law_groups l hl hx)

theorem quoteGroups_holds : Rows.QuoteGroupsSaid :=
  OpenClaim.holds_of_wide 4 Try.f4 rfl rfl rfl rfl rfl rfl rfl ⟨rfl, rfl, rfl, rfl, rfl⟩ rfl rfl rfl rfl rfl (by kernel_rfl) Try.func4 (by kernel_rfl)
    (of_decide_eq_true (by kernel_rfl)) (by unfold Func.isWrapper; first | (rw [if_pos (by decide +kernel)]; kernel_rfl) | (rw [if_neg (by decide +kernel)]; exact ⟨rfl, rfl⟩))
    (fun os started H enc _ => quoteGroups_lifted os started H enc)
#print axioms quoteGroups_holds
end Go.Proofs.Ytmcgfkkagijcmaa
