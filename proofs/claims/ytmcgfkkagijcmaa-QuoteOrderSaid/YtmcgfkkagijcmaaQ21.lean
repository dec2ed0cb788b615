/-
  The statement QuoteOrder of the layer of quotes holds: for all inputs the law returns true, and each argument reads as before. No conditions.
-/
import Derived.Test.YtmcgfkkagijcmaaCb
import Derived.Test.YtmcgfkkagijcmaaRows
import Derived.KernelRfl

namespace Go.Proofs.Ytmcgfkkagijcmaa
open Go.ChangeShapes Go.WideShapes Go.RowKit Go.Own

set_option maxRecDepth 100000 in
theorem quoteOrder_lifted (os : Os) (started : os.Started) (H : Type) (enc : TypeId × Value → H) :
    ReturnsInHanded {} Try.checked os 6 .any (Rows.quoteOrderSpec.pre6 enc Try.prog Try.f6 Rows.quoteOrderRow.domain false) (Rows.quoteOrderSpec.post enc Try.prog Try.f6 false true false false) :=
  row_liftedz (C := Try.checked) (P := Try.prog) rfl Try.own started (by kernel_rfl) Try.func6
    (ChangeSpec.witness6 (enc := enc) (C := Try.checked) false ⟨#[], #[.slice none 0 0, .agg #[.int .i64 0, .int .i64 0, .int .i64 0, .string ⟨#[]⟩, .slice none 0 0]], []⟩ 8 (by kernel_rfl) (by kernel_rfl) (by kernel_rfl) (by kernel_rfl))
    Try.laidOut rfl (by kernel_rfl) rfl undBool (fun ds hd => by
      match ds, hd with
      | [d0, d1], _ => rfl)
    (Qs := [_, _]) ⟨vInds, vExp, trivial⟩
    (fun avs hA0 => by
      obtain ⟨_, _, rfl, ⟨l, ⟨⟨hx, hl⟩, hz⟩, rfl⟩, hA1⟩ := alls_cons hA0
      obtain ⟨_, _, rfl, ⟨x, he, rfl⟩, hA2⟩ := alls_cons hA1
      obtain rfl := alls_nil hA2
      exact law_order l x hl hx he)

theorem quoteOrder_holds : Rows.QuoteOrderSaid :=
  OpenClaim.holds_of_wide 6 Try.f6 rfl rfl rfl rfl rfl rfl rfl ⟨rfl, rfl, rfl, rfl, rfl⟩ rfl rfl rfl rfl rfl (by kernel_rfl) Try.func6 (by kernel_rfl)
    (of_decide_eq_true (by kernel_rfl)) (by unfold Func.isWrapper; first | (rw [if_pos (by decide +kernel)]; kernel_rfl) | (rw [if_neg (by decide +kernel)]; exact ⟨rfl, rfl⟩))
    (fun os started H enc _ => quoteOrder_lifted os started H enc)
#print axioms quoteOrder_holds
end Go.Proofs.Ytmcgfkkagijcmaa
