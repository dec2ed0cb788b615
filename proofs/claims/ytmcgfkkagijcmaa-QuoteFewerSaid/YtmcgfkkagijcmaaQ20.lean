/-
  The statement QuoteFewer of the layer of quotes holds: for all inputs the law returns true, and each argument reads as before. No conditions.
-/
import Derived.Test.YtmcgfkkagijcmaaCb
import Derived.Test.YtmcgfkkagijcmaaRows
import Derived.KernelRfl

namespace Go.Proofs.Ytmcgfkkagijcmaa
open Go.ChangeShapes Go.WideShapes Go.RowKit Go.Own

set_option maxRecDepth 100000 in
theorem quoteFewer_lifted (os : Os) (started : os.Started) (H : Type) (enc : TypeId × Value → H) :
    ReturnsInHanded {} Try.checked os 5 .any (Rows.quoteFewerSpec.pre6 enc Try.prog Try.f5 Rows.quoteFewerRow.domain false) (Rows.quoteFewerSpec.post enc Try.prog Try.f5 false true false false) :=
  row_liftedz (C := Try.checked) (P := Try.prog) rfl Try.own started (by kernel_rfl) Try.func5
    (ChangeSpec.witness6 (enc := enc) (C := Try.checked) false ⟨#[], #[.slice none 0 0, .agg #[.string ⟨#[]⟩, .string ⟨#[]⟩, .int .i64 0, .int .i64 0, .int .i64 0, .int .i64 0, .int .i64 0, .int .i64 0, .int .i64 0, .int .i64 0, .slice none 0 0, .int .i64 0, .int .i64 0, .int .i64 0, .string ⟨#[]⟩, .slice none 0 0, .int .i64 0, .slice none 0 0, .slice none 0 0, .int .i64 0, .slice none 0 0, .int .i64 0, .int .i64 0, .int .i64 0, .int .i64 0]], []⟩ 8 (by kernel_rfl) (by kernel_rfl) (by kernel_rfl) (by kernel_rfl))
    Try.laidOut rfl (by kernel_rfl) rfl undBool (fun ds hd => by
      match ds, hd with
      | [d0, d1], _ => rfl)
    (Qs := [_, _]) ⟨vInds, vInd, trivial⟩
    (fun avs hA0 => by
      obtain ⟨_, _, rfl, ⟨l, ⟨⟨hx, hl⟩, hz⟩, rfl⟩, hA1⟩ := alls_cons hA0
      obtain ⟨_, _, rfl, ⟨m, hm, rfl⟩, hA2⟩ := alls_cons hA1
      obtain rfl := alls_nil hA2
      exact law_fewer l m hz hx hm)

theorem quoteFewer_holds : Rows.QuoteFewerSaid :=
  OpenClaim.holds_of_wide 5 Try.f5 rfl rfl rfl rfl rfl rfl rfl ⟨rfl, rfl, rfl, rfl, rfl⟩ rfl rfl rfl rfl rfl (by kernel_rfl) Try.func5 (by kernel_rfl)
    (of_decide_eq_true (by kernel_rfl)) (by unfold Func.isWrapper; first | (rw [if_pos (by decide +kernel)]; kernel_rfl) | (rw [if_neg (by decide +kernel)]; exact ⟨rfl, rfl⟩))
    (fun os started H enc _ => quoteFewer_lifted os started H enc)
#print axioms quoteFewer_holds
end Go.Proofs.Ytmcgfkkagijcmaa
