/-
  The statement QuoteTells of the layer of quotes holds: for all inputs the law returns true, and each argument reads as before. No conditions.
-/
import Derived.Test.YtmcgfkkagijcmaaCb
import Derived.Test.YtmcgfkkagijcmaaCc
import Derived.Test.YtmcgfkkagijcmaaRows
import Derived.KernelRfl

namespace Go.Proofs.Ytmcgfkkagijcmaa
open Go.ChangeShapes Go.WideShapes Go.RowKit Go.Own

set_option maxRecDepth 100000 in
theorem quoteTells_lifted (os : Os) (started : os.Started) (H : Type) (enc : TypeId × Value → H) :
    ReturnsInHanded {} Try.checked os 3 .any (Rows.quoteTellsSpec.pre6 enc Try.prog Try.f3 Rows.quoteTellsRow.domain false) (Rows.quoteTellsSpec.post enc Try.prog Try.f3 false true false false) :=
  row_liftedz (C := Try.checked) (P := Try.prog) rfl Try.own started (by kernel_rfl) Try.func3
    (ChangeSpec.witness6 (enc := enc) (C := Try.checked) false ⟨#[], #[.slice none 0 0, .slice none 0 0, .slice none 0 0], []⟩ 8 (by kernel_rfl) (by kernel_rfl) (by kernel_rfl) (by kernel_rfl))
    Try.laidOut rfl (by kernel_rfl) rfl undBool (fun ds hd => by
      match ds, hd with
      | [d0, d1, d2], _ => rfl)
    (Qs := [_, _, _]) ⟨vInds, vGraph, vInts, trivial⟩
    (fun avs hA0 => by
      obtain ⟨_, _, rfl, ⟨l, ⟨⟨hx, hl⟩, hz⟩, rfl⟩, hA1⟩ := alls_cons hA0
      obtain ⟨_, _, rfl, ⟨gr, hgr, rfl⟩, hA2⟩ := alls_cons hA1
      obtain ⟨_, _, rfl, ⟨c, hc, rfl⟩, hA3⟩ := alls_cons hA2
      obtain rfl := alls_nil hA3
      exact law_tells l hl hx gr hgr c hc)

theorem quoteTells_holds : Rows.QuoteTellsSaid :=
  OpenClaim.holds_of_wide 3 Try.f3 rfl rfl rfl rfl rfl rfl rfl ⟨rfl, rfl, rfl, rfl, rfl⟩ rfl rfl rfl rfl rfl (by kernel_rfl) Try.func3 (by kernel_rfl)
    (of_decide_eq_true (by kernel_rfl)) (by unfold Func.isWrapper; first | (rw [if_pos (by decide +kernel)]; kernel_rfl) | (rw [if_neg (by decide +kernel)]; exact ⟨rfl, rfl⟩))
    (fun os started H enc _ => quoteTells_lifted os started H enc)
#print axioms quoteTells_holds
end Go.Proofs.Ytmcgfkkagijcmaa
