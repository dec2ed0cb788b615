/-
  The statement CrossChain of the layer cross holds: for all inputs the law returns true, and each argument reads as before. No conditions.
-/
import Derived.Test.YtkldidgcgioceaaX24
import Derived.Test.YtkldidgcgioceaaRows
namespace Go.Proofs.Ytkldidgcgioceaa
open Go.ChangeShapes Go.WideShapes Go.RowKit Go.Own

set_option maxRecDepth 100000 in
theorem crossChain_lifted (os : Os) (started : os.Started) (H : Type) (enc : TypeId × Value → H) :
    ReturnsInHanded {} Try.checked os 5 .any (Rows.crossChainSpec.pre6 enc Try.prog Try.f5 Rows.crossChainRow.domain false) (Rows.crossChainSpec.post enc Try.prog Try.f5 false true false false) :=
  row_lifted (C := Try.checked) (P := Try.prog) rfl Try.own started (by kernel_rfl) Try.func5
    (ChangeSpec.witness6 (enc := enc) (C := Try.checked) false ⟨#[], #[.slice none 0 0], []⟩ 8 (by kernel_rfl) (by kernel_rfl) (by kernel_rfl) (by kernel_rfl))
    Try.laidOut rfl (by kernel_rfl) rfl undBool (fun ds hd => by
      match ds, hd with
      | [d0], _ => rfl)
    (Qs := [_]) ⟨vDebts, trivial⟩
    (fun avs hA0 => by
      obtain ⟨_, _, rfl, ⟨l, _, hl, rfl⟩, hA1⟩ := alls_cons hA0
      obtain rfl := alls_nil hA1
      exact law_chain l hl)

theorem crossChain_holds : Rows.CrossChainSaid :=
  OpenClaim.holds_of_wide 5 Try.f5 rfl rfl rfl rfl rfl rfl rfl ⟨rfl, rfl, rfl, rfl, rfl⟩ rfl rfl rfl rfl rfl (by kernel_rfl) Try.func5 (by kernel_rfl)
    (of_decide_eq_true (by kernel_rfl)) (by unfold Func.isWrapper; first | (rw [if_pos (by decide +kernel)]; kernel_rfl) | (rw [if_neg (by decide +kernel)]; exact ⟨rfl, rfl⟩))
    (fun os started H enc _ => crossChain_lifted os started H enc)
#print axioms crossChain_holds
end Go.Proofs.Ytkldidgcgioceaa
