/-
  The statement DiffTurns of the layer of comparisons holds: for all inputs the law returns true, and each argument reads as before. No conditions.
-/
import Derived.Test.YtohankpncipefaaD16
import Derived.Test.YtohankpncipefaaD10
namespace Go.Proofs.Ytohankpncipefaa
open Go.ChangeShapes Go.WideShapes Go.RowKit Go.Own

set_option maxRecDepth 100000 in
theorem diffTurns_lifted (os : Os) (started : os.Started) (H : Type) (enc : TypeId × Value → H) :
    ReturnsInHanded {} Try.checked os 5 .any (Rows.diffTurnsSpec.pre6 enc Try.prog Try.f5 Rows.diffTurnsRow.domain false) (Rows.diffTurnsSpec.post enc Try.prog Try.f5 false true false false) :=
  row_lifted (C := Try.checked) (P := Try.prog) rfl Try.own started (by kernel_rfl) Try.func5
    (ChangeSpec.witness6 (enc := enc) (C := Try.checked) false ⟨#[], #[.slice none 0 0, .slice none 0 0, .slice none 0 0], []⟩ 8 (by kernel_rfl) (by kernel_rfl) (by kernel_rfl) (by kernel_rfl))
    Try.laidOut rfl (by kernel_rfl) rfl undBool (fun ds hd => by
      match ds, hd with
      | [d0, d1, d2], _ => rfl)
    (Qs := [_, _, _]) ⟨vStrs, vStrs, vStrs, trivial⟩
    (fun avs hA0 => by
      obtain ⟨_, _, rfl, ⟨a, ha, rfl⟩, hA1⟩ := alls_cons hA0
      obtain ⟨_, _, rfl, ⟨b, hb, rfl⟩, hA2⟩ := alls_cons hA1
      obtain ⟨_, _, rfl, ⟨m, hm, rfl⟩, hA3⟩ := alls_cons hA2
      obtain rfl := alls_nil hA3
      exact diffTurns_ok a b m ha hb hm)

theorem diffTurns_holds : Rows.DiffTurnsSaid :=
  OpenClaim.holds_of_wide 5 Try.f5 rfl rfl rfl rfl rfl rfl rfl ⟨rfl, rfl, rfl, rfl, rfl⟩ rfl rfl rfl rfl rfl (by kernel_rfl) Try.func5 (by kernel_rfl)
    (of_decide_eq_true (by kernel_rfl)) (by unfold Func.isWrapper; first | (rw [if_pos (by decide +kernel)]; kernel_rfl) | (rw [if_neg (by decide +kernel)]; exact ⟨rfl, rfl⟩))
    (fun os started H enc _ => diffTurns_lifted os started H enc)
#print axioms diffTurns_holds
end Go.Proofs.Ytohankpncipefaa
