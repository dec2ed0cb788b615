/-
  The statement DiffCommon of the layer of comparisons holds: for all inputs the law returns true, and each argument reads as before. No conditions.
-/
import Derived.Test.YtohankpncipefaaD13
import Derived.Test.YtohankpncipefaaD10
namespace Go.Proofs.Ytohankpncipefaa
open Go.ChangeShapes Go.WideShapes Go.RowKit Go.Own

set_option maxRecDepth 100000 in
theorem diffCommon_lifted (os : Os) (started : os.Started) (H : Type) (enc : TypeId × Value → H) :
    ReturnsInHanded {} Try.checked os 4 .any (Rows.diffCommonSpec.pre6 enc Try.prog Try.f4 Rows.diffCommonRow.domain false) (Rows.diffCommonSpec.post enc Try.prog Try.f4 false true false false) :=
  row_lifted (C := Try.checked) (P := Try.prog) rfl Try.own started (by kernel_rfl) Try.func4
    (ChangeSpec.witness6 (enc := enc) (C := Try.checked) false ⟨#[], #[.slice none 0 0, .slice none 0 0, .int .u32 0, .int .u32 0], []⟩ 8 (by kernel_rfl) (by kernel_rfl) (by kernel_rfl) (by kernel_rfl))
    Try.laidOut rfl (by kernel_rfl) rfl undBool (fun ds hd => by
      match ds, hd with
      | [d0, d1, d2, d3], _ => rfl)
    (Qs := [_, _, _, _]) ⟨vStrs, vStrs, opV_int und32, opV_int und32, trivial⟩
    (fun avs hA0 => by
      obtain ⟨_, _, rfl, ⟨a, ha, rfl⟩, hA1⟩ := alls_cons hA0
      obtain ⟨_, _, rfl, ⟨b, hb, rfl⟩, hA2⟩ := alls_cons hA1
      obtain ⟨_, _, rfl, ⟨m1, _, rfl⟩, hA3⟩ := alls_cons hA2
      obtain ⟨_, _, rfl, ⟨m2, _, rfl⟩, hA4⟩ := alls_cons hA3
      obtain rfl := alls_nil hA4
      exact diffCommon_ok a b m1 m2 ha hb)

theorem diffCommon_holds : Rows.DiffCommonSaid :=
  OpenClaim.holds_of_wide 4 Try.f4 rfl rfl rfl rfl rfl rfl rfl ⟨rfl, rfl, rfl, rfl, rfl⟩ rfl rfl rfl rfl rfl (by kernel_rfl) Try.func4 (by kernel_rfl)
    (of_decide_eq_true (by kernel_rfl)) (by unfold Func.isWrapper; first | (rw [if_pos (by decide +kernel)]; kernel_rfl) | (rw [if_neg (by decide +kernel)]; exact ⟨rfl, rfl⟩))
    (fun os started H enc _ => diffCommon_lifted os started H enc)
#print axioms diffCommon_holds
end Go.Proofs.Ytohankpncipefaa
