/-
  The statement CrossLess of the layer cross holds: for all inputs the law returns true, and each argument reads as before. No conditions.
-/
import Derived.Test.YtkldidgcgioceaaX18
import Derived.Test.YtkldidgcgioceaaRows
namespace Go.Proofs.Ytkldidgcgioceaa
open Go.ChangeShapes Go.WideShapes Go.RowKit Go.Own

set_option maxRecDepth 100000 in
theorem crossLess_lifted (os : Os) (started : os.Started) (H : Type) (enc : TypeId × Value → H) :
    ReturnsInHanded {} Try.checked os 6 .any (Rows.crossLessSpec.pre6 enc Try.prog Try.f6 Rows.crossLessRow.domain false) (Rows.crossLessSpec.post enc Try.prog Try.f6 false true false false) :=
  row_lifted (C := Try.checked) (P := Try.prog) rfl Try.own started (by kernel_rfl) Try.func6
    (ChangeSpec.witness6 (enc := enc) (C := Try.checked) false ⟨#[], #[.slice none 0 0, .int .u8 0, .int .i64 0, .int .i64 0], []⟩ 8 (by kernel_rfl) (by kernel_rfl) (by kernel_rfl) (by kernel_rfl))
    Try.laidOut rfl (by kernel_rfl) rfl undBool (fun ds hd => by
      match ds, hd with
      | [d0, d1, d2, d3], _ => rfl)
    (Qs := [_, _, _, _]) ⟨vDebts, opV_int und5', opV_int und3', opV_int und3', trivial⟩
    (fun avs hA0 => by
      obtain ⟨_, _, rfl, ⟨l, _, hl, rfl⟩, hA1⟩ := alls_cons hA0
      obtain ⟨_, _, rfl, ⟨n2, h2, rfl⟩, hA2⟩ := alls_cons hA1
      obtain ⟨_, _, rfl, ⟨n3, _, rfl⟩, hA3⟩ := alls_cons hA2
      obtain ⟨_, _, rfl, ⟨n4, _, rfl⟩, hA4⟩ := alls_cons hA3
      obtain rfl := alls_nil hA4
      exact law_less l hl n2 (in8_of h2) n3 n4)

theorem crossLess_holds : Rows.CrossLessSaid :=
  OpenClaim.holds_of_wide 6 Try.f6 rfl rfl rfl rfl rfl rfl rfl ⟨rfl, rfl, rfl, rfl, rfl⟩ rfl rfl rfl rfl rfl (by kernel_rfl) Try.func6 (by kernel_rfl)
    (of_decide_eq_true (by kernel_rfl)) (by unfold Func.isWrapper; first | (rw [if_pos (by decide +kernel)]; kernel_rfl) | (rw [if_neg (by decide +kernel)]; exact ⟨rfl, rfl⟩))
    (fun os started H enc _ => crossLess_lifted os started H enc)
#print axioms crossLess_holds
end Go.Proofs.Ytkldidgcgioceaa
