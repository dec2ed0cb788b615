/-
  The statement CrossTells of the layer cross holds: for all inputs the law returns true, and each argument reads as before. No conditions.
-/
import Derived.Test.YtkldidgcgioceaaX35
import Derived.Test.YtkldidgcgioceaaRows
namespace Go.Proofs.Ytkldidgcgioceaa
open Go.ChangeShapes Go.WideShapes Go.RowKit Go.Own

set_option maxRecDepth 100000 in
theorem crossTells_lifted (os : Os) (started : os.Started) (H : Type) (enc : TypeId × Value → H) :
    ReturnsInHanded {} Try.checked os 3 .any (Rows.crossTellsSpec.pre6 enc Try.prog Try.f3 Rows.crossTellsRow.domain false) (Rows.crossTellsSpec.post enc Try.prog Try.f3 false true false false) :=
  row_lifted (C := Try.checked) (P := Try.prog) rfl Try.own started (by kernel_rfl) Try.func3
    (ChangeSpec.witness6 (enc := enc) (C := Try.checked) false ⟨#[], #[.slice none 0 0, .slice none 0 0, .int .i64 0], []⟩ 8 (by kernel_rfl) (by kernel_rfl) (by kernel_rfl) (by kernel_rfl))
    Try.laidOut rfl (by kernel_rfl) rfl undBool (fun ds hd => by
      match ds, hd with
      | [d0, d1, d2], _ => rfl)
    (Qs := [_, _, _]) ⟨vDebts, vCaus, opV_int und3', trivial⟩
    (fun avs hA0 => by
      obtain ⟨_, _, rfl, ⟨l, _, hl, rfl⟩, hA1⟩ := alls_cons hA0
      obtain ⟨_, _, rfl, ⟨cs, h64, hcl, rfl⟩, hA2⟩ := alls_cons hA1
      obtain ⟨_, _, rfl, ⟨s, _, rfl⟩, hA3⟩ := alls_cons hA2
      obtain rfl := alls_nil hA3
      exact law_tells l hl cs hcl (fun c hc => (h64 c hc).2.1) s)

theorem crossTells_holds : Rows.CrossTellsSaid :=
  OpenClaim.holds_of_wide 3 Try.f3 rfl rfl rfl rfl rfl rfl rfl ⟨rfl, rfl, rfl, rfl, rfl⟩ rfl rfl rfl rfl rfl (by kernel_rfl) Try.func3 (by kernel_rfl)
    (of_decide_eq_true (by kernel_rfl)) (by unfold Func.isWrapper; first | (rw [if_pos (by decide +kernel)]; kernel_rfl) | (rw [if_neg (by decide +kernel)]; exact ⟨rfl, rfl⟩))
    (fun os started H enc _ => crossTells_lifted os started H enc)
#print axioms crossTells_holds
end Go.Proofs.Ytkldidgcgioceaa
