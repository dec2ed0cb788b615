/-
  The statement RestateCloses of the layer restate holds: for all inputs the law returns true, and each argument reads as before. No conditions.
-/
import Derived.Test.YtpkendnpabjgoaaR17
import Derived.Test.YtpkendnpabjgoaaRows
namespace Go.Proofs.Ytpkendnpabjgoaa
open Go.ChangeShapes Go.WideShapes Go.RowKit Go.Own

set_option maxRecDepth 100000 in
theorem restateCloses_lifted (os : Os) (started : os.Started) (H : Type) (enc : TypeId × Value → H) :
    ReturnsInHanded {} Try.checked os 4 .any (Rows.restateClosesSpec.pre6 enc Try.prog Try.f4 Rows.restateClosesRow.domain false) (Rows.restateClosesSpec.post enc Try.prog Try.f4 false true false false) :=
  row_lifted (C := Try.checked) (P := Try.prog) rfl Try.own started (by kernel_rfl) Try.func4
    (ChangeSpec.witness6 (enc := enc) (C := Try.checked) false ⟨#[], #[.slice none 0 0, .slice none 0 0, .slice none 0 0], []⟩ 8 (by kernel_rfl) (by kernel_rfl) (by kernel_rfl) (by kernel_rfl))
    Try.laidOut rfl (by kernel_rfl) rfl undBool (fun ds hd => by
      match ds, hd with
      | [d0, d1, d2], _ => rfl)
    (Qs := [_, _, _]) ⟨vVals, vInts, vInts, trivial⟩
    (fun avs hA0 => by
      obtain ⟨_, _, rfl, ⟨l, _, hl, rfl⟩, hA1⟩ := alls_cons hA0
      obtain ⟨_, _, rfl, ⟨fs, _, hfl, rfl⟩, hA2⟩ := alls_cons hA1
      obtain ⟨_, _, rfl, ⟨st, _, hsl, rfl⟩, hA3⟩ := alls_cons hA2
      obtain rfl := alls_nil hA3
      exact law_closes l hl fs hfl st hsl (fun _ hR => closes_plain hR))

theorem restateCloses_holds : Rows.RestateClosesSaid :=
  OpenClaim.holds_of_wide 4 Try.f4 rfl rfl rfl rfl rfl rfl rfl ⟨rfl, rfl, rfl, rfl, rfl⟩ rfl rfl rfl rfl rfl (by kernel_rfl) Try.func4 (by kernel_rfl)
    (of_decide_eq_true (by kernel_rfl)) (by unfold Func.isWrapper; first | (rw [if_pos (by decide +kernel)]; kernel_rfl) | (rw [if_neg (by decide +kernel)]; exact ⟨rfl, rfl⟩))
    (fun os started H enc _ => restateCloses_lifted os started H enc)
#print axioms restateCloses_holds
end Go.Proofs.Ytpkendnpabjgoaa
