/-
  The statement RestateTells of the layer restate holds: for all inputs the law returns true, and each argument reads as before. No conditions.
-/
import Derived.Test.YtpkendnpabjgoaaR29
import Derived.Test.YtpkendnpabjgoaaRows
namespace Go.Proofs.Ytpkendnpabjgoaa
open Go.ChangeShapes Go.WideShapes Go.RowKit Go.Own

set_option maxRecDepth 100000 in
theorem restateTells_lifted (os : Os) (started : os.Started) (H : Type) (enc : TypeId × Value → H) :
    ReturnsInHanded {} Try.checked os 3 .any (Rows.restateTellsSpec.pre6 enc Try.prog Try.f3 Rows.restateTellsRow.domain false) (Rows.restateTellsSpec.post enc Try.prog Try.f3 false true false false) :=
  row_lifted (C := Try.checked) (P := Try.prog) rfl Try.own started (by kernel_rfl) Try.func3
    (ChangeSpec.witness6 (enc := enc) (C := Try.checked) false ⟨#[], #[.slice none 0 0, .slice none 0 0, .slice none 0 0, .slice none 0 0, .slice none 0 0], []⟩ 8 (by kernel_rfl) (by kernel_rfl) (by kernel_rfl) (by kernel_rfl))
    Try.laidOut rfl (by kernel_rfl) rfl undBool (fun ds hd => by
      match ds, hd with
      | [d0, d1, d2, d3, d4], _ => rfl)
    (Qs := [_, _, _, _, _]) ⟨vVals, vInts, vPays, vInts, vBools, trivial⟩
    (fun avs hA0 => by
      obtain ⟨_, _, rfl, ⟨l, _, hl, rfl⟩, hA1⟩ := alls_cons hA0
      obtain ⟨_, _, rfl, ⟨fs, _, hfl, rfl⟩, hA2⟩ := alls_cons hA1
      obtain ⟨_, _, rfl, ⟨ps, hps, hpl, rfl⟩, hA3⟩ := alls_cons hA2
      obtain ⟨_, _, rfl, ⟨ds, _, hdl, rfl⟩, hA4⟩ := alls_cons hA3
      obtain ⟨_, _, rfl, ⟨ms, hml, rfl⟩, hA5⟩ := alls_cons hA4
      obtain rfl := alls_nil hA5
      exact law_tells l hl fs hfl ps hps hpl ds hdl ms hml)

theorem restateTells_holds : Rows.RestateTellsSaid :=
  OpenClaim.holds_of_wide 3 Try.f3 rfl rfl rfl rfl rfl rfl rfl ⟨rfl, rfl, rfl, rfl, rfl⟩ rfl rfl rfl rfl rfl (by kernel_rfl) Try.func3 (by kernel_rfl)
    (of_decide_eq_true (by kernel_rfl)) (by unfold Func.isWrapper; first | (rw [if_pos (by decide +kernel)]; kernel_rfl) | (rw [if_neg (by decide +kernel)]; exact ⟨rfl, rfl⟩))
    (fun os started H enc _ => restateTells_lifted os started H enc)
#print axioms restateTells_holds
end Go.Proofs.Ytpkendnpabjgoaa
