/-
  The statement RestateKeeps of the layer restate holds: for all inputs the law returns true, and each argument reads as before. No conditions.
-/
import Derived.Test.YtpkendnpabjgoaaR21
import Derived.Test.YtpkendnpabjgoaaRows
namespace Go.Proofs.Ytpkendnpabjgoaa
open Go.ChangeShapes Go.WideShapes Go.RowKit Go.Own

set_option maxRecDepth 100000 in
theorem restateKeeps_lifted (os : Os) (started : os.Started) (H : Type) (enc : TypeId × Value → H) :
    ReturnsInHanded {} Try.checked os 5 .any (Rows.restateKeepsSpec.pre6 enc Try.prog Try.f5 Rows.restateKeepsRow.domain false) (Rows.restateKeepsSpec.post enc Try.prog Try.f5 false true false false) :=
  row_lifted (C := Try.checked) (P := Try.prog) rfl Try.own started (by kernel_rfl) Try.func5
    (ChangeSpec.witness6 (enc := enc) (C := Try.checked) false ⟨#[], #[.slice none 0 0, .slice none 0 0, .int .u8 0, .int .i64 0], []⟩ 8 (by kernel_rfl) (by kernel_rfl) (by kernel_rfl) (by kernel_rfl))
    Try.laidOut rfl (by kernel_rfl) rfl undBool (fun ds hd => by
      match ds, hd with
      | [d0, d1, d2, d3], _ => rfl)
    (Qs := [_, _, _, _]) ⟨vVals, vInts, opV_int und5', opV_int und3', trivial⟩
    (fun avs hA0 => by
      obtain ⟨_, _, rfl, ⟨l, hli, hl, rfl⟩, hA1⟩ := alls_cons hA0
      obtain ⟨_, _, rfl, ⟨fs, _, hfl, rfl⟩, hA2⟩ := alls_cons hA1
      obtain ⟨_, _, rfl, ⟨n3, h3, rfl⟩, hA3⟩ := alls_cons hA2
      obtain ⟨_, _, rfl, ⟨n4, h4, rfl⟩, hA4⟩ := alls_cons hA3
      obtain rfl := alls_nil hA4
      exact law_keeps l hl (fun v hv => (hli v hv).1.2) fs hfl n3 (in8_of h3) n4 (fun hR => keeps_plain hR))

theorem restateKeeps_holds : Rows.RestateKeepsSaid :=
  OpenClaim.holds_of_wide 5 Try.f5 rfl rfl rfl rfl rfl rfl rfl ⟨rfl, rfl, rfl, rfl, rfl⟩ rfl rfl rfl rfl rfl (by kernel_rfl) Try.func5 (by kernel_rfl)
    (of_decide_eq_true (by kernel_rfl)) (by unfold Func.isWrapper; first | (rw [if_pos (by decide +kernel)]; kernel_rfl) | (rw [if_neg (by decide +kernel)]; exact ⟨rfl, rfl⟩))
    (fun os started H enc _ => restateKeeps_lifted os started H enc)
#print axioms restateKeeps_holds
end Go.Proofs.Ytpkendnpabjgoaa
