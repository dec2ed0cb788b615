/-
  The statement RestateFaith of the layer restate holds: for all inputs the law returns true, and each argument reads as before. No conditions.
-/
import Derived.Test.YtpkendnpabjgoaaR11
import Derived.Test.YtpkendnpabjgoaaRows
namespace Go.Proofs.Ytpkendnpabjgoaa
open Go.ChangeShapes Go.WideShapes Go.RowKit Go.Own

set_option maxRecDepth 100000 in
theorem restateFaith_lifted (os : Os) (started : os.Started) (H : Type) (enc : TypeId × Value → H) :
    ReturnsInHanded {} Try.checked os 7 .any (Rows.restateFaithSpec.pre6 enc Try.prog Try.f7 Rows.restateFaithRow.domain false) (Rows.restateFaithSpec.post enc Try.prog Try.f7 false true false false) :=
  row_lifted (C := Try.checked) (P := Try.prog) rfl Try.own started (by kernel_rfl) Try.func7
    (ChangeSpec.witness6 (enc := enc) (C := Try.checked) false ⟨#[], #[.slice none 0 0, .slice none 0 0, .slice none 0 0, .int .u8 0], []⟩ 8 (by kernel_rfl) (by kernel_rfl) (by kernel_rfl) (by kernel_rfl))
    Try.laidOut rfl (by kernel_rfl) rfl undBool (fun ds hd => by
      match ds, hd with
      | [d0, d1, d2, d3], _ => rfl)
    (Qs := [_, _, _, _]) ⟨vPays, vInts, vBools, opV_int und5', trivial⟩
    (fun avs hA0 => by
      obtain ⟨_, _, rfl, ⟨ps, hps, hpl, rfl⟩, hA1⟩ := alls_cons hA0
      obtain ⟨_, _, rfl, ⟨ds, _, hdl, rfl⟩, hA2⟩ := alls_cons hA1
      obtain ⟨_, _, rfl, ⟨ms, hml, rfl⟩, hA3⟩ := alls_cons hA2
      obtain ⟨_, _, rfl, ⟨n4, h4, rfl⟩, hA4⟩ := alls_cons hA3
      obtain rfl := alls_nil hA4
      exact law_faith ps (fun p hp => (hps p hp).1.2) ds ms hpl hdl hml n4 (in8_of h4) (fun h20 n hn _ _ _ h1 h2 => faith_plain ps ds ms h20 n hn h1 h2))

theorem restateFaith_holds : Rows.RestateFaithSaid :=
  OpenClaim.holds_of_wide 7 Try.f7 rfl rfl rfl rfl rfl rfl rfl ⟨rfl, rfl, rfl, rfl, rfl⟩ rfl rfl rfl rfl rfl (by kernel_rfl) Try.func7 (by kernel_rfl)
    (of_decide_eq_true (by kernel_rfl)) (by unfold Func.isWrapper; first | (rw [if_pos (by decide +kernel)]; kernel_rfl) | (rw [if_neg (by decide +kernel)]; exact ⟨rfl, rfl⟩))
    (fun os started H enc _ => restateFaith_lifted os started H enc)
#print axioms restateFaith_holds
end Go.Proofs.Ytpkendnpabjgoaa
