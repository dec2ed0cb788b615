/-
  The statement FavourMore of the layer favour holds: for all inputs the law returns true, and each argument reads as before. No conditions.
-/
import Derived.Test.YtcabodhhdeecgaaF14
import Derived.Test.YtcabodhhdeecgaaF10
import Derived.Test.YtcabodhhdeecgaaRows
namespace Go.Proofs.Ytcabodhhdeecgaa
open Go.ChangeShapes Go.WideShapes Go.RowKit Go.Own Go.Proofs.Fav

set_option maxRecDepth 100000 in
theorem favourMore_lifted (os : Os) (started : os.Started) (H : Type) (enc : TypeId × Value → H) :
    ReturnsInHanded {} Try.checked os 6 .any (Rows.favourMoreSpec.pre6 enc Try.prog Try.f6 Rows.favourMoreRow.domain false) (Rows.favourMoreSpec.post enc Try.prog Try.f6 false true false false) :=
  row_lifted (C := Try.checked) (P := Try.prog) rfl Try.own started (by kernel_rfl) Try.func6
    (ChangeSpec.witness6 (enc := enc) (C := Try.checked) false ⟨#[], #[.slice none 0 0, .slice none 0 0, .int .u8 0, .int .u8 0, .int .u8 0], []⟩ 8 (by kernel_rfl) (by kernel_rfl) (by kernel_rfl) (by kernel_rfl))
    Try.laidOut rfl (by kernel_rfl) rfl undBool (fun ds hd => by
      match ds, hd with
      | [d0, d1, d2, d3, d4], _ => rfl)
    (Qs := [_, _, _, _, _]) ⟨vIsss, vInts, vByte, vByte, vByte, trivial⟩
    (fun avs hA0 => by
      obtain ⟨_, _, rfl, ⟨l, hf, hl, rfl⟩, hA1⟩ := alls_cons hA0
      obtain ⟨_, _, rfl, ⟨days, hd, rfl⟩, hA2⟩ := alls_cons hA1
      obtain ⟨_, _, rfl, ⟨fr, h1, rfl⟩, hA3⟩ := alls_cons hA2
      obtain ⟨_, _, rfl, ⟨to, h2, rfl⟩, hA4⟩ := alls_cons hA3
      obtain ⟨_, _, rfl, ⟨b8, h3, rfl⟩, hA5⟩ := alls_cons hA4
      obtain rfl := alls_nil hA5
      exact law_more l days hl fr to b8 (in8_of h1) (in8_of h2) (in8_of h3))

theorem favourMore_holds : Rows.FavourMoreSaid :=
  OpenClaim.holds_of_wide 6 Try.f6 rfl rfl rfl rfl rfl rfl rfl ⟨rfl, rfl, rfl, rfl, rfl⟩ rfl rfl rfl rfl rfl (by kernel_rfl) Try.func6 (by kernel_rfl)
    (of_decide_eq_true (by kernel_rfl)) (by unfold Func.isWrapper; first | (rw [if_pos (by decide +kernel)]; kernel_rfl) | (rw [if_neg (by decide +kernel)]; exact ⟨rfl, rfl⟩))
    (fun os started H enc _ => favourMore_lifted os started H enc)
#print axioms favourMore_holds
end Go.Proofs.Ytcabodhhdeecgaa
