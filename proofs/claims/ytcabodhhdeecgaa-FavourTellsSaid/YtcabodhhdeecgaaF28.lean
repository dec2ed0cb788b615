/-
  The statement FavourTells of the layer favour holds: for all inputs the law returns true, and each argument reads as before. No conditions.
-/
import Derived.Test.YtcabodhhdeecgaaF27
import Derived.Test.YtcabodhhdeecgaaF10
import Derived.Test.YtcabodhhdeecgaaRows
namespace Go.Proofs.Ytcabodhhdeecgaa
open Go.ChangeShapes Go.WideShapes Go.RowKit Go.Own Go.Proofs.Fav

set_option maxRecDepth 100000 in
theorem favourTells_lifted (os : Os) (started : os.Started) (H : Type) (enc : TypeId × Value → H) :
    ReturnsInHanded {} Try.checked os 3 .any (Rows.favourTellsSpec.pre6 enc Try.prog Try.f3 Rows.favourTellsRow.domain false) (Rows.favourTellsSpec.post enc Try.prog Try.f3 false true false false) :=
  row_lifted (C := Try.checked) (P := Try.prog) rfl Try.own started (by kernel_rfl) Try.func3
    (ChangeSpec.witness6 (enc := enc) (C := Try.checked) false ⟨#[], #[.slice none 0 0, .slice none 0 0], []⟩ 8 (by kernel_rfl) (by kernel_rfl) (by kernel_rfl) (by kernel_rfl))
    Try.laidOut rfl (by kernel_rfl) rfl undBool (fun ds hd => by
      match ds, hd with
      | [d0, d1], _ => rfl)
    (Qs := [_, _]) ⟨vIsss, vInts, trivial⟩
    (fun avs hA0 => by
      obtain ⟨_, _, rfl, ⟨l, hf, hl, rfl⟩, hA1⟩ := alls_cons hA0
      obtain ⟨_, _, rfl, ⟨days, hd, rfl⟩, hA2⟩ := alls_cons hA1
      obtain rfl := alls_nil hA2
      exact law_tells l days hl)

theorem favourTells_holds : Rows.FavourTellsSaid :=
  OpenClaim.holds_of_wide 3 Try.f3 rfl rfl rfl rfl rfl rfl rfl ⟨rfl, rfl, rfl, rfl, rfl⟩ rfl rfl rfl rfl rfl (by kernel_rfl) Try.func3 (by kernel_rfl)
    (of_decide_eq_true (by kernel_rfl)) (by unfold Func.isWrapper; first | (rw [if_pos (by decide +kernel)]; kernel_rfl) | (rw [if_neg (by decide +kernel)]; exact ⟨rfl, rfl⟩))
    (fun os started H enc _ => favourTells_lifted os started H enc)
#print axioms favourTells_holds
end Go.Proofs.Ytcabodhhdeecgaa
