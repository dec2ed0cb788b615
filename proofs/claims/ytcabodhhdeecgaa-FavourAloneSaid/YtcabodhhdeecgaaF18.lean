/-
  The statement FavourAlone of the layer favour holds: for all inputs the law returns true, and each argument reads as before. No conditions.
-/
import Derived.Test.YtcabodhhdeecgaaF15
import Derived.Test.YtcabodhhdeecgaaF10
import Derived.Test.YtcabodhhdeecgaaRows
namespace Go.Proofs.Ytcabodhhdeecgaa
open Go.ChangeShapes Go.WideShapes Go.RowKit Go.Own Go.Proofs.Fav

set_option maxRecDepth 100000 in
theorem favourAlone_lifted (os : Os) (started : os.Started) (H : Type) (enc : TypeId × Value → H) :
    ReturnsInHanded {} Try.checked os 7 .any (Rows.favourAloneSpec.pre6 enc Try.prog Try.f7 Rows.favourAloneRow.domain false) (Rows.favourAloneSpec.post enc Try.prog Try.f7 false true false false) :=
  row_lifted (C := Try.checked) (P := Try.prog) rfl Try.own started (by kernel_rfl) Try.func7
    (ChangeSpec.witness6 (enc := enc) (C := Try.checked) false ⟨#[], #[.slice none 0 0, .slice none 0 0, .int .i64 0], []⟩ 8 (by kernel_rfl) (by kernel_rfl) (by kernel_rfl) (by kernel_rfl))
    Try.laidOut rfl (by kernel_rfl) rfl undBool (fun ds hd => by
      match ds, hd with
      | [d0, d1, d2], _ => rfl)
    (Qs := [_, _, _]) ⟨vIsss, vInts, vInt, trivial⟩
    (fun avs hA0 => by
      obtain ⟨_, _, rfl, ⟨l, hf, hl, rfl⟩, hA1⟩ := alls_cons hA0
      obtain ⟨_, _, rfl, ⟨days, hd, rfl⟩, hA2⟩ := alls_cons hA1
      obtain ⟨_, _, rfl, ⟨day, h1, rfl⟩, hA3⟩ := alls_cons hA2
      obtain rfl := alls_nil hA3
      exact law_alone l days hl day)

theorem favourAlone_holds : Rows.FavourAloneSaid :=
  OpenClaim.holds_of_wide 7 Try.f7 rfl rfl rfl rfl rfl rfl rfl ⟨rfl, rfl, rfl, rfl, rfl⟩ rfl rfl rfl rfl rfl (by kernel_rfl) Try.func7 (by kernel_rfl)
    (of_decide_eq_true (by kernel_rfl)) (by unfold Func.isWrapper; first | (rw [if_pos (by decide +kernel)]; kernel_rfl) | (rw [if_neg (by decide +kernel)]; exact ⟨rfl, rfl⟩))
    (fun os started H enc _ => favourAlone_lifted os started H enc)
#print axioms favourAlone_holds
end Go.Proofs.Ytcabodhhdeecgaa
