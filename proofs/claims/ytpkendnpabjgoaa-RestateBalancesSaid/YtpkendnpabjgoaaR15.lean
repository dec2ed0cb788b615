/-
  The statement RestateBalances of the layer restate holds: for all inputs the law returns true, and each argument reads as before. No conditions.
-/
import Derived.Test.YtpkendnpabjgoaaR14
import Derived.Test.YtpkendnpabjgoaaRows
namespace Go.Proofs.Ytpkendnpabjgoaa
open Go.ChangeShapes Go.WideShapes Go.RowKit Go.Own

set_option maxRecDepth 100000 in
theorem restateBalances_lifted (os : Os) (started : os.Started) (H : Type) (enc : TypeId × Value → H) :
    ReturnsInHanded {} Try.checked os 6 .any (Rows.restateBalancesSpec.pre6 enc Try.prog Try.f6 Rows.restateBalancesRow.domain false) (Rows.restateBalancesSpec.post enc Try.prog Try.f6 false true false false) :=
  row_lifted (C := Try.checked) (P := Try.prog) rfl Try.own started (by kernel_rfl) Try.func6
    (ChangeSpec.witness6 (enc := enc) (C := Try.checked) false ⟨#[], #[.slice none 0 0, .slice none 0 0, .slice none 0 0], []⟩ 8 (by kernel_rfl) (by kernel_rfl) (by kernel_rfl) (by kernel_rfl))
    Try.laidOut rfl (by kernel_rfl) rfl undBool (fun ds hd => by
      match ds, hd with
      | [d0, d1, d2], _ => rfl)
    (Qs := [_, _, _]) ⟨vPays, vInts, vBools, trivial⟩
    (fun avs hA0 => by
      obtain ⟨_, _, rfl, ⟨ps, hps, hpl, rfl⟩, hA1⟩ := alls_cons hA0
      obtain ⟨_, _, rfl, ⟨ds, _, hdl, rfl⟩, hA2⟩ := alls_cons hA1
      obtain ⟨_, _, rfl, ⟨ms, hml, rfl⟩, hA3⟩ := alls_cons hA2
      obtain rfl := alls_nil hA3
      exact law_balances ps hps ds ms hpl hdl hml (fun h20 hb h1 h2 => balances_plain ps ds ms h20 hb h1 h2))

theorem restateBalances_holds : Rows.RestateBalancesSaid :=
  OpenClaim.holds_of_wide 6 Try.f6 rfl rfl rfl rfl rfl rfl rfl ⟨rfl, rfl, rfl, rfl, rfl⟩ rfl rfl rfl rfl rfl (by kernel_rfl) Try.func6 (by kernel_rfl)
    (of_decide_eq_true (by kernel_rfl)) (by unfold Func.isWrapper; first | (rw [if_pos (by decide +kernel)]; kernel_rfl) | (rw [if_neg (by decide +kernel)]; exact ⟨rfl, rfl⟩))
    (fun os started H enc _ => restateBalances_lifted os started H enc)
#print axioms restateBalances_holds
end Go.Proofs.Ytpkendnpabjgoaa
