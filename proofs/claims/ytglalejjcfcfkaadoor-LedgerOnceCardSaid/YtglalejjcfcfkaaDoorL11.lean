/-
  The statement LedgerOnce of the layer ledger holds, as a tied card: for all inputs the law returns true, and each argument reads as before, where the listed tables of Go's library are as the program's text lays them.
-/
import Derived.Test.YtglalejjcfcfkaaDoorL9
import Derived.Test.YtglalejjcfcfkaaDoorCards
import Derived.Test.YtglalejjcfcfkaaDoorTie
import Derived.SevenTiedAt
import Derived.Test.YtglalejjcfcfkaaDoorL8
namespace Go.Proofs.YtglalejjcfcfkaaDoor
open Go.ChangeShapes Go.WideShapes Go.RowKit Go.Own

set_option maxRecDepth 100000 in
theorem ledgerOnce_lifted (os : Os) (started : os.Started) (H : Type) (enc : TypeId × Value → H) :
    ReturnsInHanded {} Tryd.checked os 4 .any (fun w args => (Rows.ledgerOnceSpec.pre enc Tryd.prog Tryd.f4 Rows.ledgerOnceRow.domain false w args ∧ laidMet Tryd.prog Rows.ledgerOnceRow.laid w) ∧ sizedMet enc Tryd.prog Tryd.f4 (OpenSpec.ofChange Rows.ledgerOnceSpec) false w args) (Rows.ledgerOnceSpec.post enc Tryd.prog Tryd.f4 false true false false) :=
  row_lifted_laid (C := Tryd.checked) (P := Tryd.prog) (laid := Rows.ledgerOnceRow.laid) rfl Tryd.own started (by kernel_rfl) Tryd.func4
    (ChangeSpec.witness_at (enc := enc) (C := Tryd.checked) (os := os) (X := fun w _ => laidMet Tryd.prog Rows.ledgerOnceRow.laid w) false (laidWorld os) #[.slice none 0 0] 8 rfl (by kernel_rfl) (by kernel_rfl) (by kernel_rfl) (by kernel_rfl) (by kernel_rfl) (laid_met os _))
    Tryd.laidOut rfl (by kernel_rfl) rfl undBool (fun ds hd => by
      match ds, hd with
      | [d0], _ => rfl)
    (Qs := [_]) ⟨vEnts, trivial⟩
    (fun avs hA0 => by
      obtain ⟨_, _, rfl, ⟨l, _, hl, rfl⟩, hA1⟩ := alls_cons hA0
      obtain rfl := alls_nil hA1
      exact law_once l hl)

theorem ledgerOnce_holds : Rows.LedgerOnceSaid :=
  OpenClaim.holds_of_wide 4 Tryd.f4 rfl rfl rfl rfl rfl rfl rfl ⟨rfl, rfl, rfl, rfl, rfl⟩ rfl rfl rfl rfl rfl (by kernel_rfl) Tryd.func4 (by kernel_rfl)
    (of_decide_eq_true (by kernel_rfl)) (by unfold Func.isWrapper; first | (rw [if_pos (by decide +kernel)]; kernel_rfl) | (rw [if_neg (by decide +kernel)]; exact ⟨rfl, rfl⟩))
    (fun os started H enc _ => ledgerOnce_lifted os started H enc)
#print axioms ledgerOnce_holds
/-- The tied card. -/
theorem ledgerOnceCard_holds : Rows.LedgerOnceCardSaid :=
  Claim7.holds_tied_plain_at .later [] [.data, .data, .data] true (true, "29b8862273d06eac4769873cac3025ad183ecc6296430306e70ed6c8ce78b5a6") true
    ledgerOnce_holds (fun _ h => by cases h) (by kernel_rfl) (fun _ h => by cases h) ledgerOnce_row_tie rfl ⟨rfl, rfl⟩ (by kernel_rfl) rfl
    (fun f fn hf hfn => by
      obtain rfl : f = 4 := Option.some.inj ((show Tryd.prog.funcNamed "consol/consollaw42.LedgerOnce" = some 4 by kernel_rfl).symm.trans hf) |>.symm
      obtain rfl : fn = Tryd.f4 := (Option.some.inj (Tryd.func4.symm.trans hfn)).symm
      exact ⟨by kernel_rfl, fun j t ht => by
        rw [Tryd.params4] at ht
        have h0 : t = 22 := by
          rcases j with _ | j
          · simpa using ht.symm
          · simp at ht
        subst h0
        exact (show Tryd.prog.wantsStandIn 22 = false by kernel_rfl)⟩)
    (by kernel_rfl)
#print axioms ledgerOnceCard_holds
end Go.Proofs.YtglalejjcfcfkaaDoor
