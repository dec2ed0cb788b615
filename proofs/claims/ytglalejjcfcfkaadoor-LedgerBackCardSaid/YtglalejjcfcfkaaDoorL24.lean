/-
  The statement LedgerBack of the layer ledger holds, as a tied card: for all inputs the law returns true, and each argument reads as before, where the listed tables of Go's library are as the program's text lays them.
-/
import Derived.Test.YtglalejjcfcfkaaDoorCb
import Derived.Test.YtglalejjcfcfkaaDoorCards
import Derived.Test.YtglalejjcfcfkaaDoorTie
import Derived.SevenTiedAt

namespace Go.Proofs.YtglalejjcfcfkaaDoor
open Go.ChangeShapes Go.WideShapes Go.RowKit Go.Own

set_option maxRecDepth 100000 in
theorem ledgerBack_lifted (os : Os) (started : os.Started) (H : Type) (enc : TypeId × Value → H) :
    ReturnsInHanded {} Tryd.checked os 7 .any (fun w args => (Rows.ledgerBackSpec.pre enc Tryd.prog Tryd.f7 Rows.ledgerBackRow.domain false w args ∧ laidMet Tryd.prog Rows.ledgerBackRow.laid w) ∧ sizedMet enc Tryd.prog Tryd.f7 (OpenSpec.ofChange Rows.ledgerBackSpec) false w args) (Rows.ledgerBackSpec.post enc Tryd.prog Tryd.f7 false true false false) :=
  row_lifted_laid (C := Tryd.checked) (P := Tryd.prog) (laid := Rows.ledgerBackRow.laid) rfl Tryd.own started (by kernel_rfl) Tryd.func7
    (ChangeSpec.witness_at (enc := enc) (C := Tryd.checked) (os := os) (X := fun w _ => laidMet Tryd.prog Rows.ledgerBackRow.laid w) false (laidWorld os) #[.agg #[.int .i64 0, .int .i64 0, .int .i64 0, .int .i64 0, .int .i64 0], .string ⟨#[]⟩] 8 (World.laidAll_os _ _ _) (by kernel_rfl) (by kernel_rfl) (by kernel_rfl) (by kernel_rfl) (by kernel_rfl) (laid_met os _))
    Tryd.laidOut rfl (by kernel_rfl) rfl undBool (fun ds hd => by
      match ds, hd with
      | [d0, d1], _ => rfl)
    (Qs := [_, _]) ⟨vEnt, vStr, trivial⟩
    (fun avs hA0 => by
      obtain ⟨_, _, rfl, ⟨x, hx, rfl⟩, hA1⟩ := alls_cons hA0
      obtain ⟨_, _, rfl, ⟨s, hs, rfl⟩, hA2⟩ := alls_cons hA1
      obtain rfl := alls_nil hA2
      exact law_back x s hs)
    (fun W h => laid_tabs W h)

theorem ledgerBack_holds : Rows.LedgerBackSaid :=
  OpenClaim.holds_of_wide 7 Tryd.f7 rfl rfl rfl rfl rfl rfl rfl ⟨rfl, rfl, rfl, rfl, rfl⟩ rfl rfl rfl rfl rfl (by kernel_rfl) Tryd.func7 (by kernel_rfl)
    (of_decide_eq_true (by kernel_rfl)) (by unfold Func.isWrapper; first | (rw [if_pos (by decide +kernel)]; kernel_rfl) | (rw [if_neg (by decide +kernel)]; exact ⟨rfl, rfl⟩))
    (fun os started H enc _ => ledgerBack_lifted os started H enc)
#print axioms ledgerBack_holds

/-- The tied card. -/
theorem ledgerBackCard_holds : Rows.LedgerBackCardSaid :=
  Claim7.holds_tied_plain_at .later [] [.data, .data, .data, .sentinel, .sentinel] true (true, "29b8862273d06eac4769873cac3025ad183ecc6296430306e70ed6c8ce78b5a6") true
    ledgerBack_holds (fun _ h => by cases h) (by kernel_rfl) (fun _ h => by cases h) ledgerBack_row_tie rfl ⟨rfl, rfl⟩ (by kernel_rfl) rfl
    (fun f fn hf hfn => by
      obtain rfl : f = 7 := Option.some.inj ((show Tryd.prog.funcNamed "consol/consollaw42.LedgerBack" = some 7 by kernel_rfl).symm.trans hf) |>.symm
      obtain rfl : fn = Tryd.f7 := (Option.some.inj (Tryd.func7.symm.trans hfn)).symm
      exact ⟨by kernel_rfl, fun j t ht => by
        rw [Tryd.params7] at ht
        have h0 : t = 28 ∨ t = 9 := by
          match j, ht with
          | 0, h => exact .inl ((Option.some.inj h).symm)
          | 1, h => exact .inr ((Option.some.inj h).symm)
          | _ + 2, h => simp at h
        rcases h0 with rfl | rfl
        · exact (show Tryd.prog.wantsStandIn 28 = false by kernel_rfl)
        · exact (show Tryd.prog.wantsStandIn 9 = false by kernel_rfl)⟩)
    (by kernel_rfl)
#print axioms ledgerBackCard_holds
end Go.Proofs.YtglalejjcfcfkaaDoor
