/-
  The statement LedgerTurns of the layer ledger holds, as a tied card: for all inputs the law returns true, and each argument reads as before, where the listed tables of Go's library are as the program's text lays them.
-/
import Derived.Test.YtglalejjcfcfkaaDoorL9
import Derived.Test.YtglalejjcfcfkaaDoorCards
import Derived.Test.YtglalejjcfcfkaaDoorTie
import Derived.SevenTiedAt
import Derived.Test.YtglalejjcfcfkaaDoorL7
namespace Go.Proofs.YtglalejjcfcfkaaDoor
open Go.ChangeShapes Go.WideShapes Go.RowKit Go.Own

set_option maxRecDepth 100000 in
theorem ledgerTurns_lifted (os : Os) (started : os.Started) (H : Type) (enc : TypeId × Value → H) :
    ReturnsInHanded {} Tryd.checked os 5 .any (fun w args => (Rows.ledgerTurnsSpec.pre enc Tryd.prog Tryd.f5 Rows.ledgerTurnsRow.domain false w args ∧ laidMet Tryd.prog Rows.ledgerTurnsRow.laid w) ∧ sizedMet enc Tryd.prog Tryd.f5 (OpenSpec.ofChange Rows.ledgerTurnsSpec) false w args) (Rows.ledgerTurnsSpec.post enc Tryd.prog Tryd.f5 false true false false) :=
  row_lifted_laid (C := Tryd.checked) (P := Tryd.prog) (laid := Rows.ledgerTurnsRow.laid) rfl Tryd.own started (by kernel_rfl) Tryd.func5
    (ChangeSpec.witness_at (enc := enc) (C := Tryd.checked) (os := os) (X := fun w _ => laidMet Tryd.prog Rows.ledgerTurnsRow.laid w) false (laidWorld os) #[.slice none 0 0, .int .u8 0, .int .i64 0] 8 rfl (by kernel_rfl) (by kernel_rfl) (by kernel_rfl) (by kernel_rfl) (by kernel_rfl) (laid_met os _))
    Tryd.laidOut rfl (by kernel_rfl) rfl undBool (fun ds hd => by
      match ds, hd with
      | [d0, d1, d2], _ => rfl)
    (Qs := [_, _, _]) ⟨vEnts, opV_int und5', opV_int und3', trivial⟩
    (fun avs hA0 => by
      obtain ⟨_, _, rfl, ⟨l, _, hl, rfl⟩, hA1⟩ := alls_cons hA0
      obtain ⟨_, _, rfl, ⟨b, hb, rfl⟩, hA2⟩ := alls_cons hA1
      obtain ⟨_, _, rfl, ⟨a, _, rfl⟩, hA3⟩ := alls_cons hA2
      obtain rfl := alls_nil hA3
      exact law_turns l hl b (in8_of hb) a)

theorem ledgerTurns_holds : Rows.LedgerTurnsSaid :=
  OpenClaim.holds_of_wide 5 Tryd.f5 rfl rfl rfl rfl rfl rfl rfl ⟨rfl, rfl, rfl, rfl, rfl⟩ rfl rfl rfl rfl rfl (by kernel_rfl) Tryd.func5 (by kernel_rfl)
    (of_decide_eq_true (by kernel_rfl)) (by unfold Func.isWrapper; first | (rw [if_pos (by decide +kernel)]; kernel_rfl) | (rw [if_neg (by decide +kernel)]; exact ⟨rfl, rfl⟩))
    (fun os started H enc _ => ledgerTurns_lifted os started H enc)
#print axioms ledgerTurns_holds
/-- The tied card. -/
theorem ledgerTurnsCard_holds : Rows.LedgerTurnsCardSaid :=
  Claim7.holds_tied_plain_at .later [] [.data, .data, .data] true (true, "29b8862273d06eac4769873cac3025ad183ecc6296430306e70ed6c8ce78b5a6") true
    ledgerTurns_holds (fun _ h => by cases h) (by kernel_rfl) (fun _ h => by cases h) ledgerTurns_row_tie rfl ⟨rfl, rfl⟩ (by kernel_rfl) rfl
    (fun f fn hf hfn => by
      obtain rfl : f = 5 := Option.some.inj ((show Tryd.prog.funcNamed "consol/consollaw42.LedgerTurns" = some 5 by kernel_rfl).symm.trans hf) |>.symm
      obtain rfl : fn = Tryd.f5 := (Option.some.inj (Tryd.func5.symm.trans hfn)).symm
      exact ⟨by kernel_rfl, fun j t ht => by
        rw [Tryd.params5] at ht
        have h0 : t = 22 ∨ t = 5 ∨ t = 3 := by
          match j, ht with
          | 0, ht => exact .inl (by simpa using ht.symm)
          | 1, ht => exact .inr (.inl (by simpa using ht.symm))
          | 2, ht => exact .inr (.inr (by simpa using ht.symm))
          | j + 3, ht => simp at ht
        rcases h0 with rfl | rfl | rfl
        · exact (show Tryd.prog.wantsStandIn 22 = false by kernel_rfl)
        · exact (show Tryd.prog.wantsStandIn 5 = false by kernel_rfl)
        · exact (show Tryd.prog.wantsStandIn 3 = false by kernel_rfl)⟩)
    (by kernel_rfl)
#print axioms ledgerTurnsCard_holds
end Go.Proofs.YtglalejjcfcfkaaDoor
