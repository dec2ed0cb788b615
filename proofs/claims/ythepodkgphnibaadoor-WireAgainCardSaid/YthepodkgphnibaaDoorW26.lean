/-
  The statement WireAgain of the layer wire holds, as a tied card: for all inputs the law returns true, and each argument reads as before, where the listed tables of Go's library are as the program's text lays them.
-/
import Derived.Test.YthepodkgphnibaaDoorCb
import Derived.Test.YthepodkgphnibaaDoorCards
import Derived.Test.YthepodkgphnibaaDoorTie
import Derived.SevenTiedAt

namespace Go.Proofs.YthepodkgphnibaaDoor
open Go.ChangeShapes Go.WideShapes Go.RowKit Go.Own

set_option maxRecDepth 100000 in
theorem wireAgain_lifted (os : Os) (started : os.Started) (H : Type) (enc : TypeId × Value → H) :
    ReturnsInHanded {} Tryd.checked os 4 .any (fun w args => (Rows.wireAgainSpec.pre enc Tryd.prog Tryd.f4 Rows.wireAgainRow.domain false w args ∧ laidMet Tryd.prog Rows.wireAgainRow.laid w) ∧ sizedMet enc Tryd.prog Tryd.f4 (OpenSpec.ofChange Rows.wireAgainSpec) false w args) (Rows.wireAgainSpec.post enc Tryd.prog Tryd.f4 false true false false) :=
  row_lifted_laid (C := Tryd.checked) (P := Tryd.prog) (laid := Rows.wireAgainRow.laid) rfl Tryd.own started (by kernel_rfl) Tryd.func4
    (ChangeSpec.witness_at (enc := enc) (C := Tryd.checked) (os := os) (X := fun w _ => laidMet Tryd.prog Rows.wireAgainRow.laid w) false (laidWorld os) #[.string ⟨#[]⟩, .int .i64 0] 8 (World.laidAll_os _ _ _) (by kernel_rfl) (by kernel_rfl) (by kernel_rfl) (by kernel_rfl) (by kernel_rfl) (laid_met os _))
    Tryd.laidOut rfl (by kernel_rfl) rfl undBool (fun ds hd => by
      match ds, hd with
      | [d0, d1], _ => rfl)
    (Qs := [_, _]) ⟨vStr, vInt, trivial⟩
    (fun avs hA0 => by
      obtain ⟨_, _, rfl, ⟨s, hs, rfl⟩, hA1⟩ := alls_cons hA0
      obtain ⟨_, _, rfl, ⟨what, hw, rfl⟩, hA2⟩ := alls_cons hA1
      obtain rfl := alls_nil hA2
      exact law_again s what hs hw)
    (fun W h => laid_tabs W h)

theorem wireAgain_holds : Rows.WireAgainSaid :=
  OpenClaim.holds_of_wide 4 Tryd.f4 rfl rfl rfl rfl rfl rfl rfl ⟨rfl, rfl, rfl, rfl, rfl⟩ rfl rfl rfl rfl rfl (by kernel_rfl) Tryd.func4 (by kernel_rfl)
    (of_decide_eq_true (by kernel_rfl)) (by unfold Func.isWrapper; first | (rw [if_pos (by decide +kernel)]; kernel_rfl) | (rw [if_neg (by decide +kernel)]; exact ⟨rfl, rfl⟩))
    (fun os started H enc _ => wireAgain_lifted os started H enc)
#print axioms wireAgain_holds

/-- The tied card. -/
theorem wireAgainCard_holds : Rows.WireAgainCardSaid :=
  Claim7.holds_tied_plain_at .later [] [.data, .data, .data, .sentinel, .sentinel] true (true, "e671801c54256bb4cc9d520ee9821a0a37fd6e7aa336f194a8682cb559f77f2b") true
    wireAgain_holds (fun _ h => by cases h) (by kernel_rfl) (fun _ h => by cases h) wireAgain_row_tie rfl ⟨rfl, rfl⟩ (by kernel_rfl) rfl
    (fun f fn hf hfn => by
      obtain rfl : f = 4 := Option.some.inj ((show Tryd.prog.funcNamed "consol/consollaw01.WireAgain" = some 4 by kernel_rfl).symm.trans hf) |>.symm
      obtain rfl : fn = Tryd.f4 := (Option.some.inj (Tryd.func4.symm.trans hfn)).symm
      exact ⟨by kernel_rfl, fun j t ht => by
        rw [Tryd.params4] at ht
        have h0 : t = 9 ∨ t = 3 := by
          match j, ht with
          | 0, h => exact .inl ((Option.some.inj h).symm)
          | 1, h => exact .inr ((Option.some.inj h).symm)
          | _ + 2, h => simp at h
        rcases h0 with rfl | rfl
        · exact (show Tryd.prog.wantsStandIn 9 = false by kernel_rfl)
        · exact (show Tryd.prog.wantsStandIn 3 = false by kernel_rfl)⟩)
    (by kernel_rfl)
#print axioms wireAgainCard_holds
end Go.Proofs.YthepodkgphnibaaDoor
