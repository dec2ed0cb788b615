/-
  The statement WireBack of the layer wire holds, as a tied card: for all inputs the law returns true, and each argument reads as before, where the listed tables of Go's library are as the program's text lays them.
-/
import Derived.Test.YthepodkgphnibaaDoorCb
import Derived.Test.YthepodkgphnibaaDoorCards
import Derived.Test.YthepodkgphnibaaDoorTie
import Derived.SevenTiedAt

namespace Go.Proofs.YthepodkgphnibaaDoor
open Go.ChangeShapes Go.WideShapes Go.RowKit Go.Own

set_option maxRecDepth 100000 in
theorem wireBack_lifted (os : Os) (started : os.Started) (H : Type) (enc : TypeId × Value → H) :
    ReturnsInHanded {} Tryd.checked os 8 .any (fun w args => (Rows.wireBackSpec.pre enc Tryd.prog Tryd.f8 Rows.wireBackRow.domain false w args ∧ laidMet Tryd.prog Rows.wireBackRow.laid w) ∧ sizedMet enc Tryd.prog Tryd.f8 (OpenSpec.ofChange Rows.wireBackSpec) false w args) (Rows.wireBackSpec.post enc Tryd.prog Tryd.f8 false true false false) :=
  row_lifted_laid (C := Tryd.checked) (P := Tryd.prog) (laid := Rows.wireBackRow.laid) rfl Tryd.own started (by kernel_rfl) Tryd.func8
    (ChangeSpec.witness_at (enc := enc) (C := Tryd.checked) (os := os) (X := fun w _ => laidMet Tryd.prog Rows.wireBackRow.laid w) false (laidWorld os) #[.slice none 0 0, .string ⟨#[]⟩] 8 (World.laidAll_os _ _ _) (by kernel_rfl) (by kernel_rfl) (by kernel_rfl) (by kernel_rfl) (by kernel_rfl) (laid_met os _))
    Tryd.laidOut rfl (by kernel_rfl) rfl undBool (fun ds hd => by
      match ds, hd with
      | [d0, d1], _ => rfl)
    (Qs := [_, _]) ⟨vVals, vStr, trivial⟩
    (fun avs hA0 => by
      obtain ⟨_, _, rfl, ⟨l, hin, hl, rfl⟩, hA1⟩ := alls_cons hA0
      obtain ⟨_, _, rfl, ⟨tail, ht, rfl⟩, hA2⟩ := alls_cons hA1
      obtain rfl := alls_nil hA2
      exact law_back l tail hl ht hin)
    (fun W h => laid_tabs W h)

theorem wireBack_holds : Rows.WireBackSaid :=
  OpenClaim.holds_of_wide 8 Tryd.f8 rfl rfl rfl rfl rfl rfl rfl ⟨rfl, rfl, rfl, rfl, rfl⟩ rfl rfl rfl rfl rfl (by kernel_rfl) Tryd.func8 (by kernel_rfl)
    (of_decide_eq_true (by kernel_rfl)) (by unfold Func.isWrapper; first | (rw [if_pos (by decide +kernel)]; kernel_rfl) | (rw [if_neg (by decide +kernel)]; exact ⟨rfl, rfl⟩))
    (fun os started H enc _ => wireBack_lifted os started H enc)
#print axioms wireBack_holds

/-- The tied card. -/
theorem wireBackCard_holds : Rows.WireBackCardSaid :=
  Claim7.holds_tied_plain_at .later [] [.data, .data, .data, .sentinel, .sentinel] true (true, "e671801c54256bb4cc9d520ee9821a0a37fd6e7aa336f194a8682cb559f77f2b") true
    wireBack_holds (fun _ h => by cases h) (by kernel_rfl) (fun _ h => by cases h) wireBack_row_tie rfl ⟨rfl, rfl⟩ (by kernel_rfl) rfl
    (fun f fn hf hfn => by
      obtain rfl : f = 8 := Option.some.inj ((show Tryd.prog.funcNamed "consol/consollaw01.WireBack" = some 8 by kernel_rfl).symm.trans hf) |>.symm
      obtain rfl : fn = Tryd.f8 := (Option.some.inj (Tryd.func8.symm.trans hfn)).symm
      exact ⟨by kernel_rfl, fun j t ht => by
        rw [Tryd.params8] at ht
        have h0 : t = 28 ∨ t = 9 := by
          match j, ht with
          | 0, h => exact .inl ((Option.some.inj h).symm)
          | 1, h => exact .inr ((Option.some.inj h).symm)
          | _ + 2, h => simp at h
        rcases h0 with rfl | rfl
        · exact (show Tryd.prog.wantsStandIn 28 = false by kernel_rfl)
        · exact (show Tryd.prog.wantsStandIn 9 = false by kernel_rfl)⟩)
    (by kernel_rfl)
#print axioms wireBackCard_holds
end Go.Proofs.YthepodkgphnibaaDoor
