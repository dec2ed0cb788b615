/-
  The statement AgreeConvicts of the layer agree holds, as a tied card: for all inputs the law returns true, and each argument reads as before, where the listed tables of Go's library are as the program's text lays them.
-/
import Derived.Test.YtjlnaogechkjdaaDoorCb
import Derived.Test.YtjlnaogechkjdaaDoorCards
import Derived.Test.YtjlnaogechkjdaaDoorTie
import Derived.SevenTiedAt

namespace Go.Proofs.YtjlnaogechkjdaaDoor
open Go.ChangeShapes Go.WideShapes Go.RowKit Go.Own

set_option maxRecDepth 100000 in
theorem agreeConvicts_lifted (os : Os) (started : os.Started) (H : Type) (enc : TypeId × Value → H) :
    ReturnsInHanded {} Tryd.checked os 4 .any (fun w args => (Rows.agreeConvictsSpec.pre enc Tryd.prog Tryd.f4 Rows.agreeConvictsRow.domain false w args ∧ laidMet Tryd.prog Rows.agreeConvictsRow.laid w) ∧ sizedMet enc Tryd.prog Tryd.f4 (OpenSpec.ofChange Rows.agreeConvictsSpec) false w args) (Rows.agreeConvictsSpec.post enc Tryd.prog Tryd.f4 false true false false) :=
  row_lifted_laid (C := Tryd.checked) (P := Tryd.prog) (laid := Rows.agreeConvictsRow.laid) rfl Tryd.own started (by kernel_rfl) Tryd.func4
    (ChangeSpec.witness_at (enc := enc) (C := Tryd.checked) (os := os) (X := fun w _ => laidMet Tryd.prog Rows.agreeConvictsRow.laid w) false (laidWorld os) #[.slice none 0 0, .slice none 0 0, .int .u8 0, .int .u8 0] 8 (World.laidAll_os _ _ _) (by kernel_rfl) (by kernel_rfl) (by kernel_rfl) (by kernel_rfl) (by kernel_rfl) (laid_met os _))
    Tryd.laidOut rfl (by kernel_rfl) rfl undBool (fun ds hd => by
      match ds, hd with
      | [d0, d1, d2, d3], _ => rfl)
    (Qs := [_, _, _, _]) ⟨vEnts, vEnts, u8V, u8V, trivial⟩
    (fun avs hA0 => by
      obtain ⟨_, _, rfl, ⟨a, _, ha, rfl⟩, hA1⟩ := alls_cons hA0
      obtain ⟨_, _, rfl, ⟨b, _, hb, rfl⟩, hA2⟩ := alls_cons hA1
      obtain ⟨_, _, rfl, ⟨m, hm, rfl⟩, hA3⟩ := alls_cons hA2
      obtain ⟨_, _, rfl, ⟨n, hn, rfl⟩, hA4⟩ := alls_cons hA3
      obtain rfl := alls_nil hA4
      exact law_convicts a b m n hm hn ha hb)
    (fun W h => laid_tabs W h)

theorem agreeConvicts_holds : Rows.AgreeConvictsSaid :=
  OpenClaim.holds_of_wide 4 Tryd.f4 rfl rfl rfl rfl rfl rfl rfl ⟨rfl, rfl, rfl, rfl, rfl⟩ rfl rfl rfl rfl rfl (by kernel_rfl) Tryd.func4 (by kernel_rfl)
    (of_decide_eq_true (by kernel_rfl)) (by unfold Func.isWrapper; first | (rw [if_pos (by decide +kernel)]; kernel_rfl) | (rw [if_neg (by decide +kernel)]; exact ⟨rfl, rfl⟩))
    (fun os started H enc _ => agreeConvicts_lifted os started H enc)
#print axioms agreeConvicts_holds

/-- The tied card. -/
theorem agreeConvictsCard_holds : Rows.AgreeConvictsCardSaid :=
  Claim7.holds_tied_plain_at .later [] [.data, .data, .data, .sentinel, .sentinel] true (true, "7f8a3204ec2ad8c286df029f6f00ad715e0efefdf8ca5b9c2e92ea0bdf91b5d4") true
    agreeConvicts_holds (fun _ h => by cases h) (by kernel_rfl) (fun _ h => by cases h) agreeConvicts_row_tie rfl ⟨rfl, rfl⟩ (by kernel_rfl) rfl
    (fun f fn hf hfn => by
      obtain rfl : f = 4 := Option.some.inj ((show Tryd.prog.funcNamed "consol/consollaw45.AgreeConvicts" = some 4 by kernel_rfl).symm.trans hf) |>.symm
      obtain rfl : fn = Tryd.f4 := (Option.some.inj (Tryd.func4.symm.trans hfn)).symm
      exact ⟨by kernel_rfl, fun j t ht => by
        rw [Tryd.params4] at ht
        have h0 : t = 22 ∨ t = 22 ∨ t = 5 ∨ t = 5 := by
          match j, ht with
          | 0, h => exact .inl ((Option.some.inj h).symm)
          | 1, h => exact .inr (.inl ((Option.some.inj h).symm))
          | 2, h => exact .inr (.inr (.inl ((Option.some.inj h).symm)))
          | 3, h => exact .inr (.inr (.inr ((Option.some.inj h).symm)))
          | _ + 4, h => simp at h
        rcases h0 with rfl | rfl | rfl | rfl
        · exact (show Tryd.prog.wantsStandIn 22 = false by kernel_rfl)
        · exact (show Tryd.prog.wantsStandIn 22 = false by kernel_rfl)
        · exact (show Tryd.prog.wantsStandIn 5 = false by kernel_rfl)
        · exact (show Tryd.prog.wantsStandIn 5 = false by kernel_rfl)⟩)
    (by kernel_rfl)
#print axioms agreeConvictsCard_holds
end Go.Proofs.YtjlnaogechkjdaaDoor
