/-
  The statement AgreeTells of the layer agree holds, as a tied card: for all inputs the law returns true, and each argument reads as before, where the listed tables of Go's library are as the program's text lays them.
-/
import Derived.Test.YtjlnaogechkjdaaDoorCc
import Derived.Test.YtjlnaogechkjdaaDoorCards
import Derived.Test.YtjlnaogechkjdaaDoorTie
import Derived.SevenTiedAt

namespace Go.Proofs.YtjlnaogechkjdaaDoor
open Go.ChangeShapes Go.WideShapes Go.RowKit Go.Own

set_option maxRecDepth 100000 in
theorem agreeTells_lifted (os : Os) (started : os.Started) (H : Type) (enc : TypeId × Value → H) :
    ReturnsInHanded {} Tryd.checked os 3 .any (fun w args => (Rows.agreeTellsSpec.pre enc Tryd.prog Tryd.f3 Rows.agreeTellsRow.domain false w args ∧ laidMet Tryd.prog Rows.agreeTellsRow.laid w) ∧ sizedMet enc Tryd.prog Tryd.f3 (OpenSpec.ofChange Rows.agreeTellsSpec) false w args) (Rows.agreeTellsSpec.post enc Tryd.prog Tryd.f3 false true false false) :=
  row_lifted_laid (C := Tryd.checked) (P := Tryd.prog) (laid := Rows.agreeTellsRow.laid) rfl Tryd.own started (by kernel_rfl) Tryd.func3
    (ChangeSpec.witness_at (enc := enc) (C := Tryd.checked) (os := os) (X := fun w _ => laidMet Tryd.prog Rows.agreeTellsRow.laid w) false (laidWorld os) #[.slice none 0 0, .slice none 0 0, .slice none 0 0, .slice none 0 0, .agg #[.int .i64 0, .string ⟨#[]⟩, .int .i64 0], .agg #[.int .i64 0, .string ⟨#[]⟩, .int .i64 0]] 8 (World.laidAll_os _ _ _) (by kernel_rfl) (by kernel_rfl) (by kernel_rfl) (by kernel_rfl) (by kernel_rfl) (laid_met os _))
    Tryd.laidOut rfl (by kernel_rfl) rfl undBool (fun ds hd => by
      match ds, hd with
      | [d0, d1, d2, d3, d4, d5], _ => rfl)
    (Qs := [_, _, _, _, _, _]) ⟨vEnts, vEnts, vMsgs, vSeals, vSgn, vSgn, trivial⟩
    (fun avs hA0 => by
      obtain ⟨_, _, rfl, ⟨a, _, ha, rfl⟩, hA1⟩ := alls_cons hA0
      obtain ⟨_, _, rfl, ⟨b, _, hb, rfl⟩, hA2⟩ := alls_cons hA1
      obtain ⟨_, _, rfl, ⟨fl, _, hfl, rfl⟩, hA3⟩ := alls_cons hA2
      obtain ⟨_, _, rfl, ⟨l, _, hl, rfl⟩, hA4⟩ := alls_cons hA3
      obtain ⟨_, _, rfl, ⟨s, hs, rfl⟩, hA5⟩ := alls_cons hA4
      obtain ⟨_, _, rfl, ⟨t, ht, rfl⟩, hA6⟩ := alls_cons hA5
      obtain rfl := alls_nil hA6
      exact law_tells a b fl l s t ha hb hfl hl hs ht)
    (fun W h => laid_tabs W h)

theorem agreeTells_holds : Rows.AgreeTellsSaid :=
  OpenClaim.holds_of_wide 3 Tryd.f3 rfl rfl rfl rfl rfl rfl rfl ⟨rfl, rfl, rfl, rfl, rfl⟩ rfl rfl rfl rfl rfl (by kernel_rfl) Tryd.func3 (by kernel_rfl)
    (of_decide_eq_true (by kernel_rfl)) (by unfold Func.isWrapper; first | (rw [if_pos (by decide +kernel)]; kernel_rfl) | (rw [if_neg (by decide +kernel)]; exact ⟨rfl, rfl⟩))
    (fun os started H enc _ => agreeTells_lifted os started H enc)
#print axioms agreeTells_holds

/-- The tied card. -/
theorem agreeTellsCard_holds : Rows.AgreeTellsCardSaid :=
  Claim7.holds_tied_plain_at .later [] [.data, .data, .data, .sentinel, .sentinel] true (true, "7f8a3204ec2ad8c286df029f6f00ad715e0efefdf8ca5b9c2e92ea0bdf91b5d4") true
    agreeTells_holds (fun _ h => by cases h) (by kernel_rfl) (fun _ h => by cases h) agreeTells_row_tie rfl ⟨rfl, rfl⟩ (by kernel_rfl) rfl
    (fun f fn hf hfn => by
      obtain rfl : f = 3 := Option.some.inj ((show Tryd.prog.funcNamed "consol/consollaw45.AgreeTells" = some 3 by kernel_rfl).symm.trans hf) |>.symm
      obtain rfl : fn = Tryd.f3 := (Option.some.inj (Tryd.func3.symm.trans hfn)).symm
      exact ⟨by kernel_rfl, fun j t ht => by
        rw [Tryd.params3] at ht
        have h0 : t = 22 ∨ t = 22 ∨ t = 23 ∨ t = 24 ∨ t = 26 ∨ t = 26 := by
          match j, ht with
          | 0, h => exact .inl ((Option.some.inj h).symm)
          | 1, h => exact .inr (.inl ((Option.some.inj h).symm))
          | 2, h => exact .inr (.inr (.inl ((Option.some.inj h).symm)))
          | 3, h => exact .inr (.inr (.inr (.inl ((Option.some.inj h).symm))))
          | 4, h => exact .inr (.inr (.inr (.inr (.inl ((Option.some.inj h).symm)))))
          | 5, h => exact .inr (.inr (.inr (.inr (.inr ((Option.some.inj h).symm)))))
          | _ + 6, h => simp at h
        rcases h0 with rfl | rfl | rfl | rfl | rfl | rfl
        · exact (show Tryd.prog.wantsStandIn 22 = false by kernel_rfl)
        · exact (show Tryd.prog.wantsStandIn 22 = false by kernel_rfl)
        · exact (show Tryd.prog.wantsStandIn 23 = false by kernel_rfl)
        · exact (show Tryd.prog.wantsStandIn 24 = false by kernel_rfl)
        · exact (show Tryd.prog.wantsStandIn 26 = false by kernel_rfl)
        · exact (show Tryd.prog.wantsStandIn 26 = false by kernel_rfl)⟩)
    (by kernel_rfl)
#print axioms agreeTellsCard_holds
end Go.Proofs.YtjlnaogechkjdaaDoor
