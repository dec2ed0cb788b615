/-
  The statement AgreeExplains of the layer agree holds, as a tied card: for all inputs the law returns true, and each argument reads as before, where the listed tables of Go's library are as the program's text lays them.
-/
import Derived.Test.YtjlnaogechkjdaaGreatDoorCb
import Derived.Test.YtjlnaogechkjdaaGreatDoorCards
import Derived.Test.YtjlnaogechkjdaaGreatDoorTie
import Derived.SevenTiedAt

namespace Go.Proofs.YtjlnaogechkjdaaGreatDoor
open Go.ChangeShapes Go.WideShapes Go.RowKit Go.Own

set_option maxRecDepth 100000 in
theorem agreeExplains_lifted (os : Os) (started : os.Started) (H : Type) (enc : TypeId × Value → H) :
    ReturnsInHanded {} Tryz.checked os 3 .any (fun w args => (Rows.agreeExplainsSpec.pre enc Tryz.prog Tryz.f3 Rows.agreeExplainsRow.domain false w args ∧ laidMet Tryz.prog Rows.agreeExplainsRow.laid w) ∧ sizedMet enc Tryz.prog Tryz.f3 (OpenSpec.ofChange Rows.agreeExplainsSpec) false w args) (Rows.agreeExplainsSpec.post enc Tryz.prog Tryz.f3 false true false false) :=
  row_lifted_laid (C := Tryz.checked) (P := Tryz.prog) (laid := Rows.agreeExplainsRow.laid) rfl Tryz.own started (by kernel_rfl) Tryz.func3
    (ChangeSpec.witness_at (enc := enc) (C := Tryz.checked) (os := os) (X := fun w _ => laidMet Tryz.prog Rows.agreeExplainsRow.laid w) false (laidWorld os) #[.slice none 0 0, .slice none 0 0, .slice none 0 0] 8 (World.laidAll_os _ _ _) (by kernel_rfl) (by kernel_rfl) (by kernel_rfl) (by kernel_rfl) (by kernel_rfl) (laid_met os _))
    Tryz.laidOut rfl (by kernel_rfl) rfl undBool (fun ds hd => by
      match ds, hd with
      | [d0, d1, d2], _ => rfl)
    (Qs := [_, _, _]) ⟨vEnts, vEnts, vMsgs, trivial⟩
    (fun avs hA0 => by
      obtain ⟨_, _, rfl, ⟨a, _, ha, rfl⟩, hA1⟩ := alls_cons hA0
      obtain ⟨_, _, rfl, ⟨b, _, hb, rfl⟩, hA2⟩ := alls_cons hA1
      obtain ⟨_, _, rfl, ⟨fl, _, hfl, rfl⟩, hA3⟩ := alls_cons hA2
      obtain rfl := alls_nil hA3
      exact law_explains a b fl ha hb hfl)
    (fun W h => laid_tabs W h)

theorem agreeExplains_holds : Rows.AgreeExplainsSaid :=
  OpenClaim.holds_of_wide 3 Tryz.f3 rfl rfl rfl rfl rfl rfl rfl ⟨rfl, rfl, rfl, rfl, rfl⟩ rfl rfl rfl rfl rfl (by kernel_rfl) Tryz.func3 (by kernel_rfl)
    (of_decide_eq_true (by kernel_rfl)) (by unfold Func.isWrapper; first | (rw [if_pos (by decide +kernel)]; kernel_rfl) | (rw [if_neg (by decide +kernel)]; exact ⟨rfl, rfl⟩))
    (fun os started H enc _ => agreeExplains_lifted os started H enc)
#print axioms agreeExplains_holds

/-- The tied card. -/
theorem agreeExplainsCard_holds : Rows.AgreeExplainsCardSaid :=
  Claim7.holds_tied_plain_at .later [] [.data, .data, .data, .sentinel, .sentinel] true (true, "514ebb739cf5a4ea9e414264eb52116af287090ababe9cb32714ee2dbce79135") true
    agreeExplains_holds (fun _ h => by cases h) (by kernel_rfl) (fun _ h => by cases h) agreeExplains_row_tie rfl ⟨rfl, rfl⟩ (by kernel_rfl) rfl
    (fun f fn hf hfn => by
      obtain rfl : f = 3 := Option.some.inj ((show Tryz.prog.funcNamed "consol/consollaw45.AgreeExplains" = some 3 by kernel_rfl).symm.trans hf) |>.symm
      obtain rfl : fn = Tryz.f3 := (Option.some.inj (Tryz.func3.symm.trans hfn)).symm
      exact ⟨by kernel_rfl, fun j t ht => by
        rw [Tryz.params3] at ht
        have h0 : t = 22 ∨ t = 22 ∨ t = 23 := by
          match j, ht with
          | 0, h => exact .inl ((Option.some.inj h).symm)
          | 1, h => exact .inr (.inl ((Option.some.inj h).symm))
          | 2, h => exact .inr (.inr ((Option.some.inj h).symm))
          | _ + 3, h => simp at h
        rcases h0 with rfl | rfl | rfl
        · exact (show Tryz.prog.wantsStandIn 22 = false by kernel_rfl)
        · exact (show Tryz.prog.wantsStandIn 22 = false by kernel_rfl)
        · exact (show Tryz.prog.wantsStandIn 23 = false by kernel_rfl)⟩)
    (by kernel_rfl)
#print axioms agreeExplainsCard_holds
end Go.Proofs.YtjlnaogechkjdaaGreatDoor
