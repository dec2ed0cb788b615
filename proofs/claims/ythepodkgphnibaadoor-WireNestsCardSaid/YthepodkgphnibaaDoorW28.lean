/-
  The statement WireNests of the layer wire holds, as a tied card: for all inputs the law returns true, and each argument reads as before, where the listed tables of Go's library are as the program's text lays them.
-/
import Derived.Test.YthepodkgphnibaaDoorCb
import Derived.Test.YthepodkgphnibaaDoorCards
import Derived.Test.YthepodkgphnibaaDoorTie
import Derived.SevenTiedAt

namespace Go.Proofs.YthepodkgphnibaaDoor
open Go.ChangeShapes Go.WideShapes Go.RowKit Go.Own

set_option maxRecDepth 100000 in
theorem wireNests_lifted (os : Os) (started : os.Started) (H : Type) (enc : TypeId × Value → H) :
    ReturnsInHanded {} Tryd.checked os 6 .any (fun w args => (Rows.wireNestsSpec.pre enc Tryd.prog Tryd.f6 Rows.wireNestsRow.domain false w args ∧ laidMet Tryd.prog Rows.wireNestsRow.laid w) ∧ sizedMet enc Tryd.prog Tryd.f6 (OpenSpec.ofChange Rows.wireNestsSpec) false w args) (Rows.wireNestsSpec.post enc Tryd.prog Tryd.f6 false true false false) :=
  row_lifted_laid (C := Tryd.checked) (P := Tryd.prog) (laid := Rows.wireNestsRow.laid) rfl Tryd.own started (by kernel_rfl) Tryd.func6
    (ChangeSpec.witness_at (enc := enc) (C := Tryd.checked) (os := os) (X := fun w _ => laidMet Tryd.prog Rows.wireNestsRow.laid w) false (laidWorld os) #[.slice none 0 0] 8 (World.laidAll_os _ _ _) (by kernel_rfl) (by kernel_rfl) (by kernel_rfl) (by kernel_rfl) (by kernel_rfl) (laid_met os _))
    Tryd.laidOut rfl (by kernel_rfl) rfl undBool (fun ds hd => by
      match ds, hd with
      | [d0], _ => rfl)
    (Qs := [_]) ⟨vVals, trivial⟩
    (fun avs hA0 => by
      obtain ⟨_, _, rfl, ⟨l, hin, hl, rfl⟩, hA1⟩ := alls_cons hA0
      obtain rfl := alls_nil hA1
      exact law_nests l hl hin)
    (fun W h => laid_tabs W h)

theorem wireNests_holds : Rows.WireNestsSaid :=
  OpenClaim.holds_of_wide 6 Tryd.f6 rfl rfl rfl rfl rfl rfl rfl ⟨rfl, rfl, rfl, rfl, rfl⟩ rfl rfl rfl rfl rfl (by kernel_rfl) Tryd.func6 (by kernel_rfl)
    (of_decide_eq_true (by kernel_rfl)) (by unfold Func.isWrapper; first | (rw [if_pos (by decide +kernel)]; kernel_rfl) | (rw [if_neg (by decide +kernel)]; exact ⟨rfl, rfl⟩))
    (fun os started H enc _ => wireNests_lifted os started H enc)
#print axioms wireNests_holds

/-- The tied card. -/
theorem wireNestsCard_holds : Rows.WireNestsCardSaid :=
  Claim7.holds_tied_plain_at .later [] [.data, .data, .data, .sentinel, .sentinel] true (true, "e671801c54256bb4cc9d520ee9821a0a37fd6e7aa336f194a8682cb559f77f2b") true
    wireNests_holds (fun _ h => by cases h) (by kernel_rfl) (fun _ h => by cases h) wireNests_row_tie rfl ⟨rfl, rfl⟩ (by kernel_rfl) rfl
    (fun f fn hf hfn => by
      obtain rfl : f = 6 := Option.some.inj ((show Tryd.prog.funcNamed "consol/consollaw01.WireNests" = some 6 by kernel_rfl).symm.trans hf) |>.symm
      obtain rfl : fn = Tryd.f6 := (Option.some.inj (Tryd.func6.symm.trans hfn)).symm
      exact ⟨by kernel_rfl, fun j t ht => by
        rw [Tryd.params6] at ht
        have h0 : t = 28 := by
          rcases j with _ | j
          · simpa using ht.symm
          · simp at ht
        subst h0
        exact (show Tryd.prog.wantsStandIn 28 = false by kernel_rfl)⟩)
    (by kernel_rfl)
#print axioms wireNestsCard_holds
end Go.Proofs.YthepodkgphnibaaDoor
