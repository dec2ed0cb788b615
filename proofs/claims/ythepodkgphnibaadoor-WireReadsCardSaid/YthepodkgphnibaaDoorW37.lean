/-
  The statement WireReads of the layer wire holds, as a tied card: for all inputs the law returns true, and each argument reads as before, where the listed tables of Go's library are as the program's text lays them.
-/
import Derived.Test.YthepodkgphnibaaDoorCc
import Derived.Test.YthepodkgphnibaaDoorCb
import Derived.Test.YthepodkgphnibaaDoorCards
import Derived.Test.YthepodkgphnibaaDoorTie
import Derived.SevenTiedAt

namespace Go.Proofs.YthepodkgphnibaaDoor
open Go.ChangeShapes Go.WideShapes Go.RowKit Go.Own

set_option maxRecDepth 100000 in
theorem wireReads_lifted (os : Os) (started : os.Started) (H : Type) (enc : TypeId × Value → H) :
    ReturnsInHanded {} Tryd.checked os 7 .any (fun w args => (Rows.wireReadsSpec.pre enc Tryd.prog Tryd.f7 Rows.wireReadsRow.domain false w args ∧ laidMet Tryd.prog Rows.wireReadsRow.laid w) ∧ sizedMet enc Tryd.prog Tryd.f7 (OpenSpec.ofChange Rows.wireReadsSpec) false w args) (Rows.wireReadsSpec.post enc Tryd.prog Tryd.f7 false true false false) :=
  row_lifted_laid (C := Tryd.checked) (P := Tryd.prog) (laid := Rows.wireReadsRow.laid) rfl Tryd.own started (by kernel_rfl) Tryd.func7
    (ChangeSpec.witness_at (enc := enc) (C := Tryd.checked) (os := os) (X := fun w _ => laidMet Tryd.prog Rows.wireReadsRow.laid w) false (laidWorld os) #[.string ⟨#[]⟩, .slice none 0 0] 8 (World.laidAll_os _ _ _) (by kernel_rfl) (by kernel_rfl) (by kernel_rfl) (by kernel_rfl) (by kernel_rfl) (laid_met os _))
    Tryd.laidOut rfl (by kernel_rfl) rfl undBool (fun ds hd => by
      match ds, hd with
      | [d0, d1], _ => rfl)
    (Qs := [_, _]) ⟨vStr, vInts, trivial⟩
    (fun avs hA0 => by
      obtain ⟨_, _, rfl, ⟨s, hs, rfl⟩, hA1⟩ := alls_cons hA0
      obtain ⟨_, _, rfl, ⟨l, hin, hl, rfl⟩, hA2⟩ := alls_cons hA1
      obtain rfl := alls_nil hA2
      exact law_reads s l hs hl hin)
    (fun W h => laid_tabs W h)

theorem wireReads_holds : Rows.WireReadsSaid :=
  OpenClaim.holds_of_wide 7 Tryd.f7 rfl rfl rfl rfl rfl rfl rfl ⟨rfl, rfl, rfl, rfl, rfl⟩ rfl rfl rfl rfl rfl (by kernel_rfl) Tryd.func7 (by kernel_rfl)
    (of_decide_eq_true (by kernel_rfl)) (by unfold Func.isWrapper; first | (rw [if_pos (by decide +kernel)]; kernel_rfl) | (rw [if_neg (by decide +kernel)]; exact ⟨rfl, rfl⟩))
    (fun os started H enc _ => wireReads_lifted os started H enc)
#print axioms wireReads_holds

/-- The tied card. -/
theorem wireReadsCard_holds : Rows.WireReadsCardSaid :=
  Claim7.holds_tied_plain_at .later [] [.data, .data, .data, .sentinel, .sentinel] true (true, "e671801c54256bb4cc9d520ee9821a0a37fd6e7aa336f194a8682cb559f77f2b") true
    wireReads_holds (fun _ h => by cases h) (by kernel_rfl) (fun _ h => by cases h) wireReads_row_tie rfl ⟨rfl, rfl⟩ (by kernel_rfl) rfl
    (fun f fn hf hfn => by
      obtain rfl : f = 7 := Option.some.inj ((show Tryd.prog.funcNamed "consol/consollaw01.WireReads" = some 7 by kernel_rfl).symm.trans hf) |>.symm
      obtain rfl : fn = Tryd.f7 := (Option.some.inj (Tryd.func7.symm.trans hfn)).symm
      exact ⟨by kernel_rfl, fun j t ht => by
        rw [Tryd.params7] at ht
        have h0 : t = 9 ∨ t = 22 := by
          match j, ht with
          | 0, h => exact .inl ((Option.some.inj h).symm)
          | 1, h => exact .inr ((Option.some.inj h).symm)
          | _ + 2, h => simp at h
        rcases h0 with rfl | rfl
        · exact (show Tryd.prog.wantsStandIn 9 = false by kernel_rfl)
        · exact (show Tryd.prog.wantsStandIn 22 = false by kernel_rfl)⟩)
    (by kernel_rfl)
#print axioms wireReadsCard_holds
end Go.Proofs.YthepodkgphnibaaDoor
