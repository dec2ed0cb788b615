/-
  The statement StateTells of the layer state holds, as a tied card: for all inputs the law returns true, and each argument reads as before, where the listed tables are as the program's text lays them.
-/
import Derived.Test.YtgaallgiaachlaaGreatDoorS58
import Derived.Test.YtgaallgiaachlaaGreatDoorS59
import Derived.Test.YtgaallgiaachlaaGreatDoorCards
import Derived.Test.YtgaallgiaachlaaGreatDoorTie
import Derived.SevenTiedAt
namespace Go.Proofs.YtgaallgiaachlaaGreatDoor
open Go.ChangeShapes Go.WideShapes Go.RowKit Go.Own
theorem stateTells_holds:Rows.StateTellsSaid :=
 OpenClaim.holds_of_wide 3 Tryz.f3 rfl rfl rfl rfl rfl rfl rfl ⟨rfl,rfl,rfl,rfl,rfl⟩ rfl rfl rfl rfl rfl bZ Tryz.func3 RF
  (of_decide_eq_true bZ) (by unfold Func.isWrapper;first | (rw [if_pos (by decide +kernel)];kernel_rfl) | (rw [if_neg (by decide +kernel)];exact ⟨rfl,rfl⟩))
  (fun os started H enc _=>IX os started H enc)
#print axioms stateTells_holds
theorem stateTellsCard_holds:Rows.StateTellsCardSaid :=
 Claim7.holds_tied_plain_at .later [] [.data, .data, .data, .sentinel, .sentinel, .data] true (true, "7a5b5844041b3cc85784172216ca196fe63d204a2225706998b434b34137d142") true
  stateTells_holds (fun _ h=>by cases h) bZ (fun _ h=>by cases h) stateTells_row_tie rfl ⟨rfl,rfl⟩ bZ rfl
  (fun f fn hf hfn=>by
   obtain rfl : f = 3 := Option.some.inj ((show Tryz.prog.funcNamed "consol/consollaw47.StateTells" = some 3 by kernel_rfl).symm.trans hf) |>.symm;obtain rfl:fn=Tryz.f3:=(Option.some.inj (Tryz.func3.symm.trans hfn)).symm;exact ⟨by kernel_rfl,fun j t ht=>by
    rw [Tryz.params3] at ht;have h0:t=28∨t=28∨t=9:=by
     match j,ht with
     | 0,h=>exact .inl ((Option.some.inj h).symm)
     | 1,h=>exact .inr (.inl ((Option.some.inj h).symm))
     | 2,h=>exact .inr (.inr ((Option.some.inj h).symm))
     | _+3,h=>simp at h
    rcases h0 with rfl | rfl | rfl
    ·exact (show Tryz.prog.wantsStandIn 28=false by kernel_rfl)
    ·exact (show Tryz.prog.wantsStandIn 28=false by kernel_rfl)
    ·exact (show Tryz.prog.wantsStandIn 9=false by kernel_rfl)⟩)
  bZ
#print axioms stateTellsCard_holds
end Go.Proofs.YtgaallgiaachlaaGreatDoor
