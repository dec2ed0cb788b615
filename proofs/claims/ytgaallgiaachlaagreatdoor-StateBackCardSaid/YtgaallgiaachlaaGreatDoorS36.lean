/-
  The statement StateBack of the layer state holds, as a tied card: for all inputs the law returns true, and each argument reads as before, where the listed tables are as the program's text lays them.
-/
import Derived.Test.YtgaallgiaachlaaGreatDoorCc
import Derived.Test.YtgaallgiaachlaaGreatDoorCards
import Derived.Test.YtgaallgiaachlaaGreatDoorTie
import Derived.SevenTiedAt
namespace Go.Proofs.YtgaallgiaachlaaGreatDoor
open Go.ChangeShapes Go.WideShapes Go.RowKit Go.Own
set_option maxRecDepth 100000 in
theorem stateBack_lifted (os:Os) (started:os.Started) (H:Type) (enc:TypeId×Value→H) :
  ReturnsInHanded {} Tryz.checked os 4 .any (fun w args=>(Rows.stateBackSpec.pre enc Tryz.prog Tryz.f4 Rows.stateBackRow.domain false w args∧laidMet Tryz.prog Rows.stateBackRow.laid w)∧sizedMet enc Tryz.prog Tryz.f4 (OpenSpec.ofChange Rows.stateBackSpec) false w args) (Rows.stateBackSpec.post enc Tryz.prog Tryz.f4 false true false false) :=
 row_lifted_laid (C:=Tryz.checked) (P:=Tryz.prog) (laid:=Rows.stateBackRow.laid) rfl Tryz.own started (by kernel_rfl) Tryz.func4
  (ChangeSpec.witness_at (enc:=enc) (C:=Tryz.checked) (os:=os) (X:=fun w _=>laidMet Tryz.prog Rows.stateBackRow.laid w) false (laidWorld os) #[.agg #[.int .i64 0,.slice none 0 0,.slice none 0 0,.int .i64 0,.slice none 0 0,.slice none 0 0,.slice none 0 0,.slice none 0 0],.agg #[.int .i64 0,.slice none 0 0,.slice none 0 0,.int .i64 0,.slice none 0 0,.slice none 0 0,.slice none 0 0,.slice none 0 0],.string ⟨#[]⟩] 8 (World.laidAll_os _ _ _) (by kernel_rfl) (by kernel_rfl) (by kernel_rfl) (by kernel_rfl) (by kernel_rfl) (laid_met os _))
  Tryz.laidOut rfl (by kernel_rfl) rfl undBool (fun ds hd=>by
   match ds,hd with
   | [d0,d1,d2],_=>rfl)
  (Qs:=[_,_,_]) ⟨vSta,vSta,vStr,trivial⟩
  (fun avs hA0=>by
   obtain ⟨_,_,rfl,⟨a,ha,rfl⟩,hA1⟩:=alls_cons hA0
   obtain ⟨_,_,rfl,⟨b,hb,rfl⟩,hA2⟩:=alls_cons hA1
   obtain ⟨_,_,rfl,⟨t,ht,rfl⟩,hA3⟩:=alls_cons hA2
   obtain rfl:=alls_nil hA3
   exact law_back a b t ha hb ht)
  (fun W h=>laid_tabs W h)
theorem stateBack_holds:Rows.StateBackSaid :=
 OpenClaim.holds_of_wide 4 Tryz.f4 rfl rfl rfl rfl rfl rfl rfl ⟨rfl,rfl,rfl,rfl,rfl⟩ rfl rfl rfl rfl rfl (by kernel_rfl) Tryz.func4 (by kernel_rfl)
  (of_decide_eq_true (by kernel_rfl)) (by unfold Func.isWrapper;first | (rw [if_pos (by decide +kernel)];kernel_rfl) | (rw [if_neg (by decide +kernel)];exact ⟨rfl,rfl⟩))
  (fun os started H enc _=>stateBack_lifted os started H enc)
#print axioms stateBack_holds
theorem stateBackCard_holds:Rows.StateBackCardSaid :=
 Claim7.holds_tied_plain_at .later [] [.data, .data, .data, .sentinel, .sentinel, .data] true (true, "7a5b5844041b3cc85784172216ca196fe63d204a2225706998b434b34137d142") true
  stateBack_holds (fun _ h=>by cases h) (by kernel_rfl) (fun _ h=>by cases h) stateBack_row_tie rfl ⟨rfl,rfl⟩ (by kernel_rfl) rfl
  (fun f fn hf hfn=>by
   obtain rfl : f = 4 := Option.some.inj ((show Tryz.prog.funcNamed "consol/consollaw47.StateBack" = some 4 by kernel_rfl).symm.trans hf) |>.symm
   obtain rfl:fn=Tryz.f4:=(Option.some.inj (Tryz.func4.symm.trans hfn)).symm
   exact ⟨by kernel_rfl,fun j t ht=>by
    rw [Tryz.params4] at ht
    have h0:t=28∨t=28∨t=9:=by
     match j,ht with
     | 0,h=>exact .inl ((Option.some.inj h).symm)
     | 1,h=>exact .inr (.inl ((Option.some.inj h).symm))
     | 2,h=>exact .inr (.inr ((Option.some.inj h).symm))
     | _+3,h=>simp at h
    rcases h0 with rfl | rfl | rfl
    ·exact (show Tryz.prog.wantsStandIn 28=false by kernel_rfl)
    ·exact (show Tryz.prog.wantsStandIn 28=false by kernel_rfl)
    ·exact (show Tryz.prog.wantsStandIn 9=false by kernel_rfl)⟩)
  (by kernel_rfl)
#print axioms stateBackCard_holds
end Go.Proofs.YtgaallgiaachlaaGreatDoor
