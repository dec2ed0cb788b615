/-
  The statement StateMoney of the layer state holds, as a tied card: for all inputs the law returns true, and each argument reads as before, where the listed tables are as the program's text lays them.
-/
import Derived.Test.YtgaallgiaachlaaGreatDoorCc
import Derived.Test.YtgaallgiaachlaaGreatDoorCards
import Derived.Test.YtgaallgiaachlaaGreatDoorTie
import Derived.SevenTiedAt
namespace Go.Proofs.YtgaallgiaachlaaGreatDoor
open Go.ChangeShapes Go.WideShapes Go.RowKit Go.Own
set_option maxRecDepth 100000 in
theorem stateMoney_lifted (os:Os) (started:os.Started) (H:Type) (enc:TypeId×Value→H) :
  ReturnsInHanded {} Tryz.checked os 5 .any (fun w args=>(Rows.stateMoneySpec.pre enc Tryz.prog Tryz.f5 Rows.stateMoneyRow.domain false w args∧laidMet Tryz.prog Rows.stateMoneyRow.laid w)∧sizedMet enc Tryz.prog Tryz.f5 (OpenSpec.ofChange Rows.stateMoneySpec) false w args) (Rows.stateMoneySpec.post enc Tryz.prog Tryz.f5 false true false false) :=
 row_lifted_laid (C:=Tryz.checked) (P:=Tryz.prog) (laid:=Rows.stateMoneyRow.laid) rfl Tryz.own started (by kernel_rfl) Tryz.func5
  (ChangeSpec.witness_at (enc:=enc) (C:=Tryz.checked) (os:=os) (X:=fun w _=>laidMet Tryz.prog Rows.stateMoneyRow.laid w) false (laidWorld os) #[.agg #[.int .i64 0,.slice none 0 0,.slice none 0 0,.int .i64 0,.slice none 0 0,.slice none 0 0,.slice none 0 0,.slice none 0 0],.int .u8 0,.int .u8 0,.int .i64 0] 8 (World.laidAll_os _ _ _) (by kernel_rfl) (by kernel_rfl) (by kernel_rfl) (by kernel_rfl) (by kernel_rfl) (laid_met os _))
  Tryz.laidOut rfl (by kernel_rfl) rfl undBool (fun ds hd=>by
   match ds,hd with
   | [d0,d1,d2,d3],_=>rfl)
  (Qs:=[_,_,_,_]) ⟨vSta,vByte,vByte,vInt,trivial⟩
  (fun avs hA0=>by
   obtain ⟨_,_,rfl,⟨a,ha,rfl⟩,hA1⟩:=alls_cons hA0
   obtain ⟨_,_,rfl,⟨i,hi,rfl⟩,hA2⟩:=alls_cons hA1
   obtain ⟨_,_,rfl,⟨k,hk,rfl⟩,hA3⟩:=alls_cons hA2
   obtain ⟨_,_,rfl,⟨n,hn,rfl⟩,hA4⟩:=alls_cons hA3
   obtain rfl:=alls_nil hA4
   exact law_money a i k n ha hi hk hn)
  (fun W h=>laid_tabs W h)
theorem stateMoney_holds:Rows.StateMoneySaid :=
 OpenClaim.holds_of_wide 5 Tryz.f5 rfl rfl rfl rfl rfl rfl rfl ⟨rfl,rfl,rfl,rfl,rfl⟩ rfl rfl rfl rfl rfl (by kernel_rfl) Tryz.func5 (by kernel_rfl)
  (of_decide_eq_true (by kernel_rfl)) (by unfold Func.isWrapper;first | (rw [if_pos (by decide +kernel)];kernel_rfl) | (rw [if_neg (by decide +kernel)];exact ⟨rfl,rfl⟩))
  (fun os started H enc _=>stateMoney_lifted os started H enc)
#print axioms stateMoney_holds
theorem stateMoneyCard_holds:Rows.StateMoneyCardSaid :=
 Claim7.holds_tied_plain_at .later [] [.data, .data, .data, .sentinel, .sentinel, .data] true (true, "7a5b5844041b3cc85784172216ca196fe63d204a2225706998b434b34137d142") true
  stateMoney_holds (fun _ h=>by cases h) (by kernel_rfl) (fun _ h=>by cases h) stateMoney_row_tie rfl ⟨rfl,rfl⟩ (by kernel_rfl) rfl
  (fun f fn hf hfn=>by
   obtain rfl : f = 5 := Option.some.inj ((show Tryz.prog.funcNamed "consol/consollaw47.StateMoney" = some 5 by kernel_rfl).symm.trans hf) |>.symm
   obtain rfl:fn=Tryz.f5:=(Option.some.inj (Tryz.func5.symm.trans hfn)).symm
   exact ⟨by kernel_rfl,fun j t ht=>by
    rw [Tryz.params5] at ht
    have h0:t=28∨t=5∨t=5∨t=3:=by
     match j,ht with
     | 0,h=>exact .inl ((Option.some.inj h).symm)
     | 1,h=>exact .inr (.inl ((Option.some.inj h).symm))
     | 2,h=>exact .inr (.inr (.inl ((Option.some.inj h).symm)))
     | 3,h=>exact .inr (.inr (.inr ((Option.some.inj h).symm)))
     | _+4,h=>simp at h
    rcases h0 with rfl | rfl | rfl | rfl
    ·exact (show Tryz.prog.wantsStandIn 28=false by kernel_rfl)
    ·exact (show Tryz.prog.wantsStandIn 5=false by kernel_rfl)
    ·exact (show Tryz.prog.wantsStandIn 5=false by kernel_rfl)
    ·exact (show Tryz.prog.wantsStandIn 3=false by kernel_rfl)⟩)
  (by kernel_rfl)
#print axioms stateMoneyCard_holds
end Go.Proofs.YtgaallgiaachlaaGreatDoor
