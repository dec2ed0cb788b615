/-
  The statement StateParts of the layer state holds, as a tied card: for all inputs the law returns true, and each argument reads as before, where the listed tables are as the program's text lays them.
-/
import Derived.Test.YtgaallgiaachlaaGreatDoorCc
import Derived.Test.YtgaallgiaachlaaGreatDoorCards
import Derived.Test.YtgaallgiaachlaaGreatDoorTie
import Derived.SevenTiedAt
namespace Go.Proofs.YtgaallgiaachlaaGreatDoor
open Go.ChangeShapes Go.WideShapes Go.RowKit Go.Own
set_option maxRecDepth 100000 in
theorem stateParts_lifted (os:Os) (started:os.Started) (H:Type) (enc:TypeId×Value→H) :
  ReturnsInHanded {} Tryz.checked os 6 .any (fun w args=>(Rows.statePartsSpec.pre enc Tryz.prog Tryz.f6 Rows.statePartsRow.domain false w args∧laidMet Tryz.prog Rows.statePartsRow.laid w)∧sizedMet enc Tryz.prog Tryz.f6 (OpenSpec.ofChange Rows.statePartsSpec) false w args) (Rows.statePartsSpec.post enc Tryz.prog Tryz.f6 false true false false) :=
 row_lifted_laid (C:=Tryz.checked) (P:=Tryz.prog) (laid:=Rows.statePartsRow.laid) rfl Tryz.own started (by kernel_rfl) Tryz.func6
  (ChangeSpec.witness_at (enc:=enc) (C:=Tryz.checked) (os:=os) (X:=fun w _=>laidMet Tryz.prog Rows.statePartsRow.laid w) false (laidWorld os) #[.agg #[.int .i64 0,.slice none 0 0,.slice none 0 0,.int .i64 0,.slice none 0 0,.slice none 0 0,.slice none 0 0,.slice none 0 0],.int .i64 0,.agg #[.int .i64 0,.string ⟨#[]⟩,.int .i64 0,.int .i64 0,.int .i64 0],.agg #[.int .i64 0,.int .i64 0,.int .i64 0,.int .i64 0,.int .i64 0,.int .i64 0],.string ⟨#[]⟩] 8 (World.laidAll_os _ _ _) (by kernel_rfl) (by kernel_rfl) (by kernel_rfl) (by kernel_rfl) (by kernel_rfl) (laid_met os _))
  Tryz.laidOut rfl (by kernel_rfl) rfl undBool (fun ds hd=>by
   match ds,hd with
   | [d0,d1,d2,d3,d4],_=>rfl)
  (Qs:=[_,_,_,_,_]) ⟨vSta,vInt,vFac,vPay,vStr,trivial⟩
  (fun avs hA0=>by
   obtain ⟨_,_,rfl,⟨a,ha,rfl⟩,hA1⟩:=alls_cons hA0
   obtain ⟨_,_,rfl,⟨n,hn,rfl⟩,hA2⟩:=alls_cons hA1
   obtain ⟨_,_,rfl,⟨f,hf,rfl⟩,hA3⟩:=alls_cons hA2
   obtain ⟨_,_,rfl,⟨p,_,rfl⟩,hA4⟩:=alls_cons hA3
   obtain ⟨_,_,rfl,⟨t,ht,rfl⟩,hA5⟩:=alls_cons hA4
   obtain rfl:=alls_nil hA5
   exact law_parts a n f p t ha hn hf ht)
  (fun W h=>laid_tabs W h)
theorem stateParts_holds:Rows.StatePartsSaid :=
 OpenClaim.holds_of_wide 6 Tryz.f6 rfl rfl rfl rfl rfl rfl rfl ⟨rfl,rfl,rfl,rfl,rfl⟩ rfl rfl rfl rfl rfl (by kernel_rfl) Tryz.func6 (by kernel_rfl)
  (of_decide_eq_true (by kernel_rfl)) (by unfold Func.isWrapper;first | (rw [if_pos (by decide +kernel)];kernel_rfl) | (rw [if_neg (by decide +kernel)];exact ⟨rfl,rfl⟩))
  (fun os started H enc _=>stateParts_lifted os started H enc)
#print axioms stateParts_holds
theorem statePartsCard_holds:Rows.StatePartsCardSaid :=
 Claim7.holds_tied_plain_at .later [] [.data, .data, .data, .sentinel, .sentinel, .data] true (true, "7a5b5844041b3cc85784172216ca196fe63d204a2225706998b434b34137d142") true
  stateParts_holds (fun _ h=>by cases h) (by kernel_rfl) (fun _ h=>by cases h) stateParts_row_tie rfl ⟨rfl,rfl⟩ (by kernel_rfl) rfl
  (fun f fn hf hfn=>by
   obtain rfl : f = 6 := Option.some.inj ((show Tryz.prog.funcNamed "consol/consollaw47.StateParts" = some 6 by kernel_rfl).symm.trans hf) |>.symm
   obtain rfl:fn=Tryz.f6:=(Option.some.inj (Tryz.func6.symm.trans hfn)).symm
   exact ⟨by kernel_rfl,fun j t ht=>by
    rw [Tryz.params6] at ht
    have h0:t=28∨t=3∨t=41∨t=43∨t=9:=by
     match j,ht with
     | 0,h=>exact .inl ((Option.some.inj h).symm)
     | 1,h=>exact .inr (.inl ((Option.some.inj h).symm))
     | 2,h=>exact .inr (.inr (.inl ((Option.some.inj h).symm)))
     | 3,h=>exact .inr (.inr (.inr (.inl ((Option.some.inj h).symm))))
     | 4,h=>exact .inr (.inr (.inr (.inr ((Option.some.inj h).symm))))
     | _+5,h=>simp at h
    rcases h0 with rfl | rfl | rfl | rfl | rfl
    ·exact (show Tryz.prog.wantsStandIn 28=false by kernel_rfl)
    ·exact (show Tryz.prog.wantsStandIn 3=false by kernel_rfl)
    ·exact (show Tryz.prog.wantsStandIn 41=false by kernel_rfl)
    ·exact (show Tryz.prog.wantsStandIn 43=false by kernel_rfl)
    ·exact (show Tryz.prog.wantsStandIn 9=false by kernel_rfl)⟩)
  (by kernel_rfl)
#print axioms statePartsCard_holds
end Go.Proofs.YtgaallgiaachlaaGreatDoor
