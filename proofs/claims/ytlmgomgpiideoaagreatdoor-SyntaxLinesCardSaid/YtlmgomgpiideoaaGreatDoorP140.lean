/-
  The statement SyntaxLines of the layer syntax holds, as a tied card: for all inputs the law returns true, and each argument reads as before, where the listed tables are as the program's text lays them.
-/
import Derived.Test.YtlmgomgpiideoaaGreatDoorCc
import Derived.Test.YtlmgomgpiideoaaGreatDoorCards
import Derived.Test.YtlmgomgpiideoaaGreatDoorTie
import Derived.SevenTiedAt
namespace Go.Proofs.YtlmgomgpiideoaaGreatDoor
open Go.ChangeShapes Go.WideShapes Go.RowKit Go.Own
set_option maxRecDepth 100000 in
theorem syntaxLines_lifted (os:Os) (started:os.Started) (H:Type) (enc:TypeId×Value→H) :
  ReturnsInHanded {} Tryz.checked os 7 .any (fun w args=>(Rows.syntaxLinesSpec.pre enc Tryz.prog Tryz.f7 Rows.syntaxLinesRow.domain false w args∧laidMet Tryz.prog Rows.syntaxLinesRow.laid w)∧sizedMet enc Tryz.prog Tryz.f7 (OpenSpec.ofChange Rows.syntaxLinesSpec) false w args) (Rows.syntaxLinesSpec.post enc Tryz.prog Tryz.f7 false true false false) :=
 row_lifted_laid (C:=Tryz.checked) (P:=Tryz.prog) (laid:=Rows.syntaxLinesRow.laid) rfl Tryz.own started (by kernel_rfl) Tryz.func7
  (ChangeSpec.witness_at (enc:=enc) (C:=Tryz.checked) (os:=os) (X:=fun w _=>laidMet Tryz.prog Rows.syntaxLinesRow.laid w) false (laidWorld os) #[.agg #[.string ⟨#[]⟩,.string ⟨#[]⟩,.int .i64 0,.int .i64 0,.int .i64 0,.int .i64 0,.int .i64 0,.int .i64 0,.int .i64 0,.int .i64 0,.slice none 0 0,.int .i64 0,.int .i64 0,.int .i64 0,.string ⟨#[]⟩,.slice none 0 0,.int .i64 0,.slice none 0 0,.slice none 0 0,.int .i64 0,.slice none 0 0,.int .i64 0,.int .i64 0,.int .i64 0,.int .i64 0],.int .u8 0] 8 (World.laidAll_os _ _ _) (by kernel_rfl) (by kernel_rfl) (by kernel_rfl) (by kernel_rfl) (by kernel_rfl) (laid_met os _))
  Tryz.laidOut rfl (by kernel_rfl) rfl undBool (fun ds hd=>by
   match ds,hd with
   | [d0,d1],_=>rfl)
  (Qs:=[_,_]) ⟨vInd,vByte,trivial⟩
  (fun avs hA0=>by
   obtain ⟨_,_,rfl,⟨x,hx,rfl⟩,hA1⟩:=alls_cons hA0
   obtain ⟨_,_,rfl,⟨b,hb,rfl⟩,hA2⟩:=alls_cons hA1
   obtain rfl:=alls_nil hA2
   exact law_lines x hx b hb.1 hb.2)
  (fun W h=>laid_tabs W h)
theorem syntaxLines_holds:Rows.SyntaxLinesSaid :=
 OpenClaim.holds_of_wide 7 Tryz.f7 rfl rfl rfl rfl rfl rfl rfl ⟨rfl,rfl,rfl,rfl,rfl⟩ rfl rfl rfl rfl rfl (by kernel_rfl) Tryz.func7 (by kernel_rfl)
  (of_decide_eq_true (by kernel_rfl)) (by unfold Func.isWrapper;first | (rw [if_pos (by decide +kernel)];kernel_rfl) | (rw [if_neg (by decide +kernel)];exact ⟨rfl,rfl⟩))
  (fun os started H enc _=>syntaxLines_lifted os started H enc)
#print axioms syntaxLines_holds
theorem syntaxLinesCard_holds:Rows.SyntaxLinesCardSaid :=
 Claim7.holds_tied_plain_at .later [] [.data, .data, .data, .data] true (true, "474083cd9590e32203e420c9c3792076892becb45167d9ad5bc1db7322999a86") true
  syntaxLines_holds (fun _ h=>by cases h) (by kernel_rfl) (fun _ h=>by cases h) syntaxLines_row_tie rfl ⟨rfl,rfl⟩ (by kernel_rfl) rfl
  (fun f fn hf hfn=>by
   obtain rfl : f = 7 := Option.some.inj ((show Tryz.prog.funcNamed "consol/consollaw12.SyntaxLines" = some 7 by kernel_rfl).symm.trans hf) |>.symm
   obtain rfl:fn=Tryz.f7:=(Option.some.inj (Tryz.func7.symm.trans hfn)).symm
   exact ⟨by kernel_rfl,fun j t ht=>by
    rw [Tryz.params7] at ht
    have h0:t=31∨t=5:=by
     match j,ht with
     | 0,h=>exact .inl ((Option.some.inj h).symm)
     | 1,h=>exact .inr ((Option.some.inj h).symm)
     | _+2,h=>simp at h
    rcases h0 with rfl | rfl
    ·exact (show Tryz.prog.wantsStandIn 31=false by kernel_rfl)
    ·exact (show Tryz.prog.wantsStandIn 5=false by kernel_rfl)⟩)
  (by kernel_rfl)
#print axioms syntaxLinesCard_holds
end Go.Proofs.YtlmgomgpiideoaaGreatDoor
