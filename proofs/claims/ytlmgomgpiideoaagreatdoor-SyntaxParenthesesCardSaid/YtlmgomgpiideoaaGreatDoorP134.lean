/-
  The statement SyntaxParentheses of the layer syntax holds, as a tied card: for all inputs the law returns true, and each argument reads as before, where the listed tables are as the program's text lays them.
-/
import Derived.Test.YtlmgomgpiideoaaGreatDoorCc
import Derived.Test.YtlmgomgpiideoaaGreatDoorCards
import Derived.Test.YtlmgomgpiideoaaGreatDoorTie
import Derived.SevenTiedAt
namespace Go.Proofs.YtlmgomgpiideoaaGreatDoor
open Go.ChangeShapes Go.WideShapes Go.RowKit Go.Own
set_option maxRecDepth 100000 in
theorem syntaxParentheses_lifted (os:Os) (started:os.Started) (H:Type) (enc:TypeId×Value→H) :
  ReturnsInHanded {} Tryz.checked os 8 .any (fun w args=>(Rows.syntaxParenthesesSpec.pre enc Tryz.prog Tryz.f8 Rows.syntaxParenthesesRow.domain false w args∧laidMet Tryz.prog Rows.syntaxParenthesesRow.laid w)∧sizedMet enc Tryz.prog Tryz.f8 (OpenSpec.ofChange Rows.syntaxParenthesesSpec) false w args) (Rows.syntaxParenthesesSpec.post enc Tryz.prog Tryz.f8 false true false false) :=
 row_lifted_laid (C:=Tryz.checked) (P:=Tryz.prog) (laid:=Rows.syntaxParenthesesRow.laid) rfl Tryz.own started (by kernel_rfl) Tryz.func8
  (ChangeSpec.witness_at (enc:=enc) (C:=Tryz.checked) (os:=os) (X:=fun w _=>laidMet Tryz.prog Rows.syntaxParenthesesRow.laid w) false (laidWorld os) #[.agg #[.int .i64 0,.int .i64 0,.int .i64 0,.string ⟨#[]⟩,.slice none 0 0],.int .i64 0] 8 (World.laidAll_os _ _ _) (by kernel_rfl) (by kernel_rfl) (by kernel_rfl) (by kernel_rfl) (by kernel_rfl) (laid_met os _))
  Tryz.laidOut rfl (by kernel_rfl) rfl undBool (fun ds hd=>by
   match ds,hd with
   | [d0,d1],_=>rfl)
  (Qs:=[_,_]) ⟨vExp,vInt,trivial⟩
  (fun avs hA0=>by
   obtain ⟨_,_,rfl,⟨e,he,rfl⟩,hA1⟩:=alls_cons hA0
   obtain ⟨_,_,rfl,⟨w,hw,rfl⟩,hA2⟩:=alls_cons hA1
   obtain rfl:=alls_nil hA2
   exact law_paren e he w hw)
  (fun W h=>laid_tabs W h)
theorem syntaxParentheses_holds:Rows.SyntaxParenthesesSaid :=
 OpenClaim.holds_of_wide 8 Tryz.f8 rfl rfl rfl rfl rfl rfl rfl ⟨rfl,rfl,rfl,rfl,rfl⟩ rfl rfl rfl rfl rfl (by kernel_rfl) Tryz.func8 (by kernel_rfl)
  (of_decide_eq_true (by kernel_rfl)) (by unfold Func.isWrapper;first | (rw [if_pos (by decide +kernel)];kernel_rfl) | (rw [if_neg (by decide +kernel)];exact ⟨rfl,rfl⟩))
  (fun os started H enc _=>syntaxParentheses_lifted os started H enc)
#print axioms syntaxParentheses_holds
theorem syntaxParenthesesCard_holds:Rows.SyntaxParenthesesCardSaid :=
 Claim7.holds_tied_plain_at .later [] [.data, .data, .data, .data] true (true, "474083cd9590e32203e420c9c3792076892becb45167d9ad5bc1db7322999a86") true
  syntaxParentheses_holds (fun _ h=>by cases h) (by kernel_rfl) (fun _ h=>by cases h) syntaxParentheses_row_tie rfl ⟨rfl,rfl⟩ (by kernel_rfl) rfl
  (fun f fn hf hfn=>by
   obtain rfl : f = 8 := Option.some.inj ((show Tryz.prog.funcNamed "consol/consollaw12.SyntaxParentheses" = some 8 by kernel_rfl).symm.trans hf) |>.symm
   obtain rfl:fn=Tryz.f8:=(Option.some.inj (Tryz.func8.symm.trans hfn)).symm
   exact ⟨by kernel_rfl,fun j t ht=>by
    rw [Tryz.params8] at ht
    have h0:t=26∨t=3:=by
     match j,ht with
     | 0,h=>exact .inl ((Option.some.inj h).symm)
     | 1,h=>exact .inr ((Option.some.inj h).symm)
     | _+2,h=>simp at h
    rcases h0 with rfl | rfl
    ·exact (show Tryz.prog.wantsStandIn 26=false by kernel_rfl)
    ·exact (show Tryz.prog.wantsStandIn 3=false by kernel_rfl)⟩)
  (by kernel_rfl)
#print axioms syntaxParenthesesCard_holds
end Go.Proofs.YtlmgomgpiideoaaGreatDoor
