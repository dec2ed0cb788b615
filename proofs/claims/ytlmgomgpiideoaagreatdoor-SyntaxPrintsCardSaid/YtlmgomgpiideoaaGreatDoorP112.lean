/-
  The statement SyntaxPrints of the layer syntax holds, as a tied card: for all inputs the law returns true, and each argument reads as before, where the listed tables are as the program's text lays them.
-/
import Derived.Test.YtlmgomgpiideoaaGreatDoorCc
import Derived.Test.YtlmgomgpiideoaaGreatDoorCards
import Derived.Test.YtlmgomgpiideoaaGreatDoorTie
import Derived.SevenTiedAt
namespace Go.Proofs.YtlmgomgpiideoaaGreatDoor
open Go.ChangeShapes Go.WideShapes Go.RowKit Go.Own
set_option maxRecDepth 100000 in
theorem syntaxPrints_lifted (os:Os) (started:os.Started) (H:Type) (enc:TypeId×Value→H) :
  ReturnsInHanded {} Tryz.checked os 4 .any (fun w args=>(Rows.syntaxPrintsSpec.pre enc Tryz.prog Tryz.f4 Rows.syntaxPrintsRow.domain false w args∧laidMet Tryz.prog Rows.syntaxPrintsRow.laid w)∧sizedMet enc Tryz.prog Tryz.f4 (OpenSpec.ofChange Rows.syntaxPrintsSpec) false w args) (Rows.syntaxPrintsSpec.post enc Tryz.prog Tryz.f4 false true false false) :=
 row_lifted_laid (C:=Tryz.checked) (P:=Tryz.prog) (laid:=Rows.syntaxPrintsRow.laid) rfl Tryz.own started (by kernel_rfl) Tryz.func4
  (ChangeSpec.witness_at (enc:=enc) (C:=Tryz.checked) (os:=os) (X:=fun w _=>laidMet Tryz.prog Rows.syntaxPrintsRow.laid w) false (laidWorld os) #[.agg #[.string ⟨#[]⟩,.string ⟨#[]⟩,.int .i64 0,.int .i64 0,.int .i64 0,.int .i64 0,.int .i64 0,.int .i64 0,.int .i64 0,.int .i64 0,.slice none 0 0,.int .i64 0,.int .i64 0,.int .i64 0,.string ⟨#[]⟩,.slice none 0 0,.int .i64 0,.slice none 0 0,.slice none 0 0,.int .i64 0,.slice none 0 0,.int .i64 0,.int .i64 0,.int .i64 0,.int .i64 0],.agg #[.string ⟨#[]⟩,.string ⟨#[]⟩,.int .i64 0,.int .i64 0,.int .i64 0,.int .i64 0,.int .i64 0,.int .i64 0,.int .i64 0,.int .i64 0,.slice none 0 0,.int .i64 0,.int .i64 0,.int .i64 0,.string ⟨#[]⟩,.slice none 0 0,.int .i64 0,.slice none 0 0,.slice none 0 0,.int .i64 0,.slice none 0 0,.int .i64 0,.int .i64 0,.int .i64 0,.int .i64 0]] 8 (World.laidAll_os _ _ _) (by kernel_rfl) (by kernel_rfl) (by kernel_rfl) (by kernel_rfl) (by kernel_rfl) (laid_met os _))
  Tryz.laidOut rfl (by kernel_rfl) rfl undBool (fun ds hd=>by
   match ds,hd with
   | [d0,d1],_=>rfl)
  (Qs:=[_,_]) ⟨vInd,vInd,trivial⟩
  (fun avs hA0=>by
   obtain ⟨_,_,rfl,⟨a,ha,rfl⟩,hA1⟩:=alls_cons hA0
   obtain ⟨_,_,rfl,⟨b,hb,rfl⟩,hA2⟩:=alls_cons hA1
   obtain rfl:=alls_nil hA2
   exact law_prints a b ha hb)
  (fun W h=>laid_tabs W h)
theorem syntaxPrints_holds:Rows.SyntaxPrintsSaid :=
 OpenClaim.holds_of_wide 4 Tryz.f4 rfl rfl rfl rfl rfl rfl rfl ⟨rfl,rfl,rfl,rfl,rfl⟩ rfl rfl rfl rfl rfl (by kernel_rfl) Tryz.func4 (by kernel_rfl)
  (of_decide_eq_true (by kernel_rfl)) (by unfold Func.isWrapper;first | (rw [if_pos (by decide +kernel)];kernel_rfl) | (rw [if_neg (by decide +kernel)];exact ⟨rfl,rfl⟩))
  (fun os started H enc _=>syntaxPrints_lifted os started H enc)
#print axioms syntaxPrints_holds
theorem syntaxPrintsCard_holds:Rows.SyntaxPrintsCardSaid :=
 Claim7.holds_tied_plain_at .later [] [.data, .data, .data, .data] true (true, "474083cd9590e32203e420c9c3792076892becb45167d9ad5bc1db7322999a86") true
  syntaxPrints_holds (fun _ h=>by cases h) (by kernel_rfl) (fun _ h=>by cases h) syntaxPrints_row_tie rfl ⟨rfl,rfl⟩ (by kernel_rfl) rfl
  (fun f fn hf hfn=>by
   obtain rfl : f = 4 := Option.some.inj ((show Tryz.prog.funcNamed "consol/consollaw12.SyntaxPrints" = some 4 by kernel_rfl).symm.trans hf) |>.symm
   obtain rfl:fn=Tryz.f4:=(Option.some.inj (Tryz.func4.symm.trans hfn)).symm
   exact ⟨by kernel_rfl,fun j t ht=>by
    rw [Tryz.params4] at ht
    have h0:t=31∨t=31:=by
     match j,ht with
     | 0,h=>exact .inl ((Option.some.inj h).symm)
     | 1,h=>exact .inr ((Option.some.inj h).symm)
     | _+2,h=>simp at h
    rcases h0 with rfl | rfl
    ·exact (show Tryz.prog.wantsStandIn 31=false by kernel_rfl)
    ·exact (show Tryz.prog.wantsStandIn 31=false by kernel_rfl)⟩)
  (by kernel_rfl)
#print axioms syntaxPrintsCard_holds
end Go.Proofs.YtlmgomgpiideoaaGreatDoor
