/-
  The statement SyntaxTells of the layer syntax holds, as a tied card: for all inputs the law returns true, and each argument reads as before, where the listed tables are as the program's text lays them.
-/
import Derived.Test.YtlmgomgpiideoaaGreatDoorCd
import Derived.Test.YtlmgomgpiideoaaGreatDoorCards
import Derived.Test.YtlmgomgpiideoaaGreatDoorTie
import Derived.SevenTiedAt
namespace Go.Proofs.YtlmgomgpiideoaaGreatDoor
open Go.ChangeShapes Go.WideShapes Go.RowKit Go.Own
set_option maxRecDepth 100000 in
theorem syntaxTells_lifted (os:Os) (started:os.Started) (H:Type) (enc:TypeId×Value→H) :
  ReturnsInHanded {} Tryz.checked os 3 .any (fun w args=>(Rows.syntaxTellsSpec.pre enc Tryz.prog Tryz.f3 Rows.syntaxTellsRow.domain false w args∧laidMet Tryz.prog Rows.syntaxTellsRow.laid w)∧sizedMet enc Tryz.prog Tryz.f3 (OpenSpec.ofChange Rows.syntaxTellsSpec) false w args) (Rows.syntaxTellsSpec.post enc Tryz.prog Tryz.f3 false true false false) :=
 row_lifted_laid (C:=Tryz.checked) (P:=Tryz.prog) (laid:=Rows.syntaxTellsRow.laid) rfl Tryz.own started (by kernel_rfl) Tryz.func3
  (ChangeSpec.witness_at (enc:=enc) (C:=Tryz.checked) (os:=os) (X:=fun w _=>laidMet Tryz.prog Rows.syntaxTellsRow.laid w) false (laidWorld os) #[.string ⟨#[]⟩] 8 (World.laidAll_os _ _ _) (by kernel_rfl) (by kernel_rfl) (by kernel_rfl) (by kernel_rfl) (by kernel_rfl) (laid_met os _))
  Tryz.laidOut rfl (by kernel_rfl) rfl undBool (fun ds hd=>by
   match ds,hd with
   | [d0],_=>rfl)
  (Qs:=[_]) ⟨vStr,trivial⟩
  (fun avs hA0=>by
   obtain ⟨_,_,rfl,⟨s,hs,rfl⟩,hA1⟩:=alls_cons hA0
   obtain rfl:=alls_nil hA1
   exact law_tells s hs)
  (fun W h=>laid_tabs W h)
theorem syntaxTells_holds:Rows.SyntaxTellsSaid :=
 OpenClaim.holds_of_wide 3 Tryz.f3 rfl rfl rfl rfl rfl rfl rfl ⟨rfl,rfl,rfl,rfl,rfl⟩ rfl rfl rfl rfl rfl (by kernel_rfl) Tryz.func3 (by kernel_rfl)
  (of_decide_eq_true (by kernel_rfl)) (by unfold Func.isWrapper;first | (rw [if_pos (by decide +kernel)];kernel_rfl) | (rw [if_neg (by decide +kernel)];exact ⟨rfl,rfl⟩))
  (fun os started H enc _=>syntaxTells_lifted os started H enc)
#print axioms syntaxTells_holds
theorem syntaxTellsCard_holds:Rows.SyntaxTellsCardSaid :=
 Claim7.holds_tied_plain_at .later [] [.data, .data, .data, .data] true (true, "474083cd9590e32203e420c9c3792076892becb45167d9ad5bc1db7322999a86") true
  syntaxTells_holds (fun _ h=>by cases h) (by kernel_rfl) (fun _ h=>by cases h) syntaxTells_row_tie rfl ⟨rfl,rfl⟩ (by kernel_rfl) rfl
  (fun f fn hf hfn=>by
   obtain rfl : f = 3 := Option.some.inj ((show Tryz.prog.funcNamed "consol/consollaw12.SyntaxTells" = some 3 by kernel_rfl).symm.trans hf) |>.symm
   obtain rfl:fn=Tryz.f3:=(Option.some.inj (Tryz.func3.symm.trans hfn)).symm
   exact ⟨by kernel_rfl,fun j t ht=>by
    rw [Tryz.params3] at ht
    have h0:t=9:=by
     rcases j with _ | j
     ·simpa using ht.symm
     ·simp at ht
    subst h0
    exact (show Tryz.prog.wantsStandIn 9=false by kernel_rfl)⟩)
  (by kernel_rfl)
#print axioms syntaxTellsCard_holds
end Go.Proofs.YtlmgomgpiideoaaGreatDoor
