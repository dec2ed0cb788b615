/-
  The statement SyntaxCanonical of the layer syntax holds, as a tied card: for all inputs the law returns true, and each argument reads as before, where the listed tables are as the program's text lays them.
-/
import Derived.Test.YtlmgomgpiideoaaGreatDoorCc
import Derived.Test.YtlmgomgpiideoaaGreatDoorCd
import Derived.Test.YtlmgomgpiideoaaGreatDoorCards
import Derived.Test.YtlmgomgpiideoaaGreatDoorTie
import Derived.SevenTiedAt
namespace Go.Proofs.YtlmgomgpiideoaaGreatDoor
open Go.ChangeShapes Go.WideShapes Go.RowKit Go.Own
set_option maxRecDepth 100000 in
theorem syntaxCanonical_lifted (os:Os) (started:os.Started) (H:Type) (enc:TypeId×Value→H) :
  ReturnsInHanded {} Tryz.checked os 6 .any (fun w args=>(Rows.syntaxCanonicalSpec.pre enc Tryz.prog Tryz.f6 Rows.syntaxCanonicalRow.domain false w args∧laidMet Tryz.prog Rows.syntaxCanonicalRow.laid w)∧sizedMet enc Tryz.prog Tryz.f6 (OpenSpec.ofChange Rows.syntaxCanonicalSpec) false w args) (Rows.syntaxCanonicalSpec.post enc Tryz.prog Tryz.f6 false true false false) :=
 row_lifted_laid (C:=Tryz.checked) (P:=Tryz.prog) (laid:=Rows.syntaxCanonicalRow.laid) rfl Tryz.own started (by kernel_rfl) Tryz.func6
  (ChangeSpec.witness_at (enc:=enc) (C:=Tryz.checked) (os:=os) (X:=fun w _=>laidMet Tryz.prog Rows.syntaxCanonicalRow.laid w) false (laidWorld os) #[.string ⟨#[]⟩] 8 (World.laidAll_os _ _ _) (by kernel_rfl) (by kernel_rfl) (by kernel_rfl) (by kernel_rfl) (by kernel_rfl) (laid_met os _))
  Tryz.laidOut rfl (by kernel_rfl) rfl undBool (fun ds hd=>by
   match ds,hd with
   | [d0],_=>rfl)
  (Qs:=[_]) ⟨vStr,trivial⟩
  (fun avs hA0=>by
   obtain ⟨_,_,rfl,⟨s,hs,rfl⟩,hA1⟩:=alls_cons hA0
   obtain rfl:=alls_nil hA1
   exact law_canonical s hs)
  (fun W h=>laid_tabs W h)
theorem syntaxCanonical_holds:Rows.SyntaxCanonicalSaid :=
 OpenClaim.holds_of_wide 6 Tryz.f6 rfl rfl rfl rfl rfl rfl rfl ⟨rfl,rfl,rfl,rfl,rfl⟩ rfl rfl rfl rfl rfl (by kernel_rfl) Tryz.func6 (by kernel_rfl)
  (of_decide_eq_true (by kernel_rfl)) (by unfold Func.isWrapper;first | (rw [if_pos (by decide +kernel)];kernel_rfl) | (rw [if_neg (by decide +kernel)];exact ⟨rfl,rfl⟩))
  (fun os started H enc _=>syntaxCanonical_lifted os started H enc)
#print axioms syntaxCanonical_holds
theorem syntaxCanonicalCard_holds:Rows.SyntaxCanonicalCardSaid :=
 Claim7.holds_tied_plain_at .later [] [.data, .data, .data, .data] true (true, "474083cd9590e32203e420c9c3792076892becb45167d9ad5bc1db7322999a86") true
  syntaxCanonical_holds (fun _ h=>by cases h) (by kernel_rfl) (fun _ h=>by cases h) syntaxCanonical_row_tie rfl ⟨rfl,rfl⟩ (by kernel_rfl) rfl
  (fun f fn hf hfn=>by
   obtain rfl : f = 6 := Option.some.inj ((show Tryz.prog.funcNamed "consol/consollaw12.SyntaxCanonical" = some 6 by kernel_rfl).symm.trans hf) |>.symm
   obtain rfl:fn=Tryz.f6:=(Option.some.inj (Tryz.func6.symm.trans hfn)).symm
   exact ⟨by kernel_rfl,fun j t ht=>by
    rw [Tryz.params6] at ht
    have h0:t=9:=by
     rcases j with _ | j
     ·simpa using ht.symm
     ·simp at ht
    subst h0
    exact (show Tryz.prog.wantsStandIn 9=false by kernel_rfl)⟩)
  (by kernel_rfl)
#print axioms syntaxCanonicalCard_holds
end Go.Proofs.YtlmgomgpiideoaaGreatDoor
