/-
  The statement StateCopies of the layer state holds, as a tied card: for all inputs the law returns true, and each argument reads as before, where the listed tables are as the program's text lays them.
-/
import Derived.Test.YtgaallgiaachlaaGreatDoorCc
import Derived.Test.YtgaallgiaachlaaGreatDoorCd
import Derived.Test.YtgaallgiaachlaaGreatDoorCards
import Derived.Test.YtgaallgiaachlaaGreatDoorTie
import Derived.SevenTiedAt
namespace Go.Proofs.YtgaallgiaachlaaGreatDoor
open Go.ChangeShapes Go.WideShapes Go.RowKit Go.Own
set_option maxRecDepth 100000 in
theorem stateCopies_lifted (os:Os) (started:os.Started) (H:Type) (enc:TypeId×Value→H) :
  ReturnsInHanded {} Tryz.checked os 7 .any (fun w args=>(Rows.stateCopiesSpec.pre enc Tryz.prog Tryz.f7 Rows.stateCopiesRow.domain false w args∧laidMet Tryz.prog Rows.stateCopiesRow.laid w)∧sizedMet enc Tryz.prog Tryz.f7 (OpenSpec.ofChange Rows.stateCopiesSpec) false w args) (Rows.stateCopiesSpec.post enc Tryz.prog Tryz.f7 false true false false) :=
 row_lifted_laid (C:=Tryz.checked) (P:=Tryz.prog) (laid:=Rows.stateCopiesRow.laid) rfl Tryz.own started zp9 Tryz.func7
  (ChangeSpec.witness_at (enc:=enc) (C:=Tryz.checked) (os:=os) (X:=fun w _=>laidMet Tryz.prog Rows.stateCopiesRow.laid w) false (laidWorld os) #[.agg #[.int .i64 0,.slice none 0 0,.slice none 0 0,.int .i64 0,.slice none 0 0,.slice none 0 0,.slice none 0 0,.slice none 0 0]] 8 (World.laidAll_os _ _ _) zp9 zp9 zp9 zp9 zp9 (laid_met os _))
  Tryz.laidOut rfl zp9 rfl undBool (fun ds hd=>by
   match ds,hd with
   | [d0],_=>rfl)
  (Qs:=[_]) ⟨vSta,trivial⟩
  (fun avs hA0=>by
   obtain ⟨_,_,rfl,⟨a,ha,rfl⟩,hA1⟩:=alls_cons hA0
   obtain rfl:=alls_nil hA1
   exact law_copies a ha)
  (fun W h=>laid_tabs W h)
theorem stateCopies_holds:Rows.StateCopiesSaid :=
 OpenClaim.holds_of_wide 7 Tryz.f7 rfl rfl rfl rfl rfl rfl rfl ⟨rfl,rfl,rfl,rfl,rfl⟩ rfl rfl rfl rfl rfl zp9 Tryz.func7 zp9
  (of_decide_eq_true zp9) (by unfold Func.isWrapper;first | (rw [if_pos (by decide +kernel)];kernel_rfl) | (rw [if_neg (by decide +kernel)];exact ⟨rfl,rfl⟩))
  (fun os started H enc _=>stateCopies_lifted os started H enc)
#print axioms stateCopies_holds
theorem stateCopiesCard_holds:Rows.StateCopiesCardSaid :=
 Claim7.holds_tied_plain_at .later [] [.data, .data, .data, .sentinel, .sentinel, .data] true (true, "7a5b5844041b3cc85784172216ca196fe63d204a2225706998b434b34137d142") true
  stateCopies_holds (fun _ h=>by cases h) zp9 (fun _ h=>by cases h) stateCopies_row_tie rfl ⟨rfl,rfl⟩ zp9 rfl
  (fun f fn hf hfn=>by
   obtain rfl : f = 7 := Option.some.inj ((show Tryz.prog.funcNamed "consol/consollaw47.StateCopies" = some 7 by kernel_rfl).symm.trans hf) |>.symm
   obtain rfl:fn=Tryz.f7:=(Option.some.inj (Tryz.func7.symm.trans hfn)).symm
   exact ⟨by kernel_rfl,fun j t ht=>by
    rw [Tryz.params7] at ht
    have h0:t=28:=by
     rcases j with _ | j
     ·simpa using ht.symm
     ·simp at ht
    subst h0
    exact (show Tryz.prog.wantsStandIn 28=false by kernel_rfl)⟩)
  zp9
#print axioms stateCopiesCard_holds
end Go.Proofs.YtgaallgiaachlaaGreatDoor
