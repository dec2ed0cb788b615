/-
  The statement DiffClauses of the layer diff holds, as a tied card: for all inputs the law returns true, and each argument reads as before, where the listed tables are as the program's text lays them.
-/
import Derived.Test.YtohankpncipefaaGreatDoorCc
import Derived.Test.YtohankpncipefaaGreatDoorCards
import Derived.Test.YtohankpncipefaaGreatDoorTie
import Derived.SevenTiedAt
namespace Go.Proofs.YtohankpncipefaaGreatDoor
open Go.ChangeShapes Go.WideShapes Go.RowKit Go.Own
set_option maxRecDepth 100000 in
theorem diffClauses_lifted (os:Os) (started:os.Started) (H:Type) (enc:TypeId×Value→H) :
  ReturnsInHanded {} Tryz.checked os 4 .any (fun w args=>(Rows.diffClausesSpec.pre enc Tryz.prog Tryz.f4 Rows.diffClausesRow.domain false w args∧laidMet Tryz.prog Rows.diffClausesRow.laid w)∧sizedMet enc Tryz.prog Tryz.f4 (OpenSpec.ofChange Rows.diffClausesSpec) false w args) (Rows.diffClausesSpec.post enc Tryz.prog Tryz.f4 false true false false) :=
 row_lifted_laid_sh (C:=Tryz.checked) (P:=Tryz.prog) (laid:=Rows.diffClausesRow.laid) rfl Tryz.own started (by kernel_rfl) Tryz.func4
  (ChangeSpec.witness_at (enc:=enc) (C:=Tryz.checked) (os:=os) (X:=fun w _=>laidMet Tryz.prog Rows.diffClausesRow.laid w) false (laidWorld os) #[.agg #[.string ⟨#[]⟩,.string ⟨#[]⟩,.int .i64 0,.int .i64 0,.int .i64 0,.int .i64 0,.int .i64 0,.int .i64 0,.int .i64 0,.int .i64 0,.slice none 0 0,.int .i64 0,.int .i64 0,.int .i64 0,.string ⟨#[]⟩,.slice none 0 0,.int .i64 0,.slice none 0 0,.slice none 0 0,.int .i64 0,.slice none 0 0,.int .i64 0,.int .i64 0,.int .i64 0,.int .i64 0],.agg #[.string ⟨#[]⟩,.string ⟨#[]⟩,.int .i64 0,.int .i64 0,.int .i64 0,.int .i64 0,.int .i64 0,.int .i64 0,.int .i64 0,.int .i64 0,.slice none 0 0,.int .i64 0,.int .i64 0,.int .i64 0,.string ⟨#[]⟩,.slice none 0 0,.int .i64 0,.slice none 0 0,.slice none 0 0,.int .i64 0,.slice none 0 0,.int .i64 0,.int .i64 0,.int .i64 0,.int .i64 0]] 8 (World.laidAll_os _ _ _) (by kernel_rfl) (by kernel_rfl) (by kernel_rfl) (by kernel_rfl) (by kernel_rfl) (laid_met os _))
  Tryz.laidOut rfl (by kernel_rfl) rfl undBool (fun ds hd=>by
   match ds,hd with
   | [d0,d1],_=>rfl)
  (Qs:=[_,_]) ⟨vInd,vInd,trivial⟩
  (fun avs hA0=>by
   obtain ⟨_,_,rfl,⟨x,hx,rfl⟩,hA1⟩:=alls_cons hA0
   obtain ⟨_,_,rfl,⟨y,hy,rfl⟩,hA2⟩:=alls_cons hA1
   obtain rfl:=alls_nil hA2
   exact law_clauses x y hx hy)
  (fun W h h2=>laid_tabs W h h2)
theorem diffClauses_holds:Rows.DiffClausesSaid :=
 OpenClaim.holds_of_wide 4 Tryz.f4 rfl rfl rfl rfl rfl rfl rfl ⟨rfl,rfl,rfl,rfl,rfl⟩ rfl rfl rfl rfl rfl (by kernel_rfl) Tryz.func4 (by kernel_rfl)
  (of_decide_eq_true (by kernel_rfl)) (by unfold Func.isWrapper;first | (rw [if_pos (by decide +kernel)];kernel_rfl) | (rw [if_neg (by decide +kernel)];exact ⟨rfl,rfl⟩))
  (fun os started H enc _=>diffClauses_lifted os started H enc)
#print axioms diffClauses_holds
theorem diffClausesCard_holds:Rows.DiffClausesCardSaid :=
 Claim7.holds_tied_plain_at .later [] [.data, .data, .data, .data, .data, .pinned] true (true, "2bf5e7a125e7da04deecec4ffc0b46605f04f7114a4e5ed2a3e9b1bb78243993") true
  diffClauses_holds (fun _ h=>by cases h) (by kernel_rfl) (fun _ h=>by cases h) diffClauses_row_tie rfl ⟨rfl,rfl⟩ (by kernel_rfl) rfl
  (fun f fn hf hfn=>by
   obtain rfl : f = 4 := Option.some.inj ((show Tryz.prog.funcNamed "consol/consollaw34.DiffClauses" = some 4 by kernel_rfl).symm.trans hf) |>.symm
   obtain rfl:fn=Tryz.f4:=(Option.some.inj (Tryz.func4.symm.trans hfn)).symm
   exact ⟨by kernel_rfl,fun j t ht=>by
    rw [Tryz.params4] at ht
    have h0:t=31∨t=31:=by
     match j,ht with
     | 0,h=>exact .inl ((Option.some.inj h).symm)
     | 1,h=>exact .inr ((Option.some.inj h).symm)
     | _+2,h=>simp at h
    rcases h0 with rfl | rfl
    ·exact (show Tryz.prog.wantsStandIn 31=false by kernel_rfl)
    ·exact (show Tryz.prog.wantsStandIn 31=false by kernel_rfl)⟩)
  (by kernel_rfl)
#print axioms diffClausesCard_holds
end Go.Proofs.YtohankpncipefaaGreatDoor
