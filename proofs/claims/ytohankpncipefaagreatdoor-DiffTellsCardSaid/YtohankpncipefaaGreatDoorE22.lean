/-
  The statement DiffTells of the layer diff holds, as a tied card: for all inputs the law returns true, and each argument reads as before, where the listed tables are as the program's text lays them.
-/
import Derived.Test.YtohankpncipefaaGreatDoorCc
import Derived.Test.YtohankpncipefaaGreatDoorCards
import Derived.Test.YtohankpncipefaaGreatDoorTie
import Derived.SevenTiedAt
namespace Go.Proofs.YtohankpncipefaaGreatDoor
open Go.ChangeShapes Go.WideShapes Go.RowKit Go.Own
set_option maxRecDepth 100000 in
theorem diffTells_lifted (os:Os) (started:os.Started) (H:Type) (enc:TypeId×Value→H) :
  ReturnsInHanded {} Tryz.checked os 3 .any (fun w args=>(Rows.diffTellsSpec.pre enc Tryz.prog Tryz.f3 Rows.diffTellsRow.domain false w args∧laidMet Tryz.prog Rows.diffTellsRow.laid w)∧sizedMet enc Tryz.prog Tryz.f3 (OpenSpec.ofChange Rows.diffTellsSpec) false w args) (Rows.diffTellsSpec.post enc Tryz.prog Tryz.f3 false true false false) :=
 row_lifted_laid_sh (C:=Tryz.checked) (P:=Tryz.prog) (laid:=Rows.diffTellsRow.laid) rfl Tryz.own started (by kernel_rfl) Tryz.func3
  (ChangeSpec.witness_at (enc:=enc) (C:=Tryz.checked) (os:=os) (X:=fun w _=>laidMet Tryz.prog Rows.diffTellsRow.laid w) false (laidWorld os) #[.slice none 0 0,.slice none 0 0,.slice none 0 0,.agg #[.string ⟨#[]⟩,.string ⟨#[]⟩,.int .i64 0,.int .i64 0,.int .i64 0,.int .i64 0,.int .i64 0,.int .i64 0,.int .i64 0,.int .i64 0,.slice none 0 0,.int .i64 0,.int .i64 0,.int .i64 0,.string ⟨#[]⟩,.slice none 0 0,.int .i64 0,.slice none 0 0,.slice none 0 0,.int .i64 0,.slice none 0 0,.int .i64 0,.int .i64 0,.int .i64 0,.int .i64 0],.agg #[.string ⟨#[]⟩,.string ⟨#[]⟩,.int .i64 0,.int .i64 0,.int .i64 0,.int .i64 0,.int .i64 0,.int .i64 0,.int .i64 0,.int .i64 0,.slice none 0 0,.int .i64 0,.int .i64 0,.int .i64 0,.string ⟨#[]⟩,.slice none 0 0,.int .i64 0,.slice none 0 0,.slice none 0 0,.int .i64 0,.slice none 0 0,.int .i64 0,.int .i64 0,.int .i64 0,.int .i64 0]] 8 (World.laidAll_os _ _ _) (by kernel_rfl) (by kernel_rfl) (by kernel_rfl) (by kernel_rfl) (by kernel_rfl) (laid_met os _))
  Tryz.laidOut rfl (by kernel_rfl) rfl undBool (fun ds hd=>by
   match ds,hd with
   | [d0,d1,d2,d3,d4],_=>rfl)
  (Qs:=[_,_,_,_,_]) ⟨vStrs,vStrs,vChgs,vInd,vInd,trivial⟩
  (fun avs hA0=>by
   obtain ⟨_,_,rfl,⟨a,ha,rfl⟩,hA1⟩:=alls_cons hA0
   obtain ⟨_,_,rfl,⟨b,hb,rfl⟩,hA2⟩:=alls_cons hA1
   obtain ⟨_,_,rfl,⟨l,hl,rfl⟩,hA3⟩:=alls_cons hA2
   obtain ⟨_,_,rfl,⟨x,hx,rfl⟩,hA4⟩:=alls_cons hA3
   obtain ⟨_,_,rfl,⟨y,hy,rfl⟩,hA5⟩:=alls_cons hA4
   obtain rfl:=alls_nil hA5
   exact law_tells a b l x y ha hb hl hx hy)
  (fun W h h2=>laid_tabs W h h2)
theorem diffTells_holds:Rows.DiffTellsSaid :=
 OpenClaim.holds_of_wide 3 Tryz.f3 rfl rfl rfl rfl rfl rfl rfl ⟨rfl,rfl,rfl,rfl,rfl⟩ rfl rfl rfl rfl rfl (by kernel_rfl) Tryz.func3 (by kernel_rfl)
  (of_decide_eq_true (by kernel_rfl)) (by unfold Func.isWrapper;first | (rw [if_pos (by decide +kernel)];kernel_rfl) | (rw [if_neg (by decide +kernel)];exact ⟨rfl,rfl⟩))
  (fun os started H enc _=>diffTells_lifted os started H enc)
#print axioms diffTells_holds
theorem diffTellsCard_holds:Rows.DiffTellsCardSaid :=
 Claim7.holds_tied_plain_at .later [] [.data, .data, .data, .data, .pinned] true (true, "2bf5e7a125e7da04deecec4ffc0b46605f04f7114a4e5ed2a3e9b1bb78243993") true
  diffTells_holds (fun _ h=>by cases h) (by kernel_rfl) (fun _ h=>by cases h) diffTells_row_tie rfl ⟨rfl,rfl⟩ (by kernel_rfl) rfl
  (fun f fn hf hfn=>by
   obtain rfl : f = 3 := Option.some.inj ((show Tryz.prog.funcNamed "consol/consollaw34.DiffTells" = some 3 by kernel_rfl).symm.trans hf) |>.symm
   obtain rfl:fn=Tryz.f3:=(Option.some.inj (Tryz.func3.symm.trans hfn)).symm
   exact ⟨by kernel_rfl,fun j t ht=>by
    rw [Tryz.params3] at ht
    have h0:t=22∨t=22∨t=23∨t=31∨t=31:=by
     match j,ht with
     | 0,h=>exact .inl ((Option.some.inj h).symm)
     | 1,h=>exact .inr (.inl ((Option.some.inj h).symm))
     | 2,h=>exact .inr (.inr (.inl ((Option.some.inj h).symm)))
     | 3,h=>exact .inr (.inr (.inr (.inl ((Option.some.inj h).symm))))
     | 4,h=>exact .inr (.inr (.inr (.inr ((Option.some.inj h).symm))))
     | _+5,h=>simp at h
    rcases h0 with rfl | rfl | rfl | rfl | rfl
    ·exact (show Tryz.prog.wantsStandIn 22=false by kernel_rfl)
    ·exact (show Tryz.prog.wantsStandIn 22=false by kernel_rfl)
    ·exact (show Tryz.prog.wantsStandIn 23=false by kernel_rfl)
    ·exact (show Tryz.prog.wantsStandIn 31=false by kernel_rfl)
    ·exact (show Tryz.prog.wantsStandIn 31=false by kernel_rfl)⟩)
  (by kernel_rfl)
#print axioms diffTellsCard_holds
end Go.Proofs.YtohankpncipefaaGreatDoor
