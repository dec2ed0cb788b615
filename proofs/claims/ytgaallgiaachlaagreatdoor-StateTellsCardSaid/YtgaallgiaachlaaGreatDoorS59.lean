/-
  The lifted statement of StateTells.
-/
import Derived.Test.YtgaallgiaachlaaGreatDoorCd
import Derived.Test.YtgaallgiaachlaaGreatDoorCe
import Derived.Test.YtgaallgiaachlaaGreatDoorCards
import Derived.Test.YtgaallgiaachlaaGreatDoorTie
import Derived.SevenTiedAt
namespace Go.Proofs.YtgaallgiaachlaaGreatDoor
open Go.ChangeShapes Go.WideShapes Go.RowKit Go.Own
set_option maxRecDepth 100000 in
theorem IX (os:Os) (started:os.Started) (H:Type) (enc:TypeId×Value→H) :
  ReturnsInHanded {} Tryz.checked os 3 .any (fun w args=>(Rows.stateTellsSpec.pre enc Tryz.prog Tryz.f3 Rows.stateTellsRow.domain false w args∧laidMet Tryz.prog Rows.stateTellsRow.laid w)∧sizedMet enc Tryz.prog Tryz.f3 (OpenSpec.ofChange Rows.stateTellsSpec) false w args) (Rows.stateTellsSpec.post enc Tryz.prog Tryz.f3 false true false false) :=
 L9 (C:=Tryz.checked) (P:=Tryz.prog) (laid:=Rows.stateTellsRow.laid) rfl Tryz.own started bZ Tryz.func3
  (ChangeSpec.witness_at (enc:=enc) (C:=Tryz.checked) (os:=os) (X:=fun w _=>laidMet Tryz.prog Rows.stateTellsRow.laid w) false (laidWorld os) #[.agg #[.int .i64 0,.slice none 0 0,.slice none 0 0,.int .i64 0,.slice none 0 0,.slice none 0 0,.slice none 0 0,.slice none 0 0],.agg #[.int .i64 0,.slice none 0 0,.slice none 0 0,.int .i64 0,.slice none 0 0,.slice none 0 0,.slice none 0 0,.slice none 0 0],.string ⟨#[]⟩] 8 (World.laidAll_os _ _ _) bZ bZ bZ bZ bZ (laid_met os _))
  Tryz.laidOut rfl bZ rfl Vb (fun ds hd=>by
   match ds,hd with
   | [d0,d1,d2],_=>rfl)
  (Qs:=[_,_,_]) ⟨aib,aib,ajT,trivial⟩
  (fun avs hA0=>by
   obtain ⟨_,_,rfl,⟨a,ha,rfl⟩,hA1⟩:=Ia hA0;obtain ⟨_,_,rfl,⟨b,hb,rfl⟩,hA2⟩:=Ia hA1;obtain ⟨_,_,rfl,⟨t,ht,rfl⟩,hA3⟩:=Ia hA2;obtain rfl:=adf hA3;exact ZQ a b t ha hb ht)
  (fun W h=>aaf W h)
end Go.Proofs.YtgaallgiaachlaaGreatDoor
