import Derived.Test.YtohankpncipefaaGreatDoorCb
import Derived.Test.YtohankpncipefaaGreatDoorLc
import Derived.Shelf.Vars
import Derived.Lay
import Derived.Lib.LaidTab
import Derived.LaidLaws
import Derived.KernelRfl
import Derived.Test.YtohankpncipefaaGreatDoorRows
namespace Go.Proofs.YtohankpncipefaaGreatDoor
open Go.Own
set_option maxHeartbeats 1000000
set_option maxRecDepth 100000
theorem eqLets_ok:APureV Tryz.prog 31 [.nils,.nils,.fn (.func 32) [] []] (.bool true):=by
 refine aO (cxOk 32 [0,1,2,6,7,8,9,14,15,16,17,18,30]) Tryz.func31 ?_
 conv=>whnf
 refine ⟨fun hc=>?_,fun hc=>?_⟩
 ·simp at hc
 conv=>whnf
 refine loop_up (cxOk _ _) 0 (fun _=>True) (fun k=>⟨[(15,.nils),(16,.int .i64 0),(17,.int .i64 (k:Nat))],[],0⟩) trivial (wk_of [] rfl ⟨wa0,wa0,wa0,trivial⟩ trivial) ?_
 intro k hk _
 conv=>whnf
 refine ⟨fun hc=>?_,fun hc=>?_⟩
 ·simp only [decide_eq_true_eq] at hc
  omega
 ·conv=>whnf
  rfl
theorem eqExps_ok:APureV Tryz.prog 69 [.nils,.nils,.fn (.func 33) [] []] (.bool true):=by
 refine aO (cxOk 32 [0,1,2,6,7,8,9,14,15,16,17,18,30]) Tryz.func69 ?_
 conv=>whnf
 refine ⟨fun hc=>?_,fun hc=>?_⟩
 ·simp at hc
 conv=>whnf
 refine loop_up (cxOk _ _) 0 (fun _=>True) (fun k=>⟨[(15,.nils),(16,.int .i64 0),(17,.int .i64 (k:Nat))],[],0⟩) trivial (wk_of [] rfl ⟨wa0,wa0,wa0,trivial⟩ trivial) ?_
 intro k hk _
 conv=>whnf
 refine ⟨fun hc=>?_,fun hc=>?_⟩
 ·simp only [decide_eq_true_eq] at hc
  omega
 ·conv=>whnf
  rfl
abbrev noExp:AV:=.agg [.int .i64 0,.int .i64 0,.int .i64 0,.str [],.nils]
theorem sameExpS_ok:APureV Tryz.prog 33 [noExp,noExp] (.bool true):=by
 refine aO (cxOk 38 [0,1,2,3,4]) Tryz.func33 ?_
 conv=>whnf
 refine .one _ _ _ (fun _=>eqExps_ok) (by repeat (first | exact .nil | (apply BorL.cons;first | exact lS rfl | exact lR rfl | exact lM rfl rfl | exact lL rfl | exact lX rfl | exact lN | exact lNl | exact lSm rfl | exact lIm rfl | exact lGm rfl | exact lP rfl | exact lQ rfl | exact lB rfl rfl rfl | exact .fn _ _ _ _ _ _ _ (by repeat (first | exact .nil | (apply BorL.cons;first | exact .base (.base (.same _ rfl)) | exact .base (.base (.row _ _ _ _ _ _ rfl)) | exact .base (.base (.smap _ _ _ _ rfl)) | exact .base (.base (.imap _ _ _ _ _ rfl)) | exact .base (.base (.gmap _ _ _ _ _ rfl)) | exact .box _ _ _ _ _ _ rfl (by repeat (first | exact .nil | (apply BorL.cons;first | exact .base (.same _ rfl) | exact .base (.row _ _ _ _ _ _ rfl) | exact .base (.smap _ _ _ _ rfl) | exact .base (.imap _ _ _ _ _ rfl) | exact .base (.gmap _ _ _ _ _ rfl) | exact .box _ _ _ _ _ _ rfl (by repeat (first | exact .nil | (apply BorL.cons;first | exact .same _ rfl | exact .row _ _ _ _ _ _ rfl | exact .lstrow _ _ _ _ _ _ _ rfl rfl | exact .lst _ _ _ _ rfl | exact .smap _ _ _ _ rfl | exact .imap _ _ _ _ _ rfl | exact .gmap _ _ _ _ _ rfl))) (by first | exact allOne_spec rfl | simp [AV.one])))) (by first | exact allOne_spec rfl | simp [AV.one]) | exact .fn _ _ _ _ _ _ _ (by repeat (first | exact .nil | (apply BorL.cons;first | exact .base (.same _ rfl) | exact .base (.row _ _ _ _ _ _ rfl) | exact .base (.smap _ _ _ _ rfl) | exact .base (.imap _ _ _ _ _ rfl) | exact .base (.gmap _ _ _ _ _ rfl) | exact .box _ _ _ _ _ _ rfl (by repeat (first | exact .nil | (apply BorL.cons;first | exact .same _ rfl | exact .row _ _ _ _ _ _ rfl | exact .lstrow _ _ _ _ _ _ _ rfl rfl | exact .lst _ _ _ _ rfl | exact .smap _ _ _ _ rfl | exact .imap _ _ _ _ _ rfl | exact .gmap _ _ _ _ _ rfl))) (by first | exact allOne_spec rfl | simp [AV.one])))) (by repeat (first | exact .nil | (apply BorL.cons;first | exact .base (.same _ rfl) | exact .base (.row _ _ _ _ _ _ rfl) | exact .base (.smap _ _ _ _ rfl) | exact .base (.imap _ _ _ _ _ rfl) | exact .base (.gmap _ _ _ _ _ rfl) | exact .box _ _ _ _ _ _ rfl (by repeat (first | exact .nil | (apply BorL.cons;first | exact .same _ rfl | exact .row _ _ _ _ _ _ rfl | exact .lstrow _ _ _ _ _ _ _ rfl rfl | exact .lst _ _ _ _ rfl | exact .smap _ _ _ _ rfl | exact .imap _ _ _ _ _ rfl | exact .gmap _ _ _ _ _ rfl))) (by first | exact allOne_spec rfl | simp [AV.one]))))))) (by repeat (first | exact .nil | (apply BorL.cons;first | exact .base (.base (.same _ rfl)) | exact .base (.base (.row _ _ _ _ _ _ rfl)) | exact .base (.base (.smap _ _ _ _ rfl)) | exact .base (.base (.imap _ _ _ _ _ rfl)) | exact .base (.base (.gmap _ _ _ _ _ rfl)) | exact .box _ _ _ _ _ _ rfl (by repeat (first | exact .nil | (apply BorL.cons;first | exact .base (.same _ rfl) | exact .base (.row _ _ _ _ _ _ rfl) | exact .base (.smap _ _ _ _ rfl) | exact .base (.imap _ _ _ _ _ rfl) | exact .base (.gmap _ _ _ _ _ rfl) | exact .box _ _ _ _ _ _ rfl (by repeat (first | exact .nil | (apply BorL.cons;first | exact .same _ rfl | exact .row _ _ _ _ _ _ rfl | exact .lstrow _ _ _ _ _ _ _ rfl rfl | exact .lst _ _ _ _ rfl | exact .smap _ _ _ _ rfl | exact .imap _ _ _ _ _ rfl | exact .gmap _ _ _ _ _ rfl))) (by first | exact allOne_spec rfl | simp [AV.one])))) (by first | exact allOne_spec rfl | simp [AV.one]) | exact .fn _ _ _ _ _ _ _ (by repeat (first | exact .nil | (apply BorL.cons;first | exact .base (.same _ rfl) | exact .base (.row _ _ _ _ _ _ rfl) | exact .base (.smap _ _ _ _ rfl) | exact .base (.imap _ _ _ _ _ rfl) | exact .base (.gmap _ _ _ _ _ rfl) | exact .box _ _ _ _ _ _ rfl (by repeat (first | exact .nil | (apply BorL.cons;first | exact .same _ rfl | exact .row _ _ _ _ _ _ rfl | exact .lstrow _ _ _ _ _ _ _ rfl rfl | exact .lst _ _ _ _ rfl | exact .smap _ _ _ _ rfl | exact .imap _ _ _ _ _ rfl | exact .gmap _ _ _ _ _ rfl))) (by first | exact allOne_spec rfl | simp [AV.one])))) (by repeat (first | exact .nil | (apply BorL.cons;first | exact .base (.same _ rfl) | exact .base (.row _ _ _ _ _ _ rfl) | exact .base (.smap _ _ _ _ rfl) | exact .base (.imap _ _ _ _ _ rfl) | exact .base (.gmap _ _ _ _ _ rfl) | exact .box _ _ _ _ _ _ rfl (by repeat (first | exact .nil | (apply BorL.cons;first | exact .same _ rfl | exact .row _ _ _ _ _ _ rfl | exact .lstrow _ _ _ _ _ _ _ rfl rfl | exact .lst _ _ _ _ rfl | exact .smap _ _ _ _ rfl | exact .imap _ _ _ _ _ rfl | exact .gmap _ _ _ _ _ rfl))) (by first | exact allOne_spec rfl | simp [AV.one]))))))) | exact .box _ _ _ _ _ _ rfl (by repeat (first | exact .nil | (apply BorL.cons;first | exact .base (.base (.same _ rfl)) | exact .base (.base (.row _ _ _ _ _ _ rfl)) | exact .base (.base (.smap _ _ _ _ rfl)) | exact .base (.base (.imap _ _ _ _ _ rfl)) | exact .base (.base (.gmap _ _ _ _ _ rfl)) | exact .box _ _ _ _ _ _ rfl (by repeat (first | exact .nil | (apply BorL.cons;first | exact .base (.same _ rfl) | exact .base (.row _ _ _ _ _ _ rfl) | exact .base (.smap _ _ _ _ rfl) | exact .base (.imap _ _ _ _ _ rfl) | exact .base (.gmap _ _ _ _ _ rfl) | exact .box _ _ _ _ _ _ rfl (by repeat (first | exact .nil | (apply BorL.cons;first | exact .same _ rfl | exact .row _ _ _ _ _ _ rfl | exact .lstrow _ _ _ _ _ _ _ rfl rfl | exact .lst _ _ _ _ rfl | exact .smap _ _ _ _ rfl | exact .imap _ _ _ _ _ rfl | exact .gmap _ _ _ _ _ rfl))) (by first | exact allOne_spec rfl | simp [AV.one])))) (by first | exact allOne_spec rfl | simp [AV.one]) | exact .fn _ _ _ _ _ _ _ (by repeat (first | exact .nil | (apply BorL.cons;first | exact .base (.same _ rfl) | exact .base (.row _ _ _ _ _ _ rfl) | exact .base (.smap _ _ _ _ rfl) | exact .base (.imap _ _ _ _ _ rfl) | exact .base (.gmap _ _ _ _ _ rfl) | exact .box _ _ _ _ _ _ rfl (by repeat (first | exact .nil | (apply BorL.cons;first | exact .same _ rfl | exact .row _ _ _ _ _ _ rfl | exact .lstrow _ _ _ _ _ _ _ rfl rfl | exact .lst _ _ _ _ rfl | exact .smap _ _ _ _ rfl | exact .imap _ _ _ _ _ rfl | exact .gmap _ _ _ _ _ rfl))) (by first | exact allOne_spec rfl | simp [AV.one])))) (by repeat (first | exact .nil | (apply BorL.cons;first | exact .base (.same _ rfl) | exact .base (.row _ _ _ _ _ _ rfl) | exact .base (.smap _ _ _ _ rfl) | exact .base (.imap _ _ _ _ _ rfl) | exact .base (.gmap _ _ _ _ _ rfl) | exact .box _ _ _ _ _ _ rfl (by repeat (first | exact .nil | (apply BorL.cons;first | exact .same _ rfl | exact .row _ _ _ _ _ _ rfl | exact .lstrow _ _ _ _ _ _ _ rfl rfl | exact .lst _ _ _ _ rfl | exact .smap _ _ _ _ rfl | exact .imap _ _ _ _ _ rfl | exact .gmap _ _ _ _ _ rfl))) (by first | exact allOne_spec rfl | simp [AV.one]))))))) (by first | exact allOne_spec rfl | simp [AV.one]) | exact .agg _ _ _ (by repeat (first | exact .nil | (apply BorL.cons;first | exact .base (.base (.same _ rfl)) | exact .base (.base (.row _ _ _ _ _ _ rfl)) | exact .base (.base (.smap _ _ _ _ rfl)) | exact .base (.base (.imap _ _ _ _ _ rfl)) | exact .base (.base (.gmap _ _ _ _ _ rfl)) | exact .box _ _ _ _ _ _ rfl (by repeat (first | exact .nil | (apply BorL.cons;first | exact .base (.same _ rfl) | exact .base (.row _ _ _ _ _ _ rfl) | exact .base (.smap _ _ _ _ rfl) | exact .base (.imap _ _ _ _ _ rfl) | exact .base (.gmap _ _ _ _ _ rfl) | exact .box _ _ _ _ _ _ rfl (by repeat (first | exact .nil | (apply BorL.cons;first | exact .same _ rfl | exact .row _ _ _ _ _ _ rfl | exact .lstrow _ _ _ _ _ _ _ rfl rfl | exact .lst _ _ _ _ rfl | exact .smap _ _ _ _ rfl | exact .imap _ _ _ _ _ rfl | exact .gmap _ _ _ _ _ rfl))) (by first | exact allOne_spec rfl | simp [AV.one])))) (by first | exact allOne_spec rfl | simp [AV.one]) | exact .fn _ _ _ _ _ _ _ (by repeat (first | exact .nil | (apply BorL.cons;first | exact .base (.same _ rfl) | exact .base (.row _ _ _ _ _ _ rfl) | exact .base (.smap _ _ _ _ rfl) | exact .base (.imap _ _ _ _ _ rfl) | exact .base (.gmap _ _ _ _ _ rfl) | exact .box _ _ _ _ _ _ rfl (by repeat (first | exact .nil | (apply BorL.cons;first | exact .same _ rfl | exact .row _ _ _ _ _ _ rfl | exact .lstrow _ _ _ _ _ _ _ rfl rfl | exact .lst _ _ _ _ rfl | exact .smap _ _ _ _ rfl | exact .imap _ _ _ _ _ rfl | exact .gmap _ _ _ _ _ rfl))) (by first | exact allOne_spec rfl | simp [AV.one])))) (by repeat (first | exact .nil | (apply BorL.cons;first | exact .base (.same _ rfl) | exact .base (.row _ _ _ _ _ _ rfl) | exact .base (.smap _ _ _ _ rfl) | exact .base (.imap _ _ _ _ _ rfl) | exact .base (.gmap _ _ _ _ _ rfl) | exact .box _ _ _ _ _ _ rfl (by repeat (first | exact .nil | (apply BorL.cons;first | exact .same _ rfl | exact .row _ _ _ _ _ _ rfl | exact .lstrow _ _ _ _ _ _ _ rfl rfl | exact .lst _ _ _ _ rfl | exact .smap _ _ _ _ rfl | exact .imap _ _ _ _ _ rfl | exact .gmap _ _ _ _ _ rfl))) (by first | exact allOne_spec rfl | simp [AV.one])))))))))) ak0 (by first | exact .inr rfl | exact .inl rfl) ?_
 conv=>whnf
 rfl
structure MatS where
 name:Str
 same:Bool
def encMS (m:MatS):AV:=.agg [.str m.name,.bool m.same]
instance:Inhabited MatS:=⟨⟨[],false⟩⟩
abbrev face:Str:=[102,97,99,101]
abbrev rank:Str:=[114,97,110,107]
def matsS:List MatS:=[⟨face,false⟩,⟨[102,114,111,109],true⟩,⟨[116,111],true⟩,⟨[99,111,117,112,111,110],true⟩,⟨rank,false⟩,⟨[109,97,106,111,114,105,116,121],true⟩]
def notSame (l:List MatS):List Str:=(l.filter fun m=>!m.same).map MatS.name
def inden (f r:Int):AV:=.agg [.str [],.str [],.int .i64 f,.int .i64 0,.int .i64 0,.int .i64 0,.int .i64 0,.int .i64 0,.int .i64 0,.int .i64 r,.nils,.int .i64 0,.int .i64 0,.int .i64 0,.str [],.nils,.int .i64 0,.nils,.nils,.int .i64 0,.nils,.int .i64 0,.int .i64 0,.int .i64 0,.int .i64 0]
theorem reservedS_ok:APure Tryz.prog 16 [inden 1 2,inden 2 0] (fun rs=>rs=[.new (.row 9 1 encS [] [face,rank])]):=by
 refine aO (cxOk 76 [0,1,2,3,4,5,6,8,60,61,62,63,68]) Tryz.func16 ?_
 conv=>whnf
 refine .one _ _ _ (fun _=>eqLets_ok) (by repeat (first | exact .nil | (apply BorL.cons;first | exact lS rfl | exact lR rfl | exact lM rfl rfl | exact lL rfl | exact lX rfl | exact lN | exact lNl | exact lSm rfl | exact lIm rfl | exact lGm rfl | exact lP rfl | exact lQ rfl | exact lB rfl rfl rfl | exact .fn _ _ _ _ _ _ _ (by repeat (first | exact .nil | (apply BorL.cons;first | exact .base (.base (.same _ rfl)) | exact .base (.base (.row _ _ _ _ _ _ rfl)) | exact .base (.base (.smap _ _ _ _ rfl)) | exact .base (.base (.imap _ _ _ _ _ rfl)) | exact .base (.base (.gmap _ _ _ _ _ rfl)) | exact .box _ _ _ _ _ _ rfl (by repeat (first | exact .nil | (apply BorL.cons;first | exact .base (.same _ rfl) | exact .base (.row _ _ _ _ _ _ rfl) | exact .base (.smap _ _ _ _ rfl) | exact .base (.imap _ _ _ _ _ rfl) | exact .base (.gmap _ _ _ _ _ rfl) | exact .box _ _ _ _ _ _ rfl (by repeat (first | exact .nil | (apply BorL.cons;first | exact .same _ rfl | exact .row _ _ _ _ _ _ rfl | exact .lstrow _ _ _ _ _ _ _ rfl rfl | exact .lst _ _ _ _ rfl | exact .smap _ _ _ _ rfl | exact .imap _ _ _ _ _ rfl | exact .gmap _ _ _ _ _ rfl))) (by first | exact allOne_spec rfl | simp [AV.one])))) (by first | exact allOne_spec rfl | simp [AV.one]) | exact .fn _ _ _ _ _ _ _ (by repeat (first | exact .nil | (apply BorL.cons;first | exact .base (.same _ rfl) | exact .base (.row _ _ _ _ _ _ rfl) | exact .base (.smap _ _ _ _ rfl) | exact .base (.imap _ _ _ _ _ rfl) | exact .base (.gmap _ _ _ _ _ rfl) | exact .box _ _ _ _ _ _ rfl (by repeat (first | exact .nil | (apply BorL.cons;first | exact .same _ rfl | exact .row _ _ _ _ _ _ rfl | exact .lstrow _ _ _ _ _ _ _ rfl rfl | exact .lst _ _ _ _ rfl | exact .smap _ _ _ _ rfl | exact .imap _ _ _ _ _ rfl | exact .gmap _ _ _ _ _ rfl))) (by first | exact allOne_spec rfl | simp [AV.one])))) (by repeat (first | exact .nil | (apply BorL.cons;first | exact .base (.same _ rfl) | exact .base (.row _ _ _ _ _ _ rfl) | exact .base (.smap _ _ _ _ rfl) | exact .base (.imap _ _ _ _ _ rfl) | exact .base (.gmap _ _ _ _ _ rfl) | exact .box _ _ _ _ _ _ rfl (by repeat (first | exact .nil | (apply BorL.cons;first | exact .same _ rfl | exact .row _ _ _ _ _ _ rfl | exact .lstrow _ _ _ _ _ _ _ rfl rfl | exact .lst _ _ _ _ rfl | exact .smap _ _ _ _ rfl | exact .imap _ _ _ _ _ rfl | exact .gmap _ _ _ _ _ rfl))) (by first | exact allOne_spec rfl | simp [AV.one]))))))) (by repeat (first | exact .nil | (apply BorL.cons;first | exact .base (.base (.same _ rfl)) | exact .base (.base (.row _ _ _ _ _ _ rfl)) | exact .base (.base (.smap _ _ _ _ rfl)) | exact .base (.base (.imap _ _ _ _ _ rfl)) | exact .base (.base (.gmap _ _ _ _ _ rfl)) | exact .box _ _ _ _ _ _ rfl (by repeat (first | exact .nil | (apply BorL.cons;first | exact .base (.same _ rfl) | exact .base (.row _ _ _ _ _ _ rfl) | exact .base (.smap _ _ _ _ rfl) | exact .base (.imap _ _ _ _ _ rfl) | exact .base (.gmap _ _ _ _ _ rfl) | exact .box _ _ _ _ _ _ rfl (by repeat (first | exact .nil | (apply BorL.cons;first | exact .same _ rfl | exact .row _ _ _ _ _ _ rfl | exact .lstrow _ _ _ _ _ _ _ rfl rfl | exact .lst _ _ _ _ rfl | exact .smap _ _ _ _ rfl | exact .imap _ _ _ _ _ rfl | exact .gmap _ _ _ _ _ rfl))) (by first | exact allOne_spec rfl | simp [AV.one])))) (by first | exact allOne_spec rfl | simp [AV.one]) | exact .fn _ _ _ _ _ _ _ (by repeat (first | exact .nil | (apply BorL.cons;first | exact .base (.same _ rfl) | exact .base (.row _ _ _ _ _ _ rfl) | exact .base (.smap _ _ _ _ rfl) | exact .base (.imap _ _ _ _ _ rfl) | exact .base (.gmap _ _ _ _ _ rfl) | exact .box _ _ _ _ _ _ rfl (by repeat (first | exact .nil | (apply BorL.cons;first | exact .same _ rfl | exact .row _ _ _ _ _ _ rfl | exact .lstrow _ _ _ _ _ _ _ rfl rfl | exact .lst _ _ _ _ rfl | exact .smap _ _ _ _ rfl | exact .imap _ _ _ _ _ rfl | exact .gmap _ _ _ _ _ rfl))) (by first | exact allOne_spec rfl | simp [AV.one])))) (by repeat (first | exact .nil | (apply BorL.cons;first | exact .base (.same _ rfl) | exact .base (.row _ _ _ _ _ _ rfl) | exact .base (.smap _ _ _ _ rfl) | exact .base (.imap _ _ _ _ _ rfl) | exact .base (.gmap _ _ _ _ _ rfl) | exact .box _ _ _ _ _ _ rfl (by repeat (first | exact .nil | (apply BorL.cons;first | exact .same _ rfl | exact .row _ _ _ _ _ _ rfl | exact .lstrow _ _ _ _ _ _ _ rfl rfl | exact .lst _ _ _ _ rfl | exact .smap _ _ _ _ rfl | exact .imap _ _ _ _ _ rfl | exact .gmap _ _ _ _ _ rfl))) (by first | exact allOne_spec rfl | simp [AV.one]))))))) | exact .box _ _ _ _ _ _ rfl (by repeat (first | exact .nil | (apply BorL.cons;first | exact .base (.base (.same _ rfl)) | exact .base (.base (.row _ _ _ _ _ _ rfl)) | exact .base (.base (.smap _ _ _ _ rfl)) | exact .base (.base (.imap _ _ _ _ _ rfl)) | exact .base (.base (.gmap _ _ _ _ _ rfl)) | exact .box _ _ _ _ _ _ rfl (by repeat (first | exact .nil | (apply BorL.cons;first | exact .base (.same _ rfl) | exact .base (.row _ _ _ _ _ _ rfl) | exact .base (.smap _ _ _ _ rfl) | exact .base (.imap _ _ _ _ _ rfl) | exact .base (.gmap _ _ _ _ _ rfl) | exact .box _ _ _ _ _ _ rfl (by repeat (first | exact .nil | (apply BorL.cons;first | exact .same _ rfl | exact .row _ _ _ _ _ _ rfl | exact .lstrow _ _ _ _ _ _ _ rfl rfl | exact .lst _ _ _ _ rfl | exact .smap _ _ _ _ rfl | exact .imap _ _ _ _ _ rfl | exact .gmap _ _ _ _ _ rfl))) (by first | exact allOne_spec rfl | simp [AV.one])))) (by first | exact allOne_spec rfl | simp [AV.one]) | exact .fn _ _ _ _ _ _ _ (by repeat (first | exact .nil | (apply BorL.cons;first | exact .base (.same _ rfl) | exact .base (.row _ _ _ _ _ _ rfl) | exact .base (.smap _ _ _ _ rfl) | exact .base (.imap _ _ _ _ _ rfl) | exact .base (.gmap _ _ _ _ _ rfl) | exact .box _ _ _ _ _ _ rfl (by repeat (first | exact .nil | (apply BorL.cons;first | exact .same _ rfl | exact .row _ _ _ _ _ _ rfl | exact .lstrow _ _ _ _ _ _ _ rfl rfl | exact .lst _ _ _ _ rfl | exact .smap _ _ _ _ rfl | exact .imap _ _ _ _ _ rfl | exact .gmap _ _ _ _ _ rfl))) (by first | exact allOne_spec rfl | simp [AV.one])))) (by repeat (first | exact .nil | (apply BorL.cons;first | exact .base (.same _ rfl) | exact .base (.row _ _ _ _ _ _ rfl) | exact .base (.smap _ _ _ _ rfl) | exact .base (.imap _ _ _ _ _ rfl) | exact .base (.gmap _ _ _ _ _ rfl) | exact .box _ _ _ _ _ _ rfl (by repeat (first | exact .nil | (apply BorL.cons;first | exact .same _ rfl | exact .row _ _ _ _ _ _ rfl | exact .lstrow _ _ _ _ _ _ _ rfl rfl | exact .lst _ _ _ _ rfl | exact .smap _ _ _ _ rfl | exact .imap _ _ _ _ _ rfl | exact .gmap _ _ _ _ _ rfl))) (by first | exact allOne_spec rfl | simp [AV.one]))))))) (by first | exact allOne_spec rfl | simp [AV.one]) | exact .agg _ _ _ (by repeat (first | exact .nil | (apply BorL.cons;first | exact .base (.base (.same _ rfl)) | exact .base (.base (.row _ _ _ _ _ _ rfl)) | exact .base (.base (.smap _ _ _ _ rfl)) | exact .base (.base (.imap _ _ _ _ _ rfl)) | exact .base (.base (.gmap _ _ _ _ _ rfl)) | exact .box _ _ _ _ _ _ rfl (by repeat (first | exact .nil | (apply BorL.cons;first | exact .base (.same _ rfl) | exact .base (.row _ _ _ _ _ _ rfl) | exact .base (.smap _ _ _ _ rfl) | exact .base (.imap _ _ _ _ _ rfl) | exact .base (.gmap _ _ _ _ _ rfl) | exact .box _ _ _ _ _ _ rfl (by repeat (first | exact .nil | (apply BorL.cons;first | exact .same _ rfl | exact .row _ _ _ _ _ _ rfl | exact .lstrow _ _ _ _ _ _ _ rfl rfl | exact .lst _ _ _ _ rfl | exact .smap _ _ _ _ rfl | exact .imap _ _ _ _ _ rfl | exact .gmap _ _ _ _ _ rfl))) (by first | exact allOne_spec rfl | simp [AV.one])))) (by first | exact allOne_spec rfl | simp [AV.one]) | exact .fn _ _ _ _ _ _ _ (by repeat (first | exact .nil | (apply BorL.cons;first | exact .base (.same _ rfl) | exact .base (.row _ _ _ _ _ _ rfl) | exact .base (.smap _ _ _ _ rfl) | exact .base (.imap _ _ _ _ _ rfl) | exact .base (.gmap _ _ _ _ _ rfl) | exact .box _ _ _ _ _ _ rfl (by repeat (first | exact .nil | (apply BorL.cons;first | exact .same _ rfl | exact .row _ _ _ _ _ _ rfl | exact .lstrow _ _ _ _ _ _ _ rfl rfl | exact .lst _ _ _ _ rfl | exact .smap _ _ _ _ rfl | exact .imap _ _ _ _ _ rfl | exact .gmap _ _ _ _ _ rfl))) (by first | exact allOne_spec rfl | simp [AV.one])))) (by repeat (first | exact .nil | (apply BorL.cons;first | exact .base (.same _ rfl) | exact .base (.row _ _ _ _ _ _ rfl) | exact .base (.smap _ _ _ _ rfl) | exact .base (.imap _ _ _ _ _ rfl) | exact .base (.gmap _ _ _ _ _ rfl) | exact .box _ _ _ _ _ _ rfl (by repeat (first | exact .nil | (apply BorL.cons;first | exact .same _ rfl | exact .row _ _ _ _ _ _ rfl | exact .lstrow _ _ _ _ _ _ _ rfl rfl | exact .lst _ _ _ _ rfl | exact .smap _ _ _ _ rfl | exact .imap _ _ _ _ _ rfl | exact .gmap _ _ _ _ _ rfl))) (by first | exact allOne_spec rfl | simp [AV.one])))))))))) ak0 (by first | exact .inr rfl | exact .inl rfl) ?_
 conv=>whnf
 refine .eff (cxOk _ _) ?_
 conv=>whnf
 refine nE ?_;conv=>whnf
 refine nE ?_;conv=>whnf
 refine nE ?_;conv=>whnf
 refine nE ?_;conv=>whnf
 refine nE ?_;conv=>whnf
 refine cO (fun _=>sameExpS_ok) ?_
 conv=>whnf
 refine nE ?_;conv=>whnf
 refine nE ?_;conv=>whnf
 refine nE ?_;conv=>whnf
 refine nE ?_;conv=>whnf
 refine nE ?_;conv=>whnf
 refine nE ?_;conv=>whnf
 refine nE ?_;conv=>whnf
 refine And.intro rfl ?_;conv=>whnf
 refine loop_up (cxOk _ _) 6 (fun _=>True) (fun k=>⟨[(6,.own 1),(60,.own 0),(61,.int .i64 6),(62,.int .i64 (k:Nat))],[(0,.row 70 2 encMS ⟨[],false⟩ matsS),(1,.row 9 1 encS [] (notSame (matsS.take k)))],2⟩) trivial ((wk_of [(0,.id 2),(1,.nil)] rfl ⟨ae0,ae0,wa0,wa0,trivial⟩ ⟨⟨_,rfl,ag0⟩,⟨_,rfl,ag0⟩,trivial⟩)) ?_
 intro k hk _
 conv=>whnf
 refine ⟨fun hc=>?_,fun hc=>?_⟩
 ·simp only [decide_eq_true_eq] at hc
  have hlt:k<6:=by omega
  have hml:matsS.length=6:=rfl
  have hstep:notSame (matsS.take (k+1))=notSame (matsS.take k)++(if (matsS.getD k ⟨[],false⟩).same=true then [] else [(matsS.getD k ⟨[],false⟩).name]):=by
   rw [notSame,take_getD (d:=⟨[],false⟩) (by omega),List.filter_append,List.map_append]
   congr 1
   generalize matsS.getD k ⟨[],false⟩=m
   cases h:m.same<;>simp [h]
  conv=>whnf
  refine iO ?_;conv=>whnf
  refine And.intro om0 (And.intro rfl ?_);conv=>whnf
  refine ⟨fun hd=>?_,fun hd=>?_⟩
  ·simp only [Int.toNat_natCast,Bool.not_eq_true'] at hd
   rw [if_neg (by rw [hd];decide)] at hstep
   have hlenN:(notSame (matsS.take k)).length≤6:=by
    rw [notSame,List.length_map]
    exact Nat.le_trans (List.length_filter_le _ _) (by simp [hml];omega)
   conv=>whnf
   refine And.intro rfl ?_;conv=>whnf
   refine And.intro ⟨rfl,rfl⟩ (And.intro (show ((notSame (matsS.take k)).length+1)*16≤140737488355328 by omega) ?_)
   conv=>whnf
   refine ⟨(matsS.getD k ⟨[],false⟩).name,by simp only [Int.toNat_natCast];rfl,?_⟩
   conv=>whnf
   refine iO ?_;conv=>whnf
   refine up hlt trivial ((wk_of [(0,.id 0),(1,.id 4)] rfl ⟨ae0,ae0,wa0,wa0,trivial⟩ ⟨⟨_,rfl,ag0⟩,⟨_,rfl,(by first | exact .row _ _ _ _ _ _ _ rfl hstep.symm | exact .lstrow _ _ _ _ _ _ _ rfl hstep.symm | exact .nilrow _ _ _ _ _ hstep.symm | exact .truncrow _ _ _ _ _ _ _ _ rfl om0 hstep.symm)⟩,trivial⟩))
  ·simp only [Int.toNat_natCast,Bool.not_eq_false'] at hd
   rw [if_pos hd,List.append_nil] at hstep
   conv=>whnf
   refine iO ?_;conv=>whnf
   refine up hlt trivial ((wk_of [(0,.id 0),(1,.id 1)] rfl ⟨ae0,ae0,wa0,wa0,trivial⟩ ⟨⟨_,rfl,ag0⟩,⟨_,rfl,(by first | exact .row _ _ _ _ _ _ _ rfl hstep.symm | exact .lstrow _ _ _ _ _ _ _ rfl hstep.symm | exact .nilrow _ _ _ _ _ hstep.symm | exact .truncrow _ _ _ _ _ _ _ _ rfl om0 hstep.symm)⟩,trivial⟩))
 ·simp only [decide_eq_false_iff_not] at hc
  have:k=6:=by omega
  subst this
  conv=>whnf
  rfl
abbrev sp:Str:=[112]
abbrev sq:Str:=[113]
abbrev sr:Str:=[114]
abbrev ss:Str:=[115]
theorem cmp1:compareL [sp,sq,sr] [sp,sr,ss]=[⟨0,0⟩,⟨1,-1⟩,⟨2,1⟩,⟨-1,2⟩]:=by
 simp [compareL,cmp_both,cmp_left,cmp_right,cmp_nil,lcs_cons,lcs_nil_l,lcs_nil_r]
theorem cmp2:compareL [sp,sq] [sq,sp]=[⟨0,-1⟩,⟨1,0⟩,⟨-1,1⟩]:=by
 simp [compareL,cmp_both,cmp_left,cmp_right,cmp_nil,lcs_cons,lcs_nil_l,lcs_nil_r]
theorem cmp3:compareL [] [sp]=[⟨-1,0⟩]:=by
 simp [compareL,cmp_right,cmp_nil]
theorem compare1:APure Tryz.prog 11 [encSs [sp,sq,sr],encSs [sp,sr,ss]] (fun rs=>rs=[.new (.row 50 2 encG g0 [⟨0,0⟩,⟨1,-1⟩,⟨2,1⟩,⟨-1,2⟩])]):=by
 have h:=compare_ok [sp,sq,sr] [sp,sr,ss] (by decide) (by decide)
 rwa [cmp1] at h
theorem compare2:APure Tryz.prog 11 [encSs [sp,sq],encSs [sq,sp]] (fun rs=>rs=[.new (.row 50 2 encG g0 [⟨0,-1⟩,⟨1,0⟩,⟨-1,1⟩])]):=by
 have h:=compare_ok [sp,sq] [sq,sp] (by decide) (by decide)
 rwa [cmp2] at h
theorem compare3:APure Tryz.prog 11 [encSs [],encSs [sp]] (fun rs=>rs=[.new (.row 50 2 encG g0 [⟨-1,0⟩])]):=by
 have h:=compare_ok [] [sp] (by decide) (by decide)
 rwa [cmp3] at h
theorem apply1:APure Tryz.prog 8 [encSs [sp,sq,sr],encSs [sp,sr,ss],encGs [⟨0,0⟩,⟨1,-1⟩,⟨2,1⟩,⟨-1,2⟩]] (fun rs=>rs=[.new (.row 9 1 encS [] [sp,sr,ss]),.val (.int .i64 0)]):=by
 have h:=apply_ok [sp,sq,sr] [sp,sr,ss] [⟨0,0⟩,⟨1,-1⟩,⟨2,1⟩,⟨-1,2⟩] (by decide) (by decide) (by decide)
 rwa [applyRs,if_pos (by decide)] at h
theorem texts_same (a:List Str) (ha:a.length≤9223372036854775807):APureV Tryz.prog 13 [encSs a,encSs a] (.bool true):=by
 have h:=texts_ok a a ha ha
 rwa [decide_eq_true rfl] at h
theorem same_same (a:List Chg) (ha:a.length≤9223372036854775807):APureV Tryz.prog 10 [encGs a,encGs a] (.bool true):=by
 have h:=sameG_ok a a ha ha
 rwa [decide_eq_true rfl] at h
theorem small34_ok:APureV Tryz.prog 5 [] (.bool true):=by
 refine aO (cxOk 66 [0,1,2,3,4,5,6,7,8,9]) Tryz.func5 ?_
 conv=>whnf
 refine cO (fun _=>compare1) ?_
 conv=>whnf
 refine cO (fun _=>apply1) ?_
 conv=>whnf
 refine cO (fun _=>compare2) ?_
 conv=>whnf
 refine cO (fun _=>compare3) ?_
 conv=>whnf
 refine cO (fun _=>same_same [⟨0,0⟩,⟨1,-1⟩,⟨2,1⟩,⟨-1,2⟩] dd0) ?_
 conv=>whnf
 refine cO (fun _=>texts_same [sp,sr,ss] dd0) ?_
 conv=>whnf
 refine cO (fun _=>same_same [⟨0,-1⟩,⟨1,0⟩,⟨-1,1⟩] dd0) ?_
 conv=>whnf
 refine nE ?_;conv=>whnf
 refine cO (fun _=>same_same [⟨-1,0⟩] dd0) ?_
 conv=>whnf
 refine nE ?_;conv=>whnf
 refine cO (fun _=>reservedS_ok) ?_
 conv=>whnf
 refine nE ?_;conv=>whnf
 refine cO (fun _=>texts_same [face,rank] dd0) ?_
 conv=>whnf
 rfl
set_option maxHeartbeats 40000000
structure InX (x:Ind):Prop where
 name:x.name.length≤9223372036854775807
 issuer:x.issuer.length≤9223372036854775807
 coupon:OkE x.coupon
 lets:x.lets.length≤9223372036854775807
 let1:∀ l∈x.lets,l.name.length≤9223372036854775807∧OkE l.body
 cov:x.cov.length≤9223372036854775807
 cov1:∀ c∈x.cov,c.name.length≤9223372036854775807∧OkE c.must∧in64 c.grace
 favour:x.favour.length≤9223372036854775807
 fav1:∀ s∈x.favour,s.length≤9223372036854775807
 calls:x.calls.length≤9223372036854775807
 call1:∀ c∈x.calls,in64 c.a∧in64 c.b
 nums:in64 x.face∧in64 x.frm∧in64 x.to∧in64 x.every∧in64 x.count∧in64 x.adjust∧in64 x.record∧in64 x.rank∧in64 x.cap∧in64 x.cross∧in64 x.notice∧in64 x.sink∧in64 x.majority∧in64 x.fast
theorem fewx_ok {x:Ind} (h:InX x):APureV Tryz.prog 7 [encX x] (.bool (fewX x)) :=
 fewterms_ok x (fun l hl=>(h.let1 l hl).2) (fun c hc=>(h.cov1 c hc).2.1) h.coupon h.name h.issuer h.lets h.cov h.favour h.calls (fun l hl=>(h.let1 l hl).1) (fun c hc=>(h.cov1 c hc).1) h.fav1
theorem few_okX {x:Ind} (h:InX x) (hf:fewX x=true):OkX x:=by
 unfold fewX few0 at hf
 simp only [Bool.and_eq_true,Bool.not_eq_true',Bool.or_eq_false_iff,decide_eq_false_iff_not] at hf
 have h1:¬ 4<(x.lets.length:Int):=hf.1.1.1.1.1.1.1.1.1
 have h2:¬ 4<(x.cov.length:Int):=hf.1.1.1.1.1.1.1.1.2
 exact ⟨h.name,h.issuer,h.coupon,by omega,h.let1,by omega,h.cov1,h.favour,h.fav1,h.calls,h.call1,h.nums⟩
theorem cutL_len:∀ (s acc:List UInt8),(cutL s acc).length≤s.length
 | [],_=>by simp [cutL]
 | c::s,acc=>by
  rw [cutL]
  split
  ·have:=cutL_len s [];simp;omega
  ·have:=cutL_len s (acc++[c]);simp;omega
theorem clausesL_len (x:Ind):(clausesL x).length≤4000:=by
 unfold clausesL
 rcases print_cases x with ⟨s,e,hs⟩ | hne
 ·rw [e,if_pos rfl]
  have:=cutL_len (s++[10]) []
  simp at this ⊢
  omega
 ·rw [if_neg hne];simp
theorem reservedL_len (a b:Ind):(reservedL a b).length≤6:=by
 have h:=resL_len (matsX a b) 6
 rwa [List.take_of_length_le (show (matsX a b).length≤6 from Nat.le_refl _)] at h
theorem law_tells (a b:List Str) (l:List Chg) (x y:Ind) (ha:a.length≤9223372036854775807) (hb:b.length≤9223372036854775807) (hl:l.length≤9223372036854775807) (ix:InX x) (iy:InX y) :
  APureV Tryz.prog 3 [encSs a,encSs b,encGs l,encX x,encX y] (.bool true):=by
 have f1:=few34_ok a b ha hb
 have f2:=fewx_ok ix
 have f3:=fewx_ok iy
 refine aO (cxOk 87 [0,1,2,3,4,8,9,10,11,12,13,14,15,35]) Tryz.func3 ?_
 conv=>whnf
 refine cO (fun _=>small34_ok) ?_
 conv=>whnf
 refine cO (fun _=>f1) ?_
 conv=>whnf
 refine cO (fun _=>f2) ?_
 conv=>whnf
 refine cO (fun _=>f3) ?_
 conv=>whnf
 refine ⟨fun hc=>?_,fun hc=>?_⟩
 ·conv=>whnf
  rfl
 simp only [Bool.or_eq_false_iff,Bool.not_eq_false',decide_eq_false_iff_not] at hc
 obtain ⟨⟨⟨hab,hl80⟩,hx⟩,hy⟩:=hc
 have ox:=few_okX ix hx
 have oy:=few_okX iy hy
 unfold few2 fewT at hab
 simp only [Bool.and_eq_true,decide_eq_true_eq] at hab
 have hal:a.length≤30:=by omega
 have hbl:b.length≤30:=by omega
 have q1:=apply_ok a b l (by omega) (by omega) hl
 have q2:=apply2_ok a b l (by omega) (by omega) hl
 have q3:=compare_ok a b (by omega) (by omega)
 have q4:=compare2_ok a b (by omega) (by omega)
 have q5:=clauses_ok x ox
 have q6:=clauses2_ok x ox
 have q7:=reserved_ok x y ox oy
 have q8:=reserved2_ok x y ox oy
 have s1:=same_same (compareL a b) (by have:=cmp_len a b 0 0;unfold compareL;omega)
 have s2:=texts_same (clausesL x) (by have:=clausesL_len x;omega)
 have s3:=texts_same (reservedL x y) (by have:=reservedL_len x y;omega)
 have s4:=texts_same b (by omega)
 unfold applyRs at q1 q2
 by_cases hok:okL a b 0 0 l=true
 ·rw [if_pos hok] at q1 q2
  conv=>whnf
  refine cO (fun _=>q1) ?_
  conv=>whnf
  refine cO (fun _=>q2) ?_
  conv=>whnf
  repeat (first | (refine iO ?_;conv=>whnf) | (refine And.intro (by omega) (And.intro rfl ?_);conv=>whnf) | (refine And.intro rfl ?_;conv=>whnf) | (refine And.intro (fun _=>⟨by omega,by omega⟩) ?_;conv=>whnf) | (refine And.intro (fun _=>by omega) (And.intro rfl ?_);conv=>whnf) | (refine And.intro ⟨ab0,ab0⟩ ?_;conv=>whnf) | (refine Exists.intro _ (And.intro rfl (And.intro ab0 (And.intro ⟨rfl,rfl,rfl,rfl,rfl⟩ ?_)));conv=>whnf) | (refine And.intro ⟨rfl,rfl⟩ (And.intro ab0 ?_);conv=>whnf) | (refine Exists.intro _ (And.intro rfl ?_);conv=>whnf) | (refine nE ?_;conv=>whnf) | (refine nD ?_;conv=>whnf) | (refine .eff af0 ?_;conv=>whnf))
  refine cO (fun _=>q3) ?_
  conv=>whnf
  repeat (first | (refine iO ?_;conv=>whnf) | (refine And.intro (by omega) (And.intro rfl ?_);conv=>whnf) | (refine And.intro rfl ?_;conv=>whnf) | (refine And.intro (fun _=>⟨by omega,by omega⟩) ?_;conv=>whnf) | (refine And.intro (fun _=>by omega) (And.intro rfl ?_);conv=>whnf) | (refine And.intro ⟨ab0,ab0⟩ ?_;conv=>whnf) | (refine Exists.intro _ (And.intro rfl (And.intro ab0 (And.intro ⟨rfl,rfl,rfl,rfl,rfl⟩ ?_)));conv=>whnf) | (refine And.intro ⟨rfl,rfl⟩ (And.intro ab0 ?_);conv=>whnf) | (refine Exists.intro _ (And.intro rfl ?_);conv=>whnf) | (refine nE ?_;conv=>whnf) | (refine nD ?_;conv=>whnf) | (refine .eff af0 ?_;conv=>whnf))
  refine cO (fun _=>q4) ?_
  conv=>whnf
  repeat (first | (refine iO ?_;conv=>whnf) | (refine And.intro (by omega) (And.intro rfl ?_);conv=>whnf) | (refine And.intro rfl ?_;conv=>whnf) | (refine And.intro (fun _=>⟨by omega,by omega⟩) ?_;conv=>whnf) | (refine And.intro (fun _=>by omega) (And.intro rfl ?_);conv=>whnf) | (refine And.intro ⟨ab0,ab0⟩ ?_;conv=>whnf) | (refine Exists.intro _ (And.intro rfl (And.intro ab0 (And.intro ⟨rfl,rfl,rfl,rfl,rfl⟩ ?_)));conv=>whnf) | (refine And.intro ⟨rfl,rfl⟩ (And.intro ab0 ?_);conv=>whnf) | (refine Exists.intro _ (And.intro rfl ?_);conv=>whnf) | (refine nE ?_;conv=>whnf) | (refine nD ?_;conv=>whnf) | (refine .eff af0 ?_;conv=>whnf))
  refine cO (fun _=>s1) ?_
  conv=>whnf
  repeat (first | (refine iO ?_;conv=>whnf) | (refine And.intro (by omega) (And.intro rfl ?_);conv=>whnf) | (refine And.intro rfl ?_;conv=>whnf) | (refine And.intro (fun _=>⟨by omega,by omega⟩) ?_;conv=>whnf) | (refine And.intro (fun _=>by omega) (And.intro rfl ?_);conv=>whnf) | (refine And.intro ⟨ab0,ab0⟩ ?_;conv=>whnf) | (refine Exists.intro _ (And.intro rfl (And.intro ab0 (And.intro ⟨rfl,rfl,rfl,rfl,rfl⟩ ?_)));conv=>whnf) | (refine And.intro ⟨rfl,rfl⟩ (And.intro ab0 ?_);conv=>whnf) | (refine Exists.intro _ (And.intro rfl ?_);conv=>whnf) | (refine nE ?_;conv=>whnf) | (refine nD ?_;conv=>whnf) | (refine .eff af0 ?_;conv=>whnf))
  refine cO (fun _=>s4) ?_
  conv=>whnf
  repeat (first | (refine iO ?_;conv=>whnf) | (refine And.intro (by omega) (And.intro rfl ?_);conv=>whnf) | (refine And.intro rfl ?_;conv=>whnf) | (refine And.intro (fun _=>⟨by omega,by omega⟩) ?_;conv=>whnf) | (refine And.intro (fun _=>by omega) (And.intro rfl ?_);conv=>whnf) | (refine And.intro ⟨ab0,ab0⟩ ?_;conv=>whnf) | (refine Exists.intro _ (And.intro rfl (And.intro ab0 (And.intro ⟨rfl,rfl,rfl,rfl,rfl⟩ ?_)));conv=>whnf) | (refine And.intro ⟨rfl,rfl⟩ (And.intro ab0 ?_);conv=>whnf) | (refine Exists.intro _ (And.intro rfl ?_);conv=>whnf) | (refine nE ?_;conv=>whnf) | (refine nD ?_;conv=>whnf) | (refine .eff af0 ?_;conv=>whnf))
  refine cO (fun _=>q5) ?_
  conv=>whnf
  repeat (first | (refine iO ?_;conv=>whnf) | (refine And.intro (by omega) (And.intro rfl ?_);conv=>whnf) | (refine And.intro rfl ?_;conv=>whnf) | (refine And.intro (fun _=>⟨by omega,by omega⟩) ?_;conv=>whnf) | (refine And.intro (fun _=>by omega) (And.intro rfl ?_);conv=>whnf) | (refine And.intro ⟨ab0,ab0⟩ ?_;conv=>whnf) | (refine Exists.intro _ (And.intro rfl (And.intro ab0 (And.intro ⟨rfl,rfl,rfl,rfl,rfl⟩ ?_)));conv=>whnf) | (refine And.intro ⟨rfl,rfl⟩ (And.intro ab0 ?_);conv=>whnf) | (refine Exists.intro _ (And.intro rfl ?_);conv=>whnf) | (refine nE ?_;conv=>whnf) | (refine nD ?_;conv=>whnf) | (refine .eff af0 ?_;conv=>whnf))
  refine cO (fun _=>q6) ?_
  conv=>whnf
  repeat (first | (refine iO ?_;conv=>whnf) | (refine And.intro (by omega) (And.intro rfl ?_);conv=>whnf) | (refine And.intro rfl ?_;conv=>whnf) | (refine And.intro (fun _=>⟨by omega,by omega⟩) ?_;conv=>whnf) | (refine And.intro (fun _=>by omega) (And.intro rfl ?_);conv=>whnf) | (refine And.intro ⟨ab0,ab0⟩ ?_;conv=>whnf) | (refine Exists.intro _ (And.intro rfl (And.intro ab0 (And.intro ⟨rfl,rfl,rfl,rfl,rfl⟩ ?_)));conv=>whnf) | (refine And.intro ⟨rfl,rfl⟩ (And.intro ab0 ?_);conv=>whnf) | (refine Exists.intro _ (And.intro rfl ?_);conv=>whnf) | (refine nE ?_;conv=>whnf) | (refine nD ?_;conv=>whnf) | (refine .eff af0 ?_;conv=>whnf))
  refine cO (fun _=>s2) ?_
  conv=>whnf
  repeat (first | (refine iO ?_;conv=>whnf) | (refine And.intro (by omega) (And.intro rfl ?_);conv=>whnf) | (refine And.intro rfl ?_;conv=>whnf) | (refine And.intro (fun _=>⟨by omega,by omega⟩) ?_;conv=>whnf) | (refine And.intro (fun _=>by omega) (And.intro rfl ?_);conv=>whnf) | (refine And.intro ⟨ab0,ab0⟩ ?_;conv=>whnf) | (refine Exists.intro _ (And.intro rfl (And.intro ab0 (And.intro ⟨rfl,rfl,rfl,rfl,rfl⟩ ?_)));conv=>whnf) | (refine And.intro ⟨rfl,rfl⟩ (And.intro ab0 ?_);conv=>whnf) | (refine Exists.intro _ (And.intro rfl ?_);conv=>whnf) | (refine nE ?_;conv=>whnf) | (refine nD ?_;conv=>whnf) | (refine .eff af0 ?_;conv=>whnf))
  refine cO (fun _=>q7) ?_
  conv=>whnf
  repeat (first | (refine iO ?_;conv=>whnf) | (refine And.intro (by omega) (And.intro rfl ?_);conv=>whnf) | (refine And.intro rfl ?_;conv=>whnf) | (refine And.intro (fun _=>⟨by omega,by omega⟩) ?_;conv=>whnf) | (refine And.intro (fun _=>by omega) (And.intro rfl ?_);conv=>whnf) | (refine And.intro ⟨ab0,ab0⟩ ?_;conv=>whnf) | (refine Exists.intro _ (And.intro rfl (And.intro ab0 (And.intro ⟨rfl,rfl,rfl,rfl,rfl⟩ ?_)));conv=>whnf) | (refine And.intro ⟨rfl,rfl⟩ (And.intro ab0 ?_);conv=>whnf) | (refine Exists.intro _ (And.intro rfl ?_);conv=>whnf) | (refine nE ?_;conv=>whnf) | (refine nD ?_;conv=>whnf) | (refine .eff af0 ?_;conv=>whnf))
  refine cO (fun _=>q8) ?_
  conv=>whnf
  repeat (first | (refine iO ?_;conv=>whnf) | (refine And.intro (by omega) (And.intro rfl ?_);conv=>whnf) | (refine And.intro rfl ?_;conv=>whnf) | (refine And.intro (fun _=>⟨by omega,by omega⟩) ?_;conv=>whnf) | (refine And.intro (fun _=>by omega) (And.intro rfl ?_);conv=>whnf) | (refine And.intro ⟨ab0,ab0⟩ ?_;conv=>whnf) | (refine Exists.intro _ (And.intro rfl (And.intro ab0 (And.intro ⟨rfl,rfl,rfl,rfl,rfl⟩ ?_)));conv=>whnf) | (refine And.intro ⟨rfl,rfl⟩ (And.intro ab0 ?_);conv=>whnf) | (refine Exists.intro _ (And.intro rfl ?_);conv=>whnf) | (refine nE ?_;conv=>whnf) | (refine nD ?_;conv=>whnf) | (refine .eff af0 ?_;conv=>whnf))
  refine cO (fun _=>s3) ?_
  conv=>whnf
  repeat (first | (refine iO ?_;conv=>whnf) | (refine And.intro (by omega) (And.intro rfl ?_);conv=>whnf) | (refine And.intro rfl ?_;conv=>whnf) | (refine And.intro (fun _=>⟨by omega,by omega⟩) ?_;conv=>whnf) | (refine And.intro (fun _=>by omega) (And.intro rfl ?_);conv=>whnf) | (refine And.intro ⟨ab0,ab0⟩ ?_;conv=>whnf) | (refine Exists.intro _ (And.intro rfl (And.intro ab0 (And.intro ⟨rfl,rfl,rfl,rfl,rfl⟩ ?_)));conv=>whnf) | (refine And.intro ⟨rfl,rfl⟩ (And.intro ab0 ?_);conv=>whnf) | (refine Exists.intro _ (And.intro rfl ?_);conv=>whnf) | (refine nE ?_;conv=>whnf) | (refine nD ?_;conv=>whnf) | (refine .eff af0 ?_;conv=>whnf))
  rfl
 ·rw [if_neg hok] at q1 q2
  have s5:=texts_same [] (by decide)
  conv=>whnf
  refine cO (fun _=>q1) ?_
  conv=>whnf
  refine cO (fun _=>q2) ?_
  conv=>whnf
  repeat (first | (refine iO ?_;conv=>whnf) | (refine And.intro (by omega) (And.intro rfl ?_);conv=>whnf) | (refine And.intro rfl ?_;conv=>whnf) | (refine And.intro (fun _=>⟨by omega,by omega⟩) ?_;conv=>whnf) | (refine And.intro (fun _=>by omega) (And.intro rfl ?_);conv=>whnf) | (refine And.intro ⟨ab0,ab0⟩ ?_;conv=>whnf) | (refine Exists.intro _ (And.intro rfl (And.intro ab0 (And.intro ⟨rfl,rfl,rfl,rfl,rfl⟩ ?_)));conv=>whnf) | (refine And.intro ⟨rfl,rfl⟩ (And.intro ab0 ?_);conv=>whnf) | (refine Exists.intro _ (And.intro rfl ?_);conv=>whnf) | (refine nE ?_;conv=>whnf) | (refine nD ?_;conv=>whnf) | (refine .eff af0 ?_;conv=>whnf))
  refine cO (fun _=>q3) ?_
  conv=>whnf
  repeat (first | (refine iO ?_;conv=>whnf) | (refine And.intro (by omega) (And.intro rfl ?_);conv=>whnf) | (refine And.intro rfl ?_;conv=>whnf) | (refine And.intro (fun _=>⟨by omega,by omega⟩) ?_;conv=>whnf) | (refine And.intro (fun _=>by omega) (And.intro rfl ?_);conv=>whnf) | (refine And.intro ⟨ab0,ab0⟩ ?_;conv=>whnf) | (refine Exists.intro _ (And.intro rfl (And.intro ab0 (And.intro ⟨rfl,rfl,rfl,rfl,rfl⟩ ?_)));conv=>whnf) | (refine And.intro ⟨rfl,rfl⟩ (And.intro ab0 ?_);conv=>whnf) | (refine Exists.intro _ (And.intro rfl ?_);conv=>whnf) | (refine nE ?_;conv=>whnf) | (refine nD ?_;conv=>whnf) | (refine .eff af0 ?_;conv=>whnf))
  refine cO (fun _=>q4) ?_
  conv=>whnf
  repeat (first | (refine iO ?_;conv=>whnf) | (refine And.intro (by omega) (And.intro rfl ?_);conv=>whnf) | (refine And.intro rfl ?_;conv=>whnf) | (refine And.intro (fun _=>⟨by omega,by omega⟩) ?_;conv=>whnf) | (refine And.intro (fun _=>by omega) (And.intro rfl ?_);conv=>whnf) | (refine And.intro ⟨ab0,ab0⟩ ?_;conv=>whnf) | (refine Exists.intro _ (And.intro rfl (And.intro ab0 (And.intro ⟨rfl,rfl,rfl,rfl,rfl⟩ ?_)));conv=>whnf) | (refine And.intro ⟨rfl,rfl⟩ (And.intro ab0 ?_);conv=>whnf) | (refine Exists.intro _ (And.intro rfl ?_);conv=>whnf) | (refine nE ?_;conv=>whnf) | (refine nD ?_;conv=>whnf) | (refine .eff af0 ?_;conv=>whnf))
  refine cO (fun _=>s1) ?_
  conv=>whnf
  repeat (first | (refine iO ?_;conv=>whnf) | (refine And.intro (by omega) (And.intro rfl ?_);conv=>whnf) | (refine And.intro rfl ?_;conv=>whnf) | (refine And.intro (fun _=>⟨by omega,by omega⟩) ?_;conv=>whnf) | (refine And.intro (fun _=>by omega) (And.intro rfl ?_);conv=>whnf) | (refine And.intro ⟨ab0,ab0⟩ ?_;conv=>whnf) | (refine Exists.intro _ (And.intro rfl (And.intro ab0 (And.intro ⟨rfl,rfl,rfl,rfl,rfl⟩ ?_)));conv=>whnf) | (refine And.intro ⟨rfl,rfl⟩ (And.intro ab0 ?_);conv=>whnf) | (refine Exists.intro _ (And.intro rfl ?_);conv=>whnf) | (refine nE ?_;conv=>whnf) | (refine nD ?_;conv=>whnf) | (refine .eff af0 ?_;conv=>whnf))
  refine cO (fun _=>s5) ?_
  conv=>whnf
  repeat (first | (refine iO ?_;conv=>whnf) | (refine And.intro (by omega) (And.intro rfl ?_);conv=>whnf) | (refine And.intro rfl ?_;conv=>whnf) | (refine And.intro (fun _=>⟨by omega,by omega⟩) ?_;conv=>whnf) | (refine And.intro (fun _=>by omega) (And.intro rfl ?_);conv=>whnf) | (refine And.intro ⟨ab0,ab0⟩ ?_;conv=>whnf) | (refine Exists.intro _ (And.intro rfl (And.intro ab0 (And.intro ⟨rfl,rfl,rfl,rfl,rfl⟩ ?_)));conv=>whnf) | (refine And.intro ⟨rfl,rfl⟩ (And.intro ab0 ?_);conv=>whnf) | (refine Exists.intro _ (And.intro rfl ?_);conv=>whnf) | (refine nE ?_;conv=>whnf) | (refine nD ?_;conv=>whnf) | (refine .eff af0 ?_;conv=>whnf))
  refine cO (fun _=>q5) ?_
  conv=>whnf
  repeat (first | (refine iO ?_;conv=>whnf) | (refine And.intro (by omega) (And.intro rfl ?_);conv=>whnf) | (refine And.intro rfl ?_;conv=>whnf) | (refine And.intro (fun _=>⟨by omega,by omega⟩) ?_;conv=>whnf) | (refine And.intro (fun _=>by omega) (And.intro rfl ?_);conv=>whnf) | (refine And.intro ⟨ab0,ab0⟩ ?_;conv=>whnf) | (refine Exists.intro _ (And.intro rfl (And.intro ab0 (And.intro ⟨rfl,rfl,rfl,rfl,rfl⟩ ?_)));conv=>whnf) | (refine And.intro ⟨rfl,rfl⟩ (And.intro ab0 ?_);conv=>whnf) | (refine Exists.intro _ (And.intro rfl ?_);conv=>whnf) | (refine nE ?_;conv=>whnf) | (refine nD ?_;conv=>whnf) | (refine .eff af0 ?_;conv=>whnf))
  refine cO (fun _=>q6) ?_
  conv=>whnf
  repeat (first | (refine iO ?_;conv=>whnf) | (refine And.intro (by omega) (And.intro rfl ?_);conv=>whnf) | (refine And.intro rfl ?_;conv=>whnf) | (refine And.intro (fun _=>⟨by omega,by omega⟩) ?_;conv=>whnf) | (refine And.intro (fun _=>by omega) (And.intro rfl ?_);conv=>whnf) | (refine And.intro ⟨ab0,ab0⟩ ?_;conv=>whnf) | (refine Exists.intro _ (And.intro rfl (And.intro ab0 (And.intro ⟨rfl,rfl,rfl,rfl,rfl⟩ ?_)));conv=>whnf) | (refine And.intro ⟨rfl,rfl⟩ (And.intro ab0 ?_);conv=>whnf) | (refine Exists.intro _ (And.intro rfl ?_);conv=>whnf) | (refine nE ?_;conv=>whnf) | (refine nD ?_;conv=>whnf) | (refine .eff af0 ?_;conv=>whnf))
  refine cO (fun _=>s2) ?_
  conv=>whnf
  repeat (first | (refine iO ?_;conv=>whnf) | (refine And.intro (by omega) (And.intro rfl ?_);conv=>whnf) | (refine And.intro rfl ?_;conv=>whnf) | (refine And.intro (fun _=>⟨by omega,by omega⟩) ?_;conv=>whnf) | (refine And.intro (fun _=>by omega) (And.intro rfl ?_);conv=>whnf) | (refine And.intro ⟨ab0,ab0⟩ ?_;conv=>whnf) | (refine Exists.intro _ (And.intro rfl (And.intro ab0 (And.intro ⟨rfl,rfl,rfl,rfl,rfl⟩ ?_)));conv=>whnf) | (refine And.intro ⟨rfl,rfl⟩ (And.intro ab0 ?_);conv=>whnf) | (refine Exists.intro _ (And.intro rfl ?_);conv=>whnf) | (refine nE ?_;conv=>whnf) | (refine nD ?_;conv=>whnf) | (refine .eff af0 ?_;conv=>whnf))
  refine cO (fun _=>q7) ?_
  conv=>whnf
  repeat (first | (refine iO ?_;conv=>whnf) | (refine And.intro (by omega) (And.intro rfl ?_);conv=>whnf) | (refine And.intro rfl ?_;conv=>whnf) | (refine And.intro (fun _=>⟨by omega,by omega⟩) ?_;conv=>whnf) | (refine And.intro (fun _=>by omega) (And.intro rfl ?_);conv=>whnf) | (refine And.intro ⟨ab0,ab0⟩ ?_;conv=>whnf) | (refine Exists.intro _ (And.intro rfl (And.intro ab0 (And.intro ⟨rfl,rfl,rfl,rfl,rfl⟩ ?_)));conv=>whnf) | (refine And.intro ⟨rfl,rfl⟩ (And.intro ab0 ?_);conv=>whnf) | (refine Exists.intro _ (And.intro rfl ?_);conv=>whnf) | (refine nE ?_;conv=>whnf) | (refine nD ?_;conv=>whnf) | (refine .eff af0 ?_;conv=>whnf))
  refine cO (fun _=>q8) ?_
  conv=>whnf
  repeat (first | (refine iO ?_;conv=>whnf) | (refine And.intro (by omega) (And.intro rfl ?_);conv=>whnf) | (refine And.intro rfl ?_;conv=>whnf) | (refine And.intro (fun _=>⟨by omega,by omega⟩) ?_;conv=>whnf) | (refine And.intro (fun _=>by omega) (And.intro rfl ?_);conv=>whnf) | (refine And.intro ⟨ab0,ab0⟩ ?_;conv=>whnf) | (refine Exists.intro _ (And.intro rfl (And.intro ab0 (And.intro ⟨rfl,rfl,rfl,rfl,rfl⟩ ?_)));conv=>whnf) | (refine And.intro ⟨rfl,rfl⟩ (And.intro ab0 ?_);conv=>whnf) | (refine Exists.intro _ (And.intro rfl ?_);conv=>whnf) | (refine nE ?_;conv=>whnf) | (refine nD ?_;conv=>whnf) | (refine .eff af0 ?_;conv=>whnf))
  refine cO (fun _=>s3) ?_
  conv=>whnf
  repeat (first | (refine iO ?_;conv=>whnf) | (refine And.intro (by omega) (And.intro rfl ?_);conv=>whnf) | (refine And.intro rfl ?_;conv=>whnf) | (refine And.intro (fun _=>⟨by omega,by omega⟩) ?_;conv=>whnf) | (refine And.intro (fun _=>by omega) (And.intro rfl ?_);conv=>whnf) | (refine And.intro ⟨ab0,ab0⟩ ?_;conv=>whnf) | (refine Exists.intro _ (And.intro rfl (And.intro ab0 (And.intro ⟨rfl,rfl,rfl,rfl,rfl⟩ ?_)));conv=>whnf) | (refine And.intro ⟨rfl,rfl⟩ (And.intro ab0 ?_);conv=>whnf) | (refine Exists.intro _ (And.intro rfl ?_);conv=>whnf) | (refine nE ?_;conv=>whnf) | (refine nD ?_;conv=>whnf) | (refine .eff af0 ?_;conv=>whnf))
  rfl
open Go.ChangeShapes Go.WideShapes Go.RowKit Go.Own
theorem Tryz.own:ownKnob Tryz.prog.godebug=none:=by kernel_rfl
theorem Tryz.laidOut:laidOutB Tryz.prog=true:=by kernel_rfl
theorem undBool:Tryz.prog.underlying 4=some .bool:=by kernel_rfl
theorem und3':Tryz.prog.underlying 3=some (.int .i64):=by kernel_rfl
theorem und9':Tryz.prog.underlying 9=some .string:=by kernel_rfl
theorem und23':Tryz.prog.underlying 24=some (.slice 55):=by kernel_rfl
theorem und24':Tryz.prog.underlying 25=some (.slice 27):=by kernel_rfl
theorem und27':Tryz.prog.underlying 28=some (.slice 57):=by kernel_rfl
theorem und28':Tryz.prog.underlying 22=some (.slice 9):=by kernel_rfl
theorem und29':Tryz.prog.underlying 29=some (.slice 87):=by kernel_rfl
def fields26 : Array Field := #[{ name := "Op", type := 3, offset := 0, embedded := false, tag := "", pkgPath := "", byteOffset := 0 }, { name := "N", type := 3, offset := 1, embedded := false, tag := "", pkgPath := "", byteOffset := 8 }, { name := "Unit", type := 3, offset := 2, embedded := false, tag := "", pkgPath := "", byteOffset := 16 }, { name := "S", type := 9, offset := 3, embedded := false, tag := "", pkgPath := "", byteOffset := 24 }, { name := "Args", type := 25, offset := 4, embedded := false, tag := "", pkgPath := "", byteOffset := 40 }]
theorem und26':Tryz.prog.underlying 27=some (.struct fields26):=by kernel_rfl
def fields47 : Array Field := #[{ name := "Name", type := 9, offset := 0, embedded := false, tag := "", pkgPath := "", byteOffset := 0 }, { name := "Body", type := 27, offset := 1, embedded := false, tag := "", pkgPath := "", byteOffset := 16 }]
theorem und47':Tryz.prog.underlying 55=some (.struct fields47):=by kernel_rfl
def fields50 : Array Field := #[{ name := "Name", type := 9, offset := 0, embedded := false, tag := "", pkgPath := "", byteOffset := 0 }, { name := "Must", type := 27, offset := 1, embedded := false, tag := "", pkgPath := "", byteOffset := 16 }, { name := "Grace", type := 3, offset := 6, embedded := false, tag := "", pkgPath := "", byteOffset := 80 }]
theorem und50':Tryz.prog.underlying 57=some (.struct fields50):=by kernel_rfl
def fields54 : Array Field := #[{ name := "From", type := 3, offset := 0, embedded := false, tag := "", pkgPath := "", byteOffset := 0 }, { name := "Price", type := 3, offset := 1, embedded := false, tag := "", pkgPath := "", byteOffset := 8 }]
theorem und54':Tryz.prog.underlying 87=some (.struct fields54):=by kernel_rfl
def fields31 : Array Field := #[{ name := "Name", type := 9, offset := 0, embedded := false, tag := "", pkgPath := "", byteOffset := 0 }, { name := "Issuer", type := 9, offset := 1, embedded := false, tag := "", pkgPath := "", byteOffset := 16 }, { name := "Face", type := 3, offset := 2, embedded := false, tag := "", pkgPath := "", byteOffset := 32 }, { name := "From", type := 3, offset := 3, embedded := false, tag := "", pkgPath := "", byteOffset := 40 }, { name := "To", type := 3, offset := 4, embedded := false, tag := "", pkgPath := "", byteOffset := 48 }, { name := "Every", type := 3, offset := 5, embedded := false, tag := "", pkgPath := "", byteOffset := 56 }, { name := "Count", type := 3, offset := 6, embedded := false, tag := "", pkgPath := "", byteOffset := 64 }, { name := "Adjust", type := 3, offset := 7, embedded := false, tag := "", pkgPath := "", byteOffset := 72 }, { name := "Record", type := 3, offset := 8, embedded := false, tag := "", pkgPath := "", byteOffset := 80 }, { name := "Rank", type := 3, offset := 9, embedded := false, tag := "", pkgPath := "", byteOffset := 88 }, { name := "Lets", type := 24, offset := 10, embedded := false, tag := "", pkgPath := "", byteOffset := 96 }, { name := "Coupon", type := 27, offset := 11, embedded := false, tag := "", pkgPath := "", byteOffset := 120 }, { name := "Cap", type := 3, offset := 16, embedded := false, tag := "", pkgPath := "", byteOffset := 184 }, { name := "Covenants", type := 28, offset := 17, embedded := false, tag := "", pkgPath := "", byteOffset := 192 }, { name := "Favour", type := 22, offset := 18, embedded := false, tag := "", pkgPath := "", byteOffset := 216 }, { name := "Cross", type := 3, offset := 19, embedded := false, tag := "", pkgPath := "", byteOffset := 240 }, { name := "Calls", type := 29, offset := 20, embedded := false, tag := "", pkgPath := "", byteOffset := 248 }, { name := "Notice", type := 3, offset := 21, embedded := false, tag := "", pkgPath := "", byteOffset := 272 }, { name := "Sink", type := 3, offset := 22, embedded := false, tag := "", pkgPath := "", byteOffset := 280 }, { name := "Majority", type := 3, offset := 23, embedded := false, tag := "", pkgPath := "", byteOffset := 288 }, { name := "Fast", type := 3, offset := 24, embedded := false, tag := "", pkgPath := "", byteOffset := 296 }]
theorem und31':Tryz.prog.underlying 31=some (.struct fields31):=by kernel_rfl
theorem in64_of {n:Int} (h:IntKind.i64.min≤n∧n≤IntKind.i64.max):in64 n:=by
 have e1:IntKind.i64.min=-9223372036854775808:=by rfl
 have e2:IntKind.i64.max=9223372036854775807:=by rfl
 rw [e1,e2] at h
 exact h
abbrev rInt:List AV→Prop:=fun l=>∃ n,(IntKind.i64.min≤n∧n≤IntKind.i64.max)∧l=[.int .i64 n]
abbrev rStr:List AV→Prop:=fun l=>∃ s:List UInt8,s.length≤9223372036854775807∧l=[.str s]
theorem oInt:OpensR Tryz.prog 3 1 rInt:=opensR_int und3' (by kernel_rfl)
theorem oStr:OpensR Tryz.prog 9 1 rStr:=opensR_str und9' (by kernel_rfl)
abbrev rExp:List AV→Prop:=fun l=>∃ e:Exp,OkE e∧l=(encE e).cells
theorem oExpS:∀ N,OpensS Tryz.prog 27 5 rExp N
 | 0=>opensS_zero (by kernel_rfl)
 | N+1=>by
  have hargs:OpensS Tryz.prog 25 1 (fun l=>∃ xs:List Exp,(∀ a∈xs,OkE a)∧xs.length≤9223372036854775807∧l=[.lsl 5 (xs.map encE)]) N :=
   match N with
   | 0=>opensS_zero (by kernel_rfl)
   | M+1=>opensS_slice und24' (by kernel_rfl) (oExpS M |>.le (by omega)) (by decide) (fun l ⟨e,h1,h2⟩=>⟨e,h1,h2.symm⟩) (fun e=>rfl)
  refine (opensS_struct und26' (by kernel_rfl) (Rs:=[(1,rInt),(1,rInt),(1,rInt),(1,rStr),(1,_)]) ⟨rfl,oInt.at N,rfl,oInt.at N,rfl,oInt.at N,rfl,oStr.at N,rfl,hargs,rfl⟩).mono fun l hl=>?_
  obtain ⟨_,_,⟨n0,h0,rfl⟩,⟨_,_,⟨n1,h1,rfl⟩,⟨_,_,⟨n2,h2,rfl⟩,⟨_,_,⟨s3,h3,rfl⟩,⟨_,_,⟨xs,h4,h5,rfl⟩,rfl,rfl⟩,rfl⟩,rfl⟩,rfl⟩,rfl⟩:=hl
  refine ⟨.mk n0 n1 n2 s3 xs,.mk (in64_of h0) (in64_of h1) (in64_of h2) h3 h5 h4,?_⟩
  show _=[AV.int .i64 n0,.int .i64 n1,.int .i64 n2,.str s3,.lsl 5 (argsE (.mk n0 n1 n2 s3 xs))]
  rw [argsE_eq]
  rfl
theorem oExp:OpensR Tryz.prog 27 5 rExp:=opensR_all oExpS
theorem oLets:OpensR Tryz.prog 24 1 (fun l=>∃ xs:List LetE,(∀ a∈xs,a.name.length≤9223372036854775807∧OkE a.body)∧xs.length≤9223372036854775807∧l=[.sl 6 encL l0 xs]) :=
 opensR_slice l0 und23' (by kernel_rfl) (opensR_struct und47' (by kernel_rfl) (Rs:=[(1,rStr),(5,rExp)]) ⟨rfl,oStr,rfl,oExp,rfl⟩) (by decide) (fun l hl=>by
  obtain ⟨_,_,⟨s,h1,rfl⟩,⟨_,_,⟨e,h2,rfl⟩,rfl,rfl⟩,rfl⟩:=hl
  exact ⟨⟨s,e⟩,⟨h1,h2⟩,rfl⟩) (fun _=>rfl)
theorem oCovs:OpensR Tryz.prog 28 1 (fun l=>∃ xs:List Cov,(∀ a∈xs,a.name.length≤9223372036854775807∧OkE a.must∧in64 a.grace)∧xs.length≤9223372036854775807∧l=[.sl 7 encC c0 xs]) :=
 opensR_slice c0 und27' (by kernel_rfl) (opensR_struct und50' (by kernel_rfl) (Rs:=[(1,rStr),(5,rExp),(1,rInt)]) ⟨rfl,oStr,rfl,oExp,rfl,oInt,rfl⟩) (by decide) (fun l hl=>by
  obtain ⟨_,_,⟨s,h1,rfl⟩,⟨_,_,⟨e,h2,rfl⟩,⟨_,_,⟨n,h3,rfl⟩,rfl,rfl⟩,rfl⟩,rfl⟩:=hl
  exact ⟨⟨s,e,n⟩,⟨h1,h2,in64_of h3⟩,rfl⟩) (fun _=>rfl)
theorem oStrs:OpensR Tryz.prog 22 1 (fun l=>∃ xs:List (List UInt8),(∀ a∈xs,a.length≤9223372036854775807)∧xs.length≤9223372036854775807∧l=[.sl 1 encS [] xs]) :=
 opensR_slice [] und28' (by kernel_rfl) oStr (by decide) (fun l hl=>by obtain ⟨s,h,rfl⟩:=hl;exact ⟨s,h,rfl⟩) (fun _=>rfl)
theorem oCalls:OpensR Tryz.prog 29 1 (fun l=>∃ xs:List CallE,(∀ a∈xs,in64 a.a∧in64 a.b)∧xs.length≤9223372036854775807∧l=[.sl 2 encK k0 xs]) :=
 opensR_slice k0 und29' (by kernel_rfl) (opensR_struct und54' (by kernel_rfl) (Rs:=[(1,rInt),(1,rInt)]) ⟨rfl,oInt,rfl,oInt,rfl⟩) (by decide) (fun l hl=>by
  obtain ⟨_,_,⟨a,h1,rfl⟩,⟨_,_,⟨b,h2,rfl⟩,rfl,rfl⟩,rfl⟩:=hl
  exact ⟨⟨a,b⟩,⟨in64_of h1,in64_of h2⟩,rfl⟩) (fun _=>rfl)
abbrev rInd:List AV→Prop:=fun l=>∃ x:Ind,InX x∧l=(encX x).cells
theorem oInd:OpensR Tryz.prog 31 25 rInd:=by
 refine (opensR_struct und31' (by kernel_rfl) (Rs:=[(1,rStr),(1,rStr),(1,rInt),(1,rInt),(1,rInt),(1,rInt),(1,rInt),(1,rInt),(1,rInt),(1,rInt),(1,_),(5,rExp),(1,rInt),(1,_),(1,_),(1,rInt),(1,_),(1,rInt),(1,rInt),(1,rInt),(1,rInt)])
  ⟨rfl,oStr,rfl,oStr,rfl,oInt,rfl,oInt,rfl,oInt,rfl,oInt,rfl,oInt,rfl,oInt,rfl,oInt,rfl,oInt,rfl,oLets,rfl,oExp,rfl,oInt,rfl,oCovs,rfl,oStrs,rfl,oInt,rfl,oCalls,rfl,oInt,rfl,oInt,rfl,oInt,rfl,oInt,rfl⟩).mono fun l hl=>?_
 obtain ⟨_,_,⟨s0,h0,rfl⟩,⟨_,_,⟨s1,h1,rfl⟩,⟨_,_,⟨n2,i2,rfl⟩,⟨_,_,⟨n3,i3,rfl⟩,⟨_,_,⟨n4,i4,rfl⟩,⟨_,_,⟨n5,i5,rfl⟩,⟨_,_,⟨n6,i6,rfl⟩,⟨_,_,⟨n7,i7,rfl⟩,⟨_,_,⟨n8,i8,rfl⟩,⟨_,_,⟨n9,i9,rfl⟩,hl⟩,rfl⟩,rfl⟩,rfl⟩,rfl⟩,rfl⟩,rfl⟩,rfl⟩,rfl⟩,rfl⟩:=hl
 obtain ⟨⟨_,_,⟨xs,hx1,hx2,rfl⟩,⟨_,_,⟨e,he,rfl⟩,⟨_,_,⟨n12,i12,rfl⟩,⟨_,_,⟨cv,c1,c2,rfl⟩,⟨_,_,⟨fv,f1,f2,rfl⟩,⟨_,_,⟨n15,i15,rfl⟩,⟨_,_,⟨cl,k1,k2,rfl⟩,⟨_,_,⟨n17,i17,rfl⟩,⟨_,_,⟨n18,i18,rfl⟩,⟨_,_,⟨n19,i19,rfl⟩,⟨_,_,⟨n20,i20,rfl⟩,rfl,rfl⟩,rfl⟩,rfl⟩,rfl⟩,rfl⟩,rfl⟩,rfl⟩,rfl⟩,rfl⟩,rfl⟩,rfl⟩,rfl⟩:=hl
 exact ⟨⟨s0,s1,n2,n3,n4,n5,n6,n7,n8,n9,xs,e,n12,cv,fv,n15,cl,n17,n18,n19,n20⟩,⟨h0,h1,he,hx2,hx1,c2,c1,f2,f1,k2,k1,in64_of i2,in64_of i3,in64_of i4,in64_of i5,in64_of i6,in64_of i7,in64_of i8,in64_of i9,in64_of i12,in64_of i15,in64_of i17,in64_of i18,in64_of i19,in64_of i20⟩,rfl⟩
theorem vInd:OpV Tryz.prog 31 (fun a=>∃ x:Ind,InX x∧a=encX x) :=
 OpV.mono (opV_struct und31' oInd) fun a ⟨l,⟨x,h,hl⟩,ha⟩=>⟨x,h,by rw [ha,hl];rfl⟩
theorem und23:Tryz.prog.underlying 23=some (.slice 50):=by kernel_rfl
def fields50g : Array Field := #[{ name := "Old", type := 3, offset := 0, embedded := false, tag := "", pkgPath := "", byteOffset := 0 }, { name := "New", type := 3, offset := 1, embedded := false, tag := "", pkgPath := "", byteOffset := 8 }]
theorem und50g:Tryz.prog.underlying 50=some (.struct fields50g):=by kernel_rfl
theorem oChg:OpensR Tryz.prog 50 2 (StrR [(1,rInt),(1,rInt)]) :=
 opensR_struct und50g (by kernel_rfl) ⟨rfl,oInt,rfl,oInt,rfl⟩
theorem oChgs:OpensR Tryz.prog 23 1 (fun l=>∃ xs:List Chg,(∀ a∈xs,True)∧xs.length≤9223372036854775807∧l=[.sl 2 encG g0 xs]) :=
 opensR_slice g0 und23 (by kernel_rfl) oChg (by decide) (fun l hl=>by
  obtain ⟨_,_,⟨n0,_,rfl⟩,⟨_,_,⟨n1,_,rfl⟩,rfl,rfl⟩,rfl⟩:=hl
  exact ⟨⟨n0,n1⟩,trivial,rfl⟩) (fun _=>rfl)
theorem vStrs:OpV Tryz.prog 22 (fun a=>∃ l:List (List UInt8),l.length≤9223372036854775807∧a=encSs l) :=
 opV_slice und28' (oStrs.mono fun _ ⟨xs,_,h2,h3⟩=>⟨_,⟨xs,h2,rfl⟩,h3⟩)
theorem vChgs:OpV Tryz.prog 23 (fun a=>∃ l:List Chg,l.length≤9223372036854775807∧a=encGs l) :=
 opV_slice und23 (oChgs.mono fun _ ⟨xs,_,h2,h3⟩=>⟨_,⟨xs,h2,rfl⟩,h3⟩)
abbrev laidL:List (String×DataW Unit):=Rows.diffTellsRow.laid
noncomputable def laidWorld (os:Os):World:=World.laidAll Tryz.prog os laidL
theorem laid_met (os:Os) (args:Array Value):laidMet Tryz.prog laidL ((laidWorld os).forCall (fun _ _=>0) ⟨#[],args,[]⟩).memory :=
 laidMet_laidAll args (by kernel_rfl) (by kernel_rfl)
theorem var_block {P:Program} {w:World} {n:String} {g:Nat} {cs:Array Value} (hg:P.globalNamed n=some g) (h:w.var? P n=some cs):∃ e fz,w.heap[g]?=some (.cells cs e fz):=by
 unfold World.var? at h
 rw [hg] at h
 simp only [Option.bind_some] at h
 split at h
 ·rename_i c e fz hh
  cases h
  exact ⟨_,_,hh⟩
 ·cases h
theorem laid_tabs (W:World) (h:laidMet Tryz.prog laidL W) (hsh:W.ShapedOpen Tryz.prog):TabAt (All W) W:=by
 obtain ⟨ps,⟨g1,t1,c1,f1,p1,q1,hg1,ht1,hv1,hd1,⟨g2,t2,c2,f2,p2,q2,hg2,ht2,hv2,hd2,⟨g3,t3,c3,f3,p3,q3,hg3,ht3,hv3,hd3,hrest,e3⟩,e2⟩,e1⟩,_,_⟩:=h
 have k3 : Tryz.prog.globalNamed "internal/strconv.uint64pow10" = some 2 := by kernel_rfl
 obtain ⟨b3,z3,h3⟩:=var_block k3 hv3
 obtain rfl:=Option.some.inj (k3.symm.trans hg3)
 have T3:(Tryz.prog.globals[2]?).map (·.type)=some t3:=ht3
 have lt:∀ {g:Nat} {o:Obj},W.heap[g]?=some o→g<W.heap.size:=fun h=>(Array.getElem?_eq_some_iff.1 h).1
 intro g Q hQ
 match g,hQ with
 | 1,hQ =>
  cases hQ
  obtain ⟨cs,hc,hs,_⟩:=hsh.1 1 #[.int .i64 0] 3 (of_decide_eq_true (by kernel_rfl)) (by kernel_rfl)
  obtain ⟨m,hm⟩:=Go.Proofs.cell_of_shapedOpen_int (P:=Tryz.prog) (g:=1) (t:=3) (zero:=#[.int .i64 0]) hsh (of_decide_eq_true (by kernel_rfl)) (by kernel_rfl) rfl (by kernel_rfl) (by kernel_rfl) und3'
  refine ⟨lt hc,cs,3,(0,0),hc,m,?_⟩
  have h0:cs[0]?=some (.int .i64 m):=by simpa [World.cell?,hc] using hm
  have hs1:cs.size=1:=hs
  apply Array.ext
  ·rw [hs1];rfl
  ·intro i h1 h2
   have:i=0:=by omega
   subst this
   rw [Array.getElem?_eq_getElem h1] at h0
   exact Option.some.inj h0
 | 2,hQ =>
  cases hQ
  refine ⟨lt h3,c3,b3,z3,h3,?_⟩
  obtain rfl:=Option.some.inj ((show (Tryz.prog.globals[2]?).map (·.type)=some 192 by kernel_rfl).symm.trans T3)
  have:=Lib.cells_of_tab (k:=.u64) (zs:=Lib.pow10Tab) (n:=20) (e:=179) (by kernel_rfl) (by kernel_rfl) (by kernel_rfl) (by kernel_rfl) (show _=some (Lib.tabData .u64 Lib.pow10Tab,p3) from hd3)
  show c3=_
  rw [← this]
end Go.Proofs.YtohankpncipefaaGreatDoor
