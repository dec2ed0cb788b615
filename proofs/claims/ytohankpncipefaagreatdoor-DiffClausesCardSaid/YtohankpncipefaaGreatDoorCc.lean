import Derived.Test.YtohankpncipefaaGreatDoorCb
import Derived.Test.YtohankpncipefaaGreatDoorLd
import Derived.Shelf.Vars
import Derived.Lay
import Derived.Lib.LaidTab
import Derived.LaidLaws
import Derived.KernelRfl
import Derived.Test.YtohankpncipefaaGreatDoorRows
namespace Go.Proofs.YtohankpncipefaaGreatDoor
open Go.Own
set_option maxHeartbeats 40000000
set_option maxRecDepth 100000
structure Mat where
 name:List UInt8
 same:Bool
abbrev m0:Mat:=⟨[],false⟩
def encM (m:Mat):AV:=.agg [.str m.name,.bool m.same]
def mats (b1 b2 b3 b4 b5 b6:Bool):List Mat:=[⟨[102,97,99,101],b1⟩,⟨[102,114,111,109],b2⟩,⟨[116,111],b3⟩,⟨[99,111,117,112,111,110],b4⟩,⟨[114,97,110,107],b5⟩,⟨[109,97,106,111,114,105,116,121],b6⟩]
def resL (l:List Mat):List (List UInt8):=(l.filter fun m=>!m.same).map Mat.name
noncomputable def matsX (a b:Ind):List Mat:=mats (decide (a.face=b.face)) (decide (a.frm=b.frm)) (decide (a.to=b.to)) (decide (a.lets=b.lets)&&decide (a.coupon=b.coupon)&&decide (a.cap=b.cap)) (decide (a.rank=b.rank)) (decide (a.majority=b.majority))
noncomputable def reservedL (a b:Ind):List (List UInt8):=resL (matsX a b)
theorem resL_take {M:List Mat} {k:Nat} (h:k<M.length):resL (M.take (k+1))=resL (M.take k)++(if (M.getD k m0).same=true then [] else [(M.getD k m0).name]):=by
 rw [take_getD (d:=m0) h]
 unfold resL
 rw [List.filter_append,List.map_append]
 generalize M.getD k m0=m
 cases hx:m.same<;>simp [List.filter_cons,hx]
theorem resL_len (M:List Mat) (k:Nat):(resL (M.take k)).length≤k:=by
 unfold resL
 rw [List.length_map]
 have:=List.length_filter_le (fun m:Mat=>!m.same) (M.take k)
 rw [List.length_take] at this
 omega
theorem reserved_ok (a b:Ind) (ha:OkX a) (hb:OkX b):APure Tryz.prog 16 [encX a,encX b] (fun rs=>rs=[.new (.row 9 1 encS [] (reservedL a b))]):=by
 have hq:=eqfR_ok a.lets b.lets (by have:=ha.lets;omega) (by have:=hb.lets;omega) (fun x hx y hy=>resc_ok x y (ha.let1 x hx).2 (hb.let1 y hy).2)
 have hs:=same_ok a.coupon b.coupon ha.coupon hb.coupon
 have hfin:∀ c4,(decide (a.lets=b.lets)&&decide (a.coupon=b.coupon)&&decide (a.cap=b.cap))=c4→reservedL a b=resL (mats (decide (a.face=b.face)) (decide (a.frm=b.frm)) (decide (a.to=b.to)) c4 (decide (a.rank=b.rank)) (decide (a.majority=b.majority))):=fun c4 h=>by rw [reservedL,matsX,h]
 cases h1:decide (a.lets=b.lets) with
 | false =>
  rw [h1] at hq
  rw [hfin false (by rw [h1];rfl)]
  refine aO (cxOk 76 [0,1,2,3,4,5,6,8,60,61,62,63,68]) Tryz.func16 ?_
  conv=>whnf
  refine cO (fun _=>hq) ?_
  conv=>whnf
  refine .eff ag0 ?_;conv=>whnf
  refine nD ?_;conv=>whnf
  refine nD ?_;conv=>whnf
  refine nD ?_;conv=>whnf
  refine nD ?_;conv=>whnf
  refine nD ?_;conv=>whnf
  refine nD ?_;conv=>whnf
  refine nD ?_;conv=>whnf
  refine nD ?_;conv=>whnf
  refine nD ?_;conv=>whnf
  refine nD ?_;conv=>whnf
  refine nD ?_;conv=>whnf
  refine nD ?_;conv=>whnf
  refine And.intro rfl ?_;conv=>whnf
  generalize hM:mats (decide (a.face=b.face)) (decide (a.frm=b.frm)) (decide (a.to=b.to)) false (decide (a.rank=b.rank)) (decide (a.majority=b.majority))=M
  have hMl:M.length=6:=by rw [← hM];rfl
  refine loop_up (cxOk _ _) 6 (fun k=>True) (fun k=>⟨[(6,.own 1),(60,.own 0),(61,.int .i64 6),(62,.int .i64 (k:Nat))],[(0,.row 70 2 encM m0 M),(1,.row 9 1 encS [] (resL (M.take k)))],2⟩) trivial ((wk_of [(0,.id 2),(1,.nil)] rfl ⟨af0,af0,wa0,wa0,trivial⟩ ⟨⟨_,rfl,(by first | exact .row _ _ _ _ _ _ _ rfl (by rw [← hM];rfl) | exact .lstrow _ _ _ _ _ _ _ rfl (by rw [← hM];rfl) | exact .nilrow _ _ _ _ _ (by rw [← hM];rfl) | exact .truncrow _ _ _ _ _ _ _ _ rfl (by omega) (by rw [← hM];rfl))⟩,⟨_,rfl,ah0⟩,trivial⟩)) ?_
  intro k hk _
  conv=>whnf
  refine ⟨fun hd=>?_,fun hd=>?_⟩
  ·have hd:=of_decide_eq_true hd
   have hlt:k<M.length:=by omega
   have hek:(k:Int).toNat=k:=Int.toNat_natCast k
   have hrl:=resL_len M k
   have hrs:=resL_take hlt
   generalize resL (M.take k)=R at *
   conv=>whnf
   refine iO ?_;conv=>whnf
   refine And.intro om0 (And.intro rfl ?_);conv=>whnf
   rw [hek]
   conv=>whnf
   cases hx:(M.getD k m0).same with
   | true =>
    rw [hx,if_pos rfl,List.append_nil] at hrs
    refine gF ?_
    conv=>whnf
    refine iO ?_;conv=>whnf
    refine up om0 trivial ((wk_of [(0,.id 0),(1,.id 1)] rfl ⟨af0,af0,wa0,wa0,trivial⟩ ⟨⟨_,rfl,ah0⟩,⟨_,rfl,(by first | exact .row _ _ _ _ _ _ _ rfl hrs.symm | exact .lstrow _ _ _ _ _ _ _ rfl hrs.symm | exact .nilrow _ _ _ _ _ hrs.symm | exact .truncrow _ _ _ _ _ _ _ _ rfl om0 hrs.symm)⟩,trivial⟩))
   | false =>
    rw [hx,if_neg (by decide)] at hrs
    refine gT ?_
    conv=>whnf
    refine And.intro rfl ?_;conv=>whnf
    refine And.intro ⟨rfl,rfl⟩ (And.intro (show (R.length+1)*16≤140737488355328 by omega) ?_)
    conv=>whnf
    refine ⟨_,rfl,?_⟩
    conv=>whnf
    refine iO ?_;conv=>whnf
    refine up om0 trivial ((wk_of [(0,.id 0),(1,.id 4)] rfl ⟨af0,af0,wa0,wa0,trivial⟩ ⟨⟨_,rfl,ah0⟩,⟨_,rfl,(by first | exact .row _ _ _ _ _ _ _ rfl hrs.symm | exact .lstrow _ _ _ _ _ _ _ rfl hrs.symm | exact .nilrow _ _ _ _ _ hrs.symm | exact .truncrow _ _ _ _ _ _ _ _ rfl om0 hrs.symm)⟩,trivial⟩))
  ·have hd:=of_decide_eq_false hd
   obtain rfl:k=6:=by omega
   rw [List.take_of_length_le (by omega)]
   conv=>whnf
   rfl
 | true =>
  rw [h1] at hq
  cases h2:decide (a.coupon=b.coupon) with
  | false =>
   rw [h2] at hs
   rw [hfin false (by rw [h1,h2];rfl)]
   refine aO (cxOk 76 [0,1,2,3,4,5,6,8,60,61,62,63,68]) Tryz.func16 ?_
   conv=>whnf
   refine cO (fun _=>hq) ?_
   conv=>whnf
   refine .eff ag0 ?_;conv=>whnf
   refine nE ?_;conv=>whnf
   refine nE ?_;conv=>whnf
   refine nE ?_;conv=>whnf
   refine nE ?_;conv=>whnf
   refine nE ?_;conv=>whnf
   refine cO (fun _=>hs) ?_
   conv=>whnf
   refine nE ?_;conv=>whnf
   refine nD ?_;conv=>whnf
   refine nD ?_;conv=>whnf
   refine nD ?_;conv=>whnf
   refine nD ?_;conv=>whnf
   refine nD ?_;conv=>whnf
   refine nD ?_;conv=>whnf
   refine And.intro rfl ?_;conv=>whnf
   generalize hM:mats (decide (a.face=b.face)) (decide (a.frm=b.frm)) (decide (a.to=b.to)) false (decide (a.rank=b.rank)) (decide (a.majority=b.majority))=M
   have hMl:M.length=6:=by rw [← hM];rfl
   refine loop_up (cxOk _ _) 6 (fun k=>True) (fun k=>⟨[(6,.own 1),(60,.own 0),(61,.int .i64 6),(62,.int .i64 (k:Nat))],[(0,.row 70 2 encM m0 M),(1,.row 9 1 encS [] (resL (M.take k)))],2⟩) trivial ((wk_of [(0,.id 2),(1,.nil)] rfl ⟨af0,af0,wa0,wa0,trivial⟩ ⟨⟨_,rfl,(by first | exact .row _ _ _ _ _ _ _ rfl (by rw [← hM];rfl) | exact .lstrow _ _ _ _ _ _ _ rfl (by rw [← hM];rfl) | exact .nilrow _ _ _ _ _ (by rw [← hM];rfl) | exact .truncrow _ _ _ _ _ _ _ _ rfl (by omega) (by rw [← hM];rfl))⟩,⟨_,rfl,ah0⟩,trivial⟩)) ?_
   intro k hk _
   conv=>whnf
   refine ⟨fun hd=>?_,fun hd=>?_⟩
   ·have hd:=of_decide_eq_true hd
    have hlt:k<M.length:=by omega
    have hek:(k:Int).toNat=k:=Int.toNat_natCast k
    have hrl:=resL_len M k
    have hrs:=resL_take hlt
    generalize resL (M.take k)=R at *
    conv=>whnf
    refine iO ?_;conv=>whnf
    refine And.intro om0 (And.intro rfl ?_);conv=>whnf
    rw [hek]
    conv=>whnf
    cases hx:(M.getD k m0).same with
    | true =>
     rw [hx,if_pos rfl,List.append_nil] at hrs
     refine gF ?_
     conv=>whnf
     refine iO ?_;conv=>whnf
     refine up om0 trivial ((wk_of [(0,.id 0),(1,.id 1)] rfl ⟨af0,af0,wa0,wa0,trivial⟩ ⟨⟨_,rfl,ah0⟩,⟨_,rfl,(by first | exact .row _ _ _ _ _ _ _ rfl hrs.symm | exact .lstrow _ _ _ _ _ _ _ rfl hrs.symm | exact .nilrow _ _ _ _ _ hrs.symm | exact .truncrow _ _ _ _ _ _ _ _ rfl om0 hrs.symm)⟩,trivial⟩))
    | false =>
     rw [hx,if_neg (by decide)] at hrs
     refine gT ?_
     conv=>whnf
     refine And.intro rfl ?_;conv=>whnf
     refine And.intro ⟨rfl,rfl⟩ (And.intro (show (R.length+1)*16≤140737488355328 by omega) ?_)
     conv=>whnf
     refine ⟨_,rfl,?_⟩
     conv=>whnf
     refine iO ?_;conv=>whnf
     refine up om0 trivial ((wk_of [(0,.id 0),(1,.id 4)] rfl ⟨af0,af0,wa0,wa0,trivial⟩ ⟨⟨_,rfl,ah0⟩,⟨_,rfl,(by first | exact .row _ _ _ _ _ _ _ rfl hrs.symm | exact .lstrow _ _ _ _ _ _ _ rfl hrs.symm | exact .nilrow _ _ _ _ _ hrs.symm | exact .truncrow _ _ _ _ _ _ _ _ rfl om0 hrs.symm)⟩,trivial⟩))
   ·have hd:=of_decide_eq_false hd
    obtain rfl:k=6:=by omega
    rw [List.take_of_length_le (by omega)]
    conv=>whnf
    rfl
  | true =>
   rw [h2] at hs
   rw [hfin (decide (a.cap=b.cap)) (by rw [h1,h2];rfl)]
   refine aO (cxOk 76 [0,1,2,3,4,5,6,8,60,61,62,63,68]) Tryz.func16 ?_
   conv=>whnf
   refine cO (fun _=>hq) ?_
   conv=>whnf
   refine .eff ag0 ?_;conv=>whnf
   refine nE ?_;conv=>whnf
   refine nE ?_;conv=>whnf
   refine nE ?_;conv=>whnf
   refine nE ?_;conv=>whnf
   refine nE ?_;conv=>whnf
   refine cO (fun _=>hs) ?_
   conv=>whnf
   refine nE ?_;conv=>whnf
   refine nE ?_;conv=>whnf
   refine nE ?_;conv=>whnf
   refine nE ?_;conv=>whnf
   refine nE ?_;conv=>whnf
   refine nE ?_;conv=>whnf
   refine nE ?_;conv=>whnf
   refine And.intro rfl ?_;conv=>whnf
   generalize hM:mats (decide (a.face=b.face)) (decide (a.frm=b.frm)) (decide (a.to=b.to)) (decide (a.cap=b.cap)) (decide (a.rank=b.rank)) (decide (a.majority=b.majority))=M
   have hMl:M.length=6:=by rw [← hM];rfl
   refine loop_up (cxOk _ _) 6 (fun k=>True) (fun k=>⟨[(6,.own 1),(60,.own 0),(61,.int .i64 6),(62,.int .i64 (k:Nat))],[(0,.row 70 2 encM m0 M),(1,.row 9 1 encS [] (resL (M.take k)))],2⟩) trivial ((wk_of [(0,.id 2),(1,.nil)] rfl ⟨af0,af0,wa0,wa0,trivial⟩ ⟨⟨_,rfl,(by first | exact .row _ _ _ _ _ _ _ rfl (by rw [← hM];rfl) | exact .lstrow _ _ _ _ _ _ _ rfl (by rw [← hM];rfl) | exact .nilrow _ _ _ _ _ (by rw [← hM];rfl) | exact .truncrow _ _ _ _ _ _ _ _ rfl (by omega) (by rw [← hM];rfl))⟩,⟨_,rfl,ah0⟩,trivial⟩)) ?_
   intro k hk _
   conv=>whnf
   refine ⟨fun hd=>?_,fun hd=>?_⟩
   ·have hd:=of_decide_eq_true hd
    have hlt:k<M.length:=by omega
    have hek:(k:Int).toNat=k:=Int.toNat_natCast k
    have hrl:=resL_len M k
    have hrs:=resL_take hlt
    generalize resL (M.take k)=R at *
    conv=>whnf
    refine iO ?_;conv=>whnf
    refine And.intro om0 (And.intro rfl ?_);conv=>whnf
    rw [hek]
    conv=>whnf
    cases hx:(M.getD k m0).same with
    | true =>
     rw [hx,if_pos rfl,List.append_nil] at hrs
     refine gF ?_
     conv=>whnf
     refine iO ?_;conv=>whnf
     refine up om0 trivial ((wk_of [(0,.id 0),(1,.id 1)] rfl ⟨af0,af0,wa0,wa0,trivial⟩ ⟨⟨_,rfl,ah0⟩,⟨_,rfl,(by first | exact .row _ _ _ _ _ _ _ rfl hrs.symm | exact .lstrow _ _ _ _ _ _ _ rfl hrs.symm | exact .nilrow _ _ _ _ _ hrs.symm | exact .truncrow _ _ _ _ _ _ _ _ rfl om0 hrs.symm)⟩,trivial⟩))
    | false =>
     rw [hx,if_neg (by decide)] at hrs
     refine gT ?_
     conv=>whnf
     refine And.intro rfl ?_;conv=>whnf
     refine And.intro ⟨rfl,rfl⟩ (And.intro (show (R.length+1)*16≤140737488355328 by omega) ?_)
     conv=>whnf
     refine ⟨_,rfl,?_⟩
     conv=>whnf
     refine iO ?_;conv=>whnf
     refine up om0 trivial ((wk_of [(0,.id 0),(1,.id 4)] rfl ⟨af0,af0,wa0,wa0,trivial⟩ ⟨⟨_,rfl,ah0⟩,⟨_,rfl,(by first | exact .row _ _ _ _ _ _ _ rfl hrs.symm | exact .lstrow _ _ _ _ _ _ _ rfl hrs.symm | exact .nilrow _ _ _ _ _ hrs.symm | exact .truncrow _ _ _ _ _ _ _ _ rfl om0 hrs.symm)⟩,trivial⟩))
   ·have hd:=of_decide_eq_false hd
    obtain rfl:k=6:=by omega
    rw [List.take_of_length_le (by omega)]
    conv=>whnf
    rfl
set_option maxHeartbeats 400000000
theorem le_one {P:Program} {f:FuncId} {args:List AV} {R:List AR→Prop} {r':AR} (h:APure P f args R) (hle:∀ rs,R rs→∃ r,rs=[r]∧LeR r r'):APure P f args (fun rs=>rs=[r']):=by
 refine h.le fun rs hrs=>?_
 obtain ⟨r,rfl,hr⟩:=hle rs hrs
 exact ⟨_,rfl,rfl,fun j a b h1 h2=>by
  cases j with
  | zero=>simp at h1 h2;subst h1;subst h2;exact hr
  | succ j=>simp at h1⟩
noncomputable def clausesL (x:Ind):List (List UInt8):=if (printI x).2=0 then cutL (printI x).1 [] else []
theorem txt_end {L:List (List (List UInt8))} (h:L≠[]):∃ s,txt L=s++[10]:=by
 obtain ⟨M,w,rfl⟩:∃ M w,L=M++[w]:=⟨L.dropLast,L.getLast h,(List.dropLast_concat_getLast h).symm⟩
 rw [txt_snoc]
 unfold lineT
 exact ⟨txt M++(Lib.join w [32]++[32,59]),by simp⟩
theorem print_cases (x:Ind):(∃ s,printI x=(s++[10],0)∧s.length<4000)∨(printI x).2≠0:=by
 unfold printI
 split
 ·unfold fitsT
  split
  ·right;decide
  ·rename_i h
   left
   obtain ⟨s,hs⟩:=txt_end (L:=linesW x) (by unfold linesW headW;simp)
   rw [hs] at h ⊢
   rw [List.length_append] at h
   simp at h
   exact ⟨s,rfl,by omega⟩
 ·right;decide
theorem clauses_ok (x:Ind) (hx:OkX x):APureV Tryz.prog 14 [encX x] (.sl 1 encS [] (clausesL x)):=by
 have hp:=print_ok x hx
 unfold clausesL
 rcases print_cases x with ⟨s,e,hs⟩ | hne
 ·rw [e] at hp ⊢
  rw [if_pos rfl]
  have ht:=trim_c (s++[10]) [10] (by simp;omega)
  have hsp:=split_c s [10] (by omega) (by simp)
  have hcs:=clauses_same s
  rw [trim_end] at ht hcs
  unfold splitC at hcs
  rw [hcs] at hsp
  refine aO (cxOk 15 [0,1,2,3,4,11]) Tryz.func14 ?_
  conv=>whnf
  refine cO (fun _=>hp) ?_
  conv=>whnf
  refine gF ?_
  conv=>whnf
  refine cO (fun _=>ht) ?_
  conv=>whnf
  refine cO (fun _=>hsp) ?_
  conv=>whnf
  rfl
 ·rw [if_neg hne]
  generalize (printI x).2=e at *
  generalize (printI x).1=s at *
  have hd:decide (e=0)=false:=decide_eq_false hne
  refine le_one (R:=fun rs=>rs=[.val .nils]) ?_ (fun rs h=>⟨_,h,.nilsl _ _ _⟩)
  refine aO (cxOk 15 [0,1,2,3,4,11]) Tryz.func14 ?_
  conv=>whnf
  refine cO (fun _=>hp) ?_
  conv=>whnf
  rw [hd]
  refine gT ?_
  conv=>whnf
  rfl
set_option maxHeartbeats 1000000
theorem eqLets_ok:APureV Tryz.prog 31 [.nils,.nils,.fn (.func 32) [] []] (.bool true):=by
 refine aO (cxOk 32 [0,1,2,6,7,8,9,14,15,16,17,18,30]) Tryz.func31 ?_
 conv=>whnf
 refine ⟨fun hc=>?_,fun hc=>?_⟩
 ·simp at hc
 conv=>whnf
 refine loop_up (cxOk _ _) 0 (fun _=>True) (fun k=>⟨[(15,.nils),(16,.int .i64 0),(17,.int .i64 (k:Nat))],[],0⟩) trivial (wk_of [] rfl ⟨wa0,wa0,wa0,trivial⟩ trivial) ?_
 intro k hk _
 conv=>whnf
 refine ⟨fun hc=>?_,fun hc=>?_⟩
 ·simp only [decide_eq_true_eq] at hc
  omega
 ·conv=>whnf
  rfl
theorem eqExps_ok:APureV Tryz.prog 69 [.nils,.nils,.fn (.func 33) [] []] (.bool true):=by
 refine aO (cxOk 32 [0,1,2,6,7,8,9,14,15,16,17,18,30]) Tryz.func69 ?_
 conv=>whnf
 refine ⟨fun hc=>?_,fun hc=>?_⟩
 ·simp at hc
 conv=>whnf
 refine loop_up (cxOk _ _) 0 (fun _=>True) (fun k=>⟨[(15,.nils),(16,.int .i64 0),(17,.int .i64 (k:Nat))],[],0⟩) trivial (wk_of [] rfl ⟨wa0,wa0,wa0,trivial⟩ trivial) ?_
 intro k hk _
 conv=>whnf
 refine ⟨fun hc=>?_,fun hc=>?_⟩
 ·simp only [decide_eq_true_eq] at hc
  omega
 ·conv=>whnf
  rfl
abbrev noExp:AV:=.agg [.int .i64 0,.int .i64 0,.int .i64 0,.str [],.nils]
theorem sameExpS_ok:APureV Tryz.prog 33 [noExp,noExp] (.bool true):=by
 refine aO (cxOk 38 [0,1,2,3,4]) Tryz.func33 ?_
 conv=>whnf
 refine .one _ _ _ (fun _=>eqExps_ok) (by repeat (first | exact .nil | (apply BorL.cons;first | exact lS rfl | exact lR rfl | exact lM rfl rfl | exact lL rfl | exact lX rfl | exact lN | exact lNl | exact lSm rfl | exact lIm rfl | exact lGm rfl | exact lP rfl | exact lQ rfl | exact lB rfl rfl rfl | exact .fn _ _ _ _ _ _ _ (by repeat (first | exact .nil | (apply BorL.cons;first | exact .base (.base (.same _ rfl)) | exact .base (.base (.row _ _ _ _ _ _ rfl)) | exact .base (.base (.smap _ _ _ _ rfl)) | exact .base (.base (.imap _ _ _ _ _ rfl)) | exact .base (.base (.gmap _ _ _ _ _ rfl)) | exact .box _ _ _ _ _ _ rfl (by repeat (first | exact .nil | (apply BorL.cons;first | exact .base (.same _ rfl) | exact .base (.row _ _ _ _ _ _ rfl) | exact .base (.smap _ _ _ _ rfl) | exact .base (.imap _ _ _ _ _ rfl) | exact .base (.gmap _ _ _ _ _ rfl) | exact .box _ _ _ _ _ _ rfl (by repeat (first | exact .nil | (apply BorL.cons;first | exact .same _ rfl | exact .row _ _ _ _ _ _ rfl | exact .lstrow _ _ _ _ _ _ _ rfl rfl | exact .lst _ _ _ _ rfl | exact .smap _ _ _ _ rfl | exact .imap _ _ _ _ _ rfl | exact .gmap _ _ _ _ _ rfl))) (by first | exact allOne_spec rfl | simp [AV.one])))) (by first | exact allOne_spec rfl | simp [AV.one]) | exact .fn _ _ _ _ _ _ _ (by repeat (first | exact .nil | (apply BorL.cons;first | exact .base (.same _ rfl) | exact .base (.row _ _ _ _ _ _ rfl) | exact .base (.smap _ _ _ _ rfl) | exact .base (.imap _ _ _ _ _ rfl) | exact .base (.gmap _ _ _ _ _ rfl) | exact .box _ _ _ _ _ _ rfl (by repeat (first | exact .nil | (apply BorL.cons;first | exact .same _ rfl | exact .row _ _ _ _ _ _ rfl | exact .lstrow _ _ _ _ _ _ _ rfl rfl | exact .lst _ _ _ _ rfl | exact .smap _ _ _ _ rfl | exact .imap _ _ _ _ _ rfl | exact .gmap _ _ _ _ _ rfl))) (by first | exact allOne_spec rfl | simp [AV.one])))) (by repeat (first | exact .nil | (apply BorL.cons;first | exact .base (.same _ rfl) | exact .base (.row _ _ _ _ _ _ rfl) | exact .base (.smap _ _ _ _ rfl) | exact .base (.imap _ _ _ _ _ rfl) | exact .base (.gmap _ _ _ _ _ rfl) | exact .box _ _ _ _ _ _ rfl (by repeat (first | exact .nil | (apply BorL.cons;first | exact .same _ rfl | exact .row _ _ _ _ _ _ rfl | exact .lstrow _ _ _ _ _ _ _ rfl rfl | exact .lst _ _ _ _ rfl | exact .smap _ _ _ _ rfl | exact .imap _ _ _ _ _ rfl | exact .gmap _ _ _ _ _ rfl))) (by first | exact allOne_spec rfl | simp [AV.one]))))))) (by repeat (first | exact .nil | (apply BorL.cons;first | exact .base (.base (.same _ rfl)) | exact .base (.base (.row _ _ _ _ _ _ rfl)) | exact .base (.base (.smap _ _ _ _ rfl)) | exact .base (.base (.imap _ _ _ _ _ rfl)) | exact .base (.base (.gmap _ _ _ _ _ rfl)) | exact .box _ _ _ _ _ _ rfl (by repeat (first | exact .nil | (apply BorL.cons;first | exact .base (.same _ rfl) | exact .base (.row _ _ _ _ _ _ rfl) | exact .base (.smap _ _ _ _ rfl) | exact .base (.imap _ _ _ _ _ rfl) | exact .base (.gmap _ _ _ _ _ rfl) | exact .box _ _ _ _ _ _ rfl (by repeat (first | exact .nil | (apply BorL.cons;first | exact .same _ rfl | exact .row _ _ _ _ _ _ rfl | exact .lstrow _ _ _ _ _ _ _ rfl rfl | exact .lst _ _ _ _ rfl | exact .smap _ _ _ _ rfl | exact .imap _ _ _ _ _ rfl | exact .gmap _ _ _ _ _ rfl))) (by first | exact allOne_spec rfl | simp [AV.one])))) (by first | exact allOne_spec rfl | simp [AV.one]) | exact .fn _ _ _ _ _ _ _ (by repeat (first | exact .nil | (apply BorL.cons;first | exact .base (.same _ rfl) | exact .base (.row _ _ _ _ _ _ rfl) | exact .base (.smap _ _ _ _ rfl) | exact .base (.imap _ _ _ _ _ rfl) | exact .base (.gmap _ _ _ _ _ rfl) | exact .box _ _ _ _ _ _ rfl (by repeat (first | exact .nil | (apply BorL.cons;first | exact .same _ rfl | exact .row _ _ _ _ _ _ rfl | exact .lstrow _ _ _ _ _ _ _ rfl rfl | exact .lst _ _ _ _ rfl | exact .smap _ _ _ _ rfl | exact .imap _ _ _ _ _ rfl | exact .gmap _ _ _ _ _ rfl))) (by first | exact allOne_spec rfl | simp [AV.one])))) (by repeat (first | exact .nil | (apply BorL.cons;first | exact .base (.same _ rfl) | exact .base (.row _ _ _ _ _ _ rfl) | exact .base (.smap _ _ _ _ rfl) | exact .base (.imap _ _ _ _ _ rfl) | exact .base (.gmap _ _ _ _ _ rfl) | exact .box _ _ _ _ _ _ rfl (by repeat (first | exact .nil | (apply BorL.cons;first | exact .same _ rfl | exact .row _ _ _ _ _ _ rfl | exact .lstrow _ _ _ _ _ _ _ rfl rfl | exact .lst _ _ _ _ rfl | exact .smap _ _ _ _ rfl | exact .imap _ _ _ _ _ rfl | exact .gmap _ _ _ _ _ rfl))) (by first | exact allOne_spec rfl | simp [AV.one]))))))) | exact .box _ _ _ _ _ _ rfl (by repeat (first | exact .nil | (apply BorL.cons;first | exact .base (.base (.same _ rfl)) | exact .base (.base (.row _ _ _ _ _ _ rfl)) | exact .base (.base (.smap _ _ _ _ rfl)) | exact .base (.base (.imap _ _ _ _ _ rfl)) | exact .base (.base (.gmap _ _ _ _ _ rfl)) | exact .box _ _ _ _ _ _ rfl (by repeat (first | exact .nil | (apply BorL.cons;first | exact .base (.same _ rfl) | exact .base (.row _ _ _ _ _ _ rfl) | exact .base (.smap _ _ _ _ rfl) | exact .base (.imap _ _ _ _ _ rfl) | exact .base (.gmap _ _ _ _ _ rfl) | exact .box _ _ _ _ _ _ rfl (by repeat (first | exact .nil | (apply BorL.cons;first | exact .same _ rfl | exact .row _ _ _ _ _ _ rfl | exact .lstrow _ _ _ _ _ _ _ rfl rfl | exact .lst _ _ _ _ rfl | exact .smap _ _ _ _ rfl | exact .imap _ _ _ _ _ rfl | exact .gmap _ _ _ _ _ rfl))) (by first | exact allOne_spec rfl | simp [AV.one])))) (by first | exact allOne_spec rfl | simp [AV.one]) | exact .fn _ _ _ _ _ _ _ (by repeat (first | exact .nil | (apply BorL.cons;first | exact .base (.same _ rfl) | exact .base (.row _ _ _ _ _ _ rfl) | exact .base (.smap _ _ _ _ rfl) | exact .base (.imap _ _ _ _ _ rfl) | exact .base (.gmap _ _ _ _ _ rfl) | exact .box _ _ _ _ _ _ rfl (by repeat (first | exact .nil | (apply BorL.cons;first | exact .same _ rfl | exact .row _ _ _ _ _ _ rfl | exact .lstrow _ _ _ _ _ _ _ rfl rfl | exact .lst _ _ _ _ rfl | exact .smap _ _ _ _ rfl | exact .imap _ _ _ _ _ rfl | exact .gmap _ _ _ _ _ rfl))) (by first | exact allOne_spec rfl | simp [AV.one])))) (by repeat (first | exact .nil | (apply BorL.cons;first | exact .base (.same _ rfl) | exact .base (.row _ _ _ _ _ _ rfl) | exact .base (.smap _ _ _ _ rfl) | exact .base (.imap _ _ _ _ _ rfl) | exact .base (.gmap _ _ _ _ _ rfl) | exact .box _ _ _ _ _ _ rfl (by repeat (first | exact .nil | (apply BorL.cons;first | exact .same _ rfl | exact .row _ _ _ _ _ _ rfl | exact .lstrow _ _ _ _ _ _ _ rfl rfl | exact .lst _ _ _ _ rfl | exact .smap _ _ _ _ rfl | exact .imap _ _ _ _ _ rfl | exact .gmap _ _ _ _ _ rfl))) (by first | exact allOne_spec rfl | simp [AV.one]))))))) (by first | exact allOne_spec rfl | simp [AV.one]) | exact .agg _ _ _ (by repeat (first | exact .nil | (apply BorL.cons;first | exact .base (.base (.same _ rfl)) | exact .base (.base (.row _ _ _ _ _ _ rfl)) | exact .base (.base (.smap _ _ _ _ rfl)) | exact .base (.base (.imap _ _ _ _ _ rfl)) | exact .base (.base (.gmap _ _ _ _ _ rfl)) | exact .box _ _ _ _ _ _ rfl (by repeat (first | exact .nil | (apply BorL.cons;first | exact .base (.same _ rfl) | exact .base (.row _ _ _ _ _ _ rfl) | exact .base (.smap _ _ _ _ rfl) | exact .base (.imap _ _ _ _ _ rfl) | exact .base (.gmap _ _ _ _ _ rfl) | exact .box _ _ _ _ _ _ rfl (by repeat (first | exact .nil | (apply BorL.cons;first | exact .same _ rfl | exact .row _ _ _ _ _ _ rfl | exact .lstrow _ _ _ _ _ _ _ rfl rfl | exact .lst _ _ _ _ rfl | exact .smap _ _ _ _ rfl | exact .imap _ _ _ _ _ rfl | exact .gmap _ _ _ _ _ rfl))) (by first | exact allOne_spec rfl | simp [AV.one])))) (by first | exact allOne_spec rfl | simp [AV.one]) | exact .fn _ _ _ _ _ _ _ (by repeat (first | exact .nil | (apply BorL.cons;first | exact .base (.same _ rfl) | exact .base (.row _ _ _ _ _ _ rfl) | exact .base (.smap _ _ _ _ rfl) | exact .base (.imap _ _ _ _ _ rfl) | exact .base (.gmap _ _ _ _ _ rfl) | exact .box _ _ _ _ _ _ rfl (by repeat (first | exact .nil | (apply BorL.cons;first | exact .same _ rfl | exact .row _ _ _ _ _ _ rfl | exact .lstrow _ _ _ _ _ _ _ rfl rfl | exact .lst _ _ _ _ rfl | exact .smap _ _ _ _ rfl | exact .imap _ _ _ _ _ rfl | exact .gmap _ _ _ _ _ rfl))) (by first | exact allOne_spec rfl | simp [AV.one])))) (by repeat (first | exact .nil | (apply BorL.cons;first | exact .base (.same _ rfl) | exact .base (.row _ _ _ _ _ _ rfl) | exact .base (.smap _ _ _ _ rfl) | exact .base (.imap _ _ _ _ _ rfl) | exact .base (.gmap _ _ _ _ _ rfl) | exact .box _ _ _ _ _ _ rfl (by repeat (first | exact .nil | (apply BorL.cons;first | exact .same _ rfl | exact .row _ _ _ _ _ _ rfl | exact .lstrow _ _ _ _ _ _ _ rfl rfl | exact .lst _ _ _ _ rfl | exact .smap _ _ _ _ rfl | exact .imap _ _ _ _ _ rfl | exact .gmap _ _ _ _ _ rfl))) (by first | exact allOne_spec rfl | simp [AV.one])))))))))) al0 (by first | exact .inr rfl | exact .inl rfl) ?_
 conv=>whnf
 rfl
structure MatS where
 name:Str
 same:Bool
def encMS (m:MatS):AV:=.agg [.str m.name,.bool m.same]
instance:Inhabited MatS:=⟨⟨[],false⟩⟩
abbrev face:Str:=[102,97,99,101]
abbrev rank:Str:=[114,97,110,107]
def matsS:List MatS:=[⟨face,false⟩,⟨[102,114,111,109],true⟩,⟨[116,111],true⟩,⟨[99,111,117,112,111,110],true⟩,⟨rank,false⟩,⟨[109,97,106,111,114,105,116,121],true⟩]
def notSame (l:List MatS):List Str:=(l.filter fun m=>!m.same).map MatS.name
def inden (f r:Int):AV:=.agg [.str [],.str [],.int .i64 f,.int .i64 0,.int .i64 0,.int .i64 0,.int .i64 0,.int .i64 0,.int .i64 0,.int .i64 r,.nils,.int .i64 0,.int .i64 0,.int .i64 0,.str [],.nils,.int .i64 0,.nils,.nils,.int .i64 0,.nils,.int .i64 0,.int .i64 0,.int .i64 0,.int .i64 0]
theorem reservedS_ok:APure Tryz.prog 16 [inden 1 2,inden 2 0] (fun rs=>rs=[.new (.row 9 1 encS [] [face,rank])]):=by
 refine aO (cxOk 76 [0,1,2,3,4,5,6,8,60,61,62,63,68]) Tryz.func16 ?_
 conv=>whnf
 refine .one _ _ _ (fun _=>eqLets_ok) (by repeat (first | exact .nil | (apply BorL.cons;first | exact lS rfl | exact lR rfl | exact lM rfl rfl | exact lL rfl | exact lX rfl | exact lN | exact lNl | exact lSm rfl | exact lIm rfl | exact lGm rfl | exact lP rfl | exact lQ rfl | exact lB rfl rfl rfl | exact .fn _ _ _ _ _ _ _ (by repeat (first | exact .nil | (apply BorL.cons;first | exact .base (.base (.same _ rfl)) | exact .base (.base (.row _ _ _ _ _ _ rfl)) | exact .base (.base (.smap _ _ _ _ rfl)) | exact .base (.base (.imap _ _ _ _ _ rfl)) | exact .base (.base (.gmap _ _ _ _ _ rfl)) | exact .box _ _ _ _ _ _ rfl (by repeat (first | exact .nil | (apply BorL.cons;first | exact .base (.same _ rfl) | exact .base (.row _ _ _ _ _ _ rfl) | exact .base (.smap _ _ _ _ rfl) | exact .base (.imap _ _ _ _ _ rfl) | exact .base (.gmap _ _ _ _ _ rfl) | exact .box _ _ _ _ _ _ rfl (by repeat (first | exact .nil | (apply BorL.cons;first | exact .same _ rfl | exact .row _ _ _ _ _ _ rfl | exact .lstrow _ _ _ _ _ _ _ rfl rfl | exact .lst _ _ _ _ rfl | exact .smap _ _ _ _ rfl | exact .imap _ _ _ _ _ rfl | exact .gmap _ _ _ _ _ rfl))) (by first | exact allOne_spec rfl | simp [AV.one])))) (by first | exact allOne_spec rfl | simp [AV.one]) | exact .fn _ _ _ _ _ _ _ (by repeat (first | exact .nil | (apply BorL.cons;first | exact .base (.same _ rfl) | exact .base (.row _ _ _ _ _ _ rfl) | exact .base (.smap _ _ _ _ rfl) | exact .base (.imap _ _ _ _ _ rfl) | exact .base (.gmap _ _ _ _ _ rfl) | exact .box _ _ _ _ _ _ rfl (by repeat (first | exact .nil | (apply BorL.cons;first | exact .same _ rfl | exact .row _ _ _ _ _ _ rfl | exact .lstrow _ _ _ _ _ _ _ rfl rfl | exact .lst _ _ _ _ rfl | exact .smap _ _ _ _ rfl | exact .imap _ _ _ _ _ rfl | exact .gmap _ _ _ _ _ rfl))) (by first | exact allOne_spec rfl | simp [AV.one])))) (by repeat (first | exact .nil | (apply BorL.cons;first | exact .base (.same _ rfl) | exact .base (.row _ _ _ _ _ _ rfl) | exact .base (.smap _ _ _ _ rfl) | exact .base (.imap _ _ _ _ _ rfl) | exact .base (.gmap _ _ _ _ _ rfl) | exact .box _ _ _ _ _ _ rfl (by repeat (first | exact .nil | (apply BorL.cons;first | exact .same _ rfl | exact .row _ _ _ _ _ _ rfl | exact .lstrow _ _ _ _ _ _ _ rfl rfl | exact .lst _ _ _ _ rfl | exact .smap _ _ _ _ rfl | exact .imap _ _ _ _ _ rfl | exact .gmap _ _ _ _ _ rfl))) (by first | exact allOne_spec rfl | simp [AV.one]))))))) (by repeat (first | exact .nil | (apply BorL.cons;first | exact .base (.base (.same _ rfl)) | exact .base (.base (.row _ _ _ _ _ _ rfl)) | exact .base (.base (.smap _ _ _ _ rfl)) | exact .base (.base (.imap _ _ _ _ _ rfl)) | exact .base (.base (.gmap _ _ _ _ _ rfl)) | exact .box _ _ _ _ _ _ rfl (by repeat (first | exact .nil | (apply BorL.cons;first | exact .base (.same _ rfl) | exact .base (.row _ _ _ _ _ _ rfl) | exact .base (.smap _ _ _ _ rfl) | exact .base (.imap _ _ _ _ _ rfl) | exact .base (.gmap _ _ _ _ _ rfl) | exact .box _ _ _ _ _ _ rfl (by repeat (first | exact .nil | (apply BorL.cons;first | exact .same _ rfl | exact .row _ _ _ _ _ _ rfl | exact .lstrow _ _ _ _ _ _ _ rfl rfl | exact .lst _ _ _ _ rfl | exact .smap _ _ _ _ rfl | exact .imap _ _ _ _ _ rfl | exact .gmap _ _ _ _ _ rfl))) (by first | exact allOne_spec rfl | simp [AV.one])))) (by first | exact allOne_spec rfl | simp [AV.one]) | exact .fn _ _ _ _ _ _ _ (by repeat (first | exact .nil | (apply BorL.cons;first | exact .base (.same _ rfl) | exact .base (.row _ _ _ _ _ _ rfl) | exact .base (.smap _ _ _ _ rfl) | exact .base (.imap _ _ _ _ _ rfl) | exact .base (.gmap _ _ _ _ _ rfl) | exact .box _ _ _ _ _ _ rfl (by repeat (first | exact .nil | (apply BorL.cons;first | exact .same _ rfl | exact .row _ _ _ _ _ _ rfl | exact .lstrow _ _ _ _ _ _ _ rfl rfl | exact .lst _ _ _ _ rfl | exact .smap _ _ _ _ rfl | exact .imap _ _ _ _ _ rfl | exact .gmap _ _ _ _ _ rfl))) (by first | exact allOne_spec rfl | simp [AV.one])))) (by repeat (first | exact .nil | (apply BorL.cons;first | exact .base (.same _ rfl) | exact .base (.row _ _ _ _ _ _ rfl) | exact .base (.smap _ _ _ _ rfl) | exact .base (.imap _ _ _ _ _ rfl) | exact .base (.gmap _ _ _ _ _ rfl) | exact .box _ _ _ _ _ _ rfl (by repeat (first | exact .nil | (apply BorL.cons;first | exact .same _ rfl | exact .row _ _ _ _ _ _ rfl | exact .lstrow _ _ _ _ _ _ _ rfl rfl | exact .lst _ _ _ _ rfl | exact .smap _ _ _ _ rfl | exact .imap _ _ _ _ _ rfl | exact .gmap _ _ _ _ _ rfl))) (by first | exact allOne_spec rfl | simp [AV.one]))))))) | exact .box _ _ _ _ _ _ rfl (by repeat (first | exact .nil | (apply BorL.cons;first | exact .base (.base (.same _ rfl)) | exact .base (.base (.row _ _ _ _ _ _ rfl)) | exact .base (.base (.smap _ _ _ _ rfl)) | exact .base (.base (.imap _ _ _ _ _ rfl)) | exact .base (.base (.gmap _ _ _ _ _ rfl)) | exact .box _ _ _ _ _ _ rfl (by repeat (first | exact .nil | (apply BorL.cons;first | exact .base (.same _ rfl) | exact .base (.row _ _ _ _ _ _ rfl) | exact .base (.smap _ _ _ _ rfl) | exact .base (.imap _ _ _ _ _ rfl) | exact .base (.gmap _ _ _ _ _ rfl) | exact .box _ _ _ _ _ _ rfl (by repeat (first | exact .nil | (apply BorL.cons;first | exact .same _ rfl | exact .row _ _ _ _ _ _ rfl | exact .lstrow _ _ _ _ _ _ _ rfl rfl | exact .lst _ _ _ _ rfl | exact .smap _ _ _ _ rfl | exact .imap _ _ _ _ _ rfl | exact .gmap _ _ _ _ _ rfl))) (by first | exact allOne_spec rfl | simp [AV.one])))) (by first | exact allOne_spec rfl | simp [AV.one]) | exact .fn _ _ _ _ _ _ _ (by repeat (first | exact .nil | (apply BorL.cons;first | exact .base (.same _ rfl) | exact .base (.row _ _ _ _ _ _ rfl) | exact .base (.smap _ _ _ _ rfl) | exact .base (.imap _ _ _ _ _ rfl) | exact .base (.gmap _ _ _ _ _ rfl) | exact .box _ _ _ _ _ _ rfl (by repeat (first | exact .nil | (apply BorL.cons;first | exact .same _ rfl | exact .row _ _ _ _ _ _ rfl | exact .lstrow _ _ _ _ _ _ _ rfl rfl | exact .lst _ _ _ _ rfl | exact .smap _ _ _ _ rfl | exact .imap _ _ _ _ _ rfl | exact .gmap _ _ _ _ _ rfl))) (by first | exact allOne_spec rfl | simp [AV.one])))) (by repeat (first | exact .nil | (apply BorL.cons;first | exact .base (.same _ rfl) | exact .base (.row _ _ _ _ _ _ rfl) | exact .base (.smap _ _ _ _ rfl) | exact .base (.imap _ _ _ _ _ rfl) | exact .base (.gmap _ _ _ _ _ rfl) | exact .box _ _ _ _ _ _ rfl (by repeat (first | exact .nil | (apply BorL.cons;first | exact .same _ rfl | exact .row _ _ _ _ _ _ rfl | exact .lstrow _ _ _ _ _ _ _ rfl rfl | exact .lst _ _ _ _ rfl | exact .smap _ _ _ _ rfl | exact .imap _ _ _ _ _ rfl | exact .gmap _ _ _ _ _ rfl))) (by first | exact allOne_spec rfl | simp [AV.one]))))))) (by first | exact allOne_spec rfl | simp [AV.one]) | exact .agg _ _ _ (by repeat (first | exact .nil | (apply BorL.cons;first | exact .base (.base (.same _ rfl)) | exact .base (.base (.row _ _ _ _ _ _ rfl)) | exact .base (.base (.smap _ _ _ _ rfl)) | exact .base (.base (.imap _ _ _ _ _ rfl)) | exact .base (.base (.gmap _ _ _ _ _ rfl)) | exact .box _ _ _ _ _ _ rfl (by repeat (first | exact .nil | (apply BorL.cons;first | exact .base (.same _ rfl) | exact .base (.row _ _ _ _ _ _ rfl) | exact .base (.smap _ _ _ _ rfl) | exact .base (.imap _ _ _ _ _ rfl) | exact .base (.gmap _ _ _ _ _ rfl) | exact .box _ _ _ _ _ _ rfl (by repeat (first | exact .nil | (apply BorL.cons;first | exact .same _ rfl | exact .row _ _ _ _ _ _ rfl | exact .lstrow _ _ _ _ _ _ _ rfl rfl | exact .lst _ _ _ _ rfl | exact .smap _ _ _ _ rfl | exact .imap _ _ _ _ _ rfl | exact .gmap _ _ _ _ _ rfl))) (by first | exact allOne_spec rfl | simp [AV.one])))) (by first | exact allOne_spec rfl | simp [AV.one]) | exact .fn _ _ _ _ _ _ _ (by repeat (first | exact .nil | (apply BorL.cons;first | exact .base (.same _ rfl) | exact .base (.row _ _ _ _ _ _ rfl) | exact .base (.smap _ _ _ _ rfl) | exact .base (.imap _ _ _ _ _ rfl) | exact .base (.gmap _ _ _ _ _ rfl) | exact .box _ _ _ _ _ _ rfl (by repeat (first | exact .nil | (apply BorL.cons;first | exact .same _ rfl | exact .row _ _ _ _ _ _ rfl | exact .lstrow _ _ _ _ _ _ _ rfl rfl | exact .lst _ _ _ _ rfl | exact .smap _ _ _ _ rfl | exact .imap _ _ _ _ _ rfl | exact .gmap _ _ _ _ _ rfl))) (by first | exact allOne_spec rfl | simp [AV.one])))) (by repeat (first | exact .nil | (apply BorL.cons;first | exact .base (.same _ rfl) | exact .base (.row _ _ _ _ _ _ rfl) | exact .base (.smap _ _ _ _ rfl) | exact .base (.imap _ _ _ _ _ rfl) | exact .base (.gmap _ _ _ _ _ rfl) | exact .box _ _ _ _ _ _ rfl (by repeat (first | exact .nil | (apply BorL.cons;first | exact .same _ rfl | exact .row _ _ _ _ _ _ rfl | exact .lstrow _ _ _ _ _ _ _ rfl rfl | exact .lst _ _ _ _ rfl | exact .smap _ _ _ _ rfl | exact .imap _ _ _ _ _ rfl | exact .gmap _ _ _ _ _ rfl))) (by first | exact allOne_spec rfl | simp [AV.one])))))))))) al0 (by first | exact .inr rfl | exact .inl rfl) ?_
 conv=>whnf
 refine .eff (cxOk _ _) ?_
 conv=>whnf
 refine nE ?_;conv=>whnf
 refine nE ?_;conv=>whnf
 refine nE ?_;conv=>whnf
 refine nE ?_;conv=>whnf
 refine nE ?_;conv=>whnf
 refine cO (fun _=>sameExpS_ok) ?_
 conv=>whnf
 refine nE ?_;conv=>whnf
 refine nE ?_;conv=>whnf
 refine nE ?_;conv=>whnf
 refine nE ?_;conv=>whnf
 refine nE ?_;conv=>whnf
 refine nE ?_;conv=>whnf
 refine nE ?_;conv=>whnf
 refine And.intro rfl ?_;conv=>whnf
 refine loop_up (cxOk _ _) 6 (fun _=>True) (fun k=>⟨[(6,.own 1),(60,.own 0),(61,.int .i64 6),(62,.int .i64 (k:Nat))],[(0,.row 70 2 encMS ⟨[],false⟩ matsS),(1,.row 9 1 encS [] (notSame (matsS.take k)))],2⟩) trivial ((wk_of [(0,.id 2),(1,.nil)] rfl ⟨af0,af0,wa0,wa0,trivial⟩ ⟨⟨_,rfl,ah0⟩,⟨_,rfl,ah0⟩,trivial⟩)) ?_
 intro k hk _
 conv=>whnf
 refine ⟨fun hc=>?_,fun hc=>?_⟩
 ·simp only [decide_eq_true_eq] at hc
  have hlt:k<6:=by omega
  have hml:matsS.length=6:=rfl
  have hstep:notSame (matsS.take (k+1))=notSame (matsS.take k)++(if (matsS.getD k ⟨[],false⟩).same=true then [] else [(matsS.getD k ⟨[],false⟩).name]):=by
   rw [notSame,take_getD (d:=⟨[],false⟩) (by omega),List.filter_append,List.map_append]
   congr 1
   generalize matsS.getD k ⟨[],false⟩=m
   cases h:m.same<;>simp [h]
  conv=>whnf
  refine iO ?_;conv=>whnf
  refine And.intro om0 (And.intro rfl ?_);conv=>whnf
  refine ⟨fun hd=>?_,fun hd=>?_⟩
  ·simp only [Int.toNat_natCast,Bool.not_eq_true'] at hd
   rw [if_neg (by rw [hd];decide)] at hstep
   have hlenN:(notSame (matsS.take k)).length≤6:=by
    rw [notSame,List.length_map]
    exact Nat.le_trans (List.length_filter_le _ _) (by simp [hml];omega)
   conv=>whnf
   refine And.intro rfl ?_;conv=>whnf
   refine And.intro ⟨rfl,rfl⟩ (And.intro (show ((notSame (matsS.take k)).length+1)*16≤140737488355328 by omega) ?_)
   conv=>whnf
   refine ⟨(matsS.getD k ⟨[],false⟩).name,by simp only [Int.toNat_natCast];rfl,?_⟩
   conv=>whnf
   refine iO ?_;conv=>whnf
   refine up hlt trivial ((wk_of [(0,.id 0),(1,.id 4)] rfl ⟨af0,af0,wa0,wa0,trivial⟩ ⟨⟨_,rfl,ah0⟩,⟨_,rfl,(by first | exact .row _ _ _ _ _ _ _ rfl hstep.symm | exact .lstrow _ _ _ _ _ _ _ rfl hstep.symm | exact .nilrow _ _ _ _ _ hstep.symm | exact .truncrow _ _ _ _ _ _ _ _ rfl om0 hstep.symm)⟩,trivial⟩))
  ·simp only [Int.toNat_natCast,Bool.not_eq_false'] at hd
   rw [if_pos hd,List.append_nil] at hstep
   conv=>whnf
   refine iO ?_;conv=>whnf
   refine up hlt trivial ((wk_of [(0,.id 0),(1,.id 1)] rfl ⟨af0,af0,wa0,wa0,trivial⟩ ⟨⟨_,rfl,ah0⟩,⟨_,rfl,(by first | exact .row _ _ _ _ _ _ _ rfl hstep.symm | exact .lstrow _ _ _ _ _ _ _ rfl hstep.symm | exact .nilrow _ _ _ _ _ hstep.symm | exact .truncrow _ _ _ _ _ _ _ _ rfl om0 hstep.symm)⟩,trivial⟩))
 ·simp only [decide_eq_false_iff_not] at hc
  have:k=6:=by omega
  subst this
  conv=>whnf
  rfl
abbrev sp:Str:=[112]
abbrev sq:Str:=[113]
abbrev sr:Str:=[114]
abbrev ss:Str:=[115]
theorem cmp1:compareL [sp,sq,sr] [sp,sr,ss]=[⟨0,0⟩,⟨1,-1⟩,⟨2,1⟩,⟨-1,2⟩]:=by
 simp [compareL,cmp_both,cmp_left,cmp_right,cmp_nil,lcs_cons,lcs_nil_l,lcs_nil_r]
theorem cmp2:compareL [sp,sq] [sq,sp]=[⟨0,-1⟩,⟨1,0⟩,⟨-1,1⟩]:=by
 simp [compareL,cmp_both,cmp_left,cmp_right,cmp_nil,lcs_cons,lcs_nil_l,lcs_nil_r]
theorem cmp3:compareL [] [sp]=[⟨-1,0⟩]:=by
 simp [compareL,cmp_right,cmp_nil]
theorem compare1:APure Tryz.prog 11 [encSs [sp,sq,sr],encSs [sp,sr,ss]] (fun rs=>rs=[.new (.row 50 2 encG g0 [⟨0,0⟩,⟨1,-1⟩,⟨2,1⟩,⟨-1,2⟩])]):=by
 have h:=compare_ok [sp,sq,sr] [sp,sr,ss] (by decide) (by decide)
 rwa [cmp1] at h
theorem compare2:APure Tryz.prog 11 [encSs [sp,sq],encSs [sq,sp]] (fun rs=>rs=[.new (.row 50 2 encG g0 [⟨0,-1⟩,⟨1,0⟩,⟨-1,1⟩])]):=by
 have h:=compare_ok [sp,sq] [sq,sp] (by decide) (by decide)
 rwa [cmp2] at h
theorem compare3:APure Tryz.prog 11 [encSs [],encSs [sp]] (fun rs=>rs=[.new (.row 50 2 encG g0 [⟨-1,0⟩])]):=by
 have h:=compare_ok [] [sp] (by decide) (by decide)
 rwa [cmp3] at h
theorem apply1:APure Tryz.prog 8 [encSs [sp,sq,sr],encSs [sp,sr,ss],encGs [⟨0,0⟩,⟨1,-1⟩,⟨2,1⟩,⟨-1,2⟩]] (fun rs=>rs=[.new (.row 9 1 encS [] [sp,sr,ss]),.val (.int .i64 0)]):=by
 have h:=apply_ok [sp,sq,sr] [sp,sr,ss] [⟨0,0⟩,⟨1,-1⟩,⟨2,1⟩,⟨-1,2⟩] (by decide) (by decide) (by decide)
 rwa [applyRs,if_pos (by decide)] at h
theorem texts_same (a:List Str) (ha:a.length≤9223372036854775807):APureV Tryz.prog 13 [encSs a,encSs a] (.bool true):=by
 have h:=texts_ok a a ha ha
 rwa [decide_eq_true rfl] at h
theorem same_same (a:List Chg) (ha:a.length≤9223372036854775807):APureV Tryz.prog 10 [encGs a,encGs a] (.bool true):=by
 have h:=sameG_ok a a ha ha
 rwa [decide_eq_true rfl] at h
theorem small34_ok:APureV Tryz.prog 5 [] (.bool true):=by
 refine aO (cxOk 66 [0,1,2,3,4,5,6,7,8,9]) Tryz.func5 ?_
 conv=>whnf
 refine cO (fun _=>compare1) ?_
 conv=>whnf
 refine cO (fun _=>apply1) ?_
 conv=>whnf
 refine cO (fun _=>compare2) ?_
 conv=>whnf
 refine cO (fun _=>compare3) ?_
 conv=>whnf
 refine cO (fun _=>same_same [⟨0,0⟩,⟨1,-1⟩,⟨2,1⟩,⟨-1,2⟩] dd0) ?_
 conv=>whnf
 refine cO (fun _=>texts_same [sp,sr,ss] dd0) ?_
 conv=>whnf
 refine cO (fun _=>same_same [⟨0,-1⟩,⟨1,0⟩,⟨-1,1⟩] dd0) ?_
 conv=>whnf
 refine nE ?_;conv=>whnf
 refine cO (fun _=>same_same [⟨-1,0⟩] dd0) ?_
 conv=>whnf
 refine nE ?_;conv=>whnf
 refine cO (fun _=>reservedS_ok) ?_
 conv=>whnf
 refine nE ?_;conv=>whnf
 refine cO (fun _=>texts_same [face,rank] dd0) ?_
 conv=>whnf
 rfl
structure InX (x:Ind):Prop where
 name:x.name.length≤9223372036854775807
 issuer:x.issuer.length≤9223372036854775807
 coupon:OkE x.coupon
 lets:x.lets.length≤9223372036854775807
 let1:∀ l∈x.lets,l.name.length≤9223372036854775807∧OkE l.body
 cov:x.cov.length≤9223372036854775807
 cov1:∀ c∈x.cov,c.name.length≤9223372036854775807∧OkE c.must∧in64 c.grace
 favour:x.favour.length≤9223372036854775807
 fav1:∀ s∈x.favour,s.length≤9223372036854775807
 calls:x.calls.length≤9223372036854775807
 call1:∀ c∈x.calls,in64 c.a∧in64 c.b
 nums:in64 x.face∧in64 x.frm∧in64 x.to∧in64 x.every∧in64 x.count∧in64 x.adjust∧in64 x.record∧in64 x.rank∧in64 x.cap∧in64 x.cross∧in64 x.notice∧in64 x.sink∧in64 x.majority∧in64 x.fast
theorem fewx_ok {x:Ind} (h:InX x):APureV Tryz.prog 7 [encX x] (.bool (fewX x)) :=
 fewterms_ok x (fun l hl=>(h.let1 l hl).2) (fun c hc=>(h.cov1 c hc).2.1) h.coupon h.name h.issuer h.lets h.cov h.favour h.calls (fun l hl=>(h.let1 l hl).1) (fun c hc=>(h.cov1 c hc).1) h.fav1
theorem few_okX {x:Ind} (h:InX x) (hf:fewX x=true):OkX x:=by
 unfold fewX few0 at hf
 simp only [Bool.and_eq_true,Bool.not_eq_true',Bool.or_eq_false_iff,decide_eq_false_iff_not] at hf
 have h1:¬ 4<(x.lets.length:Int):=hf.1.1.1.1.1.1.1.1.1
 have h2:¬ 4<(x.cov.length:Int):=hf.1.1.1.1.1.1.1.1.2
 exact ⟨h.name,h.issuer,h.coupon,by omega,h.let1,by omega,h.cov1,h.favour,h.fav1,h.calls,h.call1,h.nums⟩
theorem reservedL_len (a b:Ind):(reservedL a b).length≤6:=by
 have h:=resL_len (matsX a b) 6
 rwa [List.take_of_length_le (show (matsX a b).length≤6 from Nat.le_refl _)] at h
theorem args_0 {e:Exp} (h:(e.args.length:Int)=0):e.args=[]:=List.length_eq_zero_iff.1 (by omega)
theorem args_1 {e:Exp} (h:(e.args.length:Int)=1):∃ x,e.args=[x]:=List.length_eq_one_iff.1 (by omega)
theorem args_2 {e:Exp} (h:(e.args.length:Int)=2):∃ x y,e.args=[x,y]:=by
 match hl:e.args,(show e.args.length=2 by omega) with
 | [x,y],_=>exact ⟨x,y,rfl⟩
theorem args_3 {e:Exp} (h:(e.args.length:Int)=3):∃ x y z,e.args=[x,y,z]:=by
 match hl:e.args,(show e.args.length=3 by omega) with
 | [x,y,z],_=>exact ⟨x,y,z,rfl⟩
theorem name_len20 {s:List UInt8} (h:nameB s=true):s.length≤20:=by
 unfold nameB wordB at h
 simp only [Bool.and_eq_true,decide_eq_true_eq] at h
 exact h.1.1.2
theorem right_mk (d:Nat) (op n u:Int) (s:List UInt8) (args:List Exp):rightB (d+1) (.mk op n u s args) =
  if (args.length:Int)≠opsN op then false
  else if op=0 then decide (s=[])&&inB 0 4 [u]&&inB 0 (if u=4 then 1 else 1000000000000000) [n]
  else if op=1∨op=2∨op=3 then decide (n=0)&&decide (u=0)&&nameB s
  else if op=16∨op=17∨op=18 then decide (u=0)&&decide (s=[])&&inB 1 1000 [n]&&rightB d (args.getD 0 ex0)
  else decide (n=0)&&decide (u=0)&&decide (s=[])&&!(args.any fun x=>!rightB d x):=rfl
theorem right_wf:∀ (d:Nat) (e:Exp),rightB d e=true→WfE e∧lev e≤d
 | 0,e,h=>by cases h
 | d+1,⟨op,n,u,s,args⟩,h=>by
  rw [right_mk] at h
  by_cases hl:(args.length:Int)≠opsN op
  ·rw [if_pos hl] at h;cases h
  rw [if_neg hl] at h
  have hl:=Decidable.of_not_not hl
  unfold opsN at hl
  have lv:∀ l:List Exp,lev (.mk op n u s l)=levs l+1:=fun l=>by rw [lev]
  by_cases h0:op=0
  ·rw [if_pos h0] at h
   subst h0
   simp only [Bool.and_eq_true,decide_eq_true_eq] at h
   obtain ⟨⟨hs,hu⟩,hn⟩:=h
   have hu:=inB_one hu
   have hn:=inB_one hn
   have ha:=args_0 (e:=.mk 0 n u s args) (by simpa [Exp.args] using hl)
   have ha:args=[]:=ha
   subst ha hs
   refine ⟨?_,by rw [lv];simp [levs]⟩
   by_cases h4:u=4
   ·subst h4
    rw [if_pos rfl] at hn
    exact .boo n om0
   ·rw [if_neg h4] at hn
    exact .num n u hn.1 hn.2 om0
  rw [if_neg h0] at h
  by_cases h1:op=1∨op=2∨op=3
  ·rw [if_pos h1] at h
   simp only [Bool.and_eq_true,decide_eq_true_eq] at h
   obtain ⟨⟨hn,hu⟩,hs⟩:=h
   rw [if_pos (by omega)] at hl
   have ha:args=[]:=args_0 (e:=.mk op n u s args) hl
   subst ha hn hu
   exact ⟨.name op s h1 hs (by have:=name_len20 hs;omega),by rw [lv];simp [levs]⟩
  rw [if_neg h1] at h
  rw [if_neg (by omega)] at hl
  by_cases h2:op=16∨op=17∨op=18
  ·rw [if_pos h2] at h
   simp only [Bool.and_eq_true,decide_eq_true_eq] at h
   obtain ⟨⟨⟨hu,hs⟩,hn⟩,hx⟩:=h
   rw [if_pos (by omega)] at hl
   obtain ⟨x,ha⟩:=args_1 (e:=.mk op n u s args) hl
   have ha:args=[x]:=ha
   subst ha hu hs
   have ih:=right_wf d x hx
   refine ⟨.within op n x h2 (inB_one hn) ih.1,?_⟩
   rw [lv];simp only [levs];omega
  rw [if_neg h2] at h
  simp only [Bool.and_eq_true,decide_eq_true_eq,Bool.not_eq_true',List.any_eq_false,Bool.not_eq_true] at h
  obtain ⟨⟨⟨hn,hu⟩,hs⟩,hx⟩:=h
  subst hn hu hs
  have hx':∀ a∈args,WfE a∧lev a≤d:=fun a ha=>right_wf d a (by simpa using hx a ha)
  by_cases h12:op=12
  ·subst h12
   rw [if_pos (by omega)] at hl
   obtain ⟨x,ha⟩:=args_1 (e:=.mk 12 0 0 [] args) hl
   have ha:args=[x]:=ha
   subst ha
   have ih:=hx' x (by simp)
   refine ⟨.not x ih.1,?_⟩
   rw [lv];simp only [levs];omega
  rw [if_neg (by omega)] at hl
  by_cases h15:op=15
  ·subst h15
   rw [if_pos rfl] at hl
   obtain ⟨x,y,z,ha⟩:=args_3 (e:=.mk 15 0 0 [] args) hl
   have ha:args=[x,y,z]:=ha
   subst ha
   have i1:=hx' x (by simp)
   have i2:=hx' y (by simp)
   have i3:=hx' z (by simp)
   refine ⟨.cond x y z i1.1 i2.1 i3.1,?_⟩
   rw [lv];simp only [levs];omega
  rw [if_neg h15] at hl
  split at hl
  ·omega
  rename_i ho
  obtain ⟨x,y,ha⟩:=args_2 (e:=.mk op 0 0 [] args) hl
  have ha:args=[x,y]:=ha
  subst ha
  have i1:=hx' x (by simp)
  have i2:=hx' y (by simp)
  refine ⟨.pair op x y om0 i1.1 i2.1,?_⟩
  rw [lv];simp only [levs];omega
theorem wf_right {e:Exp} (h:WfE e):∀ d:Nat,lev e≤d→rightB d e=true:=by
 have i1:∀ a b n:Int,a≤n∧n≤b→inB a b [n]=true:=fun a b n h=>by unfold inB;simp [h.1,h.2]
 induction h with
 | num n u h0 h1 hu =>
  intro d hd
  obtain ⟨d,rfl⟩:∃ g,d=g+1:=⟨d-1,by simp only [lev] at hd;omega⟩
  rw [right_mk]
  have h4:¬ u=4:=by omega
  simp [Exp.op,Exp.n,Exp.unit,Exp.s,Exp.args,opsN,h4,i1 0 4 u (by omega),i1 0 1000000000000000 n ⟨h0,h1⟩]
 | boo n h =>
  intro d hd
  obtain ⟨d,rfl⟩:∃ g,d=g+1:=⟨d-1,by simp only [lev] at hd;omega⟩
  rw [right_mk]
  simp [Exp.op,Exp.n,Exp.unit,Exp.s,Exp.args,opsN,i1 0 4 4 (by omega),i1 0 1 n (by omega)]
 | name op s ho hn hl =>
  intro d hd
  obtain ⟨d,rfl⟩:∃ g,d=g+1:=⟨d-1,by simp only [lev] at hd;omega⟩
  rw [right_mk]
  rcases ho with rfl | rfl | rfl<;>simp [Exp.op,Exp.n,Exp.unit,Exp.s,Exp.args,opsN,hn]
 | within op n x ho hn hx ih =>
  intro d hd
  obtain ⟨d,rfl⟩:∃ g,d=g+1:=⟨d-1,by simp only [lev] at hd;omega⟩
  have hx:=ih d (by simp only [lev,levs] at hd;omega)
  rw [right_mk]
  rcases ho with rfl | rfl | rfl<;>simp [Exp.op,Exp.n,Exp.unit,Exp.s,Exp.args,argOf,opsN,hx,i1 1 1000 n hn]
 | not x hx ih =>
  intro d hd
  obtain ⟨d,rfl⟩:∃ g,d=g+1:=⟨d-1,by simp only [lev] at hd;omega⟩
  have hx:=ih d (by simp only [lev,levs] at hd;omega)
  rw [right_mk]
  simp [Exp.op,Exp.n,Exp.unit,Exp.s,Exp.args,opsN,hx]
 | pair op x y ho hx hy ihx ihy =>
  intro d hd
  obtain ⟨d,rfl⟩:∃ g,d=g+1:=⟨d-1,by simp only [lev] at hd;omega⟩
  have h1:=ihx d (by simp only [lev,levs] at hd;omega)
  have h2:=ihy d (by simp only [lev,levs] at hd;omega)
  have ho':opsN op=2:=by unfold opsN;rw [if_neg (by omega),if_neg (by omega),if_neg (by omega),if_neg (by omega)]
  rw [right_mk]
  rw [ho']
  rw [if_neg (by simp),if_neg (by omega),if_neg (by omega),if_neg (by omega)]
  simp [h1,h2]
 | cond x y z hx hy hz ihx ihy ihz =>
  intro d hd
  obtain ⟨d,rfl⟩:∃ g,d=g+1:=⟨d-1,by simp only [lev] at hd;omega⟩
  have h1:=ihx d (by simp only [lev,levs] at hd;omega)
  have h2:=ihy d (by simp only [lev,levs] at hd;omega)
  have h3:=ihz d (by simp only [lev,levs] at hd;omega)
  rw [right_mk]
  simp [Exp.op,Exp.n,Exp.unit,Exp.s,Exp.args,opsN,h1,h2,h3]
theorem rightE_iff (e:Exp):rightE e=true↔WfE e∧lev e≤12:=⟨right_wf 12 e,fun h=>wf_right h.1 12 h.2⟩
theorem uniq_iff (l:List (List UInt8)) (m:Int):uniqB l m=true↔(∀ s∈l,nameB s=true)∧l.Nodup∧(l.length:Int)≤m:=by
 unfold uniqB uqB
 simp only [Bool.and_eq_true,List.all_eq_true,List.mem_range,Bool.not_eq_true',decide_eq_false_iff_not,decide_eq_true_eq]
 have hg:∀ k,(h:k<l.length)→l.getD k []=l[k]:=fun k h=>by rw [List.getD_eq_getElem?_getD,List.getElem?_eq_getElem h];rfl
 constructor
 ·rintro ⟨h,hl⟩
  refine ⟨fun s hs=>?_,?_,hl⟩
  ·obtain ⟨k,hk,rfl⟩:=List.getElem_of_mem hs
   rw [← hg k hk]
   exact (h k hk).1
  ·rw [List.nodup_iff_pairwise_ne,List.pairwise_iff_getElem]
   intro i j hi hj hij he
   refine (h j hj).2 ?_
   rw [hg j hj,← he]
   rw [List.mem_iff_getElem]
   exact ⟨i,by rw [List.length_take];omega,by rw [List.getElem_take]⟩
 ·rintro ⟨h1,h2,hl⟩
  refine ⟨fun k hk=>⟨by rw [hg k hk];exact h1 _ (List.getElem_mem _),?_⟩,hl⟩
  rw [hg k hk,List.mem_iff_getElem]
  rintro ⟨i,hi,he⟩
  rw [List.length_take] at hi
  rw [List.getElem_take] at he
  rw [List.nodup_iff_pairwise_ne,List.pairwise_iff_getElem] at h2
  exact h2 i k om0 hk om0 he
def Uq (l:List (List UInt8)):Prop:=(∀ s∈l,nameB s=true)∧l.Nodup
set_option maxHeartbeats 4000000
structure Pc where
 kind:Int
 text:List UInt8
 n:Int
def Tok.pc (t:Tok):Pc:=⟨t.kind,t.text,t.n⟩
def endP:Pc:=⟨3,[],0⟩
def Blk (b:List UInt8):Prop:=∀ c∈b,blkB (c.toNat:Int)=true
def Sep (r:List UInt8):Prop:=r=[]∨∃ c r',r=c::r'∧blkB (c.toNat:Int)=true
structure GoodP (x:Pc):Prop where
 ne:x.text≠[]
 nb:blkB ((x.text.getD 0 0).toNat:Int)=false
 rd:∀ r,Sep r→nextR (x.text++r)=.ok ⟨x.kind,x.text,x.n,0⟩
theorem blk_let {c:Int} (h:blkB c=true):letB c=false∧digB c=false:=by
 unfold blkB at h
 unfold letB digB
 simp only [Bool.or_eq_true,decide_eq_true_eq] at h
 simp only [Bool.and_eq_false_iff,decide_eq_false_iff_not]
 omega
theorem span_app {p:Int→Bool} {s r:List UInt8} (hs:∀ c∈s,p (c.toNat:Int)=true) (hr:r=[]∨∃ c r',r=c::r'∧p (c.toNat:Int)=false):spanN p (s++r)=s.length:=by
 unfold spanN
 rw [List.takeWhile_append_of_pos hs,List.length_append]
 rcases hr with rfl | ⟨c,r',rfl,hc⟩
 ·simp
 ·rw [List.takeWhile_cons_of_neg (by rw [hc];decide)]
  simp
theorem span_each {p:Int→Bool} {s:List UInt8} (h:spanN p s=s.length):∀ c∈s,p (c.toNat:Int)=true:=by
 intro c hc
 obtain ⟨k,hk,rfl⟩:=List.getElem_of_mem hc
 have:=spanN_lt (p:=p) (s:=s) (k:=k) (by omega)
 rw [List.getD_eq_getElem?_getD,List.getElem?_eq_getElem hk] at this
 exact this
theorem head_app {s r:List UInt8} (h:s≠[]):(s++r).getD 0 0=s.getD 0 0:=by
 cases s with
 | nil=>exact (h rfl).elim
 | cons c s=>rfl
theorem let_blk {c:Int} (h:letB c=true):blkB c=false:=by
 cases hb:blkB c with
 | false=>rfl
 | true=>rw [(blk_let hb).1] at h;cases h
theorem dig_blk {c:Int} (h:digB c=true):blkB c=false:=by
 cases hb:blkB c with
 | false=>rfl
 | true=>rw [(blk_let hb).2] at h;cases h
theorem sep_not {p:Int→Bool} (hp:∀ c,blkB c=true→p c=false) {r:List UInt8} (h:Sep r):r=[]∨∃ c r',r=c::r'∧p (c.toNat:Int)=false :=
 h.imp id fun ⟨c,r',e,hc⟩=>⟨c,r',e,hp _ hc⟩
theorem good_word {s:List UInt8} (h:wordB s=true):GoodP ⟨0,s,0⟩:=by
 have h0:=h
 unfold wordB at h
 simp only [Bool.and_eq_true,decide_eq_true_eq] at h
 obtain ⟨⟨⟨hne,hl⟩,_⟩,hsp⟩:=h
 refine ⟨hne,let_blk hl,fun r hr=>?_⟩
 have hw:wordT (s++r)=s:=by
  unfold wordT
  rw [span_app (span_each hsp) (sep_not (p:=fun c=>letB c||digB c) (fun c hc=>by show (letB c||digB c)=false;rw [(blk_let hc).1,(blk_let hc).2];rfl) hr),List.take_left]
 unfold nextR
 dsimp only
 rw [head_app hne,if_pos hl,hw,if_pos h0]
theorem good_name {s:List UInt8} (h:nameB s=true):GoodP ⟨0,s,0⟩:=by
 unfold nameB at h
 simp only [Bool.and_eq_true] at h
 exact good_word h.1
theorem dig_of (d:Nat) (h:d<10):(UInt8.ofNat (48+d)).toNat=48+d:=by
 rw [UInt8.toNat_ofNat']
 omega
theorem dec_rec (u:Nat):Lib.decDigits u=if u<10 then [UInt8.ofNat (48+u)] else Lib.decDigits (u / 10)++[UInt8.ofNat (48+u % 10)]:=by
 rw [Lib.decDigits]
 split<;>rfl
theorem dec_ne (u:Nat):Lib.decDigits u≠[]:=by
 rw [dec_rec]
 split<;>simp
theorem dec_dig (u:Nat):∀ b∈Lib.decDigits u,digB (b.toNat:Int)=true:=by
 induction u using Nat.strongRecOn with
 | _ u ih =>
  intro b hb
  rw [dec_rec] at hb
  unfold digB
  simp only [Bool.and_eq_true,decide_eq_true_eq]
  split at hb
  ·rename_i h
   rw [List.mem_singleton.1 hb,dig_of u h]
   omega
  ·rename_i h
   rcases List.mem_append.1 hb with hb | hb
   ·have:=ih (u / 10) (by omega) b hb
    unfold digB at this
    simpa using this
   ·rw [List.mem_singleton.1 hb,dig_of _ (Nat.mod_lt _ (by decide))]
    omega
theorem dec_val (u:Nat):numV (Lib.decDigits u)=u:=by
 induction u using Nat.strongRecOn with
 | _ u ih =>
  rw [dec_rec]
  split
  ·rename_i h
   show (10*0+(((UInt8.ofNat (48+u)).toNat:Int)-48))=_
   rw [dig_of u h]
   omega
  ·rename_i h
   rw [numV_snoc,ih (u / 10) (by omega),dig_of _ (Nat.mod_lt _ (by decide))]
   omega
theorem dec_head (u:Nat) (h:u≠0):((Lib.decDigits u).getD 0 0).toNat≠48:=by
 induction u using Nat.strongRecOn with
 | _ u ih =>
  rw [dec_rec]
  split
  ·rename_i hu
   show (UInt8.ofNat (48+u)).toNat≠48
   rw [dig_of u hu]
   omega
  ·rename_i hu
   rw [head_app (dec_ne _)]
   exact ih (u / 10) om0 om0
theorem nDig_le:∀ (k u:Nat),1≤k→u<10 ^ k→Lib.nDigits u≤k
 | 0,_,h,_=>absurd h (by decide)
 | k+1,u,_,h=>by
  by_cases hu:u<10
  ·rw [Lib.nDigits_small hu];omega
  ·have hk:1≤k:=by
    rcases Nat.eq_zero_or_pos k with rfl | h'
    ·rw [Nat.zero_add,Nat.pow_one] at h;omega
    ·exact h'
   rw [Lib.nDigits_big hu]
   rw [Nat.pow_succ] at h
   have:=nDig_le k (u / 10) hk (by omega)
   omega
theorem numR_itoa {n:Int} (h0:0≤n) (h1:n≤1000000000000000):numR (Lib.itoa n)=some n:=by
 obtain ⟨u,rfl⟩:∃ u:Nat,n=u:=⟨n.toNat,by omega⟩
 rw [Lib.itoa_nonneg]
 have hl:(Lib.decDigits u).length≤16:=by
  rw [Lib.decDigits_length]
  exact nDig_le 16 u dd0 om0
 have hsp:spanN digB (Lib.decDigits u)=(Lib.decDigits u).length:=by
  have:=span_app (p:=digB) (s:=Lib.decDigits u) (r:=[]) (dec_dig u) (.inl rfl)
  rwa [List.append_nil] at this
 have hg:numG (Lib.decDigits u)=true:=by
  unfold numG
  simp only [Bool.and_eq_true,decide_eq_true_eq,Bool.not_eq_true',Bool.and_eq_false_iff,decide_eq_false_iff_not]
  refine ⟨⟨⟨dec_ne u,hsp⟩,?_⟩,hl⟩
  by_cases hu:u=0
  ·subst hu
   refine .inr (not_not_intro ?_)
   rw [dec_rec,if_pos (by decide)]
   rfl
  ·exact .inl (dec_head u hu)
 unfold numR
 rw [dec_val,if_pos ⟨hg,h1⟩]
theorem good_num {n:Int} (h0:0≤n) (h1:n≤1000000000000000):GoodP ⟨1,Lib.itoa n,n⟩:=by
 obtain ⟨u,rfl⟩:∃ u:Nat,n=u:=⟨n.toNat,by omega⟩
 have hr:=numR_itoa h0 h1
 rw [Lib.itoa_nonneg] at hr ⊢
 have hd:digB (((Lib.decDigits u).getD 0 0).toNat:Int)=true:=by
  cases hs:Lib.decDigits u with
  | nil=>exact (dec_ne u hs).elim
  | cons c s=>exact dec_dig u c (by rw [hs];simp)
 have hl:letB (((Lib.decDigits u).getD 0 0).toNat:Int)=false:=by
  unfold digB at hd
  unfold letB
  simp only [Bool.and_eq_true,decide_eq_true_eq] at hd
  simp only [Bool.and_eq_false_iff,decide_eq_false_iff_not]
  omega
 refine ⟨dec_ne u,dig_blk hd,fun r hsep=>?_⟩
 have hw:digT (Lib.decDigits u++r)=Lib.decDigits u:=by
  unfold digT
  rw [span_app (dec_dig u) (sep_not (p:=digB) (fun c hc=>(blk_let hc).2) hsep),List.take_left]
 unfold nextR
 dsimp only
 rw [head_app (dec_ne u),hl,if_neg (by decide),if_pos hd,hw,hr]
theorem good_sign {s:List UInt8} (h:s∈signs):GoodP ⟨2,s,0⟩:=by
 have hb:∀ c:UInt8,blkB (c.toNat:Int)=true→c=32∨c=9∨c=10:=by
  intro c hc
  unfold blkB at hc
  simp only [Bool.or_eq_true,decide_eq_true_eq] at hc
  rcases hc with (hc | hc) | hc
  ·exact .inl (UInt8.toNat_inj.1 (by have:c.toNat=32:=by omega
                                     rw [this];rfl))
  ·exact .inr (.inl (UInt8.toNat_inj.1 (by have:c.toNat=9:=by omega
                                           rw [this];rfl)))
  ·exact .inr (.inr (UInt8.toNat_inj.1 (by have:c.toNat=10:=by omega
                                           rw [this];rfl)))
 have hm:s=[61,61]∨s=[59]∨s=[44]∨s=[61]∨s=[60]∨s=[43]∨s=[45]∨s=[42]∨s=[47]∨s=[40]∨s=[41]:=by
  simpa [signs] using h
 refine ⟨?_,?_,fun r hr=>?_⟩
 ·rcases hm with rfl | rfl | rfl | rfl | rfl | rfl | rfl | rfl | rfl | rfl | rfl<;>simp
 ·rcases hm with rfl | rfl | rfl | rfl | rfl | rfl | rfl | rfl | rfl | rfl | rfl<;>decide
 ·rcases hr with rfl | ⟨c,r',rfl,hc⟩
  ·rcases hm with rfl | rfl | rfl | rfl | rfl | rfl | rfl | rfl | rfl | rfl | rfl<;>rfl
  ·rcases hb c hc with rfl | rfl | rfl<;>rcases hm with rfl | rfl | rfl | rfl | rfl | rfl | rfl | rfl | rfl | rfl | rfl<;>simp [nextR,letB,digB,hasP,signs,List.find?]
def lay:List (Pc×List UInt8)→List UInt8
 | []=>[]
 | x::l=>x.1.text++(x.2++lay l)
def LayOk:List (Pc×List UInt8)→Prop
 | []=>True
 | x::l=>GoodP x.1∧Blk x.2∧(l=[]∨x.2≠[])∧LayOk l
theorem blk_sep {b r:List UInt8} (h:Blk b) (hb:b≠[]):Sep (b++r):=by
 cases b with
 | nil=>exact (hb rfl).elim
 | cons c b=>exact .inr ⟨c,b++r,rfl,h c (by simp)⟩
theorem skip_pre {s pre r:List UInt8} {p:Nat} (hd:s.drop p=pre++r) (hb:Blk pre) (hr:r=[]∨blkB ((r.getD 0 0).toNat:Int)=false):skipN s p=p+pre.length:=by
 unfold skipN
 rw [hd,span_app hb]
 rcases hr with rfl | hr
 ·exact .inl rfl
 ·cases r with
  | nil=>exact .inl rfl
  | cons c r=>exact .inr ⟨c,r,rfl,hr⟩
theorem lex_lay {s:List UInt8}:∀ (l:List (Pc×List UInt8)) (f p:Nat) (acc:List Tok) (pre:List UInt8),Blk pre→LayOk l→s.drop p=pre++lay l→p≤s.length→s.length<p+f →
  ∃ L,lexL s f p acc=.ok (acc++L)∧L.map Tok.pc=l.map Prod.fst++[endP]
 | l,0,p,acc,pre,_,_,_,h1,h2=>by omega
 | [],f+1,p,acc,pre,hb,_,hd,h1,_=>by
  have hs:=skip_pre (r:=[]) hd hb (.inl rfl)
  have hl:s.length-p=pre.length:=by
   have:=congrArg List.length hd
   rw [List.length_drop] at this
   simpa [lay] using this
  refine ⟨[⟨3,[],0,(s.length:Nat)⟩],?_,rfl⟩
  rw [lexL,if_pos (by omega)]
 | x::l,f+1,p,acc,pre,hb,hok,hd,h1,h2=>by
  obtain ⟨hg,hbx,hx,hokl⟩:=hok
  have hne:=hg.ne
  have hnb:blkB (((lay (x::l)).getD 0 0).toNat:Int)=false:=by
   show blkB (((x.1.text++(x.2++lay l)).getD 0 0).toNat:Int)=false
   rw [head_app hne]
   exact hg.nb
  have hs:=skip_pre hd hb (.inr hnb)
  have hlen:s.length-p=pre.length+(x.1.text.length+(x.2++lay l).length):=by
   have:=congrArg List.length hd
   rw [List.length_drop,List.length_append] at this
   rw [this]
   show _+(x.1.text++(x.2++lay l)).length=_
   rw [List.length_append]
  have htl:0<x.1.text.length:=List.length_pos_iff.2 hne
  have hd1:s.drop (skipN s p)=x.1.text++(x.2++lay l):=by
   rw [hs,← List.drop_drop,hd,List.drop_left]
   rfl
  have hsep:Sep (x.2++lay l):=by
   rcases hx with rfl | hx
   ·by_cases h:x.2=[]
    ·rw [h];exact .inl rfl
    ·exact blk_sep hbx h
   ·exact blk_sep hbx hx
  have hn:=hg.rd _ hsep
  have hd2:s.drop (skipN s p+x.1.text.length)=x.2++lay l:=by
   rw [← List.drop_drop,hd1,List.drop_left]
  obtain ⟨L,hL,hm⟩:=lex_lay l f (skipN s p+x.1.text.length) (acc++[⟨x.1.kind,x.1.text,x.1.n,(skipN s p:Nat)⟩]) x.2 hbx hokl hd2 (by omega) (by omega)
  refine ⟨⟨x.1.kind,x.1.text,x.1.n,(skipN s p:Nat)⟩::L,?_,?_⟩
  ·rw [lexL,if_neg (by omega),hd1,hn]
   dsimp only
   rw [hL,List.append_assoc]
   rfl
  ·rw [List.map_cons,hm]
   rfl
theorem lexR_lay {l:List (Pc×List UInt8)} (hok:LayOk l) (hl:(lay l).length≤4000):∃ T,lexR (lay l)=.ok T∧T.map Tok.pc=l.map Prod.fst++[endP]:=by
 obtain ⟨L,h1,h2⟩:=lex_lay (s:=lay l) l ((lay l).length+1) 0 [] [] (fun c hc=>by cases hc) hok rfl (Nat.zero_le _) (by omega)
 refine ⟨L,?_,h2⟩
 unfold lexR
 rw [if_neg (by omega),h1]
 rfl
def wP (s:List UInt8):Pc:=⟨0,s,0⟩
def nP (n:Int):Pc:=⟨1,Lib.itoa n,n⟩
def sP (s:List UInt8):Pc:=⟨2,s,0⟩
def oP (o:Opr):Pc:=⟨if o.form≤2 then 0 else 2,o.text,0⟩
def numW (n unit:Int):List Pc :=
 if unit=4 then [wP (if n=1 then [116,114,117,101] else [102,97,108,115,101])]
 else if unit=1 then [nP n,wP [99,111,105,110,115]]
 else if unit=3 then [nP n,wP [100,97,121,115]]
 else if unit=2 then [nP n,wP [109,105,108,108,101]]
 else [nP n]
def parW (f least:Int) (l:List Pc):List Pc:=if f<least then [sP [40]]++l++[sP [41]] else l
def bodyW:Nat→Exp→List Pc
 | 0,_=>[]
 | d+1,e =>
  if e.op=0 then numW e.n e.unit
  else if e.op=1 then [wP e.s]
  else if e.op=2 then [wP [102,97,99,116],wP e.s]
  else if e.op=3 then [wP [114,97,116,101],wP e.s]
  else if e.op=15 then [wP [105,102]]++parW (formO (argOf e 0).op) 0 (bodyW d (argOf e 0))++[wP [116,104,101,110]]++parW (formO (argOf e 1).op) 0 (bodyW d (argOf e 1))++[wP [101,108,115,101]]++parW (formO (argOf e 2).op) 0 (bodyW d (argOf e 2))
  else if e.op=12 then [wP [110,111,116]]++parW (formO (argOf e 0).op) 3 (bodyW d (argOf e 0))
  else if e.op=8 then [wP [109,105,110],sP [40]]++parW (formO (argOf e 0).op) 0 (bodyW d (argOf e 0))++[sP [44]]++parW (formO (argOf e 1).op) 0 (bodyW d (argOf e 1))++[sP [41]]
  else if e.op=9 then [wP [109,97,120],sP [40]]++parW (formO (argOf e 0).op) 0 (bodyW d (argOf e 0))++[sP [44]]++parW (formO (argOf e 1).op) 0 (bodyW d (argOf e 1))++[sP [41]]
  else if e.op=16 then [wP [101,118,101,114],nP e.n,sP [40]]++parW (formO (argOf e 0).op) 0 (bodyW d (argOf e 0))++[sP [41]]
  else if e.op=17 then [wP [108,111,110,103],nP e.n,sP [40]]++parW (formO (argOf e 0).op) 0 (bodyW d (argOf e 0))++[sP [41]]
  else if e.op=18 then [wP [115,111,111,110],nP e.n,sP [40]]++parW (formO (argOf e 0).op) 0 (bodyW d (argOf e 0))++[sP [41]]
  else
   parW (formO (argOf e 0).op) (if (opE e.op).form=4 then 5 else (opE e.op).form) (bodyW d (argOf e 0))++[oP (opE e.op)]++parW (formO (argOf e 1).op) ((opE e.op).form+1) (bodyW d (argOf e 1))
def showW (d:Nat) (e:Exp) (least:Int):List Pc:=parW (formO e.op) least (bodyW d e)
def joinP:List Pc→List UInt8
 | []=>[]
 | x::l=>x.text++l.flatMap fun y=>32::y.text
theorem joinP_app {a b:List Pc} (ha:a≠[]) (hb:b≠[]):joinP (a++b)=joinP a++[32]++joinP b:=by
 cases a with
 | nil=>exact (ha rfl).elim
 | cons x a =>
  cases b with
  | nil=>exact (hb rfl).elim
  | cons y b =>
   show x.text++(a++y::b).flatMap _=x.text++a.flatMap _++[32]++(y.text++b.flatMap _)
   simp
theorem joinP_one (x:Pc):joinP [x]=x.text:=by simp [joinP]
theorem joinP_cons (x:Pc) {b:List Pc} (hb:b≠[]):joinP (x::b)=x.text++[32]++joinP b:=by
 have:=joinP_app (a:=[x]) (by simp) hb
 rwa [joinP_one] at this
theorem joinP_snoc (x:Pc) {a:List Pc} (ha:a≠[]):joinP (a++[x])=joinP a++[32]++x.text:=by rw [joinP_app ha (by simp),joinP_one]
theorem numW_ne (n u:Int):numW n u≠[]:=by unfold numW;repeat' split
                                          all_goals simp
theorem numW_text (n u:Int):joinP (numW n u)=numT n u:=by
 unfold numW numT
 repeat' split
 all_goals simp [joinP,wP,nP]
theorem parW_ne {f least:Int} {l:List Pc} (h:l≠[]):parW f least l≠[]:=by
 unfold parW
 split
 ·simp
 ·exact h
theorem ite_ne {c:Prop} [Decidable c] {a b:List Pc} (ha:a≠[]) (hb:b≠[]):(if c then a else b)≠[]:=by
 by_cases h:c
 ·rw [if_pos h];exact ha
 ·rw [if_neg h];exact hb
theorem bodyW_ne:∀ (d:Nat) (e:Exp),rightB d e=true→bodyW d e≠[]
 | 0,_,h=>by cases h
 | d+1,e,_=>by
  unfold bodyW
  exact ite_ne (numW_ne _ _) (ite_ne (by simp) (ite_ne (by simp) (ite_ne (by simp) (ite_ne (by simp) (ite_ne (by simp) (ite_ne (by simp) (ite_ne (by simp) (ite_ne (by simp) (ite_ne (by simp) (ite_ne (by simp) (by simp)))))))))))
theorem parW_text {f least:Int} {l:List Pc} (h:l≠[]):joinP (parW f least l)=if f<least then [40,32]++joinP l++[32,41] else joinP l:=by
 unfold parW
 split
 ·rw [joinP_snoc _ (by simp)]
  show joinP (sP [40]::l)++[32]++[41]=_
  rw [joinP_cons _ h]
  simp [sP]
 ·rfl
theorem right_args {d:Nat} {e:Exp} (h:rightB (d+1) e=true) {i:Nat} (hi:(i:Int)<opsN e.op):rightB d (argOf e i)=true:=by
 obtain ⟨op,n,u,s,args⟩:=e
 rw [right_mk] at h
 by_cases hl:(args.length:Int)≠opsN op
 ·rw [if_pos hl] at h;cases h
 rw [if_neg hl] at h
 have hl:=Decidable.of_not_not hl
 have hi:(i:Int)<opsN op:=hi
 have hil:i<args.length:=by omega
 by_cases h0:op=0
 ·subst h0
  have:opsN 0=0:=rfl
  omega
 rw [if_neg h0] at h
 by_cases h1:op=1∨op=2∨op=3
 ·have:opsN op=0:=by rcases h1 with rfl | rfl | rfl<;>rfl
  omega
 rw [if_neg h1] at h
 by_cases h2:op=16∨op=17∨op=18
 ·rw [if_pos h2] at h
  have:opsN op=1:=by rcases h2 with rfl | rfl | rfl<;>rfl
  have:i=0:=by omega
  subst this
  simp only [Bool.and_eq_true] at h
  exact h.2
 rw [if_neg h2] at h
 simp only [Bool.and_eq_true,Bool.not_eq_true',List.any_eq_false] at h
 have:=h.2 (args.getD i ex0) (by rw [List.getD_eq_getElem?_getD,List.getElem?_eq_getElem hil];exact List.getElem_mem _)
 show rightB d (args.getD i ex0)=true
 cases hb:rightB d (args.getD i ex0) with
 | true=>rfl
 | false=>rw [hb] at this;exact (this rfl).elim
theorem opsN_two {op:Int} (h:opsN op≠-1) (h0:op≠0) (h1:op≠1) (h2:op≠2) (h3:op≠3) (h4:op≠12) (h5:op≠15) (h6:op≠16) (h7:op≠17) (h8:op≠18):opsN op=2:=by
 unfold opsN at h ⊢
 rw [if_neg (by omega),if_neg (by omega),if_neg (by omega)] at h ⊢
 split
 ·rename_i hx;rw [if_pos hx] at h;exact (h rfl).elim
 ·rfl
theorem right_opsN {d:Nat} {e:Exp} (h:rightB (d+1) e=true):opsN e.op≠-1:=by
 obtain ⟨op,n,u,s,args⟩:=e
 rw [right_mk] at h
 intro ho
 have ho:opsN op=-1:=ho
 rw [if_pos (by rw [ho];omega)] at h
 cases h
theorem body_text:∀ (d:Nat) (e:Exp),rightB d e=true→joinP (bodyW d e)=bodyT d e
 | 0,_,h=>by cases h
 | d+1,e,h=>by
  have par:∀ (i:Nat) (least:Int),(i:Int)<opsN e.op→joinP (parW (formO (argOf e i).op) least (bodyW d (argOf e i)))=showT d (argOf e i) least∧parW (formO (argOf e i).op) least (bodyW d (argOf e i))≠[]:=by
   intro i least hi
   have hr:=right_args h hi
   have hne:=bodyW_ne d _ hr
   refine ⟨?_,parW_ne hne⟩
   rw [parW_text hne,body_text d _ hr,showT]
  rw [body_succ]
  unfold bodyW
  by_cases h0:e.op=0
  ·rw [if_pos h0,if_pos h0];exact numW_text _ _
  rw [if_neg h0,if_neg h0]
  by_cases h1:e.op=1
  ·rw [if_pos h1,if_pos h1,joinP_one];rfl
  rw [if_neg h1,if_neg h1]
  by_cases h2:e.op=2
  ·rw [if_pos h2,if_pos h2];simp [joinP,wP]
  rw [if_neg h2,if_neg h2]
  by_cases h3:e.op=3
  ·rw [if_pos h3,if_pos h3];simp [joinP,wP]
  rw [if_neg h3,if_neg h3]
  by_cases h15:e.op=15
  ·rw [if_pos h15,if_pos h15]
   have hn:opsN e.op=3:=by rw [h15];rfl
   obtain ⟨t0,n0⟩:=par 0 0 (by omega)
   obtain ⟨t1,n1⟩:=par 1 0 (by omega)
   obtain ⟨t2,n2⟩:=par 2 0 (by omega)
   rw [joinP_app (by simp) n2,joinP_snoc _ (by simp),joinP_app (by simp) n1,joinP_snoc _ (by simp),joinP_app (by simp) n0,t0,t1,t2,joinP_one]
   simp [wP]
  rw [if_neg h15,if_neg h15]
  by_cases h12:e.op=12
  ·rw [if_pos h12,if_pos h12]
   have hn:opsN e.op=1:=by rw [h12];rfl
   obtain ⟨t0,n0⟩:=par 0 3 (by omega)
   rw [joinP_app (by simp) n0,t0,joinP_one]
   simp [wP]
  rw [if_neg h12,if_neg h12]
  by_cases h8:e.op=8
  ·rw [if_pos h8,if_pos h8]
   have hn:opsN e.op=2:=by rw [h8];rfl
   obtain ⟨t0,n0⟩:=par 0 0 (by omega)
   obtain ⟨t1,n1⟩:=par 1 0 (by omega)
   rw [joinP_snoc _ (by simp),joinP_app (by simp) n1,joinP_snoc _ (by simp),joinP_app (by simp) n0,t0,t1]
   simp [joinP,wP,sP]
  rw [if_neg h8,if_neg h8]
  by_cases h9:e.op=9
  ·rw [if_pos h9,if_pos h9]
   have hn:opsN e.op=2:=by rw [h9];rfl
   obtain ⟨t0,n0⟩:=par 0 0 (by omega)
   obtain ⟨t1,n1⟩:=par 1 0 (by omega)
   rw [joinP_snoc _ (by simp),joinP_app (by simp) n1,joinP_snoc _ (by simp),joinP_app (by simp) n0,t0,t1]
   simp [joinP,wP,sP]
  rw [if_neg h9,if_neg h9]
  by_cases h16:e.op=16
  ·rw [if_pos h16,if_pos h16]
   have hn:opsN e.op=1:=by rw [h16];rfl
   obtain ⟨t0,n0⟩:=par 0 0 (by omega)
   rw [joinP_snoc _ (by simp),joinP_app (by simp) n0,t0]
   simp [joinP,wP,sP,nP]
  rw [if_neg h16,if_neg h16]
  by_cases h17:e.op=17
  ·rw [if_pos h17,if_pos h17]
   have hn:opsN e.op=1:=by rw [h17];rfl
   obtain ⟨t0,n0⟩:=par 0 0 (by omega)
   rw [joinP_snoc _ (by simp),joinP_app (by simp) n0,t0]
   simp [joinP,wP,sP,nP]
  rw [if_neg h17,if_neg h17]
  by_cases h18:e.op=18
  ·rw [if_pos h18,if_pos h18]
   have hn:opsN e.op=1:=by rw [h18];rfl
   obtain ⟨t0,n0⟩:=par 0 0 (by omega)
   rw [joinP_snoc _ (by simp),joinP_app (by simp) n0,t0]
   simp [joinP,wP,sP,nP]
  rw [if_neg h18,if_neg h18]
  have hn:=opsN_two (right_opsN h) h0 h1 h2 h3 h12 h15 h16 h17 h18
  obtain ⟨t0,n0⟩:=par 0 (if (opE e.op).form=4 then 5 else (opE e.op).form) (by omega)
  obtain ⟨t1,n1⟩:=par 1 ((opE e.op).form+1) (by omega)
  rw [joinP_app (by simp) n1,joinP_snoc _ n0,t0,t1]
  rfl
theorem show_text {d:Nat} {e:Exp} (h:rightB d e=true) (least:Int):joinP (showW d e least)=showT d e least∧showW d e least≠[]:=by
 have hne:=bodyW_ne d e h
 refine ⟨?_,parW_ne hne⟩
 unfold showW
 rw [parW_text hne,body_text d e h,showT]
def GoodL (l:List Pc):Prop:=∀ x∈l,GoodP x
theorem GoodL.app {a b:List Pc} (ha:GoodL a) (hb:GoodL b):GoodL (a++b):=fun x hx=>(List.mem_append.1 hx).elim (ha x) (hb x)
theorem GoodL.cons {x:Pc} {l:List Pc} (hx:GoodP x) (h:GoodL l):GoodL (x::l):=fun y hy=>(List.mem_cons.1 hy).elim (fun e=>by rw [e];exact hx) (h y)
theorem GoodL.nil:GoodL []:=fun x hx=>by cases hx
theorem good_kw {s:List UInt8} (h:s∈resW):GoodP (wP s):=good_word (by
 have:∀ s∈resW,wordB s=true:=by decide
 exact this s h)
theorem good_opr {op:Int} (h:opsN op=2) (h8:op≠8) (h9:op≠9):GoodP (oP (opE op)):=by
 have hr:op=4∨op=5∨op=6∨op=7∨op=10∨op=11∨op=13∨op=14:=by
  unfold opsN at h
  split at h
  ·omega
  split at h
  ·omega
  split at h
  ·omega
  split at h
  ·omega
  ·omega
 rcases hr with rfl | rfl | rfl | rfl | rfl | rfl | rfl | rfl
 ·exact good_sign (s:=[43]) dd0
 ·exact good_sign (s:=[45]) dd0
 ·exact good_sign (s:=[42]) dd0
 ·exact good_sign (s:=[47]) dd0
 ·exact good_sign (s:=[60]) dd0
 ·exact good_sign (s:=[61,61]) dd0
 ·exact good_word (s:=[97,110,100]) dd0
 ·exact good_word (s:=[111,114]) dd0
theorem parW_good {f least:Int} {l:List Pc} (h:GoodL l):GoodL (parW f least l):=by
 unfold parW
 split
 ·exact ((GoodL.cons (good_sign (s:=[40]) dd0) .nil).app h).app (.cons (good_sign (s:=[41]) dd0) .nil)
 ·exact h
def Reps (l:List Pc) (r r':List Tok):Prop:=∃ T1,r=T1++r'∧T1.map Tok.pc=l
theorem reps_nil {r r':List Tok} (h:Reps [] r r'):r=r':=by
 obtain ⟨T1,h1,h2⟩:=h
 rw [List.map_eq_nil_iff.1 h2] at h1
 exact h1
theorem reps_cons {x:Pc} {l:List Pc} {r r':List Tok} (h:Reps (x::l) r r'):∃ t r1,r=t::r1∧t.kind=x.kind∧t.text=x.text∧t.n=x.n∧Reps l r1 r':=by
 obtain ⟨T1,h1,h2⟩:=h
 cases T1 with
 | nil=>cases h2
 | cons t T1 =>
  rw [List.map_cons,List.cons.injEq] at h2
  obtain ⟨h3,h4⟩:=h2
  exact ⟨t,T1++r',h1,by rw [← h3];rfl,by rw [← h3];rfl,by rw [← h3];rfl,T1,rfl,h4⟩
theorem reps_app {a b:List Pc} {r r':List Tok} (h:Reps (a++b) r r'):∃ m,Reps a r m∧Reps b m r':=by
 obtain ⟨T1,h1,h2⟩:=h
 obtain ⟨A,B,rfl,hA,hB⟩:=List.map_eq_append_iff.1 h2
 exact ⟨B++r',⟨A,by rw [h1,List.append_assoc],hA⟩,⟨B,rfl,hB⟩⟩
theorem Reps.len {l:List Pc} {r r':List Tok} (h:Reps l r r'):r.length=l.length+r'.length:=by
 obtain ⟨T1,rfl,rfl⟩:=h
 simp
theorem isT_cons (w:List UInt8) (t:Tok) (r:List Tok):isT w (t::r)=(decide (t.kind≠3)&&decide (t.text=w)):=rfl
theorem want_rep {w:List UInt8} {x:Pc} {l:List Pc} {r r':List Tok} (h:Reps (x::l) r r') (hk:x.kind≠3) (hw:x.text=w):∃ r1,wantP w r=.ok r1∧Reps l r1 r':=by
 obtain ⟨t,r1,rfl,k1,k2,_,h1⟩:=reps_cons h
 refine ⟨r1,?_,h1⟩
 unfold wantP
 rw [isT_cons,k1,k2,hw,decide_eq_true hk,decide_eq_true rfl]
 rfl
theorem isT_rep {w:List UInt8} {x:Pc} {l:List Pc} {r r':List Tok} (h:Reps (x::l) r r'):isT w r=(decide (x.kind≠3)&&decide (x.text=w)):=by
 obtain ⟨t,r1,rfl,k1,k2,_,h1⟩:=reps_cons h
 rw [isT_cons,k1,k2]
theorem tail_rep {x:Pc} {l:List Pc} {r r':List Tok} (h:Reps (x::l) r r'):Reps l r.tail r':=by
 obtain ⟨t,r1,rfl,_,_,_,h1⟩:=reps_cons h
 exact h1
theorem num_rep {a b n:Int} {l:List Pc} {r r':List Tok} (h:Reps (nP n::l) r r') (hn:a≤n∧n≤b):∃ r1,numP a b r=.ok (n,r1)∧Reps l r1 r':=by
 obtain ⟨t,r1,rfl,k1,k2,k3,h1⟩:=reps_cons h
 have k1:t.kind=1:=k1
 have k3:t.n=n:=k3
 refine ⟨r1,?_,h1⟩
 unfold numP
 show (if t.kind≠1 then _ else _)=_
 rw [if_neg (by rw [k1];simp)]
 show (if a≤t.n∧t.n≤b then (Except.ok (t.n,r1):Ps Int) else _)=_
 rw [k3,if_pos hn]
theorem name_rep {s:List UInt8} {l:List Pc} {r r':List Tok} (h:Reps (wP s::l) r r') (hn:nameB s=true):∃ r1,nameP r=.ok (s,r1)∧Reps l r1 r':=by
 obtain ⟨t,r1,rfl,k1,k2,k3,h1⟩:=reps_cons h
 have k1:t.kind=0:=k1
 have k2:t.text=s:=k2
 refine ⟨r1,?_,h1⟩
 unfold nameP namedB
 show (if (decide (t.kind=0)&&nameB t.text)=true then (Except.ok (t.text,r1):Ps (List UInt8)) else _)=_
 rw [k1,k2,hn]
 rfl
def Stop (form:Int) (r:List Tok):Prop:=opI r<0∨(opAt (opI r)).form<form
def NoUnit (r:List Tok):Prop:=isT [99,111,105,110,115] r=false∧isT [100,97,121,115] r=false∧isT [109,105,108,108,101] r=false
theorem Stop.le {a b:Int} {r:List Tok} (h:Stop a r) (hab:a≤b):Stop b r:=h.imp id fun h=>by omega
theorem loop_stop {ex:Rec} {form:Int} {r:List Tok} (h:Stop form r) (f:Nat) (e:Exp) (own:Int):loopP ex form f e own r=.ok (e,r):=by
 cases f with
 | zero=>rfl
 | succ f =>
  by_cases h0:opI r<0
  ·exact loopP_none h0
  ·exact loopP_stop h0 (.inl (h.resolve_left h0))
theorem opI_text {r:List Tok} (h:∀ o∈oprL,isT o.text r=false):opI r<0:=by
 have:opI r=-1:=idxP_none (d:=o0) fun j hj=>h _ (by
  rw [List.getD_eq_getElem?_getD,List.getElem?_eq_getElem hj]
  exact List.getElem_mem _)
 omega
theorem stop_rep {x:Pc} {l:List Pc} {r r':List Tok} (h:Reps (x::l) r r') (hx:∀ o∈oprL,x.text≠o.text) (form:Int):Stop form r :=
 .inl (opI_text fun o ho=>by rw [isT_rep h,decide_eq_false (hx o ho),Bool.and_false])
theorem nounit_rep {x:Pc} {l:List Pc} {r r':List Tok} (h:Reps (x::l) r r') (hx:x.text≠[99,111,105,110,115]∧x.text≠[100,97,121,115]∧x.text≠[109,105,108,108,101]):NoUnit r :=
 ⟨by rw [isT_rep h,decide_eq_false hx.1,Bool.and_false],by rw [isT_rep h,decide_eq_false hx.2.1,Bool.and_false],by rw [isT_rep h,decide_eq_false hx.2.2,Bool.and_false]⟩
theorem exp_prim {ex:Rec} {form:Int} {r r':List Tok} {x:Exp} (h1:isT [105,102] r=false) (h2:isT [110,111,116] r=false) (h:primP ex r=.ok (x,r')):expS ex form r=loopP ex form r'.length x 7 r':=by
 unfold expS prefP
 rw [if_neg (fun y=>by rw [h1] at y;exact Bool.noConfusion y.2),if_neg (fun y=>by rw [h2] at y;exact Bool.noConfusion y.2),h]
theorem prim_text {ex:Rec} {x:Pc} {l:List Pc} {r r':List Tok} (h:Reps (x::l) r r') (hk:x.kind≠3) (hk1:x.kind≠1):primP ex r =
  if x.text=[116,114,117,101] then .ok (.mk 0 1 4 [] [],r.tail)
  else if x.text=[102,97,108,115,101] then .ok (.mk 0 0 4 [] [],r.tail)
  else if x.text=[102,97,99,116] then namedP 2 r.tail
  else if x.text=[114,97,116,101] then namedP 3 r.tail
  else if x.text=[101,118,101,114] then withinP ex 16 r.tail
  else if x.text=[108,111,110,103] then withinP ex 17 r.tail
  else if x.text=[115,111,111,110] then withinP ex 18 r.tail
  else if x.text=[109,105,110]∨x.text=[109,97,120] then pairP ex (if x.text=[109,97,120] then 9 else 8) r.tail
  else if x.text=[40] then parenP ex r.tail
  else namedP 1 r:=by
 have hi:∀ w,isT w r=decide (x.text=w):=fun w=>by rw [isT_rep h,decide_eq_true hk,Bool.true_and]
 obtain ⟨t,r1,rfl,k1,_,_,_⟩:=reps_cons h
 unfold primP
 have hx:¬ (hdT (t::r1)).kind=1:=by show ¬ t.kind=1;rw [k1];exact hk1
 rw [if_neg hx]
 simp only [hi,decide_eq_true_eq]
theorem name_nres {s:List UInt8} (h:nameB s=true):∀ w∈resW,s≠w:=by
 intro w hw he
 unfold nameB at h
 simp only [Bool.and_eq_true,Bool.not_eq_true',decide_eq_false_iff_not] at h
 rw [he] at h
 exact h.2 hw
theorem word_first {s:List UInt8} (h:nameB s=true) (c:UInt8) (hc:letB (c.toNat:Int)=false):s≠[c]:=by
 intro he
 subst he
 unfold nameB wordB at h
 simp only [Bool.and_eq_true] at h
 have:letB (c.toNat:Int)=true:=h.1.1.1.2
 rw [hc] at this
 cases this
theorem dec_word {n:Int} (h0:0≤n) {w:List UInt8} (hw:letB ((w.getD 0 0).toNat:Int)=true):Lib.itoa n≠w:=by
 intro he
 obtain ⟨u,rfl⟩:∃ u:Nat,n=u:=⟨n.toNat,by omega⟩
 rw [Lib.itoa_nonneg] at he
 cases hs:Lib.decDigits u with
 | nil=>exact dec_ne u hs
 | cons c s =>
  have hd:=dec_dig u c (by rw [hs];simp)
  rw [← he,hs] at hw
  have hw:letB (c.toNat:Int)=true:=hw
  unfold digB at hd
  unfold letB at hw
  simp only [Bool.and_eq_true,decide_eq_true_eq] at hd hw
  omega
theorem prim_num_rep {ex:Rec} {u:Int} (hu:0≤u∧u≤3) {n:Int} {r r':List Tok} (h:Reps (numW n u) r r') (hno:NoUnit r'):primP ex r=.ok (.mk 0 n u [] [],r'):=by
 have key:∀ l,Reps (nP n::l) r r'→unitP r.tail=(u,r')→primP ex r=.ok (.mk 0 n u [] [],r'):=by
  intro l hl hun
  obtain ⟨t,r1,rfl,k1,k2,k3,h1⟩:=reps_cons hl
  have k1:t.kind=1:=k1
  have k3:t.n=n:=k3
  unfold primP
  show (if t.kind=1 then (Except.ok (Exp.mk 0 t.n (unitP r1).1 [] [],(unitP r1).2):Ps Exp) else _)=_
  have hun:unitP r1=(u,r'):=hun
  rw [if_pos k1,hun,k3]
 unfold numW at h
 rw [if_neg (by omega)] at h
 by_cases h1:u=1
 ·rw [if_pos h1] at h
  refine key _ h ?_
  obtain ⟨t,r1,rfl,_,_,_,h2⟩:=reps_cons h
  have:=isT_rep (w:=[99,111,105,110,115]) h2
  show unitP r1=_
  unfold unitP
  rw [this,h1,if_pos (by decide),reps_nil (tail_rep h2)]
 rw [if_neg h1] at h
 by_cases h3:u=3
 ·rw [if_pos h3] at h
  refine key _ h ?_
  obtain ⟨t,r1,rfl,_,_,_,h2⟩:=reps_cons h
  have a:=isT_rep (w:=[99,111,105,110,115]) h2
  have b:=isT_rep (w:=[100,97,121,115]) h2
  show unitP r1=_
  unfold unitP
  rw [a,b,h3,if_neg (by decide),if_pos (by decide),reps_nil (tail_rep h2)]
 rw [if_neg h3] at h
 by_cases h2':u=2
 ·rw [if_pos h2'] at h
  refine key _ h ?_
  obtain ⟨t,r1,rfl,_,_,_,h2⟩:=reps_cons h
  have a:=isT_rep (w:=[99,111,105,110,115]) h2
  have b:=isT_rep (w:=[100,97,121,115]) h2
  have c:=isT_rep (w:=[109,105,108,108,101]) h2
  show unitP r1=_
  unfold unitP
  rw [a,b,c,h2',if_neg (by decide),if_neg (by decide),if_pos (by decide),reps_nil (tail_rep h2)]
 rw [if_neg h2'] at h
 refine key _ h ?_
 have h0:u=0:=by omega
 rw [reps_nil (tail_rep h),h0]
 unfold unitP
 rw [hno.1,hno.2.1,hno.2.2]
 rfl
theorem numW_cons (n:Int) {u:Int} (hu:u≤3):∃ l,numW n u=nP n::l:=by
 unfold numW
 rw [if_neg (by omega)]
 split
 ·exact ⟨_,rfl⟩
 split
 ·exact ⟨_,rfl⟩
 split
 ·exact ⟨_,rfl⟩
 ·exact ⟨_,rfl⟩
theorem fin_cons {t:Tok} {r:List Tok} (hk:t.kind≠3) (h:Fin1 r):Fin1 (t::r):=by
 cases r with
 | nil=>exact h.elim
 | cons u r=>exact ⟨hk,h⟩
theorem fin_rep {x:Pc} {r r':List Tok} (h:Reps [x] r r') (hk:x.kind≠3) (hf:Fin1 r'):Fin1 r:=by
 obtain ⟨t,r1,rfl,k1,_,_,h1⟩:=reps_cons h
 rw [← reps_nil h1] at hf
 exact fin_cons (by rw [k1];exact hk) hf
theorem fin_reps:∀ {l:List Pc} {r r':List Tok},Reps l r r'→(∀ x∈l,x.kind≠3)→Fin1 r'→Fin1 r
 | [],r,r',h,_,hf=>by rw [reps_nil h];exact hf
 | x::l,r,r',h,hk,hf=>by
  obtain ⟨t,r1,rfl,k1,_,_,h1⟩:=reps_cons h
  exact fin_cons (by rw [k1];exact hk x (by simp)) (fin_reps h1 (fun y hy=>hk y (by simp [hy])) hf)
theorem stop_0 {r:List Tok} (h:Stop 1 r):Stop 0 r:=by
 rcases h with h | h
 ·exact .inl h
 ·by_cases h0:opI r<0
  ·exact .inl h0
  ·have:=form_bnd (opI_ok h0).1
   have hoa:opAt (opI r)=oprL.getD (opI r).toNat o0:=rfl
   rw [hoa] at h
   omega
theorem stop_3 {r:List Tok} (h:Stop 4 r):Stop 3 r:=by
 rcases h with h | h
 ·exact .inl h
 ·by_cases h0:opI r<0
  ·exact .inl h0
  ·have hi:=(opI_ok h0).1
   have:∀ i,i<8→(oprL.getD i o0).form<4→(oprL.getD i o0).form<3:=by decide
   exact .inr (this _ hi h)
def UE (e:Exp):Prop:=∀ (d n:Nat) (form:Int) (r r':List Tok),lev e≤d→Reps (bodyW d e) r r'→r.length≤n+1→0≤form→form≤formO e.op→Stop (formO e.op+1) r'→NoUnit r'→Fin1 r' →
 expS (expP n) form r=loopP (expP n) form r'.length e (formO e.op) r'
theorem show_U {e:Exp} (hU:UE e) {d n:Nat} {form least:Int} {r r':List Tok} (hd:lev e≤d) (h:Reps (showW d e least) r r') (hl:r.length≤n+1) (h0:0≤form) (h1:form≤least)
  (hs:Stop ((if formO e.op<least then 7 else formO e.op)+1) r') (hno:NoUnit r') (hf:Fin1 r'):expS (expP n) form r=loopP (expP n) form r'.length e (if formO e.op<least then 7 else formO e.op) r':=by
 unfold showW parW at h
 by_cases hp:formO e.op<least
 ·rw [if_pos hp] at h ⊢
  have h:Reps (sP [40]::(bodyW d e++[sP [41]])) r r':=h
  have hlen:=h.len
  obtain ⟨m2,hb,hz⟩:=reps_app (tail_rep h)
  have hfr:=hb.len
  have hzl:=hz.len
  have ht:r.tail.length+1=r.length:=by
   obtain ⟨t,r1,rfl,_,_,_,_⟩:=reps_cons h
   rfl
  have hpos:=List.length_pos_iff.2 hf.ne
  simp only [List.length_cons,List.length_nil] at hzl
  obtain ⟨n',rfl⟩:∃ k,n=k+1:=⟨n-1,by omega⟩
  refine exp_prim (by rw [isT_rep h];decide) (by rw [isT_rep h];decide) ?_
  rw [prim_text h (by decide) (by decide)]
  have hin:expP (n'+1) 0 r.tail=.ok (e,m2):=by
   show expS (expP n') 0 r.tail=_
   have hfm:=fin_rep hz (by decide) hf
   have hf0:0≤formO e.op:=by
    unfold formO
    repeat' split
    all_goals first | omega | skip
    rename_i hx
    have:=form_bnd (i:=(oprI e.op).toNat) (by
     have h2:=idxP_lt (fun o:Opr=>decide (o.op=e.op)) o0 oprL
     rcases h2 with h2 | h2
     ·exact (hx h2).elim
     ·exact h2.1)
    omega
   rw [hU d n' 0 r.tail m2 hd hb (by omega) (by omega) hf0 (stop_rep hz (by decide) _) (nounit_rep hz (by decide)) hfm]
   exact loop_stop (stop_rep hz dd0 _) _ _ _
  obtain ⟨r1,hw,h9⟩:=want_rep hz (by decide) (w:=[41]) rfl
  have:parenP (expP (n'+1)) r.tail=.ok (e,r'):=by
   unfold parenP
   rw [hin]
   dsimp only
   rw [hw,reps_nil h9]
  rw [← this]
  rfl
 ·rw [if_neg hp] at h hs ⊢
  exact hU d n form r r' hd h hl h0 om0 hs hno hf
theorem read_U {e:Exp} (hU:UE e) {d n:Nat} {form least:Int} {r r':List Tok} (hd:lev e≤d) (h:Reps (showW d e least) r r') (hl:r.length≤n) (h0:0≤form) (h1:form≤least) (h7:least≤7)
  (hs:Stop form r') (hno:NoUnit r') (hf:Fin1 r'):expP n form r=.ok (e,r'):=by
 have hlen:=h.len
 have hpos:=List.length_pos_iff.2 hf.ne
 obtain ⟨n',rfl⟩:∃ k,n=k+1:=⟨n-1,by omega⟩
 show expS (expP n') form r=_
 rw [show_U hU hd h hl h0 h1 (hs.le (by split<;>omega)) hno hf]
 exact loop_stop hs _ _ _
def NK (l:List Pc):Prop:=∀ z∈l,z.kind≠3
theorem NK.app {a b:List Pc} (ha:NK a) (hb:NK b):NK (a++b):=fun x hx=>(List.mem_append.1 hx).elim (ha x) (hb x)
theorem NK.cons {x:Pc} {l:List Pc} (hx:x.kind≠3) (h:NK l):NK (x::l):=fun y hy=>(List.mem_cons.1 hy).elim (fun e=>by rw [e];exact hx) (h y)
theorem NK.nil:NK []:=fun x hx=>by cases hx
theorem nk_ite {c:Prop} [Decidable c] {a b:List Pc} (ha:NK a) (hb:NK b):NK (if c then a else b):=by
 by_cases h:c
 ·rw [if_pos h];exact ha
 ·rw [if_neg h];exact hb
theorem nk_w (s:List UInt8):(wP s).kind≠3:=by show (0:Int)≠3;decide
theorem nk_n (n:Int):(nP n).kind≠3:=by show (1:Int)≠3;decide
theorem nk_s (s:List UInt8):(sP s).kind≠3:=by show (2:Int)≠3;decide
theorem nk_o (o:Opr):(oP o).kind≠3:=by show (if o.form≤2 then (0:Int) else 2)≠3;split<;>decide
theorem par_nk {f least:Int} {l:List Pc} (h:NK l):NK (parW f least l):=nk_ite ((NK.cons (nk_s _) h).app (.cons (nk_s _) .nil)) h
theorem num_nk (n u:Int):NK (numW n u):=nk_ite (.cons (nk_w _) .nil) (nk_ite (.cons (nk_n _) (.cons (nk_w _) .nil)) (nk_ite (.cons (nk_n _) (.cons (nk_w _) .nil)) (nk_ite (.cons (nk_n _) (.cons (nk_w _) .nil)) (.cons (nk_n _) .nil))))
theorem body_nk:∀ (d:Nat) (e:Exp),NK (bodyW d e)
 | 0,_=>.nil
 | d+1,e=>by
  have p:∀ (i:Nat) (least:Int),NK (parW (formO (argOf e i).op) least (bodyW d (argOf e i))):=fun i least=>par_nk (body_nk d _)
  unfold bodyW
  refine nk_ite (num_nk _ _) (nk_ite (.cons (nk_w _) .nil) (nk_ite (.cons (nk_w _) (.cons (nk_w _) .nil)) (nk_ite (.cons (nk_w _) (.cons (nk_w _) .nil)) (nk_ite ?_ (nk_ite ?_ (nk_ite ?_ (nk_ite ?_ (nk_ite ?_ (nk_ite ?_ (nk_ite ?_ ?_))))))))))
  ·exact (((((NK.cons (nk_w _) .nil).app (p 0 0)).app (.cons (nk_w _) .nil)).app (p 1 0)).app (.cons (nk_w _) .nil)).app (p 2 0)
  ·exact (NK.cons (nk_w _) .nil).app (p 0 3)
  ·exact ((((NK.cons (nk_w _) (.cons (nk_s _) .nil)).app (p 0 0)).app (.cons (nk_s _) .nil)).app (p 1 0)).app (.cons (nk_s _) .nil)
  ·exact ((((NK.cons (nk_w _) (.cons (nk_s _) .nil)).app (p 0 0)).app (.cons (nk_s _) .nil)).app (p 1 0)).app (.cons (nk_s _) .nil)
  ·exact ((NK.cons (nk_w _) (.cons (nk_n _) (.cons (nk_s _) .nil))).app (p 0 0)).app (.cons (nk_s _) .nil)
  ·exact ((NK.cons (nk_w _) (.cons (nk_n _) (.cons (nk_s _) .nil))).app (p 0 0)).app (.cons (nk_s _) .nil)
  ·exact ((NK.cons (nk_w _) (.cons (nk_n _) (.cons (nk_s _) .nil))).app (p 0 0)).app (.cons (nk_s _) .nil)
  ·exact ((p 0 _).app (.cons (nk_o _) .nil)).app (p 1 _)
theorem show_nk (d:Nat) (e:Exp) (least:Int):NK (showW d e least):=par_nk (body_nk d e)
theorem levD {op n u:Int} {s:List UInt8} {args:List Exp} {d:Nat} (h:lev (.mk op n u s args)≤d):∃ k,d=k+1∧levs args≤k:=by
 rw [lev] at h
 exact ⟨d-1,by omega,by omega⟩
theorem pref_word {x:Pc} {l:List Pc} {r r':List Tok} (h:Reps (x::l) r r') (hx:x.text≠[105,102]∧x.text≠[110,111,116]):isT [105,102] r=false∧isT [110,111,116] r=false :=
 ⟨by rw [isT_rep h,decide_eq_false hx.1,Bool.and_false],by rw [isT_rep h,decide_eq_false hx.2,Bool.and_false]⟩
theorem ue_num {n u:Int} (h0:0≤n) (hu:0≤u∧u≤3):UE (.mk 0 n u [] []):=by
 intro d m form r r' hd h hl hf0 hf1 hs hno hf
 obtain ⟨k,rfl,_⟩:=levD hd
 have h:Reps (numW n u) r r':=h
 obtain ⟨l,hc⟩:=numW_cons n hu.2
 have h2:=h
 rw [hc] at h2
 obtain ⟨p1,p2⟩:=pref_word h2 ⟨dec_word h0 (by decide),dec_word h0 (by decide)⟩
 exact exp_prim p1 p2 (prim_num_rep hu h hno)
theorem ue_boo {n:Int} (hn:n=0∨n=1):UE (.mk 0 n 4 [] []):=by
 intro d m form r r' hd h hl hf0 hf1 hs hno hf
 obtain ⟨k,rfl,_⟩:=levD hd
 rcases hn with rfl | rfl
 ·have h:Reps [wP [102,97,108,115,101]] r r':=h
  obtain ⟨p1,p2⟩:=pref_word h (by decide)
  refine exp_prim p1 p2 ?_
  rw [prim_text h (by decide) (by decide),reps_nil (tail_rep h)]
  rfl
 ·have h:Reps [wP [116,114,117,101]] r r':=h
  obtain ⟨p1,p2⟩:=pref_word h (by decide)
  refine exp_prim p1 p2 ?_
  rw [prim_text h (by decide) (by decide),reps_nil (tail_rep h)]
  rfl
theorem named_rep {op:Int} {s:List UInt8} {r r':List Tok} (h:Reps [wP s] r r') (hn:nameB s=true):namedP op r=.ok (.mk op 0 0 s [],r'):=by
 obtain ⟨r1,h1,h2⟩:=name_rep h hn
 unfold namedP
 rw [h1,reps_nil h2]
theorem ue_name {op:Int} {s:List UInt8} (ho:op=1∨op=2∨op=3) (hn:nameB s=true):UE (.mk op 0 0 s []):=by
 intro d m form r r' hd h hl hf0 hf1 hs hno hf
 obtain ⟨k,rfl,_⟩:=levD hd
 have nr:=name_nres hn
 rcases ho with rfl | rfl | rfl
 ·have h:Reps [wP s] r r':=h
  obtain ⟨p1,p2⟩:=pref_word h ⟨nr _ (by decide),nr _ (by decide)⟩
  refine exp_prim p1 p2 ?_
  rw [prim_text h (by show (0:Int)≠3;decide) (by show (0:Int)≠1;decide)]
  have nr:∀ w∈resW,(wP s).text≠w:=nr
  rw [if_neg (nr [116,114,117,101] (by decide)),if_neg (nr [102,97,108,115,101] (by decide)),if_neg (nr [102,97,99,116] (by decide)),if_neg (nr [114,97,116,101] (by decide)),if_neg (nr [101,118,101,114] (by decide)),if_neg (nr [108,111,110,103] (by decide)),if_neg (nr [115,111,111,110] (by decide)),
   if_neg (show ¬ ((wP s).text=[109,105,110]∨(wP s).text=[109,97,120]) from fun x=>x.elim (nr _ (by decide)) (nr _ (by decide))),if_neg (show ¬ (wP s).text=[40] from word_first hn 40 (by decide))]
  exact named_rep h hn
 ·have h:Reps [wP [102,97,99,116],wP s] r r':=h
  obtain ⟨p1,p2⟩:=pref_word h (by decide)
  refine exp_prim p1 p2 ?_
  rw [prim_text h (by decide) (by decide)]
  exact named_rep (tail_rep h) hn
 ·have h:Reps [wP [114,97,116,101],wP s] r r':=h
  obtain ⟨p1,p2⟩:=pref_word h (by decide)
  refine exp_prim p1 p2 ?_
  rw [prim_text h (by decide) (by decide)]
  exact named_rep (tail_rep h) hn
theorem rep_tl {x:Pc} {l:List Pc} {r r':List Tok} (h:Reps (x::l) r r'):r.tail.length+1=r.length:=by
 obtain ⟨t,r1,rfl,_,_,_,_⟩:=reps_cons h
 rfl
theorem within_rep {x:Exp} (hU:UE x) {k n:Nat} {op a:Int} (ha:1≤a∧a≤1000) {r r':List Tok} (hd:lev x≤k) (h:Reps ([nP a,sP [40]]++showW k x 0++[sP [41]]) r r') (hl:r.length≤n) (hf:Fin1 r') :
  withinP (expP n) op r=.ok (.mk op a 0 [] [x],r'):=by
 have h:Reps (nP a::sP [40]::(showW k x 0++[sP [41]])) r r':=h
 have l0:=h.len
 obtain ⟨r1,e1,h1⟩:=num_rep h ha
 have l1:=h1.len
 obtain ⟨r2,e2,h2⟩:=want_rep h1 (by decide) (w:=[40]) rfl
 obtain ⟨m,hb,hz⟩:=reps_app h2
 have l2:=h2.len
 simp only [List.length_cons] at l0 l1 l2
 have e3:=read_U hU (form:=0) hd hb (n:=n) (by omega) (by omega) (by omega) (by omega) (stop_rep hz (by decide) 0) (nounit_rep hz (by decide)) (fin_rep hz (by decide) hf)
 obtain ⟨r4,e4,h4⟩:=want_rep hz (by decide) (w:=[41]) rfl
 unfold withinP
 rw [e1]
 dsimp only
 rw [e2]
 dsimp only
 rw [e3]
 dsimp only
 rw [e4,reps_nil h4]
theorem ue_within {op a:Int} {x:Exp} (ho:op=16∨op=17∨op=18) (ha:1≤a∧a≤1000) (hU:UE x):UE (.mk op a 0 [] [x]):=by
 intro d n form r r' hd h hl hf0 hf1 hs hno hf
 obtain ⟨k,rfl,hk⟩:=levD hd
 have hx:lev x≤k:=by simp only [levs] at hk;omega
 rcases ho with rfl | rfl | rfl
 ·have h:Reps (wP [101,118,101,114]::([nP a,sP [40]]++showW k x 0++[sP [41]])) r r':=h
  have:=rep_tl h
  obtain ⟨p1,p2⟩:=pref_word h (by decide)
  refine exp_prim p1 p2 ?_
  rw [prim_text h (by decide) (by decide)]
  exact within_rep hU ha hx (tail_rep h) om0 hf
 ·have h:Reps (wP [108,111,110,103]::([nP a,sP [40]]++showW k x 0++[sP [41]])) r r':=h
  have:=rep_tl h
  obtain ⟨p1,p2⟩:=pref_word h (by decide)
  refine exp_prim p1 p2 ?_
  rw [prim_text h (by decide) (by decide)]
  exact within_rep hU ha hx (tail_rep h) om0 hf
 ·have h:Reps (wP [115,111,111,110]::([nP a,sP [40]]++showW k x 0++[sP [41]])) r r':=h
  have:=rep_tl h
  obtain ⟨p1,p2⟩:=pref_word h (by decide)
  refine exp_prim p1 p2 ?_
  rw [prim_text h (by decide) (by decide)]
  exact within_rep hU ha hx (tail_rep h) om0 hf
theorem ue_not {x:Exp} (hU:UE x):UE (.mk 12 0 0 [] [x]):=by
 intro d n form r r' hd h hl hf0 hf1 hs hno hf
 obtain ⟨k,rfl,hk⟩:=levD hd
 have hx:lev x≤k:=by simp only [levs] at hk;omega
 have h:Reps (wP [110,111,116]::showW k x 3) r r':=h
 have hlt:=rep_tl h
 have hfo:formO (Exp.mk 12 0 0 [] [x]).op=3:=rfl
 rw [hfo] at hf1 hs ⊢
 have e1:=read_U hU (form:=3) hx (tail_rep h) (n:=n) (by omega) (by omega) (by omega) (by omega) (stop_3 hs) hno hf
 unfold expS prefP
 rw [if_neg (fun y=>by rw [isT_rep h] at y;exact absurd y.2 (by decide)),if_pos ⟨hf1,by rw [isT_rep h];decide⟩]
 unfold notP
 rw [e1]
theorem pair_rep {x y:Exp} (hx:UE x) (hy:UE y) {k n:Nat} {op:Int} {r r':List Tok} (dx:lev x≤k) (dy:lev y≤k) (h:Reps (sP [40]::(showW k x 0++sP [44]::(showW k y 0++[sP [41]]))) r r') (hl:r.length≤n) (hf:Fin1 r') :
  pairP (expP n) op r=.ok (.mk op 0 0 [] [x,y],r'):=by
 have l0:=h.len
 obtain ⟨r1,e1,h1⟩:=want_rep h (by decide) (w:=[40]) rfl
 obtain ⟨m,hb,hz⟩:=reps_app h1
 have l1:=h1.len
 have lz:=hz.len
 obtain ⟨r3,e3,h3⟩:=want_rep hz (by decide) (w:=[44]) rfl
 obtain ⟨m2,hb2,hz2⟩:=reps_app h3
 have l3:=h3.len
 simp only [List.length_cons,List.length_append,List.length_nil] at l0 l1 lz l3
 have f2:=fin_rep hz2 (by decide) hf
 have kd:∀ z∈showW k y 0,z.kind≠3:=show_nk k y 0
 have f1:Fin1 m:=by
  obtain ⟨t,q,rfl,k1,_,_,h5⟩:=reps_cons hz
  obtain ⟨m3,g1,g2⟩:=reps_app h5
  have:=fin_reps g1 kd (fin_rep g2 (by decide) hf)
  exact fin_cons (by rw [k1];decide) this
 have e2:=read_U hx (form:=0) dx hb (n:=n) (by omega) (by omega) (by omega) (by omega) (stop_rep hz (by decide) 0) (nounit_rep hz (by decide)) f1
 have e4:=read_U hy (form:=0) dy hb2 (n:=n) (by omega) (by omega) (by omega) (by omega) (stop_rep hz2 (by decide) 0) (nounit_rep hz2 (by decide)) f2
 obtain ⟨r5,e5,h5⟩:=want_rep hz2 (by decide) (w:=[41]) rfl
 unfold pairP
 rw [e1]
 dsimp only
 rw [e2]
 dsimp only
 rw [e3]
 dsimp only
 rw [e4]
 dsimp only
 rw [e5,reps_nil h5]
theorem ue_min {x y:Exp} (hx:UE x) (hy:UE y) {op:Int} (ho:op=8∨op=9):UE (.mk op 0 0 [] [x,y]):=by
 intro d n form r r' hd h hl hf0 hf1 hs hno hf
 obtain ⟨k,rfl,hk⟩:=levD hd
 have dx:lev x≤k:=by simp only [levs] at hk;omega
 have dy:lev y≤k:=by simp only [levs] at hk;omega
 rcases ho with rfl | rfl
 ·have h:Reps ([wP [109,105,110],sP [40]]++showW k x 0++[sP [44]]++showW k y 0++[sP [41]]) r r':=h
  have h:Reps (wP [109,105,110]::sP [40]::(showW k x 0++sP [44]::(showW k y 0++[sP [41]]))) r r':=by
   simpa using h
  have:=rep_tl h
  obtain ⟨p1,p2⟩:=pref_word h (by decide)
  refine exp_prim p1 p2 ?_
  rw [prim_text h (by decide) (by decide)]
  exact pair_rep hx hy dx dy (tail_rep h) om0 hf
 ·have h:Reps ([wP [109,97,120],sP [40]]++showW k x 0++[sP [44]]++showW k y 0++[sP [41]]) r r':=h
  have h:Reps (wP [109,97,120]::sP [40]::(showW k x 0++sP [44]::(showW k y 0++[sP [41]]))) r r':=by
   simpa using h
  have:=rep_tl h
  obtain ⟨p1,p2⟩:=pref_word h (by decide)
  refine exp_prim p1 p2 ?_
  rw [prim_text h (by decide) (by decide)]
  exact pair_rep hx hy dx dy (tail_rep h) om0 hf
theorem ue_cond {x y z:Exp} (hx:UE x) (hy:UE y) (hz:UE z):UE (.mk 15 0 0 [] [x,y,z]):=by
 intro d n form r r' hd h hl hf0 hf1 hs hno hf
 obtain ⟨k,rfl,hk⟩:=levD hd
 have dx:lev x≤k:=by simp only [levs] at hk;omega
 have dy:lev y≤k:=by simp only [levs] at hk;omega
 have dz:lev z≤k:=by simp only [levs] at hk;omega
 have hfo:formO (Exp.mk 15 0 0 [] [x,y,z]).op=0:=rfl
 rw [hfo] at hf1 hs ⊢
 obtain rfl:form=0:=by omega
 have h:Reps ([wP [105,102]]++showW k x 0++[wP [116,104,101,110]]++showW k y 0++[wP [101,108,115,101]]++showW k z 0) r r':=h
 have h:Reps (wP [105,102]::(showW k x 0++wP [116,104,101,110]::(showW k y 0++wP [101,108,115,101]::showW k z 0))) r r':=by simpa using h
 have l0:=rep_tl h
 obtain ⟨m1,b1,c1⟩:=reps_app (tail_rep h)
 obtain ⟨r2,e2,h2⟩:=want_rep c1 (by decide) (w:=[116,104,101,110]) rfl
 obtain ⟨m3,b3,c3⟩:=reps_app h2
 obtain ⟨r4,e4,h4⟩:=want_rep c3 (by decide) (w:=[101,108,115,101]) rfl
 have k1:=b1.len
 have k2:=c1.len
 have k3:=b3.len
 have k4:=c3.len
 have k5:=h4.len
 have k6:=h2.len
 simp only [List.length_cons,List.length_append] at k2 k4 k6
 have f3:Fin1 m3:=fin_reps c3 (NK.cons (nk_w _) (show_nk k z 0)) hf
 have f1:Fin1 m1:=fin_reps c1 (NK.cons (nk_w _) ((show_nk k y 0).app (.cons (nk_w _) (show_nk k z 0)))) hf
 have e1:=read_U hx (form:=0) dx b1 (n:=n) (by omega) (by omega) (by omega) (by omega) (stop_rep c1 (by decide) 0) (nounit_rep c1 (by decide)) f1
 have e3:=read_U hy (form:=0) dy b3 (n:=n) (by omega) (by omega) (by omega) (by omega) (stop_rep c3 (by decide) 0) (nounit_rep c3 (by decide)) f3
 have e5:=read_U hz (form:=0) dz h4 (n:=n) (by omega) (by omega) (by omega) (by omega) (stop_0 hs) hno hf
 unfold expS prefP
 rw [if_pos ⟨rfl,by rw [isT_rep h];decide⟩]
 unfold ifP
 rw [e1]
 dsimp only
 rw [e2]
 dsimp only
 rw [e3]
 dsimp only
 rw [e4]
 dsimp only
 rw [e5]
structure BinO (op:Int):Prop where
 fo:formO op=(opE op).form
 id:(opE op).op=op
 lo:1≤(opE op).form
 hi:(opE op).form≤6
 ge:¬ idxP (fun o':Opr=>decide ((opE op).text=o'.text)) oprL<0
 at':opAt (idxP (fun o':Opr=>decide ((opE op).text=o'.text)) oprL)=opE op
 un:(opE op).text≠[99,111,105,110,115]∧(opE op).text≠[100,97,121,115]∧(opE op).text≠[109,105,108,108,101]
theorem binO {op:Int} (h:op=4∨op=5∨op=6∨op=7∨op=10∨op=11∨op=13∨op=14):BinO op:=by
 rcases h with rfl | rfl | rfl | rfl | rfl | rfl | rfl | rfl<;>exact ⟨by decide,by decide,by decide,by decide,by decide,rfl,by decide⟩
theorem opI_rep {op:Int} {l:List Pc} {r r':List Tok} (h:Reps (oP (opE op)::l) r r'):opI r=idxP (fun o':Opr=>decide ((opE op).text=o'.text)) oprL:=by
 unfold opI
 congr 1
 funext o
 rw [isT_rep h,decide_eq_true (nk_o _),Bool.true_and]
 rfl
theorem body_bin {op:Int} (h:op=4∨op=5∨op=6∨op=7∨op=10∨op=11∨op=13∨op=14) (k:Nat) (x y:Exp) :
  bodyW (k+1) (.mk op 0 0 [] [x,y])=showW k x (if (opE op).form=4 then 5 else (opE op).form)++oP (opE op)::showW k y ((opE op).form+1):=by
 rcases h with rfl | rfl | rfl | rfl | rfl | rfl | rfl | rfl
 all_goals
  refine Eq.trans (b:=showW k x (if (opE _).form=4 then 5 else (opE _).form)++[oP (opE _)]++showW k y ((opE _).form+1)) rfl ?_
  rw [List.append_assoc]
  rfl
theorem ue_bin {x y:Exp} (hx:UE x) (hy:UE y) {op:Int} (ho:op=4∨op=5∨op=6∨op=7∨op=10∨op=11∨op=13∨op=14):UE (.mk op 0 0 [] [x,y]):=by
 intro d n form r r' hd h hl hf0 hf1 hs hno hf
 obtain ⟨k,rfl,hk⟩:=levD hd
 have dx:lev x≤k:=by simp only [levs] at hk;omega
 have dy:lev y≤k:=by simp only [levs] at hk;omega
 have B:=binO ho
 have hfo:formO (Exp.mk op 0 0 [] [x,y]).op=(opE op).form:=B.fo
 rw [hfo] at hf1 hs ⊢
 rw [body_bin ho] at h
 have blo:=B.lo
 have bhi:=B.hi
 obtain ⟨m1,h1,h2⟩:=reps_app h
 have l1:=h1.len
 have l2:=h2.len
 simp only [List.length_cons] at l2
 have hi:=opI_rep h2
 have h3:=tail_rep h2
 have ht:=rep_tl h2
 have f1:Fin1 m1:=fin_reps h2 (NK.cons (nk_o _) (show_nk k y _)) hf
 have nx:0<(showW k x (if (opE op).form=4 then 5 else (opE op).form)).length∨True:=.inr trivial
 generalize hla:(if (opE op).form=4 then (5:Int) else (opE op).form)=la at *
 have la1:(opE op).form≤la:=by rw [← hla];split<;>omega
 have la4:(opE op).form=4→la=5:=fun h4=>by rw [← hla,if_pos h4]
 have hst:Stop ((if formO x.op<la then 7 else formO x.op)+1) m1:=by
  refine .inr ?_
  rw [hi,B.at']
  split<;>omega
 rw [show_U hx dx h1 hl hf0 (by omega) hst (nounit_rep h2 B.un) f1]
 obtain ⟨g,hg⟩:∃ g,m1.length=g+1:=⟨m1.length-1,by omega⟩
 have hne:¬ opI m1<0:=by rw [hi];exact B.ge
 have hat:opAt (opI m1)=opE op:=by rw [hi];exact B.at'
 have hc:¬ ((opAt (opI m1)).form<form∨(if formO x.op<la then 7 else formO x.op)<(opAt (opI m1)).form∨(if formO x.op<la then (7:Int) else formO x.op)=4∧(opAt (opI m1)).form=4):=by
  rw [hat]
  split
  ·omega
  ·rintro (h9 | h9 | h9)
   ·omega
   ·omega
   ·have:=la4 h9.2
    omega
 rw [hg,loopP_step hne hc,hat]
 have e2:=read_U hy (form:=(opE op).form+1) dy h3 (n:=n) (by omega) (by omega) (by omega) (by omega) hs hno hf
 rw [e2]
 dsimp only
 rw [B.id]
 exact loopP_fuel (expP_suf n) _ _ _ _ _ hf om0 (Nat.le_refl _)
theorem ue_all {e:Exp} (h:WfE e):UE e:=by
 induction h with
 | num n u h0 h1 hu=>exact ue_num h0 hu
 | boo n h=>exact ue_boo h
 | name op s ho hn hl=>exact ue_name ho hn
 | within op n x ho hn hx ih=>exact ue_within ho hn ih
 | not x hx ih=>exact ue_not ih
 | pair op x y ho hx hy ihx ihy =>
  by_cases h:op=8∨op=9
  ·exact ue_min ihx ihy h
  ·exact ue_bin ihx ihy om0
 | cond x y z hx hy hz ihx ihy ihz=>exact ue_cond ihx ihy ihz
theorem show_back {e:Exp} (hr:rightE e=true) {n:Nat} {r r':List Tok} (h:Reps (showW 12 e 0) r r') (hl:r.length≤n) (hs:Stop 0 r') (hno:NoUnit r') (hf:Fin1 r'):expP n 0 r=.ok (e,r'):=by
 obtain ⟨hw,hd⟩:=(rightE_iff e).1 hr
 exact read_U (ue_all hw) hd h hl om0 om0 om0 hs hno hf
theorem fin_drop:∀ (T1:List Tok) {r':List Tok},Fin1 (T1++r')→r'≠[]→Fin1 r'
 | [],_,h,_=>h
 | t::T1,r',h,hn=>by
  refine fin_drop T1 ?_ hn
  have hne:T1++r'≠[]:=by simp [hn]
  cases hx:T1++r' with
  | nil=>exact (hne hx).elim
  | cons u q =>
   have h:Fin1 (t::(T1++r')):=h
   rw [hx] at h
   exact h.2
theorem fin_fwd {l:List Pc} {r r':List Tok} (h:Reps l r r') (hf:Fin1 r) (hn:r'≠[]):Fin1 r':=by
 obtain ⟨T1,rfl,_⟩:=h
 exact fin_drop T1 hf hn
theorem rep_ne {x:Pc} {l:List Pc} {r r':List Tok} (h:Reps (x::l) r r'):r≠[]:=by
 obtain ⟨t,r1,rfl,_,_,_,_⟩:=reps_cons h
 simp
theorem fin_tail {x:Pc} {y:Pc} {l:List Pc} {r r':List Tok} (h:Reps (x::y::l) r r') (hf:Fin1 r):Fin1 r.tail:=by
 obtain ⟨t,r1,rfl,_,_,_,h1⟩:=reps_cons h
 obtain ⟨u,r2,rfl,_,_,_,_⟩:=reps_cons h1
 exact hf.2
def Rd {α:Type} (p:Ps α) (v:α) (l:List Pc) (r r':List Tok):Prop:=∃ r1,p=.ok (v,r1)∧Reps l r1 r'∧r1.length≤r.length
theorem wantR {w:List UInt8} {x:Pc} {l:List Pc} {r r':List Tok} (h:Reps (x::l) r r') (hk:x.kind≠3) (hw:x.text=w):∃ r1,wantP w r=.ok r1∧Reps l r1 r'∧r1.length+1=r.length:=by
 obtain ⟨r1,h1,h2⟩:=want_rep h hk hw
 refine ⟨r1,h1,h2,?_⟩
 have:=h.len
 have:=h2.len
 simp only [List.length_cons] at *
 omega
theorem numR' {a b n:Int} {l:List Pc} {r r':List Tok} (h:Reps (nP n::l) r r') (hn:a≤n∧n≤b):∃ r1,numP a b r=.ok (n,r1)∧Reps l r1 r'∧r1.length+1=r.length:=by
 obtain ⟨r1,h1,h2⟩:=num_rep h hn
 refine ⟨r1,h1,h2,?_⟩
 have:=h.len
 have:=h2.len
 simp only [List.length_cons] at *
 omega
theorem part_rep {w:List UInt8} {a b n:Int} {l:List Pc} {r r':List Tok} (h:Reps (wP w::nP n::sP [59]::l) r r') (hn:a≤n∧n≤b):∃ r1,partP w a b r=.ok (n,r1)∧Reps l r1 r':=by
 obtain ⟨r1,e1,h1,_⟩:=wantR h (nk_w _) rfl
 obtain ⟨r2,e2,h2,_⟩:=numR' h1 hn
 obtain ⟨r3,e3,h3,_⟩:=wantR h2 (nk_s _) rfl
 refine ⟨r3,?_,h3⟩
 unfold partP
 have e1:wantP w r=.ok r1:=e1
 have e3:wantP [59] r2=.ok r3:=e3
 rw [e1]
 dsimp only
 rw [e2]
 dsimp only
 rw [e3]
theorem maybe_rep {w:List UInt8} {a n0 n:Int} {l:List Pc} {r r':List Tok} (h:Reps (wP w::nP n::sP [59]::l) r r') (hn:0≤n∧n≤a):∃ r1,maybeP w a n0 r=.ok (n,r1)∧Reps l r1 r':=by
 unfold maybeP
 rw [if_pos (by rw [isT_rep h];simp [wP])]
 exact part_rep h hn
theorem maybe_no {w:List UInt8} {a n0:Int} {x:Pc} {l:List Pc} {r r':List Tok} (h:Reps (x::l) r r') (hx:x.text≠w):maybeP w a n0 r=.ok (n0,r):=by
 unfold maybeP
 rw [if_neg (by rw [isT_rep h,decide_eq_false hx,Bool.and_false];decide)]
def dayP (n:Int):List Pc:=[nP (partY n),sP [45],nP (partM n),sP [45],nP (partD n)]
theorem part_bnd {n:Int} (h0:0≤n) (h1:n≤200000):(0≤partY n∧partY n≤1000000000000000)∧(0≤partM n∧partM n≤1000000000000000)∧0≤partD n∧partD n≤1000000000000000:=by
 obtain ⟨a,b,c,d,e,f⟩:=parts_bounds h0 h1
 omega
theorem date_rep {least n:Int} {l:List Pc} {r r':List Tok} (h0:0≤n) (h1:n≤200000) (hl:least<n) (h:Reps (dayP n++l) r r'):∃ r1,dateP least r=.ok (n,r1)∧Reps l r1 r':=by
 obtain ⟨by1,by2,by3⟩:=part_bnd h0 h1
 have h:Reps (nP (partY n)::sP [45]::nP (partM n)::sP [45]::nP (partD n)::l) r r':=h
 obtain ⟨r1,e1,h1',_⟩:=numR' h by1
 obtain ⟨r2,e2,h2,_⟩:=wantR h1' (nk_s _) rfl
 obtain ⟨r3,e3,h3,_⟩:=numR' h2 by2
 obtain ⟨r4,e4,h4,_⟩:=wantR h3 (nk_s _) rfl
 obtain ⟨t,r5,rfl,k1,_,k3,h5⟩:=reps_cons h4
 have k1:t.kind=1:=k1
 have k3:t.n=partD n:=k3
 refine ⟨r5,?_,h5⟩
 have e2:wantP [45] r1=.ok r2:=e2
 have e4:wantP [45] r3=.ok (t::r5):=e4
 unfold dateP
 rw [e1]
 dsimp only
 rw [e2]
 dsimp only
 rw [e3]
 dsimp only
 rw [e4]
 dsimp only
 show (if t.kind≠1 then _ else if (dayOf (partY n) (partM n) t.n).2≠0 then _ else if least<(dayOf (partY n) (partM n) t.n).1 then (Except.ok ((dayOf (partY n) (partM n) t.n).1,r5):Ps Int) else _)=_
 rw [if_neg (by rw [k1];simp),k3,day_parts h0 h1]
 rw [if_neg (by simp),if_pos hl]
theorem whole_rep {x:Pc} {e:Exp} (hr:rightE e=true) {l:List Pc} {r r':List Tok} (h:Reps (showW 12 e 0++x::l) r r') (hk:x.kind≠3) (ho:∀ o∈oprL,x.text≠o.text) (hu:x.text≠[99,111,105,110,115]∧x.text≠[100,97,121,115]∧x.text≠[109,105,108,108,101]) (hf:Fin1 r) :
  ∃ r1,wholeP x.text r=.ok (e,r1)∧Reps l r1 r':=by
 obtain ⟨m,h1,h2⟩:=reps_app h
 have e1:=show_back hr h1 (Nat.le_refl _) (stop_rep h2 ho 0) (nounit_rep h2 hu) (fin_fwd h1 hf (rep_ne h2))
 refine ⟨m.tail,?_,tail_rep h2⟩
 unfold wholeP
 rw [e1]
 dsimp only
 have hi:=isT_rep (w:=x.text) h2
 rw [decide_eq_true hk,decide_eq_true rfl] at hi
 rw [hi,if_neg (by decide),if_pos (by have:=((rightE_iff e).1 hr).2;omega)]
theorem one_cnt {i:Int} (h0:0≤i) (h2:i≤2) {l:List Pc} {r r':List Tok} (h:Reps (wP [99,111,117,110,116]::wP (cntW.getD i.toNat [])::sP [59]::l) r r'):∃ r1,oneP [99,111,117,110,116] cntW r=.ok (i,r1)∧Reps l r1 r':=by
 obtain ⟨r1,e1,h1,_⟩:=wantR h (nk_w _) rfl
 obtain ⟨r3,e3,h3,_⟩:=wantR (tail_rep h1) (nk_s _) rfl
 refine ⟨r3,?_,h3⟩
 have e1:wantP [99,111,117,110,116] r=.ok r1:=e1
 have e3:wantP [59] r1.tail=.ok r3:=e3
 have hx:idxP (fun w=>isT w r1) cntW=i:=by
  have:(fun w=>isT w r1)=fun w=>decide (cntW.getD i.toNat []=w):=by
   funext w
   rw [isT_rep h1,decide_eq_true (nk_w _),Bool.true_and]
   rfl
  rw [this]
  have hi:i=0∨i=1∨i=2:=by omega
  rcases hi with rfl | rfl | rfl<;>decide
 unfold oneP
 rw [e1]
 dsimp only
 rw [hx,if_neg (by omega),e3]
theorem one_adj {i:Int} (h0:0≤i) (h2:i≤3) {l:List Pc} {r r':List Tok} (h:Reps (wP [97,100,106,117,115,116]::wP (adjW.getD i.toNat [])::sP [59]::l) r r'):∃ r1,oneP [97,100,106,117,115,116] adjW r=.ok (i,r1)∧Reps l r1 r':=by
 obtain ⟨r1,e1,h1,_⟩:=wantR h (nk_w _) rfl
 obtain ⟨r3,e3,h3,_⟩:=wantR (tail_rep h1) (nk_s _) rfl
 refine ⟨r3,?_,h3⟩
 have e1:wantP [97,100,106,117,115,116] r=.ok r1:=e1
 have e3:wantP [59] r1.tail=.ok r3:=e3
 have hx:idxP (fun w=>isT w r1) adjW=i:=by
  have:(fun w=>isT w r1)=fun w=>decide (adjW.getD i.toNat []=w):=by
   funext w
   rw [isT_rep h1,decide_eq_true (nk_w _),Bool.true_and]
   rfl
  rw [this]
  have hi:i=0∨i=1∨i=2∨i=3:=by omega
  rcases hi with rfl | rfl | rfl | rfl<;>decide
 unfold oneP
 rw [e1]
 dsimp only
 rw [hx,if_neg (by omega),e3]
theorem fresh_rep {names:List (List UInt8)} {s:List UInt8} {l:List Pc} {r r':List Tok} (h:Reps (wP s::l) r r') (hn:nameB s=true) (hm:¬ s∈names):∃ r1,freshP names r=.ok (s,r1)∧Reps l r1 r':=by
 obtain ⟨t,r1,rfl,k1,k2,k3,h1⟩:=reps_cons h
 have k1:t.kind=0:=k1
 have k2:t.text=s:=k2
 refine ⟨r1,?_,h1⟩
 unfold freshP namedB
 show (if (decide (t.kind=0)&&nameB t.text)=false then _ else if t.text∈names then _ else (Except.ok (t.text,r1):Ps (List UInt8)))=_
 rw [k1,k2,hn,if_neg (by simp),if_neg hm]
def letP (x:LetE):List Pc:=wP [108,101,116]::wP x.name::sP [61]::(showW 12 x.body 0++[sP [59]])
def covP (c:Cov):List Pc:=wP [99,111,118,101,110,97,110,116]::wP c.name::wP [109,117,115,116]::(showW 12 c.must 0++[wP [103,114,97,99,101],nP c.grace,sP [59]])
def callP (c:CallE):List Pc:=wP [99,97,108,108]::(dayP c.a++[wP [97,116],nP c.b,sP [59]])
theorem lets_rep {x:Pc} {l:List Pc} {r':List Tok} (hx:x.text≠[108,101,116]):∀ (ls:List LetE) (f:Nat) (acc:List LetE) (r:List Tok),Reps (ls.flatMap letP++x::l) r r'→r.length≤f→Fin1 r→(∀ a∈ls,nameB a.name=true∧rightE a.body=true)→((acc++ls).map LetE.name).Nodup→(acc++ls).length≤20 →
  ∃ r1,letsP f acc r=.ok (acc++ls,r1)∧Reps (x::l) r1 r'
 | [],f,acc,r,h,hl,hf,_,_,_=>by
  have h:Reps (x::l) r r':=h
  refine ⟨r,?_,h⟩
  obtain ⟨g,rfl⟩:∃ g,f=g+1:=⟨f-1,by have:=List.length_pos_iff.2 (rep_ne h);omega⟩
  rw [letsP,if_pos (by rw [isT_rep h,decide_eq_false hx,Bool.and_false]),List.append_nil]
 | a::ls,f,acc,r,h,hl,hf,ha,hnd,hlen=>by
  have h:Reps (wP [108,101,116]::wP a.name::sP [61]::(showW 12 a.body 0++sP [59]::(ls.flatMap letP++x::l))) r r':=by
   simpa [letP] using h
  obtain ⟨g,rfl⟩:∃ g,f=g+1:=⟨f-1,by have:=List.length_pos_iff.2 (rep_ne h);omega⟩
  obtain ⟨hn,hr⟩:=ha a (by simp)
  have hm:¬ a.name∈acc.map LetE.name:=by
   intro hm
   rw [List.map_append,List.nodup_append] at hnd
   exact hnd.2.2 _ hm _ (by simp) rfl
  have h1:=tail_rep h
  have f1:=fin_tail h hf
  obtain ⟨r1,e1,h2⟩:=fresh_rep h1 hn hm
  have f2:Fin1 r1:=(freshP_suf e1).2 f1
  obtain ⟨r2,e2,h3,_⟩:=wantR h2 (nk_s _) rfl
  have e2:wantP [61] r1=.ok r2:=e2
  have f3:Fin1 r2:=(wantP_suf e2).2 f2
  obtain ⟨r3,e3,h4⟩:=whole_rep hr h3 (nk_s _) (by decide) (by decide) f3
  have e3:wholeP [59] r2=.ok (a.body,r3):=e3
  have f4:Fin1 r3:=(wholeP_suf e3).2 f3
  have hl4:r3.length≤g:=by
   have q1:=(freshP_suf e1).le
   have q2:=(wantP_suf e2).le
   have q3:=(wholeP_suf e3).le
   have q4:=tail_lt hf
   omega
  have hap:acc++a::ls=(acc++[a])++ls:=by simp
  obtain ⟨r5,e5,h5⟩:=lets_rep hx ls g (acc++[a]) r3 h4 hl4 f4 (fun b hb=>ha b (by simp [hb])) (by rw [← hap];exact hnd) (by rw [← hap];exact hlen)
  refine ⟨r5,?_,h5⟩
  have hlt:(acc.length:Int)<20:=by
   rw [List.length_append,List.length_cons] at hlen
   omega
  rw [letsP,if_neg (by rw [isT_rep h];decide),if_neg (by omega),e1]
  dsimp only
  rw [e2]
  dsimp only
  rw [e3]
  dsimp only
  rw [hap]
  exact e5
theorem covs_rep {x:Pc} {l:List Pc} {r':List Tok} (hx:x.text≠[99,111,118,101,110,97,110,116]):∀ (ls:List Cov) (f:Nat) (acc:List Cov) (r:List Tok),Reps (ls.flatMap covP++x::l) r r'→r.length≤f→Fin1 r→(∀ a∈ls,nameB a.name=true∧rightE a.must=true∧0≤a.grace∧a.grace≤1000)→((acc++ls).map Cov.name).Nodup→(acc++ls).length≤20 →
  ∃ r1,covsP f acc r=.ok (acc++ls,r1)∧Reps (x::l) r1 r'
 | [],f,acc,r,h,hl,hf,_,_,_=>by
  have h:Reps (x::l) r r':=h
  refine ⟨r,?_,h⟩
  obtain ⟨g,rfl⟩:∃ g,f=g+1:=⟨f-1,by have:=List.length_pos_iff.2 (rep_ne h);omega⟩
  rw [covsP,if_pos (by rw [isT_rep h,decide_eq_false hx,Bool.and_false]),List.append_nil]
 | a::ls,f,acc,r,h,hl,hf,ha,hnd,hlen=>by
  have h:Reps (wP [99,111,118,101,110,97,110,116]::wP a.name::wP [109,117,115,116]::(showW 12 a.must 0++wP [103,114,97,99,101]::nP a.grace::sP [59]::(ls.flatMap covP++x::l))) r r':=by
   simpa [covP] using h
  obtain ⟨g,rfl⟩:∃ g,f=g+1:=⟨f-1,by have:=List.length_pos_iff.2 (rep_ne h);omega⟩
  obtain ⟨hn,hr,hg⟩:=ha a (by simp)
  have hm:¬ a.name∈acc.map Cov.name:=by
   intro hm
   rw [List.map_append,List.nodup_append] at hnd
   exact hnd.2.2 _ hm _ (by simp) rfl
  have h1:=tail_rep h
  have f1:=fin_tail h hf
  obtain ⟨r1,e1,h2⟩:=fresh_rep h1 hn hm
  have f2:Fin1 r1:=(freshP_suf e1).2 f1
  obtain ⟨r2,e2,h3,_⟩:=wantR h2 (nk_w _) rfl
  have e2:wantP [109,117,115,116] r1=.ok r2:=e2
  have f3:Fin1 r2:=(wantP_suf e2).2 f2
  obtain ⟨r3,e3,h4⟩:=whole_rep hr h3 (nk_w _) (by decide) (by decide) f3
  have e3:wholeP [103,114,97,99,101] r2=.ok (a.must,r3):=e3
  have f4:Fin1 r3:=(wholeP_suf e3).2 f3
  obtain ⟨r4,e4,h5,_⟩:=numR' h4 hg
  have f5:Fin1 r4:=(numP_suf e4).1.2 f4
  obtain ⟨r6,e6,h6,_⟩:=wantR h5 (nk_s _) rfl
  have e6:wantP [59] r4=.ok r6:=e6
  have f6:Fin1 r6:=(wantP_suf e6).2 f5
  have hl4:r6.length≤g:=by
   have q1:=(freshP_suf e1).le
   have q2:=(wantP_suf e2).le
   have q3:=(wholeP_suf e3).le
   have q4:=tail_lt hf
   have q5:=(numP_suf e4).1.le
   have q6:=(wantP_suf e6).le
   omega
  have hap:acc++a::ls=(acc++[a])++ls:=by simp
  obtain ⟨r9,e9,h9⟩:=covs_rep hx ls g (acc++[a]) r6 h6 hl4 f6 (fun b hb=>ha b (by simp [hb])) (by rw [← hap];exact hnd) (by rw [← hap];exact hlen)
  refine ⟨r9,?_,h9⟩
  have hlt:(acc.length:Int)<20:=by
   rw [List.length_append,List.length_cons] at hlen
   omega
  rw [covsP,if_neg (by rw [isT_rep h];decide),if_neg (by omega),e1]
  dsimp only
  rw [e2]
  dsimp only
  rw [e3]
  dsimp only
  rw [e4]
  dsimp only
  rw [e6]
  dsimp only
  rw [hap]
  exact e9
theorem calls_rep {x:Pc} {l:List Pc} {r':List Tok} (hx:x.text≠[99,97,108,108]):∀ (ls:List CallE) (f:Nat) (acc:List CallE) (r:List Tok),Reps (ls.flatMap callP++x::l) r r'→r.length≤f→Fin1 r→(∀ a∈ls,(0≤a.a∧a.a≤200000)∧0≤a.b∧a.b≤10000)→(acc++ls).length≤20 →
  ∃ r1,callsP f acc r=.ok (acc++ls,r1)∧Reps (x::l) r1 r'
 | [],f,acc,r,h,hl,hf,_,_=>by
  have h:Reps (x::l) r r':=h
  refine ⟨r,?_,h⟩
  obtain ⟨g,rfl⟩:∃ g,f=g+1:=⟨f-1,by have:=List.length_pos_iff.2 (rep_ne h);omega⟩
  rw [callsP,if_pos (by rw [isT_rep h,decide_eq_false hx,Bool.and_false]),List.append_nil]
 | a::ls,f,acc,r,h,hl,hf,ha,hlen=>by
  have h:Reps (wP [99,97,108,108]::(dayP a.a++wP [97,116]::nP a.b::sP [59]::(ls.flatMap callP++x::l))) r r':=by
   simpa [callP] using h
  obtain ⟨g,rfl⟩:∃ g,f=g+1:=⟨f-1,by have:=List.length_pos_iff.2 (rep_ne h);omega⟩
  obtain ⟨hd,hb⟩:=ha a (by simp)
  have h1:=tail_rep h
  have f1:Fin1 r.tail:=hf.tail (by
   obtain ⟨t,q,rfl,k1,_,_,_⟩:=reps_cons h
   show t.kind≠3
   rw [k1]
   exact nk_w _)
  obtain ⟨r1,e1,h2⟩:=date_rep (least:=-1) hd.1 hd.2 (by omega) h1
  have f2:Fin1 r1:=(dateP_suf e1).2 f1
  obtain ⟨r2,e2,h3,_⟩:=wantR h2 (nk_w _) rfl
  have e2:wantP [97,116] r1=.ok r2:=e2
  have f3:Fin1 r2:=(wantP_suf e2).2 f2
  obtain ⟨r4,e4,h5,_⟩:=numR' h3 hb
  have f5:Fin1 r4:=(numP_suf e4).1.2 f3
  obtain ⟨r6,e6,h6,_⟩:=wantR h5 (nk_s _) rfl
  have e6:wantP [59] r4=.ok r6:=e6
  have f6:Fin1 r6:=(wantP_suf e6).2 f5
  have hl4:r6.length≤g:=by
   have q1:=(dateP_suf e1).le
   have q2:=(wantP_suf e2).le
   have q4:=tail_lt hf
   have q5:=(numP_suf e4).1.le
   have q6:=(wantP_suf e6).le
   omega
  have hap:acc++a::ls=(acc++[a])++ls:=by simp
  obtain ⟨r9,e9,h9⟩:=calls_rep hx ls g (acc++[a]) r6 h6 hl4 f6 (fun b hb=>ha b (by simp [hb])) (by rw [← hap];exact hlen)
  refine ⟨r9,?_,h9⟩
  have hlt:(acc.length:Int)<20:=by
   rw [List.length_append,List.length_cons] at hlen
   omega
  rw [callsP,if_neg (by rw [isT_rep h];decide),if_neg (by omega),e1]
  dsimp only
  rw [e2]
  dsimp only
  rw [e4]
  dsimp only
  rw [e6]
  dsimp only
  rw [hap]
  exact e9
theorem favL_rep {l:List Pc} {r':List Tok}:∀ (ns:List (List UInt8)) (f:Nat) (acc:List (List UInt8)) (r:List Tok),Reps (ns.map wP++sP [59]::l) r r'→r.length≤f→Fin1 r→(acc≠[]∨ns≠[])→(∀ s∈ns,nameB s=true)→(acc++ns).Nodup→(acc++ns).length≤20 →
  ∃ r1,favL f acc r=.ok (acc++ns,r1)∧Reps (sP [59]::l) r1 r'
 | [],f,acc,r,h,hl,hf,hne,_,_,_=>by
  have h:Reps (sP [59]::l) r r':=h
  refine ⟨r,?_,h⟩
  obtain ⟨g,rfl⟩:∃ g,f=g+1:=⟨f-1,by have:=List.length_pos_iff.2 (rep_ne h);omega⟩
  have h0:acc≠[]:=hne.resolve_right (fun x=>x rfl)
  have h1:=List.length_pos_iff.2 h0
  rw [favL,if_neg (by rw [isT_rep h];rintro (h9 | h9);omega;exact absurd h9 (by decide)),List.append_nil]
 | s::ns,f,acc,r,h,hl,hf,_,ha,hnd,hlen=>by
  have h:Reps (wP s::(ns.map wP++sP [59]::l)) r r':=h
  obtain ⟨g,rfl⟩:∃ g,f=g+1:=⟨f-1,by have:=List.length_pos_iff.2 (rep_ne h);omega⟩
  have hn:=ha s (by simp)
  have hm:¬ s∈acc:=by
   intro hm
   rw [List.nodup_append] at hnd
   exact hnd.2.2 _ hm _ (by simp) rfl
  obtain ⟨r1,e1,h2⟩:=fresh_rep h hn hm
  have f2:Fin1 r1:=(freshP_suf e1).2 hf
  have hl4:r1.length≤g:=by
   have q1:=h.len
   have q2:=h2.len
   simp only [List.length_cons] at q1
   omega
  have hap:acc++s::ns=(acc++[s])++ns:=by simp
  obtain ⟨r9,e9,h9⟩:=favL_rep ns g (acc++[s]) r1 h2 hl4 f2 (.inl (by simp)) (fun b hb=>ha b (by simp [hb])) (by rw [← hap];exact hnd) (by rw [← hap];exact hlen)
  refine ⟨r9,?_,h9⟩
  have hlt:(acc.length:Int)<20:=by
   rw [List.length_append,List.length_cons] at hlen
   omega
  have hnb:namedB r=true:=by
   obtain ⟨t,q,rfl,k1,k2,_,_⟩:=reps_cons h
   have k1:t.kind=0:=k1
   have k2:t.text=s:=k2
   show (decide (t.kind=0)&&nameB t.text)=true
   rw [k1,k2,hn]
   rfl
  have h59:isT [59] r=false:=by rw [isT_rep h,decide_eq_false (show ¬ (wP s).text=[59] from word_first hn 59 (by decide)),Bool.and_false]
  rw [favL_go (.inr h59) hnb hlt,e1]
  dsimp only
  rw [hap]
  exact e9
def favPc (l:List (List UInt8)):List Pc:=if 0<l.length then wP [102,97,118,111,117,114]::(l.map wP++[sP [59]]) else []
theorem fav_rep {x:Pc} {l:List Pc} {r r':List Tok} (hx:x.text≠[102,97,118,111,117,114]) {ns:List (List UInt8)} (h:Reps (favPc ns++x::l) r r') (hf:Fin1 r) (ha:∀ s∈ns,nameB s=true) (hnd:ns.Nodup) (hlen:ns.length≤20) :
  ∃ r1,favP r=.ok (ns,r1)∧Reps (x::l) r1 r':=by
 unfold favPc at h
 by_cases h0:0<ns.length
 ·rw [if_pos h0] at h
  have h:Reps (wP [102,97,118,111,117,114]::(ns.map wP++sP [59]::x::l)) r r':=by simpa using h
  have h1:=tail_rep h
  have f1:Fin1 r.tail:=hf.tail (by
   obtain ⟨t,q,rfl,k1,_,_,_⟩:=reps_cons h
   show t.kind≠3
   rw [k1]
   exact nk_w _)
  obtain ⟨r1,e1,h2⟩:=favL_rep ns r.tail.length [] r.tail h1 (Nat.le_refl _) f1 (.inr (List.length_pos_iff.1 h0)) ha hnd hlen
  obtain ⟨r2,e2,h3,_⟩:=wantR h2 (nk_s _) rfl
  have e2:wantP [59] r1=.ok r2:=e2
  refine ⟨r2,?_,h3⟩
  unfold favP
  rw [if_neg (by rw [isT_rep h];decide),e1]
  dsimp only
  rw [e2]
  rfl
 ·rw [if_neg h0] at h
  have h:Reps (x::l) r r':=h
  refine ⟨r,?_,h⟩
  unfold favP
  rw [if_pos (by rw [isT_rep h,decide_eq_false hx,Bool.and_false])]
  have:ns=[]:=List.length_eq_zero_iff.1 (by omega)
  rw [this]
def croPc (x:Ind):List Pc:=if 0≤x.cross then [wP [99,114,111,115,115],nP x.cross,sP [59]] else []
def notPc (x:Ind):List Pc:=if 0<x.notice then [wP [110,111,116,105,99,101],nP x.notice,sP [59]] else []
def sinPc (x:Ind):List Pc:=if 0<x.sink then [wP [115,105,110,107],nP x.sink,sP [59]] else []
def HN (w:List UInt8) (l:List Pc):Prop:=∃ y k,l=y::k∧y.text≠w
theorem HN.cons {w:List UInt8} {y:Pc} {k:List Pc} (h:y.text≠w):HN w (y::k):=⟨y,k,rfl,h⟩
theorem hn_opt {w:List UInt8} {a b:List Pc} (ha:a=[]∨HN w a) (hb:HN w b):HN w (a++b):=by
 rcases ha with rfl | ⟨y,k,rfl,h⟩
 ·exact hb
 ·exact ⟨y,k++b,rfl,h⟩
theorem maybe_opt {w:List UInt8} {a n0 n:Int} {o l:List Pc} {r r':List Tok} (h:Reps (o++l) r r') (ho:(o=[wP w,nP n,sP [59]]∧0≤n∧n≤a)∨(o=[]∧n=n0)) (hl:HN w l):∃ r1,maybeP w a n0 r=.ok (n,r1)∧Reps l r1 r':=by
 rcases ho with ⟨rfl,hn⟩ | ⟨rfl,rfl⟩
 ·exact maybe_rep h hn
 ·obtain ⟨y,k,rfl,hy⟩:=hl
  exact ⟨r,maybe_no h hy,h⟩
def tailPc (x:Ind):List Pc:=[wP [109,97,106,111,114,105,116,121],nP x.majority,sP [59],wP [102,97,115,116],nP x.fast,sP [59],endP]
def indPc (x:Ind):List Pc :=
 wP [105,115,115,117,101]::wP x.name::wP [111,102]::wP x.issuer::sP [59]::wP [102,97,99,101]::nP x.face::sP [59] ::
 wP [102,114,111,109]::(dayP x.frm++wP [116,111]::(dayP x.to++wP [101,118,101,114,121]::nP x.every::wP [109,111,110,116,104,115]::sP [59] ::
 wP [99,111,117,110,116]::wP (cntW.getD x.count.toNat [])::sP [59]::wP [97,100,106,117,115,116]::wP (adjW.getD x.adjust.toNat [])::sP [59] ::
 wP [114,101,99,111,114,100]::nP x.record::sP [59]::wP [114,97,110,107]::nP x.rank::sP [59] ::
 (x.lets.flatMap letP++wP [99,111,117,112,111,110]::(showW 12 x.coupon 0++sP [59]::wP [99,97,112]::nP x.cap::sP [59] ::
 (x.cov.flatMap covP++(favPc x.favour++(croPc x++(x.calls.flatMap callP++(notPc x++(sinPc x++tailPc x)))))))) ))
theorem call_hd (ls:List CallE) {w:List UInt8} (hw:[99,97,108,108]≠w):ls.flatMap callP=[]∨HN w (ls.flatMap callP):=by
 cases ls with
 | nil=>exact .inl rfl
 | cons a ls=>exact .inr ⟨wP [99,97,108,108],_,rfl,hw⟩
theorem ind_rep {x:Ind} (R:Rt x) {r:List Tok} (h:Reps (indPc x) r []) (hf:Fin1 r):∃ r1,indP r=.ok (x,r1):=by
 obtain ⟨ul1,ul2,ul3⟩:=(uniq_iff _ _).1 R.ulets
 obtain ⟨uc1,uc2,uc3⟩:=(uniq_iff _ _).1 R.ucov
 obtain ⟨uf1,uf2,uf3⟩:=(uniq_iff _ _).1 R.fav
 rw [List.length_map] at ul3 uc3
 have hN:∀ {w v:List UInt8} {n:Int},∀ {k:List Pc},v≠w→HN w (wP v::k):=fun h=>.cons h
 have t6:∀ {w:List UInt8},[109,97,106,111,114,105,116,121]≠w→HN w (tailPc x):=fun h=>.cons h
 have t5:∀ {w:List UInt8},[115,105,110,107]≠w→[109,97,106,111,114,105,116,121]≠w→HN w (sinPc x++tailPc x):=fun h h'=>hn_opt (by unfold sinPc;split;exact .inr (.cons h);exact .inl rfl) (t6 h')
 have t4:∀ {w:List UInt8},[110,111,116,105,99,101]≠w→[115,105,110,107]≠w→[109,97,106,111,114,105,116,121]≠w→HN w (notPc x++(sinPc x++tailPc x)):=fun h0 h h'=>hn_opt (by unfold notPc;split;exact .inr (.cons h0);exact .inl rfl) (t5 h h')
 have t3:∀ {w:List UInt8},[99,97,108,108]≠w→[110,111,116,105,99,101]≠w→[115,105,110,107]≠w→[109,97,106,111,114,105,116,121]≠w→HN w (x.calls.flatMap callP++(notPc x++(sinPc x++tailPc x))):=fun h1 h0 h h'=>hn_opt (call_hd _ h1) (t4 h0 h h')
 have t2:∀ {w:List UInt8},[99,114,111,115,115]≠w→[99,97,108,108]≠w→[110,111,116,105,99,101]≠w→[115,105,110,107]≠w→[109,97,106,111,114,105,116,121]≠w→HN w (croPc x++(x.calls.flatMap callP++(notPc x++(sinPc x++tailPc x)))):=fun h2 h1 h0 h h'=>hn_opt (by unfold croPc;split;exact .inr (.cons h2);exact .inl rfl) (t3 h1 h0 h h')
 have t1:∀ {w:List UInt8},[102,97,118,111,117,114]≠w→[99,114,111,115,115]≠w→[99,97,108,108]≠w→[110,111,116,105,99,101]≠w→[115,105,110,107]≠w→[109,97,106,111,114,105,116,121]≠w→HN w (favPc x.favour++(croPc x++(x.calls.flatMap callP++(notPc x++(sinPc x++tailPc x))))):=fun h3 h2 h1 h0 h h'=>hn_opt (by unfold favPc;split;exact .inr (.cons h3);exact .inl rfl) (t2 h2 h1 h0 h h')
 unfold indPc at h
 have h0:=h
 have f0:=hf
 obtain ⟨r1,e1,h1,_⟩:=wantR h0 (nk_w _) rfl
 have e1:wantP [105,115,115,117,101] r=.ok r1:=e1
 have f1:Fin1 r1:=(wantP_suf e1).2 f0
 obtain ⟨r2,e2,h2⟩:=name_rep h1 R.name
 have e2:nameP r1=.ok (x.name,r2):=e2
 have f2:Fin1 r2:=(nameP_suf e2).2 f1
 obtain ⟨r3,e3,h3,_⟩:=wantR h2 (nk_w _) rfl
 have e3:wantP [111,102] r2=.ok r3:=e3
 have f3:Fin1 r3:=(wantP_suf e3).2 f2
 obtain ⟨r4,e4,h4⟩:=name_rep h3 R.issuer
 have e4:nameP r3=.ok (x.issuer,r4):=e4
 have f4:Fin1 r4:=(nameP_suf e4).2 f3
 obtain ⟨r5,e5,h5,_⟩:=wantR h4 (nk_s _) rfl
 have e5:wantP [59] r4=.ok r5:=e5
 have f5:Fin1 r5:=(wantP_suf e5).2 f4
 obtain ⟨r6,e6,h6⟩:=part_rep h5 R.face
 have e6:partP [102,97,99,101] 1 1000000000000000 r5=.ok (x.face,r6):=e6
 have f6:Fin1 r6:=(partP_suf e6).2 f5
 obtain ⟨r7,e7,h7,_⟩:=wantR h6 (nk_w _) rfl
 have e7:wantP [102,114,111,109] r6=.ok r7:=e7
 have f7:Fin1 r7:=(wantP_suf e7).2 f6
 obtain ⟨r8,e8,h8⟩:=date_rep (least:=-1) R.frm.1 R.frm.2 (by have:=R.frm.1;omega) h7
 have e8:dateP (-1) r7=.ok (x.frm,r8):=e8
 have f8:Fin1 r8:=(dateP_suf e8).2 f7
 obtain ⟨r9,e9,h9,_⟩:=wantR h8 (nk_w _) rfl
 have e9:wantP [116,111] r8=.ok r9:=e9
 have f9:Fin1 r9:=(wantP_suf e9).2 f8
 obtain ⟨r10,e10,h10⟩:=date_rep R.to.1 R.to.2 R.before h9
 have e10:dateP x.frm r9=.ok (x.to,r10):=e10
 have f10:Fin1 r10:=(dateP_suf e10).2 f9
 obtain ⟨r11,e11,h11,_⟩:=wantR h10 (nk_w _) rfl
 have e11:wantP [101,118,101,114,121] r10=.ok r11:=e11
 have f11:Fin1 r11:=(wantP_suf e11).2 f10
 obtain ⟨r12,e12,h12⟩:=num_rep h11 R.every
 have e12:numP 1 120 r11=.ok (x.every,r12):=e12
 have f12:Fin1 r12:=((numP_suf e12).1).2 f11
 obtain ⟨r13,e13,h13,_⟩:=wantR h12 (nk_w _) rfl
 have e13:wantP [109,111,110,116,104,115] r12=.ok r13:=e13
 have f13:Fin1 r13:=(wantP_suf e13).2 f12
 obtain ⟨r14,e14,h14,_⟩:=wantR h13 (nk_s _) rfl
 have e14:wantP [59] r13=.ok r14:=e14
 have f14:Fin1 r14:=(wantP_suf e14).2 f13
 obtain ⟨r15,e15,h15⟩:=one_cnt R.count.1 R.count.2 h14
 have e15:oneP [99,111,117,110,116] cntW r14=.ok (x.count,r15):=e15
 have f15:Fin1 r15:=(oneP_suf e15).2 f14
 obtain ⟨r16,e16,h16⟩:=one_adj R.adjust.1 R.adjust.2 h15
 have e16:oneP [97,100,106,117,115,116] adjW r15=.ok (x.adjust,r16):=e16
 have f16:Fin1 r16:=(oneP_suf e16).2 f15
 obtain ⟨r17,e17,h17⟩:=part_rep h16 R.record
 have e17:partP [114,101,99,111,114,100] 0 100 r16=.ok (x.record,r17):=e17
 have f17:Fin1 r17:=(partP_suf e17).2 f16
 obtain ⟨r18,e18,h18⟩:=part_rep h17 R.rank
 have e18:partP [114,97,110,107] 0 9 r17=.ok (x.rank,r18):=e18
 have f18:Fin1 r18:=(partP_suf e18).2 f17
 obtain ⟨r19,e19,h19⟩:=lets_rep (x:=wP [99,111,117,112,111,110]) (by decide) x.lets r18.length [] r18 h18 (Nat.le_refl _) f18 (fun a ha=>⟨ul1 _ (List.mem_map_of_mem ha),R.lets a ha⟩) ul2 (by show x.lets.length≤20;omega)
 have e19:letsP r18.length [] r18=.ok (x.lets,r19):=e19
 have f19:Fin1 r19:=(letsP_suf _ e19).2 f18
 obtain ⟨r20,e20,h20,_⟩:=wantR h19 (nk_w _) rfl
 have e20:wantP [99,111,117,112,111,110] r19=.ok r20:=e20
 have f20:Fin1 r20:=(wantP_suf e20).2 f19
 obtain ⟨r21,e21,h21⟩:=whole_rep R.coupon h20 (nk_s _) (by decide) (by decide) f20
 have e21:wholeP [59] r20=.ok (x.coupon,r21):=e21
 have f21:Fin1 r21:=(wholeP_suf e21).2 f20
 obtain ⟨r22,e22,h22⟩:=part_rep h21 R.cap
 have e22:partP [99,97,112] 0 10000 r21=.ok (x.cap,r22):=e22
 have f22:Fin1 r22:=(partP_suf e22).2 f21
 obtain ⟨y23,k23,q23,w23⟩:=t1 (w:=[99,111,118,101,110,97,110,116]) (by decide) (by decide) (by decide) (by decide) (by decide) (by decide)
 rw [q23] at h22
 obtain ⟨r23,e23,h23⟩:=covs_rep w23 x.cov r22.length [] r22 h22 (Nat.le_refl _) f22 (fun a ha=>⟨uc1 _ (List.mem_map_of_mem ha),R.cov a ha⟩) uc2 (by show x.cov.length≤20;omega)
 have e23:covsP r22.length [] r22=.ok (x.cov,r23):=e23
 have f23:Fin1 r23:=(covsP_suf _ e23).2 f22
 rw [← q23] at h23
 obtain ⟨y24,k24,q24,w24⟩:=t2 (w:=[102,97,118,111,117,114]) (by decide) (by decide) (by decide) (by decide) (by decide)
 rw [q24] at h23
 obtain ⟨r24,e24,h24⟩:=fav_rep w24 h23 f23 uf1 uf2 (by omega)
 have e24:favP r23=.ok (x.favour,r24):=e24
 have f24:Fin1 r24:=(favP_suf e24).2 f23
 rw [← q24] at h24
 obtain ⟨r25,e25,h25⟩:=maybe_opt h24 (n0:=-1) (n:=x.cross) (a:=1000000000000000) (by unfold croPc;have:=R.cross;split;exact .inl ⟨rfl,by omega,by omega⟩;exact .inr ⟨rfl,by omega⟩) (t3 (by decide) (by decide) (by decide) (by decide))
 have e25:maybeP [99,114,111,115,115] 1000000000000000 (-1) r24=.ok (x.cross,r25):=e25
 have f25:Fin1 r25:=(maybeP_suf e25).2 f24
 obtain ⟨y26,k26,q26,w26⟩:=t4 (w:=[99,97,108,108]) (by decide) (by decide) (by decide)
 rw [q26] at h25
 obtain ⟨r26,e26,h26⟩:=calls_rep w26 x.calls r25.length [] r25 h25 (Nat.le_refl _) f25 R.calls R.ncalls
 have e26:callsP r25.length [] r25=.ok (x.calls,r26):=e26
 have f26:Fin1 r26:=(callsP_suf _ e26).2 f25
 rw [← q26] at h26
 obtain ⟨r27,e27,h27⟩:=maybe_opt h26 (n0:=0) (n:=x.notice) (a:=1000) (by unfold notPc;have:=R.notice;split;exact .inl ⟨rfl,by omega,by omega⟩;exact .inr ⟨rfl,by omega⟩) (t5 (by decide) (by decide))
 have e27:maybeP [110,111,116,105,99,101] 1000 0 r26=.ok (x.notice,r27):=e27
 have f27:Fin1 r27:=(maybeP_suf e27).2 f26
 obtain ⟨r28,e28,h28⟩:=maybe_opt h27 (n0:=0) (n:=x.sink) (a:=1000) (by unfold sinPc;have:=R.sink;split;exact .inl ⟨rfl,by omega,by omega⟩;exact .inr ⟨rfl,by omega⟩) (t6 (by decide))
 have e28:maybeP [115,105,110,107] 1000 0 r27=.ok (x.sink,r28):=e28
 have f28:Fin1 r28:=(maybeP_suf e28).2 f27
 obtain ⟨r29,e29,h29⟩:=part_rep h28 R.majority
 have e29:partP [109,97,106,111,114,105,116,121] 1 1000 r28=.ok (x.majority,r29):=e29
 have f29:Fin1 r29:=(partP_suf e29).2 f28
 obtain ⟨r30,e30,h30⟩:=part_rep h29 R.fast
 have e30:partP [102,97,115,116] 1 1000 r29=.ok (x.fast,r30):=e30
 have f30:Fin1 r30:=(partP_suf e30).2 f29
 obtain ⟨t,q,rfl,k1,_,_,_⟩:=reps_cons h30
 refine ⟨t::q,?_⟩
 have hk:(hdT (t::q)).kind=3:=k1
 simp only [indP,wantsP,e1,e2,e3,e4,e5,e6,e7,e8,e9,e10,e11,e12,e13,e14,e15,e16,e17,e18,e19,e20,e21,e22,e23,e24,e25,e26,e27,e28,e29,e30,ok_bind,er_bind]
 rw [if_pos hk]
theorem gd_kw {s:List UInt8} (h:s∈resW):GoodP (wP s):=good_kw h
theorem gd_sg {s:List UInt8} (h:s∈signs):GoodP (sP s):=good_sign h
theorem show_good {e:Exp} {d:Nat} (h:GoodL (bodyW d e)) (least:Int):GoodL (showW d e least):=parW_good h
theorem body_good {e:Exp} (h:WfE e):∀ d:Nat,GoodL (bodyW d e):=by
 induction h with
 | num n u h0 h1 hu =>
  intro d
  cases d with
  | zero=>exact .nil
  | succ d =>
   have hn:GoodP (nP n):=good_num h0 h1
   show GoodL (numW n u)
   unfold numW
   rw [if_neg (by omega)]
   split
   ·exact .cons hn (.cons (gd_kw dd0) .nil)
   split
   ·exact .cons hn (.cons (gd_kw dd0) .nil)
   split
   ·exact .cons hn (.cons (gd_kw dd0) .nil)
   ·exact .cons hn .nil
 | boo n h =>
  intro d
  cases d with
  | zero=>exact .nil
  | succ d =>
   rcases h with rfl | rfl
   ·exact .cons (gd_kw dd0) .nil
   ·exact .cons (gd_kw dd0) .nil
 | name op s ho hn hl =>
  intro d
  cases d with
  | zero=>exact .nil
  | succ d =>
   have hg:GoodP (wP s):=good_name hn
   rcases ho with rfl | rfl | rfl
   ·exact .cons hg .nil
   ·exact .cons (gd_kw dd0) (.cons hg .nil)
   ·exact .cons (gd_kw dd0) (.cons hg .nil)
 | within op n x ho hn hx ih =>
  intro d
  cases d with
  | zero=>exact .nil
  | succ d =>
   have hn:GoodP (nP n):=good_num (by omega) (by omega)
   have hs:=show_good (ih d) 0
   rcases ho with rfl | rfl | rfl
   ·exact ((GoodL.cons (gd_kw dd0) (.cons hn (.cons (gd_sg dd0) .nil))).app hs).app (.cons (gd_sg dd0) .nil)
   ·exact ((GoodL.cons (gd_kw dd0) (.cons hn (.cons (gd_sg dd0) .nil))).app hs).app (.cons (gd_sg dd0) .nil)
   ·exact ((GoodL.cons (gd_kw dd0) (.cons hn (.cons (gd_sg dd0) .nil))).app hs).app (.cons (gd_sg dd0) .nil)
 | not x hx ih =>
  intro d
  cases d with
  | zero=>exact .nil
  | succ d=>exact (GoodL.cons (gd_kw (by decide)) .nil).app (show_good (ih d) 3)
 | pair op x y ho hx hy ihx ihy =>
  intro d
  cases d with
  | zero=>exact .nil
  | succ d =>
   by_cases h:op=8∨op=9
   ·have sx:=show_good (ihx d) 0
    have sy:=show_good (ihy d) 0
    rcases h with rfl | rfl
    ·exact ((((GoodL.cons (gd_kw dd0) (.cons (gd_sg dd0) .nil)).app sx).app (.cons (gd_sg dd0) .nil)).app sy).app (.cons (gd_sg dd0) .nil)
    ·exact ((((GoodL.cons (gd_kw dd0) (.cons (gd_sg dd0) .nil)).app sx).app (.cons (gd_sg dd0) .nil)).app sy).app (.cons (gd_sg dd0) .nil)
   ·have hb:op=4∨op=5∨op=6∨op=7∨op=10∨op=11∨op=13∨op=14:=by omega
    rw [body_bin hb]
    have hN:opsN op=2:=by rcases hb with rfl | rfl | rfl | rfl | rfl | rfl | rfl | rfl<;>rfl
    exact (show_good (ihx d) _).app (.cons (good_opr hN om0 om0) (show_good (ihy d) _))
 | cond x y z hx hy hz ihx ihy ihz =>
  intro d
  cases d with
  | zero=>exact .nil
  | succ d=>exact (((((GoodL.cons (gd_kw (by decide)) .nil).app (show_good (ihx d) 0)).app (.cons (gd_kw (by decide)) .nil)).app (show_good (ihy d) 0)).app (.cons (gd_kw (by decide)) .nil)).app (show_good (ihz d) 0)
theorem exp_good {e:Exp} (h:rightE e=true):GoodL (showW 12 e 0):=show_good (body_good ((rightE_iff e).1 h).1 12) 0
def itemsL (l:List Pc):List (Pc×List UInt8):=l.map (fun x=>(x,[32]))++[(sP [59],[10])]
theorem lay_app:∀ (a b:List (Pc×List UInt8)),lay (a++b)=lay a++lay b
 | [],_=>rfl
 | x::a,b=>by
  rw [List.cons_append,lay,lay,lay_app a b,List.append_assoc,List.append_assoc]
theorem lay_map:∀ {l:List Pc},l≠[]→lay (l.map fun x=>(x,[32]))=joinP l++[32]
 | [],h=>(h rfl).elim
 | [x],_=>by simp [lay,joinP]
 | x::y::l,_=>by
  rw [joinP_cons x (by simp),List.map_cons,lay,lay_map (by simp)]
  simp
theorem lay_items {l:List Pc} (h:l≠[]):lay (itemsL l)=joinP l++[32,59,10]:=by
 unfold itemsL
 rw [lay_app,lay_map h]
 simp [lay,sP]
theorem layOk_of:∀ {l:List (Pc×List UInt8)},(∀ x∈l,GoodP x.1∧Blk x.2∧x.2≠[])→LayOk l
 | [],_=>trivial
 | x::l,h=>⟨(h x (by simp)).1,(h x (by simp)).2.1,.inr (h x (by simp)).2.2,layOk_of fun y hy=>h y (by simp [hy])⟩
theorem items_ok {l:List Pc} (h:GoodL l):∀ x∈itemsL l,GoodP x.1∧Blk x.2∧x.2≠[]:=by
 intro x hx
 unfold itemsL at hx
 have b32:Blk [32]:=fun c hc=>by rw [List.mem_singleton.1 hc];decide
 have b10:Blk [10]:=fun c hc=>by rw [List.mem_singleton.1 hc];decide
 rcases List.mem_append.1 hx with hx | hx
 ·obtain ⟨y,hy,rfl⟩:=List.mem_map.1 hx
  exact ⟨h y hy,b32,by simp⟩
 ·rw [List.mem_singleton.1 hx]
  exact ⟨gd_sg (by decide),b10,by simp⟩
def letL (x:LetE):List Pc:=wP [108,101,116]::wP x.name::sP [61]::showW 12 x.body 0
def covL (c:Cov):List Pc:=wP [99,111,118,101,110,97,110,116]::wP c.name::wP [109,117,115,116]::(showW 12 c.must 0++[wP [103,114,97,99,101],nP c.grace])
def callL (c:CallE):List Pc:=wP [99,97,108,108]::(dayP c.a++[wP [97,116],nP c.b])
def headL (x:Ind):List (List Pc):=[[wP [105,115,115,117,101],wP x.name,wP [111,102],wP x.issuer],[wP [102,97,99,101],nP x.face],
 wP [102,114,111,109]::(dayP x.frm++wP [116,111]::(dayP x.to++[wP [101,118,101,114,121],nP x.every,wP [109,111,110,116,104,115]])),
 [wP [99,111,117,110,116],wP (cntW.getD x.count.toNat [])],[wP [97,100,106,117,115,116],wP (adjW.getD x.adjust.toNat [])],[wP [114,101,99,111,114,100],nP x.record],[wP [114,97,110,107],nP x.rank]]
def midL (x:Ind):List (List Pc):=[wP [99,111,117,112,111,110]::showW 12 x.coupon 0,[wP [99,97,112],nP x.cap]]
def favLn (x:Ind):List (List Pc):=if 0<x.favour.length then [wP [102,97,118,111,117,114]::x.favour.map wP] else []
def croLn (x:Ind):List (List Pc):=if 0≤x.cross then [[wP [99,114,111,115,115],nP x.cross]] else []
def notLn (x:Ind):List (List Pc):=if 0<x.notice then [[wP [110,111,116,105,99,101],nP x.notice]] else []
def sinLn (x:Ind):List (List Pc):=if 0<x.sink then [[wP [115,105,110,107],nP x.sink]] else []
def endL (x:Ind):List (List Pc):=[[wP [109,97,106,111,114,105,116,121],nP x.majority],[wP [102,97,115,116],nP x.fast]]
def linesP (x:Ind):List (List Pc):=headL x++x.lets.map letL++midL x++x.cov.map covL++favLn x++croLn x++x.calls.map callL++notLn x++sinLn x++endL x
def LineEq (ws:List (List UInt8)) (l:List Pc):Prop:=lineT ws=lay (itemsL l)
theorem line_eq {ws:List (List UInt8)} {l:List Pc} (hl:l≠[]) (h:Lib.join ws [32]=joinP l):LineEq ws l:=by
 unfold LineEq lineT
 rw [lay_items hl,h]
theorem day_text (n:Int):joinP (dayP n)=dayT n:=by simp [joinP,dayP,dayT,nP,sP]
theorem let_eq {x:LetE} (h:rightE x.body=true):LineEq (letW x) (letL x):=by
 obtain ⟨t,ne⟩:=show_text (d:=12) h 0
 refine line_eq (by simp [letL]) ?_
 unfold letL
 rw [joinP_cons _ (by simp),joinP_cons _ (by simp),joinP_cons _ ne,t]
 simp [letW,Lib.join,wP,sP]
theorem cov_eq {c:Cov} (h:rightE c.must=true):LineEq (covW c) (covL c):=by
 obtain ⟨t,ne⟩:=show_text (d:=12) h 0
 refine line_eq (by simp [covL]) ?_
 unfold covL
 rw [joinP_cons _ (by simp),joinP_cons _ (by simp),joinP_cons _ (by simp),joinP_app ne (by simp),t]
 simp [covW,Lib.join,joinP,wP,nP]
theorem call_eq (c:CallE):LineEq (callW c) (callL c):=by
 refine line_eq (by simp [callL]) ?_
 unfold callL
 rw [joinP_cons _ (by simp),joinP_app (by simp [dayP]) (by simp),day_text]
 simp [callW,Lib.join,joinP,wP,nP]
inductive Fa2 {α β:Type} (R:α→β→Prop):List α→List β→Prop
 | nil:Fa2 R [] []
 | cons {a:α} {b:β} {l:List α} {m:List β} (h:R a b) (t:Fa2 R l m):Fa2 R (a::l) (b::m)
theorem lines_eq {x:Ind} (R:Rt x):txt (linesW x)=lay ((linesP x).flatMap itemsL):=by
 have key:∀ {A:List (List (List UInt8))} {B:List (List Pc)},Fa2 LineEq A B→txt A=lay (B.flatMap itemsL):=by
  intro A B h
  induction h with
  | nil=>rfl
  | cons h _ ih =>
   rw [List.flatMap_cons,lay_app,← ih,← h]
   simp [txt]
 have app:∀ {A A':List (List (List UInt8))} {B B':List (List Pc)},Fa2 LineEq A B→Fa2 LineEq A' B'→Fa2 LineEq (A++A') (B++B'):=by
  intro A A' B B' h h'
  induction h with
  | nil=>exact h'
  | cons h _ ih=>exact .cons h ih
 have mp:∀ {α:Type} {f:α→List (List UInt8)} {g:α→List Pc} (l:List α),(∀ a∈l,LineEq (f a) (g a))→Fa2 LineEq (l.map f) (l.map g):=by
  intro α f g l
  induction l with
  | nil=>intro _;exact .nil
  | cons a l ih=>intro h;exact .cons (h a (by simp)) (ih fun b hb=>h b (by simp [hb]))
 have two:∀ (s:List UInt8) (n:Int),LineEq [s,Lib.itoa n] [wP s,nP n]:=fun s n=>line_eq (by simp) (by simp [Lib.join,joinP,wP,nP])
 have wo:∀ (s t:List UInt8),LineEq [s,t] [wP s,wP t]:=fun s t=>line_eq (by simp) (by simp [Lib.join,joinP,wP])
 refine key ?_
 unfold linesW linesP
 refine app (app (app (app (app (app (app (app (app ?_ (mp _ fun a ha=>let_eq (R.lets a ha))) ?_) (mp _ fun a ha=>cov_eq (R.cov a ha).1)) ?_) ?_) (mp _ fun a _=>call_eq a)) ?_) ?_) ?_
 ·unfold headW headL
  refine .cons (line_eq (by simp) (by simp [Lib.join,joinP,wP])) (.cons (two _ _) (.cons ?_ (.cons (wo _ _) (.cons (wo _ _) (.cons (two _ _) (.cons (two _ _) .nil))))))
  refine line_eq (by simp) ?_
  rw [joinP_cons _ (by simp [dayP]),joinP_app (by simp [dayP]) (by simp),joinP_cons _ (by simp [dayP]),joinP_app (by simp [dayP]) (by simp),day_text,day_text]
  simp [Lib.join,joinP,wP,nP]
 ·obtain ⟨t,ne⟩:=show_text (d:=12) R.coupon 0
  unfold midW midL
  refine .cons (line_eq (by simp) ?_) (.cons (two _ _) .nil)
  rw [joinP_cons _ ne,t]
  simp [Lib.join,wP]
 ·unfold favW favLn
  split
  ·refine .cons (line_eq (by simp) ?_) .nil
   have:∀ l:List (List UInt8),Lib.joinTail [32] l=(l.map wP).flatMap fun y=>32::y.text:=by
    intro l
    induction l with
    | nil=>rfl
    | cons a l ih=>rw [List.map_cons,List.flatMap_cons,← ih];simp [Lib.joinTail,wP]
   rw [Lib.join_cons,this]
   rfl
  ·exact .nil
 ·unfold croW croLn
  split
  ·exact .cons (two _ _) .nil
  ·exact .nil
 ·unfold notW notLn
  split
  ·exact .cons (two _ _) .nil
  ·exact .nil
 ·unfold sinW sinLn
  split
  ·exact .cons (two _ _) .nil
  ·exact .nil
 ·exact .cons (two _ _) (.cons (two _ _) .nil)
theorem items_fst (L:List (List Pc)):(L.flatMap itemsL).map Prod.fst=L.flatMap fun l=>l++[sP [59]]:=by
 induction L with
 | nil=>rfl
 | cons l L ih =>
  rw [List.flatMap_cons,List.flatMap_cons,List.map_append,ih]
  congr 1
  unfold itemsL
  rw [List.map_append,List.map_map]
  have:(Prod.fst ∘ fun x:Pc=>(x,([32]:List UInt8)))=id:=rfl
  rw [this,List.map_id]
  rfl
theorem pieces_eq (x:Ind):((linesP x).flatMap itemsL).map Prod.fst++[endP]=indPc x:=by
 rw [items_fst]
 have e1:(x.lets.map letL).flatMap (fun l=>l++[sP [59]])=x.lets.flatMap letP:=by
  rw [List.flatMap_map]
  congr 1
 have e2:(x.cov.map covL).flatMap (fun l=>l++[sP [59]])=x.cov.flatMap covP:=by
  rw [List.flatMap_map]
  congr 1
  funext c
  simp [covL,covP]
 have e3:(x.calls.map callL).flatMap (fun l=>l++[sP [59]])=x.calls.flatMap callP:=by
  rw [List.flatMap_map]
  congr 1
 have e4:(favLn x).flatMap (fun l=>l++[sP [59]])=favPc x.favour:=by
  unfold favLn favPc
  split<;>simp
 have e5:(croLn x).flatMap (fun l=>l++[sP [59]])=croPc x:=by
  unfold croLn croPc
  split<;>simp
 have e6:(notLn x).flatMap (fun l=>l++[sP [59]])=notPc x:=by
  unfold notLn notPc
  split<;>simp
 have e7:(sinLn x).flatMap (fun l=>l++[sP [59]])=sinPc x:=by
  unfold sinLn sinPc
  split<;>simp
 unfold linesP
 simp only [List.flatMap_append,e1,e2,e3,e4,e5,e6,e7]
 unfold indPc tailPc headL midL endL
 simp
theorem day_good {n:Int} (h0:0≤n) (h1:n≤200000):GoodL (dayP n):=by
 obtain ⟨a,b,c⟩:=part_bnd h0 h1
 have ga:GoodP (nP (partY n)):=good_num a.1 a.2
 have gb:GoodP (nP (partM n)):=good_num b.1 b.2
 have gc:GoodP (nP (partD n)):=good_num c.1 c.2
 exact .cons ga (.cons (gd_sg dd0) (.cons gb (.cons (gd_sg dd0) (.cons gc .nil))))
theorem lines_good {x:Ind} (R:Rt x):∀ l∈linesP x,GoodL l:=by
 have gn:∀ {n:Int} (b:Int),0≤n∧n≤b→b≤1000000000000000→GoodP (nP n):=fun b h hb=>good_num h.1 (by omega)
 have gnm:∀ {s:List UInt8},nameB s=true→GoodP (wP s):=fun h=>good_name h
 have two:∀ {s:List UInt8} {n:Int} (b:Int),s∈resW→0≤n∧n≤b→b≤1000000000000000→GoodL [wP s,nP n]:=fun b hs h hb=>.cons (gd_kw hs) (.cons (gn b h hb) .nil)
 have hcnt:GoodP (wP (cntW.getD x.count.toNat [])):=by
  have h:=R.count
  have hi:x.count=0∨x.count=1∨x.count=2:=by omega
  rcases hi with e | e | e<;>rw [e]<;>exact gd_kw (by decide)
 have hadj:GoodP (wP (adjW.getD x.adjust.toNat [])):=by
  have h:=R.adjust
  have hi:x.adjust=0∨x.adjust=1∨x.adjust=2∨x.adjust=3:=by omega
  rcases hi with e | e | e | e<;>rw [e]<;>exact gd_kw (by decide)
 have ul:=(uniq_iff _ _).1 R.ulets
 have uc:=(uniq_iff _ _).1 R.ucov
 have uf:=(uniq_iff _ _).1 R.fav
 intro l hl
 unfold linesP at hl
 simp only [List.mem_append] at hl
 rcases hl with ((((((((hl | hl) | hl) | hl) | hl) | hl) | hl) | hl) | hl) | hl
 ·unfold headL at hl
  simp only [List.mem_cons,List.not_mem_nil,or_false] at hl
  rcases hl with rfl | rfl | rfl | rfl | rfl | rfl | rfl
  ·exact .cons (gd_kw dd0) (.cons (gnm R.name) (.cons (gd_kw dd0) (.cons (gnm R.issuer) .nil)))
  ·exact two _ dd0 ⟨by have:=R.face;omega,R.face.2⟩ om0
  ·exact .cons (gd_kw dd0) ((day_good R.frm.1 R.frm.2).app (.cons (gd_kw dd0) ((day_good R.to.1 R.to.2).app (.cons (gd_kw dd0) (.cons (gn 120 ⟨by have:=R.every;omega,R.every.2⟩ om0) (.cons (gd_kw dd0) .nil))))))
  ·exact .cons (gd_kw dd0) (.cons hcnt .nil)
  ·exact .cons (gd_kw dd0) (.cons hadj .nil)
  ·exact two _ dd0 R.record om0
  ·exact two _ dd0 R.rank om0
 ·obtain ⟨a,ha,rfl⟩:=List.mem_map.1 hl
  exact .cons (gd_kw dd0) (.cons (gnm (ul.1 _ (List.mem_map_of_mem ha))) (.cons (gd_sg dd0) (exp_good (R.lets a ha))))
 ·unfold midL at hl
  simp only [List.mem_cons,List.not_mem_nil,or_false] at hl
  rcases hl with rfl | rfl
  ·exact .cons (gd_kw dd0) (exp_good R.coupon)
  ·exact two _ dd0 R.cap om0
 ·obtain ⟨a,ha,rfl⟩:=List.mem_map.1 hl
  obtain ⟨h1,h2⟩:=R.cov a ha
  exact .cons (gd_kw dd0) (.cons (gnm (uc.1 _ (List.mem_map_of_mem ha))) (.cons (gd_kw dd0) ((exp_good h1).app (.cons (gd_kw dd0) (.cons (gn 1000 h2 om0) .nil)))))
 ·unfold favLn at hl
  split at hl
  ·rw [List.mem_singleton.1 hl]
   refine .cons (gd_kw dd0) fun y hy=>?_
   obtain ⟨s,hs,rfl⟩:=List.mem_map.1 hy
   exact gnm (uf.1 s hs)
  ·cases hl
 ·unfold croLn at hl
  split at hl
  ·rename_i h
   rw [List.mem_singleton.1 hl]
   exact two _ dd0 ⟨h,R.cross.2⟩ om0
  ·cases hl
 ·obtain ⟨a,ha,rfl⟩:=List.mem_map.1 hl
  obtain ⟨h1,h2⟩:=R.calls a ha
  exact .cons (gd_kw dd0) ((day_good h1.1 h1.2).app (.cons (gd_kw dd0) (.cons (gn 10000 h2 om0) .nil)))
 ·unfold notLn at hl
  split at hl
  ·rw [List.mem_singleton.1 hl]
   exact two _ dd0 R.notice om0
  ·cases hl
 ·unfold sinLn at hl
  split at hl
  ·rw [List.mem_singleton.1 hl]
   exact two _ dd0 R.sink om0
  ·cases hl
 ·unfold endL at hl
  simp only [List.mem_cons,List.not_mem_nil,or_false] at hl
  rcases hl with rfl | rfl
  ·exact two _ dd0 ⟨by have:=R.majority;omega,R.majority.2⟩ om0
  ·exact two _ dd0 ⟨by have:=R.fast;omega,R.fast.2⟩ om0
theorem lay_ok {x:Ind} (R:Rt x):LayOk ((linesP x).flatMap itemsL):=by
 refine layOk_of fun y hy=>?_
 obtain ⟨l,hl,hy⟩:=List.mem_flatMap.1 hy
 exact items_ok (lines_good R l hl) y hy
theorem parse_print {x:Ind} (R:Rt x) (hl:(txt (linesW x)).length≤4000):parseR (txt (linesW x))=.ok x:=by
 rw [lines_eq R] at hl ⊢
 obtain ⟨T,e1,hT⟩:=lexR_lay (lay_ok R) hl
 rw [pieces_eq] at hT
 have h:Reps (indPc x) T []:=⟨T,by simp,hT⟩
 obtain ⟨r1,e2⟩:=ind_rep R h (lexR_ok e1).fin
 unfold parseR
 rw [e1]
 dsimp only
 rw [e2]
def cmpK:List Str→List Str→List Str
 | [],_=>[]
 | _::_,[]=>[]
 | x::a,y::b=>if x=y then x::cmpK a b else if lcs (x::a) b≤lcs a (y::b) then cmpK a (y::b) else cmpK (x::a) b
termination_by a b=>a.length+b.length
theorem cmpK_nil_l (b:List Str):cmpK [] b=[]:=by rw [cmpK]
theorem cmpK_nil_r (a:List Str):cmpK a []=[]:=by cases a<;>rw [cmpK]
theorem cmpK_cons (x y:Str) (a b:List Str):cmpK (x::a) (y::b)=if x=y then x::cmpK a b else if lcs (x::a) b≤lcs a (y::b) then cmpK a (y::b) else cmpK (x::a) b:=by rw [cmpK]
theorem cmpK_len:∀ (a b:List Str),(cmpK a b).length=lcs a b
 | [],b=>by rw [cmpK_nil_l,lcs_nil_l];rfl
 | x::a,[]=>by rw [cmpK_nil_r,lcs_nil_r];rfl
 | x::a,y::b=>by
  have h1:=cmpK_len a b
  have h2:=cmpK_len a (y::b)
  have h3:=cmpK_len (x::a) b
  rw [cmpK_cons,lcs_cons]
  split
  ·rw [List.length_cons,h1]
  ·split
   ·rw [h2];omega
   ·rw [h3];omega
termination_by a b=>a.length+b.length
theorem cmpK_sub:∀ (a b:List Str),(cmpK a b).Sublist a∧(cmpK a b).Sublist b
 | [],b=>by rw [cmpK_nil_l];exact ⟨List.nil_sublist _,List.nil_sublist _⟩
 | x::a,[]=>by rw [cmpK_nil_r];exact ⟨List.nil_sublist _,List.nil_sublist _⟩
 | x::a,y::b=>by
  have h1:=cmpK_sub a b
  have h2:=cmpK_sub a (y::b)
  have h3:=cmpK_sub (x::a) b
  rw [cmpK_cons]
  split
  ·rename_i e
   subst e
   exact ⟨h1.1.cons_cons _,h1.2.cons_cons _⟩
  ·split
   ·exact ⟨h2.1.cons _,h2.2⟩
   ·exact ⟨h3.1,h3.2.cons _⟩
termination_by a b=>a.length+b.length
theorem sub_lcs:∀ (a b l:List Str),l.Sublist a→l.Sublist b→l.length≤lcs a b
 | [],b,l,h1,_=>by have:=h1.length_le;simp at this;simp [this]
 | x::a,[],l,_,h2=>by have:=h2.length_le;simp at this;simp [this]
 | x::a,y::b,l,h1,h2=>by
  have i1:=sub_lcs a b
  have i2:=sub_lcs a (y::b)
  have i3:=sub_lcs (x::a) b
  rw [lcs_cons]
  cases h1 with
  | cons _ h1 =>
   have k2:=i2 l h1 h2
   split
   ·rename_i e
    subst e
    cases h2 with
    | cons _ h2=>have:=i1 l h1 h2;omega
    | cons_cons _ h2 =>
     rename_i l'
     have:=i1 l' ((List.sublist_cons_self _ _).trans h1) h2
     simp;omega
   ·omega
  | cons_cons _ h1 =>
   rename_i l'
   split
   ·rename_i e
    subst e
    cases h2 with
    | cons _ h2 =>
     have:=i1 l' h1 ((List.sublist_cons_self _ _).trans h2)
     simp;omega
    | cons_cons _ h2 =>
     have:=i1 l' h1 h2
     simp;omega
   ·rename_i e
    cases h2 with
    | cons _ h2=>have:=i3 (x::l') (h1.cons_cons _) h2;omega
    | cons_cons _ h2=>exact absurd rfl e
termination_by a b=>a.length+b.length
def touchK (p:Str→Bool):List Str→List Str→Bool
 | [],[]=>false
 | x::a,[]=>p x||touchK p a []
 | [],y::b=>p y||touchK p [] b
 | x::a,y::b=>if x=y then touchK p a b else if lcs (x::a) b≤lcs a (y::b) then p x||touchK p a (y::b) else p y||touchK p (x::a) b
termination_by a b=>a.length+b.length
theorem touch_both (p:Str→Bool) (x y:Str) (a b:List Str):touchK p (x::a) (y::b)=if x=y then touchK p a b else if lcs (x::a) b≤lcs a (y::b) then p x||touchK p a (y::b) else p y||touchK p (x::a) b:=by rw [touchK]
theorem touch_left (p:Str→Bool) (x:Str) (a:List Str):touchK p (x::a) []=(p x||touchK p a []):=by rw [touchK]
theorem touch_right (p:Str→Bool) (y:Str) (b:List Str):touchK p [] (y::b)=(p y||touchK p [] b):=by rw [touchK]
theorem touch_nil (p:Str→Bool):touchK p [] []=false:=by rw [touchK]
theorem touch_filter (p:Str→Bool):∀ (a b:List Str),touchK p a b=false→a.filter p=b.filter p
 | [],[],_=>rfl
 | x::a,[],h=>by
  rw [touch_left,Bool.or_eq_false_iff] at h
  rw [List.filter_cons,if_neg (by rw [h.1];decide)]
  exact touch_filter p a [] h.2
 | [],y::b,h=>by
  rw [touch_right,Bool.or_eq_false_iff] at h
  rw [List.filter_cons (x:=y),if_neg (by rw [h.1];decide)]
  exact touch_filter p [] b h.2
 | x::a,y::b,h=>by
  have i1:=touch_filter p a b
  have i2:=touch_filter p a (y::b)
  have i3:=touch_filter p (x::a) b
  rw [touch_both] at h
  split at h
  ·rename_i e
   subst e
   rw [List.filter_cons,List.filter_cons,i1 h]
  ·split at h
   ·rw [Bool.or_eq_false_iff] at h
    rw [List.filter_cons (x:=x),if_neg (by rw [h.1];decide)]
    exact i2 h.2
   ·rw [Bool.or_eq_false_iff] at h
    rw [List.filter_cons (x:=y),if_neg (by rw [h.1];decide)]
    exact i3 h.2
termination_by a b=>a.length+b.length
theorem touch_none (p:Str→Bool):∀ (a b:List Str),a.countP p≤(cmpK a b).countP p→b.countP p≤(cmpK a b).countP p→touchK p a b=false
 | [],[],_,_=>touch_nil p
 | x::a,[],h1,_=>by
  have:=touch_none p a []
  rw [cmpK_nil_r] at h1 this
  rw [List.countP_cons] at h1
  rw [touch_left]
  simp at h1
  simp only [Bool.or_eq_false_iff]
  have hx:p x=false:=by cases h:p x with
   | false=>rfl
   | true=>simp [h] at h1
  exact ⟨hx,this (by simp;exact h1.1) (by simp)⟩
 | [],y::b,_,h2=>by
  have:=touch_none p [] b
  rw [cmpK_nil_l] at h2 this
  rw [List.countP_cons] at h2
  rw [touch_right]
  simp at h2
  simp only [Bool.or_eq_false_iff]
  have hx:p y=false:=by cases h:p y with
   | false=>rfl
   | true=>simp [h] at h2
  exact ⟨hx,this (by simp) (by simp;exact h2.1)⟩
 | x::a,y::b,h1,h2=>by
  have i1:=touch_none p a b
  have i2:=touch_none p a (y::b)
  have i3:=touch_none p (x::a) b
  have s2:=(cmpK_sub a (y::b)).1.countP_le (p:=p)
  have s3:=(cmpK_sub (x::a) b).2.countP_le (p:=p)
  rw [touch_both]
  rw [cmpK_cons] at h1 h2
  split
  ·rename_i e
   subst e
   rw [if_pos rfl] at h1 h2
   rw [List.countP_cons,List.countP_cons] at h1 h2
   exact i1 om0 om0
  ·rename_i e
   rw [if_neg e] at h1 h2
   split
   ·rename_i hl
    rw [if_pos hl] at h1 h2
    rw [List.countP_cons (l:=a)] at h1
    have hx:p x=false:=by cases h:p x with
     | false=>rfl
     | true=>simp [h] at h1;omega
    rw [Bool.or_eq_false_iff]
    exact ⟨hx,i2 (by rw [hx] at h1;simpa using h1) h2⟩
   ·rename_i hl
    rw [if_neg hl] at h1 h2
    rw [List.countP_cons (l:=b)] at h2
    have hx:p y=false:=by cases h:p y with
     | false=>rfl
     | true=>simp [h] at h2;omega
    rw [Bool.or_eq_false_iff]
    exact ⟨hx,i3 h1 (by rw [hx] at h2;simpa using h2)⟩
termination_by a b=>a.length+b.length
def tB (p:Str→Bool) (a b:List Str) (c:Chg):Bool :=
 (decide (c.n=-1)&&decide (0≤c.o)&&decide (c.o<(a.length:Int))&&p (a.getD c.o.toNat []))||(decide (c.o=-1)&&decide (0≤c.n)&&decide (c.n<(b.length:Int))&&p (b.getD c.n.toNat []))
theorem tB_left (p:Str→Bool) (a b:List Str) (i:Nat) (h:i<a.length):tB p a b ⟨i,-1⟩=p (a.getD i []):=by
 have e1:decide (0≤(i:Int))=true:=decide_eq_true (by omega)
 have e2:decide ((i:Int)<(a.length:Int))=true:=decide_eq_true (by omega)
 have e3:decide ((i:Int)=-1)=false:=decide_eq_false (by omega)
 simp only [tB,e1,e2,e3,Int.toNat_natCast]
 simp
theorem tB_right (p:Str→Bool) (a b:List Str) (k:Nat) (h:k<b.length):tB p a b ⟨-1,k⟩=p (b.getD k []):=by
 have e1:decide (0≤(k:Int))=true:=decide_eq_true (by omega)
 have e2:decide ((k:Int)<(b.length:Int))=true:=decide_eq_true (by omega)
 have e3:decide ((k:Int)=-1)=false:=decide_eq_false (by omega)
 simp only [tB,e1,e2,e3,Int.toNat_natCast]
 simp
theorem drop_cons {a:List Str} {i:Nat} {x:Str} {u:List Str} (h:a.drop i=x::u):i<a.length∧a.getD i []=x∧a.drop (i+1)=u:=by
 have hi:i<a.length:=by
  apply Classical.byContradiction
  intro hn
  rw [List.drop_eq_nil_of_le (by omega)] at h
  cases h
 rw [drop_at [] hi] at h
 injection h with h1 h2
 exact ⟨hi,h1,h2⟩
theorem touch_cmp (p:Str→Bool) (a b:List Str):∀ (u v:List Str) (i k:Nat),a.drop i=u→b.drop k=v→(cmp u v i k).any (tB p a b)=touchK p u v
 | [],[],i,k,_,_=>by rw [cmp_nil,touch_nil];rfl
 | x::u,[],i,k,h1,h2=>by
  obtain ⟨hi,hx,h3⟩:=drop_cons h1
  have ih:=touch_cmp p a b u [] (i+1) k h3 h2
  rw [cmp_left,touch_left,List.any_cons]
  rw [show (i:Int)+1=((i+1:Nat):Int) by omega,ih]
  rw [tB_left p a b i hi,hx]
 | [],y::v,i,k,h1,h2=>by
  obtain ⟨hk,hy,h3⟩:=drop_cons h2
  have ih:=touch_cmp p a b [] v i (k+1) h1 h3
  rw [cmp_right,touch_right,List.any_cons]
  rw [show (k:Int)+1=((k+1:Nat):Int) by omega,ih]
  rw [tB_right p a b k hk,hy]
 | x::u,y::v,i,k,h1,h2=>by
  obtain ⟨hi,hx,h3⟩:=drop_cons h1
  obtain ⟨hk,hy,h4⟩:=drop_cons h2
  have i1:=touch_cmp p a b u v (i+1) (k+1) h3 h4
  have i2:=touch_cmp p a b u (y::v) (i+1) k h3 h2
  have i3:=touch_cmp p a b (x::u) v i (k+1) h1 h4
  rw [cmp_both,touch_both]
  rw [show (i:Int)+1=((i+1:Nat):Int) by omega,show (k:Int)+1=((k+1:Nat):Int) by omega]
  split
  ·rw [List.any_cons,i1]
   have:tB p a b ⟨i,k⟩=false:=by
    simp only [tB,Bool.or_eq_false_iff,Bool.and_eq_false_iff,decide_eq_false_iff_not]
    omega
   rw [this]
   rfl
  ·split
   ·rw [List.any_cons,i2]
    rw [tB_left p a b i hi,hx]
   ·rw [List.any_cons,i3]
    rw [tB_right p a b k hk,hy]
termination_by u v=>u.length+v.length
theorem touch_any (p:Str→Bool) (a b:List Str):(compareL a b).any (tB p a b)=touchK p a b:=touch_cmp p a b a b 0 0 rfl rfl
theorem flat_sub {α:Type} {f g:Nat→List α}:∀ n,(∀ c<n,(f c).Sublist (g c))→((List.range n).flatMap f).Sublist ((List.range n).flatMap g)
 | 0,_=>List.Sublist.refl _
 | n+1,h=>by
  rw [List.range_succ,List.flatMap_append,List.flatMap_append]
  exact (flat_sub n fun c hc=>h c (by omega)).append (by simpa using h n (by omega))
theorem flat_cong {α:Type} {f g:Nat→List α}:∀ n,(∀ c<n,f c=g c)→(List.range n).flatMap f=(List.range n).flatMap g
 | 0,_=>rfl
 | n+1,h=>by
  rw [List.range_succ,List.flatMap_append,List.flatMap_append,flat_cong n fun c hc=>h c (by omega)]
  simp [h n (by omega)]
theorem flat_eq {α:Type} {f g:Nat→List α}:∀ n,(∀ c<n,(f c).length≤(g c).length)→((List.range n).flatMap f).length≤((List.range n).flatMap g).length∧(((List.range n).flatMap g).length≤((List.range n).flatMap f).length→∀ c<n,(f c).length=(g c).length)
 | 0,_=>⟨Nat.le_refl _,fun _ c hc=>by omega⟩
 | n+1,h=>by
  obtain ⟨h1,h2⟩:=flat_eq n fun c hc=>h c (by omega)
  have h3:=h n (by omega)
  rw [List.range_succ,List.flatMap_append,List.flatMap_append,List.length_append,List.length_append]
  simp only [List.flatMap_cons,List.flatMap_nil,List.append_nil]
  refine ⟨by omega,fun hle c hc=>?_⟩
  by_cases e:c=n
  ·subst e;omega
  ·exact h2 om0 c om0
theorem split_at {α:Type} (kd:α→Nat) (n:Nat):∀ (a:List α),a.Pairwise (fun x y=>kd x≤kd y)→(∀ x∈a,kd x<n+1)→a=a.filter (fun x=>decide (kd x<n))++a.filter (fun x=>decide (kd x=n))
 | [],_,_=>rfl
 | x::a,hs,hb=>by
  have hs':=List.pairwise_cons.1 hs
  have ih:=split_at kd n a hs'.2 fun y hy=>hb y (List.mem_cons_of_mem _ hy)
  have hx:=hb x List.mem_cons_self
  by_cases e:kd x<n
  ·rw [List.filter_cons,List.filter_cons,if_pos (decide_eq_true e),if_neg (by simp;omega),List.cons_append,← ih]
  ·have hn:kd x=n:=by omega
   have hall:∀ y∈a,kd y=n:=fun y hy=>by
    have h1:=hs'.1 y hy
    have h2:=hb y (List.mem_cons_of_mem _ hy)
    omega
   have e1:a.filter (fun x=>decide (kd x<n))=[]:=List.filter_eq_nil_iff.2 fun y hy=>by have:=hall y hy;simp;omega
   have e2:a.filter (fun x=>decide (kd x=n))=a:=List.filter_eq_self.2 fun y hy=>by simp [hall y hy]
   rw [List.filter_cons,List.filter_cons,if_neg (by simp;omega),if_pos (decide_eq_true hn),e1,e2]
   rfl
theorem sorted_flat {α:Type} (kd:α→Nat):∀ (n:Nat) (a:List α),a.Pairwise (fun x y=>kd x≤kd y)→(∀ x∈a,kd x<n)→a=(List.range n).flatMap fun c=>a.filter (fun x=>decide (kd x=c))
 | 0,a,_,hb=>by
  cases a with
  | nil=>rfl
  | cons x a=>exact absurd (hb x List.mem_cons_self) (by omega)
 | n+1,a,hs,hb=>by
  have h:=split_at kd n a hs hb
  have ih:=sorted_flat kd n (a.filter fun x=>decide (kd x<n)) (hs.sublist (List.filter_sublist)) (fun x hx=>by simpa using (List.mem_filter.1 hx).2)
  rw [List.range_succ,List.flatMap_append]
  simp only [List.flatMap_cons,List.flatMap_nil,List.append_nil]
  refine h.trans ?_
  rw [ih]
  congr 1
  ·refine flat_cong n fun c hc=>?_
   rw [List.filter_filter]
   refine List.filter_congr fun x _=>?_
   by_cases e:kd x=c
   ·simp [e];omega
   ·simp [e]
theorem touch_kinds (kd:Str→Nat) (rs:Nat→Bool) (n:Nat) (a b:List Str) (ha:a.Pairwise (fun x y=>kd x≤kd y)) (hb:b.Pairwise (fun x y=>kd x≤kd y)) (na:∀ x∈a,kd x<n) (nb:∀ x∈b,kd x<n)
  (hf:a.filter (fun x=>rs (kd x))=b.filter (fun x=>rs (kd x))):touchK (fun x=>rs (kd x)) a b=false:=by
 obtain ⟨s1,s2⟩:=cmpK_sub a b
 have hK:=cmpK_len a b
 generalize hKe:cmpK a b=K at *
 have fa:=sorted_flat kd n a ha na
 have fb:=sorted_flat kd n b hb nb
 have fK:=sorted_flat kd n K (ha.sublist s1) fun x hx=>na x (s1.subset hx)
 have same:∀ c,rs c=true→a.filter (fun x=>decide (kd x=c))=b.filter (fun x=>decide (kd x=c)):=fun c hc=>by
  have e:∀ l:List Str,(l.filter fun x=>rs (kd x)).filter (fun x=>decide (kd x=c))=l.filter (fun x=>decide (kd x=c)):=fun l=>by
   rw [List.filter_filter]
   refine List.filter_congr fun x _=>?_
   by_cases e:kd x=c
   ·simp [e,hc]
   ·simp [e]
  rw [← e a,← e b,hf]
 let M:=fun c=>if rs c=true then a.filter (fun x=>decide (kd x=c)) else K.filter (fun x=>decide (kd x=c))
 have m1:((List.range n).flatMap M).Sublist a:=by
  refine (flat_sub (g:=fun c=>a.filter (fun x=>decide (kd x=c))) n fun c _=>?_).trans (by rw [← fa];exact List.Sublist.refl _)
  show List.Sublist (if rs c=true then a.filter (fun x=>decide (kd x=c)) else K.filter (fun x=>decide (kd x=c))) _
  split
  ·exact List.Sublist.refl _
  ·exact s1.filter _
 have m2:((List.range n).flatMap M).Sublist b:=by
  refine (flat_sub (g:=fun c=>b.filter (fun x=>decide (kd x=c))) n fun c _=>?_).trans (by rw [← fb];exact List.Sublist.refl _)
  show List.Sublist (if rs c=true then a.filter (fun x=>decide (kd x=c)) else K.filter (fun x=>decide (kd x=c))) _
  split
  ·rename_i h;rw [same c h];exact List.Sublist.refl _
  ·exact s2.filter _
 have hle:=sub_lcs a b _ m1 m2
 have hcs:∀ c<n,(K.filter (fun x=>decide (kd x=c))).length≤(M c).length:=fun c _=>by
  show _≤(if rs c=true then a.filter (fun x=>decide (kd x=c)) else K.filter (fun x=>decide (kd x=c))).length
  split
  ·exact (s1.filter _).length_le
  ·exact Nat.le_refl _
 have heq:=(flat_eq n hcs).2 (by rw [← fK,hK];exact hle)
 have hKa:∀ c<n,rs c=true→K.filter (fun x=>decide (kd x=c))=a.filter (fun x=>decide (kd x=c)):=fun c hc h=>by
  have:=heq c hc
  refine (s1.filter _).eq_of_length ?_
  rw [this]
  show (if rs c=true then a.filter (fun x=>decide (kd x=c)) else K.filter (fun x=>decide (kd x=c))).length=_
  rw [if_pos h]
 have hall:∀ l:List Str,l=(List.range n).flatMap (fun c=>l.filter (fun x=>decide (kd x=c)))→l.filter (fun x=>rs (kd x))=(List.range n).flatMap fun c=>if rs c=true then l.filter (fun x=>decide (kd x=c)) else []:=fun l h=>by
  conv=>lhs;rw [h]
  rw [List.filter_flatMap]
  refine flat_cong n fun c _=>?_
  rw [List.filter_filter]
  split
  ·rename_i hr
   refine List.filter_congr fun x _=>?_
   by_cases e:kd x=c
   ·simp [e,hr]
   ·simp [e]
  ·rename_i hr
   refine List.filter_eq_nil_iff.2 fun x _=>?_
   by_cases e:kd x=c
   ·simp [e,hr]
   ·simp [e]
 have hfin:K.filter (fun x=>rs (kd x))=a.filter (fun x=>rs (kd x)):=by
  rw [hall K fK,hall a fa]
  refine flat_cong n fun c hc=>?_
  split
  ·rename_i h;exact hKa c hc h
  ·rfl
 refine touch_none _ a b ?_ ?_
 ·rw [hKe,List.countP_eq_length_filter,List.countP_eq_length_filter,hfin];exact Nat.le_refl _
 ·rw [hKe,List.countP_eq_length_filter,List.countP_eq_length_filter,hfin,hf];exact Nat.le_refl _
def startsB (s w:List UInt8):Bool:=decide (w.length≤s.length)&&decide (s.take w.length=w)
theorem starts_ok (s w:List UInt8) (hs:s.length≤9223372036854775807) (hw:w.length≤9223372036854775807):APureV Tryz.prog 56 [.str s,.str w] (.bool (startsB s w)):=by
 refine aO (cxOk 16 [0,1,4,9]) Tryz.func56 ?_
 conv=>whnf
 refine ⟨fun hc=>?_,fun hc=>?_⟩
 ·have hc:=of_decide_eq_true hc
  have:startsB s w=false:=by
   unfold startsB
   rw [decide_eq_false (by omega)]
   rfl
  rw [this]
  conv=>whnf
  rfl
 ·have hc:=of_decide_eq_false hc
  have:startsB s w=decide (s.take w.length=w):=by
   unfold startsB
   rw [decide_eq_true (by omega)]
   rfl
  rw [this]
  conv=>whnf
  refine iO ?_;conv=>whnf
  rfl
def wFace:List UInt8:=[102,97,99,101,32]
def wLet:List UInt8:=[108,101,116,32]
def wCoupon:List UInt8:=[99,111,117,112,111,110,32]
def wCap:List UInt8:=[99,97,112,32]
def wRank:List UInt8:=[114,97,110,107,32]
def wMajority:List UInt8:=[109,97,106,111,114,105,116,121,32]
def resvB (s:List UInt8):Bool:=startsB s wFace||startsB s wLet||startsB s wCoupon||startsB s wCap||startsB s wRank||startsB s wMajority
theorem resv_ok (s:List UInt8) (hs:s.length≤9223372036854775807):APureV Tryz.prog 22 [.str s] (.bool (resvB s)):=by
 have h1:=starts_ok s wFace hs (by decide)
 have h2:=starts_ok s wLet hs (by decide)
 have h3:=starts_ok s wCoupon hs (by decide)
 have h4:=starts_ok s wCap hs (by decide)
 have h5:=starts_ok s wRank hs (by decide)
 have h6:=starts_ok s wMajority hs (by decide)
 refine aO (cxOk 25 [0,2]) Tryz.func22 ?_
 conv=>whnf
 refine cO (fun _=>h1) ?_
 conv=>whnf
 refine cO (fun _=>h2) ?_
 conv=>whnf
 refine cO (fun _=>h3) ?_
 conv=>whnf
 refine cO (fun _=>h4) ?_
 conv=>whnf
 refine cO (fun _=>h5) ?_
 conv=>whnf
 refine cO (fun _=>h6) ?_
 conv=>whnf
 rfl
def joinedL (l:List (List UInt8)):List UInt8:=(l.map fun s=>s++[10]).flatten
theorem joinedL_take {l:List (List UInt8)} {k:Nat} (h:k<l.length):joinedL (l.take (k+1))=joinedL (l.take k)++l.getD k []++[10]:=by
 rw [take_getD (d:=[]) h]
 unfold joinedL
 simp
theorem joinedL_le (l:List (List UInt8)) (k:Nat):(joinedL (l.take k)).length≤(joinedL l).length:=by
 unfold joinedL
 conv=>rhs;rw [← List.take_append_drop k l,List.map_append,List.flatten_append,List.length_append]
 omega
theorem joined_ok (l:List (List UInt8)) (hl:l.length≤100000) (hj:(joinedL l).length≤100000):APureV Tryz.prog 20 [encSs l] (.str (joinedL l)):=by
 refine aO (cxOk 19 [0,2,3,4,8]) Tryz.func20 ?_
 conv=>whnf
 refine loop_up (cxOk _ _) l.length (fun _=>True) (fun k=>⟨[(0,encSs l),(3,.str (joinedL (l.take k))),(4,.int .i64 (k:Nat))],[],0⟩) trivial (wk_of [] rfl ⟨wa0,wa0,wa0,trivial⟩ trivial) ?_
 intro k hk _
 conv=>whnf
 refine ⟨fun hc=>?_,fun hc=>?_⟩
 ·have hc:=of_decide_eq_true hc
  have hlt:k<l.length:=by omega
  have hek:(k:Int).toNat=k:=Int.toNat_natCast k
  have hst:=joinedL_take hlt
  have h1:=joinedL_le l (k+1)
  rw [hst] at h1
  simp only [List.length_append,List.length_cons,List.length_nil] at h1
  conv=>whnf
  refine iO ?_;conv=>whnf
  refine And.intro rfl ?_;conv=>whnf
  rw [hek]
  refine And.intro (show (((joinedL (l.take k)).length+(l.getD k []).length:Nat):Int)≤9223372036854775807 by omega) ?_
  conv=>whnf
  refine And.intro (show ((((joinedL (l.take k))++(l.getD k [])).length+1:Nat):Int)≤9223372036854775807 by rw [List.length_append];omega) ?_
  conv=>whnf
  refine iO ?_;conv=>whnf
  refine up hlt trivial ((wk_of [] rfl ⟨wa0,.base (.tree _ _ (congrArg AV.str hst.symm) rfl),wa0,trivial⟩ trivial))
 ·have hc:=of_decide_eq_false hc
  obtain rfl:k=l.length:=by omega
  conv=>whnf
  rw [List.take_length]
  rfl
def clauseP (l:List Pc):List UInt8:=joinP l++[32,59]
theorem lay_clause {l:List Pc} (h:l≠[]):lay (itemsL l)=clauseP l++[10]:=by rw [lay_items h];unfold clauseP;simp
theorem next_no {s:List UInt8} {t:Tok} (h:nextR s=.ok t):∀ c∈t.text,c≠10:=by
 have ld:∀ c:UInt8,(letB (c.toNat:Int)||digB (c.toNat:Int))=true→c≠10:=by
  rintro c hc rfl
  revert hc
  decide
 have span:∀ {p:Int→Bool} {s:List UInt8},∀ c∈s.take (spanN p s),p (c.toNat:Int)=true:=by
  intro p s c hc
  unfold spanN at hc
  rw [(List.prefix_iff_eq_take.1 (List.takeWhile_prefix (fun b:UInt8=>p (b.toNat:Int)) (l:=s))).symm] at hc
  exact (List.all_eq_true.1 (List.all_takeWhile (p:=fun b:UInt8=>p (b.toNat:Int)) (l:=s))) _ hc
 unfold nextR at h
 split at h
 ·split at h
  ·cases h
   intro c hc
   exact ld c (span c hc)
  ·cases h
 ·split at h
  ·split at h
   ·cases h
    intro c hc
    have hd:digB (c.toNat:Int)=true:=span (p:=digB) c hc
    exact ld c (by rw [hd,Bool.or_true])
   ·cases h
  ·split at h
   ·rename_i p hp
    cases h
    have hm:=List.mem_of_find?_eq_some hp
    have:∀ q∈signs,∀ c∈q,c≠10:=by decide
    exact this p hm
   ·cases h
theorem good_no {x:Pc} (h:GoodP x):∀ c∈x.text,c≠10:=next_no (h.rd [] (.inl rfl))
theorem join_no:∀ {l:List Pc},GoodL l→∀ c∈joinP l,c≠10
 | [],_,c,hc=>by simp [joinP] at hc
 | [x],h,c,hc=>by rw [joinP_one] at hc;exact good_no (h x (by simp)) c hc
 | x::y::l,h,c,hc=>by
  rw [joinP_cons x (by simp)] at hc
  rcases List.mem_append.1 hc with hc | hc
  ·rcases List.mem_append.1 hc with hc | hc
   ·exact good_no (h x (by simp)) c hc
   ·rw [List.mem_singleton.1 hc];decide
  ·exact join_no (fun z hz=>h z (List.mem_cons_of_mem _ hz)) c hc
theorem clause_no {l:List Pc} (h:GoodL l):∀ c∈clauseP l,c≠10:=fun c hc=>by
 unfold clauseP at hc
 rcases List.mem_append.1 hc with hc | hc
 ·exact join_no h c hc
 ·simp at hc
  rcases hc with rfl | rfl<;>decide
theorem cut_one:∀ (s r acc:List UInt8),(∀ c∈s,c≠10)→cutL (s++[10]++r) acc=(acc++s)::cutL r []
 | [],r,acc,_=>by simp [cutL]
 | c::s,r,acc,h=>by
  have hc:=h c (by simp)
  have ih:=cut_one s r (acc++[c]) fun d hd=>h d (by simp [hd])
  simp only [List.cons_append,cutL]
  rw [if_neg hc]
  rw [ih]
  simp
theorem cut_lines:∀ (L:List (List Pc)),(∀ l∈L,l≠[]∧GoodL l)→cutL (lay (L.flatMap itemsL)) []=L.map clauseP∧joinedL (L.map clauseP)=lay (L.flatMap itemsL)
 | [],_=>⟨rfl,rfl⟩
 | l::L,h=>by
  obtain ⟨i1,i2⟩:=cut_lines L fun m hm=>h m (by simp [hm])
  have hl:=h l (by simp)
  rw [List.flatMap_cons,lay_app,lay_clause hl.1]
  refine ⟨?_,?_⟩
  ·rw [cut_one _ _ _ (clause_no hl.2),i1]
   rfl
  ·rw [← i2]
   unfold joinedL
   simp
theorem lines_ne (x:Ind):∀ l∈linesP x,l≠[]:=by
 intro l hl e
 subst e
 unfold linesP headL midL endL favLn croLn notLn sinLn at hl
 simp only [List.mem_append,List.mem_map] at hl
 rcases hl with ((((((((hl | ⟨a,_,hl⟩) | hl) | ⟨a,_,hl⟩) | hl) | hl) | ⟨a,_,hl⟩) | hl) | hl) | hl
 ·simp at hl
 ·simp [letL] at hl
 ·simp at hl
 ·simp [covL] at hl
 ·split at hl<;>simp at hl
 ·split at hl<;>simp at hl
 ·simp [callL] at hl
 ·split at hl<;>simp at hl
 ·split at hl<;>simp at hl
 ·simp at hl
theorem clause_inj {l m:List Pc} (hl:l≠[]) (hm:m≠[]) (gl:GoodL l) (gm:GoodL m) (h4:(clauseP l).length<4000) (h:clauseP l=clauseP m):l=m:=by
 have e1:=lay_clause hl
 have e2:=lay_clause hm
 have ok1:LayOk (itemsL l):=layOk_of (items_ok gl)
 have ok2:LayOk (itemsL m):=layOk_of (items_ok gm)
 obtain ⟨T1,a1,b1⟩:=lexR_lay ok1 (by rw [e1];simp;omega)
 obtain ⟨T2,a2,b2⟩:=lexR_lay ok2 (by rw [e2,← h];simp;omega)
 rw [e1,h,← e2,a2] at a1
 cases a1
 have h3:=b1.symm.trans b2
 have hf:∀ k:List Pc,(itemsL k).map Prod.fst=k++[sP [59]]:=fun k=>by
  unfold itemsL
  rw [List.map_append,List.map_map]
  have:(Prod.fst ∘ fun x:Pc=>(x,([32]:List UInt8)))=id:=rfl
  rw [this,List.map_id]
  rfl
 rw [hf,hf] at h3
 exact List.append_cancel_right (List.append_cancel_right h3)
def kwL:List (List UInt8):=[[105,115,115,117,101],[102,97,99,101],[102,114,111,109],[99,111,117,110,116],[97,100,106,117,115,116],[114,101,99,111,114,100],[114,97,110,107],[108,101,116],[99,111,117,112,111,110],[99,97,112],[99,111,118,101,110,97,110,116],[102,97,118,111,117,114],[99,114,111,115,115],[99,97,108,108],[110,111,116,105,99,101],[115,105,110,107],[109,97,106,111,114,105,116,121],[102,97,115,116]]
def wdL (s:List UInt8):List UInt8:=s.takeWhile (fun c=>c != 32)
def kd (s:List UInt8):Nat:=kwL.idxOf (wdL s)
def rs (k:Nat):Bool:=decide (k∈[1,6,7,8,9,16])
theorem kw_no:∀ w∈kwL,∀ c∈w,(c != 32)=true:=by decide
theorem clause_first (w:List UInt8) {rest:List Pc} (hr:rest≠[]):clauseP (wP w::rest)=w++32::(joinP rest++[32,59]):=by
 unfold clauseP
 rw [joinP_cons _ hr]
 simp [wP]
theorem tw_app (w r:List UInt8) (h:∀ c∈w,(c != 32)=true):(w++32::r).takeWhile (fun c=>c != 32)=w:=by
 rw [List.takeWhile_append_of_pos h]
 simp
theorem starts_first (w v r:List UInt8) (hw:∀ c∈w,(c != 32)=true) (hv:∀ c∈v,(c != 32)=true):startsB (w++32::r) (v++[32])=decide (v=w):=by
 rw [Bool.eq_iff_iff]
 unfold startsB
 simp only [Bool.and_eq_true,decide_eq_true_eq]
 constructor
 ·rintro ⟨_,h⟩
  have h2:=List.take_append_drop (v++[32]).length (w++32::r)
  rw [h] at h2
  have h3:=congrArg (List.takeWhile fun c=>c != 32) h2
  rw [tw_app w r hw,List.append_assoc,List.singleton_append,tw_app v _ hv] at h3
  exact h3
 ·rintro rfl
  constructor
  ·simp
  ·rw [show v++32::r=(v++[32])++r by simp,List.take_left]
def LineK (l:List Pc) (k:Nat):Prop:=∃ w rest,l=wP w::rest∧rest≠[]∧w∈kwL∧kwL.idxOf w=k
theorem LineK.kd {l:List Pc} {k:Nat} (h:LineK l k):kd (clauseP l)=k:=by
 obtain ⟨w,rest,rfl,hr,hw,hk⟩:=h
 unfold YtohankpncipefaaGreatDoor.kd wdL
 rw [clause_first w hr,tw_app w _ (kw_no w hw),hk]
theorem LineK.resv {l:List Pc} {k:Nat} (h:LineK l k):resvB (clauseP l)=rs k:=by
 obtain ⟨w,rest,rfl,hr,hw,rfl⟩:=h
 rw [clause_first w hr]
 have hn:=kw_no w hw
 have key:∀ v:List UInt8,(∀ c∈v,(c != 32)=true)→startsB (w++32::(joinP rest++[32,59])) (v++[32])=decide (v=w):=fun v hv=>starts_first w v _ hn hv
 have k1:=key [102,97,99,101] (by decide)
 have k2:=key [108,101,116] (by decide)
 have k3:=key [99,111,117,112,111,110] (by decide)
 have k4:=key [99,97,112] (by decide)
 have k5:=key [114,97,110,107] (by decide)
 have k6:=key [109,97,106,111,114,105,116,121] (by decide)
 have e:resvB (w++32::(joinP rest++[32,59]))=(decide ([102,97,99,101]=w)||decide ([108,101,116]=w)||decide ([99,111,117,112,111,110]=w)||decide ([99,97,112]=w)||decide ([114,97,110,107]=w)||decide ([109,97,106,111,114,105,116,121]=w)):=by
  rw [← k1,← k2,← k3,← k4,← k5,← k6]
  rfl
 rw [e]
 clear e key k1 k2 k3 k4 k5 k6 hn hr
 revert w
 decide
def Bl (lo hi:Nat) (L:List (List Pc)):Prop:=(L.map fun l=>kd (clauseP l)).Pairwise (·≤·)∧∀ l∈L,lo≤kd (clauseP l)∧kd (clauseP l)≤hi
theorem Bl.app {lo m m' hi:Nat} {A B:List (List Pc)} (h1:Bl lo m A) (h2:Bl m' hi B) (hm:m≤m') (hl:lo≤m') (hh:m≤hi):Bl lo hi (A++B):=by
 refine ⟨?_,fun l hl'=>?_⟩
 ·rw [List.map_append,List.pairwise_append]
  refine ⟨h1.1,h2.1,fun a ha b hb=>?_⟩
  obtain ⟨x,hx,rfl⟩:=List.mem_map.1 ha
  obtain ⟨y,hy,rfl⟩:=List.mem_map.1 hb
  have:=(h1.2 x hx).2
  have:=(h2.2 y hy).1
  omega
 ·rcases List.mem_append.1 hl' with h | h
  ·have:=h1.2 l h;omega
  ·have:=h2.2 l h;omega
theorem Bl.all {k:Nat} {L:List (List Pc)} (h:∀ l∈L,LineK l k):Bl k k L:=by
 refine ⟨?_,fun l hl=>by rw [(h l hl).kd];omega⟩
 have:L.map (fun l=>YtohankpncipefaaGreatDoor.kd (clauseP l))=List.replicate L.length k:=by
  refine List.eq_replicate_iff.2 ⟨by simp,fun b hb=>?_⟩
  obtain ⟨x,hx,rfl⟩:=List.mem_map.1 hb
  exact (h x hx).kd
 rw [this]
 exact List.pairwise_replicate.2 (.inr (Nat.le_refl _))
theorem Bl.one {k:Nat} {l:List Pc} (h:LineK l k):Bl k k [l]:=Bl.all fun m hm=>by rw [List.mem_singleton.1 hm];exact h
theorem lk (w:List UInt8) (rest:List Pc) (hr:rest≠[]) {k:Nat} (hw:w∈kwL:=by decide) (hk:kwL.idxOf w=k:=by decide):LineK (wP w::rest) k:=⟨w,rest,rfl,hr,hw,hk⟩
theorem lk_let (a:LetE):LineK (letL a) 7:=lk _ _ (by simp)
theorem lk_cov (a:Cov):LineK (covL a) 10:=lk _ _ (by simp)
theorem lk_call (a:CallE):LineK (callL a) 13:=lk _ _ (by simp [dayP])
theorem lk_opt {c:Prop} [Decidable c] {l:List Pc} {k:Nat} (h:c→LineK l k):∀ m∈(if c then [l] else []),LineK m k:=fun m hm=>by
 split at hm
 ·rename_i hc
  rw [List.mem_singleton.1 hm]
  exact h hc
 ·cases hm
theorem head_bl (x:Ind):Bl 0 6 (headL x):=by
 have h0:LineK [wP [105,115,115,117,101],wP x.name,wP [111,102],wP x.issuer] 0:=lk _ _ (by simp)
 have h1:LineK [wP [102,97,99,101],nP x.face] 1:=lk _ _ (by simp)
 have h2:LineK (wP [102,114,111,109]::(dayP x.frm++wP [116,111]::(dayP x.to++[wP [101,118,101,114,121],nP x.every,wP [109,111,110,116,104,115]]))) 2:=lk _ _ (by simp)
 have h3:LineK [wP [99,111,117,110,116],wP (cntW.getD x.count.toNat [])] 3:=lk _ _ (by simp)
 have h4:LineK [wP [97,100,106,117,115,116],wP (adjW.getD x.adjust.toNat [])] 4:=lk _ _ (by simp)
 have h5:LineK [wP [114,101,99,111,114,100],nP x.record] 5:=lk _ _ (by simp)
 have h6:LineK [wP [114,97,110,107],nP x.rank] 6:=lk _ _ (by simp)
 unfold headL
 exact (Bl.one h0).app ((Bl.one h1).app ((Bl.one h2).app ((Bl.one h3).app ((Bl.one h4).app ((Bl.one h5).app (Bl.one h6) om0 om0 om0) om0 om0 om0) om0 om0 om0) om0 om0 om0) om0 om0 om0) om0 om0 om0
theorem mid_bl (x:Ind) (hc:rightE x.coupon=true):Bl 8 9 (midL x):=by
 have h8:LineK (wP [99,111,117,112,111,110]::showW 12 x.coupon 0) 8:=lk _ _ (show_text (d:=12) hc 0).2
 have h9:LineK [wP [99,97,112],nP x.cap] 9:=lk _ _ (by simp)
 unfold midL
 exact (Bl.one h8).app (Bl.one h9) om0 om0 om0
theorem end_bl (x:Ind):Bl 16 17 (endL x):=by
 have h8:LineK [wP [109,97,106,111,114,105,116,121],nP x.majority] 16:=lk _ _ (by simp)
 have h9:LineK [wP [102,97,115,116],nP x.fast] 17:=lk _ _ (by simp)
 unfold endL
 exact (Bl.one h8).app (Bl.one h9) om0 om0 om0
theorem fav_lk (x:Ind):∀ m∈favLn x,LineK m 11:=lk_opt fun h=>lk _ _ (by
 intro e
 have:=congrArg List.length e
 simp at this
 rw [this] at h
 simp at h)
theorem cro_lk (x:Ind):∀ m∈croLn x,LineK m 12:=lk_opt fun _=>lk _ _ (by simp)
theorem not_lk (x:Ind):∀ m∈notLn x,LineK m 14:=lk_opt fun _=>lk _ _ (by simp)
theorem sin_lk (x:Ind):∀ m∈sinLn x,LineK m 15:=lk_opt fun _=>lk _ _ (by simp)
theorem let_lk (x:Ind):∀ m∈x.lets.map letL,LineK m 7:=fun m hm=>by obtain ⟨a,_,rfl⟩:=List.mem_map.1 hm;exact lk_let a
theorem cov_lk (x:Ind):∀ m∈x.cov.map covL,LineK m 10:=fun m hm=>by obtain ⟨a,_,rfl⟩:=List.mem_map.1 hm;exact lk_cov a
theorem call_lk (x:Ind):∀ m∈x.calls.map callL,LineK m 13:=fun m hm=>by obtain ⟨a,_,rfl⟩:=List.mem_map.1 hm;exact lk_call a
theorem lines_bl {x:Ind} (hc:rightE x.coupon=true):Bl 0 17 (linesP x):=by
 unfold linesP
 exact (((((((((head_bl x).app (.all (let_lk x)) om0 om0 om0).app (mid_bl x hc) om0 om0 om0).app (.all (cov_lk x)) om0 om0 om0).app (.all (fav_lk x)) om0 om0 om0).app (.all (cro_lk x)) om0 om0 om0).app (.all (call_lk x)) om0 om0 om0).app (.all (not_lk x)) om0 om0 om0).app (.all (sin_lk x)) om0 om0 om0).app (end_bl x) om0 om0 om0
def resF (x:Ind):List (List Pc):=[[wP [102,97,99,101],nP x.face],[wP [114,97,110,107],nP x.rank]]++x.lets.map letL++midL x++[[wP [109,97,106,111,114,105,116,121],nP x.majority]]
theorem filt_all {k:Nat} {L:List (List Pc)} (h:∀ l∈L,LineK l k) (hr:rs k=true):L.filter (fun l=>rs (kd (clauseP l)))=L :=
 List.filter_eq_self.2 fun l hl=>by rw [(h l hl).kd];exact hr
theorem filt_no {k:Nat} {L:List (List Pc)} (h:∀ l∈L,LineK l k) (hr:rs k=false):L.filter (fun l=>rs (kd (clauseP l)))=[] :=
 List.filter_eq_nil_iff.2 fun l hl=>by rw [(h l hl).kd,hr];decide
theorem filt_y {k:Nat} {l:List Pc} {L:List (List Pc)} (h:LineK l k) (hr:rs k=true:=by decide):(l::L).filter (fun l=>rs (kd (clauseP l)))=l::L.filter (fun l=>rs (kd (clauseP l))):=by
 rw [List.filter_cons,if_pos (by rw [h.kd];exact hr)]
theorem filt_n {k:Nat} {l:List Pc} {L:List (List Pc)} (h:LineK l k) (hr:rs k=false:=by decide):(l::L).filter (fun l=>rs (kd (clauseP l)))=L.filter (fun l=>rs (kd (clauseP l))):=by
 rw [List.filter_cons,if_neg (by rw [h.kd,hr];decide)]
theorem filt_lines {x:Ind} (hc:rightE x.coupon=true):(linesP x).filter (fun l=>rs (kd (clauseP l)))=resF x:=by
 have h0:LineK [wP [105,115,115,117,101],wP x.name,wP [111,102],wP x.issuer] 0:=lk _ _ (by simp)
 have h1:LineK [wP [102,97,99,101],nP x.face] 1:=lk _ _ (by simp)
 have h2:LineK (wP [102,114,111,109]::(dayP x.frm++wP [116,111]::(dayP x.to++[wP [101,118,101,114,121],nP x.every,wP [109,111,110,116,104,115]]))) 2:=lk _ _ (by simp)
 have h3:LineK [wP [99,111,117,110,116],wP (cntW.getD x.count.toNat [])] 3:=lk _ _ (by simp)
 have h4:LineK [wP [97,100,106,117,115,116],wP (adjW.getD x.adjust.toNat [])] 4:=lk _ _ (by simp)
 have h5:LineK [wP [114,101,99,111,114,100],nP x.record] 5:=lk _ _ (by simp)
 have h6:LineK [wP [114,97,110,107],nP x.rank] 6:=lk _ _ (by simp)
 have h8:LineK (wP [99,111,117,112,111,110]::showW 12 x.coupon 0) 8:=lk _ _ (show_text (d:=12) hc 0).2
 have h9:LineK [wP [99,97,112],nP x.cap] 9:=lk _ _ (by simp)
 have h16:LineK [wP [109,97,106,111,114,105,116,121],nP x.majority] 16:=lk _ _ (by simp)
 have h17:LineK [wP [102,97,115,116],nP x.fast] 17:=lk _ _ (by simp)
 have e1:(headL x).filter (fun l=>rs (kd (clauseP l)))=[[wP [102,97,99,101],nP x.face],[wP [114,97,110,107],nP x.rank]]:=by
  unfold headL
  rw [filt_n h0,filt_y h1,filt_n h2,filt_n h3,filt_n h4,filt_n h5,filt_y h6,List.filter_nil]
 have e2:(midL x).filter (fun l=>rs (kd (clauseP l)))=midL x:=by
  unfold midL
  rw [filt_y h8,filt_y h9,List.filter_nil]
 have e3:(endL x).filter (fun l=>rs (kd (clauseP l)))=[[wP [109,97,106,111,114,105,116,121],nP x.majority]]:=by
  unfold endL
  rw [filt_y h16,filt_n h17,List.filter_nil]
 unfold linesP
 simp only [List.filter_append]
 rw [e1,e2,e3,filt_all (let_lk x) (by decide),filt_no (cov_lk x) (by decide),filt_no (fav_lk x) (by decide),filt_no (cro_lk x) (by decide),filt_no (call_lk x) (by decide),filt_no (not_lk x) (by decide),filt_no (sin_lk x) (by decide)]
 unfold resF
 simp
theorem show_inj {e e':Exp} (h1:rightE e=true) (h2:rightE e'=true) (h:showW 12 e 0=showW 12 e' 0):e=e':=by
 let f:Pc→Tok:=fun p=>⟨p.kind,p.text,p.n,0⟩
 have hf:∀ l:List Pc,(l.map f).map Tok.pc=l:=fun l=>by
  rw [List.map_map]
  exact List.map_id _
 have hr:∀ l:List Pc,Reps l (l.map f) []:=fun l=>⟨l.map f,by simp,hf l⟩
 have hfin:Fin1 ((showW 12 e 0++sP [59]::[endP]).map f):=by
  have h0:Reps (showW 12 e 0++[sP [59]]) ((showW 12 e 0++sP [59]::[endP]).map f) [f endP]:=⟨(showW 12 e 0++[sP [59]]).map f,by simp,hf _⟩
  exact fin_reps h0 ((show_nk 12 e 0).app (.cons (nk_s _) .nil)) rfl
 have c1:∀ o∈oprL,(sP [59]).text≠o.text:=by decide
 obtain ⟨r1,a1,_⟩:=whole_rep h1 (x:=sP [59]) (hr (showW 12 e 0++sP [59]::[endP])) (nk_s _) c1 (by decide) hfin
 rw [h] at hfin a1
 obtain ⟨r2,a2,_⟩:=whole_rep h2 (x:=sP [59]) (hr (showW 12 e' 0++sP [59]::[endP])) (nk_s _) c1 (by decide) hfin
 rw [a1] at a2
 injection a2 with a2
 injection a2
theorem lets_inj:∀ {l m:List LetE},(∀ a∈l,rightE a.body=true)→(∀ a∈m,rightE a.body=true)→l.map letL=m.map letL→l=m
 | [],[],_,_,_=>rfl
 | [],b::m,_,_,h=>by simp at h
 | a::l,[],_,_,h=>by simp at h
 | a::l,b::m,h1,h2,h=>by
  simp only [List.map_cons,List.cons.injEq] at h
  obtain ⟨hh,ht⟩:=h
  rw [lets_inj (fun c hc=>h1 c (by simp [hc])) (fun c hc=>h2 c (by simp [hc])) ht]
  unfold letL at hh
  simp only [List.cons.injEq,true_and] at hh
  obtain ⟨hn,hb⟩:=hh
  have e1:a.name=b.name:=congrArg Pc.text hn
  have e2:=show_inj (h1 a (by simp)) (h2 b (by simp)) hb
  cases a;cases b
  simp_all
theorem resF_inj {x y:Ind} (Rx:Rt x) (Ry:Rt y) (h:resF x=resF y):x.face=y.face∧x.rank=y.rank∧x.lets=y.lets∧x.coupon=y.coupon∧x.cap=y.cap∧x.majority=y.majority:=by
 have hlen:=congrArg List.length h
 unfold resF midL at h hlen
 simp only [List.length_append,List.length_cons,List.length_nil,List.length_map] at hlen
 simp only [List.cons_append,List.nil_append,List.append_assoc,List.cons.injEq,true_and,and_true] at h
 obtain ⟨hf,hrk,h⟩:=h
 obtain ⟨hl,h⟩:=List.append_inj h (by simp;omega)
 simp only [List.cons.injEq,true_and,and_true] at h
 obtain ⟨hc,hcap,hm⟩:=h
 exact ⟨congrArg Pc.n hf,congrArg Pc.n hrk,lets_inj (fun a ha=>Rx.lets a ha) (fun a ha=>Ry.lets a ha) hl,show_inj Rx.coupon Ry.coupon hc,congrArg Pc.n hcap,congrArg Pc.n hm⟩
theorem map_inj_on:∀ {A B:List (List Pc)},(∀ l∈A,∀ m∈B,clauseP l=clauseP m→l=m)→A.map clauseP=B.map clauseP→A=B
 | [],[],_,_=>rfl
 | [],b::B,_,h=>by simp at h
 | a::A,[],_,h=>by simp at h
 | a::A,b::B,hi,h=>by
  simp only [List.map_cons,List.cons.injEq] at h
  rw [hi a (by simp) b (by simp) h.1,map_inj_on (fun l hl m hm=>hi l (by simp [hl]) m (by simp [hm])) h.2]
theorem clausesL_eq {x:Ind} (R:Rt x) (h4:(txt (linesW x)).length≤4000):printI x=(txt (linesW x),0)∧clausesL x=(linesP x).map clauseP∧joinedL (clausesL x)=txt (linesW x):=by
 have hp:printI x=(txt (linesW x),0):=by
  unfold printI fitsT
  rw [if_pos ((right_iff x).2 R),if_neg (by omega)]
 have hg:=lines_good R
 have hn:=lines_ne x
 obtain ⟨h1,h2⟩:=cut_lines (linesP x) fun l hl=>⟨hn l hl,hg l hl⟩
 have hc:clausesL x=(linesP x).map clauseP:=by
  unfold clausesL
  rw [hp,if_pos rfl]
  show cutL (txt (linesW x)) []=_
  rw [lines_eq R,h1]
 exact ⟨hp,hc,by rw [hc,h2,lines_eq R]⟩
theorem clause_short {x:Ind} (R:Rt x) (h4:(txt (linesW x)).length≤4000):∀ l∈linesP x,(clauseP l).length<4000:=by
 intro l hl
 obtain ⟨A,B,hAB⟩:=List.append_of_mem hl
 have hg:=lines_good R
 have hn:=lines_ne x
 obtain ⟨_,h2⟩:=cut_lines (linesP x) fun l hl=>⟨hn l hl,hg l hl⟩
 rw [lines_eq R,← h2,hAB] at h4
 unfold joinedL at h4
 simp at h4
 omega
theorem touch_congr {p q:Str→Bool}:∀ {a b:List Str},(∀ s∈a,p s=q s)→(∀ s∈b,p s=q s)→touchK p a b=touchK q a b
 | [],[],_,_=>by rw [touch_nil,touch_nil]
 | x::a,[],ha,hb=>by rw [touch_left,touch_left,ha x (by simp),touch_congr (a:=a) (b:=[]) (fun s hs=>ha s (by simp [hs])) hb]
 | [],y::b,ha,hb=>by rw [touch_right,touch_right,hb y (by simp),touch_congr (a:=[]) (b:=b) ha (fun s hs=>hb s (by simp [hs]))]
 | x::a,y::b,ha,hb=>by
  have i1:=touch_congr (a:=a) (b:=b) (fun s hs=>ha s (by simp [hs])) (fun s hs=>hb s (by simp [hs]))
  have i2:=touch_congr (a:=a) (b:=y::b) (fun s hs=>ha s (by simp [hs])) hb
  have i3:=touch_congr (a:=x::a) (b:=b) ha (fun s hs=>hb s (by simp [hs]))
  rw [touch_both,touch_both,i1,i2,i3,ha x (by simp),hb y (by simp)]
termination_by a b=>a.length+b.length
theorem touched_eq {x y:Ind} (Rx:Rt x) (Ry:Rt y) (hx:(txt (linesW x)).length≤4000) (hy:(txt (linesW y)).length≤4000) :
  touchK resvB (clausesL x) (clausesL y)=!(decide (x.face=y.face)&&(decide (x.lets=y.lets)&&decide (x.coupon=y.coupon)&&decide (x.cap=y.cap))&&decide (x.rank=y.rank)&&decide (x.majority=y.majority)):=by
 have lkx:∀ {z:Ind},Rt z→∀ l∈linesP z,∃ k,LineK l k:=by
  intro z Rz l hl
  unfold linesP headL midL endL at hl
  simp only [List.mem_append] at hl
  rcases hl with ((((((((hl | hl) | hl) | hl) | hl) | hl) | hl) | hl) | hl) | hl
  ·simp only [List.mem_cons,List.not_mem_nil,or_false] at hl
   rcases hl with rfl | rfl | rfl | rfl | rfl | rfl | rfl
   ·exact ⟨0,lk _ _ (by simp)⟩
   ·exact ⟨1,lk _ _ (by simp)⟩
   ·exact ⟨2,lk _ _ (by simp)⟩
   ·exact ⟨3,lk _ _ (by simp)⟩
   ·exact ⟨4,lk _ _ (by simp)⟩
   ·exact ⟨5,lk _ _ (by simp)⟩
   ·exact ⟨6,lk _ _ (by simp)⟩
  ·exact ⟨7,let_lk z l hl⟩
  ·simp only [List.mem_cons,List.not_mem_nil,or_false] at hl
   rcases hl with rfl | rfl
   ·exact ⟨8,lk _ _ (show_text (d:=12) Rz.coupon 0).2⟩
   ·exact ⟨9,lk _ _ (by simp)⟩
  ·exact ⟨10,cov_lk z l hl⟩
  ·exact ⟨11,fav_lk z l hl⟩
  ·exact ⟨12,cro_lk z l hl⟩
  ·exact ⟨13,call_lk z l hl⟩
  ·exact ⟨14,not_lk z l hl⟩
  ·exact ⟨15,sin_lk z l hl⟩
  ·simp only [List.mem_cons,List.not_mem_nil,or_false] at hl
   rcases hl with rfl | rfl
   ·exact ⟨16,lk _ _ (by simp)⟩
   ·exact ⟨17,lk _ _ (by simp)⟩
 have same:∀ {z:Ind},Rt z→∀ s∈(linesP z).map clauseP,resvB s=rs (kd s):=by
  intro z Rz s hs
  obtain ⟨l,hl,rfl⟩:=List.mem_map.1 hs
  obtain ⟨k,hk⟩:=lkx Rz l hl
  rw [hk.resv,hk.kd]
 obtain ⟨_,ex,_⟩:=clausesL_eq Rx hx
 obtain ⟨_,ey,_⟩:=clausesL_eq Ry hy
 rw [ex,ey,touch_congr (q:=fun s=>rs (kd s)) (same Rx) (same Ry)]
 have fil:∀ {z:Ind},Rt z→((linesP z).map clauseP).filter (fun s=>rs (kd s))=(resF z).map clauseP:=by
  intro z Rz
  rw [List.filter_map]
  congr 1
  exact filt_lines Rz.coupon
 have srt:∀ {z:Ind},Rt z→((linesP z).map clauseP).Pairwise (fun a b=>kd a≤kd b)∧∀ s∈(linesP z).map clauseP,kd s<18:=by
  intro z Rz
  obtain ⟨h1,h2⟩:=lines_bl Rz.coupon
  refine ⟨?_,fun s hs=>?_⟩
  ·rw [List.pairwise_map] at h1 ⊢
   exact h1
  ·obtain ⟨l,hl,rfl⟩:=List.mem_map.1 hs
   have:=(h2 l hl).2
   omega
 cases hb:(decide (x.face=y.face)&&(decide (x.lets=y.lets)&&decide (x.coupon=y.coupon)&&decide (x.cap=y.cap))&&decide (x.rank=y.rank)&&decide (x.majority=y.majority)) with
 | true =>
  simp only [Bool.and_eq_true,decide_eq_true_eq] at hb
  obtain ⟨⟨⟨hf,⟨hl,hc⟩,hcap⟩,hrk⟩,hm⟩:=hb
  have hF:resF x=resF y:=by unfold resF midL;rw [hf,hrk,hl,hc,hcap,hm]
  exact touch_kinds kd rs 18 _ _ (srt Rx).1 (srt Ry).1 (srt Rx).2 (srt Ry).2 (by rw [fil Rx,fil Ry,hF])
 | false =>
  cases ht:touchK (fun s=>rs (kd s)) ((linesP x).map clauseP) ((linesP y).map clauseP) with
  | true=>rfl
  | false =>
   exfalso
   have h:=touch_filter _ _ _ ht
   rw [fil Rx,fil Ry] at h
   have sub:∀ {z:Ind},Rt z→∀ l∈resF z,l∈linesP z:=by
    intro z Rz l hl
    rw [← filt_lines Rz.coupon] at hl
    exact (List.mem_filter.1 hl).1
   have hF:=map_inj_on (fun l hl m hm e=>clause_inj (lines_ne x l (sub Rx l hl)) (lines_ne y m (sub Ry m hm)) (lines_good Rx l (sub Rx l hl)) (lines_good Ry m (sub Ry m hm)) (clause_short Rx hx l (sub Rx l hl)) e) h
   obtain ⟨h1,h2,h3,h4,h5,h6⟩:=resF_inj Rx Ry hF
   rw [h1,h2,h3,h4,h5,h6] at hb
   simp at hb
def dayB (s:List UInt8):Bool:=decide (s=[102,114,111,109])||decide (s=[116,111])
theorem countP_take {α:Type} (p:α→Bool) {l:List α} {k:Nat} {d:α} (h:k<l.length):(l.take (k+1)).countP p=(l.take k).countP p+if p (l.getD k d)=true then 1 else 0:=by
 rw [take_getD (d:=d) h,List.countP_append]
 simp [List.countP_cons]
theorem any_take {α:Type} (p:α→Bool) {l:List α} {k:Nat} {d:α} (h:k<l.length):(l.take (k+1)).any p=((l.take k).any p||p (l.getD k d)):=by
 rw [take_getD (d:=d) h,List.any_append]
 simp
theorem mats_days (b1 b2 b3 b4 b5 b6:Bool):decide ((((resL (mats b1 b2 b3 b4 b5 b6)).countP dayB:Nat):Int)<((resL (mats b1 b2 b3 b4 b5 b6)).length:Nat))=!(b1&&b4&&b5&&b6):=by
 cases b1<;>cases b2<;>cases b3<;>cases b4<;>cases b5<;>cases b6<;>rfl
theorem print_zero {x:Ind} (h:(printI x).2=0):Rt x∧(txt (linesW x)).length≤4000:=by
 unfold printI at h
 split at h
 ·rename_i hr
  unfold fitsT at h
  split at h
  ·cases h
  ·exact ⟨(right_iff x).1 hr,by omega⟩
 ·cases h
theorem clausesL_none {x:Ind} (h:(printI x).2≠0):clausesL x=[]:=by unfold clausesL;rw [if_neg h]
theorem clausesL_few {x:Ind} (R:Rt x) (h4:(txt (linesW x)).length≤4000):(clausesL x).length≤200:=by
 obtain ⟨_,hc,_⟩:=clausesL_eq R h4
 have h1:=uniq_len R.ulets
 have h2:=uniq_len R.ucov
 have h3:=R.ncalls
 have o:∀ {c:Prop} [Decidable c] (l:List Pc),(if c then [l] else []).length≤1:=fun l=>by split<;>simp
 have o1:(favLn x).length≤1:=o _
 have o2:(croLn x).length≤1:=o _
 have o3:(notLn x).length≤1:=o _
 have o4:(sinLn x).length≤1:=o _
 rw [hc,List.length_map]
 unfold linesP headL midL endL
 simp only [List.length_append,List.length_map,List.length_cons,List.length_nil] at h1 h2 ⊢
 omega
theorem parse_back {x:Ind} (R:Rt x) (h4:(txt (linesW x)).length≤4000):APure Tryz.prog 19 [.str (txt (linesW x))] (fun rs=>rs=[.val (encX x),.val (.int .i64 0),.val (.int .i64 0)]):=by
 have hp:=parse_print R h4
 cases hl:lexR (txt (linesW x)) with
 | error e=>unfold parseR at hp;rw [hl] at hp;cases hp
 | ok T =>
  have h:=parse_go (txt (linesW x)) (by omega) hl
  rw [hp] at h
  exact h
theorem law_clauses (x y:Ind) (ix:InX x) (iy:InX y):APureV Tryz.prog 4 [encX x,encX y] (.bool true):=by
 have f2:=fewx_ok ix
 have f3:=fewx_ok iy
 refine aO (cxOk 204 [0,1,2,3,4,5,6,7,9,10,11,12,14,15,16,17,18,19,20,29,50,90,97,111,120,146,182]) Tryz.func4 ?_
 conv=>whnf
 refine cO (fun _=>small34_ok) ?_
 conv=>whnf
 refine cO (fun _=>f2) ?_
 conv=>whnf
 refine cO (fun _=>f3) ?_
 conv=>whnf
 refine ⟨fun hc=>?_,fun hc=>?_⟩
 ·conv=>whnf
  rfl
 simp only [Bool.or_eq_false_iff,Bool.not_eq_false'] at hc
 obtain ⟨hx,hy⟩:=hc
 have ox:=few_okX ix hx
 have oy:=few_okX iy hy
 have p1:=print_ok x ox
 have p2:=print_ok y oy
 have c1:=clauses_ok x ox
 have c2:=clauses_ok y oy
 by_cases hz:(printI x).2=0∧(printI y).2=0
 case neg =>
  have hg:(!decide ((printI x).2=0)||!decide ((printI y).2=0))=true:=by
   simp only [Bool.or_eq_true,Bool.not_eq_true',decide_eq_false_iff_not]
   exact Decidable.not_and_iff_or_not.1 hz
  have hv:∀ z:Ind,(decide ((printI z).2=0)||decide (((clausesL z).length:Int)=0))=true:=fun z=>by
   by_cases h:(printI z).2=0
   ·rw [decide_eq_true h];rfl
   ·rw [clausesL_none h];simp
  have v1:=hv x
  have v2:=hv y
  conv=>whnf
  refine cO (fun _=>p1) ?_
  conv=>whnf
  refine cO (fun _=>p2) ?_
  conv=>whnf
  refine cO (fun _=>c1) ?_
  conv=>whnf
  refine cO (fun _=>c2) ?_
  conv=>whnf
  rw [hg]
  refine gT ?_
  conv=>whnf
  rw [v1,v2]
  rfl
 obtain ⟨Rx,hx4⟩:=print_zero hz.1
 obtain ⟨Ry,hy4⟩:=print_zero hz.2
 obtain ⟨hpx,hcx,hjx⟩:=clausesL_eq Rx hx4
 obtain ⟨hpy,hcy,hjy⟩:=clausesL_eq Ry hy4
 have hA:=clausesL_few Rx hx4
 have hB:=clausesL_few Ry hy4
 have hj:APureV Tryz.prog 20 [encSs (clausesL x)] (.str (txt (linesW x))):=by
  have:=joined_ok (clausesL x) (by omega) (by rw [hjx];omega)
  rwa [hjx] at this
 have hpb:=parse_back Rx hx4
 have hsm:=samefn_ok x x ox ox
 rw [decide_eq_true (rfl:x=x)] at hsm
 have hres:=reserved_ok x y ox oy
 have hcm:=compare_ok (clausesL x) (clausesL y) hA hB
 have hrl:=reservedL_len x y
 have htouch:=touched_eq Rx Ry hx4 hy4
 have hany:=touch_any resvB (clausesL x) (clausesL y)
 have hcl:=cmp_len (clausesL x) (clausesL y) 0 0
 have hmd:decide ((((reservedL x y).countP dayB:Nat):Int)<((reservedL x y).length:Nat))=!(decide (x.face=y.face)&&(decide (x.lets=y.lets)&&decide (x.coupon=y.coupon)&&decide (x.cap=y.cap))&&decide (x.rank=y.rank)&&decide (x.majority=y.majority)):=mats_days (decide (x.face=y.face)) (decide (x.frm=y.frm)) (decide (x.to=y.to)) (decide (x.lets=y.lets)&&decide (x.coupon=y.coupon)&&decide (x.cap=y.cap)) (decide (x.rank=y.rank)) (decide (x.majority=y.majority))
 rw [← htouch,← hany] at hmd
 clear htouch hany
 have hrs:∀ s∈clausesL x,s.length≤4000:=fun s hs=>by rw [hcx] at hs;obtain ⟨l,hl,rfl⟩:=List.mem_map.1 hs;have:=clause_short Rx hx4 l hl;omega
 have hrs2:∀ s∈clausesL y,s.length≤4000:=fun s hs=>by rw [hcy] at hs;obtain ⟨l,hl,rfl⟩:=List.mem_map.1 hs;have:=clause_short Ry hy4 l hl;omega
 rw [hpx] at p1
 rw [hpy] at p2
 conv=>whnf
 refine cO (fun _=>p1) ?_
 conv=>whnf
 refine cO (fun _=>p2) ?_
 conv=>whnf
 refine cO (fun _=>c1) ?_
 conv=>whnf
 refine cO (fun _=>c2) ?_
 conv=>whnf
 refine gF ?_
 conv=>whnf
 refine cO (fun _=>hj) ?_
 conv=>whnf
 refine cO (fun _=>hpb) ?_
 conv=>whnf
 refine cO (fun _=>hj) ?_
 conv=>whnf
 refine cO (fun _=>hsm) ?_
 conv=>whnf
 refine ⟨fun hne=>?_,fun hne=>?_⟩
 ·exfalso
  simp at hne
 conv=>whnf
 refine cO (fun _=>hres) ?_
 conv=>whnf
 conv=>whnf
 generalize hM:reservedL x y=M at *
 refine loop_up (cxOk _ _) M.length (fun _=>True) (fun k=>⟨[(5,.bool true),(10,encSs (clausesL x)),(11,encSs (clausesL y)),(15,.own 0),(16,.int .i64 ((M.take k).countP dayB:Nat)),(17,.int .i64 (k:Nat))],[(0,.row 9 1 encS [] M)],1⟩) trivial ((wk_of [(0,.id 3)] rfl ⟨wa0,wa0,wa0,af0,wa0,wa0,trivial⟩ ⟨⟨_,rfl,ah0⟩,trivial⟩)) ?_
 intro k hk _
 conv=>whnf
 refine ⟨fun hd=>?_,fun hd=>?_⟩
 ·have hd:=of_decide_eq_true hd
  have hlt:k<M.length:=by omega
  have hek:(k:Int).toNat=k:=Int.toNat_natCast k
  have hct:=countP_take dayB (d:=[]) hlt
  have hcb:(M.take k).countP dayB≤k:=Nat.le_trans List.countP_le_length (by simp;omega)
  conv=>whnf
  refine iO ?_;conv=>whnf
  refine And.intro om0 (And.intro rfl ?_);conv=>whnf
  refine And.intro (fun _=>⟨by omega,by omega⟩) ?_;conv=>whnf
  refine And.intro om0 (And.intro rfl ?_);conv=>whnf
  rw [hek]
  refine ⟨fun he=>?_,fun he=>?_⟩
  ·have he:dayB (M.getD k [])=true:=he
   rw [if_pos he] at hct
   conv=>whnf
   refine iO ?_;conv=>whnf
   refine iO ?_;conv=>whnf
   refine up hlt trivial ((wk_of [(0,.id 0)] rfl ⟨wa0,wa0,wa0,af0,.base (.tree _ _ (by rw [hct];rfl) rfl),wa0,trivial⟩ ⟨⟨_,rfl,ah0⟩,trivial⟩))
  ·have he:dayB (M.getD k [])=false:=he
   rw [if_neg (by rw [he];decide)] at hct
   conv=>whnf
   refine iO ?_;conv=>whnf
   refine up hlt trivial ((wk_of [(0,.id 0)] rfl ⟨wa0,wa0,wa0,af0,.base (.tree _ _ (by rw [hct];rfl) rfl),wa0,trivial⟩ ⟨⟨_,rfl,ah0⟩,trivial⟩))
 have hd:=of_decide_eq_false hd
 obtain rfl:k=M.length:=by omega
 rw [List.take_length]
 conv=>whnf
 refine cO (fun _=>hcm) ?_
 conv=>whnf
 have hll:(compareL (clausesL x) (clausesL y)).length≤400:=by unfold compareL;omega
 generalize compareL (clausesL x) (clausesL y)=L at *
 generalize clausesL x=A at *
 generalize clausesL y=B at *
 refine loop_up (cxOk _ _) L.length (fun _=>True) (fun k=>⟨[(5,.bool true),(10,encSs A),(11,encSs B),(15,.own 0),(16,.int .i64 (M.countP dayB:Nat)),(18,.own 1),(19,.bool ((L.take k).any (tB resvB A B))),(20,.int .i64 (k:Nat))],[(0,.row 9 1 encS [] M),(1,.row 50 2 encG g0 L)],2⟩) trivial ((wk_of [(0,.id 0),(1,.id 1)] rfl ⟨wa0,wa0,wa0,af0,wa0,af0,wa0,wa0,trivial⟩ ⟨⟨_,rfl,ah0⟩,⟨_,rfl,ah0⟩,trivial⟩)) ?_
 intro k hk _
 conv=>whnf
 refine ⟨fun hd2=>?_,fun hd2=>?_⟩
 ·have hd2:=of_decide_eq_true hd2
  have hlt:k<L.length:=by omega
  have hek:(k:Int).toNat=k:=Int.toNat_natCast k
  have hat:=any_take (tB resvB A B) (d:=g0) hlt
  conv=>whnf
  refine iO ?_;conv=>whnf
  refine And.intro om0 (And.intro rfl ?_);conv=>whnf
  refine And.intro (fun _=>⟨by omega,by omega⟩) ?_;conv=>whnf
  refine And.intro om0 (And.intro rfl ?_);conv=>whnf
  refine And.intro (fun _=>⟨by omega,by omega⟩) ?_;conv=>whnf
  refine And.intro om0 (And.intro rfl ?_);conv=>whnf
  rw [hek]
  conv=>whnf
  generalize hT:(L.take k).any (tB resvB A B)=T at *
  generalize hC:L.getD k g0=c at *
  have hcond2:∀ b:Bool,(decide (c.o=-1)&&decide (0≤c.n)&&decide (c.n<(B.length:Int)))=b→tB resvB A B c=((decide (c.n=-1)&&decide (0≤c.o)&&decide (c.o<(A.length:Int))&&resvB (A.getD c.o.toNat []))||(b&&resvB (B.getD c.n.toNat []))):=fun b hb=>by rw [← hb];rfl
  refine ⟨fun hc1=>?_,fun hc1=>?_⟩
  ·have hc1':=hc1
   simp only [Bool.and_eq_true,decide_eq_true_eq] at hc1'
   obtain ⟨⟨hn1,ho0⟩,hoA⟩:=hc1'
   have hor:c.o.toNat<A.length:=by omega
   have hcn:(decide (c.o=-1)&&decide (0≤c.n)&&decide (c.n<(B.length:Int)))=false:=by rw [decide_eq_false (show ¬ c.o=-1 by omega)];rfl
   have htb:tB resvB A B c=resvB (A.getD c.o.toNat []):=by rw [hcond2 _ hcn,hc1];simp
   have hr1:=resv_ok (A.getD c.o.toNat []) (by have:=hrs _ (getD_mem (d:=[]) hor);omega)
   rw [htb] at hat
   conv=>whnf
   refine And.intro (fun _=>⟨by omega,by omega⟩) ?_;conv=>whnf
   refine And.intro om0 (And.intro rfl ?_);conv=>whnf
   rw [hek,hC]
   refine And.intro om0 (And.intro rfl ?_);conv=>whnf
   refine cO (fun _=>hr1) ?_
   conv=>whnf
   refine iO ?_;conv=>whnf
   refine And.intro om0 (And.intro rfl ?_);conv=>whnf
   refine And.intro (fun _=>⟨by omega,by omega⟩) ?_;conv=>whnf
   refine And.intro om0 (And.intro rfl ?_);conv=>whnf
   refine And.intro (fun _=>⟨by omega,by omega⟩) ?_;conv=>whnf
   refine And.intro om0 (And.intro rfl ?_);conv=>whnf
   rw [hek,hC]
   rw [hcn]
   refine gF ?_
   conv=>whnf
   refine iO ?_;conv=>whnf
   refine up hlt trivial ((wk_of [(0,.id 0),(1,.id 1)] rfl ⟨wa0,wa0,wa0,af0,wa0,af0,.base (.tree _ _ (congrArg AV.bool hat.symm) rfl),wa0,trivial⟩ ⟨⟨_,rfl,ah0⟩,⟨_,rfl,ah0⟩,trivial⟩))
  ·simp only [hc1,Bool.false_and,Bool.false_or] at hcond2
   conv=>whnf
   refine iO ?_;conv=>whnf
   refine And.intro om0 (And.intro rfl ?_);conv=>whnf
   refine And.intro (fun _=>⟨by omega,by omega⟩) ?_;conv=>whnf
   refine And.intro om0 (And.intro rfl ?_);conv=>whnf
   refine And.intro (fun _=>⟨by omega,by omega⟩) ?_;conv=>whnf
   refine And.intro om0 (And.intro rfl ?_);conv=>whnf
   rw [hek,hC]
   conv=>whnf
   refine ⟨fun hc2=>?_,fun hc2=>?_⟩
   ·have hc2':=hc2
    simp only [Bool.and_eq_true,decide_eq_true_eq] at hc2'
    obtain ⟨⟨ho1,hn0⟩,hnB⟩:=hc2'
    have hnr:c.n.toNat<B.length:=by omega
    have htb:tB resvB A B c=resvB (B.getD c.n.toNat []):=by rw [hcond2 _ hc2];simp
    have hr1:=resv_ok (B.getD c.n.toNat []) (by have:=hrs2 _ (getD_mem (d:=[]) hnr);omega)
    rw [htb] at hat
    conv=>whnf
    refine And.intro (fun _=>⟨by omega,by omega⟩) ?_;conv=>whnf
    refine And.intro om0 (And.intro rfl ?_);conv=>whnf
    rw [hek,hC]
    refine And.intro om0 (And.intro rfl ?_);conv=>whnf
    refine cO (fun _=>hr1) ?_
    conv=>whnf
    refine iO ?_;conv=>whnf
    refine up hlt trivial ((wk_of [(0,.id 0),(1,.id 1)] rfl ⟨wa0,wa0,wa0,af0,wa0,af0,.base (.tree _ _ (congrArg AV.bool hat.symm) rfl),wa0,trivial⟩ ⟨⟨_,rfl,ah0⟩,⟨_,rfl,ah0⟩,trivial⟩))
   ·have htb:tB resvB A B c=false:=by rw [hcond2 _ hc2];simp
    rw [htb,Bool.or_false] at hat
    conv=>whnf
    refine iO ?_;conv=>whnf
    refine up hlt trivial ((wk_of [(0,.id 0),(1,.id 1)] rfl ⟨wa0,wa0,wa0,af0,wa0,af0,.base (.tree _ _ (congrArg AV.bool hat.symm) rfl),wa0,trivial⟩ ⟨⟨_,rfl,ah0⟩,⟨_,rfl,ah0⟩,trivial⟩))
 ·have hd2:=of_decide_eq_false hd2
  obtain rfl:k=L.length:=by omega
  rw [List.take_length]
  conv=>whnf
  rw [hmd]
  simp
open Go.ChangeShapes Go.WideShapes Go.RowKit Go.Own
theorem Tryz.own:ownKnob Tryz.prog.godebug=none:=by kernel_rfl
theorem Tryz.laidOut:laidOutB Tryz.prog=true:=by kernel_rfl
theorem undBool:Tryz.prog.underlying 4=some .bool:=by kernel_rfl
theorem und3':Tryz.prog.underlying 3=some (.int .i64):=by kernel_rfl
theorem und9':Tryz.prog.underlying 9=some .string:=by kernel_rfl
theorem und23':Tryz.prog.underlying 24=some (.slice 55):=by kernel_rfl
theorem und24':Tryz.prog.underlying 25=some (.slice 27):=by kernel_rfl
theorem und27':Tryz.prog.underlying 28=some (.slice 57):=by kernel_rfl
theorem und28':Tryz.prog.underlying 22=some (.slice 9):=by kernel_rfl
theorem und29':Tryz.prog.underlying 29=some (.slice 87):=by kernel_rfl
def fields26 : Array Field := #[{ name := "Op", type := 3, offset := 0, embedded := false, tag := "", pkgPath := "", byteOffset := 0 }, { name := "N", type := 3, offset := 1, embedded := false, tag := "", pkgPath := "", byteOffset := 8 }, { name := "Unit", type := 3, offset := 2, embedded := false, tag := "", pkgPath := "", byteOffset := 16 }, { name := "S", type := 9, offset := 3, embedded := false, tag := "", pkgPath := "", byteOffset := 24 }, { name := "Args", type := 25, offset := 4, embedded := false, tag := "", pkgPath := "", byteOffset := 40 }]
theorem und26':Tryz.prog.underlying 27=some (.struct fields26):=by kernel_rfl
def fields47 : Array Field := #[{ name := "Name", type := 9, offset := 0, embedded := false, tag := "", pkgPath := "", byteOffset := 0 }, { name := "Body", type := 27, offset := 1, embedded := false, tag := "", pkgPath := "", byteOffset := 16 }]
theorem und47':Tryz.prog.underlying 55=some (.struct fields47):=by kernel_rfl
def fields50 : Array Field := #[{ name := "Name", type := 9, offset := 0, embedded := false, tag := "", pkgPath := "", byteOffset := 0 }, { name := "Must", type := 27, offset := 1, embedded := false, tag := "", pkgPath := "", byteOffset := 16 }, { name := "Grace", type := 3, offset := 6, embedded := false, tag := "", pkgPath := "", byteOffset := 80 }]
theorem und50':Tryz.prog.underlying 57=some (.struct fields50):=by kernel_rfl
def fields54 : Array Field := #[{ name := "From", type := 3, offset := 0, embedded := false, tag := "", pkgPath := "", byteOffset := 0 }, { name := "Price", type := 3, offset := 1, embedded := false, tag := "", pkgPath := "", byteOffset := 8 }]
theorem und54':Tryz.prog.underlying 87=some (.struct fields54):=by kernel_rfl
def fields31 : Array Field := #[{ name := "Name", type := 9, offset := 0, embedded := false, tag := "", pkgPath := "", byteOffset := 0 }, { name := "Issuer", type := 9, offset := 1, embedded := false, tag := "", pkgPath := "", byteOffset := 16 }, { name := "Face", type := 3, offset := 2, embedded := false, tag := "", pkgPath := "", byteOffset := 32 }, { name := "From", type := 3, offset := 3, embedded := false, tag := "", pkgPath := "", byteOffset := 40 }, { name := "To", type := 3, offset := 4, embedded := false, tag := "", pkgPath := "", byteOffset := 48 }, { name := "Every", type := 3, offset := 5, embedded := false, tag := "", pkgPath := "", byteOffset := 56 }, { name := "Count", type := 3, offset := 6, embedded := false, tag := "", pkgPath := "", byteOffset := 64 }, { name := "Adjust", type := 3, offset := 7, embedded := false, tag := "", pkgPath := "", byteOffset := 72 }, { name := "Record", type := 3, offset := 8, embedded := false, tag := "", pkgPath := "", byteOffset := 80 }, { name := "Rank", type := 3, offset := 9, embedded := false, tag := "", pkgPath := "", byteOffset := 88 }, { name := "Lets", type := 24, offset := 10, embedded := false, tag := "", pkgPath := "", byteOffset := 96 }, { name := "Coupon", type := 27, offset := 11, embedded := false, tag := "", pkgPath := "", byteOffset := 120 }, { name := "Cap", type := 3, offset := 16, embedded := false, tag := "", pkgPath := "", byteOffset := 184 }, { name := "Covenants", type := 28, offset := 17, embedded := false, tag := "", pkgPath := "", byteOffset := 192 }, { name := "Favour", type := 22, offset := 18, embedded := false, tag := "", pkgPath := "", byteOffset := 216 }, { name := "Cross", type := 3, offset := 19, embedded := false, tag := "", pkgPath := "", byteOffset := 240 }, { name := "Calls", type := 29, offset := 20, embedded := false, tag := "", pkgPath := "", byteOffset := 248 }, { name := "Notice", type := 3, offset := 21, embedded := false, tag := "", pkgPath := "", byteOffset := 272 }, { name := "Sink", type := 3, offset := 22, embedded := false, tag := "", pkgPath := "", byteOffset := 280 }, { name := "Majority", type := 3, offset := 23, embedded := false, tag := "", pkgPath := "", byteOffset := 288 }, { name := "Fast", type := 3, offset := 24, embedded := false, tag := "", pkgPath := "", byteOffset := 296 }]
theorem und31':Tryz.prog.underlying 31=some (.struct fields31):=by kernel_rfl
theorem in64_of {n:Int} (h:IntKind.i64.min≤n∧n≤IntKind.i64.max):in64 n:=by
 have e1:IntKind.i64.min=-9223372036854775808:=by rfl
 have e2:IntKind.i64.max=9223372036854775807:=by rfl
 rw [e1,e2] at h
 exact h
abbrev rInt:List AV→Prop:=fun l=>∃ n,(IntKind.i64.min≤n∧n≤IntKind.i64.max)∧l=[.int .i64 n]
abbrev rStr:List AV→Prop:=fun l=>∃ s:List UInt8,s.length≤9223372036854775807∧l=[.str s]
theorem oInt:OpensR Tryz.prog 3 1 rInt:=opensR_int und3' (by kernel_rfl)
theorem oStr:OpensR Tryz.prog 9 1 rStr:=opensR_str und9' (by kernel_rfl)
abbrev rExp:List AV→Prop:=fun l=>∃ e:Exp,OkE e∧l=(encE e).cells
theorem oExpS:∀ N,OpensS Tryz.prog 27 5 rExp N
 | 0=>opensS_zero (by kernel_rfl)
 | N+1=>by
  have hargs:OpensS Tryz.prog 25 1 (fun l=>∃ xs:List Exp,(∀ a∈xs,OkE a)∧xs.length≤9223372036854775807∧l=[.lsl 5 (xs.map encE)]) N :=
   match N with
   | 0=>opensS_zero (by kernel_rfl)
   | M+1=>opensS_slice und24' (by kernel_rfl) (oExpS M |>.le (by omega)) (by decide) (fun l ⟨e,h1,h2⟩=>⟨e,h1,h2.symm⟩) (fun e=>rfl)
  refine (opensS_struct und26' (by kernel_rfl) (Rs:=[(1,rInt),(1,rInt),(1,rInt),(1,rStr),(1,_)]) ⟨rfl,oInt.at N,rfl,oInt.at N,rfl,oInt.at N,rfl,oStr.at N,rfl,hargs,rfl⟩).mono fun l hl=>?_
  obtain ⟨_,_,⟨n0,h0,rfl⟩,⟨_,_,⟨n1,h1,rfl⟩,⟨_,_,⟨n2,h2,rfl⟩,⟨_,_,⟨s3,h3,rfl⟩,⟨_,_,⟨xs,h4,h5,rfl⟩,rfl,rfl⟩,rfl⟩,rfl⟩,rfl⟩,rfl⟩:=hl
  refine ⟨.mk n0 n1 n2 s3 xs,.mk (in64_of h0) (in64_of h1) (in64_of h2) h3 h5 h4,?_⟩
  show _=[AV.int .i64 n0,.int .i64 n1,.int .i64 n2,.str s3,.lsl 5 (argsE (.mk n0 n1 n2 s3 xs))]
  rw [argsE_eq]
  rfl
theorem oExp:OpensR Tryz.prog 27 5 rExp:=opensR_all oExpS
theorem oLets:OpensR Tryz.prog 24 1 (fun l=>∃ xs:List LetE,(∀ a∈xs,a.name.length≤9223372036854775807∧OkE a.body)∧xs.length≤9223372036854775807∧l=[.sl 6 encL l0 xs]) :=
 opensR_slice l0 und23' (by kernel_rfl) (opensR_struct und47' (by kernel_rfl) (Rs:=[(1,rStr),(5,rExp)]) ⟨rfl,oStr,rfl,oExp,rfl⟩) (by decide) (fun l hl=>by
  obtain ⟨_,_,⟨s,h1,rfl⟩,⟨_,_,⟨e,h2,rfl⟩,rfl,rfl⟩,rfl⟩:=hl
  exact ⟨⟨s,e⟩,⟨h1,h2⟩,rfl⟩) (fun _=>rfl)
theorem oCovs:OpensR Tryz.prog 28 1 (fun l=>∃ xs:List Cov,(∀ a∈xs,a.name.length≤9223372036854775807∧OkE a.must∧in64 a.grace)∧xs.length≤9223372036854775807∧l=[.sl 7 encC c0 xs]) :=
 opensR_slice c0 und27' (by kernel_rfl) (opensR_struct und50' (by kernel_rfl) (Rs:=[(1,rStr),(5,rExp),(1,rInt)]) ⟨rfl,oStr,rfl,oExp,rfl,oInt,rfl⟩) (by decide) (fun l hl=>by
  obtain ⟨_,_,⟨s,h1,rfl⟩,⟨_,_,⟨e,h2,rfl⟩,⟨_,_,⟨n,h3,rfl⟩,rfl,rfl⟩,rfl⟩,rfl⟩:=hl
  exact ⟨⟨s,e,n⟩,⟨h1,h2,in64_of h3⟩,rfl⟩) (fun _=>rfl)
theorem oStrs:OpensR Tryz.prog 22 1 (fun l=>∃ xs:List (List UInt8),(∀ a∈xs,a.length≤9223372036854775807)∧xs.length≤9223372036854775807∧l=[.sl 1 encS [] xs]) :=
 opensR_slice [] und28' (by kernel_rfl) oStr (by decide) (fun l hl=>by obtain ⟨s,h,rfl⟩:=hl;exact ⟨s,h,rfl⟩) (fun _=>rfl)
theorem oCalls:OpensR Tryz.prog 29 1 (fun l=>∃ xs:List CallE,(∀ a∈xs,in64 a.a∧in64 a.b)∧xs.length≤9223372036854775807∧l=[.sl 2 encK k0 xs]) :=
 opensR_slice k0 und29' (by kernel_rfl) (opensR_struct und54' (by kernel_rfl) (Rs:=[(1,rInt),(1,rInt)]) ⟨rfl,oInt,rfl,oInt,rfl⟩) (by decide) (fun l hl=>by
  obtain ⟨_,_,⟨a,h1,rfl⟩,⟨_,_,⟨b,h2,rfl⟩,rfl,rfl⟩,rfl⟩:=hl
  exact ⟨⟨a,b⟩,⟨in64_of h1,in64_of h2⟩,rfl⟩) (fun _=>rfl)
abbrev rInd:List AV→Prop:=fun l=>∃ x:Ind,InX x∧l=(encX x).cells
theorem oInd:OpensR Tryz.prog 31 25 rInd:=by
 refine (opensR_struct und31' (by kernel_rfl) (Rs:=[(1,rStr),(1,rStr),(1,rInt),(1,rInt),(1,rInt),(1,rInt),(1,rInt),(1,rInt),(1,rInt),(1,rInt),(1,_),(5,rExp),(1,rInt),(1,_),(1,_),(1,rInt),(1,_),(1,rInt),(1,rInt),(1,rInt),(1,rInt)])
  ⟨rfl,oStr,rfl,oStr,rfl,oInt,rfl,oInt,rfl,oInt,rfl,oInt,rfl,oInt,rfl,oInt,rfl,oInt,rfl,oInt,rfl,oLets,rfl,oExp,rfl,oInt,rfl,oCovs,rfl,oStrs,rfl,oInt,rfl,oCalls,rfl,oInt,rfl,oInt,rfl,oInt,rfl,oInt,rfl⟩).mono fun l hl=>?_
 obtain ⟨_,_,⟨s0,h0,rfl⟩,⟨_,_,⟨s1,h1,rfl⟩,⟨_,_,⟨n2,i2,rfl⟩,⟨_,_,⟨n3,i3,rfl⟩,⟨_,_,⟨n4,i4,rfl⟩,⟨_,_,⟨n5,i5,rfl⟩,⟨_,_,⟨n6,i6,rfl⟩,⟨_,_,⟨n7,i7,rfl⟩,⟨_,_,⟨n8,i8,rfl⟩,⟨_,_,⟨n9,i9,rfl⟩,hl⟩,rfl⟩,rfl⟩,rfl⟩,rfl⟩,rfl⟩,rfl⟩,rfl⟩,rfl⟩,rfl⟩:=hl
 obtain ⟨⟨_,_,⟨xs,hx1,hx2,rfl⟩,⟨_,_,⟨e,he,rfl⟩,⟨_,_,⟨n12,i12,rfl⟩,⟨_,_,⟨cv,c1,c2,rfl⟩,⟨_,_,⟨fv,f1,f2,rfl⟩,⟨_,_,⟨n15,i15,rfl⟩,⟨_,_,⟨cl,k1,k2,rfl⟩,⟨_,_,⟨n17,i17,rfl⟩,⟨_,_,⟨n18,i18,rfl⟩,⟨_,_,⟨n19,i19,rfl⟩,⟨_,_,⟨n20,i20,rfl⟩,rfl,rfl⟩,rfl⟩,rfl⟩,rfl⟩,rfl⟩,rfl⟩,rfl⟩,rfl⟩,rfl⟩,rfl⟩,rfl⟩,rfl⟩:=hl
 exact ⟨⟨s0,s1,n2,n3,n4,n5,n6,n7,n8,n9,xs,e,n12,cv,fv,n15,cl,n17,n18,n19,n20⟩,⟨h0,h1,he,hx2,hx1,c2,c1,f2,f1,k2,k1,in64_of i2,in64_of i3,in64_of i4,in64_of i5,in64_of i6,in64_of i7,in64_of i8,in64_of i9,in64_of i12,in64_of i15,in64_of i17,in64_of i18,in64_of i19,in64_of i20⟩,rfl⟩
theorem vInd:OpV Tryz.prog 31 (fun a=>∃ x:Ind,InX x∧a=encX x) :=
 OpV.mono (opV_struct und31' oInd) fun a ⟨l,⟨x,h,hl⟩,ha⟩=>⟨x,h,by rw [ha,hl];rfl⟩
def fields50g : Array Field := #[{ name := "Old", type := 3, offset := 0, embedded := false, tag := "", pkgPath := "", byteOffset := 0 }, { name := "New", type := 3, offset := 1, embedded := false, tag := "", pkgPath := "", byteOffset := 8 }]
abbrev laidL:List (String×DataW Unit):=Rows.diffClausesRow.laid
noncomputable def laidWorld (os:Os):World:=World.laidAll Tryz.prog os laidL
theorem laid_met (os:Os) (args:Array Value):laidMet Tryz.prog laidL ((laidWorld os).forCall (fun _ _=>0) ⟨#[],args,[]⟩).memory :=
 laidMet_laidAll args (by kernel_rfl) (by kernel_rfl)
theorem var_block {P:Program} {w:World} {n:String} {g:Nat} {cs:Array Value} (hg:P.globalNamed n=some g) (h:w.var? P n=some cs):∃ e fz,w.heap[g]?=some (.cells cs e fz):=by
 unfold World.var? at h
 rw [hg] at h
 simp only [Option.bind_some] at h
 split at h
 ·rename_i c e fz hh
  cases h
  exact ⟨_,_,hh⟩
 ·cases h
theorem trod_one {P:Program} {w:World} {base:Nat} {sp:Nat→Bool} {held:Bool} {fuel:Nat} {e:TypeId} {c:List Value} {s:List UInt8} {q:List MemPlace} (he:P.underlying e=some .string)
  (h:DataW.trod (fun _=>()) P w base sp held fuel e c=some (.lit (.string s),q)):c=[.string ⟨s.toArray⟩]:=by
 cases fuel with
 | zero=>simp [DataW.trod] at h
 | succ fuel =>
  simp only [DataW.trod,he] at h
  split at h<;>simp_all
  rename_i x hx
  rw [← h.2.1]
theorem cells_of_strs {P:Program} {w:World} {base:Nat} {sp:Nat→Bool} {held:Bool} {fuel:Nat} {t e:TypeId} {n:Nat} {cs:List Value} {ss:List (List UInt8)} {p:List MemPlace}
  (ht:P.underlying t=some (.array n e)) (he:P.underlying e=some .string) (hce:P.cellsOf e=1) (hct:P.cellsOf t=n)
  (h:DataW.trod (fun _=>()) P w base sp held fuel t cs=some (.agg (ss.map fun s=>.lit (.string s)),p)):cs=ss.map fun s=>Value.string ⟨s.toArray⟩:=by
 cases fuel with
 | zero=>simp [DataW.trod] at h
 | succ fuel =>
  simp only [DataW.trod,ht,hce,hct,Nat.mul_one] at h
  split at h
  ·rename_i hl
   obtain ⟨xs,hm,hx⟩:=Option.map_eq_some_iff.1 h
   have hxs:xs.map (·.1)=ss.map fun s=>(DataW.lit (.string s):DataW Unit):=by
    have:=congrArg Prod.fst hx
    simpa using this
   have hxl:xs.length=n:=by simpa using Lib.mapM_length hm
   have hzl:ss.length=n:=by
    have:=congrArg List.length hxs
    simp at this
    omega
   apply List.ext_getElem?
   intro i
   by_cases hi:i<n
   ·obtain ⟨b,hb,hf⟩:=Lib.mapM_at hm i i (by simp [hi])
    have h2:(xs.map (·.1))[i]?=some b.1:=by simp [hb]
    rw [hxs] at h2
    simp only [List.getElem?_map,Option.map_eq_some_iff] at h2
    obtain ⟨s,hs,hsb⟩:=h2
    have hc:=trod_one he (show _=some (DataW.lit (.string s),b.2) by rw [hsb];exact hf)
    have h1:cs[i]?=some (.string ⟨s.toArray⟩):=by
     have:=congrArg (·[0]?) hc
     simpa [List.getElem?_take,List.getElem?_drop] using this
    simp [h1,hs]
   ·rw [List.getElem?_eq_none (by omega),List.getElem?_eq_none (by simp;omega)]
  ·cases h
theorem laid_tabs (W:World) (h:laidMet Tryz.prog laidL W) (hsh:W.ShapedOpen Tryz.prog):TabAt (All W) W:=by
 obtain ⟨ps,⟨g1,t1,c1,f1,p1,q1,hg1,ht1,hv1,hd1,⟨g2,t2,c2,f2,p2,q2,hg2,ht2,hv2,hd2,⟨g3,t3,c3,f3,p3,q3,hg3,ht3,hv3,hd3,⟨g4,t4,c4,f4,p4,q4,hg4,ht4,hv4,hd4,⟨g5,t5,c5,f5,p5,q5,hg5,ht5,hv5,hd5,hrest,e5⟩,e4⟩,e3⟩,e2⟩,e1⟩,_,_⟩:=h
 have k3 : Tryz.prog.globalNamed "internal/strconv.uint64pow10" = some 2 := by kernel_rfl
 obtain ⟨b3,z3,h3⟩:=var_block k3 hv3
 obtain rfl:=Option.some.inj (k3.symm.trans hg3)
 have k5 : Tryz.prog.globalNamed "consol/lex.signs" = some 0 := by kernel_rfl
 obtain ⟨b5,z5,h5⟩:=var_block k5 hv5
 obtain rfl:=Option.some.inj (k5.symm.trans hg5)
 have T5:(Tryz.prog.globals[0]?).map (·.type)=some t5:=ht5
 have T3:(Tryz.prog.globals[2]?).map (·.type)=some t3:=ht3
 have lt:∀ {g:Nat} {o:Obj},W.heap[g]?=some o→g<W.heap.size:=fun h=>(Array.getElem?_eq_some_iff.1 h).1
 intro g Q hQ
 match g,hQ with
 | 0,hQ =>
  cases hQ
  refine ⟨lt h5,c5,b5,z5,h5,?_⟩
  obtain rfl:=Option.some.inj ((show (Tryz.prog.globals[0]?).map (·.type)=some 186 by kernel_rfl).symm.trans T5)
  have:=cells_of_strs (ss:=signs) (n:=11) (e:=9) (by kernel_rfl) (by kernel_rfl) (by kernel_rfl) (by kernel_rfl) (show _=some (DataW.agg (signs.map fun s=>DataW.lit (.string s)),p5) from hd5)
  show c5=_
  rw [← this]
 | 1,hQ =>
  cases hQ
  obtain ⟨cs,hc,hs,_⟩:=hsh.1 1 #[.int .i64 0] 3 (of_decide_eq_true (by kernel_rfl)) (by kernel_rfl)
  obtain ⟨m,hm⟩:=Go.Proofs.cell_of_shapedOpen_int (P:=Tryz.prog) (g:=1) (t:=3) (zero:=#[.int .i64 0]) hsh (of_decide_eq_true (by kernel_rfl)) (by kernel_rfl) rfl (by kernel_rfl) (by kernel_rfl) und3'
  refine ⟨lt hc,cs,3,(0,0),hc,m,?_⟩
  have h0:cs[0]?=some (.int .i64 m):=by simpa [World.cell?,hc] using hm
  have hs1:cs.size=1:=hs
  apply Array.ext
  ·rw [hs1];rfl
  ·intro i h1 h2
   have:i=0:=by omega
   subst this
   rw [Array.getElem?_eq_getElem h1] at h0
   exact Option.some.inj h0
 | 2,hQ =>
  cases hQ
  refine ⟨lt h3,c3,b3,z3,h3,?_⟩
  obtain rfl:=Option.some.inj ((show (Tryz.prog.globals[2]?).map (·.type)=some 192 by kernel_rfl).symm.trans T3)
  have:=Lib.cells_of_tab (k:=.u64) (zs:=Lib.pow10Tab) (n:=20) (e:=179) (by kernel_rfl) (by kernel_rfl) (by kernel_rfl) (by kernel_rfl) (show _=some (Lib.tabData .u64 Lib.pow10Tab,p3) from hd3)
  show c3=_
  rw [← this]
end Go.Proofs.YtohankpncipefaaGreatDoor
