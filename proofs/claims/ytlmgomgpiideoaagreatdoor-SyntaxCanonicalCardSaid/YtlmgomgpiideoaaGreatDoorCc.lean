import Derived.Test.YtlmgomgpiideoaaGreatDoorCb
import Derived.Lib.ItoaLen
import Derived.Test.YtlmgomgpiideoaaGreatDoorLd
import Derived.Lay
import Derived.Lib.LaidTab
import Derived.LaidLaws
import Derived.KernelRfl
import Derived.Test.YtlmgomgpiideoaaGreatDoorRows
import Derived.Test.YtlmgomgpiideoaaGreatDoorProg
import Derived.WalkKit
import Derived.Deep.LoopGhost
import Derived.Deep.OwnRows
import Derived.Deep.Cut
import Derived.Deep.Light
import Derived.CellFam
import Derived.BigGuard
import Derived.Laws.IdiomStrings
namespace Go.Proofs.YtlmgomgpiideoaaGreatDoor
open Go.Own
set_option maxHeartbeats 40000000
set_option maxRecDepth 100000
theorem ws2 {a b:List UInt8} (ha:a.length≤1100000100) (hb:b.length≤1100000100):WsOk [a,b]:=wsOk_of (by simp) (by simp;omega)
theorem ws4 {a b c d:List UInt8} (ha:a.length≤1100000100) (hb:b.length≤1100000100) (hc:c.length≤1100000100) (hd:d.length≤1100000100):WsOk [a,b,c,d]:=wsOk_of (by simp) (by simp;omega)
theorem cnt_len (i:Nat):(cntW.getD i []).length≤20:=by
 match i with
 | 0 | 1 | 2=>decide
 | n+3=>simp [cntW]
theorem adj_len (i:Nat):(adjW.getD i []).length≤20:=by
 match i with
 | 0 | 1 | 2 | 3=>decide
 | n+4=>simp [adjW]
theorem int_len {n:Int} (h1:-1≤n) (h2:n≤1000000000000000):(Lib.itoa n).length≤1100000100:=itoa_len21 ⟨by omega,by omega⟩
theorem nam_len {s:List UInt8} (h:nameB s=true):s.length≤1100000100:=by have:=name_len h;omega
theorem day_len {n:Int} (h:0≤n∧n≤200000):(dayT n).length≤1100000100:=by have:=dayT_len h.1 h.2;omega
theorem letW_ok {l:LetE} (hn:nameB l.name=true) (hr:rightE l.body=true) (hok:OkE l.body):WsOk (letW l) :=
 ws4 (by simp) (nam_len hn) (by simp) (show12_len _ hr hok)
theorem covW_ok {c:Cov} (hn:nameB c.name=true) (hr:rightE c.must=true) (hok:OkE c.must) (h1:0≤c.grace) (h2:c.grace≤1000):WsOk (covW c):=by
 have a1:=nam_len hn
 have a2:=show12_len _ hr hok
 have a3:=int_len (n:=c.grace) (by omega) (by omega)
 refine wsOk_of (by simp [covW]) ?_
 unfold covW
 simp
 omega
theorem callW_ok {c:CallE} (h:(0≤c.a∧c.a≤200000)∧0≤c.b∧c.b≤10000):WsOk (callW c) :=
 ws4 (by simp) (day_len h.1) (by simp) (int_len (by omega) (by omega))
theorem favW_ok {l:List (List UInt8)} (h:uniqB l 20=true):WsOk ([102,97,118,111,117,114]::l):=by
 have h1:=uniq_len h
 refine wsOk_of (by rw [List.length_cons];omega) fun s hs=>?_
 rcases List.mem_cons.1 hs with rfl | hs
 ·simp
 ·exact nam_len (uniq_name h hs)
theorem txt_ne {L:List (List (List UInt8))} (h:L≠[]):txt L≠[]:=by
 cases L with
 | nil=>exact (h rfl).elim
 | cons w L =>
  unfold txt lineT
  simp
theorem string_txt {n:Nat} {L:List (List (List UInt8))} (_:LOk n L) (h:L≠[]):RIO Tryz.prog 64 [.ptr 0 0] [.cells 85 [.ptr 0 0,.own 1],.lst 5 1 (strAVs (txt L))] 0 (fun vs bs es=>vs=[.str (txt L)]∧bs=[]∧es=[]):=string_of (txt L) (txt_ne h)
theorem fits_txt {n:Nat} {L:List (List (List UInt8))} (hL:LOk n L) (hn:n≤120):APure Tryz.prog 63 [.str (txt L)] (fun rs=>rs=[.val (.str (fitsT (txt L)).1),.val (.int .i64 (fitsT (txt L)).2)]):=by
 have hl:=txt_len hL
 have hl2:n*23200000003≤120*23200000003:=Nat.mul_le_mul_right _ hn
 exact fits_ok (txt L) om0
theorem print_ok (x:Ind) (hx:OkX x):APure Tryz.prog 19 [encX x] (fun rs=>rs=[.val (.str (printI x).1),.val (.int .i64 (printI x).2)]):=by
 have h:=rightfn_ok x hx
 unfold printI
 cases hr:rightI x with
 | false =>
  rw [hr] at h
  refine aO (cxOk 199 [0,1,2,3,4,5,6,8,10,12,15,75,76,77,78,104,105,106,107,126,135,144,145,146,147,163,173]) Tryz.func19 ?_
  conv=>whnf
  refine cO (fun _=>h) ?_
  conv=>whnf
  refine gT ?_
  conv=>whnf
  rfl
 | true =>
  rw [hr] at h
  rw [if_pos rfl]
  have R:=(right_iff x).1 hr
  have it:∀ (n:Int),-1≤n→n≤1000000000000000→APureV Tryz.prog 58 [.int .i64 n] (.str (Lib.itoa n)):=fun n h1 h2=>itoa_c n (by omega) (by omega)
  have r1:=R.frm
  have r2:=R.to
  have r3:=R.face
  have r4:=R.every
  have r5:=R.count
  have r6:=R.adjust
  have r7:=R.record
  have r8:=R.rank
  have r9:=R.cap
  have r10:=R.cross
  have r11:=R.notice
  have r12:=R.sink
  have r13:=R.majority
  have r14:=R.fast
  have ll:=uniq_len R.ulets
  have lc:=uniq_len R.ucov
  have lf:=uniq_len R.fav
  have lk:=R.ncalls
  rw [List.length_map] at ll lc
  have d1:=day_ok x.frm r1.1 r1.2
  have d2:=day_ok x.to r2.1 r2.2
  have w1:WsOk [[105,115,115,117,101],x.name,[111,102],x.issuer]:=ws4 (by simp) (nam_len R.name) (by simp) (nam_len R.issuer)
  have w2:WsOk [[102,97,99,101],Lib.itoa x.face]:=ws2 (by simp) (int_len (by omega) (by omega))
  have w3:WsOk [[102,114,111,109],dayT x.frm,[116,111],dayT x.to,[101,118,101,114,121],Lib.itoa x.every,[109,111,110,116,104,115]]:=by
   have a1:=day_len r1
   have a2:=day_len r2
   have a3:=int_len (n:=x.every) (by omega) (by omega)
   refine wsOk_of (by simp) ?_
   simp
   omega
  have w4:WsOk [[99,111,117,110,116],cntW.getD x.count.toNat []]:=ws2 (by simp) (by have:=cnt_len x.count.toNat;omega)
  have w5:WsOk [[97,100,106,117,115,116],adjW.getD x.adjust.toNat []]:=ws2 (by simp) (by have:=adj_len x.adjust.toNat;omega)
  have w6:WsOk [[114,101,99,111,114,100],Lib.itoa x.record]:=ws2 (by simp) (int_len (by omega) (by omega))
  have w7:WsOk [[114,97,110,107],Lib.itoa x.rank]:=ws2 (by simp) (int_len (by omega) (by omega))
  have w8:WsOk [[99,111,117,112,111,110],showT 12 x.coupon 0]:=ws2 (by simp) (show12_len _ R.coupon hx.coupon)
  have w9:WsOk [[99,97,112],Lib.itoa x.cap]:=ws2 (by simp) (int_len (by omega) (by omega))
  have w10:=favW_ok R.fav
  have w11:WsOk [[99,114,111,115,115],Lib.itoa x.cross]:=ws2 (by simp) (int_len (by omega) (by omega))
  have w12:WsOk [[110,111,116,105,99,101],Lib.itoa x.notice]:=ws2 (by simp) (int_len (by omega) (by omega))
  have w13:WsOk [[115,105,110,107],Lib.itoa x.sink]:=ws2 (by simp) (int_len (by omega) (by omega))
  have w14:WsOk [[109,97,106,111,114,105,116,121],Lib.itoa x.majority]:=ws2 (by simp) (int_len (by omega) (by omega))
  have w15:WsOk [[102,97,115,116],Lib.itoa x.fast]:=ws2 (by simp) (int_len (by omega) (by omega))
  have hcou:=show_ok 12 x.coupon 0 (by decide) R.coupon hx.coupon
  refine aO (cxOk 199 [0,1,2,3,4,5,6,8,10,12,15,75,76,77,78,104,105,106,107,126,135,144,145,146,147,163,173]) Tryz.func19 ?_
  conv=>whnf
  refine cO (fun _=>h) ?_
  conv=>whnf
  refine gF ?_
  conv=>whnf
  refine cR (line1_ok _ w1) [1,2] ?_
  conv=>whnf
  have L1:=LOk.snoc LOk.nil w1
  refine cO (fun _=>it x.face om0 om0) ?_
  conv=>whnf
  refine cR (line_ok L1 om0 _ w2) [1,3,4] ?_
  conv=>whnf
  have L2:=LOk.snoc L1 w2
  refine .eff ae0 ?_
  conv=>whnf
  refine cO (fun _=>d1) ?_
  conv=>whnf
  refine cO (fun _=>d2) ?_
  conv=>whnf
  refine cO (fun _=>it x.every om0 om0) ?_
  conv=>whnf
  refine cR (line_ok L2 om0 _ w3) [1,5,6] ?_
  conv=>whnf
  have L3:=LOk.snoc L2 w3
  refine ⟨by kernel_rfl,?_⟩
  conv=>whnf
  have e3:cntW.length=3:=rfl
  have e4:adjW.length=4:=rfl
  refine .eff ae0 ?_
  conv=>whnf
  refine cO (fun _=>cnt_ok) ?_
  conv=>whnf
  refine iO ?_;conv=>whnf
  refine And.intro rfl ?_;conv=>whnf
  refine cR (line_ok L3 om0 _ w4) [1,7,8] ?_
  conv=>whnf
  have L4:=LOk.snoc L3 w4
  refine ⟨by kernel_rfl,?_⟩
  conv=>whnf
  refine .eff ae0 ?_
  conv=>whnf
  refine cO (fun _=>adj_ok) ?_
  conv=>whnf
  refine iO ?_;conv=>whnf
  refine And.intro rfl ?_;conv=>whnf
  refine cR (line_ok L4 om0 _ w5) [1,9,10] ?_
  conv=>whnf
  have L5:=LOk.snoc L4 w5
  refine ⟨by kernel_rfl,?_⟩
  conv=>whnf
  refine cO (fun _=>it x.record om0 om0) ?_
  conv=>whnf
  refine cR (line_ok L5 om0 _ w6) [1,11,12] ?_
  conv=>whnf
  have L6:=LOk.snoc L5 w6
  refine cO (fun _=>it x.rank om0 om0) ?_
  conv=>whnf
  refine cR (line_ok L6 om0 _ w7) [1,13,14] ?_
  conv=>whnf
  have L7:=LOk.snoc L6 w7
  have eH:[]++[[[105,115,115,117,101],x.name,[111,102],x.issuer]]=[[[105,115,115,117,101],x.name,[111,102],x.issuer]]:=rfl
  have LH:LOk 7 (headW x):=L7
  have Llet:∀ k,LOk 20 ((x.lets.take k).map letW):=fun k=>⟨by rw [List.length_map,List.length_take];omega,fun w hw=>by
   obtain ⟨l,hl,rfl⟩:=List.mem_map.1 hw
   have hm:=List.mem_of_mem_take hl
   exact letW_ok (uniq_name R.ulets (List.mem_map_of_mem hm)) (R.lets l hm) (hx.let1 l hm).2⟩
  refine loop_up (cxOk _ _) x.lets.length (fun _=>True) (fun k=>⟨[(1,.ptr 0 0),(2,.str []),(3,.int .i64 0),(4,.ptr 1 0),(5,.fn (.func 55) [] [.ptr 1 0]),(6,.fn (.func 58) [] []),(75,.sl 6 encL l0 x.lets),(76,.int .i64 (x.lets.length:Nat)),(77,.int .i64 (k:Nat))],[(0,.cells 31 (celX x)),(1,.cells 85 [.ptr 1 0,.own 2]),(2,.lst 5 1 (strAVs (txt (headW x++(x.lets.take k).map letW))))],3⟩) trivial ((wk_of [(0,.id 0),(1,.id 1),(2,.id 15)] rfl ⟨wc0,wa0,wa0,wc0,.fn _ _ _ _ _ ad0 ad0,.fn _ _ _ _ _ ad0 ad0,wa0,wa0,wa0,trivial⟩ ⟨wb0,wb0,⟨_,rfl,.lst _ _ _ _ _ rfl (rfl)⟩,trivial⟩)) ?_
  intro k hk _
  conv=>whnf
  refine ⟨fun hd=>?_,fun hd=>?_⟩
  ·have hd:=of_decide_eq_true hd
   have hlt:k<x.lets.length:=by omega
   have hek:(k:Int).toNat=k:=Int.toNat_natCast k
   have hm:x.lets.getD k l0∈x.lets:=getD_mem hlt
   have hsh:=show_ok 12 (x.lets.getD k l0).body 0 (by decide) (R.lets _ hm) (hx.let1 _ hm).2
   have hw:=letW_ok (uniq_name R.ulets (List.mem_map_of_mem hm)) (R.lets _ hm) (hx.let1 _ hm).2
   conv=>whnf
   refine iO ?_;conv=>whnf
   refine And.intro rfl ?_;conv=>whnf
   rw [hek]
   conv=>whnf
   refine .eff ae0 ?_
   conv=>whnf
   refine cO (fun _=>hsh) ?_
   conv=>whnf
   refine cR (line_ok (LH.app (Llet k)) om0 _ hw) [1,2,4] ?_
   conv=>whnf
   refine ⟨by kernel_rfl,?_⟩
   conv=>whnf
   refine iO ?_;conv=>whnf
   refine up hlt trivial ((wk_of [(0,.id 0),(1,.id 1),(2,.id 5)] rfl ⟨wc0,wa0,wa0,wc0,.fn _ _ _ _ _ ad0 ad0,.fn _ _ _ _ _ ad0 ad0,wa0,wa0,wa0,trivial⟩ ⟨wb0,wb0,⟨_,rfl,.lst _ _ _ _ _ rfl (by rw [take_getD (d:=l0) hlt,List.map_append,← List.append_assoc];rfl)⟩,trivial⟩))
  have hd:=of_decide_eq_false hd
  obtain rfl:k=x.lets.length:=by omega
  conv=>whnf
  rw [List.take_length]
  have LA:LOk 27 (headW x++x.lets.map letW):=by have:=LH.app (Llet x.lets.length);rw [List.take_length] at this;exact this
  have L100:=LA
  refine cO (fun _=>hcou) ?_
  conv=>whnf
  refine cR (line_ok L100 om0 _ w8) [1,2,3] ?_
  conv=>whnf
  have L101:=LOk.snoc L100 w8
  refine cO (fun _=>it x.cap om0 om0) ?_
  conv=>whnf
  refine cR (line_ok L101 om0 _ w9) [1,4,5] ?_
  conv=>whnf
  have L102:=LOk.snoc L101 w9
  have Lcov:∀ k,LOk 20 ((x.cov.take k).map covW):=fun k=>⟨by rw [List.length_map,List.length_take];omega,fun w hw=>by
   obtain ⟨l,hl,rfl⟩:=List.mem_map.1 hw
   have hm:=List.mem_of_mem_take hl
   exact covW_ok (uniq_name R.ucov (List.mem_map_of_mem hm)) (R.cov l hm).1 (hx.cov1 l hm).2.1 (R.cov l hm).2.1 (R.cov l hm).2.2⟩
  have LB:LOk 29 (headW x++x.lets.map letW++midW x):=by have h:=L102;rw [List.append_assoc] at h;exact h
  refine loop_up (cxOk _ _) x.cov.length (fun _=>True) (fun k=>⟨[(1,.ptr 0 0),(2,.str []),(3,.int .i64 0),(4,.ptr 1 0),(5,.fn (.func 55) [] [.ptr 1 0]),(6,.fn (.func 58) [] []),(104,.sl 7 encC c0 x.cov),(105,.int .i64 (x.cov.length:Nat)),(106,.int .i64 (k:Nat))],[(0,.cells 31 (celX x)),(1,.cells 85 [.ptr 1 0,.own 2]),(2,.lst 5 1 (strAVs (txt (headW x++x.lets.map letW++midW x++(x.cov.take k).map covW))))],3⟩) trivial ((wk_of [(0,.id 0),(1,.id 1),(2,.id 6)] rfl ⟨wc0,wa0,wa0,wc0,.fn _ _ _ _ _ ad0 ad0,.fn _ _ _ _ _ ad0 ad0,wa0,wa0,wa0,trivial⟩ ⟨wb0,wb0,⟨_,rfl,.lst _ _ _ _ _ rfl (by rw [List.append_assoc (headW x++x.lets.map letW)];rw [List.take_zero,List.map_nil,List.append_nil];rfl)⟩,trivial⟩)) ?_
  intro k hk _
  conv=>whnf
  refine ⟨fun hd=>?_,fun hd=>?_⟩
  ·have hd:=of_decide_eq_true hd
   have hlt:k<x.cov.length:=by omega
   have hek:(k:Int).toNat=k:=Int.toNat_natCast k
   have hm:x.cov.getD k c0∈x.cov:=getD_mem hlt
   have hsh:=show_ok 12 (x.cov.getD k c0).must 0 (by decide) (R.cov _ hm).1 (hx.cov1 _ hm).2.1
   have hg:=(R.cov _ hm).2
   have hw:=covW_ok (uniq_name R.ucov (List.mem_map_of_mem hm)) (R.cov _ hm).1 (hx.cov1 _ hm).2.1 hg.1 hg.2
   conv=>whnf
   refine iO ?_;conv=>whnf
   refine And.intro rfl ?_;conv=>whnf
   rw [hek]
   conv=>whnf
   refine .eff ae0 ?_
   conv=>whnf
   refine cO (fun _=>hsh) ?_
   conv=>whnf
   refine cO (fun _=>it (x.cov.getD k c0).grace om0 om0) ?_
   conv=>whnf
   refine cR (line_ok (LB.app (Lcov k)) om0 _ hw) [1,2,4] ?_
   conv=>whnf
   refine ⟨by kernel_rfl,?_⟩
   conv=>whnf
   refine iO ?_;conv=>whnf
   refine up hlt trivial ((wk_of [(0,.id 0),(1,.id 1),(2,.id 5)] rfl ⟨wc0,wa0,wa0,wc0,.fn _ _ _ _ _ ad0 ad0,.fn _ _ _ _ _ ad0 ad0,wa0,wa0,wa0,trivial⟩ ⟨wb0,wb0,⟨_,rfl,.lst _ _ _ _ _ rfl (by rw [take_getD (d:=c0) hlt,List.map_append,← List.append_assoc];rfl)⟩,trivial⟩))
  have hd:=of_decide_eq_false hd
  obtain rfl:k=x.cov.length:=by omega
  conv=>whnf
  rw [List.take_length]
  have LC:LOk 49 (headW x++x.lets.map letW++midW x++x.cov.map covW):=by have:=LB.app (Lcov x.cov.length);rw [List.take_length] at this;exact this
  have Lcal:∀ k,LOk 20 ((x.calls.take k).map callW):=fun k=>⟨by rw [List.length_map,List.length_take];omega,fun w hw=>by
   obtain ⟨c,hc,rfl⟩:=List.mem_map.1 hw
   exact callW_ok (R.calls c (List.mem_of_mem_take hc))⟩
  have fin:∀ {n:Nat} {L:List (List (List UInt8))},LOk n L→L=linesW x→[AR.val (.str (fitsT (txt L)).1),AR.val (.int .i64 (fitsT (txt L)).2)]=[AR.val (.str (fitsT (txt (linesW x))).1),AR.val (.int .i64 (fitsT (txt (linesW x))).2)]:=fun _ h=>by rw [h]
  refine ⟨fun hf=>?_,fun hf=>?_⟩
  ·have hf:=of_decide_eq_true hf
   have qf:favW x=[[102,97,118,111,117,114]::x.favour]:=by unfold favW;rw [if_pos (by omega)]
   conv=>whnf
   refine And.intro rfl ?_
   conv=>whnf
   refine And.intro ⟨rfl,rfl⟩ (And.intro (show (1+x.favour.length)*16≤140737488355328 by omega) ?_)
   conv=>whnf
   refine ⟨[[102,97,118,111,117,114]],rfl,?_⟩
   conv=>whnf
   refine cR (lrow_ok LC om0 _ w10) [1,2,4] ?_
   conv=>whnf
   have L103:=LOk.snoc LC w10
   refine ⟨fun hc=>?_,fun hc=>?_⟩
   ·have hc:=of_decide_eq_true hc
    have qc:croW x=[[[99,114,111,115,115],Lib.itoa x.cross]]:=by unfold croW;rw [if_pos (by omega)]
    conv=>whnf
    refine cO (fun _=>it x.cross om0 om0) ?_
    conv=>whnf
    refine cR (line_ok L103 om0 _ w11) [1,5,6] ?_
    conv=>whnf
    have LD:LOk 51 (headW x++x.lets.map letW++midW x++x.cov.map covW++favW x++croW x):=by
     have a:LOk 1 (favW x):=by rw [qf];first | exact LOk.snoc LOk.nil w10 | exact ⟨by simp,fun w hw=>by cases hw⟩
     have b:LOk 1 (croW x):=by rw [qc];first | exact LOk.snoc LOk.nil w11 | exact ⟨by simp,fun w hw=>by cases hw⟩
     exact (LC.app a).app b
    refine loop_up (cxOk _ _) x.calls.length (fun _=>True) (fun k=>⟨[(1,.ptr 0 0),(2,.str []),(3,.int .i64 0),(4,.ptr 1 0),(5,.fn (.func 55) [] [.ptr 1 0]),(6,.fn (.func 58) [] []),(144,.sl 2 encK k0 x.calls),(145,.int .i64 (x.calls.length:Nat)),(146,.int .i64 (k:Nat))],[(0,.cells 31 (celX x)),(1,.cells 85 [.ptr 1 0,.own 2]),(2,.lst 5 1 (strAVs (txt (headW x++x.lets.map letW++midW x++x.cov.map covW++favW x++croW x++(x.calls.take k).map callW))))],3⟩) trivial ((wk_of [(0,.id 0),(1,.id 1),(2,.id 7)] rfl ⟨wc0,wa0,wa0,wc0,.fn _ _ _ _ _ ad0 ad0,.fn _ _ _ _ _ ad0 ad0,wa0,wa0,wa0,trivial⟩ ⟨wb0,wb0,⟨_,rfl,.lst _ _ _ _ _ rfl (by rw [List.take_zero,List.map_nil,List.append_nil,qf,qc];try simp only [List.append_assoc,List.append_nil])⟩,trivial⟩)) ?_
    intro k hk _
    conv=>whnf
    refine ⟨fun hd=>?_,fun hd=>?_⟩
    ·have hd:=of_decide_eq_true hd
     have hlt:k<x.calls.length:=by omega
     have hek:(k:Int).toNat=k:=Int.toNat_natCast k
     have hm:x.calls.getD k k0∈x.calls:=getD_mem hlt
     have hcr:=R.calls _ hm
     have hw:=callW_ok hcr
     have hda:=day_ok _ hcr.1.1 hcr.1.2
     conv=>whnf
     refine iO ?_;conv=>whnf
     refine And.intro rfl ?_;conv=>whnf
     rw [hek]
     conv=>whnf
     refine .eff ae0 ?_
     conv=>whnf
     refine cO (fun _=>hda) ?_
     conv=>whnf
     refine cO (fun _=>it (x.calls.getD k k0).b om0 om0) ?_
     conv=>whnf
     refine cR (line_ok (LD.app (Lcal k)) om0 _ hw) [1,2,4] ?_
     conv=>whnf
     refine ⟨by kernel_rfl,?_⟩
     conv=>whnf
     refine iO ?_;conv=>whnf
     refine up hlt trivial ((wk_of [(0,.id 0),(1,.id 1),(2,.id 5)] rfl ⟨wc0,wa0,wa0,wc0,.fn _ _ _ _ _ ad0 ad0,.fn _ _ _ _ _ ad0 ad0,wa0,wa0,wa0,trivial⟩ ⟨wb0,wb0,⟨_,rfl,.lst _ _ _ _ _ rfl (by rw [take_getD (d:=k0) hlt,List.map_append,← List.append_assoc];rfl)⟩,trivial⟩))
    have hd:=of_decide_eq_false hd
    obtain rfl:k=x.calls.length:=by omega
    conv=>whnf
    rw [List.take_length]
    have LE:LOk 71 (headW x++x.lets.map letW++midW x++x.cov.map covW++favW x++croW x++x.calls.map callW):=by have:=LD.app (Lcal x.calls.length);rw [List.take_length] at this;exact this
    refine ⟨fun hn=>?_,fun hn=>?_⟩
    ·have hn:=of_decide_eq_true hn
     have qn:notW x=[[[110,111,116,105,99,101],Lib.itoa x.notice]]:=by unfold notW;rw [if_pos (by omega)]
     conv=>whnf
     refine cO (fun _=>it x.notice om0 om0) ?_
     conv=>whnf
     refine cR (line_ok LE om0 _ w12) [1,2,3] ?_
     conv=>whnf
     have L104:=LOk.snoc LE w12
     refine ⟨fun hs=>?_,fun hs=>?_⟩
     ·have hs:=of_decide_eq_true hs
      have qs:sinW x=[[[115,105,110,107],Lib.itoa x.sink]]:=by unfold sinW;rw [if_pos (by omega)]
      conv=>whnf
      refine cO (fun _=>it x.sink om0 om0) ?_
      conv=>whnf
      refine cR (line_ok L104 om0 _ w13) [1,4,5] ?_
      conv=>whnf
      have L105:=LOk.snoc L104 w13
      refine cO (fun _=>it x.majority om0 om0) ?_
      conv=>whnf
      refine cR (line_ok L105 om0 _ w14) [1,6,7] ?_
      conv=>whnf
      have L106:=LOk.snoc L105 w14
      refine cO (fun _=>it x.fast om0 om0) ?_
      conv=>whnf
      refine cR (line_ok L106 om0 _ w15) [1,8,9] ?_
      conv=>whnf
      have L107:=LOk.snoc L106 w15
      refine .raw _ _ rfl (fun h=>by cases h) (rio_at (string_txt L107 (by simp)) [1,10] rfl rfl rfl ac0) ?_
      rintro _ ⟨_,_,_,⟨rfl,rfl,rfl⟩,-,rfl⟩
      refine ⟨Nat.le_add_right _ _,?_⟩
      conv=>whnf
      refine cO (fun _=>fits_txt L107 om0) ?_
      conv=>whnf
      exact fin L107 (by simp only [linesW,endW,qn,qs,List.append_assoc,List.append_nil,List.cons_append,List.nil_append])
     ·have hs:=of_decide_eq_false hs
      have qs:sinW x=[]:=by unfold sinW;rw [if_neg (by omega)]
      conv=>whnf
      refine cO (fun _=>it x.majority om0 om0) ?_
      conv=>whnf
      refine cR (line_ok L104 om0 _ w14) [1,4,5] ?_
      conv=>whnf
      have L108:=LOk.snoc L104 w14
      refine cO (fun _=>it x.fast om0 om0) ?_
      conv=>whnf
      refine cR (line_ok L108 om0 _ w15) [1,6,7] ?_
      conv=>whnf
      have L109:=LOk.snoc L108 w15
      refine .raw _ _ rfl (fun h=>by cases h) (rio_at (string_txt L109 (by simp)) [1,8] rfl rfl rfl ac0) ?_
      rintro _ ⟨_,_,_,⟨rfl,rfl,rfl⟩,-,rfl⟩
      refine ⟨Nat.le_add_right _ _,?_⟩
      conv=>whnf
      refine cO (fun _=>fits_txt L109 om0) ?_
      conv=>whnf
      exact fin L109 (by simp only [linesW,endW,qn,qs,List.append_assoc,List.append_nil,List.cons_append,List.nil_append])
    ·have hn:=of_decide_eq_false hn
     have qn:notW x=[]:=by unfold notW;rw [if_neg (by omega)]
     conv=>whnf
     refine ⟨fun hs=>?_,fun hs=>?_⟩
     ·have hs:=of_decide_eq_true hs
      have qs:sinW x=[[[115,105,110,107],Lib.itoa x.sink]]:=by unfold sinW;rw [if_pos (by omega)]
      conv=>whnf
      refine cO (fun _=>it x.sink om0 om0) ?_
      conv=>whnf
      refine cR (line_ok LE om0 _ w13) [1,2,3] ?_
      conv=>whnf
      have L110:=LOk.snoc LE w13
      refine cO (fun _=>it x.majority om0 om0) ?_
      conv=>whnf
      refine cR (line_ok L110 om0 _ w14) [1,4,5] ?_
      conv=>whnf
      have L111:=LOk.snoc L110 w14
      refine cO (fun _=>it x.fast om0 om0) ?_
      conv=>whnf
      refine cR (line_ok L111 om0 _ w15) [1,6,7] ?_
      conv=>whnf
      have L112:=LOk.snoc L111 w15
      refine .raw _ _ rfl (fun h=>by cases h) (rio_at (string_txt L112 (by simp)) [1,8] rfl rfl rfl ac0) ?_
      rintro _ ⟨_,_,_,⟨rfl,rfl,rfl⟩,-,rfl⟩
      refine ⟨Nat.le_add_right _ _,?_⟩
      conv=>whnf
      refine cO (fun _=>fits_txt L112 om0) ?_
      conv=>whnf
      exact fin L112 (by simp only [linesW,endW,qn,qs,List.append_assoc,List.append_nil,List.cons_append,List.nil_append])
     ·have hs:=of_decide_eq_false hs
      have qs:sinW x=[]:=by unfold sinW;rw [if_neg (by omega)]
      conv=>whnf
      refine cO (fun _=>it x.majority om0 om0) ?_
      conv=>whnf
      refine cR (line_ok LE om0 _ w14) [1,2,3] ?_
      conv=>whnf
      have L113:=LOk.snoc LE w14
      refine cO (fun _=>it x.fast om0 om0) ?_
      conv=>whnf
      refine cR (line_ok L113 om0 _ w15) [1,4,5] ?_
      conv=>whnf
      have L114:=LOk.snoc L113 w15
      refine .raw _ _ rfl (fun h=>by cases h) (rio_at (string_txt L114 (by simp)) [1,6] rfl rfl rfl ac0) ?_
      rintro _ ⟨_,_,_,⟨rfl,rfl,rfl⟩,-,rfl⟩
      refine ⟨Nat.le_add_right _ _,?_⟩
      conv=>whnf
      refine cO (fun _=>fits_txt L114 om0) ?_
      conv=>whnf
      exact fin L114 (by simp only [linesW,endW,qn,qs,List.append_assoc,List.append_nil,List.cons_append,List.nil_append])
   ·have hc:=of_decide_eq_false hc
    have qc:croW x=[]:=by unfold croW;rw [if_neg (by omega)]
    conv=>whnf
    have LD:LOk 51 (headW x++x.lets.map letW++midW x++x.cov.map covW++favW x++croW x):=by
     have a:LOk 1 (favW x):=by rw [qf];first | exact LOk.snoc LOk.nil w10 | exact ⟨by simp,fun w hw=>by cases hw⟩
     have b:LOk 1 (croW x):=by rw [qc];first | exact LOk.snoc LOk.nil w11 | exact ⟨by simp,fun w hw=>by cases hw⟩
     exact (LC.app a).app b
    refine loop_up (cxOk _ _) x.calls.length (fun _=>True) (fun k=>⟨[(1,.ptr 0 0),(2,.str []),(3,.int .i64 0),(4,.ptr 1 0),(5,.fn (.func 55) [] [.ptr 1 0]),(6,.fn (.func 58) [] []),(144,.sl 2 encK k0 x.calls),(145,.int .i64 (x.calls.length:Nat)),(146,.int .i64 (k:Nat))],[(0,.cells 31 (celX x)),(1,.cells 85 [.ptr 1 0,.own 2]),(2,.lst 5 1 (strAVs (txt (headW x++x.lets.map letW++midW x++x.cov.map covW++favW x++croW x++(x.calls.take k).map callW))))],3⟩) trivial ((wk_of [(0,.id 0),(1,.id 1),(2,.id 5)] rfl ⟨wc0,wa0,wa0,wc0,.fn _ _ _ _ _ ad0 ad0,.fn _ _ _ _ _ ad0 ad0,wa0,wa0,wa0,trivial⟩ ⟨wb0,wb0,⟨_,rfl,.lst _ _ _ _ _ rfl (by rw [List.take_zero,List.map_nil,List.append_nil,qf,qc];try simp only [List.append_assoc,List.append_nil])⟩,trivial⟩)) ?_
    intro k hk _
    conv=>whnf
    refine ⟨fun hd=>?_,fun hd=>?_⟩
    ·have hd:=of_decide_eq_true hd
     have hlt:k<x.calls.length:=by omega
     have hek:(k:Int).toNat=k:=Int.toNat_natCast k
     have hm:x.calls.getD k k0∈x.calls:=getD_mem hlt
     have hcr:=R.calls _ hm
     have hw:=callW_ok hcr
     have hda:=day_ok _ hcr.1.1 hcr.1.2
     conv=>whnf
     refine iO ?_;conv=>whnf
     refine And.intro rfl ?_;conv=>whnf
     rw [hek]
     conv=>whnf
     refine .eff ae0 ?_
     conv=>whnf
     refine cO (fun _=>hda) ?_
     conv=>whnf
     refine cO (fun _=>it (x.calls.getD k k0).b om0 om0) ?_
     conv=>whnf
     refine cR (line_ok (LD.app (Lcal k)) om0 _ hw) [1,2,4] ?_
     conv=>whnf
     refine ⟨by kernel_rfl,?_⟩
     conv=>whnf
     refine iO ?_;conv=>whnf
     refine up hlt trivial ((wk_of [(0,.id 0),(1,.id 1),(2,.id 5)] rfl ⟨wc0,wa0,wa0,wc0,.fn _ _ _ _ _ ad0 ad0,.fn _ _ _ _ _ ad0 ad0,wa0,wa0,wa0,trivial⟩ ⟨wb0,wb0,⟨_,rfl,.lst _ _ _ _ _ rfl (by rw [take_getD (d:=k0) hlt,List.map_append,← List.append_assoc];rfl)⟩,trivial⟩))
    have hd:=of_decide_eq_false hd
    obtain rfl:k=x.calls.length:=by omega
    conv=>whnf
    rw [List.take_length]
    have LE:LOk 71 (headW x++x.lets.map letW++midW x++x.cov.map covW++favW x++croW x++x.calls.map callW):=by have:=LD.app (Lcal x.calls.length);rw [List.take_length] at this;exact this
    refine ⟨fun hn=>?_,fun hn=>?_⟩
    ·have hn:=of_decide_eq_true hn
     have qn:notW x=[[[110,111,116,105,99,101],Lib.itoa x.notice]]:=by unfold notW;rw [if_pos (by omega)]
     conv=>whnf
     refine cO (fun _=>it x.notice om0 om0) ?_
     conv=>whnf
     refine cR (line_ok LE om0 _ w12) [1,2,3] ?_
     conv=>whnf
     have L115:=LOk.snoc LE w12
     refine ⟨fun hs=>?_,fun hs=>?_⟩
     ·have hs:=of_decide_eq_true hs
      have qs:sinW x=[[[115,105,110,107],Lib.itoa x.sink]]:=by unfold sinW;rw [if_pos (by omega)]
      conv=>whnf
      refine cO (fun _=>it x.sink om0 om0) ?_
      conv=>whnf
      refine cR (line_ok L115 om0 _ w13) [1,4,5] ?_
      conv=>whnf
      have L116:=LOk.snoc L115 w13
      refine cO (fun _=>it x.majority om0 om0) ?_
      conv=>whnf
      refine cR (line_ok L116 om0 _ w14) [1,6,7] ?_
      conv=>whnf
      have L117:=LOk.snoc L116 w14
      refine cO (fun _=>it x.fast om0 om0) ?_
      conv=>whnf
      refine cR (line_ok L117 om0 _ w15) [1,8,9] ?_
      conv=>whnf
      have L118:=LOk.snoc L117 w15
      refine .raw _ _ rfl (fun h=>by cases h) (rio_at (string_txt L118 (by simp)) [1,10] rfl rfl rfl ac0) ?_
      rintro _ ⟨_,_,_,⟨rfl,rfl,rfl⟩,-,rfl⟩
      refine ⟨Nat.le_add_right _ _,?_⟩
      conv=>whnf
      refine cO (fun _=>fits_txt L118 om0) ?_
      conv=>whnf
      exact fin L118 (by simp only [linesW,endW,qn,qs,List.append_assoc,List.append_nil,List.cons_append,List.nil_append])
     ·have hs:=of_decide_eq_false hs
      have qs:sinW x=[]:=by unfold sinW;rw [if_neg (by omega)]
      conv=>whnf
      refine cO (fun _=>it x.majority om0 om0) ?_
      conv=>whnf
      refine cR (line_ok L115 om0 _ w14) [1,4,5] ?_
      conv=>whnf
      have L119:=LOk.snoc L115 w14
      refine cO (fun _=>it x.fast om0 om0) ?_
      conv=>whnf
      refine cR (line_ok L119 om0 _ w15) [1,6,7] ?_
      conv=>whnf
      have L120:=LOk.snoc L119 w15
      refine .raw _ _ rfl (fun h=>by cases h) (rio_at (string_txt L120 (by simp)) [1,8] rfl rfl rfl ac0) ?_
      rintro _ ⟨_,_,_,⟨rfl,rfl,rfl⟩,-,rfl⟩
      refine ⟨Nat.le_add_right _ _,?_⟩
      conv=>whnf
      refine cO (fun _=>fits_txt L120 om0) ?_
      conv=>whnf
      exact fin L120 (by simp only [linesW,endW,qn,qs,List.append_assoc,List.append_nil,List.cons_append,List.nil_append])
    ·have hn:=of_decide_eq_false hn
     have qn:notW x=[]:=by unfold notW;rw [if_neg (by omega)]
     conv=>whnf
     refine ⟨fun hs=>?_,fun hs=>?_⟩
     ·have hs:=of_decide_eq_true hs
      have qs:sinW x=[[[115,105,110,107],Lib.itoa x.sink]]:=by unfold sinW;rw [if_pos (by omega)]
      conv=>whnf
      refine cO (fun _=>it x.sink om0 om0) ?_
      conv=>whnf
      refine cR (line_ok LE om0 _ w13) [1,2,3] ?_
      conv=>whnf
      have L121:=LOk.snoc LE w13
      refine cO (fun _=>it x.majority om0 om0) ?_
      conv=>whnf
      refine cR (line_ok L121 om0 _ w14) [1,4,5] ?_
      conv=>whnf
      have L122:=LOk.snoc L121 w14
      refine cO (fun _=>it x.fast om0 om0) ?_
      conv=>whnf
      refine cR (line_ok L122 om0 _ w15) [1,6,7] ?_
      conv=>whnf
      have L123:=LOk.snoc L122 w15
      refine .raw _ _ rfl (fun h=>by cases h) (rio_at (string_txt L123 (by simp)) [1,8] rfl rfl rfl ac0) ?_
      rintro _ ⟨_,_,_,⟨rfl,rfl,rfl⟩,-,rfl⟩
      refine ⟨Nat.le_add_right _ _,?_⟩
      conv=>whnf
      refine cO (fun _=>fits_txt L123 om0) ?_
      conv=>whnf
      exact fin L123 (by simp only [linesW,endW,qn,qs,List.append_assoc,List.append_nil,List.cons_append,List.nil_append])
     ·have hs:=of_decide_eq_false hs
      have qs:sinW x=[]:=by unfold sinW;rw [if_neg (by omega)]
      conv=>whnf
      refine cO (fun _=>it x.majority om0 om0) ?_
      conv=>whnf
      refine cR (line_ok LE om0 _ w14) [1,2,3] ?_
      conv=>whnf
      have L124:=LOk.snoc LE w14
      refine cO (fun _=>it x.fast om0 om0) ?_
      conv=>whnf
      refine cR (line_ok L124 om0 _ w15) [1,4,5] ?_
      conv=>whnf
      have L125:=LOk.snoc L124 w15
      refine .raw _ _ rfl (fun h=>by cases h) (rio_at (string_txt L125 (by simp)) [1,6] rfl rfl rfl ac0) ?_
      rintro _ ⟨_,_,_,⟨rfl,rfl,rfl⟩,-,rfl⟩
      refine ⟨Nat.le_add_right _ _,?_⟩
      conv=>whnf
      refine cO (fun _=>fits_txt L125 om0) ?_
      conv=>whnf
      exact fin L125 (by simp only [linesW,endW,qn,qs,List.append_assoc,List.append_nil,List.cons_append,List.nil_append])
  ·have hf:=of_decide_eq_false hf
   have qf:favW x=[]:=by unfold favW;rw [if_neg (by omega)]
   conv=>whnf
   refine ⟨fun hc=>?_,fun hc=>?_⟩
   ·have hc:=of_decide_eq_true hc
    have qc:croW x=[[[99,114,111,115,115],Lib.itoa x.cross]]:=by unfold croW;rw [if_pos (by omega)]
    conv=>whnf
    refine cO (fun _=>it x.cross om0 om0) ?_
    conv=>whnf
    refine cR (line_ok LC om0 _ w11) [1,2,3] ?_
    conv=>whnf
    have LD:LOk 51 (headW x++x.lets.map letW++midW x++x.cov.map covW++favW x++croW x):=by
     have a:LOk 1 (favW x):=by rw [qf];first | exact LOk.snoc LOk.nil w10 | exact ⟨by simp,fun w hw=>by cases hw⟩
     have b:LOk 1 (croW x):=by rw [qc];first | exact LOk.snoc LOk.nil w11 | exact ⟨by simp,fun w hw=>by cases hw⟩
     exact (LC.app a).app b
    refine loop_up (cxOk _ _) x.calls.length (fun _=>True) (fun k=>⟨[(1,.ptr 0 0),(2,.str []),(3,.int .i64 0),(4,.ptr 1 0),(5,.fn (.func 55) [] [.ptr 1 0]),(6,.fn (.func 58) [] []),(144,.sl 2 encK k0 x.calls),(145,.int .i64 (x.calls.length:Nat)),(146,.int .i64 (k:Nat))],[(0,.cells 31 (celX x)),(1,.cells 85 [.ptr 1 0,.own 2]),(2,.lst 5 1 (strAVs (txt (headW x++x.lets.map letW++midW x++x.cov.map covW++favW x++croW x++(x.calls.take k).map callW))))],3⟩) trivial ((wk_of [(0,.id 0),(1,.id 1),(2,.id 4)] rfl ⟨wc0,wa0,wa0,wc0,.fn _ _ _ _ _ ad0 ad0,.fn _ _ _ _ _ ad0 ad0,wa0,wa0,wa0,trivial⟩ ⟨wb0,wb0,⟨_,rfl,.lst _ _ _ _ _ rfl (by rw [List.take_zero,List.map_nil,List.append_nil,qf,qc];try simp only [List.append_assoc,List.append_nil])⟩,trivial⟩)) ?_
    intro k hk _
    conv=>whnf
    refine ⟨fun hd=>?_,fun hd=>?_⟩
    ·have hd:=of_decide_eq_true hd
     have hlt:k<x.calls.length:=by omega
     have hek:(k:Int).toNat=k:=Int.toNat_natCast k
     have hm:x.calls.getD k k0∈x.calls:=getD_mem hlt
     have hcr:=R.calls _ hm
     have hw:=callW_ok hcr
     have hda:=day_ok _ hcr.1.1 hcr.1.2
     conv=>whnf
     refine iO ?_;conv=>whnf
     refine And.intro rfl ?_;conv=>whnf
     rw [hek]
     conv=>whnf
     refine .eff ae0 ?_
     conv=>whnf
     refine cO (fun _=>hda) ?_
     conv=>whnf
     refine cO (fun _=>it (x.calls.getD k k0).b om0 om0) ?_
     conv=>whnf
     refine cR (line_ok (LD.app (Lcal k)) om0 _ hw) [1,2,4] ?_
     conv=>whnf
     refine ⟨by kernel_rfl,?_⟩
     conv=>whnf
     refine iO ?_;conv=>whnf
     refine up hlt trivial ((wk_of [(0,.id 0),(1,.id 1),(2,.id 5)] rfl ⟨wc0,wa0,wa0,wc0,.fn _ _ _ _ _ ad0 ad0,.fn _ _ _ _ _ ad0 ad0,wa0,wa0,wa0,trivial⟩ ⟨wb0,wb0,⟨_,rfl,.lst _ _ _ _ _ rfl (by rw [take_getD (d:=k0) hlt,List.map_append,← List.append_assoc];rfl)⟩,trivial⟩))
    have hd:=of_decide_eq_false hd
    obtain rfl:k=x.calls.length:=by omega
    conv=>whnf
    rw [List.take_length]
    have LE:LOk 71 (headW x++x.lets.map letW++midW x++x.cov.map covW++favW x++croW x++x.calls.map callW):=by have:=LD.app (Lcal x.calls.length);rw [List.take_length] at this;exact this
    refine ⟨fun hn=>?_,fun hn=>?_⟩
    ·have hn:=of_decide_eq_true hn
     have qn:notW x=[[[110,111,116,105,99,101],Lib.itoa x.notice]]:=by unfold notW;rw [if_pos (by omega)]
     conv=>whnf
     refine cO (fun _=>it x.notice om0 om0) ?_
     conv=>whnf
     refine cR (line_ok LE om0 _ w12) [1,2,3] ?_
     conv=>whnf
     have L126:=LOk.snoc LE w12
     refine ⟨fun hs=>?_,fun hs=>?_⟩
     ·have hs:=of_decide_eq_true hs
      have qs:sinW x=[[[115,105,110,107],Lib.itoa x.sink]]:=by unfold sinW;rw [if_pos (by omega)]
      conv=>whnf
      refine cO (fun _=>it x.sink om0 om0) ?_
      conv=>whnf
      refine cR (line_ok L126 om0 _ w13) [1,4,5] ?_
      conv=>whnf
      have L127:=LOk.snoc L126 w13
      refine cO (fun _=>it x.majority om0 om0) ?_
      conv=>whnf
      refine cR (line_ok L127 om0 _ w14) [1,6,7] ?_
      conv=>whnf
      have L128:=LOk.snoc L127 w14
      refine cO (fun _=>it x.fast om0 om0) ?_
      conv=>whnf
      refine cR (line_ok L128 om0 _ w15) [1,8,9] ?_
      conv=>whnf
      have L129:=LOk.snoc L128 w15
      refine .raw _ _ rfl (fun h=>by cases h) (rio_at (string_txt L129 (by simp)) [1,10] rfl rfl rfl ac0) ?_
      rintro _ ⟨_,_,_,⟨rfl,rfl,rfl⟩,-,rfl⟩
      refine ⟨Nat.le_add_right _ _,?_⟩
      conv=>whnf
      refine cO (fun _=>fits_txt L129 om0) ?_
      conv=>whnf
      exact fin L129 (by simp only [linesW,endW,qn,qs,List.append_assoc,List.append_nil,List.cons_append,List.nil_append])
     ·have hs:=of_decide_eq_false hs
      have qs:sinW x=[]:=by unfold sinW;rw [if_neg (by omega)]
      conv=>whnf
      refine cO (fun _=>it x.majority om0 om0) ?_
      conv=>whnf
      refine cR (line_ok L126 om0 _ w14) [1,4,5] ?_
      conv=>whnf
      have L130:=LOk.snoc L126 w14
      refine cO (fun _=>it x.fast om0 om0) ?_
      conv=>whnf
      refine cR (line_ok L130 om0 _ w15) [1,6,7] ?_
      conv=>whnf
      have L131:=LOk.snoc L130 w15
      refine .raw _ _ rfl (fun h=>by cases h) (rio_at (string_txt L131 (by simp)) [1,8] rfl rfl rfl ac0) ?_
      rintro _ ⟨_,_,_,⟨rfl,rfl,rfl⟩,-,rfl⟩
      refine ⟨Nat.le_add_right _ _,?_⟩
      conv=>whnf
      refine cO (fun _=>fits_txt L131 om0) ?_
      conv=>whnf
      exact fin L131 (by simp only [linesW,endW,qn,qs,List.append_assoc,List.append_nil,List.cons_append,List.nil_append])
    ·have hn:=of_decide_eq_false hn
     have qn:notW x=[]:=by unfold notW;rw [if_neg (by omega)]
     conv=>whnf
     refine ⟨fun hs=>?_,fun hs=>?_⟩
     ·have hs:=of_decide_eq_true hs
      have qs:sinW x=[[[115,105,110,107],Lib.itoa x.sink]]:=by unfold sinW;rw [if_pos (by omega)]
      conv=>whnf
      refine cO (fun _=>it x.sink om0 om0) ?_
      conv=>whnf
      refine cR (line_ok LE om0 _ w13) [1,2,3] ?_
      conv=>whnf
      have L132:=LOk.snoc LE w13
      refine cO (fun _=>it x.majority om0 om0) ?_
      conv=>whnf
      refine cR (line_ok L132 om0 _ w14) [1,4,5] ?_
      conv=>whnf
      have L133:=LOk.snoc L132 w14
      refine cO (fun _=>it x.fast om0 om0) ?_
      conv=>whnf
      refine cR (line_ok L133 om0 _ w15) [1,6,7] ?_
      conv=>whnf
      have L134:=LOk.snoc L133 w15
      refine .raw _ _ rfl (fun h=>by cases h) (rio_at (string_txt L134 (by simp)) [1,8] rfl rfl rfl ac0) ?_
      rintro _ ⟨_,_,_,⟨rfl,rfl,rfl⟩,-,rfl⟩
      refine ⟨Nat.le_add_right _ _,?_⟩
      conv=>whnf
      refine cO (fun _=>fits_txt L134 om0) ?_
      conv=>whnf
      exact fin L134 (by simp only [linesW,endW,qn,qs,List.append_assoc,List.append_nil,List.cons_append,List.nil_append])
     ·have hs:=of_decide_eq_false hs
      have qs:sinW x=[]:=by unfold sinW;rw [if_neg (by omega)]
      conv=>whnf
      refine cO (fun _=>it x.majority om0 om0) ?_
      conv=>whnf
      refine cR (line_ok LE om0 _ w14) [1,2,3] ?_
      conv=>whnf
      have L135:=LOk.snoc LE w14
      refine cO (fun _=>it x.fast om0 om0) ?_
      conv=>whnf
      refine cR (line_ok L135 om0 _ w15) [1,4,5] ?_
      conv=>whnf
      have L136:=LOk.snoc L135 w15
      refine .raw _ _ rfl (fun h=>by cases h) (rio_at (string_txt L136 (by simp)) [1,6] rfl rfl rfl ac0) ?_
      rintro _ ⟨_,_,_,⟨rfl,rfl,rfl⟩,-,rfl⟩
      refine ⟨Nat.le_add_right _ _,?_⟩
      conv=>whnf
      refine cO (fun _=>fits_txt L136 om0) ?_
      conv=>whnf
      exact fin L136 (by simp only [linesW,endW,qn,qs,List.append_assoc,List.append_nil,List.cons_append,List.nil_append])
   ·have hc:=of_decide_eq_false hc
    have qc:croW x=[]:=by unfold croW;rw [if_neg (by omega)]
    conv=>whnf
    have LD:LOk 51 (headW x++x.lets.map letW++midW x++x.cov.map covW++favW x++croW x):=by
     have a:LOk 1 (favW x):=by rw [qf];first | exact LOk.snoc LOk.nil w10 | exact ⟨by simp,fun w hw=>by cases hw⟩
     have b:LOk 1 (croW x):=by rw [qc];first | exact LOk.snoc LOk.nil w11 | exact ⟨by simp,fun w hw=>by cases hw⟩
     exact (LC.app a).app b
    refine loop_up (cxOk _ _) x.calls.length (fun _=>True) (fun k=>⟨[(1,.ptr 0 0),(2,.str []),(3,.int .i64 0),(4,.ptr 1 0),(5,.fn (.func 55) [] [.ptr 1 0]),(6,.fn (.func 58) [] []),(144,.sl 2 encK k0 x.calls),(145,.int .i64 (x.calls.length:Nat)),(146,.int .i64 (k:Nat))],[(0,.cells 31 (celX x)),(1,.cells 85 [.ptr 1 0,.own 2]),(2,.lst 5 1 (strAVs (txt (headW x++x.lets.map letW++midW x++x.cov.map covW++favW x++croW x++(x.calls.take k).map callW))))],3⟩) trivial ((wk_of [(0,.id 0),(1,.id 1),(2,.id 2)] rfl ⟨wc0,wa0,wa0,wc0,.fn _ _ _ _ _ ad0 ad0,.fn _ _ _ _ _ ad0 ad0,wa0,wa0,wa0,trivial⟩ ⟨wb0,wb0,⟨_,rfl,.lst _ _ _ _ _ rfl (by rw [List.take_zero,List.map_nil,List.append_nil,qf,qc];try simp only [List.append_assoc,List.append_nil])⟩,trivial⟩)) ?_
    intro k hk _
    conv=>whnf
    refine ⟨fun hd=>?_,fun hd=>?_⟩
    ·have hd:=of_decide_eq_true hd
     have hlt:k<x.calls.length:=by omega
     have hek:(k:Int).toNat=k:=Int.toNat_natCast k
     have hm:x.calls.getD k k0∈x.calls:=getD_mem hlt
     have hcr:=R.calls _ hm
     have hw:=callW_ok hcr
     have hda:=day_ok _ hcr.1.1 hcr.1.2
     conv=>whnf
     refine iO ?_;conv=>whnf
     refine And.intro rfl ?_;conv=>whnf
     rw [hek]
     conv=>whnf
     refine .eff ae0 ?_
     conv=>whnf
     refine cO (fun _=>hda) ?_
     conv=>whnf
     refine cO (fun _=>it (x.calls.getD k k0).b om0 om0) ?_
     conv=>whnf
     refine cR (line_ok (LD.app (Lcal k)) om0 _ hw) [1,2,4] ?_
     conv=>whnf
     refine ⟨by kernel_rfl,?_⟩
     conv=>whnf
     refine iO ?_;conv=>whnf
     refine up hlt trivial ((wk_of [(0,.id 0),(1,.id 1),(2,.id 5)] rfl ⟨wc0,wa0,wa0,wc0,.fn _ _ _ _ _ ad0 ad0,.fn _ _ _ _ _ ad0 ad0,wa0,wa0,wa0,trivial⟩ ⟨wb0,wb0,⟨_,rfl,.lst _ _ _ _ _ rfl (by rw [take_getD (d:=k0) hlt,List.map_append,← List.append_assoc];rfl)⟩,trivial⟩))
    have hd:=of_decide_eq_false hd
    obtain rfl:k=x.calls.length:=by omega
    conv=>whnf
    rw [List.take_length]
    have LE:LOk 71 (headW x++x.lets.map letW++midW x++x.cov.map covW++favW x++croW x++x.calls.map callW):=by have:=LD.app (Lcal x.calls.length);rw [List.take_length] at this;exact this
    refine ⟨fun hn=>?_,fun hn=>?_⟩
    ·have hn:=of_decide_eq_true hn
     have qn:notW x=[[[110,111,116,105,99,101],Lib.itoa x.notice]]:=by unfold notW;rw [if_pos (by omega)]
     conv=>whnf
     refine cO (fun _=>it x.notice om0 om0) ?_
     conv=>whnf
     refine cR (line_ok LE om0 _ w12) [1,2,3] ?_
     conv=>whnf
     have L137:=LOk.snoc LE w12
     refine ⟨fun hs=>?_,fun hs=>?_⟩
     ·have hs:=of_decide_eq_true hs
      have qs:sinW x=[[[115,105,110,107],Lib.itoa x.sink]]:=by unfold sinW;rw [if_pos (by omega)]
      conv=>whnf
      refine cO (fun _=>it x.sink om0 om0) ?_
      conv=>whnf
      refine cR (line_ok L137 om0 _ w13) [1,4,5] ?_
      conv=>whnf
      have L138:=LOk.snoc L137 w13
      refine cO (fun _=>it x.majority om0 om0) ?_
      conv=>whnf
      refine cR (line_ok L138 om0 _ w14) [1,6,7] ?_
      conv=>whnf
      have L139:=LOk.snoc L138 w14
      refine cO (fun _=>it x.fast om0 om0) ?_
      conv=>whnf
      refine cR (line_ok L139 om0 _ w15) [1,8,9] ?_
      conv=>whnf
      have L140:=LOk.snoc L139 w15
      refine .raw _ _ rfl (fun h=>by cases h) (rio_at (string_txt L140 (by simp)) [1,10] rfl rfl rfl ac0) ?_
      rintro _ ⟨_,_,_,⟨rfl,rfl,rfl⟩,-,rfl⟩
      refine ⟨Nat.le_add_right _ _,?_⟩
      conv=>whnf
      refine cO (fun _=>fits_txt L140 om0) ?_
      conv=>whnf
      exact fin L140 (by simp only [linesW,endW,qn,qs,List.append_assoc,List.append_nil,List.cons_append,List.nil_append])
     ·have hs:=of_decide_eq_false hs
      have qs:sinW x=[]:=by unfold sinW;rw [if_neg (by omega)]
      conv=>whnf
      refine cO (fun _=>it x.majority om0 om0) ?_
      conv=>whnf
      refine cR (line_ok L137 om0 _ w14) [1,4,5] ?_
      conv=>whnf
      have L141:=LOk.snoc L137 w14
      refine cO (fun _=>it x.fast om0 om0) ?_
      conv=>whnf
      refine cR (line_ok L141 om0 _ w15) [1,6,7] ?_
      conv=>whnf
      have L142:=LOk.snoc L141 w15
      refine .raw _ _ rfl (fun h=>by cases h) (rio_at (string_txt L142 (by simp)) [1,8] rfl rfl rfl ac0) ?_
      rintro _ ⟨_,_,_,⟨rfl,rfl,rfl⟩,-,rfl⟩
      refine ⟨Nat.le_add_right _ _,?_⟩
      conv=>whnf
      refine cO (fun _=>fits_txt L142 om0) ?_
      conv=>whnf
      exact fin L142 (by simp only [linesW,endW,qn,qs,List.append_assoc,List.append_nil,List.cons_append,List.nil_append])
    ·have hn:=of_decide_eq_false hn
     have qn:notW x=[]:=by unfold notW;rw [if_neg (by omega)]
     conv=>whnf
     refine ⟨fun hs=>?_,fun hs=>?_⟩
     ·have hs:=of_decide_eq_true hs
      have qs:sinW x=[[[115,105,110,107],Lib.itoa x.sink]]:=by unfold sinW;rw [if_pos (by omega)]
      conv=>whnf
      refine cO (fun _=>it x.sink om0 om0) ?_
      conv=>whnf
      refine cR (line_ok LE om0 _ w13) [1,2,3] ?_
      conv=>whnf
      have L143:=LOk.snoc LE w13
      refine cO (fun _=>it x.majority om0 om0) ?_
      conv=>whnf
      refine cR (line_ok L143 om0 _ w14) [1,4,5] ?_
      conv=>whnf
      have L144:=LOk.snoc L143 w14
      refine cO (fun _=>it x.fast om0 om0) ?_
      conv=>whnf
      refine cR (line_ok L144 om0 _ w15) [1,6,7] ?_
      conv=>whnf
      have L145:=LOk.snoc L144 w15
      refine .raw _ _ rfl (fun h=>by cases h) (rio_at (string_txt L145 (by simp)) [1,8] rfl rfl rfl ac0) ?_
      rintro _ ⟨_,_,_,⟨rfl,rfl,rfl⟩,-,rfl⟩
      refine ⟨Nat.le_add_right _ _,?_⟩
      conv=>whnf
      refine cO (fun _=>fits_txt L145 om0) ?_
      conv=>whnf
      exact fin L145 (by simp only [linesW,endW,qn,qs,List.append_assoc,List.append_nil,List.cons_append,List.nil_append])
     ·have hs:=of_decide_eq_false hs
      have qs:sinW x=[]:=by unfold sinW;rw [if_neg (by omega)]
      conv=>whnf
      refine cO (fun _=>it x.majority om0 om0) ?_
      conv=>whnf
      refine cR (line_ok LE om0 _ w14) [1,2,3] ?_
      conv=>whnf
      have L146:=LOk.snoc LE w14
      refine cO (fun _=>it x.fast om0 om0) ?_
      conv=>whnf
      refine cR (line_ok L146 om0 _ w15) [1,4,5] ?_
      conv=>whnf
      have L147:=LOk.snoc L146 w15
      refine .raw _ _ rfl (fun h=>by cases h) (rio_at (string_txt L147 (by simp)) [1,6] rfl rfl rfl ac0) ?_
      rintro _ ⟨_,_,_,⟨rfl,rfl,rfl⟩,-,rfl⟩
      refine ⟨Nat.le_add_right _ _,?_⟩
      conv=>whnf
      refine cO (fun _=>fits_txt L147 om0) ?_
      conv=>whnf
      exact fin L147 (by simp only [linesW,endW,qn,qs,List.append_assoc,List.append_nil,List.cons_append,List.nil_append])
def badB (e:Exp):Bool:=(decide ((e.args.length:Int)≠opsN e.op)||(decide (e.op≠0)&&decide (e.unit≠0))||(decide (e.op≠0)&&!(decide (e.op=16)||decide (e.op=17)||decide (e.op=18))&&decide (e.n≠0)) ||
 ((decide (e.op=16)||decide (e.op=17)||decide (e.op=18))&&!inB 1 1000 [e.n]))
def formT (op:Int):List UInt8 :=
 if op=15 then [105,102] else if op=14 then [111,114] else if op=13 then [97,110,100] else if op=12 then [110,111,116] else if op=11 then [61,61] else if op=10 then [60]
 else if op=4 then [43] else if op=5 then [45] else if op=6 then [42] else if op=7 then [47] else if op=8 then [109,105,110] else if op=9 then [109,97,120]
 else if op=16 then [101,118,101,114] else if op=17 then [108,111,110,103] else if op=18 then [115,111,111,110] else []
def formN (op:Int):Int :=
 if op=15 then 0 else if op=14 then 1 else if op=13 then 2 else if op=12 then 3 else if op=11∨op=10 then 4 else if op=4∨op=5 then 5 else if op=6∨op=7 then 6
 else if op=8∨op=9 then 7 else if op=16∨op=17∨op=18 then 8 else 7
def leafT (e:Exp):List UInt8:=if e.op=1 then e.s else if e.op=2 then [102,97,99,116,32]++e.s else if e.op=3 then [114,97,116,101,32]++e.s else numT e.n e.unit
def tailT (l:List (List UInt8)):List UInt8:=Lib.joinTail [32] l
theorem LOk.txt {n:Nat} {L:List (List (List UInt8))} (h:LOk n L) (hn:n≤120):(txt L).length≤2784000000360:=by
 have h1:=txt_len h
 have h2:n*23200000003≤120*23200000003:=Nat.mul_le_mul_right _ hn
 omega
noncomputable instance:DecidableEq Exp:=fun _ _=>Classical.propDecidable _
noncomputable instance:DecidableEq LetE:=fun _ _=>Classical.propDecidable _
noncomputable instance:DecidableEq Cov:=fun _ _=>Classical.propDecidable _
noncomputable instance:DecidableEq CallE:=fun _ _=>Classical.propDecidable _
noncomputable instance:DecidableEq Ind:=fun _ _=>Classical.propDecidable _
theorem list_eq {α:Type} {d:α}:∀ {l r:List α},l.length=r.length→(∀ j,j<l.length→l.getD j d=r.getD j d)→l=r
 | [],[],_,_=>rfl
 | [],_::_,h,_=>by cases h
 | _::_,[],h,_=>by cases h
 | a::l,b::r,h,hj=>by
  have h0:a=b:=hj 0 (by simp)
  have h1:l=r:=list_eq (by simpa using h) fun j hl=>hj (j+1) (by simp;omega)
  rw [h0,h1]
theorem Exp.ext_iff' (a b:Exp):a=b↔a.op=b.op∧a.n=b.n∧a.unit=b.unit∧a.s=b.s∧a.args=b.args:=by
 cases a;cases b
 simp [Exp.op,Exp.n,Exp.unit,Exp.s,Exp.args]
theorem eqE_dec (a b:Exp):decide (a=b)=(decide (a.op=b.op)&&decide (a.n=b.n)&&decide (a.unit=b.unit)&&decide (a.s=b.s)&&decide (a.args=b.args)):=by
 rw [Bool.eq_iff_iff]
 simp only [Bool.and_eq_true,decide_eq_true_eq,Exp.ext_iff' a b]
 constructor
 ·rintro ⟨h1,h2,h3,h4,h5⟩;exact ⟨⟨⟨⟨h1,h2⟩,h3⟩,h4⟩,h5⟩
 ·rintro ⟨⟨⟨⟨h1,h2⟩,h3⟩,h4⟩,h5⟩;exact ⟨h1,h2,h3,h4,h5⟩
theorem eqL_dec (a b:LetE):decide (a=b)=(decide (a.name=b.name)&&decide (a.body=b.body)):=by
 rw [Bool.eq_iff_iff]
 cases a;cases b
 simp
theorem eqC_dec (a b:Cov):decide (a=b)=(decide (a.name=b.name)&&decide (a.grace=b.grace)&&decide (a.must=b.must)):=by
 rw [Bool.eq_iff_iff]
 cases a;cases b
 simp only [Bool.and_eq_true,decide_eq_true_eq,Cov.mk.injEq]
 constructor
 ·rintro ⟨h1,h2,h3⟩;exact ⟨⟨h1,h3⟩,h2⟩
 ·rintro ⟨⟨h1,h3⟩,h2⟩;exact ⟨h1,h2,h3⟩
theorem eqK_dec (a b:CallE):decide (a=b)=(decide (a.a=b.a)&&decide (a.b=b.b)):=by
 rw [Bool.eq_iff_iff]
 cases a;cases b
 simp
theorem eqfE_ok (l r:List Exp) (hl:l.length≤9223372036854775807) (hr:r.length≤9223372036854775807) (hc:∀ x∈l,∀ y∈r,APureV Tryz.prog 28 [encE x,encE y] (.bool (decide (x=y)))) :
  APureV Tryz.prog 90 [.sl 5 encE ex0 l,.sl 5 encE ex0 r,.fn (.func 28) [] []] (.bool (decide (l=r))):=by
 refine aO (cxOk 32 [0,1,2,6,7,8,9,14,15,16,17,18,30]) Tryz.func90 ?_
 conv=>whnf
 refine ⟨fun hlen=>?_,fun hlen=>?_⟩
 ·have hne:¬ l=r:=by
   intro h
   rw [h] at hlen
   simp at hlen
  rw [decide_eq_false hne]
  conv=>whnf
  rfl
 have hlen:l.length=r.length:=by simp at hlen;omega
 conv=>whnf
 refine loop_up (cxOk _ _) l.length (fun k=>∀ j,j<k→l.getD j ex0=r.getD j ex0) (fun k=>⟨[(0,.sl 5 encE ex0 l),(1,.sl 5 encE ex0 r),(2,.fn (.func 28) [] []),(6,.bool false),(15,.sl 5 encE ex0 l),(16,.int .i64 (l.length:Nat)),(17,.int .i64 (k:Nat))],[],0⟩) (by intro j hj;omega) ((wk_of [] rfl ⟨wa0,wa0,.fn _ _ _ _ _ ad0 ad0,wa0,wa0,wa0,wa0,trivial⟩ trivial)) ?_
 intro k hk hP
 conv=>whnf
 refine ⟨fun hd=>?_,fun hd=>?_⟩
 ·have hd:=of_decide_eq_true hd
  have hlt:k<l.length:=by omega
  have hek:(k:Int).toNat=k:=Int.toNat_natCast k
  have h:=hc _ (getD_mem (d:=ex0) hlt) _ (getD_mem (d:=ex0) (show k<r.length by omega))
  conv=>whnf
  refine iO ?_;conv=>whnf
  refine And.intro rfl ?_;conv=>whnf
  refine iO ?_;conv=>whnf
  refine And.intro rfl ?_;conv=>whnf
  rw [hek]
  conv=>whnf
  refine cO (fun _=>h) ?_
  conv=>whnf
  refine ⟨fun he=>?_,fun he=>?_⟩
  ·have hne:¬ l=r:=by
    intro h
    rw [h] at he
    simp at he
   rw [decide_eq_false hne]
   conv=>whnf
   rfl
  ·have he:l.getD k ex0=r.getD k ex0:=by simpa using he
   conv=>whnf
   refine iO ?_;conv=>whnf
   refine up hlt (fun j hj=>?_) ((wk_of [] rfl ⟨wa0,wa0,.fn _ _ _ _ _ ad0 ad0,wa0,wa0,wa0,wa0,trivial⟩ trivial))
   by_cases e:j=k
   ·subst e;exact he
   ·exact hP j om0
 ·have hd:=of_decide_eq_false hd
  have he:l=r:=list_eq (d:=ex0) hlen fun j hj=>hP j (by omega)
  rw [decide_eq_true he]
  conv=>whnf
  rfl
theorem eqfL_ok (l r:List LetE) (hl:l.length≤9223372036854775807) (hr:r.length≤9223372036854775807) (hc:∀ x∈l,∀ y∈r,APureV Tryz.prog 87 [encL x,encL y] (.bool (decide (x=y)))) :
  APureV Tryz.prog 86 [.sl 6 encL l0 l,.sl 6 encL l0 r,.fn (.func 87) [] []] (.bool (decide (l=r))):=by
 refine aO (cxOk 32 [0,1,2,6,7,8,9,14,15,16,17,18,30]) Tryz.func86 ?_
 conv=>whnf
 refine ⟨fun hlen=>?_,fun hlen=>?_⟩
 ·have hne:¬ l=r:=by
   intro h
   rw [h] at hlen
   simp at hlen
  rw [decide_eq_false hne]
  conv=>whnf
  rfl
 have hlen:l.length=r.length:=by simp at hlen;omega
 conv=>whnf
 refine loop_up (cxOk _ _) l.length (fun k=>∀ j,j<k→l.getD j l0=r.getD j l0) (fun k=>⟨[(0,.sl 6 encL l0 l),(1,.sl 6 encL l0 r),(2,.fn (.func 87) [] []),(6,.bool false),(15,.sl 6 encL l0 l),(16,.int .i64 (l.length:Nat)),(17,.int .i64 (k:Nat))],[],0⟩) (by intro j hj;omega) ((wk_of [] rfl ⟨wa0,wa0,.fn _ _ _ _ _ ad0 ad0,wa0,wa0,wa0,wa0,trivial⟩ trivial)) ?_
 intro k hk hP
 conv=>whnf
 refine ⟨fun hd=>?_,fun hd=>?_⟩
 ·have hd:=of_decide_eq_true hd
  have hlt:k<l.length:=by omega
  have hek:(k:Int).toNat=k:=Int.toNat_natCast k
  have h:=hc _ (getD_mem (d:=l0) hlt) _ (getD_mem (d:=l0) (show k<r.length by omega))
  conv=>whnf
  refine iO ?_;conv=>whnf
  refine And.intro rfl ?_;conv=>whnf
  refine iO ?_;conv=>whnf
  refine And.intro rfl ?_;conv=>whnf
  rw [hek]
  conv=>whnf
  refine cO (fun _=>h) ?_
  conv=>whnf
  refine ⟨fun he=>?_,fun he=>?_⟩
  ·have hne:¬ l=r:=by
    intro h
    rw [h] at he
    simp at he
   rw [decide_eq_false hne]
   conv=>whnf
   rfl
  ·have he:l.getD k l0=r.getD k l0:=by simpa using he
   conv=>whnf
   refine iO ?_;conv=>whnf
   refine up hlt (fun j hj=>?_) ((wk_of [] rfl ⟨wa0,wa0,.fn _ _ _ _ _ ad0 ad0,wa0,wa0,wa0,wa0,trivial⟩ trivial))
   by_cases e:j=k
   ·subst e;exact he
   ·exact hP j om0
 ·have hd:=of_decide_eq_false hd
  have he:l=r:=list_eq (d:=l0) hlen fun j hj=>hP j (by omega)
  rw [decide_eq_true he]
  conv=>whnf
  rfl
theorem eqfC_ok (l r:List Cov) (hl:l.length≤9223372036854775807) (hr:r.length≤9223372036854775807) (hc:∀ x∈l,∀ y∈r,APureV Tryz.prog 89 [encC x,encC y] (.bool (decide (x=y)))) :
  APureV Tryz.prog 88 [.sl 7 encC c0 l,.sl 7 encC c0 r,.fn (.func 89) [] []] (.bool (decide (l=r))):=by
 refine aO (cxOk 32 [0,1,2,6,7,8,9,14,15,16,17,18,30]) Tryz.func88 ?_
 conv=>whnf
 refine ⟨fun hlen=>?_,fun hlen=>?_⟩
 ·have hne:¬ l=r:=by
   intro h
   rw [h] at hlen
   simp at hlen
  rw [decide_eq_false hne]
  conv=>whnf
  rfl
 have hlen:l.length=r.length:=by simp at hlen;omega
 conv=>whnf
 refine loop_up (cxOk _ _) l.length (fun k=>∀ j,j<k→l.getD j c0=r.getD j c0) (fun k=>⟨[(0,.sl 7 encC c0 l),(1,.sl 7 encC c0 r),(2,.fn (.func 89) [] []),(6,.bool false),(15,.sl 7 encC c0 l),(16,.int .i64 (l.length:Nat)),(17,.int .i64 (k:Nat))],[],0⟩) (by intro j hj;omega) ((wk_of [] rfl ⟨wa0,wa0,.fn _ _ _ _ _ ad0 ad0,wa0,wa0,wa0,wa0,trivial⟩ trivial)) ?_
 intro k hk hP
 conv=>whnf
 refine ⟨fun hd=>?_,fun hd=>?_⟩
 ·have hd:=of_decide_eq_true hd
  have hlt:k<l.length:=by omega
  have hek:(k:Int).toNat=k:=Int.toNat_natCast k
  have h:=hc _ (getD_mem (d:=c0) hlt) _ (getD_mem (d:=c0) (show k<r.length by omega))
  conv=>whnf
  refine iO ?_;conv=>whnf
  refine And.intro rfl ?_;conv=>whnf
  refine iO ?_;conv=>whnf
  refine And.intro rfl ?_;conv=>whnf
  rw [hek]
  conv=>whnf
  refine cO (fun _=>h) ?_
  conv=>whnf
  refine ⟨fun he=>?_,fun he=>?_⟩
  ·have hne:¬ l=r:=by
    intro h
    rw [h] at he
    simp at he
   rw [decide_eq_false hne]
   conv=>whnf
   rfl
  ·have he:l.getD k c0=r.getD k c0:=by simpa using he
   conv=>whnf
   refine iO ?_;conv=>whnf
   refine up hlt (fun j hj=>?_) ((wk_of [] rfl ⟨wa0,wa0,.fn _ _ _ _ _ ad0 ad0,wa0,wa0,wa0,wa0,trivial⟩ trivial))
   by_cases e:j=k
   ·subst e;exact he
   ·exact hP j om0
 ·have hd:=of_decide_eq_false hd
  have he:l=r:=list_eq (d:=c0) hlen fun j hj=>hP j (by omega)
  rw [decide_eq_true he]
  conv=>whnf
  rfl
theorem eqsS_ok (l r:List (List UInt8)) (hl:l.length≤9223372036854775807) (hr:r.length≤9223372036854775807) :
  APureV Tryz.prog 84 [.sl 1 encS [] l,.sl 1 encS [] r] (.bool (decide (l=r))):=by
 refine aO (cxOk 26 [0,1,4,5,10,12,13,14,24]) Tryz.func84 ?_
 conv=>whnf
 refine ⟨fun hlen=>?_,fun hlen=>?_⟩
 ·have hne:¬ l=r:=by
   intro h
   rw [h] at hlen
   simp at hlen
  rw [decide_eq_false hne]
  conv=>whnf
  rfl
 have hlen:l.length=r.length:=by simp at hlen;omega
 conv=>whnf
 refine loop_up (cxOk _ _) l.length (fun k=>∀ j,j<k→l.getD j []=r.getD j []) (fun k=>⟨[(0,.sl 1 encS [] l),(1,.sl 1 encS [] r),(4,.bool false),(12,.int .i64 (l.length:Nat)),(13,.int .i64 (k:Nat))],[],0⟩) (by intro j hj;omega) ((wk_of [] rfl ⟨wa0,wa0,wa0,wa0,wa0,trivial⟩ trivial)) ?_
 intro k hk hP
 conv=>whnf
 refine ⟨fun hd=>?_,fun hd=>?_⟩
 ·have hd:=of_decide_eq_true hd
  have hlt:k<l.length:=by omega
  have hek:(k:Int).toNat=k:=Int.toNat_natCast k
  conv=>whnf
  refine .quiet (by kernel_rfl) ?_;conv=>whnf
  refine iO ?_;conv=>whnf
  refine And.intro rfl ?_;conv=>whnf
  refine iO ?_;conv=>whnf
  refine And.intro rfl ?_;conv=>whnf
  rw [hek]
  conv=>whnf
  try (rw [hek];conv=>whnf)
  refine ⟨fun he=>?_,fun he=>?_⟩
  ·have hne:¬ l=r:=by
    intro h
    rw [h] at he
    simp at he
   rw [decide_eq_false hne]
   conv=>whnf
   rfl
  ·have he:l.getD k []=r.getD k []:=by simpa using he
   conv=>whnf
   refine iO ?_;conv=>whnf
   refine up hlt (fun j hj=>?_) ((wk_of [] rfl ⟨wa0,wa0,wa0,wa0,wa0,trivial⟩ trivial))
   by_cases e:j=k
   ·subst e;exact he
   ·exact hP j om0
 ·have hd:=of_decide_eq_false hd
  have he:l=r:=list_eq (d:=[]) hlen fun j hj=>hP j (by omega)
  rw [decide_eq_true he]
  conv=>whnf
  rfl
theorem eqsK_ok (l r:List CallE) (hl:l.length≤9223372036854775807) (hr:r.length≤9223372036854775807) :
  APureV Tryz.prog 85 [.sl 2 encK k0 l,.sl 2 encK k0 r] (.bool (decide (l=r))):=by
 refine aO (cxOk 26 [0,1,4,5,10,12,13,14,24]) Tryz.func85 ?_
 conv=>whnf
 refine ⟨fun hlen=>?_,fun hlen=>?_⟩
 ·have hne:¬ l=r:=by
   intro h
   rw [h] at hlen
   simp at hlen
  rw [decide_eq_false hne]
  conv=>whnf
  rfl
 have hlen:l.length=r.length:=by simp at hlen;omega
 conv=>whnf
 refine loop_up (cxOk _ _) l.length (fun k=>∀ j,j<k→l.getD j k0=r.getD j k0) (fun k=>⟨[(0,.sl 2 encK k0 l),(1,.sl 2 encK k0 r),(4,.bool false),(12,.int .i64 (l.length:Nat)),(13,.int .i64 (k:Nat))],[],0⟩) (by intro j hj;omega) ((wk_of [] rfl ⟨wa0,wa0,wa0,wa0,wa0,trivial⟩ trivial)) ?_
 intro k hk hP
 conv=>whnf
 refine ⟨fun hd=>?_,fun hd=>?_⟩
 ·have hd:=of_decide_eq_true hd
  have hlt:k<l.length:=by omega
  have hek:(k:Int).toNat=k:=Int.toNat_natCast k
  conv=>whnf
  refine .quiet (by kernel_rfl) ?_;conv=>whnf
  refine iO ?_;conv=>whnf
  refine And.intro rfl ?_;conv=>whnf
  refine iO ?_;conv=>whnf
  refine And.intro rfl ?_;conv=>whnf
  rw [hek]
  conv=>whnf
  try (rw [hek];conv=>whnf)
  refine And.intro ⟨by kernel_rfl,by kernel_rfl⟩ ?_
  conv=>whnf
  rw [show (decide ((l.getD k k0).a=(r.getD k k0).a)&&(decide ((l.getD k k0).b=(r.getD k k0).b)&&true))=decide (l.getD k k0=r.getD k k0) by rw [Bool.and_true];exact (eqK_dec _ _).symm]
  refine ⟨fun he=>?_,fun he=>?_⟩
  ·have hne:¬ l=r:=by
    intro h
    rw [h] at he
    simp at he
   rw [decide_eq_false hne]
   conv=>whnf
   rfl
  ·have he:l.getD k k0=r.getD k k0:=by simpa using he
   conv=>whnf
   refine iO ?_;conv=>whnf
   refine up hlt (fun j hj=>?_) ((wk_of [] rfl ⟨wa0,wa0,wa0,wa0,wa0,trivial⟩ trivial))
   by_cases e:j=k
   ·subst e;exact he
   ·exact hP j om0
 ·have hd:=of_decide_eq_false hd
  have he:l=r:=list_eq (d:=k0) hlen fun j hj=>hP j (by omega)
  rw [decide_eq_true he]
  conv=>whnf
  rfl
theorem sameexp_ok:∀ (k:Nat) (a b:Exp),SizeOf.sizeOf a≤k→OkE a→OkE b→APureV Tryz.prog 28 [encE a,encE b] (.bool (decide (a=b))):=by
 intro k
 induction k with
 | zero=>intro a b h;cases a;simp at h
 | succ k ih =>
  intro a b hk ha hb
  have hq:=eqfE_ok a.args b.args ha.alen hb.alen (fun x hx y hy=>ih x y (by have:=args_lt a hx;omega) (ha.arg x hx) (hb.arg y hy))
  rw [eqE_dec]
  refine aO (cxOk 38 [0,1,2,3,4]) Tryz.func28 ?_
  conv=>whnf
  refine .one _ _ _ (fun _=>hq) (.cons (lX (argsE_eq a)) (.cons (lX (argsE_eq b)) (.cons (lS rfl) .nil))) (.inl rfl) (.inr rfl) ?_
  conv=>whnf
  rfl
theorem same_ok (a b:Exp) (ha:OkE a) (hb:OkE b):APureV Tryz.prog 28 [encE a,encE b] (.bool (decide (a=b))):=sameexp_ok _ a b (Nat.le_refl _) ha hb
theorem samel_ok (a b:LetE) (ha:OkE a.body) (hb:OkE b.body):APureV Tryz.prog 87 [encL a,encL b] (.bool (decide (a=b))):=by
 have h:=same_ok a.body b.body ha hb
 rw [eqL_dec]
 refine aO (cxOk 17 [0,1,2,3,4]) Tryz.func87 ?_
 conv=>whnf
 refine cO (fun _=>h) ?_
 conv=>whnf
 rfl
theorem samec_ok (a b:Cov) (ha:OkE a.must) (hb:OkE b.must):APureV Tryz.prog 89 [encC a,encC b] (.bool (decide (a=b))):=by
 have h:=same_ok a.must b.must ha hb
 rw [eqC_dec]
 refine aO (cxOk 24 [0,1,2,3,4]) Tryz.func89 ?_
 conv=>whnf
 refine cO (fun _=>h) ?_
 conv=>whnf
 rfl
theorem sameexp2_ok:∀ (k:Nat) (a b:Exp),SizeOf.sizeOf a≤k→OkE a→OkE b→APureV Tryz.prog 15 [encE a,encE b] (.bool (decide (a=b))):=by
 intro k
 induction k with
 | zero=>intro a b h;cases a;simp at h
 | succ k ih =>
  intro a b hk ha hb
  have hla:=argsE_len a
  have hlb:=argsE_len b
  have ha2:=ha.alen
  have hb2:=hb.alen
  refine aO (cxOk 60 [0,1,2,3,4,5,40,45,59]) Tryz.func15 ?_
  conv=>whnf
  refine ⟨fun hne=>?_,fun hne=>?_⟩
  ·have hf:¬ a=b:=by
    intro h
    rw [h] at hne
    simp at hne
   rw [decide_eq_false hf]
   conv=>whnf
   rfl
  simp only [Bool.or_eq_false_iff,Bool.not_eq_false',decide_eq_true_eq] at hne
  obtain ⟨⟨⟨⟨e1,e2⟩,e3⟩,e4⟩,e5⟩:=hne
  conv=>whnf
  refine loop_up (cxOk _ _) a.args.length (fun k=>∀ j,j<k→a.args.getD j ex0=b.args.getD j ex0) (fun k=>⟨[(2,.ptr 0 0),(3,.ptr 1 0),(4,.bool false),(5,.int .i64 (k:Nat))],[(0,.cells 26 (cellsE a)),(1,.cells 26 (cellsE b))],2⟩) (by intro j hj;omega) ((wk_of [(0,.id 0),(1,.id 1)] rfl ⟨wc0,wc0,wa0,wa0,trivial⟩ ⟨wb0,wb0,trivial⟩)) ?_
  intro k hk2 hP
  conv=>whnf
  refine ⟨fun hd=>?_,fun hd=>?_⟩
  ·have hd:=of_decide_eq_true hd
   have hlt:k<a.args.length:=by omega
   have hlt2:k<b.args.length:=by omega
   have hek:(k:Int).toNat=k:=Int.toNat_natCast k
   have h:=ih (argOf a k) (argOf b k) (by have:=args_lt a (getD_argOf hlt);omega) (ha.arg _ (getD_argOf hlt)) (hb.arg _ (getD_argOf hlt2))
   conv=>whnf
   refine .quiet (by kernel_rfl) ?_
   conv=>whnf
   refine iO ?_;conv=>whnf
   refine And.intro rfl ?_;conv=>whnf
   rw [hek,argsE_get a hlt]
   conv=>whnf
   refine iO ?_;conv=>whnf
   refine And.intro rfl ?_;conv=>whnf
   rw [hek,argsE_get b hlt2]
   conv=>whnf
   refine .mk _ _ _ _ (fun _=>h) af0 rfl ?_
   conv=>whnf
   refine ⟨fun he=>?_,fun he=>?_⟩
   ·have hne2:¬ a=b:=by
     intro h
     rw [h] at he
     simp [argOf] at he
    rw [decide_eq_false hne2]
    conv=>whnf
    rfl
   ·have he:argOf a k=argOf b k:=by simpa using he
    conv=>whnf
    refine iO ?_;conv=>whnf
    refine up hlt (fun j hj=>?_) ((wk_of [(0,.id 0),(1,.id 1)] rfl ⟨wc0,wc0,wa0,wa0,trivial⟩ ⟨wb0,wb0,trivial⟩))
    by_cases e:j=k
    ·subst e;exact he
    ·exact hP j om0
  ·have hd:=of_decide_eq_false hd
   have he:a=b:=(Exp.ext_iff' a b).2 ⟨e1,e2,e3,e4,list_eq (d:=ex0) (by omega) fun j hj=>hP j (by omega)⟩
   rw [decide_eq_true he]
   conv=>whnf
   rfl
theorem same2_ok (a b:Exp) (ha:OkE a) (hb:OkE b):APureV Tryz.prog 15 [encE a,encE b] (.bool (decide (a=b))):=sameexp2_ok _ a b (Nat.le_refl _) ha hb
theorem ind_eq {a b:Ind} (h_name:a.name=b.name) (h_issuer:a.issuer=b.issuer) (h_face:a.face=b.face) (h_frm:a.frm=b.frm) (h_to:a.to=b.to) (h_every:a.every=b.every) (h_count:a.count=b.count) (h_adjust:a.adjust=b.adjust) (h_record:a.record=b.record) (h_rank:a.rank=b.rank) (h_lets:a.lets=b.lets) (h_coupon:a.coupon=b.coupon) (h_cap:a.cap=b.cap) (h_cov:a.cov=b.cov) (h_favour:a.favour=b.favour) (h_cross:a.cross=b.cross) (h_calls:a.calls=b.calls) (h_notice:a.notice=b.notice) (h_sink:a.sink=b.sink) (h_majority:a.majority=b.majority) (h_fast:a.fast=b.fast):a=b:=by
 cases a;cases b
 simp only at *
 subst h_name
 subst h_issuer
 subst h_face
 subst h_frm
 subst h_to
 subst h_every
 subst h_count
 subst h_adjust
 subst h_record
 subst h_rank
 subst h_lets
 subst h_coupon
 subst h_cap
 subst h_cov
 subst h_favour
 subst h_cross
 subst h_calls
 subst h_notice
 subst h_sink
 subst h_majority
 subst h_fast
 rfl
theorem eqI_dec (a b:Ind):decide (a=b)=((decide (a.name=b.name)&&decide (a.issuer=b.issuer)&&decide (a.face=b.face)&&decide (a.frm=b.frm)&&decide (a.to=b.to)&&decide (a.every=b.every)&&decide (a.count=b.count)&&decide (a.adjust=b.adjust)&&decide (a.record=b.record)&&decide (a.rank=b.rank))&&(decide (a.cap=b.cap)&&decide (a.cross=b.cross)&&decide (a.notice=b.notice)&&decide (a.sink=b.sink)&&decide (a.majority=b.majority)&&decide (a.fast=b.fast)&&decide (a.favour=b.favour)&&decide (a.calls=b.calls))&&decide (a.lets=b.lets)&&decide (a.cov=b.cov)&&decide (a.coupon=b.coupon)):=by
 rw [Bool.eq_iff_iff]
 simp only [Bool.and_eq_true,decide_eq_true_eq]
 constructor
 ·intro h
  rw [h]
  simp
 ·rintro ⟨⟨⟨⟨⟨⟨⟨⟨⟨⟨⟨⟨⟨h_name,h_issuer⟩,h_face⟩,h_frm⟩,h_to⟩,h_every⟩,h_count⟩,h_adjust⟩,h_record⟩,h_rank⟩,⟨⟨⟨⟨⟨⟨⟨h_cap,h_cross⟩,h_notice⟩,h_sink⟩,h_majority⟩,h_fast⟩,h_favour⟩,h_calls⟩⟩,h_lets⟩,h_cov⟩,h_coupon⟩
  exact ind_eq h_name h_issuer h_face h_frm h_to h_every h_count h_adjust h_record h_rank h_lets h_coupon h_cap h_cov h_favour h_cross h_calls h_notice h_sink h_majority h_fast
theorem samefn_ok (a b:Ind) (ha:OkX a) (hb:OkX b):APureV Tryz.prog 27 [encX a,encX b] (.bool (decide (a=b))):=by
 have q1:=eqsS_ok a.favour b.favour ha.favour hb.favour
 have q2:=eqsK_ok a.calls b.calls ha.calls hb.calls
 have q3:=eqfL_ok a.lets b.lets (by have:=ha.lets;omega) (by have:=hb.lets;omega) (fun x hx y hy=>samel_ok x y (ha.let1 x hx).2 (hb.let1 y hy).2)
 have q4:=eqfC_ok a.cov b.cov (by have:=ha.cov;omega) (by have:=hb.cov;omega) (fun x hx y hy=>samec_ok x y (ha.cov1 x hx).2.1 (hb.cov1 y hy).2.1)
 have q5:=same_ok a.coupon b.coupon ha.coupon hb.coupon
 rw [eqI_dec]
 refine aO (cxOk 158 [0,1,2,3,4,5,6,7,8]) Tryz.func27 ?_
 conv=>whnf
 refine cO (fun _=>q1) ?_
 conv=>whnf
 refine cO (fun _=>q2) ?_
 conv=>whnf
 refine cO (fun _=>q3) ?_
 conv=>whnf
 refine cO (fun _=>q4) ?_
 conv=>whnf
 refine cO (fun _=>q5) ?_
 conv=>whnf
 rfl
theorem samefn2_ok (a b:Ind) (ha:OkX a) (hb:OkX b):APureV Tryz.prog 14 [encX a,encX b] (.bool (decide (a=b))):=by
 have q5:=same2_ok a.coupon b.coupon ha.coupon hb.coupon
 have hal:=ha.lets
 have hbl:=hb.lets
 have hac:=ha.cov
 have hbc:=hb.cov
 have haf:=ha.favour
 have hbf:=hb.favour
 have hak:=ha.calls
 have hbk:=hb.calls
 refine aO (cxOk 291 [0,1,2,3,4,5,6,7,8,9,10,167,172,203,208,254,259,272,277,290]) Tryz.func14 ?_
 conv=>whnf
 refine cO (fun _=>q5) ?_
 conv=>whnf
 refine ⟨fun hne=>?_,fun hne=>?_⟩
 ·have hf:¬ a=b:=by
   intro h
   rw [h] at hne
   simp at hne
  rw [decide_eq_false hf]
  conv=>whnf
  rfl
 simp only [Bool.or_eq_false_iff,Bool.not_eq_false',decide_eq_true_eq,Bool.and_eq_true] at hne
 obtain ⟨⟨⟨⟨⟨⟨⟨⟨⟨⟨⟨⟨⟨⟨h_name,h_issuer⟩,h_face⟩,h_frm⟩,h_to⟩,h_every⟩,h_count⟩,h_adjust⟩,h_record⟩,h_rank⟩,⟨⟨⟨⟨⟨⟨h_cap,h_cross⟩,h_notice⟩,h_sink⟩,h_majority⟩,h_fast⟩,h_coupon⟩⟩,l1⟩,l2⟩,l3⟩,l4⟩:=hne
 conv=>whnf
 refine loop_up (cxOk _ _) a.lets.length (fun k=>∀ j,j<k→a.lets.getD j l0=b.lets.getD j l0) (fun k=>⟨[(2,.ptr 0 0),(3,.ptr 1 0),(4,.bool false),(7,.int .i64 (k:Nat))],[(0,.cells 31 (celX a)),(1,.cells 31 (celX b))],2⟩) (by intro j hj;omega) ((wk_of [(0,.id 0),(1,.id 1)] rfl ⟨wc0,wc0,wa0,wa0,trivial⟩ ⟨wb0,wb0,trivial⟩)) ?_
 intro k hk hP
 conv=>whnf
 refine ⟨fun hd=>?_,fun hd=>?_⟩
 ·have hd:=of_decide_eq_true hd
  have hlt:k<a.lets.length:=by omega
  have hlt2:k<b.lets.length:=by omega
  have hek:(k:Int).toNat=k:=Int.toNat_natCast k
  have hb1:=same2_ok _ _ (ha.let1 _ (getD_mem (d:=l0) hlt)).2 (hb.let1 _ (getD_mem (d:=l0) hlt2)).2
  conv=>whnf
  refine .quiet (by kernel_rfl) ?_
  conv=>whnf
  refine iO ?_;conv=>whnf
  refine And.intro rfl ?_;conv=>whnf
  refine iO ?_;conv=>whnf
  refine And.intro rfl ?_;conv=>whnf
  refine And.intro om0 (And.intro rfl ?_);conv=>whnf
  refine And.intro om0 (And.intro rfl ?_);conv=>whnf
  rw [hek]
  conv=>whnf
  refine .mk _ _ _ _ (fun _=>hb1) af0 rfl ?_
  conv=>whnf
  refine ⟨fun he=>?_,fun he=>?_⟩
  ·have hf:¬ a=b:=by
    intro h
    rw [h] at he
    simp at he
   rw [decide_eq_false hf]
   conv=>whnf
   rfl
  ·have he:a.lets.getD k l0=b.lets.getD k l0:=by
    simp only [Bool.or_eq_false_iff,Bool.not_eq_false'] at he
    exact of_decide_eq_true (by rw [eqL_dec,he.1,he.2];rfl)
   conv=>whnf
   refine iO ?_;conv=>whnf
   refine up hlt (fun j hj=>?_) ((wk_of [(0,.id 0),(1,.id 1)] rfl ⟨wc0,wc0,wa0,wa0,trivial⟩ ⟨wb0,wb0,trivial⟩))
   by_cases e:j=k
   ·subst e;exact he
   ·exact hP j om0
 have hd:=of_decide_eq_false hd
 have h_lets:a.lets=b.lets:=list_eq (d:=l0) (by omega) fun j hj=>hP j (by omega)
 conv=>whnf
 refine loop_up (cxOk _ _) a.cov.length (fun k=>∀ j,j<k→a.cov.getD j c0=b.cov.getD j c0) (fun k=>⟨[(2,.ptr 0 0),(3,.ptr 1 0),(4,.bool false),(8,.int .i64 (k:Nat))],[(0,.cells 31 (celX a)),(1,.cells 31 (celX b))],2⟩) (by intro j hj;omega) ((wk_of [(0,.id 0),(1,.id 1)] rfl ⟨wc0,wc0,wa0,wa0,trivial⟩ ⟨wb0,wb0,trivial⟩)) ?_
 intro k hk hP
 conv=>whnf
 refine ⟨fun hd=>?_,fun hd=>?_⟩
 ·have hd:=of_decide_eq_true hd
  have hlt:k<a.cov.length:=by omega
  have hlt2:k<b.cov.length:=by omega
  have hek:(k:Int).toNat=k:=Int.toNat_natCast k
  have hb1:=same2_ok _ _ (ha.cov1 _ (getD_mem (d:=c0) hlt)).2.1 (hb.cov1 _ (getD_mem (d:=c0) hlt2)).2.1
  conv=>whnf
  refine .quiet (by kernel_rfl) ?_
  conv=>whnf
  refine iO ?_;conv=>whnf
  refine And.intro rfl ?_;conv=>whnf
  refine iO ?_;conv=>whnf
  refine And.intro rfl ?_;conv=>whnf
  refine And.intro om0 (And.intro rfl ?_);conv=>whnf
  refine And.intro om0 (And.intro rfl ?_);conv=>whnf
  refine And.intro om0 (And.intro rfl ?_);conv=>whnf
  refine And.intro om0 (And.intro rfl ?_);conv=>whnf
  rw [hek]
  conv=>whnf
  refine .mk _ _ _ _ (fun _=>hb1) af0 rfl ?_
  conv=>whnf
  refine ⟨fun he=>?_,fun he=>?_⟩
  ·have hf:¬ a=b:=by
    intro h
    rw [h] at he
    simp at he
   rw [decide_eq_false hf]
   conv=>whnf
   rfl
  ·have he:a.cov.getD k c0=b.cov.getD k c0:=by
    simp only [Bool.or_eq_false_iff,Bool.not_eq_false'] at he
    exact of_decide_eq_true (by rw [eqC_dec,he.1.1,he.1.2,he.2];rfl)
   conv=>whnf
   refine iO ?_;conv=>whnf
   refine up hlt (fun j hj=>?_) ((wk_of [(0,.id 0),(1,.id 1)] rfl ⟨wc0,wc0,wa0,wa0,trivial⟩ ⟨wb0,wb0,trivial⟩))
   by_cases e:j=k
   ·subst e;exact he
   ·exact hP j om0
 have hd:=of_decide_eq_false hd
 have h_cov:a.cov=b.cov:=list_eq (d:=c0) (by omega) fun j hj=>hP j (by omega)
 conv=>whnf
 refine loop_up (cxOk _ _) a.favour.length (fun k=>∀ j,j<k→a.favour.getD j []=b.favour.getD j []) (fun k=>⟨[(2,.ptr 0 0),(3,.ptr 1 0),(4,.bool false),(9,.int .i64 (k:Nat))],[(0,.cells 31 (celX a)),(1,.cells 31 (celX b))],2⟩) (by intro j hj;omega) ((wk_of [(0,.id 0),(1,.id 1)] rfl ⟨wc0,wc0,wa0,wa0,trivial⟩ ⟨wb0,wb0,trivial⟩)) ?_
 intro k hk hP
 conv=>whnf
 refine ⟨fun hd=>?_,fun hd=>?_⟩
 ·have hd:=of_decide_eq_true hd
  have hlt:k<a.favour.length:=by omega
  have hlt2:k<b.favour.length:=by omega
  have hek:(k:Int).toNat=k:=Int.toNat_natCast k
  conv=>whnf
  refine .quiet (by kernel_rfl) ?_
  conv=>whnf
  refine iO ?_;conv=>whnf
  refine And.intro rfl ?_;conv=>whnf
  refine iO ?_;conv=>whnf
  refine And.intro rfl ?_;conv=>whnf
  rw [hek]
  conv=>whnf
  refine ⟨fun he=>?_,fun he=>?_⟩
  ·have hf:¬ a=b:=by
    intro h
    rw [h] at he
    simp at he
   rw [decide_eq_false hf]
   conv=>whnf
   rfl
  ·have he:a.favour.getD k []=b.favour.getD k []:=by
    simpa using he
   conv=>whnf
   refine iO ?_;conv=>whnf
   refine up hlt (fun j hj=>?_) ((wk_of [(0,.id 0),(1,.id 1)] rfl ⟨wc0,wc0,wa0,wa0,trivial⟩ ⟨wb0,wb0,trivial⟩))
   by_cases e:j=k
   ·subst e;exact he
   ·exact hP j om0
 have hd:=of_decide_eq_false hd
 have h_favour:a.favour=b.favour:=list_eq (d:=[]) (by omega) fun j hj=>hP j (by omega)
 conv=>whnf
 refine loop_up (cxOk _ _) a.calls.length (fun k=>∀ j,j<k→a.calls.getD j k0=b.calls.getD j k0) (fun k=>⟨[(2,.ptr 0 0),(3,.ptr 1 0),(4,.bool false),(10,.int .i64 (k:Nat))],[(0,.cells 31 (celX a)),(1,.cells 31 (celX b))],2⟩) (by intro j hj;omega) ((wk_of [(0,.id 0),(1,.id 1)] rfl ⟨wc0,wc0,wa0,wa0,trivial⟩ ⟨wb0,wb0,trivial⟩)) ?_
 intro k hk hP
 conv=>whnf
 refine ⟨fun hd=>?_,fun hd=>?_⟩
 ·have hd:=of_decide_eq_true hd
  have hlt:k<a.calls.length:=by omega
  have hlt2:k<b.calls.length:=by omega
  have hek:(k:Int).toNat=k:=Int.toNat_natCast k
  conv=>whnf
  refine .quiet (by kernel_rfl) ?_
  conv=>whnf
  refine iO ?_;conv=>whnf
  refine And.intro rfl ?_;conv=>whnf
  refine iO ?_;conv=>whnf
  refine And.intro rfl ?_;conv=>whnf
  rw [hek]
  conv=>whnf
  refine And.intro ⟨by kernel_rfl,by kernel_rfl⟩ ?_
  conv=>whnf
  rw [show (decide ((a.calls.getD k k0).a=(b.calls.getD k k0).a)&&(decide ((a.calls.getD k k0).b=(b.calls.getD k k0).b)&&true))=decide (a.calls.getD k k0=b.calls.getD k k0) by rw [Bool.and_true];exact (eqK_dec _ _).symm]
  refine ⟨fun he=>?_,fun he=>?_⟩
  ·have hf:¬ a=b:=by
    intro h
    rw [h] at he
    simp at he
   rw [decide_eq_false hf]
   conv=>whnf
   rfl
  ·have he:a.calls.getD k k0=b.calls.getD k k0:=by
    simpa using he
   conv=>whnf
   refine iO ?_;conv=>whnf
   refine up hlt (fun j hj=>?_) ((wk_of [(0,.id 0),(1,.id 1)] rfl ⟨wc0,wc0,wa0,wa0,trivial⟩ ⟨wb0,wb0,trivial⟩))
   by_cases e:j=k
   ·subst e;exact he
   ·exact hP j om0
 have hd:=of_decide_eq_false hd
 have h_calls:a.calls=b.calls:=list_eq (d:=k0) (by omega) fun j hj=>hP j (by omega)
 conv=>whnf
 have he:a=b:=ind_eq h_name h_issuer h_face h_frm h_to h_every h_count h_adjust h_record h_rank h_lets h_coupon h_cap h_cov h_favour h_cross h_calls h_notice h_sink h_majority h_fast
 rw [decide_eq_true he]
 rfl
mutual
def nodesN:Nat→Exp→Int→Int
 | 0,_,m=>m+1
 | d+1,e,m=>if 40<e.s.length then m+1 else nodesL d m e.args 1
def nodesL:Nat→Int→List Exp→Int→Int
 | _,_,[],n=>n
 | d,m,x::l,n=>if n≤m then nodesL d m l (n+nodesN d x (m-n)) else n
end
def fewE (e:Exp):Bool:=decide (nodesN 16 e 60≤60)
def few0 (x:Ind):Bool:=!(decide (22<(x.lets.length:Int))||decide (22<(x.cov.length:Int))||decide (22<(x.favour.length:Int))||decide (22<(x.calls.length:Int))||decide (40<(x.name.length:Int))||decide (40<(x.issuer.length:Int))||!fewE x.coupon)
def fewL (l:LetE):Bool:=!(decide (40<(l.name.length:Int))||!fewE l.body)
def fewC (c:Cov):Bool:=!(decide (40<(c.name.length:Int))||!fewE c.must)
def fewS (s:List UInt8):Bool:=!decide (40<(s.length:Int))
def fewX (x:Ind):Bool:=few0 x&&x.lets.all fewL&&x.cov.all fewC&&x.favour.all fewS
theorem args_0 {e:Exp} (h:(e.args.length:Int)=0):e.args=[]:=List.length_eq_zero_iff.1 (by omega)
theorem args_1 {e:Exp} (h:(e.args.length:Int)=1):∃ x,e.args=[x]:=List.length_eq_one_iff.1 (by omega)
theorem args_2 {e:Exp} (h:(e.args.length:Int)=2):∃ x y,e.args=[x,y]:=by
 match hl:e.args,(show e.args.length=2 by omega) with
 | [x,y],_=>exact ⟨x,y,rfl⟩
theorem args_3 {e:Exp} (h:(e.args.length:Int)=3):∃ x y z,e.args=[x,y,z]:=by
 match hl:e.args,(show e.args.length=3 by omega) with
 | [x,y,z],_=>exact ⟨x,y,z,rfl⟩
theorem name_len20 {s:List UInt8} (h:nameB s=true):s.length≤20:=by
 unfold nameB wordB at h
 simp only [Bool.and_eq_true,decide_eq_true_eq] at h
 exact h.1.1.2
theorem right_mk (d:Nat) (op n u:Int) (s:List UInt8) (args:List Exp):rightB (d+1) (.mk op n u s args) =
  if (args.length:Int)≠opsN op then false
  else if op=0 then decide (s=[])&&inB 0 4 [u]&&inB 0 (if u=4 then 1 else 1000000000000000) [n]
  else if op=1∨op=2∨op=3 then decide (n=0)&&decide (u=0)&&nameB s
  else if op=16∨op=17∨op=18 then decide (u=0)&&decide (s=[])&&inB 1 1000 [n]&&rightB d (args.getD 0 ex0)
  else decide (n=0)&&decide (u=0)&&decide (s=[])&&!(args.any fun x=>!rightB d x):=rfl
theorem right_wf:∀ (d:Nat) (e:Exp),rightB d e=true→WfE e∧lev e≤d
 | 0,e,h=>by cases h
 | d+1,⟨op,n,u,s,args⟩,h=>by
  rw [right_mk] at h
  by_cases hl:(args.length:Int)≠opsN op
  ·rw [if_pos hl] at h;cases h
  rw [if_neg hl] at h
  have hl:=Decidable.of_not_not hl
  unfold opsN at hl
  have lv:∀ l:List Exp,lev (.mk op n u s l)=levs l+1:=fun l=>by rw [lev]
  by_cases h0:op=0
  ·rw [if_pos h0] at h
   subst h0
   simp only [Bool.and_eq_true,decide_eq_true_eq] at h
   obtain ⟨⟨hs,hu⟩,hn⟩:=h
   have hu:=inB_one hu
   have hn:=inB_one hn
   have ha:=args_0 (e:=.mk 0 n u s args) (by simpa [Exp.args] using hl)
   have ha:args=[]:=ha
   subst ha hs
   refine ⟨?_,by rw [lv];simp [levs]⟩
   by_cases h4:u=4
   ·subst h4
    rw [if_pos rfl] at hn
    exact .boo n om0
   ·rw [if_neg h4] at hn
    exact .num n u hn.1 hn.2 om0
  rw [if_neg h0] at h
  by_cases h1:op=1∨op=2∨op=3
  ·rw [if_pos h1] at h
   simp only [Bool.and_eq_true,decide_eq_true_eq] at h
   obtain ⟨⟨hn,hu⟩,hs⟩:=h
   rw [if_pos (by omega)] at hl
   have ha:args=[]:=args_0 (e:=.mk op n u s args) hl
   subst ha hn hu
   exact ⟨.name op s h1 hs (by have:=name_len20 hs;omega),by rw [lv];simp [levs]⟩
  rw [if_neg h1] at h
  rw [if_neg (by omega)] at hl
  by_cases h2:op=16∨op=17∨op=18
  ·rw [if_pos h2] at h
   simp only [Bool.and_eq_true,decide_eq_true_eq] at h
   obtain ⟨⟨⟨hu,hs⟩,hn⟩,hx⟩:=h
   rw [if_pos (by omega)] at hl
   obtain ⟨x,ha⟩:=args_1 (e:=.mk op n u s args) hl
   have ha:args=[x]:=ha
   subst ha hu hs
   have ih:=right_wf d x hx
   refine ⟨.within op n x h2 (inB_one hn) ih.1,?_⟩
   rw [lv];simp only [levs];omega
  rw [if_neg h2] at h
  simp only [Bool.and_eq_true,decide_eq_true_eq,Bool.not_eq_true',List.any_eq_false,Bool.not_eq_true] at h
  obtain ⟨⟨⟨hn,hu⟩,hs⟩,hx⟩:=h
  subst hn hu hs
  have hx':∀ a∈args,WfE a∧lev a≤d:=fun a ha=>right_wf d a (by simpa using hx a ha)
  by_cases h12:op=12
  ·subst h12
   rw [if_pos (by omega)] at hl
   obtain ⟨x,ha⟩:=args_1 (e:=.mk 12 0 0 [] args) hl
   have ha:args=[x]:=ha
   subst ha
   have ih:=hx' x (by simp)
   refine ⟨.not x ih.1,?_⟩
   rw [lv];simp only [levs];omega
  rw [if_neg (by omega)] at hl
  by_cases h15:op=15
  ·subst h15
   rw [if_pos rfl] at hl
   obtain ⟨x,y,z,ha⟩:=args_3 (e:=.mk 15 0 0 [] args) hl
   have ha:args=[x,y,z]:=ha
   subst ha
   have i1:=hx' x (by simp)
   have i2:=hx' y (by simp)
   have i3:=hx' z (by simp)
   refine ⟨.cond x y z i1.1 i2.1 i3.1,?_⟩
   rw [lv];simp only [levs];omega
  rw [if_neg h15] at hl
  split at hl
  ·omega
  rename_i ho
  obtain ⟨x,y,ha⟩:=args_2 (e:=.mk op 0 0 [] args) hl
  have ha:args=[x,y]:=ha
  subst ha
  have i1:=hx' x (by simp)
  have i2:=hx' y (by simp)
  refine ⟨.pair op x y om0 i1.1 i2.1,?_⟩
  rw [lv];simp only [levs];omega
theorem wf_right {e:Exp} (h:WfE e):∀ d:Nat,lev e≤d→rightB d e=true:=by
 have i1:∀ a b n:Int,a≤n∧n≤b→inB a b [n]=true:=fun a b n h=>by unfold inB;simp [h.1,h.2]
 induction h with
 | num n u h0 h1 hu =>
  intro d hd
  obtain ⟨d,rfl⟩:∃ g,d=g+1:=⟨d-1,by simp only [lev] at hd;omega⟩
  rw [right_mk]
  have h4:¬ u=4:=by omega
  simp [Exp.op,Exp.n,Exp.unit,Exp.s,Exp.args,opsN,h4,i1 0 4 u (by omega),i1 0 1000000000000000 n ⟨h0,h1⟩]
 | boo n h =>
  intro d hd
  obtain ⟨d,rfl⟩:∃ g,d=g+1:=⟨d-1,by simp only [lev] at hd;omega⟩
  rw [right_mk]
  simp [Exp.op,Exp.n,Exp.unit,Exp.s,Exp.args,opsN,i1 0 4 4 (by omega),i1 0 1 n (by omega)]
 | name op s ho hn hl =>
  intro d hd
  obtain ⟨d,rfl⟩:∃ g,d=g+1:=⟨d-1,by simp only [lev] at hd;omega⟩
  rw [right_mk]
  rcases ho with rfl | rfl | rfl<;>simp [Exp.op,Exp.n,Exp.unit,Exp.s,Exp.args,opsN,hn]
 | within op n x ho hn hx ih =>
  intro d hd
  obtain ⟨d,rfl⟩:∃ g,d=g+1:=⟨d-1,by simp only [lev] at hd;omega⟩
  have hx:=ih d (by simp only [lev,levs] at hd;omega)
  rw [right_mk]
  rcases ho with rfl | rfl | rfl<;>simp [Exp.op,Exp.n,Exp.unit,Exp.s,Exp.args,argOf,opsN,hx,i1 1 1000 n hn]
 | not x hx ih =>
  intro d hd
  obtain ⟨d,rfl⟩:∃ g,d=g+1:=⟨d-1,by simp only [lev] at hd;omega⟩
  have hx:=ih d (by simp only [lev,levs] at hd;omega)
  rw [right_mk]
  simp [Exp.op,Exp.n,Exp.unit,Exp.s,Exp.args,opsN,hx]
 | pair op x y ho hx hy ihx ihy =>
  intro d hd
  obtain ⟨d,rfl⟩:∃ g,d=g+1:=⟨d-1,by simp only [lev] at hd;omega⟩
  have h1:=ihx d (by simp only [lev,levs] at hd;omega)
  have h2:=ihy d (by simp only [lev,levs] at hd;omega)
  have ho':opsN op=2:=by unfold opsN;rw [if_neg (by omega),if_neg (by omega),if_neg (by omega),if_neg (by omega)]
  rw [right_mk]
  rw [ho']
  rw [if_neg (by simp),if_neg (by omega),if_neg (by omega),if_neg (by omega)]
  simp [h1,h2]
 | cond x y z hx hy hz ihx ihy ihz =>
  intro d hd
  obtain ⟨d,rfl⟩:∃ g,d=g+1:=⟨d-1,by simp only [lev] at hd;omega⟩
  have h1:=ihx d (by simp only [lev,levs] at hd;omega)
  have h2:=ihy d (by simp only [lev,levs] at hd;omega)
  have h3:=ihz d (by simp only [lev,levs] at hd;omega)
  rw [right_mk]
  simp [Exp.op,Exp.n,Exp.unit,Exp.s,Exp.args,opsN,h1,h2,h3]
theorem rightE_iff (e:Exp):rightE e=true↔WfE e∧lev e≤12:=⟨right_wf 12 e,fun h=>wf_right h.1 12 h.2⟩
theorem uniq_iff (l:List (List UInt8)) (m:Int):uniqB l m=true↔(∀ s∈l,nameB s=true)∧l.Nodup∧(l.length:Int)≤m:=by
 unfold uniqB uqB
 simp only [Bool.and_eq_true,List.all_eq_true,List.mem_range,Bool.not_eq_true',decide_eq_false_iff_not,decide_eq_true_eq]
 have hg:∀ k,(h:k<l.length)→l.getD k []=l[k]:=fun k h=>by rw [List.getD_eq_getElem?_getD,List.getElem?_eq_getElem h];rfl
 constructor
 ·rintro ⟨h,hl⟩
  refine ⟨fun s hs=>?_,?_,hl⟩
  ·obtain ⟨k,hk,rfl⟩:=List.getElem_of_mem hs
   rw [← hg k hk]
   exact (h k hk).1
  ·rw [List.nodup_iff_pairwise_ne,List.pairwise_iff_getElem]
   intro i j hi hj hij he
   refine (h j hj).2 ?_
   rw [hg j hj,← he]
   rw [List.mem_iff_getElem]
   exact ⟨i,by rw [List.length_take];omega,by rw [List.getElem_take]⟩
 ·rintro ⟨h1,h2,hl⟩
  refine ⟨fun k hk=>⟨by rw [hg k hk];exact h1 _ (List.getElem_mem _),?_⟩,hl⟩
  rw [hg k hk,List.mem_iff_getElem]
  rintro ⟨i,hi,he⟩
  rw [List.length_take] at hi
  rw [List.getElem_take] at he
  rw [List.nodup_iff_pairwise_ne,List.pairwise_iff_getElem] at h2
  exact h2 i k om0 hk om0 he
theorem uniq_snoc {l:List (List UInt8)} (h:(∀ s∈l,nameB s=true)∧l.Nodup) {s:List UInt8} (hs:nameB s=true) (hn:¬ s∈l):(∀ x∈l++[s],nameB x=true)∧(l++[s]).Nodup:=by
 refine ⟨fun x hx=>?_,?_⟩
 ·rcases List.mem_append.1 hx with hx | hx
  ·exact h.1 x hx
  ·rw [List.mem_singleton.1 hx];exact hs
 ·rw [List.nodup_append]
  refine ⟨h.2,by simp,fun a ha b hb he=>?_⟩
  rw [List.mem_singleton.1 hb] at he
  subst he
  exact hn ha
theorem wholeP_made {T:List Tok} {w:List UInt8} {r r':List Tok} {x:Exp} (h:PSt T r) (e:wholeP w r=.ok (x,r')):rightE x=true:=by
 unfold wholeP at e
 cases e1:expP r.length 0 r with
 | error er=>rw [e1] at e;cases e
 | ok v =>
  obtain ⟨y,r1⟩:=v
  rw [e1] at e
  dsimp only at e
  have hm:=expP_made T _ _ _ _ _ h e1
  split at e
  ·cases e
  split at e
  ·rename_i hl
   cases e
   exact (rightE_iff _).2 ⟨hm.1,by omega⟩
  ·cases e
theorem partP_bnd {T:List Tok} {w:List UInt8} {a b n:Int} {r r':List Tok} (h:PSt T r) (e:partP w a b r=.ok (n,r')):a≤n∧n≤b:=by
 unfold partP at e
 split at e
 ·cases e
 rename_i r1 e1
 split at e
 ·cases e
 rename_i m r2 e2
 split at e
 ·cases e
 cases e
 exact (numP_le (h.to (wantP_suf e1)) e2).2
theorem maybeP_bnd {T:List Tok} {w:List UInt8} {a n0 n:Int} {r r':List Tok} (h:PSt T r) (e:maybeP w a n0 r=.ok (n,r')):n=n0∨0≤n∧n≤a:=by
 unfold maybeP at e
 split at e
 ·exact .inr (partP_bnd h e)
 ·cases e;exact .inl rfl
theorem oneP_bnd {w:List UInt8} {ws:List (List UInt8)} {n:Int} {r r':List Tok} (e:oneP w ws r=.ok (n,r')):0≤n∧n<ws.length:=by
 unfold oneP at e
 split at e
 ·cases e
 rename_i r1 e1
 split at e
 ·cases e
 rename_i hi
 split at e
 ·cases e
 cases e
 have:=idxP_lt (fun w=>isT w r1) [] ws
 omega
theorem dateP_bnd {least d:Int} {r r':List Tok} (e:dateP least r=.ok (d,r')):least<d∧0≤d∧d≤200000:=by
 unfold dateP at e
 split at e
 ·cases e
 split at e
 ·cases e
 split at e
 ·cases e
 split at e
 ·cases e
 split at e
 ·cases e
 rename_i y _ _ _ _ m _ _ r4 _ _
 split at e
 ·cases e
 rename_i h0
 have h0:=Decidable.of_not_not h0
 split at e
 ·rename_i hl
  cases e
  refine ⟨hl,?_⟩
  unfold dayOf at h0 ⊢
  split at h0
  ·exact absurd h0 dd0
  split at h0
  ·exact absurd h0 dd0
  split at h0
  ·rename_i a b c
   rw [if_neg a,if_neg b,if_pos c]
   exact c
  ·exact absurd h0 dd0
 ·cases e
theorem freshP_made {names:List (List UInt8)} {r r':List Tok} {s:List UInt8} (e:freshP names r=.ok (s,r')):nameB s=true∧¬ s∈names:=by
 unfold freshP at e
 split at e
 ·cases e
 rename_i hn
 split at e
 ·cases e
 rename_i hm
 cases e
 refine ⟨?_,hm⟩
 have hn:namedB r=true:=by simpa using hn
 unfold namedB at hn
 simp only [Bool.and_eq_true] at hn
 exact hn.2
def Uq (l:List (List UInt8)):Prop:=(∀ s∈l,nameB s=true)∧l.Nodup
theorem uq_nil:Uq []:=⟨(fun s hs=>by cases hs),List.nodup_nil⟩
theorem letsP_made {T:List Tok}:∀ (f:Nat) (ls ls':List LetE) (r r':List Tok),PSt T r→(∀ l∈ls,rightE l.body=true)→Uq (ls.map LetE.name)→ls.length≤20→letsP f ls r=.ok (ls',r')→(∀ l∈ls',rightE l.body=true)∧Uq (ls'.map LetE.name)∧ls'.length≤20
 | 0,ls,ls',r,r',_,h1,h2,h3,e=>by cases e;exact ⟨h1,h2,h3⟩
 | f+1,ls,ls',r,r',h,h1,h2,h3,e=>by
  unfold letsP at e
  split at e
  ·cases e;exact ⟨h1,h2,h3⟩
  rename_i hb
  split at e
  ·cases e
  rename_i h20
  split at e
  ·cases e
  rename_i s r1 e1
  split at e
  ·cases e
  rename_i r2 e2
  split at e
  ·cases e
  rename_i x r3 e3
  have q0:=h.tail (isT_kind (by simpa using hb))
  have q2:=q0.to ((freshP_suf e1).trans (wantP_suf e2))
  obtain ⟨n1,n2⟩:=freshP_made e1
  refine letsP_made f _ ls' r3 r' (q2.to (wholeP_suf e3)) (fun l hl=>?_) ?_ (by rw [List.length_append];show ls.length+1≤20;omega) e
  ·rcases List.mem_append.1 hl with hl | hl
   ·exact h1 l hl
   ·rw [List.mem_singleton.1 hl];exact wholeP_made q2 e3
  ·rw [List.map_append];exact uniq_snoc h2 n1 n2
theorem covsP_made {T:List Tok}:∀ (f:Nat) (ls ls':List Cov) (r r':List Tok),PSt T r→(∀ c∈ls,rightE c.must=true∧0≤c.grace∧c.grace≤1000)→Uq (ls.map Cov.name)→ls.length≤20→covsP f ls r=.ok (ls',r')→(∀ c∈ls',rightE c.must=true∧0≤c.grace∧c.grace≤1000)∧Uq (ls'.map Cov.name)∧ls'.length≤20
 | 0,ls,ls',r,r',_,h1,h2,h3,e=>by cases e;exact ⟨h1,h2,h3⟩
 | f+1,ls,ls',r,r',h,h1,h2,h3,e=>by
  unfold covsP at e
  split at e
  ·cases e;exact ⟨h1,h2,h3⟩
  rename_i hb
  split at e
  ·cases e
  rename_i h20
  split at e
  ·cases e
  rename_i s r1 e1
  split at e
  ·cases e
  rename_i r2 e2
  split at e
  ·cases e
  rename_i x r3 e3
  split at e
  ·cases e
  rename_i n r4 e4
  split at e
  ·cases e
  rename_i r5 e5
  have q0:=h.tail (isT_kind (by simpa using hb))
  have q2:=q0.to ((freshP_suf e1).trans (wantP_suf e2))
  have q3:=q2.to (wholeP_suf e3)
  have q5:=q3.to ((numP_suf e4).1.trans (wantP_suf e5))
  obtain ⟨n1,n2⟩:=freshP_made e1
  refine covsP_made f _ ls' r5 r' q5 (fun l hl=>?_) ?_ (by rw [List.length_append];show ls.length+1≤20;omega) e
  ·rcases List.mem_append.1 hl with hl | hl
   ·exact h1 l hl
   ·rw [List.mem_singleton.1 hl];exact ⟨wholeP_made q2 e3,(numP_le q3 e4).2⟩
  ·rw [List.map_append];exact uniq_snoc h2 n1 n2
theorem callsP_made {T:List Tok}:∀ (f:Nat) (ls ls':List CallE) (r r':List Tok),PSt T r→(∀ c∈ls,(0≤c.a∧c.a≤200000)∧0≤c.b∧c.b≤10000)→ls.length≤20→callsP f ls r=.ok (ls',r')→(∀ c∈ls',(0≤c.a∧c.a≤200000)∧0≤c.b∧c.b≤10000)∧ls'.length≤20
 | 0,ls,ls',r,r',_,h1,h3,e=>by cases e;exact ⟨h1,h3⟩
 | f+1,ls,ls',r,r',h,h1,h3,e=>by
  unfold callsP at e
  split at e
  ·cases e;exact ⟨h1,h3⟩
  rename_i hb
  split at e
  ·cases e
  rename_i h20
  split at e
  ·cases e
  rename_i d r1 e1
  split at e
  ·cases e
  rename_i r2 e2
  split at e
  ·cases e
  rename_i n r4 e4
  split at e
  ·cases e
  rename_i r5 e5
  have q0:=h.tail (isT_kind (by simpa using hb))
  have q2:=q0.to ((dateP_suf e1).trans (wantP_suf e2))
  have q5:=q2.to ((numP_suf e4).1.trans (wantP_suf e5))
  refine callsP_made f _ ls' r5 r' q5 (fun l hl=>?_) (by rw [List.length_append];show ls.length+1≤20;omega) e
  rcases List.mem_append.1 hl with hl | hl
  ·exact h1 l hl
  ·rw [List.mem_singleton.1 hl];exact ⟨(dateP_bnd e1).2,(numP_le q2 e4).2⟩
theorem favL_made:∀ (f:Nat) (ls ls':List (List UInt8)) (r r':List Tok),Uq ls→ls.length≤20→favL f ls r=.ok (ls',r')→Uq ls'∧ls'.length≤20
 | 0,ls,ls',r,r',h2,h3,e=>by cases e;exact ⟨h2,h3⟩
 | f+1,ls,ls',r,r',h2,h3,e=>by
  unfold favL at e
  split at e
  ·split at e
   ·cases e
   split at e
   ·cases e
   rename_i h20
   split at e
   ·cases e
   rename_i s r1 e1
   obtain ⟨n1,n2⟩:=freshP_made e1
   exact favL_made f _ ls' r1 r' (uniq_snoc h2 n1 n2) (by rw [List.length_append];show ls.length+1≤20;omega) e
  ·cases e;exact ⟨h2,h3⟩
theorem favP_made {ls:List (List UInt8)} {r r':List Tok} (e:favP r=.ok (ls,r')):Uq ls∧ls.length≤20:=by
 unfold favP at e
 split at e
 ·cases e;exact ⟨uq_nil,by simp⟩
 split at e
 ·cases e
 rename_i e1
 split at e
 ·cases e
 cases e
 exact favL_made _ _ _ _ _ uq_nil (by simp) e1
theorem uq_uniq {l:List (List UInt8)} (h:Uq l) (hl:l.length≤20):uniqB l 20=true:=(uniq_iff l 20).2 ⟨h.1,h.2,by omega⟩
set_option maxHeartbeats 4000000
theorem rightE_okE {e:Exp} (h:rightE e=true):OkE e:=((rightE_iff e).1 h).1.okE
theorem Rt.okX {x:Ind} (h:Rt x):OkX x:=by
 have n1:∀ l:List (List UInt8),uniqB l 20=true→l.length≤20∧∀ s∈l,s.length≤20:=fun l hl=>by
  obtain ⟨a,b,c⟩:=(uniq_iff l 20).1 hl
  exact ⟨by omega,fun s hs=>name_len20 (a s hs)⟩
 obtain ⟨l1,l2⟩:=n1 _ h.ulets
 obtain ⟨c1,c2⟩:=n1 _ h.ucov
 obtain ⟨f1,f2⟩:=n1 _ h.fav
 rw [List.length_map] at l1 c1
 have:=name_len20 h.name
 have:=name_len20 h.issuer
 have:=h.ncalls
 have i:∀ n a b:Int,a≤n∧n≤b→-9223372036854775808≤a→b≤9223372036854775807→in64 n:=fun n a b h1 h2 h3=>⟨by omega,by omega⟩
 exact ⟨by omega,by omega,rightE_okE h.coupon,by omega,fun l hl=>⟨by have:=l2 l.name (List.mem_map_of_mem hl);omega,rightE_okE (h.lets l hl)⟩,by omega,
  fun c hc=>⟨by have:=c2 c.name (List.mem_map_of_mem hc);omega,rightE_okE (h.cov c hc).1,i _ _ _ (h.cov c hc).2 (by omega) (by omega)⟩,
  by omega,fun s hs=>by have:=f2 s hs;omega,by omega,fun c hc=>⟨i _ _ _ (h.calls c hc).1 (by omega) (by omega),i _ _ _ (h.calls c hc).2 (by omega) (by omega)⟩,
  i _ _ _ h.face (by omega) (by omega),i _ _ _ h.frm (by omega) (by omega),i _ _ _ h.to (by omega) (by omega),i _ _ _ h.every (by omega) (by omega),i _ _ _ h.count (by omega) (by omega),i _ _ _ h.adjust (by omega) (by omega),i _ _ _ h.record (by omega) (by omega),i _ _ _ h.rank (by omega) (by omega),i _ _ _ h.cap (by omega) (by omega),i _ _ _ h.cross (by omega) (by omega),i _ _ _ h.notice (by omega) (by omega),i _ _ _ h.sink (by omega) (by omega),i _ _ _ h.majority (by omega) (by omega),i _ _ _ h.fast (by omega) (by omega)⟩
theorem ind_rt {T r r':List Tok} {x:Ind} (h:PSt T r) (e:indP r=.ok (x,r')):Rt x:=by
 rcases e1:wantP [105,115,115,117,101] r with er | r1
 ·have hi:indP r=.error er:=by simp only [indP,wantsP,e1,ok_bind,er_bind]
  rw [hi] at e
  cases e
 have q1:PSt T r1:=PSt.to h (wantP_suf e1)
 rcases e2:nameP r1 with er | ⟨x2,r2⟩
 ·have hi:indP r=.error er:=by simp only [indP,wantsP,e1,e2,ok_bind,er_bind]
  rw [hi] at e
  cases e
 have b2:=nameP_le q1 e2
 have q2:PSt T r2:=PSt.to q1 (nameP_suf e2)
 rcases e3:wantP [111,102] r2 with er | r3
 ·have hi:indP r=.error er:=by simp only [indP,wantsP,e1,e2,e3,ok_bind,er_bind]
  rw [hi] at e
  cases e
 have q3:PSt T r3:=PSt.to q2 (wantP_suf e3)
 rcases e4:nameP r3 with er | ⟨x4,r4⟩
 ·have hi:indP r=.error er:=by simp only [indP,wantsP,e1,e2,e3,e4,ok_bind,er_bind]
  rw [hi] at e
  cases e
 have b4:=nameP_le q3 e4
 have q4:PSt T r4:=PSt.to q3 (nameP_suf e4)
 rcases e5:wantP [59] r4 with er | r5
 ·have hi:indP r=.error er:=by simp only [indP,wantsP,e1,e2,e3,e4,e5,ok_bind,er_bind]
  rw [hi] at e
  cases e
 have q5:PSt T r5:=PSt.to q4 (wantP_suf e5)
 rcases e6:partP [102,97,99,101] 1 1000000000000000 r5 with er | ⟨x6,r6⟩
 ·have hi:indP r=.error er:=by simp only [indP,wantsP,e1,e2,e3,e4,e5,e6,ok_bind,er_bind]
  rw [hi] at e
  cases e
 have b6:=partP_bnd q5 e6
 have q6:PSt T r6:=PSt.to q5 (partP_suf e6)
 rcases e7:wantP [102,114,111,109] r6 with er | r7
 ·have hi:indP r=.error er:=by simp only [indP,wantsP,e1,e2,e3,e4,e5,e6,e7,ok_bind,er_bind]
  rw [hi] at e
  cases e
 have q7:PSt T r7:=PSt.to q6 (wantP_suf e7)
 rcases e8:dateP (-1) r7 with er | ⟨x8,r8⟩
 ·have hi:indP r=.error er:=by simp only [indP,wantsP,e1,e2,e3,e4,e5,e6,e7,e8,ok_bind,er_bind]
  rw [hi] at e
  cases e
 have b8:=dateP_bnd e8
 have q8:PSt T r8:=PSt.to q7 (dateP_suf e8)
 rcases e9:wantP [116,111] r8 with er | r9
 ·have hi:indP r=.error er:=by simp only [indP,wantsP,e1,e2,e3,e4,e5,e6,e7,e8,e9,ok_bind,er_bind]
  rw [hi] at e
  cases e
 have q9:PSt T r9:=PSt.to q8 (wantP_suf e9)
 rcases e10:dateP x8 r9 with er | ⟨x10,r10⟩
 ·have hi:indP r=.error er:=by simp only [indP,wantsP,e1,e2,e3,e4,e5,e6,e7,e8,e9,e10,ok_bind,er_bind]
  rw [hi] at e
  cases e
 have b10:=dateP_bnd e10
 have q10:PSt T r10:=PSt.to q9 (dateP_suf e10)
 rcases e11:wantP [101,118,101,114,121] r10 with er | r11
 ·have hi:indP r=.error er:=by simp only [indP,wantsP,e1,e2,e3,e4,e5,e6,e7,e8,e9,e10,e11,ok_bind,er_bind]
  rw [hi] at e
  cases e
 have q11:PSt T r11:=PSt.to q10 (wantP_suf e11)
 rcases e12:numP 1 120 r11 with er | ⟨x12,r12⟩
 ·have hi:indP r=.error er:=by simp only [indP,wantsP,e1,e2,e3,e4,e5,e6,e7,e8,e9,e10,e11,e12,ok_bind,er_bind]
  rw [hi] at e
  cases e
 have b12:=(numP_le q11 e12).2
 have q12:PSt T r12:=PSt.to q11 ((numP_suf e12).1)
 rcases e13:wantP [109,111,110,116,104,115] r12 with er | r13
 ·have hi:indP r=.error er:=by simp only [indP,wantsP,e1,e2,e3,e4,e5,e6,e7,e8,e9,e10,e11,e12,e13,ok_bind,er_bind]
  rw [hi] at e
  cases e
 have q13:PSt T r13:=PSt.to q12 (wantP_suf e13)
 rcases e14:wantP [59] r13 with er | r14
 ·have hi:indP r=.error er:=by simp only [indP,wantsP,e1,e2,e3,e4,e5,e6,e7,e8,e9,e10,e11,e12,e13,e14,ok_bind,er_bind]
  rw [hi] at e
  cases e
 have q14:PSt T r14:=PSt.to q13 (wantP_suf e14)
 rcases e15:oneP [99,111,117,110,116] cntW r14 with er | ⟨x15,r15⟩
 ·have hi:indP r=.error er:=by simp only [indP,wantsP,e1,e2,e3,e4,e5,e6,e7,e8,e9,e10,e11,e12,e13,e14,e15,ok_bind,er_bind]
  rw [hi] at e
  cases e
 have b15:=oneP_bnd e15
 have q15:PSt T r15:=PSt.to q14 (oneP_suf e15)
 rcases e16:oneP [97,100,106,117,115,116] adjW r15 with er | ⟨x16,r16⟩
 ·have hi:indP r=.error er:=by simp only [indP,wantsP,e1,e2,e3,e4,e5,e6,e7,e8,e9,e10,e11,e12,e13,e14,e15,e16,ok_bind,er_bind]
  rw [hi] at e
  cases e
 have b16:=oneP_bnd e16
 have q16:PSt T r16:=PSt.to q15 (oneP_suf e16)
 rcases e17:partP [114,101,99,111,114,100] 0 100 r16 with er | ⟨x17,r17⟩
 ·have hi:indP r=.error er:=by simp only [indP,wantsP,e1,e2,e3,e4,e5,e6,e7,e8,e9,e10,e11,e12,e13,e14,e15,e16,e17,ok_bind,er_bind]
  rw [hi] at e
  cases e
 have b17:=partP_bnd q16 e17
 have q17:PSt T r17:=PSt.to q16 (partP_suf e17)
 rcases e18:partP [114,97,110,107] 0 9 r17 with er | ⟨x18,r18⟩
 ·have hi:indP r=.error er:=by simp only [indP,wantsP,e1,e2,e3,e4,e5,e6,e7,e8,e9,e10,e11,e12,e13,e14,e15,e16,e17,e18,ok_bind,er_bind]
  rw [hi] at e
  cases e
 have b18:=partP_bnd q17 e18
 have q18:PSt T r18:=PSt.to q17 (partP_suf e18)
 rcases e19:letsP r18.length [] r18 with er | ⟨x19,r19⟩
 ·have hi:indP r=.error er:=by simp only [indP,wantsP,e1,e2,e3,e4,e5,e6,e7,e8,e9,e10,e11,e12,e13,e14,e15,e16,e17,e18,e19,ok_bind,er_bind]
  rw [hi] at e
  cases e
 have b19:=letsP_made _ [] _ _ _ q18 (fun l hl=>by cases hl) uq_nil (by simp) e19
 have q19:PSt T r19:=PSt.to q18 (letsP_suf _ e19)
 rcases e20:wantP [99,111,117,112,111,110] r19 with er | r20
 ·have hi:indP r=.error er:=by simp only [indP,wantsP,e1,e2,e3,e4,e5,e6,e7,e8,e9,e10,e11,e12,e13,e14,e15,e16,e17,e18,e19,e20,ok_bind,er_bind]
  rw [hi] at e
  cases e
 have q20:PSt T r20:=PSt.to q19 (wantP_suf e20)
 rcases e21:wholeP [59] r20 with er | ⟨x21,r21⟩
 ·have hi:indP r=.error er:=by simp only [indP,wantsP,e1,e2,e3,e4,e5,e6,e7,e8,e9,e10,e11,e12,e13,e14,e15,e16,e17,e18,e19,e20,e21,ok_bind,er_bind]
  rw [hi] at e
  cases e
 have b21:=wholeP_made q20 e21
 have q21:PSt T r21:=PSt.to q20 (wholeP_suf e21)
 rcases e22:partP [99,97,112] 0 10000 r21 with er | ⟨x22,r22⟩
 ·have hi:indP r=.error er:=by simp only [indP,wantsP,e1,e2,e3,e4,e5,e6,e7,e8,e9,e10,e11,e12,e13,e14,e15,e16,e17,e18,e19,e20,e21,e22,ok_bind,er_bind]
  rw [hi] at e
  cases e
 have b22:=partP_bnd q21 e22
 have q22:PSt T r22:=PSt.to q21 (partP_suf e22)
 rcases e23:covsP r22.length [] r22 with er | ⟨x23,r23⟩
 ·have hi:indP r=.error er:=by simp only [indP,wantsP,e1,e2,e3,e4,e5,e6,e7,e8,e9,e10,e11,e12,e13,e14,e15,e16,e17,e18,e19,e20,e21,e22,e23,ok_bind,er_bind]
  rw [hi] at e
  cases e
 have b23:=covsP_made _ [] _ _ _ q22 (fun l hl=>by cases hl) uq_nil (by simp) e23
 have q23:PSt T r23:=PSt.to q22 (covsP_suf _ e23)
 rcases e24:favP r23 with er | ⟨x24,r24⟩
 ·have hi:indP r=.error er:=by simp only [indP,wantsP,e1,e2,e3,e4,e5,e6,e7,e8,e9,e10,e11,e12,e13,e14,e15,e16,e17,e18,e19,e20,e21,e22,e23,e24,ok_bind,er_bind]
  rw [hi] at e
  cases e
 have b24:=favP_made e24
 have q24:PSt T r24:=PSt.to q23 (favP_suf e24)
 rcases e25:maybeP [99,114,111,115,115] 1000000000000000 (-1) r24 with er | ⟨x25,r25⟩
 ·have hi:indP r=.error er:=by simp only [indP,wantsP,e1,e2,e3,e4,e5,e6,e7,e8,e9,e10,e11,e12,e13,e14,e15,e16,e17,e18,e19,e20,e21,e22,e23,e24,e25,ok_bind,er_bind]
  rw [hi] at e
  cases e
 have b25:=maybeP_bnd q24 e25
 have q25:PSt T r25:=PSt.to q24 (maybeP_suf e25)
 rcases e26:callsP r25.length [] r25 with er | ⟨x26,r26⟩
 ·have hi:indP r=.error er:=by simp only [indP,wantsP,e1,e2,e3,e4,e5,e6,e7,e8,e9,e10,e11,e12,e13,e14,e15,e16,e17,e18,e19,e20,e21,e22,e23,e24,e25,e26,ok_bind,er_bind]
  rw [hi] at e
  cases e
 have b26:=callsP_made _ [] _ _ _ q25 (fun l hl=>by cases hl) (by simp) e26
 have q26:PSt T r26:=PSt.to q25 (callsP_suf _ e26)
 rcases e27:maybeP [110,111,116,105,99,101] 1000 0 r26 with er | ⟨x27,r27⟩
 ·have hi:indP r=.error er:=by simp only [indP,wantsP,e1,e2,e3,e4,e5,e6,e7,e8,e9,e10,e11,e12,e13,e14,e15,e16,e17,e18,e19,e20,e21,e22,e23,e24,e25,e26,e27,ok_bind,er_bind]
  rw [hi] at e
  cases e
 have b27:=maybeP_bnd q26 e27
 have q27:PSt T r27:=PSt.to q26 (maybeP_suf e27)
 rcases e28:maybeP [115,105,110,107] 1000 0 r27 with er | ⟨x28,r28⟩
 ·have hi:indP r=.error er:=by simp only [indP,wantsP,e1,e2,e3,e4,e5,e6,e7,e8,e9,e10,e11,e12,e13,e14,e15,e16,e17,e18,e19,e20,e21,e22,e23,e24,e25,e26,e27,e28,ok_bind,er_bind]
  rw [hi] at e
  cases e
 have b28:=maybeP_bnd q27 e28
 have q28:PSt T r28:=PSt.to q27 (maybeP_suf e28)
 rcases e29:partP [109,97,106,111,114,105,116,121] 1 1000 r28 with er | ⟨x29,r29⟩
 ·have hi:indP r=.error er:=by simp only [indP,wantsP,e1,e2,e3,e4,e5,e6,e7,e8,e9,e10,e11,e12,e13,e14,e15,e16,e17,e18,e19,e20,e21,e22,e23,e24,e25,e26,e27,e28,e29,ok_bind,er_bind]
  rw [hi] at e
  cases e
 have b29:=partP_bnd q28 e29
 have q29:PSt T r29:=PSt.to q28 (partP_suf e29)
 rcases e30:partP [102,97,115,116] 1 1000 r29 with er | ⟨x30,r30⟩
 ·have hi:indP r=.error er:=by simp only [indP,wantsP,e1,e2,e3,e4,e5,e6,e7,e8,e9,e10,e11,e12,e13,e14,e15,e16,e17,e18,e19,e20,e21,e22,e23,e24,e25,e26,e27,e28,e29,e30,ok_bind,er_bind]
  rw [hi] at e
  cases e
 have b30:=partP_bnd q29 e30
 have q30:PSt T r30:=PSt.to q29 (partP_suf e30)
 have hi:indP r=if (hdT r30).kind=3 then .ok (⟨x2,x4,x6,x8,x10,x12,x15,x16,x17,x18,x19,x21,x22,x23,x24,x25,x26,x27,x28,x29,x30⟩,r30) else errP 12 r30:=by simp only [indP,wantsP,e1,e2,e3,e4,e5,e6,e7,e8,e9,e10,e11,e12,e13,e14,e15,e16,e17,e18,e19,e20,e21,e22,e23,e24,e25,e26,e27,e28,e29,e30,ok_bind,er_bind]
 rw [hi] at e
 by_cases hk:(hdT r30).kind=3
 case neg =>
  rw [if_neg hk] at e
  cases e
 rw [if_pos hk] at e
 cases e
 have hc:cntW.length=3:=rfl
 have ha:adjW.length=4:=rfl
 rw [hc] at b15
 rw [ha] at b16
 exact ⟨b8.2,b10.2,b10.1,b6,b12,(by show 0≤x15∧x15≤2;omega),(by show 0≤x16∧x16≤3;omega),b17,b18,b22,(by show -1≤x25∧x25≤1000000000000000;omega),(by show 0≤x27∧x27≤1000;omega),(by show 0≤x28∧x28≤1000;omega),b29,b30,b2.2.1,b4.2.1,b26.2,uq_uniq b24.1 b24.2,uq_uniq b19.2.1 (by rw [List.length_map];exact b19.2.2),uq_uniq b23.2.1 (by rw [List.length_map];exact b23.2.2),b21,b19.1,b23.1,b26.1⟩
theorem parse_rt {s:List UInt8} {x:Ind} (h:parseR s=.ok x):Rt x:=by
 unfold parseR at h
 cases e1:lexR s with
 | error e=>rw [e1] at h;cases h
 | ok T =>
  rw [e1] at h
  dsimp only at h
  cases e2:indP T with
  | error e=>rw [e2] at h;cases h
  | ok v =>
   obtain ⟨y,r⟩:=v
   rw [e2] at h
   cases h
   exact ind_rt (lexR_ok e1) e2
theorem parseE_right {s:List UInt8} {x:Exp} (h:parseER s=.ok x):rightE x=true:=by
 unfold parseER at h
 cases e1:lexR s with
 | error e=>rw [e1] at h;cases h
 | ok T =>
  rw [e1] at h
  dsimp only at h
  cases e2:expP T.length 0 T with
  | error e=>rw [e2] at h;cases h
  | ok v =>
   obtain ⟨y,r⟩:=v
   rw [e2] at h
   dsimp only at h
   have hm:=expP_made T _ _ _ _ _ (lexR_ok e1) e2
   split at h
   ·cases h
   split at h
   ·rename_i hl
    cases h
    exact (rightE_iff _).2 ⟨hm.1,by omega⟩
   ·cases h
def decF:Nat→Nat→List UInt8
 | 0,_=>[]
 | k+1,u=>if u<10 then [UInt8.ofNat (48+u)] else decF k (u / 10)++[UInt8.ofNat (48+u % 10)]
theorem dec_F:∀ (k u:Nat),u<10 ^ k→1≤k→Lib.decDigits u=decF k u
 | 0,_,_,h=>absurd h (by decide)
 | k+1,u,h,_=>by
  rw [Lib.decDigits,decF]
  split
  ·rfl
  ·rename_i hu
   have hk:1≤k:=by
    rcases Nat.eq_zero_or_pos k with rfl | h'
    ·rw [Nat.zero_add,Nat.pow_one] at h;omega
    ·exact h'
   rw [dec_F k (u / 10) (by rw [Nat.pow_succ] at h;omega) hk]
theorem itoa_F (u:Nat) (h:u<10 ^ 4):Lib.itoa (u:Int)=decF 4 u:=by rw [Lib.itoa_nonneg,dec_F 4 u h (by decide)]
theorem it1:Lib.itoa 1=[49]:=(itoa_F 1 (by decide)).trans (by decide)
theorem it2:Lib.itoa 2=[50]:=(itoa_F 2 (by decide)).trans (by decide)
theorem it3:Lib.itoa 3=[51]:=(itoa_F 3 (by decide)).trans (by decide)
theorem it5:Lib.itoa 5=[53]:=(itoa_F 5 (by decide)).trans (by decide)
theorem it6:Lib.itoa 6=[54]:=(itoa_F 6 (by decide)).trans (by decide)
theorem it15:Lib.itoa 15=[49,53]:=(itoa_F 15 (by decide)).trans (by decide)
theorem it20:Lib.itoa 20=[50,48]:=(itoa_F 20 (by decide)).trans (by decide)
theorem it30:Lib.itoa 30=[51,48]:=(itoa_F 30 (by decide)).trans (by decide)
theorem it100:Lib.itoa 100=[49,48,48]:=(itoa_F 100 (by decide)).trans (by decide)
theorem it250:Lib.itoa 250=[50,53,48]:=(itoa_F 250 (by decide)).trans (by decide)
theorem it667:Lib.itoa 667=[54,54,55]:=(itoa_F 667 (by decide)).trans (by decide)
theorem it1000:Lib.itoa 1000=[49,48,48,48]:=(itoa_F 1000 (by decide)).trans (by decide)
theorem it1010:Lib.itoa 1010=[49,48,49,48]:=(itoa_F 1010 (by decide)).trans (by decide)
theorem it2000:Lib.itoa 2000=[50,48,48,48]:=(itoa_F 2000 (by decide)).trans (by decide)
theorem it2005:Lib.itoa 2005=[50,48,48,53]:=(itoa_F 2005 (by decide)).trans (by decide)
theorem it2010:Lib.itoa 2010=[50,48,49,48]:=(itoa_F 2010 (by decide)).trans (by decide)
theorem it5000:Lib.itoa 5000=[53,48,48,48]:=(itoa_F 5000 (by decide)).trans (by decide)
theorem fo0:formO 0=7:=by kernel_rfl
theorem fo1:formO 1=7:=by kernel_rfl
theorem fo2:formO 2=7:=by kernel_rfl
theorem fo3:formO 3=7:=by kernel_rfl
theorem fo4:formO 4=5:=by kernel_rfl
theorem fo6:formO 6=6:=by kernel_rfl
theorem fo7:formO 7=6:=by kernel_rfl
theorem fo10:formO 10=4:=by kernel_rfl
theorem fo17:formO 17=7:=by kernel_rfl
theorem op4:oprL[(oprI 4).toNat]?.getD o0=⟨[43],4,5⟩:=by kernel_rfl
theorem op6:oprL[(oprI 6).toNat]?.getD o0=⟨[42],6,6⟩:=by kernel_rfl
theorem op7:oprL[(oprI 7).toNat]?.getD o0=⟨[47],7,6⟩:=by kernel_rfl
theorem op10:oprL[(oprI 10).toNat]?.getD o0=⟨[60],10,4⟩:=by kernel_rfl
def docT:List UInt8:=[105,115,115,117,101,32,97,32,111,102,32,98,32,59,32,102,97,99,101,32,49,48,48,48,32,59,32,102,114,111,109,32,50,48,48,48,32,45,32,49,32,45,32,49,53,32,116,111,32,50,48,49,48,32,45,32,49,32,45,32,49,53,32,101,118,101,114,121,32,54,32,109,111,110,116,104,115,32,59,32,99,111,117,110,116,32,116,104,105,114,116,121,32,59,32,97,100,106,117,115,116,32,110,101,120,116,32,59,32,114,101,99,111,114,100,32,50,32,59,32,114,97,110,107,32,49,32,59,32,108,101,116,32,98,97,115,101,32,61,32,50,48,32,109,105,108,108,101,32,59,32,99,111,117,112,111,110,32,98,97,115,101,32,43,32,114,97,116,101,32,99,32,47,32,50,32,59,32,99,97,112,32,49,48,48,32,59,32,99,111,118,101,110,97,110,116,32,99,111,118,101,114,32,109,117,115,116,32,102,97,99,116,32,100,101,98,116,32,60,32,51,32,42,32,102,97,99,116,32,101,98,105,116,32,103,114,97,99,101,32,51,48,32,59,32,102,97,118,111,117,114,32,99,32,59,32,99,114,111,115,115,32,53,48,48,48,32,59,32,99,97,108,108,32,50,48,48,53,32,45,32,49,32,45,32,49,53,32,97,116,32,49,48,49,48,32,59,32,109,97,106,111,114,105,116,121,32,54,54,55,32,59,32,102,97,115,116,32,50,53,48,32,59]
def exT:List UInt8:=[108,111,110,103,32,51,48,40,102,97,99,116,32,100,101,98,116,60,50,42,102,97,99,116,32,99,97,115,104,41]
def exE:Exp:=.mk 17 30 0 [] [.mk 10 0 0 [] [.mk 2 0 0 [100,101,98,116] [],.mk 6 0 0 [] [.mk 0 2 0 [] [],.mk 2 0 0 [99,97,115,104] []]]]
theorem ex1:parseER exT=.ok exE:=by kernel_rfl
theorem sh1:showT 12 exE 0=[108,111,110,103]++[32]++Lib.itoa 30++[32,40,32]++([102,97,99,116,32,100,101,98,116]++[32]++[60]++[32]++(Lib.itoa 2++[32]++[42]++[32]++[102,97,99,116,32,99,97,115,104]))++[32,41]:=by simp [showT,bodyT,exE,argOf,Exp.op,Exp.n,Exp.unit,Exp.s,Exp.args,numT,fo0,fo1,fo2,fo3,fo4,fo6,fo7,fo10,fo17,op4,op6,op7,op10]
theorem ri1:rightE exE=true:=by kernel_rfl
theorem ex2:printE exE=([108,111,110,103,32,51,48,32,40,32,102,97,99,116,32,100,101,98,116,32,60,32,50,32,42,32,102,97,99,116,32,99,97,115,104,32,41],0):=by
 unfold printE
 rw [if_pos ri1,sh1,it30,it2]
 kernel_rfl
def sumE:Exp:=.mk 4 0 0 [] [.mk 3 0 0 [97] [],.mk 0 5 2 [] []]
def mulE:Exp:=.mk 6 0 0 [] [.mk 0 3 0 [] [],sumE]
theorem sh2:showT 12 mulE 0=Lib.itoa 3++[32]++[42]++[32]++([40,32]++([114,97,116,101,32,97]++[32]++[43]++[32]++(Lib.itoa 5++[32,109,105,108,108,101]))++[32,41]):=by simp [showT,bodyT,sumE,mulE,argOf,Exp.op,Exp.n,Exp.unit,Exp.s,Exp.args,numT,fo0,fo1,fo2,fo3,fo4,fo6,fo7,fo10,fo17,op4,op6,op7,op10]
theorem ri2:rightE mulE=true:=by kernel_rfl
theorem ex3:printE mulE=([51,32,42,32,40,32,114,97,116,101,32,97,32,43,32,53,32,109,105,108,108,101,32,41],0):=by
 unfold printE
 rw [if_pos ri2,sh2,it3,it5]
 kernel_rfl
theorem ex4:parseR [105,115,115,117,101,32,97,32,111,102,32,98,32,59,32,102,97,99,101,32,48,32,59]=.error (20,3):=by kernel_rfl
theorem ex5:parseR [105,115,115,117,101,32,97,32,111,102,32,98,32,59,32,102,97,99,101,32,49,32,59,32,102,114,111,109,32,50,48,48,49,32,45,32,50,32,45,32,50,57,32,116,111]=.error (40,23):=by kernel_rfl
theorem ex6:parseER [49,32,99,111,105,110,115,32,50]=.error (8,12):=by kernel_rfl
def cpnE:Exp:=.mk 4 0 0 [] [.mk 1 0 0 [98,97,115,101] [],.mk 7 0 0 [] [.mk 3 0 0 [99] [],.mk 0 2 0 [] []]]
def mustE:Exp:=.mk 10 0 0 [] [.mk 2 0 0 [100,101,98,116] [],.mk 6 0 0 [] [.mk 0 3 0 [] [],.mk 2 0 0 [101,98,105,116] []]]
def docX:Ind:=⟨[97],[98],1000,36538,40191,6,0,1,2,1,[⟨[98,97,115,101],.mk 0 20 2 [] []⟩],cpnE,100,[⟨[99,111,118,101,114],mustE,30⟩],[[99]],5000,[⟨38365,1010⟩],0,0,667,250⟩
theorem doc2:parseR docT=.ok docX:=by kernel_rfl
theorem sh3:showT 12 (.mk 0 20 2 [] []) 0=Lib.itoa 20++[32,109,105,108,108,101]:=by simp [showT,bodyT,cpnE,mustE,argOf,Exp.op,Exp.n,Exp.unit,Exp.s,Exp.args,numT,fo0,fo1,fo2,fo3,fo4,fo6,fo7,fo10,fo17,op4,op6,op7,op10]
theorem sh4:showT 12 cpnE 0=[98,97,115,101]++[32]++[43]++[32]++([114,97,116,101,32,99]++[32]++[47]++[32]++Lib.itoa 2):=by simp [showT,bodyT,cpnE,mustE,argOf,Exp.op,Exp.n,Exp.unit,Exp.s,Exp.args,numT,fo0,fo1,fo2,fo3,fo4,fo6,fo7,fo10,fo17,op4,op6,op7,op10]
theorem sh5:showT 12 mustE 0=[102,97,99,116,32,100,101,98,116]++[32]++[60]++[32]++(Lib.itoa 3++[32]++[42]++[32]++[102,97,99,116,32,101,98,105,116]):=by simp [showT,bodyT,cpnE,mustE,argOf,Exp.op,Exp.n,Exp.unit,Exp.s,Exp.args,numT,fo0,fo1,fo2,fo3,fo4,fo6,fo7,fo10,fo17,op4,op6,op7,op10]
theorem da1:dayT 36538=Lib.itoa 2000++[32,45,32]++Lib.itoa 1++[32,45,32]++Lib.itoa 15:=by kernel_rfl
theorem da2:dayT 40191=Lib.itoa 2010++[32,45,32]++Lib.itoa 1++[32,45,32]++Lib.itoa 15:=by kernel_rfl
theorem da3:dayT 38365=Lib.itoa 2005++[32,45,32]++Lib.itoa 1++[32,45,32]++Lib.itoa 15:=by kernel_rfl
theorem li1:linesW docX=[[[105,115,115,117,101],[97],[111,102],[98]],[[102,97,99,101],Lib.itoa 1000],
 [[102,114,111,109],dayT 36538,[116,111],dayT 40191,[101,118,101,114,121],Lib.itoa 6,[109,111,110,116,104,115]],[[99,111,117,110,116],[116,104,105,114,116,121]],[[97,100,106,117,115,116],[110,101,120,116]],[[114,101,99,111,114,100],Lib.itoa 2],[[114,97,110,107],Lib.itoa 1],
 [[108,101,116],[98,97,115,101],[61],showT 12 (.mk 0 20 2 [] []) 0],[[99,111,117,112,111,110],showT 12 cpnE 0],[[99,97,112],Lib.itoa 100],[[99,111,118,101,110,97,110,116],[99,111,118,101,114],[109,117,115,116],showT 12 mustE 0,[103,114,97,99,101],Lib.itoa 30],
 [[102,97,118,111,117,114],[99]],[[99,114,111,115,115],Lib.itoa 5000],[[99,97,108,108],dayT 38365,[97,116],Lib.itoa 1010],[[109,97,106,111,114,105,116,121],Lib.itoa 667],[[102,97,115,116],Lib.itoa 250]]:=by kernel_rfl
theorem ri3:rightI docX=true:=by kernel_rfl
theorem doc3:(printI docX).2=0∧(printI docX).1.length=docT.length+1:=by
 have h:printI docX=fitsT (txt (linesW docX)):=by unfold printI;rw [if_pos ri3]
 rw [h,li1,da1,da2,da3,sh3,sh4,sh5,it1,it2,it3,it6,it15,it20,it30,it100,it250,it667,it1000,it1010,it2000,it2005,it2010,it5000]
 constructor<;>kernel_rfl
theorem parse_ok (s:List UInt8) (hs:s.length≤9223372036854775807):APure Tryz.prog 10 [.str s] (fun rs=>rs=parA (parseR s)):=by
 cases h:lexR s with
 | error e =>
  have hp:parseR s=.error e:=by unfold parseR;rw [h]
  rw [hp]
  exact parse_lex s hs h
 | ok T=>exact parse_go s hs h
theorem parseE_ok (s:List UInt8) (hs:s.length≤9223372036854775807):APure Tryz.prog 12 [.str s] (fun rs=>rs=parEA (parseER s)):=by
 cases h:lexR s with
 | error e =>
  have hp:parseER s=.error e:=by unfold parseER;rw [h]
  rw [hp]
  exact parseE_lex s hs h
 | ok T=>exact parseE_go s hs h
theorem text37:APureV Tryz.prog 37 [] (.str docT):=by
 refine aO (cxOk 1 [0]) Tryz.func37 ?_
 conv=>whnf
 rfl
theorem okE_sum:OkE sumE:=rightE_okE (by kernel_rfl)
theorem okE_mul:OkE mulE:=rightE_okE ri2
theorem rt_doc:Rt docX:=(right_iff _).1 ri3
theorem right_bad:rightI i0=false:=by kernel_rfl
theorem rightE_bad:rightE (.mk 1 0 0 [] [])=false:=by kernel_rfl
theorem rightE_sum:rightE sumE=true:=by kernel_rfl
theorem name_per:nameB [112,101,114,105,111,100]=true:=by kernel_rfl
theorem name_coi:nameB [99,111,105,110,115]=false:=by kernel_rfl
theorem okX_0:OkX i0:=by
 have i:in64 0:=⟨by omega,by omega⟩
 have e:OkE ex0:=.mk i i i (by show ([]:List UInt8).length≤_;simp) (by show ([]:List Exp).length≤_;simp) (fun a ha=>by cases ha)
 exact ⟨by decide,by decide,e,by decide,(fun l hl=>by cases hl),by decide,(fun l hl=>by cases hl),by decide,(fun l hl=>by cases hl),by decide,(fun l hl=>by cases hl),i,i,i,i,i,i,i,i,i,i,i,i,i,i⟩
theorem okE_name:OkE (.mk 1 0 0 [] []):=by
 have i:in64 0:=⟨by omega,by omega⟩
 exact .mk ⟨by show -9223372036854775808≤(1:Int);omega,by show (1:Int)≤9223372036854775807;omega⟩ i i (by show ([]:List UInt8).length≤_;simp) (by show ([]:List Exp).length≤_;simp) (fun a ha=>by cases ha)
theorem LeT.agg {l r:List AV} (h:LeTs l r):LeT (.agg l) (.agg r):=fun S w v hr=>by
 cases hr with
 | agg cs l hl hh =>
  refine .agg cs r (by rw [hl,h.len]) fun j c b hc hb=>?_
  obtain ⟨a,ha,hab⟩:=h.get hb
  exact hab S w c (hh j c a hc ha)
def rawE (o n u:Int) (s:List UInt8):AV:=.agg [.int .i64 o,.int .i64 n,.int .i64 u,.str s,.nils]
theorem rawE_le (o n u:Int) (s:List UInt8):LeT (rawE o n u s) (encE (.mk o n u s [])):=LeT.agg (.cons (.refl _) (.cons (.refl _) (.cons (.refl _) (.cons (.refl _) (.cons (LeT.nils_lsl 5 rfl) .nil)))))
def rawSum:AV:=.agg [.int .i64 4,.int .i64 0,.int .i64 0,.str [],.lsl 5 [rawE 3 0 0 [97],rawE 0 5 2 []]]
def rawMul:AV:=.agg [.int .i64 6,.int .i64 0,.int .i64 0,.str [],.lsl 5 [rawE 0 3 0 [],encE sumE]]
theorem ones_E (x:Exp):∀ a∈(encE x).cells,a.one=true:=by
 intro a ha
 simp [encE,AV.cells] at ha
 rcases ha with rfl | rfl | rfl | rfl | rfl<;>rfl
theorem args_le {x y:Exp} {a b:AV} (h:LeTs (a.cells++b.cells) ((encE x).cells++(encE y).cells)) (o n u:Int) (s:List UInt8) :
  LeT (.lsl 5 [a,b]) (.lsl 5 (argsE (.mk o n u s [x,y]))):=by
 have e:argsE (.mk o n u s [x,y])=[encE x,encE y]:=argsE_eq _
 rw [e]
 have f:∀ c d:AV,flat [c,d]=c.cells++d.cells:=fun c d=>by unfold flat;simp
 refine LeT.lsl rfl (fun z hz=>?_) (fun z hz=>?_) (by rw [f,f];exact h)
 ·simp only [List.mem_cons,List.not_mem_nil,or_false] at hz
  rcases hz with rfl | rfl<;>rfl
 ·rw [f] at hz
  rcases List.mem_append.1 hz with hz | hz
  ·exact ones_E x z hz
  ·exact ones_E y z hz
theorem rawC_le (o n u:Int) (s:List UInt8):LeTs (rawE o n u s).cells (encE (.mk o n u s [])).cells:=.cons (.refl _) (.cons (.refl _) (.cons (.refl _) (.cons (.refl _) (.cons (LeT.nils_lsl 5 rfl) .nil))))
theorem LeTs_app {a b c d:List AV} (h:LeTs a b) (k:LeTs c d):LeTs (a++c) (b++d):=by
 induction h with
 | nil=>exact k
 | cons h _ ih=>exact .cons h ih
theorem LeTs_refl:∀ l:List AV,LeTs l l
 | []=>.nil
 | _::l=>.cons (.refl _) (LeTs_refl l)
theorem rawMulC:LeTs rawMul.cells (encE mulE).cells:=.cons (.refl _) (.cons (.refl _) (.cons (.refl _) (.cons (.refl _) (.cons (args_le (LeTs_app (rawC_le _ _ _ _) (LeTs_refl _)) 6 0 0 []) .nil))))
theorem rawMul_le:LeT rawMul (encE mulE):=LeT.agg rawMulC
def rawX0:AV:=.agg [.str [],.str [],.int .i64 0,.int .i64 0,.int .i64 0,.int .i64 0,.int .i64 0,.int .i64 0,.int .i64 0,.int .i64 0,.nils,.int .i64 0,.int .i64 0,.int .i64 0,.str [],.nils,.int .i64 0,.nils,.nils,.int .i64 0,.nils,.int .i64 0,.int .i64 0,.int .i64 0,.int .i64 0]
theorem rawX0_le:LeT rawX0 (encX i0):=by
 refine LeT.agg ?_
 repeat (first | exact .nil | refine .cons (by first | exact LeT.refl _ | exact LeT.nils_lsl 5 rfl | exact LeT.nils_sl 6 encL l0 | exact LeT.nils_sl 7 encC c0 | exact LeT.nils_sl 1 encS [] | exact LeT.nils_sl 2 encK k0) ?_)
noncomputable abbrev cS:Cx:=cx 168 [0,1,3,4,5,6,7,8,9,11,12,13,15,16,18,19,21,22,23,24]
theorem small_ok:APureV Tryz.prog 9 [] (.bool true):=by
 have c1:=parseE_ok exT (by decide)
 rw [ex1] at c1
 unfold parEA at c1
 have c2:=printexp_ok exE (rightE_okE ri1)
 rw [ex2] at c2
 have c3:=printexp_ok mulE okE_mul
 rw [ex3] at c3
 have c3:=apure_args (args':=[rawMul]) c3 (.cons rawMul_le .nil)
 have c4:=parse_ok docT (by decide)
 rw [doc2] at c4
 unfold parA at c4
 have c5:=print_ok docX rt_doc.okX
 rw [doc3.1] at c5
 have c6:=parse_ok _ (by decide:([105,115,115,117,101,32,97,32,111,102,32,98,32,59,32,102,97,99,101,32,48,32,59]:List UInt8).length≤9223372036854775807)
 rw [ex4] at c6
 unfold parA at c6
 have c7:=parse_ok _ (by decide:([105,115,115,117,101,32,97,32,111,102,32,98,32,59,32,102,97,99,101,32,49,32,59,32,102,114,111,109,32,50,48,48,49,32,45,32,50,32,45,32,50,57,32,116,111]:List UInt8).length≤9223372036854775807)
 rw [ex5] at c7
 unfold parA at c7
 have c8:=parseE_ok _ (by decide:([49,32,99,111,105,110,115,32,50]:List UInt8).length≤9223372036854775807)
 rw [ex6] at c8
 unfold parEA at c8
 have r1:=rightfn_ok docX rt_doc.okX
 rw [ri3] at r1
 have r2:=rightfn_ok i0 okX_0
 rw [right_bad] at r2
 have r2:=apure_args (args':=[rawX0]) r2 (.cons rawX0_le .nil)
 have r3:=rightexp_ok sumE okE_sum
 rw [rightE_sum] at r3
 have r4:=rightexp_ok _ okE_name
 rw [rightE_bad] at r4
 have r4:=apure_args (args':=[rawE 1 0 0 []]) r4 (.cons (rawE_le 1 0 0 []) .nil)
 have r5:=name_ok _ (by decide:([112,101,114,105,111,100]:List UInt8).length≤9223372036854775807)
 rw [name_per] at r5
 have r6:=name_ok _ (by decide:([99,111,105,110,115]:List UInt8).length≤9223372036854775807)
 rw [name_coi] at r6
 have r7:=samefn_ok docX docX rt_doc.okX rt_doc.okX
 rw [decide_eq_true (rfl:docX=docX)] at r7
 have r8:=same_ok sumE sumE okE_sum okE_sum
 rw [decide_eq_true (rfl:sumE=sumE)] at r8
 have hl:=doc3.2
 have hdl:docT.length=323:=by kernel_rfl
 have hde:decide (((printI docX).1.length:Nat)=((docT.length:Nat):Int)+1)=true:=by
  rw [hl,hdl]
  decide
 refine apure_of0 (C:=cS) (cxOk _ _) Tryz.func9 rfl dd0 rfl (by exact Nat.le_of_ble_eq_true rfl) dd0 ?_
 intro F a w hF hrel
 refine wp_seq_ev (cxOk _ _) (C:=cS) hF (st1:=⟨[(0,.bool false)],[],0⟩) (Rr:=fun _=>False) ?_ (fun _ h=>h) ?_ (fun _ _ _ _ h=>h.elim) a w hrel
 ·conv=>whnf
  exact (wk_of [] rfl ⟨wa0,trivial⟩ trivial)
 intro a w hrel
 refine wp_seq_ev (cxOk _ _) (C:=cS) hF (st1:=⟨[(0,.bool false),(1,.ptr 0 0),(3,.int .i64 0)],[(0,.cells 26 (cellsE exE))],1⟩) (Rr:=fun _=>False) ?_ (fun _ h=>h) ?_ (fun _ _ _ _ h=>h.elim) a w hrel
 ·conv=>whnf
  refine cO (fun _=>c1) ?_
  conv=>whnf
  exact (wk_of [(0,.id 0)] rfl ⟨wa0,wc0,wa0,trivial⟩ ⟨wb0,trivial⟩)
 intro a w hrel
 refine wp_seq_ev (cxOk _ _) (C:=cS) hF (st1:=⟨[(0,.bool false),(3,.int .i64 0),(4,.str [108,111,110,103,32,51,48,32,40,32,102,97,99,116,32,100,101,98,116,32,60,32,50,32,42,32,102,97,99,116,32,99,97,115,104,32,41]),(5,.int .i64 0)],[],0⟩) (Rr:=fun _=>False) ?_ (fun _ h=>h) ?_ (fun _ _ _ _ h=>h.elim) a w hrel
 ·conv=>whnf
  refine cO (fun _=>c2) ?_
  conv=>whnf
  exact (wk_of [] rfl ⟨wa0,wa0,wa0,wa0,trivial⟩ trivial)
 intro a w hrel
 refine wp_seq_ev (cxOk _ _) (C:=cS) hF (st1:=⟨[(0,.bool false),(3,.int .i64 0),(4,.str [108,111,110,103,32,51,48,32,40,32,102,97,99,116,32,100,101,98,116,32,60,32,50,32,42,32,102,97,99,116,32,99,97,115,104,32,41]),(5,.int .i64 0),(6,.ptr 0 0)],[(0,.cells 26 (cellsE sumE))],1⟩) (Rr:=fun _=>False) ?_ (fun _ h=>h) ?_ (fun _ _ _ _ h=>h.elim) a w hrel
 ·conv=>whnf
  exact (wk_frz [0]).trans (wk_of [(0,.id 1)] rfl ⟨wa0,wa0,wa0,wa0,wc0,trivial⟩ ⟨⟨_,rfl,.cells _ _ _ _ rfl (by repeat (first | exact .nil | refine .cons (by first | exact .base (.tree _ _ rfl rfl) | exact .base (.own _ _ rfl) | exact .base (.ptr _ _ _ rfl) | exact .base (.map _ _ rfl) | exact .base (.nilown _ rfl) | exact .fn _ _ _ _ _ .nil (by repeat (first | exact .nil | refine .cons (by exact .ptr _ _ _ rfl) ?_)) | exact .base (.tree _ _ (args_le (LeTs_app (rawC_le _ _ _ _) (rawC_le _ _ _ _)) 4 0 0 []) rfl) | exact .base (.leT _ _ (args_le (LeTs_app (rawC_le _ _ _ _) (rawC_le _ _ _ _)) 4 0 0 []) rfl)) ?_)) rfl⟩,trivial⟩)
 intro a w hrel
 refine wp_mono (evCode_sound (C:=cS) (cxOk _ _) hF _ ⟨[(0,.bool false),(3,.int .i64 0),(4,.str [108,111,110,103,32,51,48,32,40,32,102,97,99,116,32,100,101,98,116,32,60,32,50,32,42,32,102,97,99,116,32,99,97,115,104,32,41]),(5,.int .i64 0),(6,.ptr 0 0)],[(0,.cells 26 (cellsE sumE))],1⟩ (retQ cS.T _ (fun rs=>rs=[.val (.bool true)])) ?_ a w hrel) fun _ _ _ ⟨st',h1,h2⟩=>⟨st',h1,orP_off (fun _ h=>h) h2⟩
 conv=>whnf
 refine .one _ _ _ (fun _=>c3) (.cons (.agg _ _ _ (.cons (.base (.base (.same _ rfl))) (.cons (.base (.base (.same _ rfl))) (.cons (.base (.base (.same _ rfl))) (.cons (.base (.base (.same _ rfl))) (.cons (.base (.base (.lst _ 26 5 [rawE 0 3 0 [],encE sumE] (by kernel_rfl)))) .nil))))))  .nil) (by first | exact .inl rfl | exact .inr (by repeat (first | exact flats_nil | refine flats_cons (by first | exact flat_val _ rfl | exact flat_row (fun _=>rfl) | exact flat_lst (fun _=>rfl)) ?_))) (by first | exact .inr rfl | exact .inl rfl) ?_
 conv=>whnf
 refine cO (fun _=>text37) ?_
 conv=>whnf
 refine cO (fun _=>c4) ?_
 conv=>whnf
 refine cO (fun _=>c5) ?_
 conv=>whnf
 refine cO (fun _=>c6) ?_
 conv=>whnf
 refine cO (fun _=>c7) ?_
 conv=>whnf
 refine cO (fun _=>c8) ?_
 conv=>whnf
 refine cO (fun _=>text37) ?_
 conv=>whnf
 refine And.intro (fun _=>⟨by omega,by omega⟩) ?_
 conv=>whnf
 rw [hde]
 refine cO (fun _=>r1) ?_
 conv=>whnf
 refine cO (fun _=>r2) ?_
 conv=>whnf
 refine cO (fun _=>r3) ?_
 conv=>whnf
 refine cO (fun _=>r4) ?_
 conv=>whnf
 refine cO (fun _=>r5) ?_
 conv=>whnf
 refine cO (fun _=>r6) ?_
 conv=>whnf
 refine cO (fun _=>r7) ?_
 conv=>whnf
 refine cO (fun _=>r8) ?_
 conv=>whnf
 kernel_rfl
structure PI where
 x:Ind
 p:Int
 e:Int
def resI:Except Er Ind→PI
 | .ok x=>⟨x,0,0⟩
 | .error e=>⟨i0,e.1,e.2⟩
structure PE where
 x:Exp
 p:Int
 e:Int
def resE:Except Er Exp→PE
 | .ok x=>⟨x,0,0⟩
 | .error e=>⟨ex0,e.1,e.2⟩
structure InX (x:Ind):Prop where
 name:x.name.length≤9223372036854775807
 issuer:x.issuer.length≤9223372036854775807
 coupon:OkE x.coupon
 lets:x.lets.length≤9223372036854775807
 let1:∀ l∈x.lets,l.name.length≤9223372036854775807∧OkE l.body
 cov:x.cov.length≤9223372036854775807
 cov1:∀ c∈x.cov,c.name.length≤9223372036854775807∧OkE c.must∧in64 c.grace
 favour:x.favour.length≤9223372036854775807
 fav1:∀ s∈x.favour,s.length≤9223372036854775807
 calls:x.calls.length≤9223372036854775807
 call1:∀ c∈x.calls,in64 c.a∧in64 c.b
 nums:in64 x.face∧in64 x.frm∧in64 x.to∧in64 x.every∧in64 x.count∧in64 x.adjust∧in64 x.record∧in64 x.rank∧in64 x.cap∧in64 x.cross∧in64 x.notice∧in64 x.sink∧in64 x.majority∧in64 x.fast
open Go.ChangeShapes Go.WideShapes Go.RowKit Go.Own
theorem Tryz.own:ownKnob Tryz.prog.godebug=none:=by kernel_rfl
theorem Tryz.laidOut:laidOutB Tryz.prog=true:=by kernel_rfl
theorem undBool:Tryz.prog.underlying 4=some .bool:=by kernel_rfl
theorem und9':Tryz.prog.underlying 9=some .string:=by kernel_rfl
def fields26 : Array Field := #[{ name := "Op", type := 3, offset := 0, embedded := false, tag := "", pkgPath := "", byteOffset := 0 }, { name := "N", type := 3, offset := 1, embedded := false, tag := "", pkgPath := "", byteOffset := 8 }, { name := "Unit", type := 3, offset := 2, embedded := false, tag := "", pkgPath := "", byteOffset := 16 }, { name := "S", type := 9, offset := 3, embedded := false, tag := "", pkgPath := "", byteOffset := 24 }, { name := "Args", type := 24, offset := 4, embedded := false, tag := "", pkgPath := "", byteOffset := 40 }]
def fields47 : Array Field := #[{ name := "Name", type := 9, offset := 0, embedded := false, tag := "", pkgPath := "", byteOffset := 0 }, { name := "Body", type := 26, offset := 1, embedded := false, tag := "", pkgPath := "", byteOffset := 16 }]
def fields50 : Array Field := #[{ name := "Name", type := 9, offset := 0, embedded := false, tag := "", pkgPath := "", byteOffset := 0 }, { name := "Must", type := 26, offset := 1, embedded := false, tag := "", pkgPath := "", byteOffset := 16 }, { name := "Grace", type := 3, offset := 6, embedded := false, tag := "", pkgPath := "", byteOffset := 80 }]
def fields54 : Array Field := #[{ name := "From", type := 3, offset := 0, embedded := false, tag := "", pkgPath := "", byteOffset := 0 }, { name := "Price", type := 3, offset := 1, embedded := false, tag := "", pkgPath := "", byteOffset := 8 }]
def fields31 : Array Field := #[{ name := "Name", type := 9, offset := 0, embedded := false, tag := "", pkgPath := "", byteOffset := 0 }, { name := "Issuer", type := 9, offset := 1, embedded := false, tag := "", pkgPath := "", byteOffset := 16 }, { name := "Face", type := 3, offset := 2, embedded := false, tag := "", pkgPath := "", byteOffset := 32 }, { name := "From", type := 3, offset := 3, embedded := false, tag := "", pkgPath := "", byteOffset := 40 }, { name := "To", type := 3, offset := 4, embedded := false, tag := "", pkgPath := "", byteOffset := 48 }, { name := "Every", type := 3, offset := 5, embedded := false, tag := "", pkgPath := "", byteOffset := 56 }, { name := "Count", type := 3, offset := 6, embedded := false, tag := "", pkgPath := "", byteOffset := 64 }, { name := "Adjust", type := 3, offset := 7, embedded := false, tag := "", pkgPath := "", byteOffset := 72 }, { name := "Record", type := 3, offset := 8, embedded := false, tag := "", pkgPath := "", byteOffset := 80 }, { name := "Rank", type := 3, offset := 9, embedded := false, tag := "", pkgPath := "", byteOffset := 88 }, { name := "Lets", type := 23, offset := 10, embedded := false, tag := "", pkgPath := "", byteOffset := 96 }, { name := "Coupon", type := 26, offset := 11, embedded := false, tag := "", pkgPath := "", byteOffset := 120 }, { name := "Cap", type := 3, offset := 16, embedded := false, tag := "", pkgPath := "", byteOffset := 184 }, { name := "Covenants", type := 27, offset := 17, embedded := false, tag := "", pkgPath := "", byteOffset := 192 }, { name := "Favour", type := 28, offset := 18, embedded := false, tag := "", pkgPath := "", byteOffset := 216 }, { name := "Cross", type := 3, offset := 19, embedded := false, tag := "", pkgPath := "", byteOffset := 240 }, { name := "Calls", type := 29, offset := 20, embedded := false, tag := "", pkgPath := "", byteOffset := 248 }, { name := "Notice", type := 3, offset := 21, embedded := false, tag := "", pkgPath := "", byteOffset := 272 }, { name := "Sink", type := 3, offset := 22, embedded := false, tag := "", pkgPath := "", byteOffset := 280 }, { name := "Majority", type := 3, offset := 23, embedded := false, tag := "", pkgPath := "", byteOffset := 288 }, { name := "Fast", type := 3, offset := 24, embedded := false, tag := "", pkgPath := "", byteOffset := 296 }]
abbrev rInt:List AV→Prop:=fun l=>∃ n,(IntKind.i64.min≤n∧n≤IntKind.i64.max)∧l=[.int .i64 n]
abbrev rStr:List AV→Prop:=fun l=>∃ s:List UInt8,s.length≤9223372036854775807∧l=[.str s]
abbrev rExp:List AV→Prop:=fun l=>∃ e:Exp,OkE e∧l=(encE e).cells
abbrev rInd:List AV→Prop:=fun l=>∃ x:Ind,InX x∧l=(encX x).cells
theorem vStr:OpV Tryz.prog 9 (fun a=>∃ s:List UInt8,s.length≤9223372036854775807∧a=.str s):=opV_str und9'
abbrev laidL:List (String×DataW Unit):=Rows.syntaxTellsRow.laid
noncomputable def laidWorld (os:Os):World:=World.laidAll Tryz.prog os laidL
theorem laid_met (os:Os) (args:Array Value):laidMet Tryz.prog laidL ((laidWorld os).forCall (fun _ _=>0) ⟨#[],args,[]⟩).memory :=
 laidMet_laidAll args (by kernel_rfl) (by kernel_rfl)
theorem var_block {P:Program} {w:World} {n:String} {g:Nat} {cs:Array Value} (hg:P.globalNamed n=some g) (h:w.var? P n=some cs):∃ e fz,w.heap[g]?=some (.cells cs e fz):=by
 unfold World.var? at h
 rw [hg] at h
 simp only [Option.bind_some] at h
 split at h
 ·rename_i c e fz hh
  cases h
  exact ⟨_,_,hh⟩
 ·cases h
theorem trod_one {P:Program} {w:World} {base:Nat} {sp:Nat→Bool} {held:Bool} {fuel:Nat} {e:TypeId} {c:List Value} {s:List UInt8} {q:List MemPlace} (he:P.underlying e=some .string)
  (h:DataW.trod (fun _=>()) P w base sp held fuel e c=some (.lit (.string s),q)):c=[.string ⟨s.toArray⟩]:=by
 cases fuel with
 | zero=>simp [DataW.trod] at h
 | succ fuel =>
  simp only [DataW.trod,he] at h
  split at h<;>simp_all
  rename_i x hx
  rw [← h.2.1]
theorem cells_of_strs {P:Program} {w:World} {base:Nat} {sp:Nat→Bool} {held:Bool} {fuel:Nat} {t e:TypeId} {n:Nat} {cs:List Value} {ss:List (List UInt8)} {p:List MemPlace}
  (ht:P.underlying t=some (.array n e)) (he:P.underlying e=some .string) (hce:P.cellsOf e=1) (hct:P.cellsOf t=n)
  (h:DataW.trod (fun _=>()) P w base sp held fuel t cs=some (.agg (ss.map fun s=>.lit (.string s)),p)):cs=ss.map fun s=>Value.string ⟨s.toArray⟩:=by
 cases fuel with
 | zero=>simp [DataW.trod] at h
 | succ fuel =>
  simp only [DataW.trod,ht,hce,hct,Nat.mul_one] at h
  split at h
  ·rename_i hl
   obtain ⟨xs,hm,hx⟩:=Option.map_eq_some_iff.1 h
   have hxs:xs.map (·.1)=ss.map fun s=>(DataW.lit (.string s):DataW Unit):=by
    have:=congrArg Prod.fst hx
    simpa using this
   have hxl:xs.length=n:=by simpa using Lib.mapM_length hm
   have hzl:ss.length=n:=by
    have:=congrArg List.length hxs
    simp at this
    omega
   apply List.ext_getElem?
   intro i
   by_cases hi:i<n
   ·obtain ⟨b,hb,hf⟩:=Lib.mapM_at hm i i (by simp [hi])
    have h2:(xs.map (·.1))[i]?=some b.1:=by simp [hb]
    rw [hxs] at h2
    simp only [List.getElem?_map,Option.map_eq_some_iff] at h2
    obtain ⟨s,hs,hsb⟩:=h2
    have hc:=trod_one he (show _=some (DataW.lit (.string s),b.2) by rw [hsb];exact hf)
    have h1:cs[i]?=some (.string ⟨s.toArray⟩):=by
     have:=congrArg (·[0]?) hc
     simpa [List.getElem?_take,List.getElem?_drop] using this
    simp [h1,hs]
   ·rw [List.getElem?_eq_none (by omega),List.getElem?_eq_none (by simp;omega)]
  ·cases h
theorem laid_tabs (W:World) (h:laidMet Tryz.prog laidL W):TabAt (All W) W:=by
 obtain ⟨ps,⟨g1,t1,c1,f1,p1,q1,hg1,ht1,hv1,hd1,⟨g2,t2,c2,f2,p2,q2,hg2,ht2,hv2,hd2,⟨g3,t3,c3,f3,p3,q3,hg3,ht3,hv3,hd3,⟨g4,t4,c4,f4,p4,q4,hg4,ht4,hv4,hd4,hnil,e4⟩,e3⟩,e2⟩,e1⟩,_,_⟩:=h
 have k3 : Tryz.prog.globalNamed "internal/strconv.uint64pow10" = some 2 := by kernel_rfl
 have k4 : Tryz.prog.globalNamed "consol/lex.signs" = some 0 := by kernel_rfl
 obtain ⟨b3,z3,h3⟩:=var_block k3 hv3
 obtain ⟨b4,z4,h4⟩:=var_block k4 hv4
 obtain rfl:=Option.some.inj (k3.symm.trans hg3)
 obtain rfl:=Option.some.inj (k4.symm.trans hg4)
 have T3:(Tryz.prog.globals[2]?).map (·.type)=some t3:=ht3
 have T4:(Tryz.prog.globals[0]?).map (·.type)=some t4:=ht4
 have lt:∀ {g:Nat} {o:Obj},W.heap[g]?=some o→g<W.heap.size:=fun h=>(Array.getElem?_eq_some_iff.1 h).1
 intro g Q hQ
 match g,hQ with
 | 0,hQ =>
  cases hQ
  refine ⟨lt h4,c4,b4,z4,h4,?_⟩
  obtain rfl:=Option.some.inj ((show (Tryz.prog.globals[0]?).map (·.type)=some 161 by kernel_rfl).symm.trans T4)
  have:=cells_of_strs (ss:=signs) (n:=11) (e:=9) (by kernel_rfl) (by kernel_rfl) (by kernel_rfl) (by kernel_rfl) (show _=some (DataW.agg (signs.map fun s=>DataW.lit (.string s)),p4) from hd4)
  show c4=_
  rw [← this]
 | 2,hQ =>
  cases hQ
  refine ⟨lt h3,c3,b3,z3,h3,?_⟩
  obtain rfl:=Option.some.inj ((show (Tryz.prog.globals[2]?).map (·.type)=some 185 by kernel_rfl).symm.trans T3)
  have:=Lib.cells_of_tab (k:=.u64) (zs:=Lib.pow10Tab) (n:=20) (e:=179) (by kernel_rfl) (by kernel_rfl) (by kernel_rfl) (by kernel_rfl) (show _=some (Lib.tabData .u64 Lib.pow10Tab,p3) from hd3)
  show c3=_
  rw [← this]
structure Pc where
 kind:Int
 text:List UInt8
 n:Int
def Tok.pc (t:Tok):Pc:=⟨t.kind,t.text,t.n⟩
def endP:Pc:=⟨3,[],0⟩
def Blk (b:List UInt8):Prop:=∀ c∈b,blkB (c.toNat:Int)=true
def Sep (r:List UInt8):Prop:=r=[]∨∃ c r',r=c::r'∧blkB (c.toNat:Int)=true
structure GoodP (x:Pc):Prop where
 ne:x.text≠[]
 nb:blkB ((x.text.getD 0 0).toNat:Int)=false
 rd:∀ r,Sep r→nextR (x.text++r)=.ok ⟨x.kind,x.text,x.n,0⟩
theorem blk_let {c:Int} (h:blkB c=true):letB c=false∧digB c=false:=by
 unfold blkB at h
 unfold letB digB
 simp only [Bool.or_eq_true,decide_eq_true_eq] at h
 simp only [Bool.and_eq_false_iff,decide_eq_false_iff_not]
 omega
theorem span_app {p:Int→Bool} {s r:List UInt8} (hs:∀ c∈s,p (c.toNat:Int)=true) (hr:r=[]∨∃ c r',r=c::r'∧p (c.toNat:Int)=false):spanN p (s++r)=s.length:=by
 unfold spanN
 rw [List.takeWhile_append_of_pos hs,List.length_append]
 rcases hr with rfl | ⟨c,r',rfl,hc⟩
 ·simp
 ·rw [List.takeWhile_cons_of_neg (by rw [hc];decide)]
  simp
theorem span_each {p:Int→Bool} {s:List UInt8} (h:spanN p s=s.length):∀ c∈s,p (c.toNat:Int)=true:=by
 intro c hc
 obtain ⟨k,hk,rfl⟩:=List.getElem_of_mem hc
 have:=spanN_lt (p:=p) (s:=s) (k:=k) (by omega)
 rw [List.getD_eq_getElem?_getD,List.getElem?_eq_getElem hk] at this
 exact this
theorem head_app {s r:List UInt8} (h:s≠[]):(s++r).getD 0 0=s.getD 0 0:=by
 cases s with
 | nil=>exact (h rfl).elim
 | cons c s=>rfl
theorem let_blk {c:Int} (h:letB c=true):blkB c=false:=by
 cases hb:blkB c with
 | false=>rfl
 | true=>rw [(blk_let hb).1] at h;cases h
theorem dig_blk {c:Int} (h:digB c=true):blkB c=false:=by
 cases hb:blkB c with
 | false=>rfl
 | true=>rw [(blk_let hb).2] at h;cases h
theorem sep_not {p:Int→Bool} (hp:∀ c,blkB c=true→p c=false) {r:List UInt8} (h:Sep r):r=[]∨∃ c r',r=c::r'∧p (c.toNat:Int)=false :=
 h.imp id fun ⟨c,r',e,hc⟩=>⟨c,r',e,hp _ hc⟩
theorem good_word {s:List UInt8} (h:wordB s=true):GoodP ⟨0,s,0⟩:=by
 have h0:=h
 unfold wordB at h
 simp only [Bool.and_eq_true,decide_eq_true_eq] at h
 obtain ⟨⟨⟨hne,hl⟩,_⟩,hsp⟩:=h
 refine ⟨hne,let_blk hl,fun r hr=>?_⟩
 have hw:wordT (s++r)=s:=by
  unfold wordT
  rw [span_app (span_each hsp) (sep_not (p:=fun c=>letB c||digB c) (fun c hc=>by show (letB c||digB c)=false;rw [(blk_let hc).1,(blk_let hc).2];rfl) hr),List.take_left]
 unfold nextR
 dsimp only
 rw [head_app hne,if_pos hl,hw,if_pos h0]
theorem good_name {s:List UInt8} (h:nameB s=true):GoodP ⟨0,s,0⟩:=by
 unfold nameB at h
 simp only [Bool.and_eq_true] at h
 exact good_word h.1
theorem dig_of (d:Nat) (h:d<10):(UInt8.ofNat (48+d)).toNat=48+d:=by
 rw [UInt8.toNat_ofNat']
 omega
theorem dec_rec (u:Nat):Lib.decDigits u=if u<10 then [UInt8.ofNat (48+u)] else Lib.decDigits (u / 10)++[UInt8.ofNat (48+u % 10)]:=by
 rw [Lib.decDigits]
 split<;>rfl
theorem dec_ne (u:Nat):Lib.decDigits u≠[]:=by
 rw [dec_rec]
 split<;>simp
theorem dec_dig (u:Nat):∀ b∈Lib.decDigits u,digB (b.toNat:Int)=true:=by
 induction u using Nat.strongRecOn with
 | _ u ih =>
  intro b hb
  rw [dec_rec] at hb
  unfold digB
  simp only [Bool.and_eq_true,decide_eq_true_eq]
  split at hb
  ·rename_i h
   rw [List.mem_singleton.1 hb,dig_of u h]
   omega
  ·rename_i h
   rcases List.mem_append.1 hb with hb | hb
   ·have:=ih (u / 10) (by omega) b hb
    unfold digB at this
    simpa using this
   ·rw [List.mem_singleton.1 hb,dig_of _ (Nat.mod_lt _ (by decide))]
    omega
theorem dec_val (u:Nat):numV (Lib.decDigits u)=u:=by
 induction u using Nat.strongRecOn with
 | _ u ih =>
  rw [dec_rec]
  split
  ·rename_i h
   show (10*0+(((UInt8.ofNat (48+u)).toNat:Int)-48))=_
   rw [dig_of u h]
   omega
  ·rename_i h
   rw [numV_snoc,ih (u / 10) (by omega),dig_of _ (Nat.mod_lt _ (by decide))]
   omega
theorem dec_head (u:Nat) (h:u≠0):((Lib.decDigits u).getD 0 0).toNat≠48:=by
 induction u using Nat.strongRecOn with
 | _ u ih =>
  rw [dec_rec]
  split
  ·rename_i hu
   show (UInt8.ofNat (48+u)).toNat≠48
   rw [dig_of u hu]
   omega
  ·rename_i hu
   rw [head_app (dec_ne _)]
   exact ih (u / 10) om0 om0
theorem nDig_le:∀ (k u:Nat),1≤k→u<10 ^ k→Lib.nDigits u≤k
 | 0,_,h,_=>absurd h (by decide)
 | k+1,u,_,h=>by
  by_cases hu:u<10
  ·rw [Lib.nDigits_small hu];omega
  ·have hk:1≤k:=by
    rcases Nat.eq_zero_or_pos k with rfl | h'
    ·rw [Nat.zero_add,Nat.pow_one] at h;omega
    ·exact h'
   rw [Lib.nDigits_big hu]
   rw [Nat.pow_succ] at h
   have:=nDig_le k (u / 10) hk (by omega)
   omega
theorem numR_itoa {n:Int} (h0:0≤n) (h1:n≤1000000000000000):numR (Lib.itoa n)=some n:=by
 obtain ⟨u,rfl⟩:∃ u:Nat,n=u:=⟨n.toNat,by omega⟩
 rw [Lib.itoa_nonneg]
 have hl:(Lib.decDigits u).length≤16:=by
  rw [Lib.decDigits_length]
  exact nDig_le 16 u dd0 om0
 have hsp:spanN digB (Lib.decDigits u)=(Lib.decDigits u).length:=by
  have:=span_app (p:=digB) (s:=Lib.decDigits u) (r:=[]) (dec_dig u) (.inl rfl)
  rwa [List.append_nil] at this
 have hg:numG (Lib.decDigits u)=true:=by
  unfold numG
  simp only [Bool.and_eq_true,decide_eq_true_eq,Bool.not_eq_true',Bool.and_eq_false_iff,decide_eq_false_iff_not]
  refine ⟨⟨⟨dec_ne u,hsp⟩,?_⟩,hl⟩
  by_cases hu:u=0
  ·subst hu
   refine .inr (not_not_intro ?_)
   rw [dec_rec,if_pos (by decide)]
   rfl
  ·exact .inl (dec_head u hu)
 unfold numR
 rw [dec_val,if_pos ⟨hg,h1⟩]
theorem good_num {n:Int} (h0:0≤n) (h1:n≤1000000000000000):GoodP ⟨1,Lib.itoa n,n⟩:=by
 obtain ⟨u,rfl⟩:∃ u:Nat,n=u:=⟨n.toNat,by omega⟩
 have hr:=numR_itoa h0 h1
 rw [Lib.itoa_nonneg] at hr ⊢
 have hd:digB (((Lib.decDigits u).getD 0 0).toNat:Int)=true:=by
  cases hs:Lib.decDigits u with
  | nil=>exact (dec_ne u hs).elim
  | cons c s=>exact dec_dig u c (by rw [hs];simp)
 have hl:letB (((Lib.decDigits u).getD 0 0).toNat:Int)=false:=by
  unfold digB at hd
  unfold letB
  simp only [Bool.and_eq_true,decide_eq_true_eq] at hd
  simp only [Bool.and_eq_false_iff,decide_eq_false_iff_not]
  omega
 refine ⟨dec_ne u,dig_blk hd,fun r hsep=>?_⟩
 have hw:digT (Lib.decDigits u++r)=Lib.decDigits u:=by
  unfold digT
  rw [span_app (dec_dig u) (sep_not (p:=digB) (fun c hc=>(blk_let hc).2) hsep),List.take_left]
 unfold nextR
 dsimp only
 rw [head_app (dec_ne u),hl,if_neg (by decide),if_pos hd,hw,hr]
theorem good_sign {s:List UInt8} (h:s∈signs):GoodP ⟨2,s,0⟩:=by
 have hb:∀ c:UInt8,blkB (c.toNat:Int)=true→c=32∨c=9∨c=10:=by
  intro c hc
  unfold blkB at hc
  simp only [Bool.or_eq_true,decide_eq_true_eq] at hc
  rcases hc with (hc | hc) | hc
  ·exact .inl (UInt8.toNat_inj.1 (by have:c.toNat=32:=by omega
                                     rw [this];rfl))
  ·exact .inr (.inl (UInt8.toNat_inj.1 (by have:c.toNat=9:=by omega
                                           rw [this];rfl)))
  ·exact .inr (.inr (UInt8.toNat_inj.1 (by have:c.toNat=10:=by omega
                                           rw [this];rfl)))
 have hm:s=[61,61]∨s=[59]∨s=[44]∨s=[61]∨s=[60]∨s=[43]∨s=[45]∨s=[42]∨s=[47]∨s=[40]∨s=[41]:=by
  simpa [signs] using h
 refine ⟨?_,?_,fun r hr=>?_⟩
 ·rcases hm with rfl | rfl | rfl | rfl | rfl | rfl | rfl | rfl | rfl | rfl | rfl<;>simp
 ·rcases hm with rfl | rfl | rfl | rfl | rfl | rfl | rfl | rfl | rfl | rfl | rfl<;>decide
 ·rcases hr with rfl | ⟨c,r',rfl,hc⟩
  ·rcases hm with rfl | rfl | rfl | rfl | rfl | rfl | rfl | rfl | rfl | rfl | rfl<;>rfl
  ·rcases hb c hc with rfl | rfl | rfl<;>rcases hm with rfl | rfl | rfl | rfl | rfl | rfl | rfl | rfl | rfl | rfl | rfl<;>simp [nextR,letB,digB,hasP,signs,List.find?]
def lay:List (Pc×List UInt8)→List UInt8
 | []=>[]
 | x::l=>x.1.text++(x.2++lay l)
def LayOk:List (Pc×List UInt8)→Prop
 | []=>True
 | x::l=>GoodP x.1∧Blk x.2∧(l=[]∨x.2≠[])∧LayOk l
theorem blk_sep {b r:List UInt8} (h:Blk b) (hb:b≠[]):Sep (b++r):=by
 cases b with
 | nil=>exact (hb rfl).elim
 | cons c b=>exact .inr ⟨c,b++r,rfl,h c (by simp)⟩
theorem skip_pre {s pre r:List UInt8} {p:Nat} (hd:s.drop p=pre++r) (hb:Blk pre) (hr:r=[]∨blkB ((r.getD 0 0).toNat:Int)=false):skipN s p=p+pre.length:=by
 unfold skipN
 rw [hd,span_app hb]
 rcases hr with rfl | hr
 ·exact .inl rfl
 ·cases r with
  | nil=>exact .inl rfl
  | cons c r=>exact .inr ⟨c,r,rfl,hr⟩
theorem lex_lay {s:List UInt8}:∀ (l:List (Pc×List UInt8)) (f p:Nat) (acc:List Tok) (pre:List UInt8),Blk pre→LayOk l→s.drop p=pre++lay l→p≤s.length→s.length<p+f →
  ∃ L,lexL s f p acc=.ok (acc++L)∧L.map Tok.pc=l.map Prod.fst++[endP]
 | l,0,p,acc,pre,_,_,_,h1,h2=>by omega
 | [],f+1,p,acc,pre,hb,_,hd,h1,_=>by
  have hs:=skip_pre (r:=[]) hd hb (.inl rfl)
  have hl:s.length-p=pre.length:=by
   have:=congrArg List.length hd
   rw [List.length_drop] at this
   simpa [lay] using this
  refine ⟨[⟨3,[],0,(s.length:Nat)⟩],?_,rfl⟩
  rw [lexL,if_pos (by omega)]
 | x::l,f+1,p,acc,pre,hb,hok,hd,h1,h2=>by
  obtain ⟨hg,hbx,hx,hokl⟩:=hok
  have hne:=hg.ne
  have hnb:blkB (((lay (x::l)).getD 0 0).toNat:Int)=false:=by
   show blkB (((x.1.text++(x.2++lay l)).getD 0 0).toNat:Int)=false
   rw [head_app hne]
   exact hg.nb
  have hs:=skip_pre hd hb (.inr hnb)
  have hlen:s.length-p=pre.length+(x.1.text.length+(x.2++lay l).length):=by
   have:=congrArg List.length hd
   rw [List.length_drop,List.length_append] at this
   rw [this]
   show _+(x.1.text++(x.2++lay l)).length=_
   rw [List.length_append]
  have htl:0<x.1.text.length:=List.length_pos_iff.2 hne
  have hd1:s.drop (skipN s p)=x.1.text++(x.2++lay l):=by
   rw [hs,← List.drop_drop,hd,List.drop_left]
   rfl
  have hsep:Sep (x.2++lay l):=by
   rcases hx with rfl | hx
   ·by_cases h:x.2=[]
    ·rw [h];exact .inl rfl
    ·exact blk_sep hbx h
   ·exact blk_sep hbx hx
  have hn:=hg.rd _ hsep
  have hd2:s.drop (skipN s p+x.1.text.length)=x.2++lay l:=by
   rw [← List.drop_drop,hd1,List.drop_left]
  obtain ⟨L,hL,hm⟩:=lex_lay l f (skipN s p+x.1.text.length) (acc++[⟨x.1.kind,x.1.text,x.1.n,(skipN s p:Nat)⟩]) x.2 hbx hokl hd2 (by omega) (by omega)
  refine ⟨⟨x.1.kind,x.1.text,x.1.n,(skipN s p:Nat)⟩::L,?_,?_⟩
  ·rw [lexL,if_neg (by omega),hd1,hn]
   dsimp only
   rw [hL,List.append_assoc]
   rfl
  ·rw [List.map_cons,hm]
   rfl
theorem lexR_lay {l:List (Pc×List UInt8)} (hok:LayOk l) (hl:(lay l).length≤4000):∃ T,lexR (lay l)=.ok T∧T.map Tok.pc=l.map Prod.fst++[endP]:=by
 obtain ⟨L,h1,h2⟩:=lex_lay (s:=lay l) l ((lay l).length+1) 0 [] [] (fun c hc=>by cases hc) hok rfl (Nat.zero_le _) (by omega)
 refine ⟨L,?_,h2⟩
 unfold lexR
 rw [if_neg (by omega),h1]
 rfl
def wP (s:List UInt8):Pc:=⟨0,s,0⟩
def nP (n:Int):Pc:=⟨1,Lib.itoa n,n⟩
def sP (s:List UInt8):Pc:=⟨2,s,0⟩
def oP (o:Opr):Pc:=⟨if o.form≤2 then 0 else 2,o.text,0⟩
def numW (n unit:Int):List Pc :=
 if unit=4 then [wP (if n=1 then [116,114,117,101] else [102,97,108,115,101])]
 else if unit=1 then [nP n,wP [99,111,105,110,115]]
 else if unit=3 then [nP n,wP [100,97,121,115]]
 else if unit=2 then [nP n,wP [109,105,108,108,101]]
 else [nP n]
def parW (f least:Int) (l:List Pc):List Pc:=if f<least then [sP [40]]++l++[sP [41]] else l
def bodyW:Nat→Exp→List Pc
 | 0,_=>[]
 | d+1,e =>
  if e.op=0 then numW e.n e.unit
  else if e.op=1 then [wP e.s]
  else if e.op=2 then [wP [102,97,99,116],wP e.s]
  else if e.op=3 then [wP [114,97,116,101],wP e.s]
  else if e.op=15 then [wP [105,102]]++parW (formO (argOf e 0).op) 0 (bodyW d (argOf e 0))++[wP [116,104,101,110]]++parW (formO (argOf e 1).op) 0 (bodyW d (argOf e 1))++[wP [101,108,115,101]]++parW (formO (argOf e 2).op) 0 (bodyW d (argOf e 2))
  else if e.op=12 then [wP [110,111,116]]++parW (formO (argOf e 0).op) 3 (bodyW d (argOf e 0))
  else if e.op=8 then [wP [109,105,110],sP [40]]++parW (formO (argOf e 0).op) 0 (bodyW d (argOf e 0))++[sP [44]]++parW (formO (argOf e 1).op) 0 (bodyW d (argOf e 1))++[sP [41]]
  else if e.op=9 then [wP [109,97,120],sP [40]]++parW (formO (argOf e 0).op) 0 (bodyW d (argOf e 0))++[sP [44]]++parW (formO (argOf e 1).op) 0 (bodyW d (argOf e 1))++[sP [41]]
  else if e.op=16 then [wP [101,118,101,114],nP e.n,sP [40]]++parW (formO (argOf e 0).op) 0 (bodyW d (argOf e 0))++[sP [41]]
  else if e.op=17 then [wP [108,111,110,103],nP e.n,sP [40]]++parW (formO (argOf e 0).op) 0 (bodyW d (argOf e 0))++[sP [41]]
  else if e.op=18 then [wP [115,111,111,110],nP e.n,sP [40]]++parW (formO (argOf e 0).op) 0 (bodyW d (argOf e 0))++[sP [41]]
  else
   parW (formO (argOf e 0).op) (if (opE e.op).form=4 then 5 else (opE e.op).form) (bodyW d (argOf e 0))++[oP (opE e.op)]++parW (formO (argOf e 1).op) ((opE e.op).form+1) (bodyW d (argOf e 1))
def showW (d:Nat) (e:Exp) (least:Int):List Pc:=parW (formO e.op) least (bodyW d e)
def joinP:List Pc→List UInt8
 | []=>[]
 | x::l=>x.text++l.flatMap fun y=>32::y.text
theorem joinP_app {a b:List Pc} (ha:a≠[]) (hb:b≠[]):joinP (a++b)=joinP a++[32]++joinP b:=by
 cases a with
 | nil=>exact (ha rfl).elim
 | cons x a =>
  cases b with
  | nil=>exact (hb rfl).elim
  | cons y b =>
   show x.text++(a++y::b).flatMap _=x.text++a.flatMap _++[32]++(y.text++b.flatMap _)
   simp
theorem joinP_one (x:Pc):joinP [x]=x.text:=by simp [joinP]
theorem joinP_cons (x:Pc) {b:List Pc} (hb:b≠[]):joinP (x::b)=x.text++[32]++joinP b:=by
 have:=joinP_app (a:=[x]) (by simp) hb
 rwa [joinP_one] at this
theorem joinP_snoc (x:Pc) {a:List Pc} (ha:a≠[]):joinP (a++[x])=joinP a++[32]++x.text:=by rw [joinP_app ha (by simp),joinP_one]
theorem numW_ne (n u:Int):numW n u≠[]:=by unfold numW;repeat' split
                                          all_goals simp
theorem numW_text (n u:Int):joinP (numW n u)=numT n u:=by
 unfold numW numT
 repeat' split
 all_goals simp [joinP,wP,nP]
theorem parW_ne {f least:Int} {l:List Pc} (h:l≠[]):parW f least l≠[]:=by
 unfold parW
 split
 ·simp
 ·exact h
theorem ite_ne {c:Prop} [Decidable c] {a b:List Pc} (ha:a≠[]) (hb:b≠[]):(if c then a else b)≠[]:=by
 by_cases h:c
 ·rw [if_pos h];exact ha
 ·rw [if_neg h];exact hb
theorem bodyW_ne:∀ (d:Nat) (e:Exp),rightB d e=true→bodyW d e≠[]
 | 0,_,h=>by cases h
 | d+1,e,_=>by
  unfold bodyW
  exact ite_ne (numW_ne _ _) (ite_ne (by simp) (ite_ne (by simp) (ite_ne (by simp) (ite_ne (by simp) (ite_ne (by simp) (ite_ne (by simp) (ite_ne (by simp) (ite_ne (by simp) (ite_ne (by simp) (ite_ne (by simp) (by simp)))))))))))
theorem parW_text {f least:Int} {l:List Pc} (h:l≠[]):joinP (parW f least l)=if f<least then [40,32]++joinP l++[32,41] else joinP l:=by
 unfold parW
 split
 ·rw [joinP_snoc _ (by simp)]
  show joinP (sP [40]::l)++[32]++[41]=_
  rw [joinP_cons _ h]
  simp [sP]
 ·rfl
theorem right_args {d:Nat} {e:Exp} (h:rightB (d+1) e=true) {i:Nat} (hi:(i:Int)<opsN e.op):rightB d (argOf e i)=true:=by
 obtain ⟨op,n,u,s,args⟩:=e
 rw [right_mk] at h
 by_cases hl:(args.length:Int)≠opsN op
 ·rw [if_pos hl] at h;cases h
 rw [if_neg hl] at h
 have hl:=Decidable.of_not_not hl
 have hi:(i:Int)<opsN op:=hi
 have hil:i<args.length:=by omega
 by_cases h0:op=0
 ·subst h0
  have:opsN 0=0:=rfl
  omega
 rw [if_neg h0] at h
 by_cases h1:op=1∨op=2∨op=3
 ·have:opsN op=0:=by rcases h1 with rfl | rfl | rfl<;>rfl
  omega
 rw [if_neg h1] at h
 by_cases h2:op=16∨op=17∨op=18
 ·rw [if_pos h2] at h
  have:opsN op=1:=by rcases h2 with rfl | rfl | rfl<;>rfl
  have:i=0:=by omega
  subst this
  simp only [Bool.and_eq_true] at h
  exact h.2
 rw [if_neg h2] at h
 simp only [Bool.and_eq_true,Bool.not_eq_true',List.any_eq_false] at h
 have:=h.2 (args.getD i ex0) (by rw [List.getD_eq_getElem?_getD,List.getElem?_eq_getElem hil];exact List.getElem_mem _)
 show rightB d (args.getD i ex0)=true
 cases hb:rightB d (args.getD i ex0) with
 | true=>rfl
 | false=>rw [hb] at this;exact (this rfl).elim
theorem opsN_two {op:Int} (h:opsN op≠-1) (h0:op≠0) (h1:op≠1) (h2:op≠2) (h3:op≠3) (h4:op≠12) (h5:op≠15) (h6:op≠16) (h7:op≠17) (h8:op≠18):opsN op=2:=by
 unfold opsN at h ⊢
 rw [if_neg (by omega),if_neg (by omega),if_neg (by omega)] at h ⊢
 split
 ·rename_i hx;rw [if_pos hx] at h;exact (h rfl).elim
 ·rfl
theorem right_opsN {d:Nat} {e:Exp} (h:rightB (d+1) e=true):opsN e.op≠-1:=by
 obtain ⟨op,n,u,s,args⟩:=e
 rw [right_mk] at h
 intro ho
 have ho:opsN op=-1:=ho
 rw [if_pos (by rw [ho];omega)] at h
 cases h
theorem body_text:∀ (d:Nat) (e:Exp),rightB d e=true→joinP (bodyW d e)=bodyT d e
 | 0,_,h=>by cases h
 | d+1,e,h=>by
  have par:∀ (i:Nat) (least:Int),(i:Int)<opsN e.op→joinP (parW (formO (argOf e i).op) least (bodyW d (argOf e i)))=showT d (argOf e i) least∧parW (formO (argOf e i).op) least (bodyW d (argOf e i))≠[]:=by
   intro i least hi
   have hr:=right_args h hi
   have hne:=bodyW_ne d _ hr
   refine ⟨?_,parW_ne hne⟩
   rw [parW_text hne,body_text d _ hr,showT]
  rw [body_succ]
  unfold bodyW
  by_cases h0:e.op=0
  ·rw [if_pos h0,if_pos h0];exact numW_text _ _
  rw [if_neg h0,if_neg h0]
  by_cases h1:e.op=1
  ·rw [if_pos h1,if_pos h1,joinP_one];rfl
  rw [if_neg h1,if_neg h1]
  by_cases h2:e.op=2
  ·rw [if_pos h2,if_pos h2];simp [joinP,wP]
  rw [if_neg h2,if_neg h2]
  by_cases h3:e.op=3
  ·rw [if_pos h3,if_pos h3];simp [joinP,wP]
  rw [if_neg h3,if_neg h3]
  by_cases h15:e.op=15
  ·rw [if_pos h15,if_pos h15]
   have hn:opsN e.op=3:=by rw [h15];rfl
   obtain ⟨t0,n0⟩:=par 0 0 (by omega)
   obtain ⟨t1,n1⟩:=par 1 0 (by omega)
   obtain ⟨t2,n2⟩:=par 2 0 (by omega)
   rw [joinP_app (by simp) n2,joinP_snoc _ (by simp),joinP_app (by simp) n1,joinP_snoc _ (by simp),joinP_app (by simp) n0,t0,t1,t2,joinP_one]
   simp [wP]
  rw [if_neg h15,if_neg h15]
  by_cases h12:e.op=12
  ·rw [if_pos h12,if_pos h12]
   have hn:opsN e.op=1:=by rw [h12];rfl
   obtain ⟨t0,n0⟩:=par 0 3 (by omega)
   rw [joinP_app (by simp) n0,t0,joinP_one]
   simp [wP]
  rw [if_neg h12,if_neg h12]
  by_cases h8:e.op=8
  ·rw [if_pos h8,if_pos h8]
   have hn:opsN e.op=2:=by rw [h8];rfl
   obtain ⟨t0,n0⟩:=par 0 0 (by omega)
   obtain ⟨t1,n1⟩:=par 1 0 (by omega)
   rw [joinP_snoc _ (by simp),joinP_app (by simp) n1,joinP_snoc _ (by simp),joinP_app (by simp) n0,t0,t1]
   simp [joinP,wP,sP]
  rw [if_neg h8,if_neg h8]
  by_cases h9:e.op=9
  ·rw [if_pos h9,if_pos h9]
   have hn:opsN e.op=2:=by rw [h9];rfl
   obtain ⟨t0,n0⟩:=par 0 0 (by omega)
   obtain ⟨t1,n1⟩:=par 1 0 (by omega)
   rw [joinP_snoc _ (by simp),joinP_app (by simp) n1,joinP_snoc _ (by simp),joinP_app (by simp) n0,t0,t1]
   simp [joinP,wP,sP]
  rw [if_neg h9,if_neg h9]
  by_cases h16:e.op=16
  ·rw [if_pos h16,if_pos h16]
   have hn:opsN e.op=1:=by rw [h16];rfl
   obtain ⟨t0,n0⟩:=par 0 0 (by omega)
   rw [joinP_snoc _ (by simp),joinP_app (by simp) n0,t0]
   simp [joinP,wP,sP,nP]
  rw [if_neg h16,if_neg h16]
  by_cases h17:e.op=17
  ·rw [if_pos h17,if_pos h17]
   have hn:opsN e.op=1:=by rw [h17];rfl
   obtain ⟨t0,n0⟩:=par 0 0 (by omega)
   rw [joinP_snoc _ (by simp),joinP_app (by simp) n0,t0]
   simp [joinP,wP,sP,nP]
  rw [if_neg h17,if_neg h17]
  by_cases h18:e.op=18
  ·rw [if_pos h18,if_pos h18]
   have hn:opsN e.op=1:=by rw [h18];rfl
   obtain ⟨t0,n0⟩:=par 0 0 (by omega)
   rw [joinP_snoc _ (by simp),joinP_app (by simp) n0,t0]
   simp [joinP,wP,sP,nP]
  rw [if_neg h18,if_neg h18]
  have hn:=opsN_two (right_opsN h) h0 h1 h2 h3 h12 h15 h16 h17 h18
  obtain ⟨t0,n0⟩:=par 0 (if (opE e.op).form=4 then 5 else (opE e.op).form) (by omega)
  obtain ⟨t1,n1⟩:=par 1 ((opE e.op).form+1) (by omega)
  rw [joinP_app (by simp) n1,joinP_snoc _ n0,t0,t1]
  rfl
theorem show_text {d:Nat} {e:Exp} (h:rightB d e=true) (least:Int):joinP (showW d e least)=showT d e least∧showW d e least≠[]:=by
 have hne:=bodyW_ne d e h
 refine ⟨?_,parW_ne hne⟩
 unfold showW
 rw [parW_text hne,body_text d e h,showT]
def GoodL (l:List Pc):Prop:=∀ x∈l,GoodP x
theorem GoodL.app {a b:List Pc} (ha:GoodL a) (hb:GoodL b):GoodL (a++b):=fun x hx=>(List.mem_append.1 hx).elim (ha x) (hb x)
theorem GoodL.cons {x:Pc} {l:List Pc} (hx:GoodP x) (h:GoodL l):GoodL (x::l):=fun y hy=>(List.mem_cons.1 hy).elim (fun e=>by rw [e];exact hx) (h y)
theorem GoodL.nil:GoodL []:=fun x hx=>by cases hx
theorem good_kw {s:List UInt8} (h:s∈resW):GoodP (wP s):=good_word (by
 have:∀ s∈resW,wordB s=true:=by decide
 exact this s h)
theorem good_opr {op:Int} (h:opsN op=2) (h8:op≠8) (h9:op≠9):GoodP (oP (opE op)):=by
 have hr:op=4∨op=5∨op=6∨op=7∨op=10∨op=11∨op=13∨op=14:=by
  unfold opsN at h
  split at h
  ·omega
  split at h
  ·omega
  split at h
  ·omega
  split at h
  ·omega
  ·omega
 rcases hr with rfl | rfl | rfl | rfl | rfl | rfl | rfl | rfl
 ·exact good_sign (s:=[43]) dd0
 ·exact good_sign (s:=[45]) dd0
 ·exact good_sign (s:=[42]) dd0
 ·exact good_sign (s:=[47]) dd0
 ·exact good_sign (s:=[60]) dd0
 ·exact good_sign (s:=[61,61]) dd0
 ·exact good_word (s:=[97,110,100]) dd0
 ·exact good_word (s:=[111,114]) dd0
theorem parW_good {f least:Int} {l:List Pc} (h:GoodL l):GoodL (parW f least l):=by
 unfold parW
 split
 ·exact ((GoodL.cons (good_sign (s:=[40]) dd0) .nil).app h).app (.cons (good_sign (s:=[41]) dd0) .nil)
 ·exact h
set_option maxHeartbeats 1000000
def Reps (l:List Pc) (r r':List Tok):Prop:=∃ T1,r=T1++r'∧T1.map Tok.pc=l
theorem reps_nil {r r':List Tok} (h:Reps [] r r'):r=r':=by
 obtain ⟨T1,h1,h2⟩:=h
 rw [List.map_eq_nil_iff.1 h2] at h1
 exact h1
theorem reps_cons {x:Pc} {l:List Pc} {r r':List Tok} (h:Reps (x::l) r r'):∃ t r1,r=t::r1∧t.kind=x.kind∧t.text=x.text∧t.n=x.n∧Reps l r1 r':=by
 obtain ⟨T1,h1,h2⟩:=h
 cases T1 with
 | nil=>cases h2
 | cons t T1 =>
  rw [List.map_cons,List.cons.injEq] at h2
  obtain ⟨h3,h4⟩:=h2
  exact ⟨t,T1++r',h1,by rw [← h3];rfl,by rw [← h3];rfl,by rw [← h3];rfl,T1,rfl,h4⟩
theorem reps_app {a b:List Pc} {r r':List Tok} (h:Reps (a++b) r r'):∃ m,Reps a r m∧Reps b m r':=by
 obtain ⟨T1,h1,h2⟩:=h
 obtain ⟨A,B,rfl,hA,hB⟩:=List.map_eq_append_iff.1 h2
 exact ⟨B++r',⟨A,by rw [h1,List.append_assoc],hA⟩,⟨B,rfl,hB⟩⟩
theorem Reps.len {l:List Pc} {r r':List Tok} (h:Reps l r r'):r.length=l.length+r'.length:=by
 obtain ⟨T1,rfl,rfl⟩:=h
 simp
theorem isT_cons (w:List UInt8) (t:Tok) (r:List Tok):isT w (t::r)=(decide (t.kind≠3)&&decide (t.text=w)):=rfl
theorem want_rep {w:List UInt8} {x:Pc} {l:List Pc} {r r':List Tok} (h:Reps (x::l) r r') (hk:x.kind≠3) (hw:x.text=w):∃ r1,wantP w r=.ok r1∧Reps l r1 r':=by
 obtain ⟨t,r1,rfl,k1,k2,_,h1⟩:=reps_cons h
 refine ⟨r1,?_,h1⟩
 unfold wantP
 rw [isT_cons,k1,k2,hw,decide_eq_true hk,decide_eq_true rfl]
 rfl
theorem isT_rep {w:List UInt8} {x:Pc} {l:List Pc} {r r':List Tok} (h:Reps (x::l) r r'):isT w r=(decide (x.kind≠3)&&decide (x.text=w)):=by
 obtain ⟨t,r1,rfl,k1,k2,_,h1⟩:=reps_cons h
 rw [isT_cons,k1,k2]
theorem tail_rep {x:Pc} {l:List Pc} {r r':List Tok} (h:Reps (x::l) r r'):Reps l r.tail r':=by
 obtain ⟨t,r1,rfl,_,_,_,h1⟩:=reps_cons h
 exact h1
theorem num_rep {a b n:Int} {l:List Pc} {r r':List Tok} (h:Reps (nP n::l) r r') (hn:a≤n∧n≤b):∃ r1,numP a b r=.ok (n,r1)∧Reps l r1 r':=by
 obtain ⟨t,r1,rfl,k1,k2,k3,h1⟩:=reps_cons h
 have k1:t.kind=1:=k1
 have k3:t.n=n:=k3
 refine ⟨r1,?_,h1⟩
 unfold numP
 show (if t.kind≠1 then _ else _)=_
 rw [if_neg (by rw [k1];simp)]
 show (if a≤t.n∧t.n≤b then (Except.ok (t.n,r1):Ps Int) else _)=_
 rw [k3,if_pos hn]
theorem name_rep {s:List UInt8} {l:List Pc} {r r':List Tok} (h:Reps (wP s::l) r r') (hn:nameB s=true):∃ r1,nameP r=.ok (s,r1)∧Reps l r1 r':=by
 obtain ⟨t,r1,rfl,k1,k2,k3,h1⟩:=reps_cons h
 have k1:t.kind=0:=k1
 have k2:t.text=s:=k2
 refine ⟨r1,?_,h1⟩
 unfold nameP namedB
 show (if (decide (t.kind=0)&&nameB t.text)=true then (Except.ok (t.text,r1):Ps (List UInt8)) else _)=_
 rw [k1,k2,hn]
 rfl
def Stop (form:Int) (r:List Tok):Prop:=opI r<0∨(opAt (opI r)).form<form
def NoUnit (r:List Tok):Prop:=isT [99,111,105,110,115] r=false∧isT [100,97,121,115] r=false∧isT [109,105,108,108,101] r=false
theorem Stop.le {a b:Int} {r:List Tok} (h:Stop a r) (hab:a≤b):Stop b r:=h.imp id fun h=>by omega
theorem loop_stop {ex:Rec} {form:Int} {r:List Tok} (h:Stop form r) (f:Nat) (e:Exp) (own:Int):loopP ex form f e own r=.ok (e,r):=by
 cases f with
 | zero=>rfl
 | succ f =>
  by_cases h0:opI r<0
  ·exact loopP_none h0
  ·exact loopP_stop h0 (.inl (h.resolve_left h0))
theorem opI_text {r:List Tok} (h:∀ o∈oprL,isT o.text r=false):opI r<0:=by
 have:opI r=-1:=idxP_none (d:=o0) fun j hj=>h _ (by
  rw [List.getD_eq_getElem?_getD,List.getElem?_eq_getElem hj]
  exact List.getElem_mem _)
 omega
theorem stop_rep {x:Pc} {l:List Pc} {r r':List Tok} (h:Reps (x::l) r r') (hx:∀ o∈oprL,x.text≠o.text) (form:Int):Stop form r :=
 .inl (opI_text fun o ho=>by rw [isT_rep h,decide_eq_false (hx o ho),Bool.and_false])
theorem nounit_rep {x:Pc} {l:List Pc} {r r':List Tok} (h:Reps (x::l) r r') (hx:x.text≠[99,111,105,110,115]∧x.text≠[100,97,121,115]∧x.text≠[109,105,108,108,101]):NoUnit r :=
 ⟨by rw [isT_rep h,decide_eq_false hx.1,Bool.and_false],by rw [isT_rep h,decide_eq_false hx.2.1,Bool.and_false],by rw [isT_rep h,decide_eq_false hx.2.2,Bool.and_false]⟩
theorem exp_prim {ex:Rec} {form:Int} {r r':List Tok} {x:Exp} (h1:isT [105,102] r=false) (h2:isT [110,111,116] r=false) (h:primP ex r=.ok (x,r')):expS ex form r=loopP ex form r'.length x 7 r':=by
 unfold expS prefP
 rw [if_neg (fun y=>by rw [h1] at y;exact Bool.noConfusion y.2),if_neg (fun y=>by rw [h2] at y;exact Bool.noConfusion y.2),h]
theorem prim_text {ex:Rec} {x:Pc} {l:List Pc} {r r':List Tok} (h:Reps (x::l) r r') (hk:x.kind≠3) (hk1:x.kind≠1):primP ex r =
  if x.text=[116,114,117,101] then .ok (.mk 0 1 4 [] [],r.tail)
  else if x.text=[102,97,108,115,101] then .ok (.mk 0 0 4 [] [],r.tail)
  else if x.text=[102,97,99,116] then namedP 2 r.tail
  else if x.text=[114,97,116,101] then namedP 3 r.tail
  else if x.text=[101,118,101,114] then withinP ex 16 r.tail
  else if x.text=[108,111,110,103] then withinP ex 17 r.tail
  else if x.text=[115,111,111,110] then withinP ex 18 r.tail
  else if x.text=[109,105,110]∨x.text=[109,97,120] then pairP ex (if x.text=[109,97,120] then 9 else 8) r.tail
  else if x.text=[40] then parenP ex r.tail
  else namedP 1 r:=by
 have hi:∀ w,isT w r=decide (x.text=w):=fun w=>by rw [isT_rep h,decide_eq_true hk,Bool.true_and]
 obtain ⟨t,r1,rfl,k1,_,_,_⟩:=reps_cons h
 unfold primP
 have hx:¬ (hdT (t::r1)).kind=1:=by show ¬ t.kind=1;rw [k1];exact hk1
 rw [if_neg hx]
 simp only [hi,decide_eq_true_eq]
theorem name_nres {s:List UInt8} (h:nameB s=true):∀ w∈resW,s≠w:=by
 intro w hw he
 unfold nameB at h
 simp only [Bool.and_eq_true,Bool.not_eq_true',decide_eq_false_iff_not] at h
 rw [he] at h
 exact h.2 hw
theorem word_first {s:List UInt8} (h:nameB s=true) (c:UInt8) (hc:letB (c.toNat:Int)=false):s≠[c]:=by
 intro he
 subst he
 unfold nameB wordB at h
 simp only [Bool.and_eq_true] at h
 have:letB (c.toNat:Int)=true:=h.1.1.1.2
 rw [hc] at this
 cases this
theorem dec_word {n:Int} (h0:0≤n) {w:List UInt8} (hw:letB ((w.getD 0 0).toNat:Int)=true):Lib.itoa n≠w:=by
 intro he
 obtain ⟨u,rfl⟩:∃ u:Nat,n=u:=⟨n.toNat,by omega⟩
 rw [Lib.itoa_nonneg] at he
 cases hs:Lib.decDigits u with
 | nil=>exact dec_ne u hs
 | cons c s =>
  have hd:=dec_dig u c (by rw [hs];simp)
  rw [← he,hs] at hw
  have hw:letB (c.toNat:Int)=true:=hw
  unfold digB at hd
  unfold letB at hw
  simp only [Bool.and_eq_true,decide_eq_true_eq] at hd hw
  omega
theorem prim_num_rep {ex:Rec} {u:Int} (hu:0≤u∧u≤3) {n:Int} {r r':List Tok} (h:Reps (numW n u) r r') (hno:NoUnit r'):primP ex r=.ok (.mk 0 n u [] [],r'):=by
 have key:∀ l,Reps (nP n::l) r r'→unitP r.tail=(u,r')→primP ex r=.ok (.mk 0 n u [] [],r'):=by
  intro l hl hun
  obtain ⟨t,r1,rfl,k1,k2,k3,h1⟩:=reps_cons hl
  have k1:t.kind=1:=k1
  have k3:t.n=n:=k3
  unfold primP
  show (if t.kind=1 then (Except.ok (Exp.mk 0 t.n (unitP r1).1 [] [],(unitP r1).2):Ps Exp) else _)=_
  have hun:unitP r1=(u,r'):=hun
  rw [if_pos k1,hun,k3]
 unfold numW at h
 rw [if_neg (by omega)] at h
 by_cases h1:u=1
 ·rw [if_pos h1] at h
  refine key _ h ?_
  obtain ⟨t,r1,rfl,_,_,_,h2⟩:=reps_cons h
  have:=isT_rep (w:=[99,111,105,110,115]) h2
  show unitP r1=_
  unfold unitP
  rw [this,h1,if_pos (by decide),reps_nil (tail_rep h2)]
 rw [if_neg h1] at h
 by_cases h3:u=3
 ·rw [if_pos h3] at h
  refine key _ h ?_
  obtain ⟨t,r1,rfl,_,_,_,h2⟩:=reps_cons h
  have a:=isT_rep (w:=[99,111,105,110,115]) h2
  have b:=isT_rep (w:=[100,97,121,115]) h2
  show unitP r1=_
  unfold unitP
  rw [a,b,h3,if_neg (by decide),if_pos (by decide),reps_nil (tail_rep h2)]
 rw [if_neg h3] at h
 by_cases h2':u=2
 ·rw [if_pos h2'] at h
  refine key _ h ?_
  obtain ⟨t,r1,rfl,_,_,_,h2⟩:=reps_cons h
  have a:=isT_rep (w:=[99,111,105,110,115]) h2
  have b:=isT_rep (w:=[100,97,121,115]) h2
  have c:=isT_rep (w:=[109,105,108,108,101]) h2
  show unitP r1=_
  unfold unitP
  rw [a,b,c,h2',if_neg (by decide),if_neg (by decide),if_pos (by decide),reps_nil (tail_rep h2)]
 rw [if_neg h2'] at h
 refine key _ h ?_
 have h0:u=0:=by omega
 rw [reps_nil (tail_rep h),h0]
 unfold unitP
 rw [hno.1,hno.2.1,hno.2.2]
 rfl
theorem numW_cons (n:Int) {u:Int} (hu:u≤3):∃ l,numW n u=nP n::l:=by
 unfold numW
 rw [if_neg (by omega)]
 split
 ·exact ⟨_,rfl⟩
 split
 ·exact ⟨_,rfl⟩
 split
 ·exact ⟨_,rfl⟩
 ·exact ⟨_,rfl⟩
theorem fin_cons {t:Tok} {r:List Tok} (hk:t.kind≠3) (h:Fin1 r):Fin1 (t::r):=by
 cases r with
 | nil=>exact h.elim
 | cons u r=>exact ⟨hk,h⟩
theorem fin_rep {x:Pc} {r r':List Tok} (h:Reps [x] r r') (hk:x.kind≠3) (hf:Fin1 r'):Fin1 r:=by
 obtain ⟨t,r1,rfl,k1,_,_,h1⟩:=reps_cons h
 rw [← reps_nil h1] at hf
 exact fin_cons (by rw [k1];exact hk) hf
theorem fin_reps:∀ {l:List Pc} {r r':List Tok},Reps l r r'→(∀ x∈l,x.kind≠3)→Fin1 r'→Fin1 r
 | [],r,r',h,_,hf=>by rw [reps_nil h];exact hf
 | x::l,r,r',h,hk,hf=>by
  obtain ⟨t,r1,rfl,k1,_,_,h1⟩:=reps_cons h
  exact fin_cons (by rw [k1];exact hk x (by simp)) (fin_reps h1 (fun y hy=>hk y (by simp [hy])) hf)
theorem stop_0 {r:List Tok} (h:Stop 1 r):Stop 0 r:=by
 rcases h with h | h
 ·exact .inl h
 ·by_cases h0:opI r<0
  ·exact .inl h0
  ·have:=form_bnd (opI_ok h0).1
   have hoa:opAt (opI r)=oprL.getD (opI r).toNat o0:=rfl
   rw [hoa] at h
   omega
theorem stop_3 {r:List Tok} (h:Stop 4 r):Stop 3 r:=by
 rcases h with h | h
 ·exact .inl h
 ·by_cases h0:opI r<0
  ·exact .inl h0
  ·have hi:=(opI_ok h0).1
   have:∀ i,i<8→(oprL.getD i o0).form<4→(oprL.getD i o0).form<3:=by decide
   exact .inr (this _ hi h)
def UE (e:Exp):Prop:=∀ (d n:Nat) (form:Int) (r r':List Tok),lev e≤d→Reps (bodyW d e) r r'→r.length≤n+1→0≤form→form≤formO e.op→Stop (formO e.op+1) r'→NoUnit r'→Fin1 r' →
 expS (expP n) form r=loopP (expP n) form r'.length e (formO e.op) r'
theorem show_U {e:Exp} (hU:UE e) {d n:Nat} {form least:Int} {r r':List Tok} (hd:lev e≤d) (h:Reps (showW d e least) r r') (hl:r.length≤n+1) (h0:0≤form) (h1:form≤least)
  (hs:Stop ((if formO e.op<least then 7 else formO e.op)+1) r') (hno:NoUnit r') (hf:Fin1 r'):expS (expP n) form r=loopP (expP n) form r'.length e (if formO e.op<least then 7 else formO e.op) r':=by
 unfold showW parW at h
 by_cases hp:formO e.op<least
 ·rw [if_pos hp] at h ⊢
  have h:Reps (sP [40]::(bodyW d e++[sP [41]])) r r':=h
  have hlen:=h.len
  obtain ⟨m2,hb,hz⟩:=reps_app (tail_rep h)
  have hfr:=hb.len
  have hzl:=hz.len
  have ht:r.tail.length+1=r.length:=by
   obtain ⟨t,r1,rfl,_,_,_,_⟩:=reps_cons h
   rfl
  have hpos:=List.length_pos_iff.2 hf.ne
  simp only [List.length_cons,List.length_nil] at hzl
  obtain ⟨n',rfl⟩:∃ k,n=k+1:=⟨n-1,by omega⟩
  refine exp_prim (by rw [isT_rep h];decide) (by rw [isT_rep h];decide) ?_
  rw [prim_text h (by decide) (by decide)]
  have hin:expP (n'+1) 0 r.tail=.ok (e,m2):=by
   show expS (expP n') 0 r.tail=_
   have hfm:=fin_rep hz (by decide) hf
   have hf0:0≤formO e.op:=by
    unfold formO
    repeat' split
    all_goals first | omega | skip
    rename_i hx
    have:=form_bnd (i:=(oprI e.op).toNat) (by
     have h2:=idxP_lt (fun o:Opr=>decide (o.op=e.op)) o0 oprL
     rcases h2 with h2 | h2
     ·exact (hx h2).elim
     ·exact h2.1)
    omega
   rw [hU d n' 0 r.tail m2 hd hb (by omega) (by omega) hf0 (stop_rep hz (by decide) _) (nounit_rep hz (by decide)) hfm]
   exact loop_stop (stop_rep hz dd0 _) _ _ _
  obtain ⟨r1,hw,h9⟩:=want_rep hz (by decide) (w:=[41]) rfl
  have:parenP (expP (n'+1)) r.tail=.ok (e,r'):=by
   unfold parenP
   rw [hin]
   dsimp only
   rw [hw,reps_nil h9]
  rw [← this]
  rfl
 ·rw [if_neg hp] at h hs ⊢
  exact hU d n form r r' hd h hl h0 om0 hs hno hf
theorem read_U {e:Exp} (hU:UE e) {d n:Nat} {form least:Int} {r r':List Tok} (hd:lev e≤d) (h:Reps (showW d e least) r r') (hl:r.length≤n) (h0:0≤form) (h1:form≤least) (h7:least≤7)
  (hs:Stop form r') (hno:NoUnit r') (hf:Fin1 r'):expP n form r=.ok (e,r'):=by
 have hlen:=h.len
 have hpos:=List.length_pos_iff.2 hf.ne
 obtain ⟨n',rfl⟩:∃ k,n=k+1:=⟨n-1,by omega⟩
 show expS (expP n') form r=_
 rw [show_U hU hd h hl h0 h1 (hs.le (by split<;>omega)) hno hf]
 exact loop_stop hs _ _ _
def NK (l:List Pc):Prop:=∀ z∈l,z.kind≠3
theorem NK.app {a b:List Pc} (ha:NK a) (hb:NK b):NK (a++b):=fun x hx=>(List.mem_append.1 hx).elim (ha x) (hb x)
theorem NK.cons {x:Pc} {l:List Pc} (hx:x.kind≠3) (h:NK l):NK (x::l):=fun y hy=>(List.mem_cons.1 hy).elim (fun e=>by rw [e];exact hx) (h y)
theorem NK.nil:NK []:=fun x hx=>by cases hx
theorem nk_ite {c:Prop} [Decidable c] {a b:List Pc} (ha:NK a) (hb:NK b):NK (if c then a else b):=by
 by_cases h:c
 ·rw [if_pos h];exact ha
 ·rw [if_neg h];exact hb
theorem nk_w (s:List UInt8):(wP s).kind≠3:=by show (0:Int)≠3;decide
theorem nk_n (n:Int):(nP n).kind≠3:=by show (1:Int)≠3;decide
theorem nk_s (s:List UInt8):(sP s).kind≠3:=by show (2:Int)≠3;decide
theorem nk_o (o:Opr):(oP o).kind≠3:=by show (if o.form≤2 then (0:Int) else 2)≠3;split<;>decide
theorem par_nk {f least:Int} {l:List Pc} (h:NK l):NK (parW f least l):=nk_ite ((NK.cons (nk_s _) h).app (.cons (nk_s _) .nil)) h
theorem num_nk (n u:Int):NK (numW n u):=nk_ite (.cons (nk_w _) .nil) (nk_ite (.cons (nk_n _) (.cons (nk_w _) .nil)) (nk_ite (.cons (nk_n _) (.cons (nk_w _) .nil)) (nk_ite (.cons (nk_n _) (.cons (nk_w _) .nil)) (.cons (nk_n _) .nil))))
theorem body_nk:∀ (d:Nat) (e:Exp),NK (bodyW d e)
 | 0,_=>.nil
 | d+1,e=>by
  have p:∀ (i:Nat) (least:Int),NK (parW (formO (argOf e i).op) least (bodyW d (argOf e i))):=fun i least=>par_nk (body_nk d _)
  unfold bodyW
  refine nk_ite (num_nk _ _) (nk_ite (.cons (nk_w _) .nil) (nk_ite (.cons (nk_w _) (.cons (nk_w _) .nil)) (nk_ite (.cons (nk_w _) (.cons (nk_w _) .nil)) (nk_ite ?_ (nk_ite ?_ (nk_ite ?_ (nk_ite ?_ (nk_ite ?_ (nk_ite ?_ (nk_ite ?_ ?_))))))))))
  ·exact (((((NK.cons (nk_w _) .nil).app (p 0 0)).app (.cons (nk_w _) .nil)).app (p 1 0)).app (.cons (nk_w _) .nil)).app (p 2 0)
  ·exact (NK.cons (nk_w _) .nil).app (p 0 3)
  ·exact ((((NK.cons (nk_w _) (.cons (nk_s _) .nil)).app (p 0 0)).app (.cons (nk_s _) .nil)).app (p 1 0)).app (.cons (nk_s _) .nil)
  ·exact ((((NK.cons (nk_w _) (.cons (nk_s _) .nil)).app (p 0 0)).app (.cons (nk_s _) .nil)).app (p 1 0)).app (.cons (nk_s _) .nil)
  ·exact ((NK.cons (nk_w _) (.cons (nk_n _) (.cons (nk_s _) .nil))).app (p 0 0)).app (.cons (nk_s _) .nil)
  ·exact ((NK.cons (nk_w _) (.cons (nk_n _) (.cons (nk_s _) .nil))).app (p 0 0)).app (.cons (nk_s _) .nil)
  ·exact ((NK.cons (nk_w _) (.cons (nk_n _) (.cons (nk_s _) .nil))).app (p 0 0)).app (.cons (nk_s _) .nil)
  ·exact ((p 0 _).app (.cons (nk_o _) .nil)).app (p 1 _)
theorem show_nk (d:Nat) (e:Exp) (least:Int):NK (showW d e least):=par_nk (body_nk d e)
theorem levD {op n u:Int} {s:List UInt8} {args:List Exp} {d:Nat} (h:lev (.mk op n u s args)≤d):∃ k,d=k+1∧levs args≤k:=by
 rw [lev] at h
 exact ⟨d-1,by omega,by omega⟩
theorem pref_word {x:Pc} {l:List Pc} {r r':List Tok} (h:Reps (x::l) r r') (hx:x.text≠[105,102]∧x.text≠[110,111,116]):isT [105,102] r=false∧isT [110,111,116] r=false :=
 ⟨by rw [isT_rep h,decide_eq_false hx.1,Bool.and_false],by rw [isT_rep h,decide_eq_false hx.2,Bool.and_false]⟩
theorem ue_num {n u:Int} (h0:0≤n) (hu:0≤u∧u≤3):UE (.mk 0 n u [] []):=by
 intro d m form r r' hd h hl hf0 hf1 hs hno hf
 obtain ⟨k,rfl,_⟩:=levD hd
 have h:Reps (numW n u) r r':=h
 obtain ⟨l,hc⟩:=numW_cons n hu.2
 have h2:=h
 rw [hc] at h2
 obtain ⟨p1,p2⟩:=pref_word h2 ⟨dec_word h0 (by decide),dec_word h0 (by decide)⟩
 exact exp_prim p1 p2 (prim_num_rep hu h hno)
theorem ue_boo {n:Int} (hn:n=0∨n=1):UE (.mk 0 n 4 [] []):=by
 intro d m form r r' hd h hl hf0 hf1 hs hno hf
 obtain ⟨k,rfl,_⟩:=levD hd
 rcases hn with rfl | rfl
 ·have h:Reps [wP [102,97,108,115,101]] r r':=h
  obtain ⟨p1,p2⟩:=pref_word h (by decide)
  refine exp_prim p1 p2 ?_
  rw [prim_text h (by decide) (by decide),reps_nil (tail_rep h)]
  rfl
 ·have h:Reps [wP [116,114,117,101]] r r':=h
  obtain ⟨p1,p2⟩:=pref_word h (by decide)
  refine exp_prim p1 p2 ?_
  rw [prim_text h (by decide) (by decide),reps_nil (tail_rep h)]
  rfl
theorem named_rep {op:Int} {s:List UInt8} {r r':List Tok} (h:Reps [wP s] r r') (hn:nameB s=true):namedP op r=.ok (.mk op 0 0 s [],r'):=by
 obtain ⟨r1,h1,h2⟩:=name_rep h hn
 unfold namedP
 rw [h1,reps_nil h2]
theorem ue_name {op:Int} {s:List UInt8} (ho:op=1∨op=2∨op=3) (hn:nameB s=true):UE (.mk op 0 0 s []):=by
 intro d m form r r' hd h hl hf0 hf1 hs hno hf
 obtain ⟨k,rfl,_⟩:=levD hd
 have nr:=name_nres hn
 rcases ho with rfl | rfl | rfl
 ·have h:Reps [wP s] r r':=h
  obtain ⟨p1,p2⟩:=pref_word h ⟨nr _ (by decide),nr _ (by decide)⟩
  refine exp_prim p1 p2 ?_
  rw [prim_text h (by show (0:Int)≠3;decide) (by show (0:Int)≠1;decide)]
  have nr:∀ w∈resW,(wP s).text≠w:=nr
  rw [if_neg (nr [116,114,117,101] (by decide)),if_neg (nr [102,97,108,115,101] (by decide)),if_neg (nr [102,97,99,116] (by decide)),if_neg (nr [114,97,116,101] (by decide)),if_neg (nr [101,118,101,114] (by decide)),if_neg (nr [108,111,110,103] (by decide)),if_neg (nr [115,111,111,110] (by decide)),
   if_neg (show ¬ ((wP s).text=[109,105,110]∨(wP s).text=[109,97,120]) from fun x=>x.elim (nr _ (by decide)) (nr _ (by decide))),if_neg (show ¬ (wP s).text=[40] from word_first hn 40 (by decide))]
  exact named_rep h hn
 ·have h:Reps [wP [102,97,99,116],wP s] r r':=h
  obtain ⟨p1,p2⟩:=pref_word h (by decide)
  refine exp_prim p1 p2 ?_
  rw [prim_text h (by decide) (by decide)]
  exact named_rep (tail_rep h) hn
 ·have h:Reps [wP [114,97,116,101],wP s] r r':=h
  obtain ⟨p1,p2⟩:=pref_word h (by decide)
  refine exp_prim p1 p2 ?_
  rw [prim_text h (by decide) (by decide)]
  exact named_rep (tail_rep h) hn
theorem rep_tl {x:Pc} {l:List Pc} {r r':List Tok} (h:Reps (x::l) r r'):r.tail.length+1=r.length:=by
 obtain ⟨t,r1,rfl,_,_,_,_⟩:=reps_cons h
 rfl
theorem within_rep {x:Exp} (hU:UE x) {k n:Nat} {op a:Int} (ha:1≤a∧a≤1000) {r r':List Tok} (hd:lev x≤k) (h:Reps ([nP a,sP [40]]++showW k x 0++[sP [41]]) r r') (hl:r.length≤n) (hf:Fin1 r') :
  withinP (expP n) op r=.ok (.mk op a 0 [] [x],r'):=by
 have h:Reps (nP a::sP [40]::(showW k x 0++[sP [41]])) r r':=h
 have l0:=h.len
 obtain ⟨r1,e1,h1⟩:=num_rep h ha
 have l1:=h1.len
 obtain ⟨r2,e2,h2⟩:=want_rep h1 (by decide) (w:=[40]) rfl
 obtain ⟨m,hb,hz⟩:=reps_app h2
 have l2:=h2.len
 simp only [List.length_cons] at l0 l1 l2
 have e3:=read_U hU (form:=0) hd hb (n:=n) (by omega) (by omega) (by omega) (by omega) (stop_rep hz (by decide) 0) (nounit_rep hz (by decide)) (fin_rep hz (by decide) hf)
 obtain ⟨r4,e4,h4⟩:=want_rep hz (by decide) (w:=[41]) rfl
 unfold withinP
 rw [e1]
 dsimp only
 rw [e2]
 dsimp only
 rw [e3]
 dsimp only
 rw [e4,reps_nil h4]
theorem ue_within {op a:Int} {x:Exp} (ho:op=16∨op=17∨op=18) (ha:1≤a∧a≤1000) (hU:UE x):UE (.mk op a 0 [] [x]):=by
 intro d n form r r' hd h hl hf0 hf1 hs hno hf
 obtain ⟨k,rfl,hk⟩:=levD hd
 have hx:lev x≤k:=by simp only [levs] at hk;omega
 rcases ho with rfl | rfl | rfl
 ·have h:Reps (wP [101,118,101,114]::([nP a,sP [40]]++showW k x 0++[sP [41]])) r r':=h
  have:=rep_tl h
  obtain ⟨p1,p2⟩:=pref_word h (by decide)
  refine exp_prim p1 p2 ?_
  rw [prim_text h (by decide) (by decide)]
  exact within_rep hU ha hx (tail_rep h) om0 hf
 ·have h:Reps (wP [108,111,110,103]::([nP a,sP [40]]++showW k x 0++[sP [41]])) r r':=h
  have:=rep_tl h
  obtain ⟨p1,p2⟩:=pref_word h (by decide)
  refine exp_prim p1 p2 ?_
  rw [prim_text h (by decide) (by decide)]
  exact within_rep hU ha hx (tail_rep h) om0 hf
 ·have h:Reps (wP [115,111,111,110]::([nP a,sP [40]]++showW k x 0++[sP [41]])) r r':=h
  have:=rep_tl h
  obtain ⟨p1,p2⟩:=pref_word h (by decide)
  refine exp_prim p1 p2 ?_
  rw [prim_text h (by decide) (by decide)]
  exact within_rep hU ha hx (tail_rep h) om0 hf
theorem ue_not {x:Exp} (hU:UE x):UE (.mk 12 0 0 [] [x]):=by
 intro d n form r r' hd h hl hf0 hf1 hs hno hf
 obtain ⟨k,rfl,hk⟩:=levD hd
 have hx:lev x≤k:=by simp only [levs] at hk;omega
 have h:Reps (wP [110,111,116]::showW k x 3) r r':=h
 have hlt:=rep_tl h
 have hfo:formO (Exp.mk 12 0 0 [] [x]).op=3:=rfl
 rw [hfo] at hf1 hs ⊢
 have e1:=read_U hU (form:=3) hx (tail_rep h) (n:=n) (by omega) (by omega) (by omega) (by omega) (stop_3 hs) hno hf
 unfold expS prefP
 rw [if_neg (fun y=>by rw [isT_rep h] at y;exact absurd y.2 (by decide)),if_pos ⟨hf1,by rw [isT_rep h];decide⟩]
 unfold notP
 rw [e1]
theorem pair_rep {x y:Exp} (hx:UE x) (hy:UE y) {k n:Nat} {op:Int} {r r':List Tok} (dx:lev x≤k) (dy:lev y≤k) (h:Reps (sP [40]::(showW k x 0++sP [44]::(showW k y 0++[sP [41]]))) r r') (hl:r.length≤n) (hf:Fin1 r') :
  pairP (expP n) op r=.ok (.mk op 0 0 [] [x,y],r'):=by
 have l0:=h.len
 obtain ⟨r1,e1,h1⟩:=want_rep h (by decide) (w:=[40]) rfl
 obtain ⟨m,hb,hz⟩:=reps_app h1
 have l1:=h1.len
 have lz:=hz.len
 obtain ⟨r3,e3,h3⟩:=want_rep hz (by decide) (w:=[44]) rfl
 obtain ⟨m2,hb2,hz2⟩:=reps_app h3
 have l3:=h3.len
 simp only [List.length_cons,List.length_append,List.length_nil] at l0 l1 lz l3
 have f2:=fin_rep hz2 (by decide) hf
 have kd:∀ z∈showW k y 0,z.kind≠3:=show_nk k y 0
 have f1:Fin1 m:=by
  obtain ⟨t,q,rfl,k1,_,_,h5⟩:=reps_cons hz
  obtain ⟨m3,g1,g2⟩:=reps_app h5
  have:=fin_reps g1 kd (fin_rep g2 (by decide) hf)
  exact fin_cons (by rw [k1];decide) this
 have e2:=read_U hx (form:=0) dx hb (n:=n) (by omega) (by omega) (by omega) (by omega) (stop_rep hz (by decide) 0) (nounit_rep hz (by decide)) f1
 have e4:=read_U hy (form:=0) dy hb2 (n:=n) (by omega) (by omega) (by omega) (by omega) (stop_rep hz2 (by decide) 0) (nounit_rep hz2 (by decide)) f2
 obtain ⟨r5,e5,h5⟩:=want_rep hz2 (by decide) (w:=[41]) rfl
 unfold pairP
 rw [e1]
 dsimp only
 rw [e2]
 dsimp only
 rw [e3]
 dsimp only
 rw [e4]
 dsimp only
 rw [e5,reps_nil h5]
theorem ue_min {x y:Exp} (hx:UE x) (hy:UE y) {op:Int} (ho:op=8∨op=9):UE (.mk op 0 0 [] [x,y]):=by
 intro d n form r r' hd h hl hf0 hf1 hs hno hf
 obtain ⟨k,rfl,hk⟩:=levD hd
 have dx:lev x≤k:=by simp only [levs] at hk;omega
 have dy:lev y≤k:=by simp only [levs] at hk;omega
 rcases ho with rfl | rfl
 ·have h:Reps ([wP [109,105,110],sP [40]]++showW k x 0++[sP [44]]++showW k y 0++[sP [41]]) r r':=h
  have h:Reps (wP [109,105,110]::sP [40]::(showW k x 0++sP [44]::(showW k y 0++[sP [41]]))) r r':=by
   simpa using h
  have:=rep_tl h
  obtain ⟨p1,p2⟩:=pref_word h (by decide)
  refine exp_prim p1 p2 ?_
  rw [prim_text h (by decide) (by decide)]
  exact pair_rep hx hy dx dy (tail_rep h) om0 hf
 ·have h:Reps ([wP [109,97,120],sP [40]]++showW k x 0++[sP [44]]++showW k y 0++[sP [41]]) r r':=h
  have h:Reps (wP [109,97,120]::sP [40]::(showW k x 0++sP [44]::(showW k y 0++[sP [41]]))) r r':=by
   simpa using h
  have:=rep_tl h
  obtain ⟨p1,p2⟩:=pref_word h (by decide)
  refine exp_prim p1 p2 ?_
  rw [prim_text h (by decide) (by decide)]
  exact pair_rep hx hy dx dy (tail_rep h) om0 hf
theorem ue_cond {x y z:Exp} (hx:UE x) (hy:UE y) (hz:UE z):UE (.mk 15 0 0 [] [x,y,z]):=by
 intro d n form r r' hd h hl hf0 hf1 hs hno hf
 obtain ⟨k,rfl,hk⟩:=levD hd
 have dx:lev x≤k:=by simp only [levs] at hk;omega
 have dy:lev y≤k:=by simp only [levs] at hk;omega
 have dz:lev z≤k:=by simp only [levs] at hk;omega
 have hfo:formO (Exp.mk 15 0 0 [] [x,y,z]).op=0:=rfl
 rw [hfo] at hf1 hs ⊢
 obtain rfl:form=0:=by omega
 have h:Reps ([wP [105,102]]++showW k x 0++[wP [116,104,101,110]]++showW k y 0++[wP [101,108,115,101]]++showW k z 0) r r':=h
 have h:Reps (wP [105,102]::(showW k x 0++wP [116,104,101,110]::(showW k y 0++wP [101,108,115,101]::showW k z 0))) r r':=by simpa using h
 have l0:=rep_tl h
 obtain ⟨m1,b1,c1⟩:=reps_app (tail_rep h)
 obtain ⟨r2,e2,h2⟩:=want_rep c1 (by decide) (w:=[116,104,101,110]) rfl
 obtain ⟨m3,b3,c3⟩:=reps_app h2
 obtain ⟨r4,e4,h4⟩:=want_rep c3 (by decide) (w:=[101,108,115,101]) rfl
 have k1:=b1.len
 have k2:=c1.len
 have k3:=b3.len
 have k4:=c3.len
 have k5:=h4.len
 have k6:=h2.len
 simp only [List.length_cons,List.length_append] at k2 k4 k6
 have f3:Fin1 m3:=fin_reps c3 (NK.cons (nk_w _) (show_nk k z 0)) hf
 have f1:Fin1 m1:=fin_reps c1 (NK.cons (nk_w _) ((show_nk k y 0).app (.cons (nk_w _) (show_nk k z 0)))) hf
 have e1:=read_U hx (form:=0) dx b1 (n:=n) (by omega) (by omega) (by omega) (by omega) (stop_rep c1 (by decide) 0) (nounit_rep c1 (by decide)) f1
 have e3:=read_U hy (form:=0) dy b3 (n:=n) (by omega) (by omega) (by omega) (by omega) (stop_rep c3 (by decide) 0) (nounit_rep c3 (by decide)) f3
 have e5:=read_U hz (form:=0) dz h4 (n:=n) (by omega) (by omega) (by omega) (by omega) (stop_0 hs) hno hf
 unfold expS prefP
 rw [if_pos ⟨rfl,by rw [isT_rep h];decide⟩]
 unfold ifP
 rw [e1]
 dsimp only
 rw [e2]
 dsimp only
 rw [e3]
 dsimp only
 rw [e4]
 dsimp only
 rw [e5]
structure BinO (op:Int):Prop where
 fo:formO op=(opE op).form
 id:(opE op).op=op
 lo:1≤(opE op).form
 hi:(opE op).form≤6
 ge:¬ idxP (fun o':Opr=>decide ((opE op).text=o'.text)) oprL<0
 at':opAt (idxP (fun o':Opr=>decide ((opE op).text=o'.text)) oprL)=opE op
 un:(opE op).text≠[99,111,105,110,115]∧(opE op).text≠[100,97,121,115]∧(opE op).text≠[109,105,108,108,101]
theorem binO {op:Int} (h:op=4∨op=5∨op=6∨op=7∨op=10∨op=11∨op=13∨op=14):BinO op:=by
 rcases h with rfl | rfl | rfl | rfl | rfl | rfl | rfl | rfl<;>exact ⟨by decide,by decide,by decide,by decide,by decide,rfl,by decide⟩
theorem opI_rep {op:Int} {l:List Pc} {r r':List Tok} (h:Reps (oP (opE op)::l) r r'):opI r=idxP (fun o':Opr=>decide ((opE op).text=o'.text)) oprL:=by
 unfold opI
 congr 1
 funext o
 rw [isT_rep h,decide_eq_true (nk_o _),Bool.true_and]
 rfl
theorem body_bin {op:Int} (h:op=4∨op=5∨op=6∨op=7∨op=10∨op=11∨op=13∨op=14) (k:Nat) (x y:Exp) :
  bodyW (k+1) (.mk op 0 0 [] [x,y])=showW k x (if (opE op).form=4 then 5 else (opE op).form)++oP (opE op)::showW k y ((opE op).form+1):=by
 rcases h with rfl | rfl | rfl | rfl | rfl | rfl | rfl | rfl
 all_goals
  refine Eq.trans (b:=showW k x (if (opE _).form=4 then 5 else (opE _).form)++[oP (opE _)]++showW k y ((opE _).form+1)) rfl ?_
  rw [List.append_assoc]
  rfl
theorem ue_bin {x y:Exp} (hx:UE x) (hy:UE y) {op:Int} (ho:op=4∨op=5∨op=6∨op=7∨op=10∨op=11∨op=13∨op=14):UE (.mk op 0 0 [] [x,y]):=by
 intro d n form r r' hd h hl hf0 hf1 hs hno hf
 obtain ⟨k,rfl,hk⟩:=levD hd
 have dx:lev x≤k:=by simp only [levs] at hk;omega
 have dy:lev y≤k:=by simp only [levs] at hk;omega
 have B:=binO ho
 have hfo:formO (Exp.mk op 0 0 [] [x,y]).op=(opE op).form:=B.fo
 rw [hfo] at hf1 hs ⊢
 rw [body_bin ho] at h
 have blo:=B.lo
 have bhi:=B.hi
 obtain ⟨m1,h1,h2⟩:=reps_app h
 have l1:=h1.len
 have l2:=h2.len
 simp only [List.length_cons] at l2
 have hi:=opI_rep h2
 have h3:=tail_rep h2
 have ht:=rep_tl h2
 have f1:Fin1 m1:=fin_reps h2 (NK.cons (nk_o _) (show_nk k y _)) hf
 have nx:0<(showW k x (if (opE op).form=4 then 5 else (opE op).form)).length∨True:=.inr trivial
 generalize hla:(if (opE op).form=4 then (5:Int) else (opE op).form)=la at *
 have la1:(opE op).form≤la:=by rw [← hla];split<;>omega
 have la4:(opE op).form=4→la=5:=fun h4=>by rw [← hla,if_pos h4]
 have hst:Stop ((if formO x.op<la then 7 else formO x.op)+1) m1:=by
  refine .inr ?_
  rw [hi,B.at']
  split<;>omega
 rw [show_U hx dx h1 hl hf0 (by omega) hst (nounit_rep h2 B.un) f1]
 obtain ⟨g,hg⟩:∃ g,m1.length=g+1:=⟨m1.length-1,by omega⟩
 have hne:¬ opI m1<0:=by rw [hi];exact B.ge
 have hat:opAt (opI m1)=opE op:=by rw [hi];exact B.at'
 have hc:¬ ((opAt (opI m1)).form<form∨(if formO x.op<la then 7 else formO x.op)<(opAt (opI m1)).form∨(if formO x.op<la then (7:Int) else formO x.op)=4∧(opAt (opI m1)).form=4):=by
  rw [hat]
  split
  ·omega
  ·rintro (h9 | h9 | h9)
   ·omega
   ·omega
   ·have:=la4 h9.2
    omega
 rw [hg,loopP_step hne hc,hat]
 have e2:=read_U hy (form:=(opE op).form+1) dy h3 (n:=n) (by omega) (by omega) (by omega) (by omega) hs hno hf
 rw [e2]
 dsimp only
 rw [B.id]
 exact loopP_fuel (expP_suf n) _ _ _ _ _ hf om0 (Nat.le_refl _)
theorem ue_all {e:Exp} (h:WfE e):UE e:=by
 induction h with
 | num n u h0 h1 hu=>exact ue_num h0 hu
 | boo n h=>exact ue_boo h
 | name op s ho hn hl=>exact ue_name ho hn
 | within op n x ho hn hx ih=>exact ue_within ho hn ih
 | not x hx ih=>exact ue_not ih
 | pair op x y ho hx hy ihx ihy =>
  by_cases h:op=8∨op=9
  ·exact ue_min ihx ihy h
  ·exact ue_bin ihx ihy om0
 | cond x y z hx hy hz ihx ihy ihz=>exact ue_cond ihx ihy ihz
theorem show_back {e:Exp} (hr:rightE e=true) {n:Nat} {r r':List Tok} (h:Reps (showW 12 e 0) r r') (hl:r.length≤n) (hs:Stop 0 r') (hno:NoUnit r') (hf:Fin1 r'):expP n 0 r=.ok (e,r'):=by
 obtain ⟨hw,hd⟩:=(rightE_iff e).1 hr
 exact read_U (ue_all hw) hd h hl om0 om0 om0 hs hno hf
theorem fin_drop:∀ (T1:List Tok) {r':List Tok},Fin1 (T1++r')→r'≠[]→Fin1 r'
 | [],_,h,_=>h
 | t::T1,r',h,hn=>by
  refine fin_drop T1 ?_ hn
  have hne:T1++r'≠[]:=by simp [hn]
  cases hx:T1++r' with
  | nil=>exact (hne hx).elim
  | cons u q =>
   have h:Fin1 (t::(T1++r')):=h
   rw [hx] at h
   exact h.2
theorem fin_fwd {l:List Pc} {r r':List Tok} (h:Reps l r r') (hf:Fin1 r) (hn:r'≠[]):Fin1 r':=by
 obtain ⟨T1,rfl,_⟩:=h
 exact fin_drop T1 hf hn
theorem rep_ne {x:Pc} {l:List Pc} {r r':List Tok} (h:Reps (x::l) r r'):r≠[]:=by
 obtain ⟨t,r1,rfl,_,_,_,_⟩:=reps_cons h
 simp
theorem fin_tail {x:Pc} {y:Pc} {l:List Pc} {r r':List Tok} (h:Reps (x::y::l) r r') (hf:Fin1 r):Fin1 r.tail:=by
 obtain ⟨t,r1,rfl,_,_,_,h1⟩:=reps_cons h
 obtain ⟨u,r2,rfl,_,_,_,_⟩:=reps_cons h1
 exact hf.2
def Rd {α:Type} (p:Ps α) (v:α) (l:List Pc) (r r':List Tok):Prop:=∃ r1,p=.ok (v,r1)∧Reps l r1 r'∧r1.length≤r.length
theorem wantR {w:List UInt8} {x:Pc} {l:List Pc} {r r':List Tok} (h:Reps (x::l) r r') (hk:x.kind≠3) (hw:x.text=w):∃ r1,wantP w r=.ok r1∧Reps l r1 r'∧r1.length+1=r.length:=by
 obtain ⟨r1,h1,h2⟩:=want_rep h hk hw
 refine ⟨r1,h1,h2,?_⟩
 have:=h.len
 have:=h2.len
 simp only [List.length_cons] at *
 omega
theorem numR' {a b n:Int} {l:List Pc} {r r':List Tok} (h:Reps (nP n::l) r r') (hn:a≤n∧n≤b):∃ r1,numP a b r=.ok (n,r1)∧Reps l r1 r'∧r1.length+1=r.length:=by
 obtain ⟨r1,h1,h2⟩:=num_rep h hn
 refine ⟨r1,h1,h2,?_⟩
 have:=h.len
 have:=h2.len
 simp only [List.length_cons] at *
 omega
theorem part_rep {w:List UInt8} {a b n:Int} {l:List Pc} {r r':List Tok} (h:Reps (wP w::nP n::sP [59]::l) r r') (hn:a≤n∧n≤b):∃ r1,partP w a b r=.ok (n,r1)∧Reps l r1 r':=by
 obtain ⟨r1,e1,h1,_⟩:=wantR h (nk_w _) rfl
 obtain ⟨r2,e2,h2,_⟩:=numR' h1 hn
 obtain ⟨r3,e3,h3,_⟩:=wantR h2 (nk_s _) rfl
 refine ⟨r3,?_,h3⟩
 unfold partP
 have e1:wantP w r=.ok r1:=e1
 have e3:wantP [59] r2=.ok r3:=e3
 rw [e1]
 dsimp only
 rw [e2]
 dsimp only
 rw [e3]
theorem maybe_rep {w:List UInt8} {a n0 n:Int} {l:List Pc} {r r':List Tok} (h:Reps (wP w::nP n::sP [59]::l) r r') (hn:0≤n∧n≤a):∃ r1,maybeP w a n0 r=.ok (n,r1)∧Reps l r1 r':=by
 unfold maybeP
 rw [if_pos (by rw [isT_rep h];simp [wP])]
 exact part_rep h hn
theorem maybe_no {w:List UInt8} {a n0:Int} {x:Pc} {l:List Pc} {r r':List Tok} (h:Reps (x::l) r r') (hx:x.text≠w):maybeP w a n0 r=.ok (n0,r):=by
 unfold maybeP
 rw [if_neg (by rw [isT_rep h,decide_eq_false hx,Bool.and_false];decide)]
def dayP (n:Int):List Pc:=[nP (partY n),sP [45],nP (partM n),sP [45],nP (partD n)]
theorem part_bnd {n:Int} (h0:0≤n) (h1:n≤200000):(0≤partY n∧partY n≤1000000000000000)∧(0≤partM n∧partM n≤1000000000000000)∧0≤partD n∧partD n≤1000000000000000:=by
 obtain ⟨a,b,c,d,e,f⟩:=parts_bounds h0 h1
 omega
theorem date_rep {least n:Int} {l:List Pc} {r r':List Tok} (h0:0≤n) (h1:n≤200000) (hl:least<n) (h:Reps (dayP n++l) r r'):∃ r1,dateP least r=.ok (n,r1)∧Reps l r1 r':=by
 obtain ⟨by1,by2,by3⟩:=part_bnd h0 h1
 have h:Reps (nP (partY n)::sP [45]::nP (partM n)::sP [45]::nP (partD n)::l) r r':=h
 obtain ⟨r1,e1,h1',_⟩:=numR' h by1
 obtain ⟨r2,e2,h2,_⟩:=wantR h1' (nk_s _) rfl
 obtain ⟨r3,e3,h3,_⟩:=numR' h2 by2
 obtain ⟨r4,e4,h4,_⟩:=wantR h3 (nk_s _) rfl
 obtain ⟨t,r5,rfl,k1,_,k3,h5⟩:=reps_cons h4
 have k1:t.kind=1:=k1
 have k3:t.n=partD n:=k3
 refine ⟨r5,?_,h5⟩
 have e2:wantP [45] r1=.ok r2:=e2
 have e4:wantP [45] r3=.ok (t::r5):=e4
 unfold dateP
 rw [e1]
 dsimp only
 rw [e2]
 dsimp only
 rw [e3]
 dsimp only
 rw [e4]
 dsimp only
 show (if t.kind≠1 then _ else if (dayOf (partY n) (partM n) t.n).2≠0 then _ else if least<(dayOf (partY n) (partM n) t.n).1 then (Except.ok ((dayOf (partY n) (partM n) t.n).1,r5):Ps Int) else _)=_
 rw [if_neg (by rw [k1];simp),k3,day_parts h0 h1]
 rw [if_neg (by simp),if_pos hl]
theorem whole_rep {x:Pc} {e:Exp} (hr:rightE e=true) {l:List Pc} {r r':List Tok} (h:Reps (showW 12 e 0++x::l) r r') (hk:x.kind≠3) (ho:∀ o∈oprL,x.text≠o.text) (hu:x.text≠[99,111,105,110,115]∧x.text≠[100,97,121,115]∧x.text≠[109,105,108,108,101]) (hf:Fin1 r) :
  ∃ r1,wholeP x.text r=.ok (e,r1)∧Reps l r1 r':=by
 obtain ⟨m,h1,h2⟩:=reps_app h
 have e1:=show_back hr h1 (Nat.le_refl _) (stop_rep h2 ho 0) (nounit_rep h2 hu) (fin_fwd h1 hf (rep_ne h2))
 refine ⟨m.tail,?_,tail_rep h2⟩
 unfold wholeP
 rw [e1]
 dsimp only
 have hi:=isT_rep (w:=x.text) h2
 rw [decide_eq_true hk,decide_eq_true rfl] at hi
 rw [hi,if_neg (by decide),if_pos (by have:=((rightE_iff e).1 hr).2;omega)]
theorem one_cnt {i:Int} (h0:0≤i) (h2:i≤2) {l:List Pc} {r r':List Tok} (h:Reps (wP [99,111,117,110,116]::wP (cntW.getD i.toNat [])::sP [59]::l) r r'):∃ r1,oneP [99,111,117,110,116] cntW r=.ok (i,r1)∧Reps l r1 r':=by
 obtain ⟨r1,e1,h1,_⟩:=wantR h (nk_w _) rfl
 obtain ⟨r3,e3,h3,_⟩:=wantR (tail_rep h1) (nk_s _) rfl
 refine ⟨r3,?_,h3⟩
 have e1:wantP [99,111,117,110,116] r=.ok r1:=e1
 have e3:wantP [59] r1.tail=.ok r3:=e3
 have hx:idxP (fun w=>isT w r1) cntW=i:=by
  have:(fun w=>isT w r1)=fun w=>decide (cntW.getD i.toNat []=w):=by
   funext w
   rw [isT_rep h1,decide_eq_true (nk_w _),Bool.true_and]
   rfl
  rw [this]
  have hi:i=0∨i=1∨i=2:=by omega
  rcases hi with rfl | rfl | rfl<;>decide
 unfold oneP
 rw [e1]
 dsimp only
 rw [hx,if_neg (by omega),e3]
theorem one_adj {i:Int} (h0:0≤i) (h2:i≤3) {l:List Pc} {r r':List Tok} (h:Reps (wP [97,100,106,117,115,116]::wP (adjW.getD i.toNat [])::sP [59]::l) r r'):∃ r1,oneP [97,100,106,117,115,116] adjW r=.ok (i,r1)∧Reps l r1 r':=by
 obtain ⟨r1,e1,h1,_⟩:=wantR h (nk_w _) rfl
 obtain ⟨r3,e3,h3,_⟩:=wantR (tail_rep h1) (nk_s _) rfl
 refine ⟨r3,?_,h3⟩
 have e1:wantP [97,100,106,117,115,116] r=.ok r1:=e1
 have e3:wantP [59] r1.tail=.ok r3:=e3
 have hx:idxP (fun w=>isT w r1) adjW=i:=by
  have:(fun w=>isT w r1)=fun w=>decide (adjW.getD i.toNat []=w):=by
   funext w
   rw [isT_rep h1,decide_eq_true (nk_w _),Bool.true_and]
   rfl
  rw [this]
  have hi:i=0∨i=1∨i=2∨i=3:=by omega
  rcases hi with rfl | rfl | rfl | rfl<;>decide
 unfold oneP
 rw [e1]
 dsimp only
 rw [hx,if_neg (by omega),e3]
theorem fresh_rep {names:List (List UInt8)} {s:List UInt8} {l:List Pc} {r r':List Tok} (h:Reps (wP s::l) r r') (hn:nameB s=true) (hm:¬ s∈names):∃ r1,freshP names r=.ok (s,r1)∧Reps l r1 r':=by
 obtain ⟨t,r1,rfl,k1,k2,k3,h1⟩:=reps_cons h
 have k1:t.kind=0:=k1
 have k2:t.text=s:=k2
 refine ⟨r1,?_,h1⟩
 unfold freshP namedB
 show (if (decide (t.kind=0)&&nameB t.text)=false then _ else if t.text∈names then _ else (Except.ok (t.text,r1):Ps (List UInt8)))=_
 rw [k1,k2,hn,if_neg (by simp),if_neg hm]
def letP (x:LetE):List Pc:=wP [108,101,116]::wP x.name::sP [61]::(showW 12 x.body 0++[sP [59]])
def covP (c:Cov):List Pc:=wP [99,111,118,101,110,97,110,116]::wP c.name::wP [109,117,115,116]::(showW 12 c.must 0++[wP [103,114,97,99,101],nP c.grace,sP [59]])
def callP (c:CallE):List Pc:=wP [99,97,108,108]::(dayP c.a++[wP [97,116],nP c.b,sP [59]])
theorem lets_rep {x:Pc} {l:List Pc} {r':List Tok} (hx:x.text≠[108,101,116]):∀ (ls:List LetE) (f:Nat) (acc:List LetE) (r:List Tok),Reps (ls.flatMap letP++x::l) r r'→r.length≤f→Fin1 r→(∀ a∈ls,nameB a.name=true∧rightE a.body=true)→((acc++ls).map LetE.name).Nodup→(acc++ls).length≤20 →
  ∃ r1,letsP f acc r=.ok (acc++ls,r1)∧Reps (x::l) r1 r'
 | [],f,acc,r,h,hl,hf,_,_,_=>by
  have h:Reps (x::l) r r':=h
  refine ⟨r,?_,h⟩
  obtain ⟨g,rfl⟩:∃ g,f=g+1:=⟨f-1,by have:=List.length_pos_iff.2 (rep_ne h);omega⟩
  rw [letsP,if_pos (by rw [isT_rep h,decide_eq_false hx,Bool.and_false]),List.append_nil]
 | a::ls,f,acc,r,h,hl,hf,ha,hnd,hlen=>by
  have h:Reps (wP [108,101,116]::wP a.name::sP [61]::(showW 12 a.body 0++sP [59]::(ls.flatMap letP++x::l))) r r':=by
   simpa [letP] using h
  obtain ⟨g,rfl⟩:∃ g,f=g+1:=⟨f-1,by have:=List.length_pos_iff.2 (rep_ne h);omega⟩
  obtain ⟨hn,hr⟩:=ha a (by simp)
  have hm:¬ a.name∈acc.map LetE.name:=by
   intro hm
   rw [List.map_append,List.nodup_append] at hnd
   exact hnd.2.2 _ hm _ (by simp) rfl
  have h1:=tail_rep h
  have f1:=fin_tail h hf
  obtain ⟨r1,e1,h2⟩:=fresh_rep h1 hn hm
  have f2:Fin1 r1:=(freshP_suf e1).2 f1
  obtain ⟨r2,e2,h3,_⟩:=wantR h2 (nk_s _) rfl
  have e2:wantP [61] r1=.ok r2:=e2
  have f3:Fin1 r2:=(wantP_suf e2).2 f2
  obtain ⟨r3,e3,h4⟩:=whole_rep hr h3 (nk_s _) (by decide) (by decide) f3
  have e3:wholeP [59] r2=.ok (a.body,r3):=e3
  have f4:Fin1 r3:=(wholeP_suf e3).2 f3
  have hl4:r3.length≤g:=by
   have q1:=(freshP_suf e1).le
   have q2:=(wantP_suf e2).le
   have q3:=(wholeP_suf e3).le
   have q4:=tail_lt hf
   omega
  have hap:acc++a::ls=(acc++[a])++ls:=by simp
  obtain ⟨r5,e5,h5⟩:=lets_rep hx ls g (acc++[a]) r3 h4 hl4 f4 (fun b hb=>ha b (by simp [hb])) (by rw [← hap];exact hnd) (by rw [← hap];exact hlen)
  refine ⟨r5,?_,h5⟩
  have hlt:(acc.length:Int)<20:=by
   rw [List.length_append,List.length_cons] at hlen
   omega
  rw [letsP,if_neg (by rw [isT_rep h];decide),if_neg (by omega),e1]
  dsimp only
  rw [e2]
  dsimp only
  rw [e3]
  dsimp only
  rw [hap]
  exact e5
theorem covs_rep {x:Pc} {l:List Pc} {r':List Tok} (hx:x.text≠[99,111,118,101,110,97,110,116]):∀ (ls:List Cov) (f:Nat) (acc:List Cov) (r:List Tok),Reps (ls.flatMap covP++x::l) r r'→r.length≤f→Fin1 r→(∀ a∈ls,nameB a.name=true∧rightE a.must=true∧0≤a.grace∧a.grace≤1000)→((acc++ls).map Cov.name).Nodup→(acc++ls).length≤20 →
  ∃ r1,covsP f acc r=.ok (acc++ls,r1)∧Reps (x::l) r1 r'
 | [],f,acc,r,h,hl,hf,_,_,_=>by
  have h:Reps (x::l) r r':=h
  refine ⟨r,?_,h⟩
  obtain ⟨g,rfl⟩:∃ g,f=g+1:=⟨f-1,by have:=List.length_pos_iff.2 (rep_ne h);omega⟩
  rw [covsP,if_pos (by rw [isT_rep h,decide_eq_false hx,Bool.and_false]),List.append_nil]
 | a::ls,f,acc,r,h,hl,hf,ha,hnd,hlen=>by
  have h:Reps (wP [99,111,118,101,110,97,110,116]::wP a.name::wP [109,117,115,116]::(showW 12 a.must 0++wP [103,114,97,99,101]::nP a.grace::sP [59]::(ls.flatMap covP++x::l))) r r':=by
   simpa [covP] using h
  obtain ⟨g,rfl⟩:∃ g,f=g+1:=⟨f-1,by have:=List.length_pos_iff.2 (rep_ne h);omega⟩
  obtain ⟨hn,hr,hg⟩:=ha a (by simp)
  have hm:¬ a.name∈acc.map Cov.name:=by
   intro hm
   rw [List.map_append,List.nodup_append] at hnd
   exact hnd.2.2 _ hm _ (by simp) rfl
  have h1:=tail_rep h
  have f1:=fin_tail h hf
  obtain ⟨r1,e1,h2⟩:=fresh_rep h1 hn hm
  have f2:Fin1 r1:=(freshP_suf e1).2 f1
  obtain ⟨r2,e2,h3,_⟩:=wantR h2 (nk_w _) rfl
  have e2:wantP [109,117,115,116] r1=.ok r2:=e2
  have f3:Fin1 r2:=(wantP_suf e2).2 f2
  obtain ⟨r3,e3,h4⟩:=whole_rep hr h3 (nk_w _) (by decide) (by decide) f3
  have e3:wholeP [103,114,97,99,101] r2=.ok (a.must,r3):=e3
  have f4:Fin1 r3:=(wholeP_suf e3).2 f3
  obtain ⟨r4,e4,h5,_⟩:=numR' h4 hg
  have f5:Fin1 r4:=(numP_suf e4).1.2 f4
  obtain ⟨r6,e6,h6,_⟩:=wantR h5 (nk_s _) rfl
  have e6:wantP [59] r4=.ok r6:=e6
  have f6:Fin1 r6:=(wantP_suf e6).2 f5
  have hl4:r6.length≤g:=by
   have q1:=(freshP_suf e1).le
   have q2:=(wantP_suf e2).le
   have q3:=(wholeP_suf e3).le
   have q4:=tail_lt hf
   have q5:=(numP_suf e4).1.le
   have q6:=(wantP_suf e6).le
   omega
  have hap:acc++a::ls=(acc++[a])++ls:=by simp
  obtain ⟨r9,e9,h9⟩:=covs_rep hx ls g (acc++[a]) r6 h6 hl4 f6 (fun b hb=>ha b (by simp [hb])) (by rw [← hap];exact hnd) (by rw [← hap];exact hlen)
  refine ⟨r9,?_,h9⟩
  have hlt:(acc.length:Int)<20:=by
   rw [List.length_append,List.length_cons] at hlen
   omega
  rw [covsP,if_neg (by rw [isT_rep h];decide),if_neg (by omega),e1]
  dsimp only
  rw [e2]
  dsimp only
  rw [e3]
  dsimp only
  rw [e4]
  dsimp only
  rw [e6]
  dsimp only
  rw [hap]
  exact e9
theorem calls_rep {x:Pc} {l:List Pc} {r':List Tok} (hx:x.text≠[99,97,108,108]):∀ (ls:List CallE) (f:Nat) (acc:List CallE) (r:List Tok),Reps (ls.flatMap callP++x::l) r r'→r.length≤f→Fin1 r→(∀ a∈ls,(0≤a.a∧a.a≤200000)∧0≤a.b∧a.b≤10000)→(acc++ls).length≤20 →
  ∃ r1,callsP f acc r=.ok (acc++ls,r1)∧Reps (x::l) r1 r'
 | [],f,acc,r,h,hl,hf,_,_=>by
  have h:Reps (x::l) r r':=h
  refine ⟨r,?_,h⟩
  obtain ⟨g,rfl⟩:∃ g,f=g+1:=⟨f-1,by have:=List.length_pos_iff.2 (rep_ne h);omega⟩
  rw [callsP,if_pos (by rw [isT_rep h,decide_eq_false hx,Bool.and_false]),List.append_nil]
 | a::ls,f,acc,r,h,hl,hf,ha,hlen=>by
  have h:Reps (wP [99,97,108,108]::(dayP a.a++wP [97,116]::nP a.b::sP [59]::(ls.flatMap callP++x::l))) r r':=by
   simpa [callP] using h
  obtain ⟨g,rfl⟩:∃ g,f=g+1:=⟨f-1,by have:=List.length_pos_iff.2 (rep_ne h);omega⟩
  obtain ⟨hd,hb⟩:=ha a (by simp)
  have h1:=tail_rep h
  have f1:Fin1 r.tail:=hf.tail (by
   obtain ⟨t,q,rfl,k1,_,_,_⟩:=reps_cons h
   show t.kind≠3
   rw [k1]
   exact nk_w _)
  obtain ⟨r1,e1,h2⟩:=date_rep (least:=-1) hd.1 hd.2 (by omega) h1
  have f2:Fin1 r1:=(dateP_suf e1).2 f1
  obtain ⟨r2,e2,h3,_⟩:=wantR h2 (nk_w _) rfl
  have e2:wantP [97,116] r1=.ok r2:=e2
  have f3:Fin1 r2:=(wantP_suf e2).2 f2
  obtain ⟨r4,e4,h5,_⟩:=numR' h3 hb
  have f5:Fin1 r4:=(numP_suf e4).1.2 f3
  obtain ⟨r6,e6,h6,_⟩:=wantR h5 (nk_s _) rfl
  have e6:wantP [59] r4=.ok r6:=e6
  have f6:Fin1 r6:=(wantP_suf e6).2 f5
  have hl4:r6.length≤g:=by
   have q1:=(dateP_suf e1).le
   have q2:=(wantP_suf e2).le
   have q4:=tail_lt hf
   have q5:=(numP_suf e4).1.le
   have q6:=(wantP_suf e6).le
   omega
  have hap:acc++a::ls=(acc++[a])++ls:=by simp
  obtain ⟨r9,e9,h9⟩:=calls_rep hx ls g (acc++[a]) r6 h6 hl4 f6 (fun b hb=>ha b (by simp [hb])) (by rw [← hap];exact hlen)
  refine ⟨r9,?_,h9⟩
  have hlt:(acc.length:Int)<20:=by
   rw [List.length_append,List.length_cons] at hlen
   omega
  rw [callsP,if_neg (by rw [isT_rep h];decide),if_neg (by omega),e1]
  dsimp only
  rw [e2]
  dsimp only
  rw [e4]
  dsimp only
  rw [e6]
  dsimp only
  rw [hap]
  exact e9
theorem favL_rep {l:List Pc} {r':List Tok}:∀ (ns:List (List UInt8)) (f:Nat) (acc:List (List UInt8)) (r:List Tok),Reps (ns.map wP++sP [59]::l) r r'→r.length≤f→Fin1 r→(acc≠[]∨ns≠[])→(∀ s∈ns,nameB s=true)→(acc++ns).Nodup→(acc++ns).length≤20 →
  ∃ r1,favL f acc r=.ok (acc++ns,r1)∧Reps (sP [59]::l) r1 r'
 | [],f,acc,r,h,hl,hf,hne,_,_,_=>by
  have h:Reps (sP [59]::l) r r':=h
  refine ⟨r,?_,h⟩
  obtain ⟨g,rfl⟩:∃ g,f=g+1:=⟨f-1,by have:=List.length_pos_iff.2 (rep_ne h);omega⟩
  have h0:acc≠[]:=hne.resolve_right (fun x=>x rfl)
  have h1:=List.length_pos_iff.2 h0
  rw [favL,if_neg (by rw [isT_rep h];rintro (h9 | h9);omega;exact absurd h9 (by decide)),List.append_nil]
 | s::ns,f,acc,r,h,hl,hf,_,ha,hnd,hlen=>by
  have h:Reps (wP s::(ns.map wP++sP [59]::l)) r r':=h
  obtain ⟨g,rfl⟩:∃ g,f=g+1:=⟨f-1,by have:=List.length_pos_iff.2 (rep_ne h);omega⟩
  have hn:=ha s (by simp)
  have hm:¬ s∈acc:=by
   intro hm
   rw [List.nodup_append] at hnd
   exact hnd.2.2 _ hm _ (by simp) rfl
  obtain ⟨r1,e1,h2⟩:=fresh_rep h hn hm
  have f2:Fin1 r1:=(freshP_suf e1).2 hf
  have hl4:r1.length≤g:=by
   have q1:=h.len
   have q2:=h2.len
   simp only [List.length_cons] at q1
   omega
  have hap:acc++s::ns=(acc++[s])++ns:=by simp
  obtain ⟨r9,e9,h9⟩:=favL_rep ns g (acc++[s]) r1 h2 hl4 f2 (.inl (by simp)) (fun b hb=>ha b (by simp [hb])) (by rw [← hap];exact hnd) (by rw [← hap];exact hlen)
  refine ⟨r9,?_,h9⟩
  have hlt:(acc.length:Int)<20:=by
   rw [List.length_append,List.length_cons] at hlen
   omega
  have hnb:namedB r=true:=by
   obtain ⟨t,q,rfl,k1,k2,_,_⟩:=reps_cons h
   have k1:t.kind=0:=k1
   have k2:t.text=s:=k2
   show (decide (t.kind=0)&&nameB t.text)=true
   rw [k1,k2,hn]
   rfl
  have h59:isT [59] r=false:=by rw [isT_rep h,decide_eq_false (show ¬ (wP s).text=[59] from word_first hn 59 (by decide)),Bool.and_false]
  rw [favL_go (.inr h59) hnb hlt,e1]
  dsimp only
  rw [hap]
  exact e9
def favPc (l:List (List UInt8)):List Pc:=if 0<l.length then wP [102,97,118,111,117,114]::(l.map wP++[sP [59]]) else []
theorem fav_rep {x:Pc} {l:List Pc} {r r':List Tok} (hx:x.text≠[102,97,118,111,117,114]) {ns:List (List UInt8)} (h:Reps (favPc ns++x::l) r r') (hf:Fin1 r) (ha:∀ s∈ns,nameB s=true) (hnd:ns.Nodup) (hlen:ns.length≤20) :
  ∃ r1,favP r=.ok (ns,r1)∧Reps (x::l) r1 r':=by
 unfold favPc at h
 by_cases h0:0<ns.length
 ·rw [if_pos h0] at h
  have h:Reps (wP [102,97,118,111,117,114]::(ns.map wP++sP [59]::x::l)) r r':=by simpa using h
  have h1:=tail_rep h
  have f1:Fin1 r.tail:=hf.tail (by
   obtain ⟨t,q,rfl,k1,_,_,_⟩:=reps_cons h
   show t.kind≠3
   rw [k1]
   exact nk_w _)
  obtain ⟨r1,e1,h2⟩:=favL_rep ns r.tail.length [] r.tail h1 (Nat.le_refl _) f1 (.inr (List.length_pos_iff.1 h0)) ha hnd hlen
  obtain ⟨r2,e2,h3,_⟩:=wantR h2 (nk_s _) rfl
  have e2:wantP [59] r1=.ok r2:=e2
  refine ⟨r2,?_,h3⟩
  unfold favP
  rw [if_neg (by rw [isT_rep h];decide),e1]
  dsimp only
  rw [e2]
  rfl
 ·rw [if_neg h0] at h
  have h:Reps (x::l) r r':=h
  refine ⟨r,?_,h⟩
  unfold favP
  rw [if_pos (by rw [isT_rep h,decide_eq_false hx,Bool.and_false])]
  have:ns=[]:=List.length_eq_zero_iff.1 (by omega)
  rw [this]
def croPc (x:Ind):List Pc:=if 0≤x.cross then [wP [99,114,111,115,115],nP x.cross,sP [59]] else []
def notPc (x:Ind):List Pc:=if 0<x.notice then [wP [110,111,116,105,99,101],nP x.notice,sP [59]] else []
def sinPc (x:Ind):List Pc:=if 0<x.sink then [wP [115,105,110,107],nP x.sink,sP [59]] else []
def HN (w:List UInt8) (l:List Pc):Prop:=∃ y k,l=y::k∧y.text≠w
theorem HN.cons {w:List UInt8} {y:Pc} {k:List Pc} (h:y.text≠w):HN w (y::k):=⟨y,k,rfl,h⟩
theorem hn_opt {w:List UInt8} {a b:List Pc} (ha:a=[]∨HN w a) (hb:HN w b):HN w (a++b):=by
 rcases ha with rfl | ⟨y,k,rfl,h⟩
 ·exact hb
 ·exact ⟨y,k++b,rfl,h⟩
theorem maybe_opt {w:List UInt8} {a n0 n:Int} {o l:List Pc} {r r':List Tok} (h:Reps (o++l) r r') (ho:(o=[wP w,nP n,sP [59]]∧0≤n∧n≤a)∨(o=[]∧n=n0)) (hl:HN w l):∃ r1,maybeP w a n0 r=.ok (n,r1)∧Reps l r1 r':=by
 rcases ho with ⟨rfl,hn⟩ | ⟨rfl,rfl⟩
 ·exact maybe_rep h hn
 ·obtain ⟨y,k,rfl,hy⟩:=hl
  exact ⟨r,maybe_no h hy,h⟩
def tailPc (x:Ind):List Pc:=[wP [109,97,106,111,114,105,116,121],nP x.majority,sP [59],wP [102,97,115,116],nP x.fast,sP [59],endP]
def indPc (x:Ind):List Pc :=
 wP [105,115,115,117,101]::wP x.name::wP [111,102]::wP x.issuer::sP [59]::wP [102,97,99,101]::nP x.face::sP [59] ::
 wP [102,114,111,109]::(dayP x.frm++wP [116,111]::(dayP x.to++wP [101,118,101,114,121]::nP x.every::wP [109,111,110,116,104,115]::sP [59] ::
 wP [99,111,117,110,116]::wP (cntW.getD x.count.toNat [])::sP [59]::wP [97,100,106,117,115,116]::wP (adjW.getD x.adjust.toNat [])::sP [59] ::
 wP [114,101,99,111,114,100]::nP x.record::sP [59]::wP [114,97,110,107]::nP x.rank::sP [59] ::
 (x.lets.flatMap letP++wP [99,111,117,112,111,110]::(showW 12 x.coupon 0++sP [59]::wP [99,97,112]::nP x.cap::sP [59] ::
 (x.cov.flatMap covP++(favPc x.favour++(croPc x++(x.calls.flatMap callP++(notPc x++(sinPc x++tailPc x)))))))) ))
theorem call_hd (ls:List CallE) {w:List UInt8} (hw:[99,97,108,108]≠w):ls.flatMap callP=[]∨HN w (ls.flatMap callP):=by
 cases ls with
 | nil=>exact .inl rfl
 | cons a ls=>exact .inr ⟨wP [99,97,108,108],_,rfl,hw⟩
theorem ind_rep {x:Ind} (R:Rt x) {r:List Tok} (h:Reps (indPc x) r []) (hf:Fin1 r):∃ r1,indP r=.ok (x,r1):=by
 obtain ⟨ul1,ul2,ul3⟩:=(uniq_iff _ _).1 R.ulets
 obtain ⟨uc1,uc2,uc3⟩:=(uniq_iff _ _).1 R.ucov
 obtain ⟨uf1,uf2,uf3⟩:=(uniq_iff _ _).1 R.fav
 rw [List.length_map] at ul3 uc3
 have hN:∀ {w v:List UInt8} {n:Int},∀ {k:List Pc},v≠w→HN w (wP v::k):=fun h=>.cons h
 have t6:∀ {w:List UInt8},[109,97,106,111,114,105,116,121]≠w→HN w (tailPc x):=fun h=>.cons h
 have t5:∀ {w:List UInt8},[115,105,110,107]≠w→[109,97,106,111,114,105,116,121]≠w→HN w (sinPc x++tailPc x):=fun h h'=>hn_opt (by unfold sinPc;split;exact .inr (.cons h);exact .inl rfl) (t6 h')
 have t4:∀ {w:List UInt8},[110,111,116,105,99,101]≠w→[115,105,110,107]≠w→[109,97,106,111,114,105,116,121]≠w→HN w (notPc x++(sinPc x++tailPc x)):=fun h0 h h'=>hn_opt (by unfold notPc;split;exact .inr (.cons h0);exact .inl rfl) (t5 h h')
 have t3:∀ {w:List UInt8},[99,97,108,108]≠w→[110,111,116,105,99,101]≠w→[115,105,110,107]≠w→[109,97,106,111,114,105,116,121]≠w→HN w (x.calls.flatMap callP++(notPc x++(sinPc x++tailPc x))):=fun h1 h0 h h'=>hn_opt (call_hd _ h1) (t4 h0 h h')
 have t2:∀ {w:List UInt8},[99,114,111,115,115]≠w→[99,97,108,108]≠w→[110,111,116,105,99,101]≠w→[115,105,110,107]≠w→[109,97,106,111,114,105,116,121]≠w→HN w (croPc x++(x.calls.flatMap callP++(notPc x++(sinPc x++tailPc x)))):=fun h2 h1 h0 h h'=>hn_opt (by unfold croPc;split;exact .inr (.cons h2);exact .inl rfl) (t3 h1 h0 h h')
 have t1:∀ {w:List UInt8},[102,97,118,111,117,114]≠w→[99,114,111,115,115]≠w→[99,97,108,108]≠w→[110,111,116,105,99,101]≠w→[115,105,110,107]≠w→[109,97,106,111,114,105,116,121]≠w→HN w (favPc x.favour++(croPc x++(x.calls.flatMap callP++(notPc x++(sinPc x++tailPc x))))):=fun h3 h2 h1 h0 h h'=>hn_opt (by unfold favPc;split;exact .inr (.cons h3);exact .inl rfl) (t2 h2 h1 h0 h h')
 unfold indPc at h
 have h0:=h
 have f0:=hf
 obtain ⟨r1,e1,h1,_⟩:=wantR h0 (nk_w _) rfl
 have e1:wantP [105,115,115,117,101] r=.ok r1:=e1
 have f1:Fin1 r1:=(wantP_suf e1).2 f0
 obtain ⟨r2,e2,h2⟩:=name_rep h1 R.name
 have e2:nameP r1=.ok (x.name,r2):=e2
 have f2:Fin1 r2:=(nameP_suf e2).2 f1
 obtain ⟨r3,e3,h3,_⟩:=wantR h2 (nk_w _) rfl
 have e3:wantP [111,102] r2=.ok r3:=e3
 have f3:Fin1 r3:=(wantP_suf e3).2 f2
 obtain ⟨r4,e4,h4⟩:=name_rep h3 R.issuer
 have e4:nameP r3=.ok (x.issuer,r4):=e4
 have f4:Fin1 r4:=(nameP_suf e4).2 f3
 obtain ⟨r5,e5,h5,_⟩:=wantR h4 (nk_s _) rfl
 have e5:wantP [59] r4=.ok r5:=e5
 have f5:Fin1 r5:=(wantP_suf e5).2 f4
 obtain ⟨r6,e6,h6⟩:=part_rep h5 R.face
 have e6:partP [102,97,99,101] 1 1000000000000000 r5=.ok (x.face,r6):=e6
 have f6:Fin1 r6:=(partP_suf e6).2 f5
 obtain ⟨r7,e7,h7,_⟩:=wantR h6 (nk_w _) rfl
 have e7:wantP [102,114,111,109] r6=.ok r7:=e7
 have f7:Fin1 r7:=(wantP_suf e7).2 f6
 obtain ⟨r8,e8,h8⟩:=date_rep (least:=-1) R.frm.1 R.frm.2 (by have:=R.frm.1;omega) h7
 have e8:dateP (-1) r7=.ok (x.frm,r8):=e8
 have f8:Fin1 r8:=(dateP_suf e8).2 f7
 obtain ⟨r9,e9,h9,_⟩:=wantR h8 (nk_w _) rfl
 have e9:wantP [116,111] r8=.ok r9:=e9
 have f9:Fin1 r9:=(wantP_suf e9).2 f8
 obtain ⟨r10,e10,h10⟩:=date_rep R.to.1 R.to.2 R.before h9
 have e10:dateP x.frm r9=.ok (x.to,r10):=e10
 have f10:Fin1 r10:=(dateP_suf e10).2 f9
 obtain ⟨r11,e11,h11,_⟩:=wantR h10 (nk_w _) rfl
 have e11:wantP [101,118,101,114,121] r10=.ok r11:=e11
 have f11:Fin1 r11:=(wantP_suf e11).2 f10
 obtain ⟨r12,e12,h12⟩:=num_rep h11 R.every
 have e12:numP 1 120 r11=.ok (x.every,r12):=e12
 have f12:Fin1 r12:=((numP_suf e12).1).2 f11
 obtain ⟨r13,e13,h13,_⟩:=wantR h12 (nk_w _) rfl
 have e13:wantP [109,111,110,116,104,115] r12=.ok r13:=e13
 have f13:Fin1 r13:=(wantP_suf e13).2 f12
 obtain ⟨r14,e14,h14,_⟩:=wantR h13 (nk_s _) rfl
 have e14:wantP [59] r13=.ok r14:=e14
 have f14:Fin1 r14:=(wantP_suf e14).2 f13
 obtain ⟨r15,e15,h15⟩:=one_cnt R.count.1 R.count.2 h14
 have e15:oneP [99,111,117,110,116] cntW r14=.ok (x.count,r15):=e15
 have f15:Fin1 r15:=(oneP_suf e15).2 f14
 obtain ⟨r16,e16,h16⟩:=one_adj R.adjust.1 R.adjust.2 h15
 have e16:oneP [97,100,106,117,115,116] adjW r15=.ok (x.adjust,r16):=e16
 have f16:Fin1 r16:=(oneP_suf e16).2 f15
 obtain ⟨r17,e17,h17⟩:=part_rep h16 R.record
 have e17:partP [114,101,99,111,114,100] 0 100 r16=.ok (x.record,r17):=e17
 have f17:Fin1 r17:=(partP_suf e17).2 f16
 obtain ⟨r18,e18,h18⟩:=part_rep h17 R.rank
 have e18:partP [114,97,110,107] 0 9 r17=.ok (x.rank,r18):=e18
 have f18:Fin1 r18:=(partP_suf e18).2 f17
 obtain ⟨r19,e19,h19⟩:=lets_rep (x:=wP [99,111,117,112,111,110]) (by decide) x.lets r18.length [] r18 h18 (Nat.le_refl _) f18 (fun a ha=>⟨ul1 _ (List.mem_map_of_mem ha),R.lets a ha⟩) ul2 (by show x.lets.length≤20;omega)
 have e19:letsP r18.length [] r18=.ok (x.lets,r19):=e19
 have f19:Fin1 r19:=(letsP_suf _ e19).2 f18
 obtain ⟨r20,e20,h20,_⟩:=wantR h19 (nk_w _) rfl
 have e20:wantP [99,111,117,112,111,110] r19=.ok r20:=e20
 have f20:Fin1 r20:=(wantP_suf e20).2 f19
 obtain ⟨r21,e21,h21⟩:=whole_rep R.coupon h20 (nk_s _) (by decide) (by decide) f20
 have e21:wholeP [59] r20=.ok (x.coupon,r21):=e21
 have f21:Fin1 r21:=(wholeP_suf e21).2 f20
 obtain ⟨r22,e22,h22⟩:=part_rep h21 R.cap
 have e22:partP [99,97,112] 0 10000 r21=.ok (x.cap,r22):=e22
 have f22:Fin1 r22:=(partP_suf e22).2 f21
 obtain ⟨y23,k23,q23,w23⟩:=t1 (w:=[99,111,118,101,110,97,110,116]) (by decide) (by decide) (by decide) (by decide) (by decide) (by decide)
 rw [q23] at h22
 obtain ⟨r23,e23,h23⟩:=covs_rep w23 x.cov r22.length [] r22 h22 (Nat.le_refl _) f22 (fun a ha=>⟨uc1 _ (List.mem_map_of_mem ha),R.cov a ha⟩) uc2 (by show x.cov.length≤20;omega)
 have e23:covsP r22.length [] r22=.ok (x.cov,r23):=e23
 have f23:Fin1 r23:=(covsP_suf _ e23).2 f22
 rw [← q23] at h23
 obtain ⟨y24,k24,q24,w24⟩:=t2 (w:=[102,97,118,111,117,114]) (by decide) (by decide) (by decide) (by decide) (by decide)
 rw [q24] at h23
 obtain ⟨r24,e24,h24⟩:=fav_rep w24 h23 f23 uf1 uf2 (by omega)
 have e24:favP r23=.ok (x.favour,r24):=e24
 have f24:Fin1 r24:=(favP_suf e24).2 f23
 rw [← q24] at h24
 obtain ⟨r25,e25,h25⟩:=maybe_opt h24 (n0:=-1) (n:=x.cross) (a:=1000000000000000) (by unfold croPc;have:=R.cross;split;exact .inl ⟨rfl,by omega,by omega⟩;exact .inr ⟨rfl,by omega⟩) (t3 (by decide) (by decide) (by decide) (by decide))
 have e25:maybeP [99,114,111,115,115] 1000000000000000 (-1) r24=.ok (x.cross,r25):=e25
 have f25:Fin1 r25:=(maybeP_suf e25).2 f24
 obtain ⟨y26,k26,q26,w26⟩:=t4 (w:=[99,97,108,108]) (by decide) (by decide) (by decide)
 rw [q26] at h25
 obtain ⟨r26,e26,h26⟩:=calls_rep w26 x.calls r25.length [] r25 h25 (Nat.le_refl _) f25 R.calls R.ncalls
 have e26:callsP r25.length [] r25=.ok (x.calls,r26):=e26
 have f26:Fin1 r26:=(callsP_suf _ e26).2 f25
 rw [← q26] at h26
 obtain ⟨r27,e27,h27⟩:=maybe_opt h26 (n0:=0) (n:=x.notice) (a:=1000) (by unfold notPc;have:=R.notice;split;exact .inl ⟨rfl,by omega,by omega⟩;exact .inr ⟨rfl,by omega⟩) (t5 (by decide) (by decide))
 have e27:maybeP [110,111,116,105,99,101] 1000 0 r26=.ok (x.notice,r27):=e27
 have f27:Fin1 r27:=(maybeP_suf e27).2 f26
 obtain ⟨r28,e28,h28⟩:=maybe_opt h27 (n0:=0) (n:=x.sink) (a:=1000) (by unfold sinPc;have:=R.sink;split;exact .inl ⟨rfl,by omega,by omega⟩;exact .inr ⟨rfl,by omega⟩) (t6 (by decide))
 have e28:maybeP [115,105,110,107] 1000 0 r27=.ok (x.sink,r28):=e28
 have f28:Fin1 r28:=(maybeP_suf e28).2 f27
 obtain ⟨r29,e29,h29⟩:=part_rep h28 R.majority
 have e29:partP [109,97,106,111,114,105,116,121] 1 1000 r28=.ok (x.majority,r29):=e29
 have f29:Fin1 r29:=(partP_suf e29).2 f28
 obtain ⟨r30,e30,h30⟩:=part_rep h29 R.fast
 have e30:partP [102,97,115,116] 1 1000 r29=.ok (x.fast,r30):=e30
 have f30:Fin1 r30:=(partP_suf e30).2 f29
 obtain ⟨t,q,rfl,k1,_,_,_⟩:=reps_cons h30
 refine ⟨t::q,?_⟩
 have hk:(hdT (t::q)).kind=3:=k1
 simp only [indP,wantsP,e1,e2,e3,e4,e5,e6,e7,e8,e9,e10,e11,e12,e13,e14,e15,e16,e17,e18,e19,e20,e21,e22,e23,e24,e25,e26,e27,e28,e29,e30,ok_bind,er_bind]
 rw [if_pos hk]
theorem gd_kw {s:List UInt8} (h:s∈resW):GoodP (wP s):=good_kw h
theorem gd_sg {s:List UInt8} (h:s∈signs):GoodP (sP s):=good_sign h
theorem show_good {e:Exp} {d:Nat} (h:GoodL (bodyW d e)) (least:Int):GoodL (showW d e least):=parW_good h
theorem body_good {e:Exp} (h:WfE e):∀ d:Nat,GoodL (bodyW d e):=by
 induction h with
 | num n u h0 h1 hu =>
  intro d
  cases d with
  | zero=>exact .nil
  | succ d =>
   have hn:GoodP (nP n):=good_num h0 h1
   show GoodL (numW n u)
   unfold numW
   rw [if_neg (by omega)]
   split
   ·exact .cons hn (.cons (gd_kw dd0) .nil)
   split
   ·exact .cons hn (.cons (gd_kw dd0) .nil)
   split
   ·exact .cons hn (.cons (gd_kw dd0) .nil)
   ·exact .cons hn .nil
 | boo n h =>
  intro d
  cases d with
  | zero=>exact .nil
  | succ d =>
   rcases h with rfl | rfl
   ·exact .cons (gd_kw dd0) .nil
   ·exact .cons (gd_kw dd0) .nil
 | name op s ho hn hl =>
  intro d
  cases d with
  | zero=>exact .nil
  | succ d =>
   have hg:GoodP (wP s):=good_name hn
   rcases ho with rfl | rfl | rfl
   ·exact .cons hg .nil
   ·exact .cons (gd_kw dd0) (.cons hg .nil)
   ·exact .cons (gd_kw dd0) (.cons hg .nil)
 | within op n x ho hn hx ih =>
  intro d
  cases d with
  | zero=>exact .nil
  | succ d =>
   have hn:GoodP (nP n):=good_num (by omega) (by omega)
   have hs:=show_good (ih d) 0
   rcases ho with rfl | rfl | rfl
   ·exact ((GoodL.cons (gd_kw dd0) (.cons hn (.cons (gd_sg dd0) .nil))).app hs).app (.cons (gd_sg dd0) .nil)
   ·exact ((GoodL.cons (gd_kw dd0) (.cons hn (.cons (gd_sg dd0) .nil))).app hs).app (.cons (gd_sg dd0) .nil)
   ·exact ((GoodL.cons (gd_kw dd0) (.cons hn (.cons (gd_sg dd0) .nil))).app hs).app (.cons (gd_sg dd0) .nil)
 | not x hx ih =>
  intro d
  cases d with
  | zero=>exact .nil
  | succ d=>exact (GoodL.cons (gd_kw (by decide)) .nil).app (show_good (ih d) 3)
 | pair op x y ho hx hy ihx ihy =>
  intro d
  cases d with
  | zero=>exact .nil
  | succ d =>
   by_cases h:op=8∨op=9
   ·have sx:=show_good (ihx d) 0
    have sy:=show_good (ihy d) 0
    rcases h with rfl | rfl
    ·exact ((((GoodL.cons (gd_kw dd0) (.cons (gd_sg dd0) .nil)).app sx).app (.cons (gd_sg dd0) .nil)).app sy).app (.cons (gd_sg dd0) .nil)
    ·exact ((((GoodL.cons (gd_kw dd0) (.cons (gd_sg dd0) .nil)).app sx).app (.cons (gd_sg dd0) .nil)).app sy).app (.cons (gd_sg dd0) .nil)
   ·have hb:op=4∨op=5∨op=6∨op=7∨op=10∨op=11∨op=13∨op=14:=by omega
    rw [body_bin hb]
    have hN:opsN op=2:=by rcases hb with rfl | rfl | rfl | rfl | rfl | rfl | rfl | rfl<;>rfl
    exact (show_good (ihx d) _).app (.cons (good_opr hN om0 om0) (show_good (ihy d) _))
 | cond x y z hx hy hz ihx ihy ihz =>
  intro d
  cases d with
  | zero=>exact .nil
  | succ d=>exact (((((GoodL.cons (gd_kw (by decide)) .nil).app (show_good (ihx d) 0)).app (.cons (gd_kw (by decide)) .nil)).app (show_good (ihy d) 0)).app (.cons (gd_kw (by decide)) .nil)).app (show_good (ihz d) 0)
theorem exp_good {e:Exp} (h:rightE e=true):GoodL (showW 12 e 0):=show_good (body_good ((rightE_iff e).1 h).1 12) 0
def itemsL (l:List Pc):List (Pc×List UInt8):=l.map (fun x=>(x,[32]))++[(sP [59],[10])]
theorem lay_app:∀ (a b:List (Pc×List UInt8)),lay (a++b)=lay a++lay b
 | [],_=>rfl
 | x::a,b=>by
  rw [List.cons_append,lay,lay,lay_app a b,List.append_assoc,List.append_assoc]
theorem lay_map:∀ {l:List Pc},l≠[]→lay (l.map fun x=>(x,[32]))=joinP l++[32]
 | [],h=>(h rfl).elim
 | [x],_=>by simp [lay,joinP]
 | x::y::l,_=>by
  rw [joinP_cons x (by simp),List.map_cons,lay,lay_map (by simp)]
  simp
theorem lay_items {l:List Pc} (h:l≠[]):lay (itemsL l)=joinP l++[32,59,10]:=by
 unfold itemsL
 rw [lay_app,lay_map h]
 simp [lay,sP]
theorem layOk_of:∀ {l:List (Pc×List UInt8)},(∀ x∈l,GoodP x.1∧Blk x.2∧x.2≠[])→LayOk l
 | [],_=>trivial
 | x::l,h=>⟨(h x (by simp)).1,(h x (by simp)).2.1,.inr (h x (by simp)).2.2,layOk_of fun y hy=>h y (by simp [hy])⟩
theorem items_ok {l:List Pc} (h:GoodL l):∀ x∈itemsL l,GoodP x.1∧Blk x.2∧x.2≠[]:=by
 intro x hx
 unfold itemsL at hx
 have b32:Blk [32]:=fun c hc=>by rw [List.mem_singleton.1 hc];decide
 have b10:Blk [10]:=fun c hc=>by rw [List.mem_singleton.1 hc];decide
 rcases List.mem_append.1 hx with hx | hx
 ·obtain ⟨y,hy,rfl⟩:=List.mem_map.1 hx
  exact ⟨h y hy,b32,by simp⟩
 ·rw [List.mem_singleton.1 hx]
  exact ⟨gd_sg (by decide),b10,by simp⟩
def letL (x:LetE):List Pc:=wP [108,101,116]::wP x.name::sP [61]::showW 12 x.body 0
def covL (c:Cov):List Pc:=wP [99,111,118,101,110,97,110,116]::wP c.name::wP [109,117,115,116]::(showW 12 c.must 0++[wP [103,114,97,99,101],nP c.grace])
def callL (c:CallE):List Pc:=wP [99,97,108,108]::(dayP c.a++[wP [97,116],nP c.b])
def headL (x:Ind):List (List Pc):=[[wP [105,115,115,117,101],wP x.name,wP [111,102],wP x.issuer],[wP [102,97,99,101],nP x.face],
 wP [102,114,111,109]::(dayP x.frm++wP [116,111]::(dayP x.to++[wP [101,118,101,114,121],nP x.every,wP [109,111,110,116,104,115]])),
 [wP [99,111,117,110,116],wP (cntW.getD x.count.toNat [])],[wP [97,100,106,117,115,116],wP (adjW.getD x.adjust.toNat [])],[wP [114,101,99,111,114,100],nP x.record],[wP [114,97,110,107],nP x.rank]]
def midL (x:Ind):List (List Pc):=[wP [99,111,117,112,111,110]::showW 12 x.coupon 0,[wP [99,97,112],nP x.cap]]
def favLn (x:Ind):List (List Pc):=if 0<x.favour.length then [wP [102,97,118,111,117,114]::x.favour.map wP] else []
def croLn (x:Ind):List (List Pc):=if 0≤x.cross then [[wP [99,114,111,115,115],nP x.cross]] else []
def notLn (x:Ind):List (List Pc):=if 0<x.notice then [[wP [110,111,116,105,99,101],nP x.notice]] else []
def sinLn (x:Ind):List (List Pc):=if 0<x.sink then [[wP [115,105,110,107],nP x.sink]] else []
def endL (x:Ind):List (List Pc):=[[wP [109,97,106,111,114,105,116,121],nP x.majority],[wP [102,97,115,116],nP x.fast]]
def linesP (x:Ind):List (List Pc):=headL x++x.lets.map letL++midL x++x.cov.map covL++favLn x++croLn x++x.calls.map callL++notLn x++sinLn x++endL x
def LineEq (ws:List (List UInt8)) (l:List Pc):Prop:=lineT ws=lay (itemsL l)
theorem line_eq {ws:List (List UInt8)} {l:List Pc} (hl:l≠[]) (h:Lib.join ws [32]=joinP l):LineEq ws l:=by
 unfold LineEq lineT
 rw [lay_items hl,h]
theorem day_text (n:Int):joinP (dayP n)=dayT n:=by simp [joinP,dayP,dayT,nP,sP]
theorem let_eq {x:LetE} (h:rightE x.body=true):LineEq (letW x) (letL x):=by
 obtain ⟨t,ne⟩:=show_text (d:=12) h 0
 refine line_eq (by simp [letL]) ?_
 unfold letL
 rw [joinP_cons _ (by simp),joinP_cons _ (by simp),joinP_cons _ ne,t]
 simp [letW,Lib.join,wP,sP]
theorem cov_eq {c:Cov} (h:rightE c.must=true):LineEq (covW c) (covL c):=by
 obtain ⟨t,ne⟩:=show_text (d:=12) h 0
 refine line_eq (by simp [covL]) ?_
 unfold covL
 rw [joinP_cons _ (by simp),joinP_cons _ (by simp),joinP_cons _ (by simp),joinP_app ne (by simp),t]
 simp [covW,Lib.join,joinP,wP,nP]
theorem call_eq (c:CallE):LineEq (callW c) (callL c):=by
 refine line_eq (by simp [callL]) ?_
 unfold callL
 rw [joinP_cons _ (by simp),joinP_app (by simp [dayP]) (by simp),day_text]
 simp [callW,Lib.join,joinP,wP,nP]
inductive Fa2 {α β:Type} (R:α→β→Prop):List α→List β→Prop
 | nil:Fa2 R [] []
 | cons {a:α} {b:β} {l:List α} {m:List β} (h:R a b) (t:Fa2 R l m):Fa2 R (a::l) (b::m)
theorem lines_eq {x:Ind} (R:Rt x):txt (linesW x)=lay ((linesP x).flatMap itemsL):=by
 have key:∀ {A:List (List (List UInt8))} {B:List (List Pc)},Fa2 LineEq A B→txt A=lay (B.flatMap itemsL):=by
  intro A B h
  induction h with
  | nil=>rfl
  | cons h _ ih =>
   rw [List.flatMap_cons,lay_app,← ih,← h]
   simp [txt]
 have app:∀ {A A':List (List (List UInt8))} {B B':List (List Pc)},Fa2 LineEq A B→Fa2 LineEq A' B'→Fa2 LineEq (A++A') (B++B'):=by
  intro A A' B B' h h'
  induction h with
  | nil=>exact h'
  | cons h _ ih=>exact .cons h ih
 have mp:∀ {α:Type} {f:α→List (List UInt8)} {g:α→List Pc} (l:List α),(∀ a∈l,LineEq (f a) (g a))→Fa2 LineEq (l.map f) (l.map g):=by
  intro α f g l
  induction l with
  | nil=>intro _;exact .nil
  | cons a l ih=>intro h;exact .cons (h a (by simp)) (ih fun b hb=>h b (by simp [hb]))
 have two:∀ (s:List UInt8) (n:Int),LineEq [s,Lib.itoa n] [wP s,nP n]:=fun s n=>line_eq (by simp) (by simp [Lib.join,joinP,wP,nP])
 have wo:∀ (s t:List UInt8),LineEq [s,t] [wP s,wP t]:=fun s t=>line_eq (by simp) (by simp [Lib.join,joinP,wP])
 refine key ?_
 unfold linesW linesP
 refine app (app (app (app (app (app (app (app (app ?_ (mp _ fun a ha=>let_eq (R.lets a ha))) ?_) (mp _ fun a ha=>cov_eq (R.cov a ha).1)) ?_) ?_) (mp _ fun a _=>call_eq a)) ?_) ?_) ?_
 ·unfold headW headL
  refine .cons (line_eq (by simp) (by simp [Lib.join,joinP,wP])) (.cons (two _ _) (.cons ?_ (.cons (wo _ _) (.cons (wo _ _) (.cons (two _ _) (.cons (two _ _) .nil))))))
  refine line_eq (by simp) ?_
  rw [joinP_cons _ (by simp [dayP]),joinP_app (by simp [dayP]) (by simp),joinP_cons _ (by simp [dayP]),joinP_app (by simp [dayP]) (by simp),day_text,day_text]
  simp [Lib.join,joinP,wP,nP]
 ·obtain ⟨t,ne⟩:=show_text (d:=12) R.coupon 0
  unfold midW midL
  refine .cons (line_eq (by simp) ?_) (.cons (two _ _) .nil)
  rw [joinP_cons _ ne,t]
  simp [Lib.join,wP]
 ·unfold favW favLn
  split
  ·refine .cons (line_eq (by simp) ?_) .nil
   have:∀ l:List (List UInt8),Lib.joinTail [32] l=(l.map wP).flatMap fun y=>32::y.text:=by
    intro l
    induction l with
    | nil=>rfl
    | cons a l ih=>rw [List.map_cons,List.flatMap_cons,← ih];simp [Lib.joinTail,wP]
   rw [Lib.join_cons,this]
   rfl
  ·exact .nil
 ·unfold croW croLn
  split
  ·exact .cons (two _ _) .nil
  ·exact .nil
 ·unfold notW notLn
  split
  ·exact .cons (two _ _) .nil
  ·exact .nil
 ·unfold sinW sinLn
  split
  ·exact .cons (two _ _) .nil
  ·exact .nil
 ·exact .cons (two _ _) (.cons (two _ _) .nil)
theorem items_fst (L:List (List Pc)):(L.flatMap itemsL).map Prod.fst=L.flatMap fun l=>l++[sP [59]]:=by
 induction L with
 | nil=>rfl
 | cons l L ih =>
  rw [List.flatMap_cons,List.flatMap_cons,List.map_append,ih]
  congr 1
  unfold itemsL
  rw [List.map_append,List.map_map]
  have:(Prod.fst ∘ fun x:Pc=>(x,([32]:List UInt8)))=id:=rfl
  rw [this,List.map_id]
  rfl
theorem pieces_eq (x:Ind):((linesP x).flatMap itemsL).map Prod.fst++[endP]=indPc x:=by
 rw [items_fst]
 have e1:(x.lets.map letL).flatMap (fun l=>l++[sP [59]])=x.lets.flatMap letP:=by
  rw [List.flatMap_map]
  congr 1
 have e2:(x.cov.map covL).flatMap (fun l=>l++[sP [59]])=x.cov.flatMap covP:=by
  rw [List.flatMap_map]
  congr 1
  funext c
  simp [covL,covP]
 have e3:(x.calls.map callL).flatMap (fun l=>l++[sP [59]])=x.calls.flatMap callP:=by
  rw [List.flatMap_map]
  congr 1
 have e4:(favLn x).flatMap (fun l=>l++[sP [59]])=favPc x.favour:=by
  unfold favLn favPc
  split<;>simp
 have e5:(croLn x).flatMap (fun l=>l++[sP [59]])=croPc x:=by
  unfold croLn croPc
  split<;>simp
 have e6:(notLn x).flatMap (fun l=>l++[sP [59]])=notPc x:=by
  unfold notLn notPc
  split<;>simp
 have e7:(sinLn x).flatMap (fun l=>l++[sP [59]])=sinPc x:=by
  unfold sinLn sinPc
  split<;>simp
 unfold linesP
 simp only [List.flatMap_append,e1,e2,e3,e4,e5,e6,e7]
 unfold indPc tailPc headL midL endL
 simp
theorem day_good {n:Int} (h0:0≤n) (h1:n≤200000):GoodL (dayP n):=by
 obtain ⟨a,b,c⟩:=part_bnd h0 h1
 have ga:GoodP (nP (partY n)):=good_num a.1 a.2
 have gb:GoodP (nP (partM n)):=good_num b.1 b.2
 have gc:GoodP (nP (partD n)):=good_num c.1 c.2
 exact .cons ga (.cons (gd_sg dd0) (.cons gb (.cons (gd_sg dd0) (.cons gc .nil))))
theorem lines_good {x:Ind} (R:Rt x):∀ l∈linesP x,GoodL l:=by
 have gn:∀ {n:Int} (b:Int),0≤n∧n≤b→b≤1000000000000000→GoodP (nP n):=fun b h hb=>good_num h.1 (by omega)
 have gnm:∀ {s:List UInt8},nameB s=true→GoodP (wP s):=fun h=>good_name h
 have two:∀ {s:List UInt8} {n:Int} (b:Int),s∈resW→0≤n∧n≤b→b≤1000000000000000→GoodL [wP s,nP n]:=fun b hs h hb=>.cons (gd_kw hs) (.cons (gn b h hb) .nil)
 have hcnt:GoodP (wP (cntW.getD x.count.toNat [])):=by
  have h:=R.count
  have hi:x.count=0∨x.count=1∨x.count=2:=by omega
  rcases hi with e | e | e<;>rw [e]<;>exact gd_kw (by decide)
 have hadj:GoodP (wP (adjW.getD x.adjust.toNat [])):=by
  have h:=R.adjust
  have hi:x.adjust=0∨x.adjust=1∨x.adjust=2∨x.adjust=3:=by omega
  rcases hi with e | e | e | e<;>rw [e]<;>exact gd_kw (by decide)
 have ul:=(uniq_iff _ _).1 R.ulets
 have uc:=(uniq_iff _ _).1 R.ucov
 have uf:=(uniq_iff _ _).1 R.fav
 intro l hl
 unfold linesP at hl
 simp only [List.mem_append] at hl
 rcases hl with ((((((((hl | hl) | hl) | hl) | hl) | hl) | hl) | hl) | hl) | hl
 ·unfold headL at hl
  simp only [List.mem_cons,List.not_mem_nil,or_false] at hl
  rcases hl with rfl | rfl | rfl | rfl | rfl | rfl | rfl
  ·exact .cons (gd_kw dd0) (.cons (gnm R.name) (.cons (gd_kw dd0) (.cons (gnm R.issuer) .nil)))
  ·exact two _ dd0 ⟨by have:=R.face;omega,R.face.2⟩ om0
  ·exact .cons (gd_kw dd0) ((day_good R.frm.1 R.frm.2).app (.cons (gd_kw dd0) ((day_good R.to.1 R.to.2).app (.cons (gd_kw dd0) (.cons (gn 120 ⟨by have:=R.every;omega,R.every.2⟩ om0) (.cons (gd_kw dd0) .nil))))))
  ·exact .cons (gd_kw dd0) (.cons hcnt .nil)
  ·exact .cons (gd_kw dd0) (.cons hadj .nil)
  ·exact two _ dd0 R.record om0
  ·exact two _ dd0 R.rank om0
 ·obtain ⟨a,ha,rfl⟩:=List.mem_map.1 hl
  exact .cons (gd_kw dd0) (.cons (gnm (ul.1 _ (List.mem_map_of_mem ha))) (.cons (gd_sg dd0) (exp_good (R.lets a ha))))
 ·unfold midL at hl
  simp only [List.mem_cons,List.not_mem_nil,or_false] at hl
  rcases hl with rfl | rfl
  ·exact .cons (gd_kw dd0) (exp_good R.coupon)
  ·exact two _ dd0 R.cap om0
 ·obtain ⟨a,ha,rfl⟩:=List.mem_map.1 hl
  obtain ⟨h1,h2⟩:=R.cov a ha
  exact .cons (gd_kw dd0) (.cons (gnm (uc.1 _ (List.mem_map_of_mem ha))) (.cons (gd_kw dd0) ((exp_good h1).app (.cons (gd_kw dd0) (.cons (gn 1000 h2 om0) .nil)))))
 ·unfold favLn at hl
  split at hl
  ·rw [List.mem_singleton.1 hl]
   refine .cons (gd_kw dd0) fun y hy=>?_
   obtain ⟨s,hs,rfl⟩:=List.mem_map.1 hy
   exact gnm (uf.1 s hs)
  ·cases hl
 ·unfold croLn at hl
  split at hl
  ·rename_i h
   rw [List.mem_singleton.1 hl]
   exact two _ dd0 ⟨h,R.cross.2⟩ om0
  ·cases hl
 ·obtain ⟨a,ha,rfl⟩:=List.mem_map.1 hl
  obtain ⟨h1,h2⟩:=R.calls a ha
  exact .cons (gd_kw dd0) ((day_good h1.1 h1.2).app (.cons (gd_kw dd0) (.cons (gn 10000 h2 om0) .nil)))
 ·unfold notLn at hl
  split at hl
  ·rw [List.mem_singleton.1 hl]
   exact two _ dd0 R.notice om0
  ·cases hl
 ·unfold sinLn at hl
  split at hl
  ·rw [List.mem_singleton.1 hl]
   exact two _ dd0 R.sink om0
  ·cases hl
 ·unfold endL at hl
  simp only [List.mem_cons,List.not_mem_nil,or_false] at hl
  rcases hl with rfl | rfl
  ·exact two _ dd0 ⟨by have:=R.majority;omega,R.majority.2⟩ om0
  ·exact two _ dd0 ⟨by have:=R.fast;omega,R.fast.2⟩ om0
theorem lay_ok {x:Ind} (R:Rt x):LayOk ((linesP x).flatMap itemsL):=by
 refine layOk_of fun y hy=>?_
 obtain ⟨l,hl,hy⟩:=List.mem_flatMap.1 hy
 exact items_ok (lines_good R l hl) y hy
def Cost (e:Exp) (own:Int) (c:Nat):Prop:=∀ (d:Nat) (least:Int),lev e≤d→least≤own→(showW d e least).length≤c
theorem parW_no {f least:Int} (h:least≤f) (l:List Pc):parW f least l=l:=by unfold parW;rw [if_neg (by omega)]
theorem Cost.body {e:Exp} {own:Int} {c:Nat} (h:Cost e own c) (d:Nat) (hd:lev e≤d):(bodyW d e).length≤c:=by
 have:=h d (min own (formO e.op)) hd (Int.min_le_left _ _)
 unfold showW at this
 rw [parW_no (Int.min_le_right _ _)] at this
 exact this
theorem Cost.mono {e:Exp} {own:Int} {c c':Nat} (h:Cost e own c) (hc:c≤c'):Cost e own c':=fun d l hd hl=>Nat.le_trans (h d l hd hl) hc
def RecC (ex:Rec):Prop:=∀ form r e r',0≤form→form≤7→Fin1 r→ex form r=.ok (e,r')→∃ own,form≤own∧Cost e own (r.length-r'.length)
def itemsB (b:List UInt8):List Pc→List (Pc×List UInt8)
 | []=>[]
 | [x]=>[(x,[])]
 | x::y::l=>(x,b)::itemsB b (y::l)
theorem lay_itemsB:∀ l:List Pc,lay (itemsB [32] l)=joinP l
 | []=>rfl
 | [x]=>by simp [itemsB,lay,joinP]
 | x::y::l=>by
  rw [joinP_cons x (by simp),itemsB,lay,lay_itemsB (y::l)]
  simp
theorem itemsB_fst (b:List UInt8):∀ l:List Pc,(itemsB b l).map Prod.fst=l
 | []=>rfl
 | [x]=>rfl
 | x::y::l=>by rw [itemsB,List.map_cons,itemsB_fst b (y::l)]
theorem itemsB_ok {b:List UInt8} (hb:Blk b) (hn:b≠[]):∀ {l:List Pc},GoodL l→LayOk (itemsB b l)
 | [],_=>trivial
 | [x],h=>⟨h x (by simp),(fun c hc=>by cases hc),.inl rfl,trivial⟩
 | x::y::l,h=>⟨h x (by simp),hb,.inr hn,itemsB_ok hb hn fun z hz=>h z (by simp [List.mem_cons.1 hz])⟩
def pcs (R:List Tok):List Pc:=(R.map Tok.pc).filter fun x=>decide (x.kind≠3)
def cutT (T:List Tok) (i k:Nat):List Tok:=T.take i++(T.drop (i+1)).take (k-(i+1))++T.drop (k+1)
theorem parseE_er {s:List UInt8} {e:Er} (h:parseER s=.error e):e.2≠0:=by
 cases e1:lexR s with
 | error er =>
  have hp:parseER s=.error er:=by unfold parseER;rw [e1]
  rw [hp] at h
  cases h
  exact lexR_er e1
 | ok T =>
  have hst:=lex_sst e1
  have ha:=wholeE_ag hst.st.fin
  have ha:match parseER s with | .ok x=>(wholeS [] (sN T)).1=x∧(wholeS [] (sN T)).2.er=none | .error e=>(wholeS [] (sN T)).2.er=some e:=by unfold parseER;rw [e1];exact ha
  have hss:=whole_ss [] (sN T)
  rw [h] at ha
  exact hss.ok hst.ok e ha
structure SE (s s':Sr):Prop where
 ss:SS s s'
 pl:s.er=none→∀ e,s'.er=some e→∃ r,Suf s.r r∧e.1=(hdT r).pos
theorem SE.refl (s:Sr):SE s s:=⟨.refl s,fun h e he=>by rw [h] at he;cases he⟩
theorem SE.trans {a b c:Sr} (h:SE a b) (h':SE b c):SE a c:=⟨h.ss.trans h'.ss,fun ha e he=>by
 cases hb:b.er with
 | none =>
  obtain ⟨r,h1,h2⟩:=h'.pl hb e he
  exact ⟨r,h.ss.suf.trans h1,h2⟩
 | some x =>
  have hx:=h'.ss.keep x hb
  rw [he] at hx
  cases hx
  exact h.pl ha _ hb⟩
theorem fail_se (e:Int) (he:e≠0) (s:Sr):SE s (failS e s):=⟨fail_ss e he s,fun h x hx=>by
 rcases s with ⟨r,_ | y⟩
 ·cases hx
  exact ⟨r,.refl r,rfl⟩
 ·cases h⟩
theorem adv_se {s:Sr} (h:(nextS s).kind≠3) (h0:s.er=none):SE s (advS s):=⟨adv_ss h h0,fun h e he=>by
 have he:s.er=some e:=he
 rw [h] at he
 cases he⟩
def ReqE (ex:Req):Prop:=∀ form s,SE s (ex form s).2
theorem is_se {w:List UInt8} {s:Sr} (hw:w≠[]) (h:isS w s=true):SE s (advS s):=adv_se (is_kind h) (is_none hw h)
theorem want_se (w:List UInt8) (hw:w≠[]) (s:Sr):SE s (wantS w s):=by
 unfold wantS
 split
 ·rename_i h;exact is_se hw h
 ·exact fail_se _ dd0 _
theorem name_se (s:Sr):SE s (nameS s).2:=by
 unfold nameS
 split
 ·rename_i h
  refine adv_se ?_ (named_none h)
  unfold namedS at h
  simp only [Bool.and_eq_true,decide_eq_true_eq] at h
  show (nextS s).kind≠3
  rw [h.1];decide
 ·exact fail_se _ dd0 _
theorem num_se (a b:Int) (s:Sr):SE s (numS a b s).2:=by
 unfold numS
 split
 ·exact fail_se _ dd0 _
 ·rename_i h
  have h:=Decidable.of_not_not h
  split
  ·exact adv_se (by rw [h];decide) (kind_none h)
  ·exact fail_se _ dd0 _
theorem unit_se (s:Sr):SE s (unitS s).2:=by
 unfold unitS
 split
 ·rename_i h;exact is_se (by decide) h
 split
 ·rename_i h;exact is_se (by decide) h
 split
 ·rename_i h;exact is_se (by decide) h
 ·exact .refl _
theorem within_se {ex:Req} (h:ReqE ex) (op:Int) (s:Sr):SE s (withinS ex op s).2 :=
 (((num_se 1 1000 s).trans (want_se [40] (by decide) _)).trans (h _ _)).trans (want_se [41] (by decide) _)
theorem pair_se {ex:Req} (h:ReqE ex) (op:Int) (s:Sr):SE s (pairS ex op s).2 :=
 ((((want_se [40] (by decide) _).trans (h _ _)).trans (want_se [44] (by decide) _)).trans (h _ _)).trans (want_se [41] (by decide) _)
theorem paren_se {ex:Req} (h:ReqE ex) (s:Sr):SE s (parenS ex s).2:=(h _ _).trans (want_se [41] (by decide) _)
theorem prim_se {ex:Req} (h:ReqE ex) (s:Sr):SE s (primS ex s).2:=by
 unfold primS
 split
 ·rename_i hk
  exact (adv_se (by rw [hk];decide) (kind_none hk)).trans (unit_se _)
 split
 ·rename_i hb;exact is_se (by decide) hb
 split
 ·rename_i hb;exact is_se (by decide) hb
 split
 ·rename_i hb;exact (is_se (by decide) hb).trans (name_se _)
 split
 ·rename_i hb;exact (is_se (by decide) hb).trans (name_se _)
 split
 ·rename_i hb;exact (is_se (by decide) hb).trans (within_se h _ _)
 split
 ·rename_i hb;exact (is_se (by decide) hb).trans (within_se h _ _)
 split
 ·rename_i hb;exact (is_se (by decide) hb).trans (within_se h _ _)
 split
 ·rename_i hb;exact (is_se (by decide) hb).trans (pair_se h _ _)
 split
 ·rename_i hb;exact (is_se (by decide) hb).trans (pair_se h _ _)
 split
 ·rename_i hb;exact (is_se (by decide) hb).trans (paren_se h _)
 ·exact name_se _
theorem loop_se {ex:Req} (h:ReqE ex) (form:Int):∀ (f:Nat) (e:Exp) (s:Sr),SE s (loopS ex form f e s).2
 | 0,_,s=>.refl s
 | f+1,e,s=>by
  unfold loopS
  split
  ·exact .refl _
  rename_i hc
  have hc:¬ (symT (nextS s)).1<0:=fun x=>hc (.inl x)
  have h1:SE s (advS s):=adv_se (sym_kind hc) (sym_none hc)
  split
  ·exact h1.trans (h _ _)
  ·exact (h1.trans (h _ _)).trans (loop_se h form f _ _)
theorem expT_se {ex:Req} (h:ReqE ex):ReqE (expT ex):=by
 intro form s
 unfold expT
 split
 ·exact .refl _
 split
 ·rename_i hb
  exact ((((is_se dd0 hb.2).trans (h _ _)).trans ((want_se _ dd0 _).trans (h _ _))).trans ((want_se _ dd0 _))).trans (h _ _)
 split
 ·exact h _ _
 split
 ·rename_i hb
  exact (is_se dd0 hb.2).trans (h _ _)
 split
 ·exact prim_se h _
 split
 ·exact h _ _
 ·exact (h _ _).trans (loop_se h _ _ _ _)
theorem expQ_se:∀ f:Nat,ReqE (expQ f)
 | 0=>fun _ s=>.refl s
 | f+1=>expT_se (expQ_se f)
theorem exC_se:ReqE exC:=fun form s=>expQ_se _ form s
theorem whole_se (w:List UInt8) (s:Sr):SE s (wholeS w s).2:=by
 unfold wholeS
 dsimp only
 have h1:=exC_se 0 s
 split
 ·exact h1
 rename_i h0
 split
 ·exact h1.trans (fail_se _ dd0 _)
 rename_i hb
 split
 ·exact h1.trans (fail_se _ dd0 _)
 split
 ·rename_i hw
  have hi:isS w (exC 0 s).2=true:=by
   cases hi:isS w (exC 0 s).2 with
   | true=>rfl
   | false=>exact (hb (.inr ⟨hw,hi⟩)).elim
  exact h1.trans (is_se hw hi)
 ·exact h1
theorem part_se (w:List UInt8) (hw:w≠[]) (a b:Int) (s:Sr):SE s (partS w a b s).2:=((want_se w hw s).trans (num_se a b _)).trans (want_se _ (by decide) _)
theorem maybe_se (w:List UInt8) (hw:w≠[]) (a n0:Int) (s:Sr):SE s (maybeS w a n0 s).2:=by
 unfold maybeS
 split
 ·exact part_se w hw _ _ _
 ·exact .refl _
theorem one_se (w:List UInt8) (hw:w≠[]) (ws:List (List UInt8)) (hws:∀ x∈ws,x≠[]) (s:Sr):SE s (oneS w ws s).2:=by
 unfold oneS
 dsimp only
 split
 ·exact (want_se w hw s).trans (fail_se _ dd0 _)
 rename_i hi
 have hlt:=idxP_lt (fun x=>isS x (wantS w s)) [] ws
 rcases hlt with hlt | hlt
 ·exact (hi hlt).elim
 have hm:ws.getD (idxP (fun x=>isS x (wantS w s)) ws).toNat []≠[]:=by
  apply hws
  rw [List.getD_eq_getElem?_getD,List.getElem?_eq_getElem hlt.1]
  exact List.getElem_mem _
 exact ((want_se w hw s).trans (is_se hm hlt.2)).trans (want_se _ dd0 _)
theorem date_se (least:Int) (s:Sr):SE s (dateS least s).2:=by
 unfold dateS
 dsimp only
 have h4:=(((num_se 0 1000000000000000 s).trans (want_se [45] (by decide) _)).trans (num_se 0 1000000000000000 _)).trans (want_se [45] (by decide) _)
 split
 ·exact h4.trans (fail_se _ dd0 _)
 rename_i hk
 have hk:=Decidable.of_not_not hk
 split
 ·exact h4.trans (fail_se _ dd0 _)
 split
 ·exact h4.trans (fail_se _ dd0 _)
 ·exact h4.trans (adv_se (by rw [hk];decide) (kind_none hk))
theorem fresh_se (names:List (List UInt8)) (s:Sr):SE s (freshS names s).2:=by
 unfold freshS
 split
 ·exact fail_se _ dd0 _
 rename_i hn
 have hn:namedS s=true:=by simpa using hn
 split
 ·exact fail_se _ dd0 _
 ·exact adv_se (named_kind hn) (named_none hn)
theorem lets_se:∀ (f:Nat) (ls:List LetE) (s:Sr),SE s (letsS f ls s).2
 | 0,_,s=>.refl s
 | f+1,ls,s=>by
  unfold letsS
  split
  ·exact .refl _
  rename_i hb
  split
  ·exact fail_se _ dd0 _
  ·exact ((((is_se dd0 (nf_t hb)).trans (fresh_se _ _)).trans (want_se _ dd0 _)).trans (whole_se _ _)).trans (lets_se f _ _)
theorem covs_se:∀ (f:Nat) (ls:List Cov) (s:Sr),SE s (covsS f ls s).2
 | 0,_,s=>.refl s
 | f+1,ls,s=>by
  unfold covsS
  split
  ·exact .refl _
  rename_i hb
  split
  ·exact fail_se _ dd0 _
  ·exact ((((((is_se dd0 (nf_t hb)).trans (fresh_se _ _)).trans (want_se _ dd0 _)).trans (whole_se _ _)).trans (num_se _ _ _)).trans (want_se _ dd0 _)).trans (covs_se f _ _)
theorem favQ_se:∀ (f:Nat) (ls:List (List UInt8)) (s:Sr),SE s (favQ f ls s).2
 | 0,_,s=>want_se _ (by decide) s
 | f+1,ls,s=>by
  unfold favQ
  split
  ·split
   ·exact fail_se _ dd0 _
   ·exact (fresh_se _ _).trans (favQ_se f _ _)
  ·exact want_se _ dd0 s
theorem fav_se (s:Sr):SE s (favS s).2:=by
 unfold favS
 split
 ·exact .refl _
 rename_i hb
 exact (is_se dd0 (nf_t hb)).trans (favQ_se _ _ _)
theorem calls_se:∀ (f:Nat) (ls:List CallE) (s:Sr),SE s (callsS f ls s).2
 | 0,_,s=>.refl s
 | f+1,ls,s=>by
  unfold callsS
  split
  ·exact .refl _
  rename_i hb
  split
  ·exact fail_se _ dd0 _
  ·exact (((((is_se dd0 (nf_t hb)).trans (date_se _ _)).trans (want_se _ dd0 _)).trans (num_se _ _ _)).trans (want_se _ dd0 _)).trans (calls_se f _ _)
theorem fin_se (s:Sr):SE s (if s.er.isSome=false∧(nextS s).kind≠3 then failS 12 s else s):=by
 split
 ·exact fail_se _ dd0 _
 ·exact .refl _
theorem ind_se (s:Sr):SE s (indS s).2:=by
 unfold indS
 dsimp only
 exact ((((((((((((((((((((((((((((((want_se [105,115,115,117,101] dd0 _).trans (name_se _)).trans (want_se [111,102] dd0 _)).trans (name_se _)).trans (want_se [59] dd0 _)).trans (part_se [102,97,99,101] dd0 _ _ _)).trans (want_se [102,114,111,109] dd0 _)).trans (date_se _ _)).trans (want_se [116,111] dd0 _)).trans (date_se _ _)).trans (want_se [101,118,101,114,121] dd0 _)).trans (num_se _ _ _)).trans (want_se [109,111,110,116,104,115] dd0 _)).trans (want_se [59] dd0 _)).trans (one_se [99,111,117,110,116] dd0 cntW dd0 _)).trans (one_se [97,100,106,117,115,116] dd0 adjW dd0 _)).trans (part_se [114,101,99,111,114,100] dd0 _ _ _)).trans (part_se [114,97,110,107] dd0 _ _ _)).trans (lets_se _ _ _)).trans (want_se [99,111,117,112,111,110] dd0 _)).trans (whole_se _ _)).trans (part_se [99,97,112] dd0 _ _ _)).trans (covs_se _ _ _)).trans (fav_se _)).trans (maybe_se [99,114,111,115,115] dd0 _ _ _)).trans (calls_se _ _ _)).trans (maybe_se [110,111,116,105,99,101] dd0 _ _ _)).trans (maybe_se [115,105,110,107] dd0 _ _ _)).trans (part_se [109,97,106,111,114,105,116,121] dd0 _ _ _)).trans (part_se [102,97,115,116] dd0 _ _ _)).trans (fin_se _)
def InT (s:List UInt8) (n:Int):Prop:=0≤n∧n≤(s.length:Int)
theorem lexL_pos {s:List UInt8}:∀ (f p:Nat) (l:List Tok),(∀ t∈l,InT s t.pos)→p≤s.length→(∀ T,lexL s f p l=.ok T→∀ t∈T,InT s t.pos)∧∀ e,lexL s f p l=.error e→InT s e.1:=by
 intro f
 induction f with
 | zero=>intro p l hl _;exact ⟨fun T h=>by cases h;exact hl,fun e h=>by cases h⟩
 | succ f ih =>
  intro p l hl h2
  have hq:skipN s p≤s.length:=by
   have:=spanN_le blkB (s.drop p)
   rw [List.length_drop] at this
   unfold skipN;omega
  have hin:InT s (skipN s p:Nat):=⟨by omega,by omega⟩
  unfold lexL
  split
  ·refine ⟨fun T h=>?_,fun e h=>by cases h⟩
   cases h
   intro t ht
   rcases List.mem_append.1 ht with ht | ht
   ·exact hl t ht
   ·have:t=_:=List.mem_singleton.1 ht
    subst this
    exact ⟨by show (0:Int)≤((s.length:Nat):Int);omega,Int.le_refl _⟩
  ·rename_i hne'
   split
   ·refine ⟨fun T h=>(by cases h),fun e h=>?_⟩
    cases h
    exact hin
   ·rename_i t hN
    have hne:s.drop (skipN s p)≠[]:=fun h=>by
     have:=congrArg List.length h
     rw [List.length_drop] at this
     simp only [List.length_nil] at this
     omega
    obtain ⟨t1,t2⟩:=nextR_ok hne hN
    have t3:=t2.length_le
    rw [List.length_drop] at t3
    refine ih _ _ (fun x hx=>?_) om0
    rcases List.mem_append.1 hx with hx | hx
    ·exact hl x hx
    ·have:x=_:=List.mem_singleton.1 hx
     subst this
     exact hin
theorem lexR_pos {s:List UInt8}:(∀ T,lexR s=.ok T→∀ t∈T,InT s t.pos)∧∀ e,lexR s=.error e→InT s e.1:=by
 unfold lexR
 split
 ·exact ⟨fun T h=>(by cases h),fun e h=>by cases h;exact ⟨Int.le_refl 0,by show (0:Int)≤((s.length:Nat):Int);omega⟩⟩
 ·exact lexL_pos _ _ _ (fun t ht=>by cases ht) (Nat.zero_le _)
theorem parse_pos {s:List UInt8} {e:Er} (h:parseR s=.error e):InT s e.1∧e.2≠0:=by
 cases e1:lexR s with
 | error er =>
  have hp:parseR s=.error er:=by unfold parseR;rw [e1]
  rw [hp] at h
  cases h
  exact ⟨lexR_pos.2 _ e1,lexR_er e1⟩
 | ok T =>
  have hst:=lex_sst e1
  have ha:=ind_ag hst.st.fin
  have hse:=ind_se (sN T)
  cases e2:indP T with
  | ok v =>
   obtain ⟨x,r⟩:=v
   have hp:parseR s=.ok x:=by unfold parseR;rw [e1];dsimp only;rw [e2]
   rw [hp] at h
   cases h
  | error er =>
   have hp:parseR s=.error er:=by unfold parseR;rw [e1];dsimp only;rw [e2]
   rw [hp] at h
   cases h
   rw [e2] at ha
   have he:(indS (sN T)).2.er=some e:=ha
   obtain ⟨r,h1,h2⟩:=hse.pl rfl e he
   exact ⟨h2 ▸ lexR_pos.1 T e1 _ (hst.st.to h1).hd,hse.ss.ok hst.ok e he⟩
theorem parseE_pos {s:List UInt8} {e:Er} (h:parseER s=.error e):InT s e.1∧e.2≠0:=by
 refine ⟨?_,parseE_er h⟩
 cases e1:lexR s with
 | error er =>
  have hp:parseER s=.error er:=by unfold parseER;rw [e1]
  rw [hp] at h
  cases h
  exact lexR_pos.2 _ e1
 | ok T =>
  have hst:=lex_sst e1
  have ha:=wholeE_ag hst.st.fin
  have ha:match parseER s with | .ok x=>(wholeS [] (sN T)).1=x∧(wholeS [] (sN T)).2.er=none | .error e=>(wholeS [] (sN T)).2.er=some e:=by unfold parseER;rw [e1];exact ha
  rw [h] at ha
  obtain ⟨r,h1,h2⟩:=(whole_se [] (sN T)).pl rfl e ha
  exact h2 ▸ lexR_pos.1 T e1 _ (hst.st.to h1).hd
def spreadL (s:List UInt8):List UInt8:=s.map fun c=>if c=32 then 10 else c
theorem spreadL_len (s:List UInt8):(spreadL s).length=s.length:=List.length_map _
theorem spreadL_app (a b:List UInt8):spreadL (a++b)=spreadL a++spreadL b:=List.map_append
theorem spreadL_no {s:List UInt8} (h:∀ c∈s,c≠32):spreadL s=s:=by
 unfold spreadL
 induction s with
 | nil=>rfl
 | cons c s ih=>rw [List.map_cons,if_neg (h c (by simp)),ih fun d hd=>h d (by simp [hd])]
theorem take_all {p:Int→Bool} {s:List UInt8} (h:s.take (spanN p s)=s):∀ c∈s,p (c.toNat:Int)=true:=by
 refine span_each ?_
 have h1:=congrArg List.length h
 rw [List.length_take] at h1
 have:=spanN_le p s
 omega
theorem good_no32 {x:Pc} (h:GoodP x):∀ c∈x.text,c≠32:=by
 have h1:=h.rd [] (.inl rfl)
 rw [List.append_nil] at h1
 intro c hc e
 subst e
 unfold nextR at h1
 split at h1
 ·split at h1
  ·have h2:wordT x.text=x.text:=by injection h1 with h1;exact congrArg Tok.text h1
   have:=take_all h2 _ hc
   exact absurd this dd0
  ·cases h1
 split at h1
 ·split at h1
  ·have h2:digT x.text=x.text:=by injection h1 with h1;exact congrArg Tok.text h1
   have:=take_all h2 _ hc
   exact absurd this dd0
  ·cases h1
 split at h1
 ·rename_i p hp
  have h2:p=x.text:=by injection h1 with h1;exact congrArg Tok.text h1
  rw [← h2] at hc
  have h3:∀ q∈signs,¬ (32:UInt8)∈q:=by decide
  exact h3 p (List.mem_of_find?_eq_some hp) hc
 ·cases h1
abbrev spI (I:List (Pc×List UInt8)):List (Pc×List UInt8):=I.map fun x=>(x.1,spreadL x.2)
theorem spread_lay:∀ {I:List (Pc×List UInt8)},LayOk I→spreadL (lay I)=lay (spI I)
 | [],_=>rfl
 | x::I,h=>by
  show spreadL (x.1.text++(x.2++lay I))=x.1.text++(spreadL x.2++lay (spI I))
  rw [spreadL_app,spreadL_app,spreadL_no (good_no32 h.1),spread_lay h.2.2.2]
theorem blk_spread {b:List UInt8} (h:Blk b):Blk (spreadL b):=by
 intro c hc
 obtain ⟨d,hd,rfl⟩:=List.mem_map.1 hc
 split
 ·decide
 ·exact h d hd
theorem layOk_sp:∀ {I:List (Pc×List UInt8)},LayOk I→LayOk (spI I)
 | [],_=>trivial
 | x::I,h=>⟨h.1,blk_spread h.2.1,h.2.2.1.imp (fun e=>by rw [e];rfl) fun hn e=>hn (List.map_eq_nil_iff.1 e),layOk_sp h.2.2.2⟩
theorem spI_fst (I:List (Pc×List UInt8)):(spI I).map Prod.fst=I.map Prod.fst:=by
 rw [List.map_map]
 rfl
theorem parse_spread {x:Ind} (R:Rt x) (hl:(txt (linesW x)).length≤4000):parseR (spreadL (txt (linesW x)))=.ok x:=by
 rw [lines_eq R] at hl ⊢
 have hok:=lay_ok R
 have hl2:(lay (spI ((linesP x).flatMap itemsL))).length≤4000:=by rw [← spread_lay hok,spreadL_len];exact hl
 rw [spread_lay hok]
 obtain ⟨T,e1,hT⟩:=lexR_lay (layOk_sp hok) hl2
 rw [spI_fst,pieces_eq] at hT
 have h:Reps (indPc x) T []:=⟨T,by simp,hT⟩
 obtain ⟨r1,e2⟩:=ind_rep R h (lexR_ok e1).fin
 unfold parseR
 rw [e1]
 dsimp only
 rw [e2]
theorem parseE_lay {e:Exp} (hr:rightE e=true) {I:List (Pc×List UInt8)} (hok:LayOk I) (hf:I.map Prod.fst=showW 12 e 0) (hl:(lay I).length≤4000):parseER (lay I)=.ok e:=by
 obtain ⟨T,e1,hT⟩:=lexR_lay hok hl
 rw [hf] at hT
 obtain ⟨T1,T2,rfl,h1,h2⟩:=List.map_eq_append_iff.1 hT
 obtain ⟨t,T3,rfl,h3,h4⟩:=List.map_eq_cons_iff.1 h2
 have h4:=List.map_eq_nil_iff.1 h4
 subst h4
 have hk:t.kind=3:=congrArg Pc.kind h3
 have hno:∀ w,isT w [t]=false:=fun w=>by
  rw [isT_cons,hk]
  rfl
 have hb:=show_back hr (n:=(T1++[t]).length) (r:=T1++[t]) (r':=[t]) ⟨T1,rfl,h1⟩ (Nat.le_refl _) (.inl (opI_text fun o _=>hno _)) ⟨hno _,hno _,hno _⟩ hk
 have hlv:=((rightE_iff e).1 hr).2
 unfold parseER
 rw [e1]
 dsimp only
 rw [hb]
 dsimp only
 rw [if_neg (not_not_intro (show (hdT [t]).kind=3 from hk)),if_pos (by omega)]
theorem parseE_spread {e:Exp} (hr:rightE e=true) (hl:(showT 12 e 0).length≤4000):parseER (spreadL (showT 12 e 0))=.ok e:=by
 have b32:Blk [32]:=fun c hc=>by rw [List.mem_singleton.1 hc];decide
 have hok:=itemsB_ok b32 (by simp) (exp_good hr)
 have ht:lay (itemsB [32] (showW 12 e 0))=showT 12 e 0:=by rw [lay_itemsB];exact (show_text hr 0).1
 rw [← ht] at hl ⊢
 rw [spread_lay hok]
 exact parseE_lay hr (layOk_sp hok) (by rw [spI_fst,itemsB_fst]) (by rw [← spread_lay hok,spreadL_len];exact hl)
end Go.Proofs.YtlmgomgpiideoaaGreatDoor
namespace Go.Proofs.YtlmgomgpiideoaaGreatDoor.Spr
open Go.RowKit
def sp (c:UInt8):UInt8:=if c=32 then 10 else c
structure Mid (w wr:World) (l:List UInt8) (k:Nat):Prop where
 below:Below w.heap.size w wr
 cell:∀ j,j<l.length→wr.cell? ⟨w.heap.size,j,none⟩=some (.int .u8 (((if j<k then sp (l.getD j 0) else l.getD j 0).toNat:Nat):Int))
 fz:∀ j,j<l.length→wr.frozen? ⟨w.heap.size,j,none⟩=false
theorem mid_start (w:World) (l:List UInt8) (cap:Nat):Mid w (w.alloc (.cells (bytesRow ⟨l.toArray⟩ cap) 5 ((bytesRow ⟨l.toArray⟩ cap).size,(bytesRow ⟨l.toArray⟩ cap).size+1))) l 0:=by
 refine ⟨(Below.refl _ _).alloc (Nat.le_refl _) _,fun j hj=>?_,fun j hj=>?_⟩
 ·rw [World.cell?_alloc_mark,bytesRow_at ⟨l.toArray⟩ cap j (by simpa using hj),if_neg (by omega)]
  simp [List.getD_eq_getElem?_getD,List.getElem?_eq_getElem hj]
 ·rw [World.frozen?_alloc_mark]
  have hs:l.length≤(bytesRow ⟨l.toArray⟩ cap).size:=by
   unfold bytesRow
   rw [Array.size_append]
   simp
  have:¬ ((bytesRow ⟨l.toArray⟩ cap).size≤j):=by omega
  rw [decide_eq_false this]
  rfl
theorem mid_skip {w wr:World} {l:List UInt8} {k:Nat} (h:Mid w wr l k) (hc:l.getD k 0≠32):Mid w wr l (k+1) :=
 ⟨h.below,fun j hj=>by
  rw [h.cell j hj]
  by_cases e:j=k
  ·subst e
   rw [if_neg (by omega),if_pos (by omega)]
   unfold sp
   rw [if_neg hc]
  ·by_cases hlt:j<k
   ·rw [if_pos hlt,if_pos (by omega)]
   ·rw [if_neg hlt,if_neg (by omega)],h.fz⟩
theorem mid_set {w wr:World} {l:List UInt8} {k:Nat} (h:Mid w wr l k) (hk:k<l.length) (hc:l.getD k 0=32):Mid w (wr.setCell ⟨w.heap.size,k,none⟩ (.int .u8 10)) l (k+1) :=
 ⟨h.below.setCell (Nat.le_refl _) _,fun j hj=>by
  by_cases e:j=k
  ·subst e
   rw [World.cell?_setCell_same _ _ _ (h.cell j hj),if_pos (by omega),hc]
   rfl
  ·rw [World.cell?_setCell_other _ _ _ _ (fun q=>e (congrArg Addr.off q).symm),h.cell j hj]
   by_cases hlt:j<k
   ·rw [if_pos hlt,if_pos (by omega)]
   ·rw [if_neg hlt,if_neg (by omega)],fun j hj=>by rw [World.frozen?_setCell];exact h.fz j hj⟩
theorem Mid.drew {w wr:World} {l:List UInt8} {k:Nat} (h:Mid w wr l k):Mid w wr.drew l k:=⟨h.below.drew,h.cell,h.fz⟩
set_option maxHeartbeats 6400000 in
set_option maxRecDepth 1000000 in
theorem spread_walk (l:List UInt8) (hn:l.length≤1000000) (w:World) :
  Calls Tryz.prog 29 #[.string ⟨l.toArray⟩] w fun e w'=>e=.returned (.string ⟨(l.map sp).toArray⟩)∧Below w.heap.size w w':=by
 have hconv:=run_bytes_of_string (P:=Tryz.prog) w 9 83 5 ⟨l.toArray⟩ Tryz.underlying9 Tryz.underlying83 Tryz.underlying5
 have hsz:(⟨l.toArray⟩:ByteArray).size=l.length:=rfl
 rw [hsz] at hconv
 have h0:=mid_start w l (grownCap w l.length 0 5)
 generalize hG:grownCap w l.length 0 5=G at *
 go_enter Tryz.func29,Tryz.ntmps29
 go_wp2
 clear hconv
 go_loopg [4] l.length (fun g i wr=>∃ k:Nat,k≤l.length∧g=l.length-k∧i=.int .i64 k∧Mid w wr l k)
 case atStart=>exact ⟨0,Nat.zero_le _,rfl,rfl,by first | exact h0 | exact h0.drew⟩
 case round =>
  obtain ⟨k,hk,rfl,rfl,hM⟩:=hrel
  clear h0
  by_cases hkL:k<l.length
  ·have hkz:(k:Int)<(l.length:Int):=by omega
   have t1:wr.cell? ⟨w.heap.size,k,none⟩=some (.int .u8 ((l.getD k 0).toNat:Nat)):=by rw [hM.cell k hkL,if_neg (by omega)]
   have t2:=hM.fz k hkL
   by_cases hc:l.getD k 0=32
   ·rw [hc] at t1
    have hM2:=mid_set hM hkL hc
    clear hM hc
    go_wp2
    go_roundg (l.length-(k+1))
    case measure=>go_light;omega
    case rel=>go_light;exact ⟨k+1,by omega,rfl,by simp,by first | exact hM2 | exact hM2.drew⟩
   ·have hcz:¬ (((l.getD k 0).toNat:Nat):Int)=32:=fun h=>hc (by apply UInt8.toNat_inj.1;show _=32;omega)
    have hM2:=mid_skip hM hc
    clear hM
    generalize (l.getD k 0).toNat=z at *
    go_wp2
    go_roundg (l.length-(k+1))
    case measure=>go_light;omega
    case rel=>go_light;exact ⟨k+1,by omega,rfl,by simp,by first | exact hM2 | exact hM2.drew⟩
  ·have hkz:¬ ((k:Int)<(l.length:Int)):=by omega
   have hbk:=run_convert_bytes_back (P:=Tryz.prog) wr 83 9 5 ⟨w.heap.size,0,none⟩ G (l.map sp) Tryz.underlying83 Tryz.underlying5 Tryz.underlying9 (fun j hj=>by
    have hj':j<l.length:=by simpa using hj
    have hz:(⟨w.heap.size,0,none⟩:Addr).add j=⟨w.heap.size,j,none⟩:=by unfold Addr.add;split<;>simp_all
    rw [hz,hM.cell j hj',if_pos (by omega),List.getElem_map]
    simp [List.getD_eq_getElem?_getD,List.getElem?_eq_getElem hj'])
   rw [List.length_map] at hbk
   have hbw:=hM.below
   clear hM
   go_wp2
   go_ret
   exact ⟨rfl,hbw⟩
end Go.Proofs.YtlmgomgpiideoaaGreatDoor.Spr
