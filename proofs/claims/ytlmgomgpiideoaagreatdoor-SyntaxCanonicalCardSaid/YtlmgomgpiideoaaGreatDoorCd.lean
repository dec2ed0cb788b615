import Derived.Test.YtlmgomgpiideoaaGreatDoorCc
namespace Go.Proofs.YtlmgomgpiideoaaGreatDoor
open Go.Own
set_option maxHeartbeats 40000000
set_option maxRecDepth 100000
theorem spread_ok (s:List UInt8) (hs:s.length≤1000000):APureV Tryz.prog 29 [.str s] (.str (spreadL s)):=by
 have hfn:FnOk Tryz.prog 29:=⟨Tryz.f29,Tryz.func29,rfl,by decide⟩
 refine APure.mono (apure_plain (R:=fun l=>l=[.str (spreadL s)]) hfn fun S w vs hT hv=>?_) (by rintro rs ⟨l,rfl,rfl⟩;rfl)
 obtain ⟨q,rfl,hq⟩:=str_args hv
 obtain ⟨⟨q⟩⟩:=q
 have hq:q=s:=hq
 subst hq
 refine (Spr.spread_walk q hs w).mono ?_
 rintro e w' ⟨rfl,hb⟩
 refine ⟨[.string ⟨(spreadL q).toArray⟩],_,rfl,rfl,rfl,fun j u a hu ha=>?_,hb⟩
 match j,hu,ha with
 | 0,hu,ha =>
  cases hu
  cases ha
  exact plain_str _
theorem parse_any (s:List UInt8):∃ A p c,parA (parseR s)=[.val (encX A),.val (.int .i64 p),.val (.int .i64 c)]∧InT s p∧OkX A∧((c=0∧p=0∧Rt A)∨(c≠0∧A=i0)):=by
 cases h:parseR s with
 | ok A=>exact ⟨A,0,0,rfl,⟨Int.le_refl 0,by omega⟩,(parse_rt h).okX,.inl ⟨rfl,rfl,parse_rt h⟩⟩
 | error e =>
  obtain ⟨h1,h2⟩:=parse_pos h
  exact ⟨i0,e.1,e.2,rfl,h1,okX_0,.inr ⟨h2,rfl⟩⟩
theorem parseE_any (s:List UInt8):∃ A p c,parEA (parseER s)=[.val (encE A),.val (.int .i64 p),.val (.int .i64 c)]∧InT s p∧OkE A∧((c=0∧p=0∧rightE A=true)∨(c≠0∧A=ex0)):=by
 cases h:parseER s with
 | ok A=>exact ⟨A,0,0,rfl,⟨Int.le_refl 0,by omega⟩,rightE_okE (parseE_right h),.inl ⟨rfl,rfl,parseE_right h⟩⟩
 | error e =>
  obtain ⟨h1,h2⟩:=parseE_pos h
  exact ⟨ex0,e.1,e.2,rfl,h1,rightE_okE (by rfl),.inr ⟨h2,rfl⟩⟩
abbrev cellsA (A:Ind):List AV:=[.str A.name,.str A.issuer,.int .i64 A.face,.int .i64 A.frm,.int .i64 A.to,.int .i64 A.every,.int .i64 A.count,.int .i64 A.adjust,.int .i64 A.record,.int .i64 A.rank,.sl 6 encL l0 A.lets,.int .i64 A.coupon.op,.int .i64 A.coupon.n,.int .i64 A.coupon.unit,.str A.coupon.s,.lsl 5 (argsE A.coupon),.int .i64 A.cap,.sl 7 encC c0 A.cov,.sl 1 encS [] A.favour,.int .i64 A.cross,.sl 2 encK k0 A.calls,.int .i64 A.notice,.int .i64 A.sink,.int .i64 A.majority,.int .i64 A.fast]
noncomputable abbrev cK:Cx:=cx 162 [0,2,3,4,5,6,7,8,9,10,11,12,14,15,16,17,19,23,74,76,117,119,160]
theorem law_canonical (s:List UInt8) (hs:s.length≤9223372036854775807):APureV Tryz.prog 6 [.str s] (.bool true):=by
 by_cases hbig:1500<s.length
 ·refine aO (cxOk 162 [0,2,3,4,5,6,7,8,9,10,11,12,14,15,16,17,19,23,74,76,117,119,160]) Tryz.func6 ?_
  conv=>whnf
  refine cO (fun _=>small_ok) ?_
  conv=>whnf
  rw [decide_eq_true (show (1500:Int)<(s.length:Int) by omega)]
  refine gT ?_
  conv=>whnf
  rfl
 have c1:=parse_ok s hs
 have c2:=parseE_ok s hs
 obtain ⟨A,p,c,hA,hp,hoA,hcA⟩:=parse_any s
 obtain ⟨X,t,f,hX,ht,hoX,hcX⟩:=parseE_any s
 rw [hA] at c1
 rw [hX] at c2
 have q1:=apure_args (args':=[encX A,rawX0]) (samefn2_ok A i0 hoA okX_0) (.cons (.refl _) (.cons rawX0_le .nil))
 have q2:=apure_args (args':=[encE X,rawE 0 0 0 []]) (same2_ok X ex0 hoX (rightE_okE (by rfl))) (.cons (.refl _) (.cons (rawE_le 0 0 0 []) .nil))
 have g1:(!decide (c=0)&&!decide (A=i0))=false:=by
  rcases hcA with ⟨rfl,_,_⟩ | ⟨_,h⟩
  ·rfl
  ·rw [decide_eq_true h];simp
 have g2:(!decide (f=0)&&!decide (X=ex0))=false:=by
  rcases hcX with ⟨rfl,_,_⟩ | ⟨_,h⟩
  ·rfl
  ·rw [decide_eq_true h];simp
 refine apure_of0 (C:=cK) (cxOk _ _) Tryz.func6 rfl dd0 rfl (by exact Nat.le_of_ble_eq_true rfl) dd0 ?_
 intro F a w hF hrel
 refine wp_seq_ev (cxOk _ _) (C:=cK) hF (st1:=⟨[(0,.str s),(2,.bool false)],[],0⟩) (Rr:=fun _=>False) ?_ (fun _ h=>h) ?_ (fun _ _ _ _ h=>h.elim) a w hrel
 ·conv=>whnf
  exact (wk_of [] rfl ⟨wa0,wa0,trivial⟩ trivial)
 intro a w hrel
 refine wp_seq_ev (cxOk _ _) (C:=cK) hF (st1:=⟨[(0,.str s),(2,.bool false),(3,.bool true)],[],0⟩) (Rr:=fun _=>False) ?_ (fun _ h=>h) ?_ (fun _ _ _ _ h=>h.elim) a w hrel
 ·conv=>whnf
  refine cO (fun _=>small_ok) ?_
  conv=>whnf
  exact (wk_of [] rfl ⟨wa0,wa0,wa0,trivial⟩ trivial)
 intro a w hrel
 refine wp_seq_ev (cxOk _ _) (C:=cK) hF (st1:=⟨[(0,.str s),(2,.bool false),(3,.bool true)],[],0⟩) (Rr:=fun _=>False) ?_ (fun _ h=>h) ?_ (fun _ _ _ _ h=>h.elim) a w hrel
 ·conv=>whnf
  rw [decide_eq_false (show ¬ (1500:Int)<(s.length:Int) by omega)]
  refine gF ?_
  conv=>whnf
  exact (wk_of [] rfl ⟨wa0,wa0,wa0,trivial⟩ trivial)
 intro a w hrel
 refine wp_seq_ev (cxOk _ _) (C:=cK) hF (st1:=⟨[(0,.str s),(2,.bool false),(3,.bool true),(4,.ptr 0 0),(5,.int .i64 p),(6,.int .i64 c)],[(0,.cells 31 (cellsA A))],1⟩) (Rr:=fun _=>False) ?_ (fun _ h=>h) ?_ (fun _ _ _ _ h=>h.elim) a w hrel
 ·conv=>whnf
  refine cO (fun _=>c1) ?_
  conv=>whnf
  exact (wk_of [(0,.id 0)] rfl ⟨wa0,wa0,wa0,wc0,wa0,wa0,trivial⟩ ⟨wb0,trivial⟩)
 intro a w hrel
 refine wp_seq_ev (cxOk _ _) (C:=cK) hF (st1:=⟨[(0,.str s),(2,.bool false),(3,.bool true),(4,.ptr 0 0),(5,.int .i64 p),(6,.int .i64 c),(7,.ptr 1 0),(8,.int .i64 t),(9,.int .i64 f)],[(0,.cells 31 (cellsA A)),(1,.cells 26 (cellsE X))],2⟩) (Rr:=fun _=>False) ?_ (fun _ h=>h) ?_ (fun _ _ _ _ h=>h.elim) a w hrel
 ·conv=>whnf
  refine cO (fun _=>c2) ?_
  conv=>whnf
  exact (wk_of [(0,.id 0),(1,.id 1)] rfl ⟨wa0,wa0,wa0,wc0,wa0,wa0,wc0,wa0,wa0,trivial⟩ ⟨wb0,wb0,trivial⟩)
 intro a w hrel
 refine wp_seq_ev (cxOk _ _) (C:=cK) hF (st1:=⟨[(0,.str s),(2,.bool false),(3,.bool true),(4,.ptr 0 0),(5,.int .i64 p),(6,.int .i64 c),(7,.ptr 1 0),(8,.int .i64 t),(9,.int .i64 f)],[(0,.cells 31 (cellsA A)),(1,.cells 26 (cellsE X))],2⟩) (Rr:=fun _=>False) ?_ (fun _ h=>h) ?_ (fun _ _ _ _ h=>h.elim) a w hrel
 ·conv=>whnf
  refine cO (fun _=>q1) ?_
  conv=>whnf
  refine cO (fun _=>q2) ?_
  conv=>whnf
  rw [g1,g2,decide_eq_false (show ¬ p<0 by have:=hp.1;omega),decide_eq_false (show ¬ (s.length:Int)<p by have:=hp.2;omega),decide_eq_false (show ¬ t<0 by have:=ht.1;omega),decide_eq_false (show ¬ (s.length:Int)<t by have:=ht.2;omega)]
  refine gF ?_
  conv=>whnf
  exact (wk_of [(0,.id 0),(1,.id 1)] rfl ⟨wa0,wa0,wa0,wc0,wa0,wa0,wc0,wa0,wa0,trivial⟩ ⟨wb0,wb0,trivial⟩)
 intro a w hrel
 refine wp_seq_ev (cxOk _ _) (C:=cK) hF (st1:=⟨[(0,.str s),(2,.bool false),(3,.bool true),(4,.ptr 0 0),(5,.int .i64 p),(6,.int .i64 c),(7,.ptr 1 0),(8,.int .i64 t),(9,.int .i64 f)],[(0,.cells 31 (cellsA A)),(1,.cells 26 (cellsE X))],2⟩) (Rr:=fun _=>False) ?_ (fun _ h=>h) ?_ (fun _ _ _ _ h=>h.elim) a w hrel
 ·conv=>whnf
  refine ⟨fun hc0=>?_,fun hc0=>?_⟩
  ·have hc0:=of_decide_eq_true hc0
   subst hc0
   obtain ⟨rfl,R⟩:p=0∧Rt A:=by
    rcases hcA with ⟨_,h1,h2⟩ | ⟨h,_⟩
    ·exact ⟨h1,h2⟩
    ·exact (h rfl).elim
   obtain ⟨tx,g,hpr,htl,hg⟩:∃ tx g,printI A=(tx,g)∧tx.length≤4000∧((g=0∧parseR (spreadL tx)=.ok A)∨g=6):=by
    by_cases hl:(txt (linesW A)).length≤4000
    ·exact ⟨_,_,(by unfold printI fitsT;rw [(right_iff A).2 R,if_pos rfl,if_neg (by omega)]),hl,.inl ⟨rfl,parse_spread R hl⟩⟩
    ·refine ⟨[],6,?_,by simp,.inr rfl⟩
     unfold printI fitsT
     rw [(right_iff A).2 R,if_pos rfl,if_pos (by omega)]
   have k1:=print_ok A hoA
   rw [hpr] at k1
   have k2:=spread_ok tx (by omega)
   have k3:=parse_ok (spreadL tx) (by rw [spreadL_len];omega)
   obtain ⟨A2,p2,c2',hA2,hoA2,hfin⟩:∃ A2 p2 c2,parA (parseR (spreadL tx))=[.val (encX A2),.val (.int .i64 p2),.val (.int .i64 c2)]∧OkX A2∧(decide ((tx,g).2=0)&&(!decide (c2=0)||!decide (A=A2)))=false:=by
    rcases hg with ⟨rfl,h⟩ | rfl
    ·exact ⟨A,0,0,by rw [h];rfl,hoA,by simp⟩
    ·obtain ⟨A2,p2,c2,h1,_,h2,_⟩:=parse_any (spreadL tx)
     exact ⟨A2,p2,c2,h1,h2,rfl⟩
   have hg6:(!decide ((tx,g).2=0)&&!decide ((tx,g).2=6))=false:=by
    rcases hg with ⟨rfl,_⟩ | rfl<;>rfl
   rw [hA2] at k3
   have k4:=rightfn_ok A hoA
   rw [(right_iff A).2 R] at k4
   have k5:=samefn2_ok A A2 hoA hoA2
   conv=>whnf
   refine cO (fun _=>k1) ?_
   conv=>whnf
   refine cO (fun _=>k2) ?_
   conv=>whnf
   refine cO (fun _=>k3) ?_
   conv=>whnf
   refine cO (fun _=>k4) ?_
   conv=>whnf
   refine cO (fun _=>k5) ?_
   conv=>whnf
   rw [hg6,hfin]
   refine gF ?_
   conv=>whnf
   exact (wk_of [(0,.id 0),(1,.id 1)] rfl ⟨wa0,wa0,wa0,wc0,wa0,wa0,wc0,wa0,wa0,trivial⟩ ⟨wb0,wb0,trivial⟩)
  ·exact (wk_of [(0,.id 0),(1,.id 1)] rfl ⟨wa0,wa0,wa0,wc0,wa0,wa0,wc0,wa0,wa0,trivial⟩ ⟨wb0,wb0,trivial⟩)
 intro a w hrel
 refine wp_seq_ev (cxOk _ _) (C:=cK) hF (st1:=⟨[(0,.str s),(2,.bool false),(3,.bool true),(4,.ptr 0 0),(5,.int .i64 p),(6,.int .i64 c),(7,.ptr 1 0),(8,.int .i64 t),(9,.int .i64 f)],[(0,.cells 31 (cellsA A)),(1,.cells 26 (cellsE X))],2⟩) (Rr:=fun _=>False) ?_ (fun _ h=>h) ?_ (fun _ _ _ _ h=>h.elim) a w hrel
 ·conv=>whnf
  refine ⟨fun hc0=>?_,fun hc0=>?_⟩
  ·have hc0:=of_decide_eq_true hc0
   subst hc0
   obtain ⟨rfl,R⟩:t=0∧rightE X=true:=by
    rcases hcX with ⟨_,h1,h2⟩ | ⟨h,_⟩
    ·exact ⟨h1,h2⟩
    ·exact (h rfl).elim
   obtain ⟨tx,g,hpr,htl,hg⟩:∃ tx g,printE X=(tx,g)∧tx.length≤4000∧((g=0∧parseER (spreadL tx)=.ok X)∨g=6):=by
    by_cases hl:(showT 12 X 0).length≤4000
    ·exact ⟨_,_,(by unfold printE fitsT;rw [R,if_pos rfl,if_neg (by omega)]),hl,.inl ⟨rfl,parseE_spread R hl⟩⟩
    ·refine ⟨[],6,?_,by simp,.inr rfl⟩
     unfold printE fitsT
     rw [R,if_pos rfl,if_pos (by omega)]
   have k1:=printexp_ok X hoX
   rw [hpr] at k1
   have k2:=spread_ok tx (by omega)
   have k3:=parseE_ok (spreadL tx) (by rw [spreadL_len];omega)
   obtain ⟨A2,p2,c2',hA2,hoA2,hfin⟩:∃ A2 p2 c2,parEA (parseER (spreadL tx))=[.val (encE A2),.val (.int .i64 p2),.val (.int .i64 c2)]∧OkE A2∧(decide ((tx,g).2=0)&&(!decide (c2=0)||!decide (X=A2)))=false:=by
    rcases hg with ⟨rfl,h⟩ | rfl
    ·exact ⟨X,0,0,by rw [h];rfl,hoX,by simp⟩
    ·obtain ⟨A2,p2,c2,h1,_,h2,_⟩:=parseE_any (spreadL tx)
     exact ⟨A2,p2,c2,h1,h2,rfl⟩
   have hg6:(!decide ((tx,g).2=0)&&!decide ((tx,g).2=6))=false:=by
    rcases hg with ⟨rfl,_⟩ | rfl<;>rfl
   rw [hA2] at k3
   have k4:=rightexp_ok X hoX
   rw [R] at k4
   have k5:=same2_ok X A2 hoX hoA2
   conv=>whnf
   refine cO (fun _=>k1) ?_
   conv=>whnf
   refine cO (fun _=>k2) ?_
   conv=>whnf
   refine cO (fun _=>k3) ?_
   conv=>whnf
   refine cO (fun _=>k4) ?_
   conv=>whnf
   refine cO (fun _=>k5) ?_
   conv=>whnf
   rw [hg6,hfin]
   refine gF ?_
   conv=>whnf
   exact (wk_of [(0,.id 0),(1,.id 1)] rfl ⟨wa0,wa0,wa0,wc0,wa0,wa0,wc0,wa0,wa0,trivial⟩ ⟨wb0,wb0,trivial⟩)
  ·exact (wk_of [(0,.id 0),(1,.id 1)] rfl ⟨wa0,wa0,wa0,wc0,wa0,wa0,wc0,wa0,wa0,trivial⟩ ⟨wb0,wb0,trivial⟩)
 intro a w hrel
 refine wp_mono (evCode_sound (C:=cK) (cxOk _ _) hF _ ⟨[(0,.str s),(2,.bool false),(3,.bool true),(4,.ptr 0 0),(5,.int .i64 p),(6,.int .i64 c),(7,.ptr 1 0),(8,.int .i64 t),(9,.int .i64 f)],[(0,.cells 31 (cellsA A)),(1,.cells 26 (cellsE X))],2⟩ (retQ cK.T _ (fun rs=>rs=[.val (.bool true)])) ?_ a w hrel) fun _ _ _ ⟨st',h1,h2⟩=>⟨st',h1,orP_off (fun _ h=>h) h2⟩
 conv=>whnf
 rfl
end Go.Proofs.YtlmgomgpiideoaaGreatDoor
