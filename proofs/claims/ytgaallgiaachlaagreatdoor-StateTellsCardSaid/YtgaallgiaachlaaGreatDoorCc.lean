import Derived.Test.YtgaallgiaachlaaGreatDoorCb
namespace Go.Proofs.YtgaallgiaachlaaGreatDoor
open Go.Own
set_option maxHeartbeats 40000000
set_option maxRecDepth 100000
theorem oq (e:Exp) (ha:e.args.length≤1000) (hb:jP e≤10000000000000) (h:∀ a∈e.args,ak Tryz.prog 260 [iJ a] (.int .i64 (jP a:Nat))):ak Tryz.prog 260 [iJ e] (.int .i64 (jP e:Nat)):=by
 have hal:=PK e;have he:=KP e;refine aO (au 22 [0,1,2,3,4,9]) Tryz.func260 ?_;conv=>whnf
 refine dO (au _ _) (fun k:Nat=>k≤e.args.length) (fun k=>e.args.length-k) (fun k=>⟨[(1,.ptr 0 0),(3,.int .i64 (pR (e.args.take k):Nat)),(4,.int .i64 (k:Nat))],[(0,.cells 51 (cellsE e))],1⟩) 0 (by show 0≤_;omega) ((aj [(0,.id 0)] rfl ⟨aQ,ah,ah,trivial⟩ ⟨aB,trivial⟩)) ?_;intro k hk;have hk:k≤e.args.length:=hk;conv=>whnf
 rw [hal];refine ⟨fun hd=>?_,fun hd=>?_⟩
 ·have hd:=of_decide_eq_true hd;have hlt:k<e.args.length:=by omega
  have hek:(k:Int).toNat=k:=Int.toNat_natCast k;have hm:Qv e k∈e.args:=KT hlt;have hrec:=h _ hm;have h1:=BJ hm;have h2:=Hu e.args k;conv=>whnf
  refine iO (cW ?_);refine And.intro rfl (cW ?_);rw [hek,O_ e hlt];conv=>whnf
  refine cO (fun _=>hrec) (cW ?_);refine iO (cW ?_);exact ⟨k+1,hlt,(by show e.args.length-(k+1)<e.args.length-k;omega),(aj [(0,.id 0)] rfl ⟨aQ,.base (.tree _ _ (congrArg (AV.int .i64) agD) rfl),ah,trivial⟩ ⟨aB,trivial⟩)⟩
 ·exact aeT
theorem WL {e:Exp} (hw:WfE e) (hb:jP e≤10000000000000):ak Tryz.prog 260 [iJ e] (.int .i64 (jP e:Nat)):=by
 have up:∀ (e:Exp),jP e≤10000000000000→∀ a∈e.args,jP a≤10000000000000:=fun e he a ha=>by
  have:=BJ ha;rw [KP] at he;omega
 induction hw with
 | num n u h0 h1 hu=>exact oq _ EP hb (fun a ha=>by cases ha)
 | boo n h=>exact oq _ EP hb (fun a ha=>by cases ha)
 | name op s ho hn hl=>exact oq _ EP hb (fun a ha=>by cases ha)
 | within op n x ho hn hx ih=>exact oq _ Nz hb (fun a ha=>by have hl:=up _ hb a ha;have ha:a∈[x]:=ha;simp at ha;subst ha;exact ih hl)
 | not x hx ih=>exact oq _ Nz hb (fun a ha=>by have hl:=up _ hb a ha;have ha:a∈[x]:=ha;simp at ha;subst ha;exact ih hl)
 | pair op x y ho hx hy ihx ihy=>exact oq _ (by show [x,y].length≤_;simp) hb (fun a ha=>by have hl:=up _ hb a ha;have ha:a∈[x,y]:=ha;simp at ha;rcases ha with rfl | rfl<;>first | exact ihx hl | exact ihy hl)
 | cond x y z hx hy hz ihx ihy ihz=>exact oq _ aa5 hb (fun a ha=>by have hl:=up _ hb a ha;have ha:a∈[x,y,z]:=ha;simp at ha;rcases ha with rfl | rfl | rfl<;>first | exact ihx hl | exact ihy hl | exact ihz hl)
theorem ah3 {T:List Tok} {s:Sr} (h:SSt T s) (he:(kY 0 s).2.er=none):WfE (kY 0 s).1∧jP (kY 0 s).1≤1000000000000:=by
 rcases s with ⟨r,_ | x⟩
 ·have ha:=TU r.length 0 r (by omega) (by omega) h.st.fin (Nat.le_refl _);cases e1:xX r.length 0 r with
  | error e =>
   rw [e1] at ha;have ha:(kY 0 (sN r)).2.er=some e:=ha;rw [he] at ha;cases ha
  | ok v =>
   obtain ⟨x,r'⟩:=v;have ha:=d_ ha e1;obtain ⟨a,b⟩:=H9 T _ _ _ _ _ h.st e1;have hb:=h.st.big;have hl:=h.st.le;have hl:r.length≤T.length:=hl;have hx:(kY 0 (sN r)).1=x:=by rw [ha]
   refine ⟨by rw [hx];exact a,?_⟩;rw [hx];omega
 ·have:=(zi 0 ⟨r,some x⟩).keep x rfl;rw [he] at this;cases this
theorem agx {p:Prop}(h:p:=by
 conv=>whnf
 refine gF (cW ?_);refine cO (fun _=>hl) (cW ?_);rw [h12];refine gT (cW ?_);refine cR ((mM q 6)) [0] (cW ?_);rw [hv];refine ⟨⟨[(4,.ptr 1 0)],[(0,.cells 212 (bU T ((a.1,(dD 6 a.2))).2)),(1,.cells 51 (cellsE ((a.1,(dD 6 a.2))).1))],2⟩,(aj [(0,.id 0),(1,.id 1)] rfl ⟨aQ,trivial⟩ ⟨aB,aB,trivial⟩),rfl,rfl,?_⟩;exact dM):p:=h
theorem agU {p:Prop}(h:p:=by
 conv=>whnf
 refine gT (cW ?_);refine cR ((mM q 12)) [0] (cW ?_);rw [hv];refine ⟨⟨[(4,.ptr 1 0)],[(0,.cells 212 (bU T ((a.1,(dD 12 a.2))).2)),(1,.cells 51 (cellsE ((a.1,(dD 12 a.2))).1))],2⟩,(aj [(0,.id 0),(1,.id 1)] rfl ⟨aQ,trivial⟩ ⟨aB,aB,trivial⟩),rfl,rfl,?_⟩;exact dM):p:=h
theorem aeb {p:Prop}(h:p:=by
 refine ⟨⟨[(4,.ptr 1 0)],[(0,.cells 212 (bU T a.2)),(1,.cells 51 (cellsE a.1))],2⟩,(aj [(0,.id 0),(1,.id 1)] rfl ⟨aQ,trivial⟩ ⟨aB,aB,trivial⟩),rfl,rfl,?_⟩;exact dM):p:=h
theorem NQ {T:List Tok} {s:Sr} (h:SSt T s) (w:List UInt8):KX 221 [.str w] T s [iJ (lH w s).1] (lH w s).2 [.cells 51 (cellsE (lH w s).1)]:=by
 have hX:=aiE h (form:=0) (by omega) (by omega);have hwf:=ah3 h;have q:=h.to (zi 0 s);obtain ⟨v,hv⟩:∃ v,v=lH w s:=⟨_,rfl⟩;rw [← hv];unfold lH at hv;obtain ⟨a,ha⟩:∃ a,a=kY 0 s:=⟨_,rfl⟩;rw [← ha] at hX hwf q hv;dsimp only at hv;have hn:=jJ q;have hi:=J_ q w;have hat:=q.at
 have h1:=q.st.pos;have h2:=q.st.le;have h3:=q.st.big;cases he:a.2.er with
 | some x =>
  have hx:decide (sD a.2=0)=false:=decide_eq_false (by unfold sD;rw [he];exact q.ok x he);rw [he,if_pos (show (some x).isSome=true from rfl)] at hv;rw [hv];refine rO (aJ 1 49 [0,1,4,5,12,31,36,40]) Tryz.func221 ?_;conv=>whnf
  refine cR (hX) [0] (cW ?_);rw [hx];refine gT (cW ?_);exact aeb
 | none =>
 rw [he,if_neg (show ¬ (none:Option Er).isSome=true from fun h=>Bool.noConfusion h)] at hv;obtain ⟨hwf,hlv⟩:=hwf he;have hl:=WL hwf (by omega);cases hw:decide (w=[]) with
 | true =>
  have w0:=of_decide_eq_true hw;have hw2:decide (w=(ByteArray.mk #[]).data.toList)=true:=hw;cases hk:decide ((aH a.2).kind=3) with
  | false =>
   rw [if_pos (.inl ⟨w0,of_decide_eq_false hk⟩)] at hv;refine rO (aJ 1 49 [0,1,4,5,12,31,36,40]) Tryz.func221 ?_;conv=>whnf
   refine cR (hX) [0] (cW ?_);rw [oJ he];refine gF (cW ?_);rw [hw];refine gT (cW ?_);refine cO (fun _=>hn) (cW ?_);rw [hk];rw [hw2];refine cF [.rop (bU T a.2),.str w] [.val (.bool false)] ?_;exact agU
  | true =>
   rw [if_neg (show ¬ (w=[]∧(aH a.2).kind≠3∨w≠[]∧isS w a.2=false) from fun x=>x.elim (fun y=>y.2 (of_decide_eq_true hk)) (fun y=>y.1 w0))] at hv;cases h12:decide (12<((jP a.1:Nat):Int)) with
   | true =>
    rw [if_pos (of_decide_eq_true h12)] at hv;refine rO (aJ 1 49 [0,1,4,5,12,31,36,40]) Tryz.func221 ?_;conv=>whnf
    refine cR (hX) [0] (cW ?_);rw [oJ he];refine gF (cW ?_);rw [hw];refine gT (cW ?_);refine cO (fun _=>hn) (cW ?_);rw [hk];rw [hw2];refine cF [.rop (bU T a.2),.str w] [.val (.bool false)] ?_;exact agx
   | false =>
    rw [if_neg (of_decide_eq_false h12),if_neg (not_not_intro w0)] at hv;refine rO (aJ 1 49 [0,1,4,5,12,31,36,40]) Tryz.func221 ?_;conv=>whnf
    refine cR (hX) [0] (cW ?_);rw [oJ he];refine gF (cW ?_);rw [hw];refine gT (cW ?_);refine cO (fun _=>hn) (cW ?_);rw [hk];rw [hw2];refine cF [.rop (bU T a.2),.str w] [.val (.bool false)] (cW ?_);refine gF (cW ?_);refine cO (fun _=>hl) (cW ?_);rw [h12];refine gF (cW ?_);rw [hw];refine gF (cW ?_);rw [hv];exact aeb
 | false =>
  have w0:=of_decide_eq_false hw;have hw2:decide (w=(ByteArray.mk #[]).data.toList)=false:=hw;cases hk:isS w a.2 with
  | false =>
   rw [hk] at hi;rw [if_pos (.inr ⟨w0,hk⟩)] at hv;refine rO (aJ 1 49 [0,1,4,5,12,31,36,40]) Tryz.func221 ?_;conv=>whnf
   refine cR (hX) [0] (cW ?_);rw [oJ he];refine gF (cW ?_);rw [hw];refine gF (cW ?_);rw [hw2];refine cO (fun _=>hi) ?_;exact agU
  | true =>
   rw [hk] at hi;rw [if_neg (show ¬ (w=[]∧(aH a.2).kind≠3∨w≠[]∧isS w a.2=false) from fun x=>x.elim (fun y=>w0 y.1) (fun y=>by rw [hk] at y;exact Bool.noConfusion y.2))] at hv;cases h12:decide (12<((jP a.1:Nat):Int)) with
   | true =>
    rw [if_pos (of_decide_eq_true h12)] at hv;refine rO (aJ 1 49 [0,1,4,5,12,31,36,40]) Tryz.func221 ?_;conv=>whnf
    refine cR (hX) [0] (cW ?_);rw [oJ he];refine gF (cW ?_);rw [hw];refine gF (cW ?_);rw [hw2];refine cO (fun _=>hi) ?_;exact agx
   | false =>
    rw [if_neg (of_decide_eq_false h12),if_pos w0] at hv;refine rO (aJ 1 49 [0,1,4,5,12,31,36,40]) Tryz.func221 ?_;conv=>whnf
    refine cR (hX) [0] (cW ?_);rw [oJ he];refine gF (cW ?_);rw [hw];refine gF (cW ?_);rw [hw2];refine cO (fun _=>hi) (cW ?_);refine gF (cW ?_);refine cO (fun _=>hl) (cW ?_);rw [h12];refine gF (cW ?_);rw [hw];refine gT (cW ?_);refine iO (cW ?_);rw [hat];conv=>whnf
    rw [hv];refine ⟨⟨[(4,.ptr 1 0)],[(0,.cells 212 (bU T ((a.1,(aK a.2))).2)),(1,.cells 51 (cellsE ((a.1,(aK a.2))).1))],2⟩,(aj [(0,.id 0),(1,.id 1)] rfl ⟨aQ,trivial⟩ ⟨aB,aB,trivial⟩),rfl,rfl,?_⟩;exact dM
theorem Cm {T:List Tok} {s:Sr} (h:SSt T s) {w:List UInt8} (hw:w≠[]) (a b:Int):KX 214 [.str w,.int .i64 a,.int .i64 b] T s [.int .i64 (iy w a b s).1] (iy w a b s).2 []:=by
 have q1:=h.to (aP w hw s);have q2:=q1.to (iZ a b _);refine rO (aJ 1 20 [0,1,2,3,8,9]) Tryz.func214 ?_;conv=>whnf
 refine cR ((f_ h w)) [0] (cW ?_);refine cR ((EX q1 a b)) [0] (cW ?_);refine cR ((f_ q2 [59])) [0] (cW ?_);refine ⟨⟨[(8,.int .i64 ((iy w a b s)).1)],[(0,.cells 212 (bU T ((iy w a b s)).2))],1⟩,(aj [(0,.id 0)] rfl ⟨ah,trivial⟩ ⟨aB,trivial⟩),rfl,rfl,?_⟩;exact dM
theorem NZ {T:List Tok} {s:Sr} (h:SSt T s) {w:List UInt8} (hw:w≠[]) (a n0:Int):KX 224 [.str w,.int .i64 a,.int .i64 n0] T s [.int .i64 (nH w a n0 s).1] (nH w a n0 s).2 []:=by
 have hi:=J_ h w;unfold nH;cases hb:isS w s with
 | true =>
  rw [hb] at hi;refine rO (aJ 1 17 [0,1,2,3,8,11]) Tryz.func224 ?_;conv=>whnf
  refine cO (fun _=>hi) (cW ?_);refine gT (cW ?_);refine cR ((Cm h hw 0 a)) [0] (cW ?_);refine ⟨⟨[(8,.int .i64 ((iy w 0 a s)).1)],[(0,.cells 212 (bU T ((iy w 0 a s)).2))],1⟩,(aj [(0,.id 0)] rfl ⟨ah,trivial⟩ ⟨aB,trivial⟩),rfl,rfl,?_⟩;exact dM
 | false =>
  rw [hb] at hi;refine rO (aJ 1 17 [0,1,2,3,8,11]) Tryz.func224 ?_;conv=>whnf
  refine cO (fun _=>hi) (cW ?_);refine gF (cW ?_);refine ⟨⟨[(8,.int .i64 ((n0,s)).1)],[(0,.cells 212 (bU T ((n0,s)).2))],1⟩,(aj [(0,.id 0)] rfl ⟨ah,trivial⟩ ⟨aB,trivial⟩),rfl,rfl,?_⟩;exact dM
theorem aeE {T:List Tok} {s:Sr} (h:SSt T s) {w:List UInt8} (hw:w≠[]) (ws:List (List UInt8)) (hws:∀ x∈ws,x≠[]) (hl:ws.length≤1000):KX 217 [.str w,.sl 1 encS [] ws] T s [.int .i64 (yI w ws s).1] (yI w ws s).2 []:=by
 have q1:=h.to (aP w hw s);unfold yI;dsimp only;obtain ⟨p,hp⟩:∃ p,p=aU w s:=⟨_,rfl⟩;rw [← hp] at q1 ⊢;refine rO (aJ 1 28 [0,1,2,6,7,14,22]) Tryz.func217 ?_;conv=>whnf
 refine cR ((f_ h w)) [0] (cW ?_);rw [← hp];conv=>whnf
 refine dO (aJ _ _ _) (fun k:Nat=>k≤ws.length∧∀ j,j<k→isS (ws.getD j []) p=false) (fun k=>ws.length-k) (fun k=>⟨[(0,.ptr 0 0),(1,.str w),(2,.sl 1 encS [] ws),(7,.int .i64 (k:Nat))],[(0,.cells 212 (bU T p))],1⟩) 0 ⟨by show 0≤_;omega,fun j hj=>by omega⟩ ((aj [(0,.id 0)] rfl ⟨aQ,ah,ah,ah,trivial⟩ ⟨aB,trivial⟩)) ?_;intro k ⟨hk,hP⟩;have hk:k≤ws.length:=hk;conv=>whnf
 refine ⟨fun hd=>?_,fun hd=>?_⟩
 ·have hd:=of_decide_eq_true hd;have hlt:k<ws.length:=by omega
  have hek:(k:Int).toNat=k:=Int.toNat_natCast k;have hm:ws.getD k []≠[]:=hws _ (by
   rw [List.getD_eq_getElem?_getD,List.getElem?_eq_getElem hlt];exact List.getElem_mem _)
  conv=>whnf
  refine iO (cW ?_);refine And.intro rfl (cW ?_);rw [hek];cases hb:isS (ws.getD k []) p with
  | true =>
   have hi:dN (fun x=>isS x p) ws=k:=AA (d:=[]) hlt hP hb;rw [hi];rw [if_neg (by omega)];refine cR ((nI q1 hb)) [0] (cW ?_);refine gT (cW ?_);refine cR ((f_ (q1.to (fV hm hb)) [59])) [0] (cW ?_);refine ⟨⟨[(6,.int .i64 ((((k:Nat):Int),(aU [59] (aK p)))).1)],[(0,.cells 212 (bU T ((((k:Nat):Int),(aU [59] (aK p)))).2))],1⟩,(aj [(0,.id 0)] rfl ⟨ah,trivial⟩ ⟨aB,trivial⟩),rfl,rfl,?_⟩;exact dM
  | false =>
   refine cR ((bY q1 hb)) [0] (cW ?_);refine gF (cW ?_);refine iO (cW ?_);exact ⟨k+1,⟨hlt,fun j hj=>(by
    by_cases e:j=k
    ·rw [e];exact hb
    ·exact hP j (by omega))⟩,acG,(aj [(0,.id 0)] rfl ⟨aQ,ah,ah,ah,trivial⟩ ⟨aB,trivial⟩)⟩
 ·have hd:=of_decide_eq_false hd;have hke:k=ws.length:=by omega
  have hi:dN (fun x=>isS x p) ws=-1:=zG (d:=[]) (fun j hj=>hP j (by omega));rw [hi];rw [if_pos (by decide)];conv=>whnf
  refine cR ((mM q1 12)) [0] (cW ?_);refine ⟨⟨[(6,.int .i64 ((0,(dD 12 p))).1)],[(0,.cells 212 (bU T ((0,(dD 12 p))).2))],1⟩,(aj [(0,.id 0)] rfl ⟨ah,trivial⟩ ⟨aB,trivial⟩),rfl,rfl,?_⟩;exact dM
theorem Vu (a b:Int) (s:Sr) (ha:0≤a) (hb:0≤b):0≤(fJ a b s).1∧(fJ a b s).1≤b:=by
 rcases afi a b s with h | h<;>omega
theorem Ut {T:List Tok} {s:Sr} (h:SSt T s) (least:Int):KX 215 [.int .i64 least] T s [.int .i64 (nK least s).1] (nK least s).2 []:=by
 have q1:=h.to (iZ 0 1000000000000000 s);have q2:=q1.to (aP [45] (by decide) _);have q3:=q2.to (iZ 0 1000000000000000 _);have q4:=q3.to (aP [45] (by decide) _);have y0:=Vu 0 1000000000000000 s (by omega) (by omega);have m0:=Vu 0 1000000000000000 (aU [45] (fJ 0 1000000000000000 s).2) (by omega) (by omega);have c1:=EX h 0 1000000000000000;have c2:=f_ q1 [45];have c3:=EX q2 0 1000000000000000;have c4:=f_ q3 [45];obtain ⟨v,hv⟩:∃ v,v=nK least s:=⟨_,rfl⟩;rw [← hv];unfold nK at hv;dsimp only at hv;generalize aU [45] (fJ 0 1000000000000000 (aU [45] (fJ 0 1000000000000000 s).2)).2=p at *;generalize fJ 0 1000000000000000 (aU [45] (fJ 0 1000000000000000 s).2)=m at *;generalize aU [45] (fJ 0 1000000000000000 s).2=p2 at *;generalize fJ 0 1000000000000000 s=y at *;have hx:=jJ q4;have hd:=YE y.1 m.1 (aH p).n y0.1 (by omega);unfold NY at hd;have hat:=q4.at
 have b1:=q4.st.pos;have b2:=q4.st.le;have b3:=q4.st.big;cases hk:decide ((aH p).kind=1) with
 | false =>
  rw [if_pos (of_decide_eq_false hk)] at hv;rw [hv];refine rO (aJ 1 50 [0,1,4,5,6,7,8,9,22,34,39]) Tryz.func215 ?_;conv=>whnf
  refine cR (c1) [0] (cW ?_);refine cR (c2) [0] (cW ?_);refine cR (c3) [0] (cW ?_);refine cR (c4) [0] (cW ?_);refine cO (fun _=>hx) (cW ?_);rw [hk];refine gT (cW ?_);refine cR ((mM q4 12)) [0] (cW ?_);refine ⟨⟨[(4,.int .i64 ((0,(dD 12 p))).1)],[(0,.cells 212 (bU T ((0,(dD 12 p))).2))],1⟩,(aj [(0,.id 0)] rfl ⟨ah,trivial⟩ ⟨aB,trivial⟩),rfl,rfl,?_⟩;exact dM
 | true =>
 rw [if_neg (not_not_intro (of_decide_eq_true hk))] at hv;cases h0:decide ((dayOf y.1 m.1 (aH p).n).2=0) with
 | false =>
  rw [if_pos (of_decide_eq_false h0)] at hv;rw [hv];refine rO (aJ 1 50 [0,1,4,5,6,7,8,9,22,34,39]) Tryz.func215 ?_;conv=>whnf
  refine cR (c1) [0] (cW ?_);refine cR (c2) [0] (cW ?_);refine cR (c3) [0] (cW ?_);refine cR (c4) [0] (cW ?_);refine cO (fun _=>hx) (cW ?_);rw [hk];refine gF (cW ?_);refine cO (fun _=>hd) (cW ?_);rw [h0];refine gT (cW ?_);refine cR ((mM q4 23)) [0] (cW ?_);refine ⟨⟨[(4,.int .i64 ((0,(dD 23 p))).1)],[(0,.cells 212 (bU T ((0,(dD 23 p))).2))],1⟩,(aj [(0,.id 0)] rfl ⟨ah,trivial⟩ ⟨aB,trivial⟩),rfl,rfl,?_⟩;exact dM
 | true =>
 rw [if_neg (not_not_intro (of_decide_eq_true h0))] at hv;cases hl:decide ((dayOf y.1 m.1 (aH p).n).1≤least) with
 | true =>
  rw [if_pos (of_decide_eq_true hl)] at hv;rw [hv];refine rO (aJ 1 50 [0,1,4,5,6,7,8,9,22,34,39]) Tryz.func215 ?_;conv=>whnf
  refine cR (c1) [0] (cW ?_);refine cR (c2) [0] (cW ?_);refine cR (c3) [0] (cW ?_);refine cR (c4) [0] (cW ?_);refine cO (fun _=>hx) (cW ?_);rw [hk];refine gF (cW ?_);refine cO (fun _=>hd) (cW ?_);rw [h0];refine gF (cW ?_);rw [hl];refine gT (cW ?_);refine cR ((mM q4 3)) [0] (cW ?_);refine ⟨⟨[(4,.int .i64 ((0,(dD 3 p))).1)],[(0,.cells 212 (bU T ((0,(dD 3 p))).2))],1⟩,(aj [(0,.id 0)] rfl ⟨ah,trivial⟩ ⟨aB,trivial⟩),rfl,rfl,?_⟩;exact dM
 | false =>
  rw [if_neg (of_decide_eq_false hl)] at hv;rw [hv];refine rO (aJ 1 50 [0,1,4,5,6,7,8,9,22,34,39]) Tryz.func215 ?_;conv=>whnf
  refine cR (c1) [0] (cW ?_);refine cR (c2) [0] (cW ?_);refine cR (c3) [0] (cW ?_);refine cR (c4) [0] (cW ?_);refine cO (fun _=>hx) (cW ?_);rw [hk];refine gF (cW ?_);refine cO (fun _=>hd) (cW ?_);rw [h0];refine gF (cW ?_);rw [hl];refine gF (cW ?_);refine iO (cW ?_);rw [hat];conv=>whnf
  refine ⟨⟨[(4,.int .i64 (((dayOf y.1 m.1 (aH p).n).1,(aK p))).1)],[(0,.cells 212 (bU T (((dayOf y.1 m.1 (aH p).n).1,(aK p))).2))],1⟩,(aj [(0,.id 0)] rfl ⟨ah,trivial⟩ ⟨aB,trivial⟩),rfl,rfl,?_⟩;exact dM
theorem ahM {p:Prop}(h:p:=by
 conv=>whnf
 refine gT (cW ?_);refine cR ((mM h 12)) [0] (cW ?_);refine ⟨⟨[(4,.str ([]))],[(0,.cells 212 (bU T ((dD 12 s)))),(1,.row 9 1 encS [] names)],2⟩,(aj [(0,.id 0),(1,.id 1)] rfl ⟨ah,trivial⟩ ⟨aB,⟨_,rfl,jA⟩,trivial⟩),rfl,rfl,?_⟩;exact dM):p:=h
theorem MW {T:List Tok} {s:Sr} (h:SSt T s) (names:List (List UInt8)) (hl:names.length≤1000):jo Tryz.prog 258 [.ptr 0 0,.own 1] [Um T s,.row 9 1 encS [] names] 2 (fun vs bs es=>vs=[.str (dR names s).1]∧bs=[Um T (dR names s).2,.row 9 1 encS [] names]∧es=[]):=by
 have hx:=jJ h;have hm:=EW (aH s).text (by have:=h.tlen;omega);cases hk:decide ((aH s).kind=0) with
 | false =>
  have hn:gB s=false:=by unfold gB;rw [hk];rfl
  have hs:dR names s=([],dD 12 s):=by unfold dR;rw [if_pos hn]
  rw [hs];refine rO (aJ 2 37 [0,1,4,5,6,17,23,32]) Tryz.func258 ?_;conv=>whnf
  refine cO (fun _=>hx) (cW ?_);rw [hk];refine cF [.str (aH s).text] [.val (.bool false)] ?_;exact ahM
 | true =>
  cases hb:nameB (aH s).text with
  | false =>
   rw [hb] at hm;have hn:gB s=false:=by unfold gB;rw [hk,hb];rfl
   have hs:dR names s=([],dD 12 s):=by unfold dR;rw [if_pos hn]
   rw [hs];refine rO (aJ 2 37 [0,1,4,5,6,17,23,32]) Tryz.func258 ?_;conv=>whnf
   refine cO (fun _=>hx) (cW ?_);rw [hk];refine cO (fun _=>hm) ?_;exact ahM
  | true =>
   rw [hb] at hm;have hn:gB s=true:=by unfold gB;rw [hk,hb];rfl
   have hnm:lg s=((aH s).text,aK s):=by unfold lg;rw [if_pos hn]
   have hs:dR names s=if (aH s).text∈names then ([],dD 5 s) else ((aH s).text,aK s):=by unfold dR;rw [hn,if_neg (by decide)]
   have hnk:=DY h;rw [hnm] at hnk;rw [hs];refine rO (aJ 2 37 [0,1,4,5,6,17,23,32]) Tryz.func258 ?_;conv=>whnf
   refine cO (fun _=>hx) (cW ?_);rw [hk];refine cO (fun _=>hm) (cW ?_);refine gF (cW ?_);refine dO (aJ _ _ _) (fun k:Nat=>k≤names.length∧∀ j,j<k→names.getD j []≠(aH s).text) (fun k=>names.length-k) (fun k=>⟨[(0,.ptr 0 0),(1,.own 1),(5,.ptr 2 0),(6,.int .i64 (k:Nat))],[(0,.cells 212 (bU T s)),(1,.row 9 1 encS [] names),(2,.cells 198 [.int .i64 (aH s).kind,.str (aH s).text,.int .i64 (aH s).n,.int .i64 (aH s).pos])],3⟩) 0 ⟨by show 0≤_;omega,fun j hj=>by omega⟩ ((aj [(0,.id 0),(1,.id 1),(2,.id 2)] rfl ⟨aQ,kX,aQ,ah,trivial⟩ ⟨aB,⟨_,rfl,jA⟩,aB,trivial⟩)) ?_;intro k ⟨hkn,hP⟩;have hkn:k≤names.length:=hkn;conv=>whnf
   refine ⟨fun hd=>?_,fun hd=>?_⟩
   ·have hd:=of_decide_eq_true hd;have hlt:k<names.length:=by omega
    have hek:(k:Int).toNat=k:=Int.toNat_natCast k;conv=>whnf
    refine .quiet bZ (cW ?_);refine iO (cW ?_);refine And.intro aI (And.intro rfl (cW ?_));rw [hek];cases he:decide (names.getD k []=(aH s).text) with
    | true =>
     have hmem:(aH s).text∈names:=by
      rw [← of_decide_eq_true he,List.getD_eq_getElem?_getD,List.getElem?_eq_getElem hlt];exact List.getElem_mem _
     rw [if_pos hmem];refine gT (cW ?_);refine cR ((mM h 5)) [0] (cW ?_);refine ⟨⟨[(4,.str ([]))],[(0,.cells 212 (bU T ((dD 5 s)))),(1,.row 9 1 encS [] names)],2⟩,(aj [(0,.id 0),(1,.id 1)] rfl ⟨ah,trivial⟩ ⟨aB,⟨_,rfl,jA⟩,trivial⟩),rfl,rfl,?_⟩;exact dM
    | false =>
     refine gF (cW ?_);refine iO (cW ?_);exact ⟨k+1,⟨hlt,fun j hj=>(by
      by_cases e:j=k
      ·rw [e];exact of_decide_eq_false he
      ·exact hP j (by omega))⟩,(by show names.length-(k+1)<names.length-k;omega),(aj [(0,.id 0),(1,.id 1),(2,.id 2)] rfl ⟨aQ,kX,aQ,ah,trivial⟩ ⟨aB,⟨_,rfl,jA⟩,aB,trivial⟩)⟩
   ·have hd:=of_decide_eq_false hd;have hnm:¬ (aH s).text∈names:=by
     intro hm;obtain ⟨j,hj,hje⟩:=List.getElem_of_mem hm;refine hP j aI ?_;rw [List.getD_eq_getElem?_getD,List.getElem?_eq_getElem hj];exact hje
    rw [if_neg hnm];conv=>whnf
    refine cR (hnk) [0] (cW ?_);refine ⟨⟨[(4,.str ((aH s).text))],[(0,.cells 212 (bU T ((aK s)))),(1,.row 9 1 encS [] names)],2⟩,(aj [(0,.id 0),(1,.id 1)] rfl ⟨ah,trivial⟩ ⟨aB,⟨_,rfl,jA⟩,trivial⟩),rfl,rfl,?_⟩;exact dM
theorem agF {T:List Tok} {s:Sr} (h:SSt T s):KX 220 [] T s [.sl 6 mY l0 (sO s.r.length [] s).1] (sO s.r.length [] s).2 []:=by
 obtain ⟨v,hv⟩:∃ v,v=sO s.r.length [] s:=⟨_,rfl⟩;rw [← hv];refine rO (aJ 1 40 [0,2,3,4,6,9]) Tryz.func220 ?_;conv=>whnf
 refine dO (aJ _ _ _) (fun s:Nat×(List LetE×Sr)=>SSt T s.2.2∧s.2.2.r.length≤s.1∧s.2.1.length≤20∧v=sO s.1 s.2.1 s.2.2) (fun s=>s.1) (fun s=>⟨[(0,.ptr 0 0),(3,.own 2),(4,.own 1)],[(0,.cells 212 (bU T (s.2.2))),(1,.row 9 1 encS [] ((s.2.1).map LetE.name)),(2,.row 223 6 mY l0 (s.2.1))],3⟩) (s.r.length,([],s)) ⟨h,Nat.le_refl _,by simp,hv⟩ ((aj [(0,.id 0),(1,.nil),(2,.nil)] rfl ⟨aQ,kX,kX,trivial⟩ ⟨aB,⟨_,rfl,jA⟩,⟨_,rfl,jA⟩,trivial⟩)) ?_;rintro ⟨f,ls,q⟩ ⟨hq,hqf,hls,hsp⟩;dsimp only at hq hqf hls hsp ⊢;obtain ⟨f,rfl⟩:∃ g,f=g+1:=⟨f-1,by have:=hq.st.pos;omega⟩;have hi:=J_ hq [108,101,116];cases hb:isS [108,101,116] q with
 | false =>
  rw [hb] at hi;conv=>whnf
  refine cO (fun _=>hi) (cW ?_);refine gF (cW ?_);rw [sO,if_pos hb] at hsp;rw [hsp];refine ⟨⟨[(2,.sl 6 mY l0 ls)],[(0,.cells 212 (bU T q))],1⟩,(dY [2]).trans (aj [(0,.id 0)] rfl ⟨ah,trivial⟩ ⟨aB,trivial⟩),rfl,rfl,?_⟩;exact dM
 | true =>
  rw [hb] at hi;have q0:=fV (by decide) hb;have q1:=hq.to q0;have hat:=hq.at
  have hqp:=hq.st.pos;have hqle:=hq.st.le;have hbig:=hq.st.big;have htl:=lJ hq.st.fin;have hnl:(ls.map LetE.name).length=ls.length:=List.length_map ..;rw [sO,if_neg (by rw [hb];decide)] at hsp;conv=>whnf
  refine cO (fun _=>hi) (cW ?_);refine gT (cW ?_);cases h20:decide ((ls.length:Int)=20) with
  | true =>
   rw [if_pos (of_decide_eq_true h20)] at hsp;rw [hsp];refine gT (cW ?_);refine cR ((mM hq 6)) [0] (cW ?_);refine ⟨⟨[(2,.sl 6 mY l0 ([]))],[(0,.cells 212 (bU T ((dD 6 q))))],1⟩,(aj [(0,.id 0)] rfl ⟨.base (.leT _ _ (g_.nils_sl 6 mY l0) rfl),trivial⟩ ⟨aB,trivial⟩),rfl,rfl,?_⟩;exact dM
  | false =>
   have h20':=of_decide_eq_false h20;rw [if_neg h20'] at hsp;dsimp only at hsp;have g1:=yg (ls.map LetE.name) (aK q);have g2:=g1.trans (aP [61] (by decide) _);have g3:=g2.trans (ou [59] _);have cf:=MW q1 (ls.map LetE.name) (by omega);have cw:=f_ (q1.to g1) [61];have ch:=NQ (q1.to g2) [59];have q4:=q1.to g3;have hl4:=g3.suf.le;generalize lH [59] (aU [61] (dR (ls.map LetE.name) (aK q)).2)=b at *;generalize aU [61] (dR (ls.map LetE.name) (aK q)).2=p at *;generalize dR (ls.map LetE.name) (aK q)=a at *;refine gF (cW ?_);refine iO (cW ?_);rw [hat];conv=>whnf
   refine cR (cf) [0,1] (cW ?_);refine And.intro rfl (cW ?_);refine And.intro ⟨rfl,rfl⟩ (And.intro ahQ (cW ?_));refine Exists.intro a.1 (And.intro rfl (cW ?_));refine cR (cw) [0] (cW ?_);have hnl2:((List.map LetE.name ls++[a.1]).length:Int)=ls.length+1:=by rw [List.length_append,hnl];rfl
   have hgs:(List.map LetE.name ls++[a.1]).getD ((ls.length:Nat):Int).toNat []=a.1:=by
    exact XB
   have hlt2:((ls.length:Nat):Int).toNat<(List.map LetE.name ls++[a.1]).length:=by rw [Int.toNat_natCast,List.length_append,hnl];exact Nat.lt_succ_self _
   have hm1:((ls.length:Nat):Int)+1-1=(ls.length:Nat):=by omega
   refine .eff ad0 (cW ?_);rw [hnl2];refine iO (cW ?_);rw [hm1];refine iO (cW ?_);rw [hgs];refine And.intro hlt2 (And.intro rfl (cW ?_));refine cR (ch) [0] (cW ?_);refine And.intro rfl (cW ?_);refine And.intro ⟨rfl,rfl⟩ (And.intro (by show (ls.length+1)*80≤140737488355328;omega) (cW ?_));refine Exists.intro ⟨a.1,b.1⟩ (And.intro rfl (cW ?_));refine ⟨by kernel_rfl,(cW (cW ?_))⟩;exact ⟨(f,(ls++[⟨a.1,b.1⟩],b.2)),⟨q4,(by show b.2.r.length≤f;have:(aK q).r.length=q.r.tail.length:=rfl;omega),JG,hsp⟩,Nat.lt_succ_self f,(aj [(0,.id 0),(1,.id 4),(2,.id 7)] rfl ⟨aQ,kX,kX,trivial⟩ ⟨aB,⟨_,rfl,Xz⟩,⟨_,rfl,jA⟩,trivial⟩)⟩
theorem ahI {p:Prop} (h:p:=by show z.r.length≤f;have:(aK q).r.length=q.r.tail.length:=rfl;omega):p:=h
theorem agw {T:List Tok} {s:Sr} (h:SSt T s):KX 222 [] T s [.sl 7 pJ c0 (sS s.r.length [] s).1] (sS s.r.length [] s).2 []:=by
 obtain ⟨v,hv⟩:∃ v,v=sS s.r.length [] s:=⟨_,rfl⟩;rw [← hv];refine rO (aJ 1 47 [0,2,3,4,5,7,10]) Tryz.func222 ?_;conv=>whnf
 refine dO (aJ _ _ _) (fun s:Nat×(List Cov×Sr)=>SSt T s.2.2∧s.2.2.r.length≤s.1∧s.2.1.length≤20∧v=sS s.1 s.2.1 s.2.2) (fun s=>s.1) (fun s=>⟨[(0,.ptr 0 0),(3,.own 2),(4,.own 1)],[(0,.cells 212 (bU T (s.2.2))),(1,.row 9 1 encS [] ((s.2.1).map Cov.name)),(2,.row 227 7 pJ c0 (s.2.1))],3⟩) (s.r.length,([],s)) ⟨h,Nat.le_refl _,by simp,hv⟩ ((aj [(0,.id 0),(1,.nil),(2,.nil)] rfl ⟨aQ,kX,kX,trivial⟩ ⟨aB,⟨_,rfl,jA⟩,⟨_,rfl,jA⟩,trivial⟩)) ?_;rintro ⟨f,ls,q⟩ ⟨hq,hqf,hls,hsp⟩;dsimp only at hq hqf hls hsp ⊢;obtain ⟨f,rfl⟩:∃ g,f=g+1:=⟨f-1,by have:=hq.st.pos;omega⟩;have hi:=J_ hq [99,111,118,101,110,97,110,116];cases hb:isS [99,111,118,101,110,97,110,116] q with
 | false =>
  rw [hb] at hi;conv=>whnf
  refine cO (fun _=>hi) (cW ?_);refine gF (cW ?_);rw [sS,if_pos hb] at hsp;rw [hsp];refine ⟨⟨[(2,.sl 7 pJ c0 ls)],[(0,.cells 212 (bU T q))],1⟩,(dY [2]).trans (aj [(0,.id 0)] rfl ⟨ah,trivial⟩ ⟨aB,trivial⟩),rfl,rfl,?_⟩;exact dM
 | true =>
  rw [hb] at hi;have q0:=fV (by decide) hb;have q1:=hq.to q0;have hat:=hq.at
  have hqp:=hq.st.pos;have hqle:=hq.st.le;have hbig:=hq.st.big;have htl:=lJ hq.st.fin;have hnl:(ls.map Cov.name).length=ls.length:=List.length_map ..;rw [sS,if_neg (by rw [hb];decide)] at hsp;conv=>whnf
  refine cO (fun _=>hi) (cW ?_);refine gT (cW ?_);cases h20:decide ((ls.length:Int)=20) with
  | true =>
   rw [if_pos (of_decide_eq_true h20)] at hsp;rw [hsp];refine gT (cW ?_);refine cR ((mM hq 6)) [0] (cW ?_);refine ⟨⟨[(2,.sl 7 pJ c0 ([]))],[(0,.cells 212 (bU T ((dD 6 q))))],1⟩,(aj [(0,.id 0)] rfl ⟨.base (.leT _ _ (g_.nils_sl 7 pJ c0) rfl),trivial⟩ ⟨aB,trivial⟩),rfl,rfl,?_⟩;exact dM
  | false =>
   have h20':=of_decide_eq_false h20;rw [if_neg h20'] at hsp;dsimp only at hsp;have g1:=yg (ls.map Cov.name) (aK q);have g2:=g1.trans (aP [109,117,115,116] (by decide) _);have g3:=g2.trans (ou [103,114,97,99,101] _);have cf:=MW q1 (ls.map Cov.name) (by omega);have cw:=f_ (q1.to g1) [109,117,115,116];have ch:=NQ (q1.to g2) [103,114,97,99,101];have g4:=g3.trans (iZ 0 1000 _);have g5:=g4.trans (aP [59] (by decide) _);have cn:=EX (q1.to g3) 0 1000;have cz:=f_ (q1.to g4) [59];have q4:=q1.to g5;have hl4:=g5.suf.le;generalize aU [59] (fJ 0 1000 (lH [103,114,97,99,101] (aU [109,117,115,116] (dR (ls.map Cov.name) (aK q)).2)).2).2=z at *;generalize fJ 0 1000 (lH [103,114,97,99,101] (aU [109,117,115,116] (dR (ls.map Cov.name) (aK q)).2)).2=n at *;generalize lH [103,114,97,99,101] (aU [109,117,115,116] (dR (ls.map Cov.name) (aK q)).2)=b at *;generalize aU [109,117,115,116] (dR (ls.map Cov.name) (aK q)).2=p at *;generalize dR (ls.map Cov.name) (aK q)=a at *;refine gF (cW ?_);refine iO (cW ?_);rw [hat];conv=>whnf
   refine cR (cf) [0,1] (cW ?_);refine And.intro rfl (cW ?_);refine And.intro ⟨rfl,rfl⟩ (And.intro aia (cW ?_));refine Exists.intro a.1 (And.intro rfl (cW ?_));refine cR (cw) [0] (cW ?_);have hnl2:((List.map Cov.name ls++[a.1]).length:Int)=ls.length+1:=by rw [List.length_append,hnl];rfl
   have hgs:(List.map Cov.name ls++[a.1]).getD ((ls.length:Nat):Int).toNat []=a.1:=by
    exact XB
   have hlt2:((ls.length:Nat):Int).toNat<(List.map Cov.name ls++[a.1]).length:=by rw [Int.toNat_natCast,List.length_append,hnl];exact Nat.lt_succ_self _
   have hm1:((ls.length:Nat):Int)+1-1=(ls.length:Nat):=by omega
   refine .eff ad0 (cW ?_);rw [hnl2];refine iO (cW ?_);rw [hm1];refine iO (cW ?_);rw [hgs];refine And.intro hlt2 (And.intro rfl (cW ?_));refine cR (ch) [0] (cW ?_);refine ⟨by kernel_rfl,(cW (cW ?_))⟩;refine cR (cn) [0] (cW ?_);refine cR (cz) [0] (cW ?_);refine And.intro rfl (cW ?_);refine And.intro ⟨rfl,rfl⟩ (And.intro (by show (ls.length+1)*88≤140737488355328;omega) (cW ?_));refine Exists.intro ⟨a.1,b.1,n.1⟩ (And.intro rfl (cW ?_));exact ⟨(f,(ls++[⟨a.1,b.1,n.1⟩],z)),⟨q4,ahI,JG,hsp⟩,Nat.lt_succ_self f,(aj [(0,.id 0),(1,.id 4),(2,.id 8)] rfl ⟨aQ,kX,kX,trivial⟩ ⟨aB,⟨_,rfl,Xz⟩,⟨_,rfl,jA⟩,trivial⟩)⟩
theorem af2 {T:List Tok} {s:Sr} (h:SSt T s):KX 225 [] T s [.sl 2 zH k0 (o8 s.r.length [] s).1] (o8 s.r.length [] s).2 []:=by
 obtain ⟨v,hv⟩:∃ v,v=o8 s.r.length [] s:=⟨_,rfl⟩;rw [← hv];refine rO (aJ 1 34 [0,2,3,4,6,9]) Tryz.func225 ?_;conv=>whnf
 refine dO (aJ _ _ _) (fun s:Nat×(List CallE×Sr)=>SSt T s.2.2∧s.2.2.r.length≤s.1∧s.2.1.length≤20∧v=o8 s.1 s.2.1 s.2.2) (fun s=>s.1) (fun s=>⟨[(0,.ptr 0 0),(3,.own 1)],[(0,.cells 212 (bU T (s.2.2))),(1,.row 229 2 zH k0 (s.2.1))],2⟩) (s.r.length,([],s)) ⟨h,Nat.le_refl _,by simp,hv⟩ ((aj [(0,.id 0),(1,.nil)] rfl ⟨aQ,kX,trivial⟩ ⟨aB,⟨_,rfl,jA⟩,trivial⟩)) ?_;rintro ⟨f,ls,q⟩ ⟨hq,hqf,hls,hsp⟩;dsimp only at hq hqf hls hsp ⊢;obtain ⟨f,rfl⟩:∃ g,f=g+1:=⟨f-1,by have:=hq.st.pos;omega⟩;have hi:=J_ hq [99,97,108,108];cases hb:isS [99,97,108,108] q with
 | false =>
  rw [hb] at hi;conv=>whnf
  refine cO (fun _=>hi) (cW ?_);refine gF (cW ?_);rw [o8,if_pos hb] at hsp;rw [hsp];refine ⟨⟨[(2,.sl 2 zH k0 ls)],[(0,.cells 212 (bU T q))],1⟩,(dY [1]).trans (aj [(0,.id 0)] rfl ⟨ah,trivial⟩ ⟨aB,trivial⟩),rfl,rfl,?_⟩;exact dM
 | true =>
  rw [hb] at hi;have q0:=fV (by decide) hb;have q1:=hq.to q0;have hat:=hq.at
  have hqp:=hq.st.pos;have hqle:=hq.st.le;have hbig:=hq.st.big;have htl:=lJ hq.st.fin;rw [o8,if_neg (by rw [hb];decide)] at hsp;conv=>whnf
  refine cO (fun _=>hi) (cW ?_);refine gT (cW ?_);cases h20:decide ((ls.length:Int)=20) with
  | true =>
   rw [if_pos (of_decide_eq_true h20)] at hsp;rw [hsp];refine gT (cW ?_);refine cR ((mM hq 6)) [0] (cW ?_);refine ⟨⟨[(2,.sl 2 zH k0 ([]))],[(0,.cells 212 (bU T ((dD 6 q))))],1⟩,(aj [(0,.id 0)] rfl ⟨.base (.leT _ _ (g_.nils_sl 2 zH k0) rfl),trivial⟩ ⟨aB,trivial⟩),rfl,rfl,?_⟩;exact dM
  | false =>
   have h20':=of_decide_eq_false h20;rw [if_neg h20'] at hsp;dsimp only at hsp;have g1:=wV (-1) (aK q);have g2:=g1.trans (aP [97,116] (by decide) _);have g3:=g2.trans (iZ 0 10000 _);have g4:=g3.trans (aP [59] (by decide) _);have cf:=Ut q1 (-1);have cw:=f_ (q1.to g1) [97,116];have cn:=EX (q1.to g2) 0 10000;have cz:=f_ (q1.to g3) [59];have q4:=q1.to g4;have hl4:=g4.suf.le;generalize aU [59] (fJ 0 10000 (aU [97,116] (nK (-1) (aK q)).2)).2=z at *;generalize fJ 0 10000 (aU [97,116] (nK (-1) (aK q)).2)=n at *;generalize aU [97,116] (nK (-1) (aK q)).2=p at *;generalize nK (-1) (aK q)=a at *;refine gF (cW ?_);refine iO (cW ?_);rw [hat];conv=>whnf
   refine cR (cf) [0] (cW ?_);refine cR (cw) [0] (cW ?_);refine cR (cn) [0] (cW ?_);refine cR (cz) [0] (cW ?_);refine And.intro rfl (cW ?_);refine And.intro ⟨rfl,rfl⟩ (And.intro Xw (cW ?_));refine Exists.intro ⟨a.1,n.1⟩ (And.intro rfl (cW ?_));exact ⟨(f,(ls++[⟨a.1,n.1⟩],z)),⟨q4,ahI,JG,hsp⟩,Nat.lt_succ_self f,(aj [(0,.id 0),(1,.id 4)] rfl ⟨aQ,kX,trivial⟩ ⟨aB,⟨_,rfl,jA⟩,trivial⟩)⟩
theorem aaI {T:List Tok} {q:Sr} (h:SSt T q) (he:q.er=none) (names:List (List UInt8)):mS (dR names q).2<mS q:=by
 have h1:mS q=q.r.length:=by unfold mS;rw [he];rfl
 have h2:=h.st.pos;have hf:∀ e,mS (dD e q)=0:=fun e=>by
  unfold mS dD;rw [he];rfl
 unfold dR;split
 ·show mS (dD 12 q)<_;rw [hf,h1];exact h2
 split
 ·show mS (dD 5 q)<_;rw [hf,h1];exact h2
 ·exact ahV h he
theorem acy {q:Sr} (he:q.er=none) (hn:gB q=false) (names:List (List UInt8)):(dR names q).2.er≠none:=by
 unfold dR dD;rw [if_pos hn,he];exact fun h=>by cases h
theorem aa1 {p:Prop}(h:p:=by
 conv=>whnf
 refine gF (cW ?_);have hs:v=zO f (ls++[(dR ls q).1]) (dR ls q).2:=by rw [hsp,zO,if_pos ⟨hE,hg⟩,if_neg hns]
 have q2:=hq.to (yg ls q);have lt2:=aaI hq he ls;have cf:=MW hq ls (by omega);generalize dR ls q=a at *;refine cR (cf) [0,1] (cW ?_);refine And.intro rfl (cW ?_);refine And.intro ⟨rfl,rfl⟩ (And.intro Xw (cW ?_));refine Exists.intro a.1 (And.intro rfl (cW ?_));exact ⟨(f,(ls++[a.1],a.2)),⟨q2,(by show mS a.2<f;omega),hnx,hs⟩,Nat.lt_succ_self f,(aj [(0,.id 0),(1,.id 4)] rfl ⟨aQ,kX,trivial⟩ ⟨aB,⟨_,rfl,jA⟩,trivial⟩)⟩):p:=h
theorem adR {p:Prop}(h:p:=by
 rw [List.length_append];exact ⟨by show ls.length+1≤21;omega,.inr (acy he hnm ls)⟩):p:=h
theorem zt1 {p:Prop}(h:p:=by
 conv=>whnf
 refine gT (cW ?_);have hx:=jJ hq;have hm:=EW (aH q).text (by have:=hq.tlen;omega);refine cO (fun _=>hx) (cW ?_);cases h20:decide ((ls.length:Int)=20) with
 | false =>
  have h20':=of_decide_eq_false h20;have hns:¬ ((ls.length:Int)=20∧gB q=true):=fun x=>h20' x.1
  have hnx:(ls++[(dR ls q).1]).length≤21∧((ls++[(dR ls q).1]).length≤20∨(dR ls q).2.er≠none):=by
   rw [List.length_append];exact ⟨by show ls.length+1≤21;omega,.inl (by show ls.length+1≤20;omega)⟩
  refine cF [.str (aH q).text] [.val (.bool false)] ?_;exact aa1
 | true =>
  have h20':=of_decide_eq_true h20;cases hk:decide ((aH q).kind=0) with
  | false =>
   have hnm:gB q=false:=by unfold gB;rw [hk];rfl
   have hns:¬ ((ls.length:Int)=20∧gB q=true):=fun x=>by rw [hnm] at x;exact Bool.noConfusion x.2
   have hnx:(ls++[(dR ls q).1]).length≤21∧((ls++[(dR ls q).1]).length≤20∨(dR ls q).2.er≠none):=by
    exact adR
   refine cF [.str (aH q).text] [.val (.bool false)] ?_;exact aa1
  | true =>
   cases hb:nameB (aH q).text with
   | false =>
    rw [hb] at hm;have hnm:gB q=false:=by unfold gB;rw [hk,hb];rfl
    have hns:¬ ((ls.length:Int)=20∧gB q=true):=fun x=>by rw [hnm] at x;exact Bool.noConfusion x.2
    have hnx:(ls++[(dR ls q).1]).length≤21∧((ls++[(dR ls q).1]).length≤20∨(dR ls q).2.er≠none):=by
     exact adR
    refine cO (fun _=>hm) ?_;exact aa1
   | true =>
    rw [hb] at hm;have hnm:gB q=true:=by unfold gB;rw [hk,hb];rfl
    have hs:v=([],dD 6 q):=by rw [hsp,zO,if_pos ⟨hE,hg⟩,if_pos ⟨h20',hnm⟩]
    rw [hs];refine cO (fun _=>hm) (cW ?_);refine gT (cW ?_);refine cR ((mM hq 6)) [0] (cW ?_);refine ⟨⟨[(2,.sl 1 encS [] ([]))],[(0,.cells 212 (bU T ((dD 6 q))))],1⟩,(aj [(0,.id 0)] rfl ⟨.base (.leT _ _ (g_.nils_sl 1 encS []) rfl),trivial⟩ ⟨aB,trivial⟩),rfl,rfl,(cW ?_)⟩;exact ⟨rfl,rfl,rfl,rfl⟩):p:=h
theorem aiy {p:Prop}(h:p:=by
 conv=>whnf
 refine gF (cW ?_);refine cR ((f_ hq [59])) [0] (cW ?_);refine ⟨⟨[(2,.sl 1 encS [] ls)],[(0,.cells 212 (bU T ((aU [59] q))))],1⟩,(dY [1]).trans (aj [(0,.id 0)] rfl ⟨ah,trivial⟩ ⟨aB,trivial⟩),rfl,rfl,?_⟩;exact dM):p:=h
theorem aiP {T:List Tok} {s:Sr} (h:SSt T s):KX 223 [] T s [.sl 1 encS [] (yw s).1] (yw s).2 []:=by
 cases hb:isS [102,97,118,111,117,114] s with
 | false =>
  have hs:yw s=([],s):=by unfold yw;rw [if_pos hb]
  rw [hs];refine rO (aJ 1 49 [0,2,3,4,7,22,37]) Tryz.func223 ?_;conv=>whnf
  refine cR ((bY h hb)) [0] (cW ?_);refine gT (cW ?_);refine ⟨⟨[(2,.sl 1 encS [] ([]))],[(0,.cells 212 (bU T s))],1⟩,(aj [(0,.id 0)] rfl ⟨.base (.leT _ _ (g_.nils_sl 1 encS []) rfl),trivial⟩ ⟨aB,trivial⟩),rfl,rfl,?_⟩;exact dM
 | true =>
  have h1:=h.to (fV (by decide) hb);obtain ⟨v,hv⟩:∃ v,v=yw s:=⟨_,rfl⟩;rw [← hv];unfold yw at hv;rw [if_neg (by rw [hb];decide)] at hv;refine rO (aJ 1 49 [0,2,3,4,7,22,37]) Tryz.func223 ?_;conv=>whnf
  refine cR ((nI h hb)) [0] (cW ?_);refine gF (cW ?_);refine dO (aJ _ _ _) (fun s:Nat×(List (List UInt8)×Sr)=>SSt T s.2.2∧mS s.2.2<s.1∧(s.2.1.length≤21∧(s.2.1.length≤20∨s.2.2.er≠none))∧v=zO s.1 s.2.1 s.2.2) (fun s=>s.1) (fun s=>⟨[(0,.ptr 0 0),(3,.own 1)],[(0,.cells 212 (bU T (s.2.2))),(1,.row 9 1 encS [] (s.2.1))],2⟩) (mS (aK s)+1,([],aK s)) ⟨h1,Nat.lt_succ_self _,⟨by simp,.inl (by simp)⟩,hv⟩ ((aj [(0,.id 0),(1,.nil)] rfl ⟨aQ,kX,trivial⟩ ⟨aB,⟨_,rfl,jA⟩,trivial⟩)) ?_;rintro ⟨f,ls,q⟩ ⟨hq,hqf,⟨hls,hl20⟩,hsp⟩;dsimp only at hq hqf hls hl20 hsp ⊢;obtain ⟨f,rfl⟩:∃ g,f=g+1:=⟨f-1,by omega⟩;cases he:q.er with
  | some x =>
   have hx:decide (sD q=0)=false:=decide_eq_false (by unfold sD;rw [he];exact hq.ok x he);have hs:v=(ls,aU [59] q):=by rw [hsp,zO,if_neg (fun y=>by rw [he] at y;exact Bool.noConfusion y.1)]
   rw [hs];conv=>whnf
   rw [hx];refine cF [.rop (bU T q),.str [59]] [.val (.bool false)] ?_;exact aiy
  | none =>
  have hE:q.er.isSome=false:=by rw [he];rfl
  have hl20:ls.length≤20:=hl20.resolve_right (fun x=>x he);cases h0:decide ((ls.length:Int)=0) with
  | true =>
   have hg:(ls.length:Int)=0∨isS [59] q=false:=.inl (of_decide_eq_true h0);conv=>whnf
   rw [oJ he];rw [h0];refine cF [.rop (bU T q),.str [59]] [.val (.bool false)] ?_;exact zt1
  | false =>
   have h0':=of_decide_eq_false h0;have hi:=J_ hq [59];cases h59:isS [59] q with
   | false =>
    rw [h59] at hi;have hg:(ls.length:Int)=0∨isS [59] q=false:=.inr h59;conv=>whnf
    rw [oJ he];rw [h0];refine cO (fun _=>hi) ?_;exact zt1
   | true =>
    rw [h59] at hi;have hs:v=(ls,aU [59] q):=by rw [hsp,zO,if_neg (fun y=>y.2.elim h0' (fun z=>by rw [h59] at z;exact Bool.noConfusion z))]
    rw [hs];conv=>whnf
    rw [oJ he];rw [h0];refine cO (fun _=>hi) ?_;exact aiy
def zU (s:Sr):Ind×Sr :=
 let a1:=aU [105,115,115,117,101] s
 let a2:=lg a1
 let a3:=aU [111,102] a2.2
 let a4:=lg a3
 let a5:=aU [59] a4.2
 let a6:=iy [102,97,99,101] 1 1000000000000000 a5
 let a7:=aU [102,114,111,109] a6.2
 let a8:=nK (-1) a7
 let a9:=aU [116,111] a8.2
 let a10:=nK a8.1 a9
 let a11:=aU [101,118,101,114,121] a10.2
 let a12:=fJ 1 120 a11
 let a13:=aU [109,111,110,116,104,115] a12.2
 let a14:=aU [59] a13
 let a15:=yI [99,111,117,110,116] sF a14
 let a16:=yI [97,100,106,117,115,116] r_ a15.2
 let a17:=iy [114,101,99,111,114,100] 0 100 a16.2
 let a18:=iy [114,97,110,107] 0 9 a17.2
 let a19:=sO a18.2.r.length [] a18.2
 let a20:=aU [99,111,117,112,111,110] a19.2
 let a21:=lH [59] a20
 let a22:=iy [99,97,112] 0 10000 a21.2
 let a23:=sS a22.2.r.length [] a22.2
 let a24:=yw a23.2
 let a25:=nH [99,114,111,115,115] 1000000000000000 (-1) a24.2
 let a26:=o8 a25.2.r.length [] a25.2
 let a27:=nH [110,111,116,105,99,101] 1000 0 a26.2
 let a28:=nH [115,105,110,107] 1000 0 a27.2
 let a29:=iy [109,97,106,111,114,105,116,121] 1 1000 a28.2
 let a30:=iy [102,97,115,116] 1 1000 a29.2
 (⟨a2.1,a4.1,a6.1,a8.1,a10.1,a12.1,a15.1,a16.1,a17.1,a18.1,a19.1,a21.1,a22.1,a23.1,a24.1,a25.1,a26.1,a27.1,a28.1,a29.1,a30.1⟩,if a30.2.er.isSome=false∧(aH a30.2).kind≠3 then dD 12 a30.2 else a30.2)
theorem aan (s:Sr):SS s (if s.er.isSome=false∧(aH s).kind≠3 then dD 12 s else s):=by
 split
 ·exact iT _ bT _
 ·exact .refl _
theorem Y_ (s:Sr):SS s (zU s).2:=by
 unfold zU;dsimp only;exact ((((((((((((((((((((((((((((((aP [105,115,115,117,101] bT _).trans (uD _)).trans (aP [111,102] bT _)).trans (uD _)).trans (aP [59] bT _)).trans (jH [102,97,99,101] bT _ _ _)).trans (aP [102,114,111,109] bT _)).trans (wV _ _)).trans (aP [116,111] bT _)).trans (wV _ _)).trans (aP [101,118,101,114,121] bT _)).trans (iZ _ _ _)).trans (aP [109,111,110,116,104,115] bT _)).trans (aP [59] bT _)).trans (Ee [99,111,117,110,116] bT sF bT _)).trans (Ee [97,100,106,117,115,116] bT r_ bT _)).trans (jH [114,101,99,111,114,100] bT _ _ _)).trans (jH [114,97,110,107] bT _ _ _)).trans (Em _ _ _)).trans (aP [99,111,117,112,111,110] bT _)).trans (ou _ _)).trans (jH [99,97,112] bT _ _ _)).trans (DU _ _ _)).trans (RY _)).trans (qQ [99,114,111,115,115] bT _ _ _)).trans (Cj _ _ _)).trans (qQ [110,111,116,105,99,101] bT _ _ _)).trans (qQ [115,105,110,107] bT _ _ _)).trans (jH [109,97,106,111,114,105,116,121] bT _ _ _)).trans (jH [102,97,115,116] bT _ _ _)).trans (aan _)
theorem agB {p:Prop}(h:p:=by
 refine gF (cW ?_);refine ⟨⟨[(2,.ptr 1 0)],[(0,.cells 212 (bU T (a30.2))),(1,.cells 56 (su ((Ind.mk a2.1 a4.1 a6.1 a8.1 a10.1 a12.1 a15.1 a16.1 a17.1 a18.1 a19.1 a21.1 a22.1 a23.1 a24.1 a25.1 a26.1 a27.1 a28.1 a29.1 a30.1))))],2⟩,(aj [(0,.id 0),(1,.id 1)] rfl ⟨aQ,trivial⟩ ⟨aB,aB,trivial⟩),rfl,rfl,?_⟩;exact dM):p:=h
theorem aiV {T:List Tok} {s:Sr} (h:SSt T s):KX 187 [] T s [N8 (zU s).1] (zU s).2 [.cells 56 (su (zU s).1)]:=by
 obtain ⟨a1,h1⟩:∃ a,a=aU [105,115,115,117,101] s:=⟨_,rfl⟩;have q1:SSt T a1:=by rw [h1];exact SSt.to h (aP [105,115,115,117,101] (by decide) _)
 have c1:KX 212 [.str [105,115,115,117,101]] T s [] a1 []:=by rw [h1];exact f_ h [105,115,115,117,101]
 obtain ⟨a2,h2⟩:∃ a,a=lg a1:=⟨_,rfl⟩;have q2:SSt T a2.2:=by rw [h2];exact SSt.to q1 (uD _)
 have c2:KX 213 [] T a1 [.str a2.1] a2.2 []:=by rw [h2];exact DY q1
 obtain ⟨a3,h3⟩:∃ a,a=aU [111,102] a2.2:=⟨_,rfl⟩;have q3:SSt T a3:=by rw [h3];exact SSt.to q2 (aP [111,102] (by decide) _)
 have c3:KX 212 [.str [111,102]] T a2.2 [] a3 []:=by rw [h3];exact f_ q2 [111,102]
 obtain ⟨a4,h4⟩:∃ a,a=lg a3:=⟨_,rfl⟩;have q4:SSt T a4.2:=by rw [h4];exact SSt.to q3 (uD _)
 have c4:KX 213 [] T a3 [.str a4.1] a4.2 []:=by rw [h4];exact DY q3
 obtain ⟨a5,h5⟩:∃ a,a=aU [59] a4.2:=⟨_,rfl⟩;have q5:SSt T a5:=by rw [h5];exact SSt.to q4 (aP [59] (by decide) _)
 have c5:KX 212 [.str [59]] T a4.2 [] a5 []:=by rw [h5];exact f_ q4 [59]
 obtain ⟨a6,h6⟩:∃ a,a=iy [102,97,99,101] 1 1000000000000000 a5:=⟨_,rfl⟩;have q6:SSt T a6.2:=by rw [h6];exact SSt.to q5 (jH [102,97,99,101] (by decide) _ _ _)
 have c6:KX 214 [.str [102,97,99,101],.int .i64 1,.int .i64 1000000000000000] T a5 [.int .i64 a6.1] a6.2 []:=by rw [h6];exact Cm q5 (by decide) 1 1000000000000000
 obtain ⟨a7,h7⟩:∃ a,a=aU [102,114,111,109] a6.2:=⟨_,rfl⟩;have q7:SSt T a7:=by rw [h7];exact SSt.to q6 (aP [102,114,111,109] (by decide) _)
 have c7:KX 212 [.str [102,114,111,109]] T a6.2 [] a7 []:=by rw [h7];exact f_ q6 [102,114,111,109]
 obtain ⟨a8,h8⟩:∃ a,a=nK (-1) a7:=⟨_,rfl⟩;have q8:SSt T a8.2:=by rw [h8];exact SSt.to q7 (wV _ _)
 have c8:KX 215 [.int .i64 (-1)] T a7 [.int .i64 a8.1] a8.2 []:=by rw [h8];exact Ut q7 (-1)
 obtain ⟨a9,h9⟩:∃ a,a=aU [116,111] a8.2:=⟨_,rfl⟩;have q9:SSt T a9:=by rw [h9];exact SSt.to q8 (aP [116,111] (by decide) _)
 have c9:KX 212 [.str [116,111]] T a8.2 [] a9 []:=by rw [h9];exact f_ q8 [116,111]
 obtain ⟨a10,h10⟩:∃ a,a=nK a8.1 a9:=⟨_,rfl⟩;have q10:SSt T a10.2:=by rw [h10];exact SSt.to q9 (wV _ _)
 have c10:KX 215 [.int .i64 a8.1] T a9 [.int .i64 a10.1] a10.2 []:=by rw [h10];exact Ut q9 a8.1
 obtain ⟨a11,h11⟩:∃ a,a=aU [101,118,101,114,121] a10.2:=⟨_,rfl⟩;have q11:SSt T a11:=by rw [h11];exact SSt.to q10 (aP [101,118,101,114,121] (by decide) _)
 have c11:KX 212 [.str [101,118,101,114,121]] T a10.2 [] a11 []:=by rw [h11];exact f_ q10 [101,118,101,114,121]
 obtain ⟨a12,h12⟩:∃ a,a=fJ 1 120 a11:=⟨_,rfl⟩;have q12:SSt T a12.2:=by rw [h12];exact SSt.to q11 (iZ _ _ _)
 have c12:KX 216 [.int .i64 1,.int .i64 120] T a11 [.int .i64 a12.1] a12.2 []:=by rw [h12];exact EX q11 1 120
 obtain ⟨a13,h13⟩:∃ a,a=aU [109,111,110,116,104,115] a12.2:=⟨_,rfl⟩;have q13:SSt T a13:=by rw [h13];exact SSt.to q12 (aP [109,111,110,116,104,115] (by decide) _)
 have c13:KX 212 [.str [109,111,110,116,104,115]] T a12.2 [] a13 []:=by rw [h13];exact f_ q12 [109,111,110,116,104,115]
 obtain ⟨a14,h14⟩:∃ a,a=aU [59] a13:=⟨_,rfl⟩;have q14:SSt T a14:=by rw [h14];exact SSt.to q13 (aP [59] (by decide) _)
 have c14:KX 212 [.str [59]] T a13 [] a14 []:=by rw [h14];exact f_ q13 [59]
 obtain ⟨a15,h15⟩:∃ a,a=yI [99,111,117,110,116] sF a14:=⟨_,rfl⟩;have q15:SSt T a15.2:=by rw [h15];exact SSt.to q14 (Ee [99,111,117,110,116] (by decide) sF (by decide) _)
 have c15:KX 217 [.str [99,111,117,110,116],.sl 1 encS [] sF] T a14 [.int .i64 a15.1] a15.2 []:=by rw [h15];exact aeE q14 (by decide) sF (by decide) (by decide)
 obtain ⟨a16,h16⟩:∃ a,a=yI [97,100,106,117,115,116] r_ a15.2:=⟨_,rfl⟩;have q16:SSt T a16.2:=by rw [h16];exact SSt.to q15 (Ee [97,100,106,117,115,116] (by decide) r_ (by decide) _)
 have c16:KX 217 [.str [97,100,106,117,115,116],.sl 1 encS [] r_] T a15.2 [.int .i64 a16.1] a16.2 []:=by rw [h16];exact aeE q15 (by decide) r_ (by decide) (by decide)
 obtain ⟨a17,h17⟩:∃ a,a=iy [114,101,99,111,114,100] 0 100 a16.2:=⟨_,rfl⟩;have q17:SSt T a17.2:=by rw [h17];exact SSt.to q16 (jH [114,101,99,111,114,100] (by decide) _ _ _)
 have c17:KX 214 [.str [114,101,99,111,114,100],.int .i64 0,.int .i64 100] T a16.2 [.int .i64 a17.1] a17.2 []:=by rw [h17];exact Cm q16 (by decide) 0 100
 obtain ⟨a18,h18⟩:∃ a,a=iy [114,97,110,107] 0 9 a17.2:=⟨_,rfl⟩;have q18:SSt T a18.2:=by rw [h18];exact SSt.to q17 (jH [114,97,110,107] (by decide) _ _ _)
 have c18:KX 214 [.str [114,97,110,107],.int .i64 0,.int .i64 9] T a17.2 [.int .i64 a18.1] a18.2 []:=by rw [h18];exact Cm q17 (by decide) 0 9
 obtain ⟨a19,h19⟩:∃ a,a=sO a18.2.r.length [] a18.2:=⟨_,rfl⟩;have q19:SSt T a19.2:=by rw [h19];exact SSt.to q18 (Em _ _ _)
 have c19:KX 220 [] T a18.2 [.sl 6 mY l0 a19.1] a19.2 []:=by rw [h19];exact agF q18
 obtain ⟨a20,h20⟩:∃ a,a=aU [99,111,117,112,111,110] a19.2:=⟨_,rfl⟩;have q20:SSt T a20:=by rw [h20];exact SSt.to q19 (aP [99,111,117,112,111,110] (by decide) _)
 have c20:KX 212 [.str [99,111,117,112,111,110]] T a19.2 [] a20 []:=by rw [h20];exact f_ q19 [99,111,117,112,111,110]
 obtain ⟨a21,h21⟩:∃ a,a=lH [59] a20:=⟨_,rfl⟩;have q21:SSt T a21.2:=by rw [h21];exact SSt.to q20 (ou _ _)
 have c21:KX 221 [.str [59]] T a20 [iJ a21.1] a21.2 [.cells 51 (cellsE a21.1)]:=by rw [h21];exact NQ q20 [59]
 obtain ⟨a22,h22⟩:∃ a,a=iy [99,97,112] 0 10000 a21.2:=⟨_,rfl⟩;have q22:SSt T a22.2:=by rw [h22];exact SSt.to q21 (jH [99,97,112] (by decide) _ _ _)
 have c22:KX 214 [.str [99,97,112],.int .i64 0,.int .i64 10000] T a21.2 [.int .i64 a22.1] a22.2 []:=by rw [h22];exact Cm q21 (by decide) 0 10000
 obtain ⟨a23,h23⟩:∃ a,a=sS a22.2.r.length [] a22.2:=⟨_,rfl⟩;have q23:SSt T a23.2:=by rw [h23];exact SSt.to q22 (DU _ _ _)
 have c23:KX 222 [] T a22.2 [.sl 7 pJ c0 a23.1] a23.2 []:=by rw [h23];exact agw q22
 obtain ⟨a24,h24⟩:∃ a,a=yw a23.2:=⟨_,rfl⟩;have q24:SSt T a24.2:=by rw [h24];exact SSt.to q23 (RY _)
 have c24:KX 223 [] T a23.2 [.sl 1 encS [] a24.1] a24.2 []:=by rw [h24];exact aiP q23
 obtain ⟨a25,h25⟩:∃ a,a=nH [99,114,111,115,115] 1000000000000000 (-1) a24.2:=⟨_,rfl⟩;have q25:SSt T a25.2:=by rw [h25];exact SSt.to q24 (qQ [99,114,111,115,115] (by decide) _ _ _)
 have c25:KX 224 [.str [99,114,111,115,115],.int .i64 1000000000000000,.int .i64 (-1)] T a24.2 [.int .i64 a25.1] a25.2 []:=by rw [h25];exact NZ q24 (by decide) 1000000000000000 (-1)
 obtain ⟨a26,h26⟩:∃ a,a=o8 a25.2.r.length [] a25.2:=⟨_,rfl⟩;have q26:SSt T a26.2:=by rw [h26];exact SSt.to q25 (Cj _ _ _)
 have c26:KX 225 [] T a25.2 [.sl 2 zH k0 a26.1] a26.2 []:=by rw [h26];exact af2 q25
 obtain ⟨a27,h27⟩:∃ a,a=nH [110,111,116,105,99,101] 1000 0 a26.2:=⟨_,rfl⟩;have q27:SSt T a27.2:=by rw [h27];exact SSt.to q26 (qQ [110,111,116,105,99,101] (by decide) _ _ _)
 have c27:KX 224 [.str [110,111,116,105,99,101],.int .i64 1000,.int .i64 0] T a26.2 [.int .i64 a27.1] a27.2 []:=by rw [h27];exact NZ q26 (by decide) 1000 0
 obtain ⟨a28,h28⟩:∃ a,a=nH [115,105,110,107] 1000 0 a27.2:=⟨_,rfl⟩;have q28:SSt T a28.2:=by rw [h28];exact SSt.to q27 (qQ [115,105,110,107] (by decide) _ _ _)
 have c28:KX 224 [.str [115,105,110,107],.int .i64 1000,.int .i64 0] T a27.2 [.int .i64 a28.1] a28.2 []:=by rw [h28];exact NZ q27 (by decide) 1000 0
 obtain ⟨a29,h29⟩:∃ a,a=iy [109,97,106,111,114,105,116,121] 1 1000 a28.2:=⟨_,rfl⟩;have q29:SSt T a29.2:=by rw [h29];exact SSt.to q28 (jH [109,97,106,111,114,105,116,121] (by decide) _ _ _)
 have c29:KX 214 [.str [109,97,106,111,114,105,116,121],.int .i64 1,.int .i64 1000] T a28.2 [.int .i64 a29.1] a29.2 []:=by rw [h29];exact Cm q28 (by decide) 1 1000
 obtain ⟨a30,h30⟩:∃ a,a=iy [102,97,115,116] 1 1000 a29.2:=⟨_,rfl⟩;have q30:SSt T a30.2:=by rw [h30];exact SSt.to q29 (jH [102,97,115,116] (by decide) _ _ _)
 have c30:KX 214 [.str [102,97,115,116],.int .i64 1,.int .i64 1000] T a29.2 [.int .i64 a30.1] a30.2 []:=by rw [h30];exact Cm q29 (by decide) 1 1000
 have hv:zU s=(⟨a2.1,a4.1,a6.1,a8.1,a10.1,a12.1,a15.1,a16.1,a17.1,a18.1,a19.1,a21.1,a22.1,a23.1,a24.1,a25.1,a26.1,a27.1,a28.1,a29.1,a30.1⟩,if a30.2.er.isSome=false∧(aH a30.2).kind≠3 then dD 12 a30.2 else a30.2):=by subst_vars;rfl
 rw [hv];clear hv h1 h2 h3 h4 h5 h6 h7 h8 h9 h10 h11 h12 h13 h14 h15 h16 h17 h18 h19 h20 h21 h22 h23 h24 h25 h26 h27 h28 h29 h30;have hn:=jJ q30;cases he:a30.2.er with
 | some x =>
  have hx:decide (sD a30.2=0)=false:=decide_eq_false (by unfold sD;rw [he];exact q30.ok x he);rw [if_neg (show ¬ ((some x).isSome=false∧(aH a30.2).kind≠3) from fun y=>Bool.noConfusion y.1)];refine rO (aJ 1 104 [0,2,3,100]) Tryz.func187 ?_;conv=>whnf
  refine cR (c1) [0] (cW ?_);refine cR (c2) [0] (cW ?_);refine cR (c3) [0] (cW ?_);refine cR (c4) [0] (cW ?_);refine cR (c5) [0] (cW ?_);refine cR (c6) [0] (cW ?_);refine cR (c7) [0] (cW ?_);refine cR (c8) [0] (cW ?_);refine cR (c9) [0] (cW ?_);refine cR (c10) [0] (cW ?_);refine cR (c11) [0] (cW ?_);refine cR (c12) [0] (cW ?_);refine cR (c13) [0] (cW ?_);refine cR (c14) [0] (cW ?_);refine cO (fun _=>MZ) (cW ?_);refine cR (c15) [0] (cW ?_);refine cO (fun _=>Ol) (cW ?_);refine cR (c16) [0] (cW ?_);refine cR (c17) [0] (cW ?_);refine cR (c18) [0] (cW ?_);refine cR (c19) [0] (cW ?_);refine cR (c20) [0] (cW ?_);refine cR (c21) [0] (cW ?_);refine cR (c22) [0] (cW ?_);refine cR (c23) [0] (cW ?_);refine cR (c24) [0] (cW ?_);refine cR (c25) [0] (cW ?_);refine cR (c26) [0] (cW ?_);refine cR (c27) [0] (cW ?_);refine cR (c28) [0] (cW ?_);refine cR (c29) [0] (cW ?_);refine cR (c30) [0] (cW ?_);rw [hx];refine gF (cW ?_);exact agB
 | none =>
 cases hk:decide ((aH a30.2).kind=3) with
 | true =>
  rw [if_neg (show ¬ ((none:Option Er).isSome=false∧(aH a30.2).kind≠3) from fun y=>y.2 (of_decide_eq_true hk))];refine rO (aJ 1 104 [0,2,3,100]) Tryz.func187 ?_;conv=>whnf
  refine cR (c1) [0] (cW ?_);refine cR (c2) [0] (cW ?_);refine cR (c3) [0] (cW ?_);refine cR (c4) [0] (cW ?_);refine cR (c5) [0] (cW ?_);refine cR (c6) [0] (cW ?_);refine cR (c7) [0] (cW ?_);refine cR (c8) [0] (cW ?_);refine cR (c9) [0] (cW ?_);refine cR (c10) [0] (cW ?_);refine cR (c11) [0] (cW ?_);refine cR (c12) [0] (cW ?_);refine cR (c13) [0] (cW ?_);refine cR (c14) [0] (cW ?_);refine cO (fun _=>MZ) (cW ?_);refine cR (c15) [0] (cW ?_);refine cO (fun _=>Ol) (cW ?_);refine cR (c16) [0] (cW ?_);refine cR (c17) [0] (cW ?_);refine cR (c18) [0] (cW ?_);refine cR (c19) [0] (cW ?_);refine cR (c20) [0] (cW ?_);refine cR (c21) [0] (cW ?_);refine cR (c22) [0] (cW ?_);refine cR (c23) [0] (cW ?_);refine cR (c24) [0] (cW ?_);refine cR (c25) [0] (cW ?_);refine cR (c26) [0] (cW ?_);refine cR (c27) [0] (cW ?_);refine cR (c28) [0] (cW ?_);refine cR (c29) [0] (cW ?_);refine cR (c30) [0] (cW ?_);rw [oJ he];refine gT (cW ?_);refine cO (fun _=>hn) (cW ?_);rw [hk];exact agB
 | false =>
  rw [if_pos (show ((none:Option Er).isSome=false∧(aH a30.2).kind≠3) from ⟨rfl,of_decide_eq_false hk⟩)];refine rO (aJ 1 104 [0,2,3,100]) Tryz.func187 ?_;conv=>whnf
  refine cR (c1) [0] (cW ?_);refine cR (c2) [0] (cW ?_);refine cR (c3) [0] (cW ?_);refine cR (c4) [0] (cW ?_);refine cR (c5) [0] (cW ?_);refine cR (c6) [0] (cW ?_);refine cR (c7) [0] (cW ?_);refine cR (c8) [0] (cW ?_);refine cR (c9) [0] (cW ?_);refine cR (c10) [0] (cW ?_);refine cR (c11) [0] (cW ?_);refine cR (c12) [0] (cW ?_);refine cR (c13) [0] (cW ?_);refine cR (c14) [0] (cW ?_);refine cO (fun _=>MZ) (cW ?_);refine cR (c15) [0] (cW ?_);refine cO (fun _=>Ol) (cW ?_);refine cR (c16) [0] (cW ?_);refine cR (c17) [0] (cW ?_);refine cR (c18) [0] (cW ?_);refine cR (c19) [0] (cW ?_);refine cR (c20) [0] (cW ?_);refine cR (c21) [0] (cW ?_);refine cR (c22) [0] (cW ?_);refine cR (c23) [0] (cW ?_);refine cR (c24) [0] (cW ?_);refine cR (c25) [0] (cW ?_);refine cR (c26) [0] (cW ?_);refine cR (c27) [0] (cW ?_);refine cR (c28) [0] (cW ?_);refine cR (c29) [0] (cW ?_);refine cR (c30) [0] (cW ?_);rw [oJ he];refine gT (cW ?_);refine cO (fun _=>hn) (cW ?_);rw [hk];refine gT (cW ?_);refine cR ((mM q30 12)) [0] (cW ?_);refine ⟨⟨[(2,.ptr 1 0)],[(0,.cells 212 (bU T ((dD 12 a30.2)))),(1,.cells 56 (su ((Ind.mk a2.1 a4.1 a6.1 a8.1 a10.1 a12.1 a15.1 a16.1 a17.1 a18.1 a19.1 a21.1 a22.1 a23.1 a24.1 a25.1 a26.1 a27.1 a28.1 a29.1 a30.1))))],2⟩,(aj [(0,.id 0),(1,.id 1)] rfl ⟨aQ,trivial⟩ ⟨aB,aB,trivial⟩),rfl,rfl,?_⟩;exact dM
theorem Hf:¬ true=false:=fun h=>Bool.noConfusion h
theorem Ku {w:List UInt8} (hw:w≠[]) {r:List Tok} (hf:Fin1 r):Ag (jd w r) (lH w (sN r)):=by
 have ha:=TU r.length 0 r (by omega) (by omega) hf (Nat.le_refl _);unfold jd lH;dsimp only;cases e1:xX r.length 0 r with
 | error e =>
  rw [e1] at ha;have ha:(kY 0 (sN r)).2.er=some e:=ha;rw [ha,if_pos (show (some e).isSome=true from rfl)];exact ha
 | ok v =>
 obtain ⟨x,r1⟩:=v;rw [d_ ha e1];dsimp only;rw [if_neg (show ¬ (none:Option Er).isSome=true from fun h=>Bool.noConfusion h)];have hi:isS w (sN r1)=aV w r1:=rfl;rw [hi];cases hb:aV w r1 with
 | false =>
  rw [if_pos (show false=false from rfl),if_pos (show w=[]∧(aH (sN r1)).kind≠3∨w≠[]∧false=false from .inr ⟨hw,rfl⟩)];rfl
 | true =>
  rw [if_neg (show ¬ true=false from fun h=>Bool.noConfusion h),if_neg (show ¬ (w=[]∧(aH (sN r1)).kind≠3∨w≠[]∧true=false) from fun y=>y.elim (fun z=>hw z.1) (fun z=>Bool.noConfusion z.2))];by_cases h12:((jP x:Nat):Int)≤12
  ·rw [if_pos h12,if_neg (show ¬ 12<((jP x:Nat):Int) by omega),if_pos hw];rfl
  ·rw [if_neg h12,if_pos (show 12<((jP x:Nat):Int) by omega)];rfl
theorem xW (w:List UInt8) (a b:Int) (r:List Tok):Ag (gK w a b r) (iy w a b (sN r)):=by
 have a1:=fK w r;unfold gK iy;cases e1:aT w r with
 | error e=>exact kH a1 e1 ((iZ a b _).trans (aP [59] (by decide) _))
 | ok r1 =>
 rw [gV a1 e1];dsimp only;have a2:=BU a b r1;cases e2:iV a b r1 with
 | error e=>exact kQ a2 e2 (aP [59] (by decide) _)
 | ok v =>
 obtain ⟨n,r2⟩:=v;rw [d_ a2 e2];dsimp only;have a3:=fK [59] r2;cases e3:aT [59] r2 with
 | error e=>exact kH a3 e3 (.refl _)
 | ok r3 =>
 rw [gV a3 e3];rfl
theorem JY (w:List UInt8) (a n0:Int) (r:List Tok):Ag (jI w a n0 r) (nH w a n0 (sN r)):=by
 unfold jI nH;have hi:isS w (sN r)=aV w r:=rfl;rw [hi];cases aV w r with
 | true=>exact xW w 0 a r
 | false=>rfl
theorem Y0 (w:List UInt8) (ws:List (List UInt8)) (hws:∀ x∈ws,x≠[]) (r:List Tok):Ag (qU w ws r) (yI w ws (sN r)):=by
 have a1:=fK w r;unfold qU yI;dsimp only;cases e1:aT w r with
 | error e =>
  rw [e1] at a1;refine kH a1 rfl ?_;have hb:∀ x,x∈ws→isS x (aU w (sN r))=false:=by
   intro x hx;have h:(aU w (sN r)).er=some e:=a1;cases hi:isS x (aU w (sN r)) with
   | false=>rfl
   | true =>
    have:=uw (hws x hx) hi;rw [h] at this;cases this
  have hi:dN (fun x=>isS x (aU w (sN r))) ws=-1:=zG (d:=[]) (fun j hj=>hb _ (by
   rw [List.getD_eq_getElem?_getD,List.getElem?_eq_getElem hj];exact List.getElem_mem _))
  rw [hi,if_pos (by decide)];exact iT _ bT _
 | ok r1 =>
 rw [gV a1 e1];have hx:(fun x=>isS x (sN r1))=(fun x=>aV x r1):=rfl;rw [hx];dsimp only;by_cases hi:dN (fun x=>aV x r1) ws<0
 ·rw [if_pos hi,if_pos hi];rfl
 rw [if_neg hi,if_neg hi];have a2:=fK [59] r1.tail;have ha:aK (sN r1)=sN r1.tail:=rfl;rw [ha];cases e2:aT [59] r1.tail with
 | error e=>exact kH a2 e2 (.refl _)
 | ok r2 =>
 rw [gV a2 e2];rfl
theorem Oe (least:Int) (r:List Tok):Ag (iQ least r) (nK least (sN r)):=by
 unfold iQ nK;dsimp only;have tl:∀ (y m:Int) (s:Sr),SS s (if (aH s).kind≠1 then (0,dD 12 s) else if (dayOf y m (aH s).n).2≠0 then (0,dD 23 s) else if (dayOf y m (aH s).n).1≤least then (0,dD 3 s) else ((dayOf y m (aH s).n).1,aK s)).2:=by
  intro y m s;split
  ·exact iT _ bT _
  rename_i hk;have hk:=Decidable.of_not_not hk;split
  ·exact iT _ bT _
  split
  ·exact iT _ bT _
  ·exact rD (by rw [hk];decide) (kind_none hk)
 have a1:=BU 0 1000000000000000 r;cases e1:iV 0 1000000000000000 r with
 | error e=>exact kQ a1 e1 ((((aP [45] (by decide) _).trans (iZ 0 1000000000000000 _)).trans (aP [45] (by decide) _)).trans (tl _ _ _))
 | ok v =>
 obtain ⟨y,r1⟩:=v;rw [d_ a1 e1];dsimp only;have a2:=fK [45] r1;cases e2:aT [45] r1 with
 | error e=>exact kH a2 e2 (((iZ 0 1000000000000000 _).trans (aP [45] (by decide) _)).trans (tl _ _ _))
 | ok r2 =>
 rw [gV a2 e2];dsimp only;have a3:=BU 0 1000000000000000 r2;cases e3:iV 0 1000000000000000 r2 with
 | error e=>exact kQ a3 e3 ((aP [45] (by decide) _).trans (tl _ _ _))
 | ok v =>
 obtain ⟨m,r3⟩:=v;rw [d_ a3 e3];dsimp only;have a4:=fK [45] r3;cases e4:aT [45] r3 with
 | error e=>exact kH a4 e4 (tl _ _ _)
 | ok r4 =>
 rw [gV a4 e4];have hx:aH (sN r4)=bV r4:=rfl;dsimp only;rw [hx];by_cases hk:(bV r4).kind=1
 ·rw [if_neg (not_not_intro hk),if_neg (not_not_intro hk)];by_cases h0:(dayOf y m (bV r4).n).2=0
  ·rw [if_neg (not_not_intro h0),if_neg (not_not_intro h0)];by_cases hl:least<(dayOf y m (bV r4).n).1
   ·rw [if_pos hl,if_neg (by omega)];rfl
   ·rw [if_neg hl,if_pos (by omega)];rfl
  ·rw [if_pos h0,if_pos h0];rfl
 ·rw [if_pos hk,if_pos hk];rfl
theorem JI (names:List (List UInt8)) (r:List Tok):Ag (gI names r) (dR names (sN r)):=by
 unfold gI dR;have h1:gB (sN r)=mD r:=rfl;have h2:aH (sN r)=bV r:=rfl;rw [h1,h2];cases mD r with
 | false=>rfl
 | true =>
  rw [if_neg Hf,if_neg Hf];split<;>rfl
theorem XG {p:Prop}(h:p:=by
 rw [if_pos (show ¬ (ls.length:Int)<20 by omega),if_pos h20];rfl):p:=h
theorem Vs:∀ (f:Nat) (ls:List LetE) (r:List Tok),Fin1 r→(ls.length:Int)≤20→Ag (mV f ls r) (sO f ls (sN r))
 | 0,_,_,_,_=>rfl
 | f+1,ls,r,hf,hl=>by
  unfold mV sO;have hi:isS [108,101,116] (sN r)=aV [108,101,116] r:=rfl;rw [hi];cases hb:aV [108,101,116] r with
  | false=>rfl
  | true =>
  rw [if_neg Hf,if_neg Hf];by_cases h20:(ls.length:Int)=20
  ·exact XG
  rw [if_neg (show ¬ ¬ (ls.length:Int)<20 by omega),if_neg h20];have ha:aK (sN r)=sN r.tail:=rfl;rw [ha];dsimp only;have hl':∀ x:LetE,((ls++[x]).length:Int)≤20:=fun x=>by rw [List.length_append];show ((ls.length+1:Nat):Int)≤20;omega
  have f0:=hf.tail (bf hb);have t1:=fun (l:List LetE) (s:Sr)=>Em f l s
  have a1:=JI (ls.map LetE.name) r.tail;cases e1:gI (ls.map LetE.name) r.tail with
  | error e=>exact kQ a1 e1 (((aP [61] (by decide) _).trans (ou _ _)).trans (t1 _ _))
  | ok v =>
  obtain ⟨nm,r1⟩:=v;rw [d_ a1 e1];dsimp only;have a2:=fK [61] r1;cases e2:aT [61] r1 with
  | error e=>exact kH a2 e2 ((ou _ _).trans (t1 _ _))
  | ok r2 =>
  rw [gV a2 e2];dsimp only;have f2:=((kM e1).trans (aN e2)).2 f0;have a3:=Ku (w:=[59]) (by decide) f2;cases e3:jd [59] r2 with
  | error e=>exact kQ a3 e3 (t1 _ _)
  | ok v =>
  obtain ⟨x,r3⟩:=v;rw [d_ a3 e3];dsimp only;exact Vs f _ r3 ((lV e3).2 f2) (hl' _)
theorem VI:∀ (f:Nat) (ls:List Cov) (r:List Tok),Fin1 r→(ls.length:Int)≤20→Ag (mQ f ls r) (sS f ls (sN r))
 | 0,_,_,_,_=>rfl
 | f+1,ls,r,hf,hl=>by
  unfold mQ sS;have hi:isS [99,111,118,101,110,97,110,116] (sN r)=aV [99,111,118,101,110,97,110,116] r:=rfl;rw [hi];cases hb:aV [99,111,118,101,110,97,110,116] r with
  | false=>rfl
  | true =>
  rw [if_neg Hf,if_neg Hf];by_cases h20:(ls.length:Int)=20
  ·exact XG
  rw [if_neg (show ¬ ¬ (ls.length:Int)<20 by omega),if_neg h20];have ha:aK (sN r)=sN r.tail:=rfl;rw [ha];dsimp only;have hl':∀ x:Cov,((ls++[x]).length:Int)≤20:=fun x=>by rw [List.length_append];show ((ls.length+1:Nat):Int)≤20;omega
  have f0:=hf.tail (bf hb);have t1:=fun (l:List Cov) (s:Sr)=>DU f l s
  have a1:=JI (ls.map Cov.name) r.tail;cases e1:gI (ls.map Cov.name) r.tail with
  | error e=>exact kQ a1 e1 ((((aP [109,117,115,116] (by decide) _).trans (ou _ _)).trans (iZ _ _ _)).trans ((aP [59] (by decide) _).trans (t1 _ _)))
  | ok v =>
  obtain ⟨nm,r1⟩:=v;rw [d_ a1 e1];dsimp only;have a2:=fK [109,117,115,116] r1;cases e2:aT [109,117,115,116] r1 with
  | error e=>exact kH a2 e2 (((ou _ _).trans (iZ _ _ _)).trans ((aP [59] (by decide) _).trans (t1 _ _)))
  | ok r2 =>
  rw [gV a2 e2];dsimp only;have f2:=((kM e1).trans (aN e2)).2 f0;have a3:=Ku (w:=[103,114,97,99,101]) (by decide) f2;cases e3:jd [103,114,97,99,101] r2 with
  | error e=>exact kQ a3 e3 ((iZ _ _ _).trans ((aP [59] (by decide) _).trans (t1 _ _)))
  | ok v =>
  obtain ⟨x,r3⟩:=v;rw [d_ a3 e3];dsimp only;have f3:=(lV e3).2 f2;have a4:=BU 0 1000 r3;cases e4:iV 0 1000 r3 with
  | error e=>exact kQ a4 e4 ((aP [59] (by decide) _).trans (t1 _ _))
  | ok v =>
  obtain ⟨n,r4⟩:=v;rw [d_ a4 e4];dsimp only;have a5:=fK [59] r4;cases e5:aT [59] r4 with
  | error e=>exact kH a5 e5 (t1 _ _)
  | ok r5 =>
  rw [gV a5 e5];dsimp only;exact VI f _ r5 (((iD e4).1.trans (aN e5)).2 f3) (hl' _)
theorem Uo:∀ (f:Nat) (ls:List CallE) (r:List Tok),Fin1 r→(ls.length:Int)≤20→Ag (ku f ls r) (o8 f ls (sN r))
 | 0,_,_,_,_=>rfl
 | f+1,ls,r,hf,hl=>by
  unfold ku o8;have hi:isS [99,97,108,108] (sN r)=aV [99,97,108,108] r:=rfl;rw [hi];cases hb:aV [99,97,108,108] r with
  | false=>rfl
  | true =>
  rw [if_neg Hf,if_neg Hf];by_cases h20:(ls.length:Int)=20
  ·exact XG
  rw [if_neg (show ¬ ¬ (ls.length:Int)<20 by omega),if_neg h20];have ha:aK (sN r)=sN r.tail:=rfl;rw [ha];dsimp only;have hl':∀ x:CallE,((ls++[x]).length:Int)≤20:=fun x=>by rw [List.length_append];show ((ls.length+1:Nat):Int)≤20;omega
  have f0:=hf.tail (bf hb);have t1:=fun (l:List CallE) (s:Sr)=>Cj f l s
  have a1:=Oe (-1) r.tail;cases e1:iQ (-1) r.tail with
  | error e=>exact kQ a1 e1 (((aP [97,116] (by decide) _).trans (iZ _ _ _)).trans ((aP [59] (by decide) _).trans (t1 _ _)))
  | ok v =>
  obtain ⟨d,r1⟩:=v;rw [d_ a1 e1];dsimp only;have a2:=fK [97,116] r1;cases e2:aT [97,116] r1 with
  | error e=>exact kH a2 e2 ((iZ _ _ _).trans ((aP [59] (by decide) _).trans (t1 _ _)))
  | ok r2 =>
  rw [gV a2 e2];dsimp only;have f2:=((qC e1).trans (aN e2)).2 f0;have a4:=BU 0 10000 r2;cases e4:iV 0 10000 r2 with
  | error e=>exact kQ a4 e4 ((aP [59] (by decide) _).trans (t1 _ _))
  | ok v =>
  obtain ⟨n,r4⟩:=v;rw [d_ a4 e4];dsimp only;have a5:=fK [59] r4;cases e5:aT [59] r4 with
  | error e=>exact kH a5 e5 (t1 _ _)
  | ok r5 =>
  rw [gV a5 e5];dsimp only;exact Uo f _ r5 (((iD e4).1.trans (aN e5)).2 f2) (hl' _)
theorem VR:∀ (f g:Nat) (ls:List (List UInt8)) (r:List Tok),Fin1 r→r.length≤f→r.length<g→(ls.length:Int)≤20→Ag (Dz (um f ls r)) (zO g ls (sN r))
 | 0,_,_,r,hf,h,_,_=>absurd (List.length_pos_iff.2 hf.ne) (by omega)
 | _+1,0,_,_,_,_,h,_=>absurd h (Nat.not_lt_zero _)
 | f+1,g+1,ls,r,hf,h1,h2,hl=>by
  unfold um zO;have hi:isS [59] (sN r)=aV [59] r:=rfl;have hn:gB (sN r)=mD r:=rfl;rw [hi,hn];have he:(sN r).er.isSome=false:=rfl;by_cases hc:ls.length=0∨aV [59] r=false
  ·rw [if_pos hc,if_pos (show (sN r).er.isSome=false∧((ls.length:Int)=0∨aV [59] r=false) from ⟨he,hc.imp (fun h=>by omega) id⟩)];cases hb:mD r with
   | false =>
    rw [if_pos (show false=false from rfl),if_neg (show ¬ ((ls.length:Int)=20∧false=true) from fun y=>Bool.noConfusion y.2)];have hfr:(dR ls (sN r)).2.er=some ((bV r).pos,12):=by
     unfold dR;rw [hn,hb,if_pos (show false=false from rfl)];rfl
    exact (IJ g _ _).keep _ hfr
   | true =>
   rw [if_neg Hf];by_cases h20:(ls.length:Int)=20
   ·rw [if_pos (show ¬ (ls.length:Int)<20 by omega),if_pos (show (ls.length:Int)=20∧true=true from ⟨h20,rfl⟩)];rfl
   rw [if_neg (show ¬ ¬ (ls.length:Int)<20 by omega),if_neg (show ¬ ((ls.length:Int)=20∧true=true) from fun y=>h20 y.1)];have a1:=JI ls r;cases e1:gI ls r with
   | error e=>exact kQ a1 e1 (IJ g _ _)
   | ok v =>
   obtain ⟨nm,r1⟩:=v;rw [d_ a1 e1];dsimp only;have hr1:r1=r.tail:=by
    unfold gI at e1;split at e1
    ·cases e1
    split at e1
    ·cases e1
    ·cases e1;rfl
   have ht:=lJ hf;refine VR f g _ r1 ((kM e1).2 hf) (by rw [hr1];omega) (by rw [hr1];omega) ?_;rw [List.length_append];show ((ls.length+1:Nat):Int)≤20;omega
  ·rw [if_neg hc,if_neg (show ¬ ((sN r).er.isSome=false∧((ls.length:Int)=0∨aV [59] r=false)) from fun y=>hc (y.2.imp (fun h=>by omega) id))];have a1:=fK [59] r;unfold Dz;dsimp only;cases e1:aT [59] r with
   | error e=>exact kH a1 e1 (.refl _)
   | ok r1 =>
    rw [gV a1 e1];rfl
theorem aha {r:List Tok} (hf:Fin1 r):Ag (oO r) (yw (sN r)):=by
 have hi:isS [102,97,118,111,117,114] (sN r)=aV [102,97,118,111,117,114] r:=rfl;unfold oO yw;rw [hi];cases hb:aV [102,97,118,111,117,114] r with
 | false=>rfl
 | true =>
  rw [if_neg Hf,if_neg Hf];exact VR r.tail.length (mS (sN r.tail)+1) [] r.tail (hf.tail (bf hb)) (Nat.le_refl _) (Nat.lt_succ_self _) bT
set_option maxHeartbeats 4000000
theorem YZ {r:List Tok} (hf:Fin1 r):Ag (bP r) (zU (sN r)):=by
 obtain ⟨a1,h1⟩:∃ a,a=aU [105,115,115,117,101] (sN r):=⟨_,rfl⟩;obtain ⟨a2,h2⟩:∃ a,a=lg a1:=⟨_,rfl⟩;obtain ⟨a3,h3⟩:∃ a,a=aU [111,102] a2.2:=⟨_,rfl⟩;obtain ⟨a4,h4⟩:∃ a,a=lg a3:=⟨_,rfl⟩;obtain ⟨a5,h5⟩:∃ a,a=aU [59] a4.2:=⟨_,rfl⟩;obtain ⟨a6,h6⟩:∃ a,a=iy [102,97,99,101] 1 1000000000000000 a5:=⟨_,rfl⟩;obtain ⟨a7,h7⟩:∃ a,a=aU [102,114,111,109] a6.2:=⟨_,rfl⟩;obtain ⟨a8,h8⟩:∃ a,a=nK (-1) a7:=⟨_,rfl⟩;obtain ⟨a9,h9⟩:∃ a,a=aU [116,111] a8.2:=⟨_,rfl⟩;obtain ⟨a10,h10⟩:∃ a,a=nK a8.1 a9:=⟨_,rfl⟩;obtain ⟨a11,h11⟩:∃ a,a=aU [101,118,101,114,121] a10.2:=⟨_,rfl⟩;obtain ⟨a12,h12⟩:∃ a,a=fJ 1 120 a11:=⟨_,rfl⟩;obtain ⟨a13,h13⟩:∃ a,a=aU [109,111,110,116,104,115] a12.2:=⟨_,rfl⟩;obtain ⟨a14,h14⟩:∃ a,a=aU [59] a13:=⟨_,rfl⟩;obtain ⟨a15,h15⟩:∃ a,a=yI [99,111,117,110,116] sF a14:=⟨_,rfl⟩;obtain ⟨a16,h16⟩:∃ a,a=yI [97,100,106,117,115,116] r_ a15.2:=⟨_,rfl⟩;obtain ⟨a17,h17⟩:∃ a,a=iy [114,101,99,111,114,100] 0 100 a16.2:=⟨_,rfl⟩;obtain ⟨a18,h18⟩:∃ a,a=iy [114,97,110,107] 0 9 a17.2:=⟨_,rfl⟩;obtain ⟨a19,h19⟩:∃ a,a=sO a18.2.r.length [] a18.2:=⟨_,rfl⟩;obtain ⟨a20,h20⟩:∃ a,a=aU [99,111,117,112,111,110] a19.2:=⟨_,rfl⟩;obtain ⟨a21,h21⟩:∃ a,a=lH [59] a20:=⟨_,rfl⟩;obtain ⟨a22,h22⟩:∃ a,a=iy [99,97,112] 0 10000 a21.2:=⟨_,rfl⟩;obtain ⟨a23,h23⟩:∃ a,a=sS a22.2.r.length [] a22.2:=⟨_,rfl⟩;obtain ⟨a24,h24⟩:∃ a,a=yw a23.2:=⟨_,rfl⟩;obtain ⟨a25,h25⟩:∃ a,a=nH [99,114,111,115,115] 1000000000000000 (-1) a24.2:=⟨_,rfl⟩;obtain ⟨a26,h26⟩:∃ a,a=o8 a25.2.r.length [] a25.2:=⟨_,rfl⟩;obtain ⟨a27,h27⟩:∃ a,a=nH [110,111,116,105,99,101] 1000 0 a26.2:=⟨_,rfl⟩;obtain ⟨a28,h28⟩:∃ a,a=nH [115,105,110,107] 1000 0 a27.2:=⟨_,rfl⟩;obtain ⟨a29,h29⟩:∃ a,a=iy [109,97,106,111,114,105,116,121] 1 1000 a28.2:=⟨_,rfl⟩;obtain ⟨a30,h30⟩:∃ a,a=iy [102,97,115,116] 1 1000 a29.2:=⟨_,rfl⟩;have hv:zU (sN r)=(⟨a2.1,a4.1,a6.1,a8.1,a10.1,a12.1,a15.1,a16.1,a17.1,a18.1,a19.1,a21.1,a22.1,a23.1,a24.1,a25.1,a26.1,a27.1,a28.1,a29.1,a30.1⟩,if a30.2.er.isSome=false∧(aH a30.2).kind≠3 then dD 12 a30.2 else a30.2):=by subst_vars;rfl
 rw [hv];have t30:=aan a30.2;have t29:SS a29.2 _:=(show SS a29.2 a30.2 by rw [h30];exact jH [102,97,115,116] (by decide) _ _ _).trans t30;have t28:SS a28.2 _:=(show SS a28.2 a29.2 by rw [h29];exact jH [109,97,106,111,114,105,116,121] (by decide) _ _ _).trans t29;have t27:SS a27.2 _:=(show SS a27.2 a28.2 by rw [h28];exact qQ [115,105,110,107] (by decide) _ _ _).trans t28;have t26:SS a26.2 _:=(show SS a26.2 a27.2 by rw [h27];exact qQ [110,111,116,105,99,101] (by decide) _ _ _).trans t27;have t25:SS a25.2 _:=(show SS a25.2 a26.2 by rw [h26];exact Cj _ _ _).trans t26;have t24:SS a24.2 _:=(show SS a24.2 a25.2 by rw [h25];exact qQ [99,114,111,115,115] (by decide) _ _ _).trans t25;have t23:SS a23.2 _:=(show SS a23.2 a24.2 by rw [h24];exact RY _).trans t24;have t22:SS a22.2 _:=(show SS a22.2 a23.2 by rw [h23];exact DU _ _ _).trans t23;have t21:SS a21.2 _:=(show SS a21.2 a22.2 by rw [h22];exact jH [99,97,112] (by decide) _ _ _).trans t22;have t20:SS a20 _:=(show SS a20 a21.2 by rw [h21];exact ou _ _).trans t21;have t19:SS a19.2 _:=(show SS a19.2 a20 by rw [h20];exact aP [99,111,117,112,111,110] (by decide) _).trans t20;have t18:SS a18.2 _:=(show SS a18.2 a19.2 by rw [h19];exact Em _ _ _).trans t19;have t17:SS a17.2 _:=(show SS a17.2 a18.2 by rw [h18];exact jH [114,97,110,107] (by decide) _ _ _).trans t18;have t16:SS a16.2 _:=(show SS a16.2 a17.2 by rw [h17];exact jH [114,101,99,111,114,100] (by decide) _ _ _).trans t17;have t15:SS a15.2 _:=(show SS a15.2 a16.2 by rw [h16];exact Ee [97,100,106,117,115,116] (by decide) r_ (by decide) _).trans t16;have t14:SS a14 _:=(show SS a14 a15.2 by rw [h15];exact Ee [99,111,117,110,116] (by decide) sF (by decide) _).trans t15;have t13:SS a13 _:=(show SS a13 a14 by rw [h14];exact aP [59] (by decide) _).trans t14;have t12:SS a12.2 _:=(show SS a12.2 a13 by rw [h13];exact aP [109,111,110,116,104,115] (by decide) _).trans t13;have t11:SS a11 _:=(show SS a11 a12.2 by rw [h12];exact iZ _ _ _).trans t12;have t10:SS a10.2 _:=(show SS a10.2 a11 by rw [h11];exact aP [101,118,101,114,121] (by decide) _).trans t11;have t9:SS a9 _:=(show SS a9 a10.2 by rw [h10];exact wV _ _).trans t10;have t8:SS a8.2 _:=(show SS a8.2 a9 by rw [h9];exact aP [116,111] (by decide) _).trans t9;have t7:SS a7 _:=(show SS a7 a8.2 by rw [h8];exact wV _ _).trans t8;have t6:SS a6.2 _:=(show SS a6.2 a7 by rw [h7];exact aP [102,114,111,109] (by decide) _).trans t7;have t5:SS a5 _:=(show SS a5 a6.2 by rw [h6];exact jH [102,97,99,101] (by decide) _ _ _).trans t6;have t4:SS a4.2 _:=(show SS a4.2 a5 by rw [h5];exact aP [59] (by decide) _).trans t5;have t3:SS a3 _:=(show SS a3 a4.2 by rw [h4];exact uD _).trans t4;have t2:SS a2.2 _:=(show SS a2.2 a3 by rw [h3];exact aP [111,102] (by decide) _).trans t3;have t1:SS a1 _:=(show SS a1 a2.2 by rw [h2];exact uD _).trans t2;have g1:FN (aT [105,115,115,117,101] r) a1:=by rw [h1];exact fK _ _
 rcases e1:aT [105,115,115,117,101] r with e | r1
 ·rw [e1] at g1;have hi:bP r=.error e:=by simp only [bP,dI,e1,bI,bJ]
  rw [hi];exact t1.keep e g1
 have p1:=gV g1 e1;have f1:Fin1 r1:=(aN e1).2 hf;have g2:Ag (nameP r1) a2:=by rw [h2,p1];exact Oi _
 rcases e2:nameP r1 with e | ⟨x2,r2⟩
 ·rw [e2] at g2;have hi:bP r=.error e:=by simp only [bP,dI,e1,e2,bI,bJ]
  rw [hi];exact t2.keep e g2
 have v2:=d_ g2 e2;have p2:a2.2=sN r2:=by rw [v2]
 have f2:Fin1 r2:=(wQ e2).2 f1;have g3:FN (aT [111,102] r2) a3:=by rw [h3,p2];exact fK _ _
 rcases e3:aT [111,102] r2 with e | r3
 ·rw [e3] at g3;have hi:bP r=.error e:=by simp only [bP,dI,e1,e2,e3,bI,bJ]
  rw [hi];exact t3.keep e g3
 have p3:=gV g3 e3;have f3:Fin1 r3:=(aN e3).2 f2;have g4:Ag (nameP r3) a4:=by rw [h4,p3];exact Oi _
 rcases e4:nameP r3 with e | ⟨x4,r4⟩
 ·rw [e4] at g4;have hi:bP r=.error e:=by simp only [bP,dI,e1,e2,e3,e4,bI,bJ]
  rw [hi];exact t4.keep e g4
 have v4:=d_ g4 e4;have p4:a4.2=sN r4:=by rw [v4]
 have f4:Fin1 r4:=(wQ e4).2 f3;have g5:FN (aT [59] r4) a5:=by rw [h5,p4];exact fK _ _
 rcases e5:aT [59] r4 with e | r5
 ·rw [e5] at g5;have hi:bP r=.error e:=by simp only [bP,dI,e1,e2,e3,e4,e5,bI,bJ]
  rw [hi];exact t5.keep e g5
 have p5:=gV g5 e5;have f5:Fin1 r5:=(aN e5).2 f4;have g6:Ag (gK [102,97,99,101] 1 1000000000000000 r5) a6:=by rw [h6,p5];exact xW _ _ _ _
 rcases e6:gK [102,97,99,101] 1 1000000000000000 r5 with e | ⟨x6,r6⟩
 ·rw [e6] at g6;have hi:bP r=.error e:=by simp only [bP,dI,e1,e2,e3,e4,e5,e6,bI,bJ]
  rw [hi];exact t6.keep e g6
 have v6:=d_ g6 e6;have p6:a6.2=sN r6:=by rw [v6]
 have f6:Fin1 r6:=(kD e6).2 f5;have g7:FN (aT [102,114,111,109] r6) a7:=by rw [h7,p6];exact fK _ _
 rcases e7:aT [102,114,111,109] r6 with e | r7
 ·rw [e7] at g7;have hi:bP r=.error e:=by simp only [bP,dI,e1,e2,e3,e4,e5,e6,e7,bI,bJ]
  rw [hi];exact t7.keep e g7
 have p7:=gV g7 e7;have f7:Fin1 r7:=(aN e7).2 f6;have g8:Ag (iQ (-1) r7) a8:=by rw [h8,p7];exact Oe _ _
 rcases e8:iQ (-1) r7 with e | ⟨x8,r8⟩
 ·rw [e8] at g8;have hi:bP r=.error e:=by simp only [bP,dI,e1,e2,e3,e4,e5,e6,e7,e8,bI,bJ]
  rw [hi];exact t8.keep e g8
 have v8:=d_ g8 e8;have p8:a8.2=sN r8:=by rw [v8]
 have f8:Fin1 r8:=(qC e8).2 f7;have g9:FN (aT [116,111] r8) a9:=by rw [h9,p8];exact fK _ _
 rcases e9:aT [116,111] r8 with e | r9
 ·rw [e9] at g9;have hi:bP r=.error e:=by simp only [bP,dI,e1,e2,e3,e4,e5,e6,e7,e8,e9,bI,bJ]
  rw [hi];exact t9.keep e g9
 have p9:=gV g9 e9;have f9:Fin1 r9:=(aN e9).2 f8;have g10:Ag (iQ x8 r9) a10:=by rw [h10,p9,v8];exact Oe _ _
 rcases e10:iQ x8 r9 with e | ⟨x10,r10⟩
 ·rw [e10] at g10;have hi:bP r=.error e:=by simp only [bP,dI,e1,e2,e3,e4,e5,e6,e7,e8,e9,e10,bI,bJ]
  rw [hi];exact t10.keep e g10
 have v10:=d_ g10 e10;have p10:a10.2=sN r10:=by rw [v10]
 have f10:Fin1 r10:=(qC e10).2 f9;have g11:FN (aT [101,118,101,114,121] r10) a11:=by rw [h11,p10];exact fK _ _
 rcases e11:aT [101,118,101,114,121] r10 with e | r11
 ·rw [e11] at g11;have hi:bP r=.error e:=by simp only [bP,dI,e1,e2,e3,e4,e5,e6,e7,e8,e9,e10,e11,bI,bJ]
  rw [hi];exact t11.keep e g11
 have p11:=gV g11 e11;have f11:Fin1 r11:=(aN e11).2 f10;have g12:Ag (iV 1 120 r11) a12:=by rw [h12,p11];exact BU _ _ _
 rcases e12:iV 1 120 r11 with e | ⟨x12,r12⟩
 ·rw [e12] at g12;have hi:bP r=.error e:=by simp only [bP,dI,e1,e2,e3,e4,e5,e6,e7,e8,e9,e10,e11,e12,bI,bJ]
  rw [hi];exact t12.keep e g12
 have v12:=d_ g12 e12;have p12:a12.2=sN r12:=by rw [v12]
 have f12:Fin1 r12:=((iD e12).1).2 f11;have g13:FN (aT [109,111,110,116,104,115] r12) a13:=by rw [h13,p12];exact fK _ _
 rcases e13:aT [109,111,110,116,104,115] r12 with e | r13
 ·rw [e13] at g13;have hi:bP r=.error e:=by simp only [bP,dI,e1,e2,e3,e4,e5,e6,e7,e8,e9,e10,e11,e12,e13,bI,bJ]
  rw [hi];exact t13.keep e g13
 have p13:=gV g13 e13;have f13:Fin1 r13:=(aN e13).2 f12;have g14:FN (aT [59] r13) a14:=by rw [h14,p13];exact fK _ _
 rcases e14:aT [59] r13 with e | r14
 ·rw [e14] at g14;have hi:bP r=.error e:=by simp only [bP,dI,e1,e2,e3,e4,e5,e6,e7,e8,e9,e10,e11,e12,e13,e14,bI,bJ]
  rw [hi];exact t14.keep e g14
 have p14:=gV g14 e14;have f14:Fin1 r14:=(aN e14).2 f13;have g15:Ag (qU [99,111,117,110,116] sF r14) a15:=by rw [h15,p14];exact Y0 _ _ (by decide) _
 rcases e15:qU [99,111,117,110,116] sF r14 with e | ⟨x15,r15⟩
 ·rw [e15] at g15;have hi:bP r=.error e:=by simp only [bP,dI,e1,e2,e3,e4,e5,e6,e7,e8,e9,e10,e11,e12,e13,e14,e15,bI,bJ]
  rw [hi];exact t15.keep e g15
 have v15:=d_ g15 e15;have p15:a15.2=sN r15:=by rw [v15]
 have f15:Fin1 r15:=(EK e15).2 f14;have g16:Ag (qU [97,100,106,117,115,116] r_ r15) a16:=by rw [h16,p15];exact Y0 _ _ (by decide) _
 rcases e16:qU [97,100,106,117,115,116] r_ r15 with e | ⟨x16,r16⟩
 ·rw [e16] at g16;have hi:bP r=.error e:=by simp only [bP,dI,e1,e2,e3,e4,e5,e6,e7,e8,e9,e10,e11,e12,e13,e14,e15,e16,bI,bJ]
  rw [hi];exact t16.keep e g16
 have v16:=d_ g16 e16;have p16:a16.2=sN r16:=by rw [v16]
 have f16:Fin1 r16:=(EK e16).2 f15;have g17:Ag (gK [114,101,99,111,114,100] 0 100 r16) a17:=by rw [h17,p16];exact xW _ _ _ _
 rcases e17:gK [114,101,99,111,114,100] 0 100 r16 with e | ⟨x17,r17⟩
 ·rw [e17] at g17;have hi:bP r=.error e:=by simp only [bP,dI,e1,e2,e3,e4,e5,e6,e7,e8,e9,e10,e11,e12,e13,e14,e15,e16,e17,bI,bJ]
  rw [hi];exact t17.keep e g17
 have v17:=d_ g17 e17;have p17:a17.2=sN r17:=by rw [v17]
 have f17:Fin1 r17:=(kD e17).2 f16;have g18:Ag (gK [114,97,110,107] 0 9 r17) a18:=by rw [h18,p17];exact xW _ _ _ _
 rcases e18:gK [114,97,110,107] 0 9 r17 with e | ⟨x18,r18⟩
 ·rw [e18] at g18;have hi:bP r=.error e:=by simp only [bP,dI,e1,e2,e3,e4,e5,e6,e7,e8,e9,e10,e11,e12,e13,e14,e15,e16,e17,e18,bI,bJ]
  rw [hi];exact t18.keep e g18
 have v18:=d_ g18 e18;have p18:a18.2=sN r18:=by rw [v18]
 have f18:Fin1 r18:=(kD e18).2 f17;have g19:Ag (mV r18.length [] r18) a19:=by rw [h19,p18];exact Vs _ _ _ f18 (by decide)
 rcases e19:mV r18.length [] r18 with e | ⟨x19,r19⟩
 ·rw [e19] at g19;have hi:bP r=.error e:=by simp only [bP,dI,e1,e2,e3,e4,e5,e6,e7,e8,e9,e10,e11,e12,e13,e14,e15,e16,e17,e18,e19,bI,bJ]
  rw [hi];exact t19.keep e g19
 have v19:=d_ g19 e19;have p19:a19.2=sN r19:=by rw [v19]
 have f19:Fin1 r19:=(GH _ e19).2 f18;have g20:FN (aT [99,111,117,112,111,110] r19) a20:=by rw [h20,p19];exact fK _ _
 rcases e20:aT [99,111,117,112,111,110] r19 with e | r20
 ·rw [e20] at g20;have hi:bP r=.error e:=by simp only [bP,dI,e1,e2,e3,e4,e5,e6,e7,e8,e9,e10,e11,e12,e13,e14,e15,e16,e17,e18,e19,e20,bI,bJ]
  rw [hi];exact t20.keep e g20
 have p20:=gV g20 e20;have f20:Fin1 r20:=(aN e20).2 f19;have g21:Ag (jd [59] r20) a21:=by rw [h21,p20];exact Ku (by decide) f20
 rcases e21:jd [59] r20 with e | ⟨x21,r21⟩
 ·rw [e21] at g21;have hi:bP r=.error e:=by simp only [bP,dI,e1,e2,e3,e4,e5,e6,e7,e8,e9,e10,e11,e12,e13,e14,e15,e16,e17,e18,e19,e20,e21,bI,bJ]
  rw [hi];exact t21.keep e g21
 have v21:=d_ g21 e21;have p21:a21.2=sN r21:=by rw [v21]
 have f21:Fin1 r21:=(lV e21).2 f20;have g22:Ag (gK [99,97,112] 0 10000 r21) a22:=by rw [h22,p21];exact xW _ _ _ _
 rcases e22:gK [99,97,112] 0 10000 r21 with e | ⟨x22,r22⟩
 ·rw [e22] at g22;have hi:bP r=.error e:=by simp only [bP,dI,e1,e2,e3,e4,e5,e6,e7,e8,e9,e10,e11,e12,e13,e14,e15,e16,e17,e18,e19,e20,e21,e22,bI,bJ]
  rw [hi];exact t22.keep e g22
 have v22:=d_ g22 e22;have p22:a22.2=sN r22:=by rw [v22]
 have f22:Fin1 r22:=(kD e22).2 f21;have g23:Ag (mQ r22.length [] r22) a23:=by rw [h23,p22];exact VI _ _ _ f22 (by decide)
 rcases e23:mQ r22.length [] r22 with e | ⟨x23,r23⟩
 ·rw [e23] at g23;have hi:bP r=.error e:=by simp only [bP,dI,e1,e2,e3,e4,e5,e6,e7,e8,e9,e10,e11,e12,e13,e14,e15,e16,e17,e18,e19,e20,e21,e22,e23,bI,bJ]
  rw [hi];exact t23.keep e g23
 have v23:=d_ g23 e23;have p23:a23.2=sN r23:=by rw [v23]
 have f23:Fin1 r23:=(GR _ e23).2 f22;have g24:Ag (oO r23) a24:=by rw [h24,p23];exact aha f23
 rcases e24:oO r23 with e | ⟨x24,r24⟩
 ·rw [e24] at g24;have hi:bP r=.error e:=by simp only [bP,dI,e1,e2,e3,e4,e5,e6,e7,e8,e9,e10,e11,e12,e13,e14,e15,e16,e17,e18,e19,e20,e21,e22,e23,e24,bI,bJ]
  rw [hi];exact t24.keep e g24
 have v24:=d_ g24 e24;have p24:a24.2=sN r24:=by rw [v24]
 have f24:Fin1 r24:=(SE e24).2 f23;have g25:Ag (jI [99,114,111,115,115] 1000000000000000 (-1) r24) a25:=by rw [h25,p24];exact JY _ _ _ _
 rcases e25:jI [99,114,111,115,115] 1000000000000000 (-1) r24 with e | ⟨x25,r25⟩
 ·rw [e25] at g25;have hi:bP r=.error e:=by simp only [bP,dI,e1,e2,e3,e4,e5,e6,e7,e8,e9,e10,e11,e12,e13,e14,e15,e16,e17,e18,e19,e20,e21,e22,e23,e24,e25,bI,bJ]
  rw [hi];exact t25.keep e g25
 have v25:=d_ g25 e25;have p25:a25.2=sN r25:=by rw [v25]
 have f25:Fin1 r25:=(uq e25).2 f24;have g26:Ag (ku r25.length [] r25) a26:=by rw [h26,p25];exact Uo _ _ _ f25 (by decide)
 rcases e26:ku r25.length [] r25 with e | ⟨x26,r26⟩
 ·rw [e26] at g26;have hi:bP r=.error e:=by simp only [bP,dI,e1,e2,e3,e4,e5,e6,e7,e8,e9,e10,e11,e12,e13,e14,e15,e16,e17,e18,e19,e20,e21,e22,e23,e24,e25,e26,bI,bJ]
  rw [hi];exact t26.keep e g26
 have v26:=d_ g26 e26;have p26:a26.2=sN r26:=by rw [v26]
 have f26:Fin1 r26:=(FD _ e26).2 f25;have g27:Ag (jI [110,111,116,105,99,101] 1000 0 r26) a27:=by rw [h27,p26];exact JY _ _ _ _
 rcases e27:jI [110,111,116,105,99,101] 1000 0 r26 with e | ⟨x27,r27⟩
 ·rw [e27] at g27;have hi:bP r=.error e:=by simp only [bP,dI,e1,e2,e3,e4,e5,e6,e7,e8,e9,e10,e11,e12,e13,e14,e15,e16,e17,e18,e19,e20,e21,e22,e23,e24,e25,e26,e27,bI,bJ]
  rw [hi];exact t27.keep e g27
 have v27:=d_ g27 e27;have p27:a27.2=sN r27:=by rw [v27]
 have f27:Fin1 r27:=(uq e27).2 f26;have g28:Ag (jI [115,105,110,107] 1000 0 r27) a28:=by rw [h28,p27];exact JY _ _ _ _
 rcases e28:jI [115,105,110,107] 1000 0 r27 with e | ⟨x28,r28⟩
 ·rw [e28] at g28;have hi:bP r=.error e:=by simp only [bP,dI,e1,e2,e3,e4,e5,e6,e7,e8,e9,e10,e11,e12,e13,e14,e15,e16,e17,e18,e19,e20,e21,e22,e23,e24,e25,e26,e27,e28,bI,bJ]
  rw [hi];exact t28.keep e g28
 have v28:=d_ g28 e28;have p28:a28.2=sN r28:=by rw [v28]
 have f28:Fin1 r28:=(uq e28).2 f27;have g29:Ag (gK [109,97,106,111,114,105,116,121] 1 1000 r28) a29:=by rw [h29,p28];exact xW _ _ _ _
 rcases e29:gK [109,97,106,111,114,105,116,121] 1 1000 r28 with e | ⟨x29,r29⟩
 ·rw [e29] at g29;have hi:bP r=.error e:=by simp only [bP,dI,e1,e2,e3,e4,e5,e6,e7,e8,e9,e10,e11,e12,e13,e14,e15,e16,e17,e18,e19,e20,e21,e22,e23,e24,e25,e26,e27,e28,e29,bI,bJ]
  rw [hi];exact t29.keep e g29
 have v29:=d_ g29 e29;have p29:a29.2=sN r29:=by rw [v29]
 have f29:Fin1 r29:=(kD e29).2 f28;have g30:Ag (gK [102,97,115,116] 1 1000 r29) a30:=by rw [h30,p29];exact xW _ _ _ _
 rcases e30:gK [102,97,115,116] 1 1000 r29 with e | ⟨x30,r30⟩
 ·rw [e30] at g30;have hi:bP r=.error e:=by simp only [bP,dI,e1,e2,e3,e4,e5,e6,e7,e8,e9,e10,e11,e12,e13,e14,e15,e16,e17,e18,e19,e20,e21,e22,e23,e24,e25,e26,e27,e28,e29,e30,bI,bJ]
  rw [hi];exact t30.keep e g30
 have v30:=d_ g30 e30;have p30:a30.2=sN r30:=by rw [v30]
 have f30:Fin1 r30:=(kD e30).2 f29;have hi:bP r=if (bV r30).kind=3 then .ok (⟨x2,x4,x6,x8,x10,x12,x15,x16,x17,x18,x19,x21,x22,x23,x24,x25,x26,x27,x28,x29,x30⟩,r30) else jm 12 r30:=by simp only [bP,dI,e1,e2,e3,e4,e5,e6,e7,e8,e9,e10,e11,e12,e13,e14,e15,e16,e17,e18,e19,e20,e21,e22,e23,e24,e25,e26,e27,e28,e29,e30,bI,bJ]
 rw [hi,p30];have hx:aH (sN r30)=bV r30:=rfl;rw [hx];by_cases hk:(bV r30).kind=3
 ·rw [if_pos hk,if_neg (show ¬ ((sN r30).er.isSome=false∧(bV r30).kind≠3) from fun y=>y.2 hk),v2,v4,v6,v8,v10,v12,v15,v16,v17,v18,v19,v21,v22,v23,v24,v25,v26,v27,v28,v29,v30];rfl
 ·rw [if_neg hk,if_pos (show (sN r30).er.isSome=false∧(bV r30).kind≠3 from ⟨rfl,hk⟩)];rfl
theorem aas (c:Int):ak Tryz.prog 210 [.int .u8 c] (.bool (Dw c)):=by
 have e:Dw c=(decide (c=9)||decide (c=10)||decide (c=32)):=by
  unfold Dw;generalize decide (c=32)=a;generalize decide (c=9)=b;generalize decide (c=10)=d;try (cases a<;>cases b<;>cases d<;>rfl)
 rw [e];refine aO (au 13 [0,2]) Tryz.func210 ?_;conv=>whnf
 rfl
abbrev Eh:List UInt8:=[59,44,61,60,43,45,42,47,40,41]
def nM (s:List UInt8) (p:Nat):Int :=
 if p+1<s.length∧(s.getD (p+1) 0).toNat=61∧(s.getD p 0).toNat=61 then 2
 else if s.getD p 0∈Eh then 1 else 0
theorem aiG {a b:UInt8}:decide (((a.toNat:Nat):Int)=((b.toNat:Nat):Int))=decide (a=b):=by
 by_cases h:a=b
 ·simp [h]
 ·have:a.toNat≠b.toNat:=fun e=>h (UInt8.toNat_inj.1 e)
  simp [h];omega
theorem agM {p:Prop}(h:p:=by
 conv=>whnf
 refine aX (au _ _) 10 (fun k=>∀ j,j<k→Eh.getD j 0≠s.getD p 0) (fun k=>⟨[(0,.str s),(1,.int .i64 (p:Nat)),(5,.str Eh),(6,.int .i64 (k:Nat))],[],0⟩) mZ ((aj [] rfl ⟨ah,ah,ah,ah,trivial⟩ trivial)) ?_;intro k hk hP;conv=>whnf
 refine ⟨fun hd=>?_,fun hd=>?_⟩
 ·have hd:=of_decide_eq_true hd;have hlt:k<10:=by have:Eh.length=10:=rfl;omega
  have hkk:((k:Nat):Int).toNat=k:=Int.toNat_natCast k;conv=>whnf
  refine .quiet bZ (cW ?_);refine iO (cW ?_);rw [hek];refine And.intro ⟨by omega,(by show (k:Int)<((Eh.length:Nat):Int);have:Eh.length=10:=rfl;omega)⟩ (cW ?_);rw [hkk,aiG];refine ⟨fun he=>?_,fun he=>?_⟩
  ·have he:=of_decide_eq_true he;have hyes:s.getD p 0∈Eh:=by
    rw [he,List.getD_eq_getElem?_getD,List.getElem?_eq_getElem (show k<Eh.length from hlt)];exact List.getElem_mem _
   have hs1:nM s p=1:=by unfold nM;rw [if_neg hn2,if_pos hyes]
   rw [hs1];conv=>whnf
   rfl
  ·have he:=of_decide_eq_false he;conv=>whnf
   refine iO (cW ?_);refine ⟨k+1,⟨hlt,fun j hj=>(by
    by_cases e:j=k
    ·subst e;exact fun h=>he h.symm
    ·exact hP j (by omega))⟩,(by show 10-(k+1)<10-k;omega),(aj [] rfl ⟨ah,ah,ah,ah,trivial⟩ trivial)⟩
 ·have hd:=of_decide_eq_false hd;obtain rfl:k=10:=by have:Eh.length=10:=rfl;omega
  have hno:¬ s.getD p 0∈Eh:=fun h=>by
   obtain ⟨j,hj,he⟩:=List.mem_iff_getElem.1 h;have hj10:j<10:=hj;exact hP j hj10 (by rw [List.getD_eq_getElem?_getD,List.getElem?_eq_getElem hj];exact he)
  have hs0:nM s p=0:=by unfold nM;rw [if_neg hn2,if_neg hno]
  rw [hs0];conv=>whnf
  rfl):p:=h
theorem af4 (s:List UInt8) (p:Nat) (hp:p<s.length) (hs:s.length≤4000):ak Tryz.prog 254 [.str s,.int .i64 (p:Nat)] (.int .i64 (nM s p)):=by
 have hek:((p:Nat):Int).toNat=p:=Int.toNat_natCast p;have hek1:((p:Nat):Int)+1=((p+1:Nat):Int):=by omega
 have hek2:(((p+1:Nat):Int)).toNat=p+1:=Int.toNat_natCast _;refine aO (au 38 [0,1,4,5,6,24,28,37]) Tryz.func254 ?_;conv=>whnf
 refine iO (cW ?_);rw [hek1];cases hb:decide (((p+1:Nat):Int)<((s.length:Nat):Int)) with
 | true =>
  have hb':=of_decide_eq_true hb;refine And.intro (fun _=>⟨by omega,by omega⟩) (cW ?_);refine And.intro (fun _=>⟨by omega,by omega⟩) (cW ?_);refine And.intro (fun _=>⟨by omega,by omega⟩) (cW ?_);rw [hek2];rw [hek];refine ⟨fun hc=>?_,fun hc=>?_⟩
  ·simp only [Bool.true_and,Bool.and_eq_true,decide_eq_true_eq] at hc;have hs2:nM s p=2:=by unfold nM;rw [if_pos ⟨by omega,by omega,by omega⟩]
   rw [hs2];conv=>whnf
   rfl
  ·have hn2:¬ (p+1<s.length∧(s.getD (p+1) 0).toNat=61∧(s.getD p 0).toNat=61):=by
    rintro ⟨h1,h2,h3⟩;simp only [Bool.true_and,Bool.and_eq_false_iff,decide_eq_false_iff_not] at hc;omega
   exact agM
 | false =>
  have hb':=of_decide_eq_false hb;have hn2:¬ (p+1<s.length∧(s.getD (p+1) 0).toNat=61∧(s.getD p 0).toNat=61):=fun h=>by omega
  refine And.intro (fun _=>⟨by omega,by omega⟩) (cW ?_);refine And.intro (fun h=>(by cases h)) (cW ?_);refine And.intro (fun h=>(by cases h)) (cW ?_);refine gF ?_;exact agM
def xA (s:List UInt8):Prop:=∀ k,k<s.length→dH ((s.getD k 0).toNat:Int)=true
theorem Ov {s:List UInt8} (h:xA s):∀ c∈s,dH (c.toNat:Int)=true:=by
 intro c hc;obtain ⟨i,hi,he⟩:=List.mem_iff_getElem.1 hc;have:=h i hi;rw [List.getD_eq_getElem?_getD,List.getElem?_eq_getElem hi] at this;rw [← he];exact this
theorem Kt {s:List UInt8}:dQ dH s=s.length↔xA s:=by
 constructor
 ·intro h k hk;exact vU (by rw [h];exact hk)
 ·intro h;apply Classical.byContradiction;intro hne;have hlt:dQ dH s<s.length:=by have:=lK dH s;omega
  have:=yx hlt;rw [h _ hlt] at this;cases this
instance (s:List UInt8):Decidable (xA s):=decidable_of_iff _ Kt
theorem DJ:∀ (l2 l1:List UInt8),(∀ c∈l1++l2,dH (c.toNat:Int)=true)→jv l1*10 ^ l2.length≤jv (l1++l2)
 | [],l1,_=>by simp
 | c::l2,l1,h=>by
  have h1:=DJ l2 (l1++[c]) oz;have hc:=h c (by simp);unfold dH at hc;simp only [Bool.and_eq_true,decide_eq_true_eq] at hc;have e:l1++c::l2=(l1++[c])++l2:=by simp
  rw [e];refine Int.le_trans ?_ h1;rw [List.length_cons,Int.pow_succ,Ib,Int.mul_comm (10 ^ l2.length) 10,← Int.mul_assoc];exact Int.mul_le_mul_of_nonneg_right aI (Int.pow_nonneg aI)
theorem JF (s:List UInt8):qj s=if xA s∧1≤s.length∧¬ (1<s.length∧(s.getD 0 0).toNat=48)∧jv s≤1000000000000000 then some (jv s) else none:=by
 unfold qj;by_cases hd:xA s
 ·by_cases hz:1≤s.length∧¬ (1<s.length∧(s.getD 0 0).toNat=48)
  ·by_cases hv:jv s≤1000000000000000
   ·rw [if_pos (c:=xA s∧_) ⟨hd,hz.1,hz.2,hv⟩];refine if_pos ⟨?_,hv⟩;have hne:s≠[]:=fun e=>by subst e;simp at hz
    have h16:s.length≤16:=by
     apply Classical.byContradiction;intro hlong;match s,hd,hz,hv,hne,hlong with
     | c::l,hd,hz,hv,hne,hlong =>
      have hm:=Ov hd;have hc:=hm c (by simp);unfold dH at hc;simp only [Bool.and_eq_true,decide_eq_true_eq] at hc;have hnz:¬ c.toNat=48:=fun e=>hz.2 ⟨by simp only [List.length_cons] at hlong ⊢;omega,e⟩
      have h1:=DJ l [c] (by simpa using hm);have h2:jv [c]=(c.toNat:Int)-48:=by simp [jv]
      have h3:(10:Int) ^ 16≤10 ^ l.length:=by
       have:(10:Nat) ^ 16≤10 ^ l.length:=Nat.pow_le_pow_right (by omega) (by simp only [List.length_cons] at hlong;omega)
       exact_mod_cast this
      have h4:(1:Int)*10 ^ l.length≤jv [c]*10 ^ l.length:=Int.mul_le_mul_of_nonneg_right (by omega) (Int.pow_nonneg (by omega));have h5:jv (c::l)=jv ([c]++l):=rfl;rw [h5] at hv;have h6:(10:Int) ^ 16=10000000000000000:=by decide
      omega
    unfold GN;simp only [Bool.and_eq_true,decide_eq_true_eq,Bool.not_eq_true',Bool.and_eq_false_iff,decide_eq_false_iff_not];refine ⟨⟨⟨hne,Kt.2 hd⟩,?_⟩,h16⟩;by_cases h48:(s.getD 0 0).toNat=48
    ·right;intro hh;apply hh;have hl1:s.length=1:=by
      apply Classical.byContradiction;intro hl;exact hz.2 ⟨by omega,h48⟩
     match s,hl1,h48 with
     | [c],_,h48 =>
      have:c=48:=UInt8.toNat_inj.1 h48;rw [this]
    ·exact .inl h48
   ·rw [if_neg (c:=xA s∧_) (fun h=>hv h.2.2.2),if_neg (fun h=>hv h.2)]
  ·rw [if_neg (c:=xA s∧_) (fun h=>hz ⟨h.2.1,h.2.2.1⟩)];refine if_neg fun h=>hz ?_
   have hg:=h.1;unfold GN at hg;simp only [Bool.and_eq_true,decide_eq_true_eq,Bool.not_eq_true',Bool.and_eq_false_iff,decide_eq_false_iff_not] at hg;obtain ⟨⟨⟨h1,h2⟩,h3⟩,h4⟩:=hg;refine ⟨List.length_pos_iff.2 h1,fun ⟨h5,h6⟩=>?_⟩;rcases h3 with h3 | h3
   ·exact h3 h6
   ·apply h3;intro e;rw [e] at h5;simp at h5
 ·rw [if_neg (c:=xA s∧_) (fun h=>hd h.1)];refine if_neg fun h=>hd ?_
  have hg:=h.1;unfold GN at hg;simp only [Bool.and_eq_true,decide_eq_true_eq] at hg;exact Kt.1 hg.1.1.2
theorem Yy {s:List UInt8} (h:xA s) (k:Nat):jv (s.take k)≤jv s∧0≤jv (s.take k):=by
 have hm:=Ov h;have h1:=DJ (s.drop k) (s.take k) (by rw [List.take_append_drop];exact hm);rw [List.take_append_drop] at h1;have h0:=(J8 (s.take k) fun c hc=>hm c (List.mem_of_mem_take hc)).1;refine ⟨Int.le_trans ?_ h1,h0⟩;have h2:(1:Int)≤10 ^ (s.drop k).length:=by
  have:(10:Nat) ^ 0≤10 ^ (s.drop k).length:=Nat.pow_le_pow_right (by omega) (by omega)
  exact_mod_cast this
 have h3:=Int.mul_le_mul_of_nonneg_left h2 h0;omega
theorem aaW (s:List UInt8) (hs:s.length≤4000):bM Tryz.prog 253 [.str s] (fun rs=>rs=NC (qj s)):=by
 refine aO (au 47 [0,2,3,4,5,9,20,45]) Tryz.func253 ?_;conv=>whnf
 refine dO (au _ _) (fun k:Nat=>k≤s.length∧(∀ j,j<k→dH ((s.getD j 0).toNat:Int)=true)∧0≤jv (s.take k)∧jv (s.take k)≤10000000000000009) (fun k=>s.length-k) (fun k=>⟨[(0,.str s),(2,.int .i64 0),(3,.bool false),(4,.int .i64 (jv (s.take k))),(5,.int .i64 (k:Nat))],[],0⟩) 0 ⟨by omega,fun j hj=>by omega,by simp [jv],by simp [jv]⟩ ((aj [] rfl ⟨ah,ah,ah,ah,ah,trivial⟩ trivial)) ?_;rintro k ⟨hk,hP,hv0,hv1⟩;have hk:k≤s.length:=hk;show fQ _ _ (⟨[(0,.str s),(2,.int .i64 0),(3,.bool false),(4,.int .i64 (jv (s.take k))),(5,.int .i64 (k:Nat))],[],0⟩) _;have hek:(k:Int).toNat=k:=Int.toNat_natCast k;conv=>whnf
 refine ⟨fun hd=>?_,fun hd=>?_⟩
 ·have hd:=of_decide_eq_true hd;have hlt:k<s.length:=by omega
  conv=>whnf
  refine iO (cW ?_);rw [hek];conv=>whnf
  refine cO (fun _=>y8 ((s.getD k 0).toNat:Int)) (cW ?_);refine ⟨fun hx=>?_,fun hx=>?_⟩
  ·have hr:qj s=none:=by
    rw [JF];refine if_neg fun ⟨h1,_,_,h4⟩=>?_
    have:=h1 k hlt;have h5:=(Yy h1 k).1;rw [this] at hx;simp at hx;omega
   rw [hr];conv=>whnf
   rfl
  ·have hdig:dH ((s.getD k 0).toNat:Int)=true:=by revert hx;cases dH ((s.getD k 0).toNat:Int)<;>simp
   have hle:jv (s.take k)≤1000000000000000:=by
    rw [hdig] at hx;simp at hx;omega
   have hdig':=hdig;unfold dH at hdig';simp only [Bool.and_eq_true,decide_eq_true_eq] at hdig';conv=>whnf
   refine iO (cW ?_);refine iO (cW ?_);rw [hek];refine iO (cW ?_);refine iO (cW ?_);refine iO (cW ?_);refine iO (cW ?_);have hsn:jv (s.take (k+1))=10*jv (s.take k)+(((s.getD k 0).toNat:Int)-48):=by rw [wM (d:=0) hlt,Ib]
   refine ⟨k+1,⟨hlt,fun j hj=>(by
    by_cases e:j=k
    ·rw [e];exact hdig
    ·exact hP j (by omega)),by rw [hsn];omega,by rw [hsn];omega⟩,abp,(aj [] rfl ⟨ah,ah,ah,.base (.tree _ _ (congrArg (AV.int .i64) (by rw [hsn];omega)) rfl),ah,trivial⟩ trivial)⟩
 ·have hd:=of_decide_eq_false hd;have hke:k=s.length:=by omega
  subst hke;rw [List.take_length] at hv0 hv1 ⊢;have hds:xA s:=hP;conv=>whnf
  refine And.intro (fun h=>⟨by omega,(by
   have h1:1≤s.length:=by
    apply Classical.byContradiction;intro hh;have:s.length=0:=by omega
    rw [this] at h;cases h
   omega)⟩) ?_
  conv=>whnf
  rw [show (Int.toNat 0)=0 from rfl];refine ⟨fun hc=>?_,fun hc=>?_⟩
  ·simp only [Bool.or_eq_true,Bool.and_eq_true,decide_eq_true_eq] at hc;have hr:qj s=none:=by
    rw [JF];refine if_neg fun ⟨_,h2,h3,h4⟩=>?_
    rcases hc with (hc | ⟨hc,hc'⟩) | hc
    ·omega
    ·exact h3 ⟨by omega,by omega⟩
    ·omega
   rw [hr];conv=>whnf
   rfl
  ·simp only [Bool.or_eq_false_iff,Bool.and_eq_false_iff,decide_eq_false_iff_not] at hc;have hr:qj s=some (jv s):=by
    rw [JF];refine if_pos ⟨hds,by omega,fun ⟨h1,h2⟩=>?_,by omega⟩;rcases hc.1.2 with h | h<;>omega
   rw [hr];conv=>whnf
   rfl
theorem L6 {s:List UInt8} {p i:Nat}:(s.drop p).getD i 0=s.getD (p+i) 0:=by
 rw [List.getD_eq_getElem?_getD,List.getD_eq_getElem?_getD,List.getElem?_drop]
theorem aeG {p:Prop}(h:p:=by
 rw [List.getD_eq_getElem?_getD,List.getD_eq_getElem?_getD,List.getElem?_take,if_pos (by omega)]):p:=h
theorem ab3 {s:List UInt8} (hs:s≠[]) (h:iI ((s.getD 0 0).toNat:Int)=true):sQ (jD s)=decide ((jD s).length≤20):=by
 have hl:=zD (p:=fun c=>iI c||dH c) hs (by simp only [h,Bool.true_or]);have hle:=lK (fun c=>iI c||dH c) s;have hw:(jD s).length=dQ (fun c=>iI c||dH c) s:=by unfold jD;rw [List.length_take];omega
 have hne:jD s≠[]:=fun e=>by rw [e] at hw;simp at hw;omega
 have h0:(jD s).getD 0 0=s.getD 0 0:=by
  unfold jD;exact aeG
 have hsp:dQ (fun c=>iI c||dH c) (jD s)=(jD s).length:=Gn.2 fun k hk=>by
  have e:(jD s).getD k 0=s.getD k 0:=by
   unfold jD at hk ⊢;rw [List.length_take] at hk;exact aeG
  rw [e];exact vU (p:=fun c=>iI c||dH c) aI
 unfold sQ;rw [h0,h,hsp];simp [hne]
theorem SI (a c:UInt8) (r:List UInt8):xP (a::r) [c]=decide (a=c):=by
 unfold xP;by_cases h:a=c<;>simp [h]
theorem Ud (a:UInt8) (r:List UInt8):xP (a::r) [61,61]=(decide (a=61)&&decide (r.head?=some 61)):=by
 unfold xP;cases r with
 | nil=>simp
 | cons b r=>by_cases h:a=61<;>by_cases h':b=61<;>simp [h,h']
theorem Yx (a:UInt8) (r:List UInt8):signs.find? (xP (a::r))=if a=61∧r.head?=some 61 then some [61,61] else if a∈Eh then some [a] else none:=by
 unfold signs;by_cases h2:a=61∧r.head?=some 61
 ·rw [if_pos h2,List.find?_cons_of_pos (by rw [Ud];simp [h2])]
 ·rw [if_neg h2,List.find?_cons_of_neg (by rw [Ud];simpa using h2)];by_cases hm:a∈Eh
  ·rw [if_pos hm];have hm':=hm;simp only [List.mem_cons,List.not_mem_nil,or_false] at hm';rcases hm' with rfl | rfl | rfl | rfl | rfl | rfl | rfl | rfl | rfl | rfl<;>simp [List.find?,SI]
  ·rw [if_neg hm];simp only [List.mem_cons,List.not_mem_nil,or_false,not_or] at hm;simp [List.find?,SI,hm]
theorem CO {s:List UInt8} {q:Nat} (hq:q<s.length):s.drop q=s.getD q 0::s.drop (q+1):=by
 rw [List.drop_eq_getElem_cons hq,List.getD_eq_getElem?_getD,List.getElem?_eq_getElem hq];rfl
theorem acd {s:List UInt8} {p:Nat} (hp:p<s.length):signs.find? (xP (s.drop p))=if nM s p=0 then none else some ((s.drop p).take (nM s p).toNat):=by
 have hd:=CO hp;have hh:(s.drop (p+1)).head?=some 61↔p+1<s.length∧(s.getD (p+1) 0).toNat=61:=by
  rw [List.head?_drop,List.getD_eq_getElem?_getD];by_cases hl:p+1<s.length
  ·rw [List.getElem?_eq_getElem hl];simp only [Option.some.injEq,Option.getD_some,hl,true_and];exact ⟨fun e=>by rw [e];rfl,fun e=>UInt8.toNat_inj.1 e⟩
  ·rw [List.getElem?_eq_none (by omega)];simp [hl]
 rw [hd,Yx];unfold nM;by_cases h2:p+1<s.length∧(s.getD (p+1) 0).toNat=61∧(s.getD p 0).toNat=61
 ·have ha:s.getD p 0=61:=UInt8.toNat_inj.1 h2.2.2;have hb:s.getD (p+1) 0=61:=UInt8.toNat_inj.1 h2.2.1;have hd2:=CO h2.1;rw [if_pos ⟨ha,hh.2 ⟨h2.1,h2.2.1⟩⟩,if_pos h2,if_neg (by omega),hd2,ha,hb];rfl
 ·rw [if_neg (fun h=>h2 ⟨(hh.1 h.2).1,(hh.1 h.2).2,by rw [h.1];rfl⟩),if_neg h2];by_cases hm:s.getD p 0∈Eh
  ·rw [if_pos hm,if_pos hm,if_neg (by omega)];rfl
  ·rw [if_neg hm,if_neg hm,if_pos rfl]
def tokA (p:Nat):Except Int Tok→List AR
 | .ok t=>[.val (yQ ⟨t.kind,t.text,t.n,(p:Nat)⟩),.val (.int .i64 0)]
 | .error e=>[.val (yQ t0),.val (.int .i64 e)]
theorem ahB {p:Prop}(h:p:=by
 have hlt:p+k<s.length:=by simp at hc;omega
 have hkn:k<n:=by
  apply Classical.byContradiction;intro hh;obtain rfl:k=n:=by omega
  have:=hnat hlt;rw [this] at hc;simp at hc
 conv=>whnf
 refine iO (cW ?_);exact ⟨k+1,⟨by omega,hkn⟩,(by show n-(k+1)<n-k;omega),(aj [(0,.id 0)] rfl ⟨ah,ah,aQ,ah,.base (.tree _ _ (congrArg (AV.int .i64) (by omega)) rfl),trivial⟩ ⟨aB,trivial⟩)⟩):p:=h
theorem adH {p:Prop}(h:p:=by
 apply Classical.byContradiction;intro hh;have hlt:k<n:=by omega
 have:=hnlt k hlt;rw [this] at hc;simp at hc;omega):p:=h
theorem QC {p:Prop}(h:p:=by
 rw [L6] at this;exact this):p:=h
theorem abW (s:List UInt8) (p:Nat) (hp:p<s.length) (hs:s.length≤4000):bM Tryz.prog 211 [.str s,.int .i64 (p:Nat)] (fun rs=>rs=tokA p (nextR (s.drop p))):=by
 have hek:((p:Nat):Int).toNat=p:=Int.toNat_natCast p;have hne:s.drop p≠[]:=fun h=>by
  exact SL
 have h0:(s.drop p).getD 0 0=s.getD p 0:=by rw [L6];rfl
 refine aO (au 93 [0,1,4,5,6,7,8,9,15,31,37,48,58,70,83]) Tryz.func211 ?_;conv=>whnf
 refine iO (cW ?_);refine iO (cW ?_);rw [hek];refine cO (fun _=>Ad ((s.getD p 0).toNat:Int)) (cW ?_);refine ⟨fun hl=>?_,fun hl=>?_⟩
 ·have hl':iI (((s.drop p).getD 0 0).toNat:Int)=true:=by rw [h0];exact hl
  have hr:nextR (s.drop p)=if sQ (jD (s.drop p))=true then .ok ⟨0,jD (s.drop p),0,0⟩ else .error 11:=by unfold nextR;rw [if_pos hl']
  rw [ab3 hne hl'] at hr;have hn1:=zD (p:=fun c=>iI c||dH c) hne (by simp only [hl',Bool.true_or]);have hnle:=lK (fun c=>iI c||dH c) (s.drop p);have hwl:(jD (s.drop p)).length=dQ (fun c=>iI c||dH c) (s.drop p):=by unfold jD;rw [List.length_take];omega
  have hnlt:∀ k,k<dQ (fun c=>iI c||dH c) (s.drop p)→(iI ((s.getD (p+k) 0).toNat:Int)||dH ((s.getD (p+k) 0).toNat:Int))=true:=fun k hk=>by
   have:=vU hk;exact QC
  have hnat:p+dQ (fun c=>iI c||dH c) (s.drop p)<s.length→(iI ((s.getD (p+dQ (fun c=>iI c||dH c) (s.drop p)) 0).toNat:Int)||dH ((s.getD (p+dQ (fun c=>iI c||dH c) (s.drop p)) 0).toNat:Int))=false:=fun hlt=>by
   have:=yx (p:=fun c=>iI c||dH c) (s:=s.drop p) Xn;exact QC
  rw [List.length_drop] at hnle;generalize hN:dQ (fun c=>iI c||dH c) (s.drop p)=n at *;conv=>whnf
  refine dO (au _ _) (fun k:Nat=>1≤k∧k≤n) (fun k=>n-k) (fun k=>⟨[(0,.str s),(1,.int .i64 (p:Nat)),(4,.ptr 0 0),(5,.int .i64 0),(6,.int .i64 ((p+k:Nat):Int))],[(0,.cells 198 [.int .i64 0,.str [],.int .i64 0,.int .i64 0])],1⟩) 1 ⟨by omega,hn1⟩ ((aj [(0,.id 0)] rfl ⟨ah,ah,aQ,ah,ah,trivial⟩ ⟨aB,trivial⟩)) ?_;rintro k ⟨hk1,hk⟩;show fQ _ _ (⟨[(0,.str s),(1,.int .i64 (p:Nat)),(4,.ptr 0 0),(5,.int .i64 0),(6,.int .i64 ((p+k:Nat):Int))],[(0,.cells 198 [.int .i64 0,.str [],.int .i64 0,.int .i64 0])],1⟩) _;have hkk:((p+k:Nat):Int).toNat=p+k:=Int.toNat_natCast _;conv=>whnf
  refine And.intro (fun h=>⟨by omega,of_decide_eq_true (by simpa [wo,yc] using h)⟩) (cW ?_);rw [hkk];conv=>whnf
  refine cO (fun _=>Ad ((s.getD (p+k) 0).toNat:Int)) (cW ?_);refine And.intro (fun h=>⟨by omega,by simp [wo,yc] at h;omega⟩) ?_;rw [hkk];conv=>whnf
  refine cO (fun _=>y8 ((s.getD (p+k) 0).toNat:Int)) (cW ?_);refine ⟨fun hc=>?_,fun hc=>?_⟩
  ·exact ahB
  ·have hke:k=n:=by
    exact adH
   subst hke;have hwT:jD (s.drop p)=(s.take (p+k)).drop p:=by
    unfold jD;rw [hN,List.drop_take];congr 1
    omega
   have hsub:((p+k:Nat):Int)-((p:Nat):Int)=(k:Nat):=by omega
   rw [hr,hwl];conv=>whnf
   refine iO (cW ?_);rw [hsub];cases h20:decide (k≤20) with
   | false =>
    have h20':=of_decide_eq_false h20;rw [decide_eq_true (show (20:Int)<((k:Nat):Int) by omega)];refine gT (cW ?_);rfl
   | true =>
    have h20':=of_decide_eq_true h20;rw [decide_eq_false (show ¬ (20:Int)<((k:Nat):Int) by omega)];refine gF (cW ?_);refine iO (cW ?_);rw [if_pos rfl,hwT];rfl
 ·have hl':iI (((s.drop p).getD 0 0).toNat:Int)=false:=by rw [h0];exact hl
  conv=>whnf
  refine iO (cW ?_);rw [hek];conv=>whnf
  refine cO (fun _=>y8 ((s.getD p 0).toNat:Int)) (cW ?_);refine ⟨fun hd=>?_,fun hd=>?_⟩
  ·have hd':dH (((s.drop p).getD 0 0).toNat:Int)=true:=by rw [h0];exact hd
   have hr:nextR (s.drop p)=match qj (ru (s.drop p)) with
    | some n=>.ok ⟨1,ru (s.drop p),n,0⟩
    | none=>.error 3:=by
     unfold nextR;rw [if_neg (by rw [hl'];simp),if_pos hd'];try (cases qj (ru (s.drop p))<;>rfl)
   have hn1:=zD hne hd';have hnle:=lK dH (s.drop p);have hnlt:∀ k,k<dQ dH (s.drop p)→dH ((s.getD (p+k) 0).toNat:Int)=true:=fun k hk=>by
    have:=vU hk;exact QC
   have hnat:p+dQ dH (s.drop p)<s.length→dH ((s.getD (p+dQ dH (s.drop p)) 0).toNat:Int)=false:=fun hlt=>by
    have:=yx (p:=dH) (s:=s.drop p) Xn;exact QC
   have hwT:ru (s.drop p)=(s.take (p+dQ dH (s.drop p))).drop p:=by
    unfold ru;rw [List.drop_take];congr 1
    omega
   rw [List.length_drop] at hnle;have hnum:=aaW (ru (s.drop p)) (by unfold ru;rw [List.length_take,List.length_drop];omega);rw [hr];generalize hN:dQ dH (s.drop p)=n at *;conv=>whnf
   refine dO (au _ _) (fun k:Nat=>1≤k∧k≤n) (fun k=>n-k) (fun k=>⟨[(0,.str s),(1,.int .i64 (p:Nat)),(4,.ptr 0 0),(5,.int .i64 0),(6,.int .i64 ((p+k:Nat):Int))],[(0,.cells 198 [.int .i64 0,.str [],.int .i64 0,.int .i64 0])],1⟩) 1 ⟨by omega,hn1⟩ ((aj [(0,.id 0)] rfl ⟨ah,ah,aQ,ah,ah,trivial⟩ ⟨aB,trivial⟩)) ?_;rintro k ⟨hk1,hk⟩;show fQ _ _ (⟨[(0,.str s),(1,.int .i64 (p:Nat)),(4,.ptr 0 0),(5,.int .i64 0),(6,.int .i64 ((p+k:Nat):Int))],[(0,.cells 198 [.int .i64 0,.str [],.int .i64 0,.int .i64 0])],1⟩) _;have hkk:((p+k:Nat):Int).toNat=p+k:=Int.toNat_natCast _;conv=>whnf
   refine And.intro (fun h=>⟨by omega,of_decide_eq_true (by simpa [wo,yc] using h)⟩) ?_;rw [hkk];conv=>whnf
   refine cO (fun _=>y8 ((s.getD (p+k) 0).toNat:Int)) (cW ?_);refine ⟨fun hc=>?_,fun hc=>?_⟩
   ·exact ahB
   ·have hke:k=n:=by
     exact adH
    subst hke;rw [hwT] at hnum ⊢;conv=>whnf
    refine iO (cW ?_);cases hv:qj ((s.take (p+k)).drop p) with
    | none =>
     rw [hv] at hnum;unfold NC at hnum;refine cO (fun _=>hnum) ?_;exact Qh
    | some v =>
     rw [hv] at hnum;unfold NC at hnum;refine cO (fun _=>hnum) (cW ?_);refine gF (cW ?_);refine iO (cW ?_);rfl
  ·have hd':dH (((s.drop p).getD 0 0).toNat:Int)=false:=by rw [h0];exact hd
   have hr:nextR (s.drop p)=if nM s p=0 then .error 10 else .ok ⟨2,(s.drop p).take (nM s p).toNat,0,0⟩:=by
    unfold nextR;rw [if_neg (by rw [hl'];simp),if_neg (by rw [hd'];simp),acd hp];by_cases h:nM s p=0
    ·rw [if_pos h,if_pos h]
    ·rw [if_neg h,if_neg h]
   have hsg:=af4 s p hp hs;have hsb:nM s p=0∨nM s p=1∨(nM s p=2∧p+1<s.length):=by
    unfold nM;split
    ·rename_i h;exact .inr (.inr ⟨rfl,h.1⟩)
    ·split
     ·exact .inr (.inl rfl)
     ·exact .inl rfl
   have hwT:(s.drop p).take (nM s p).toNat=(s.take (p+nM s p).toNat).drop p:=by
    rw [List.drop_take];congr 1
    omega
   rw [hr];conv=>whnf
   refine cO (fun _=>hsg) (cW ?_);refine ⟨fun hz=>?_,fun hz=>?_⟩
   ·have hz:=of_decide_eq_true hz;rw [if_pos hz];conv=>whnf
    rfl
   ·have hz:=of_decide_eq_false hz;rw [if_neg hz,hwT];conv=>whnf
    refine iO (cW ?_);refine iO (cW ?_);rfl
theorem Yn {s:List UInt8} {p:Nat} (hp:p<s.length) (h:Dw ((s.getD p 0).toNat:Int)=true):fA s p=fA s (p+1):=by
 unfold fA dQ;rw [CO hp,List.takeWhile_cons,if_pos h,List.length_cons];omega
theorem PE {s:List UInt8} {p:Nat} (hp:p<s.length) (h:Dw ((s.getD p 0).toNat:Int)=false):fA s p=p:=by
 unfold fA dQ;rw [CO hp,List.takeWhile_cons,if_neg (by rw [h];simp)];rfl
theorem abZ (s:List UInt8):fA s s.length=s.length:=by
 unfold fA dQ;rw [List.drop_length];rfl
theorem ZT {s:List UInt8} {f p q:Nat} {l:List Tok} (h:fA s p=fA s q):oh s (f+1) p l=oh s (f+1) q l:=by
 unfold oh;rw [h]
theorem ajs (s:List UInt8) (hs:s.length≤9223372036854775807):bM Tryz.prog 186 [.str s] (fun rs=>rs=Nl (jr s)):=by
 cases h4:decide (4000<s.length) with
 | true =>
  have h4':=of_decide_eq_true h4;have hr:jr s=.error (0,6):=by unfold jr;rw [if_pos h4']
  rw [hr];refine aW (au 47 [0,2,3,4,5,6,7,8,11,15,19,29]) Tryz.func186 ?_;exact adY
 | false =>
  have h4':=of_decide_eq_false h4;have hr:jr s=oh s (s.length+1) 0 []:=by unfold jr;rw [if_neg h4']
  refine aW (au 47 [0,2,3,4,5,6,7,8,11,15,19,29]) Tryz.func186 ?_;conv=>whnf
  rw [decide_eq_false (show ¬ (4000:Int)<((s.length:Nat):Int) by omega)];refine gF (cW ?_);refine dO (au _ _) (fun x:Nat×(Nat×List Tok)=>x.2.1≤s.length∧s.length<x.2.1+(x.1+1)∧x.2.2.length≤x.2.1∧jr s=oh s (x.1+1) x.2.1 x.2.2) (fun x=>s.length-x.2.1) (fun x=>⟨[(0,.str s),(5,.own 0),(6,.int .i64 ((x.2.1):Nat))],[(0,.row 198 4 yQ t0 (x.2.2))],1⟩) (s.length,(0,[])) ⟨by show 0≤_;omega,by show _<0+(_+1);omega,by simp,hr⟩ ((aj [(0,.nil)] rfl ⟨ah,kX,ah,trivial⟩ ⟨⟨_,rfl,jA⟩,trivial⟩)) ?_;rintro ⟨f,p,l⟩ ⟨hp,hpf,hl,hsp⟩;dsimp only at hp hpf hl hsp ⊢;have hek:((p:Nat):Int).toNat=p:=Int.toNat_natCast p;conv=>whnf
  refine ⟨fun hd=>?_,fun hd=>?_⟩
  ·have hd:=of_decide_eq_true hd;have hlt:p<s.length:=by omega
   conv=>whnf
   refine iO (cW ?_);rw [hek];conv=>whnf
   refine cO (fun _=>aas ((s.getD p 0).toNat:Int)) (cW ?_);refine ⟨fun hb=>?_,fun hb=>?_⟩
   ·conv=>whnf
    refine iO (cW ?_);exact ⟨(f,(p+1,l)),⟨hlt,by show s.length<p+1+(f+1);omega,by show l.length≤p+1;omega,by rw [hsp];exact ZT (Yn hlt hb)⟩,(by show s.length-(p+1)<s.length-p;omega),(aj [(0,.id 0)] rfl ⟨ah,kX,ah,trivial⟩ ⟨⟨_,rfl,jA⟩,trivial⟩)⟩
   ·have htk:=abW s p hlt (by omega);conv=>whnf
    cases hN:nextR (s.drop p) with
    | error e =>
     have hs':jr s=.error ((p:Nat),e):=by rw [hsp,oh,PE hlt hb,if_neg (by omega),hN]
     have hen:=JH hN;rw [hN] at htk;rw [hs'];unfold tokA at htk;refine cO (fun _=>htk) ?_;exact adA
    | ok t =>
     have hne:s.drop p≠[]:=fun h=>by
      exact SL
     obtain ⟨ht1,htp⟩:=EH hne hN;have htl:=htp.length_le;rw [List.length_drop] at htl;have hs':jr s=oh s f (p+t.text.length) (l++[⟨t.kind,t.text,t.n,(p:Nat)⟩]):=by rw [hsp,oh,PE hlt hb,if_neg (by omega),hN]
     obtain ⟨f,rfl⟩:∃ g,f=g+1:=⟨f-1,by omega⟩;rw [hN] at htk;unfold tokA at htk;refine cO (fun _=>htk) (cW ?_);refine gF (cW ?_);refine And.intro rfl (cW ?_);refine And.intro ⟨rfl,rfl⟩ (And.intro ac7 (cW ?_));refine Exists.intro ⟨t.kind,t.text,t.n,(p:Nat)⟩ (And.intro rfl (cW ?_));refine And.intro (show -9223372036854775808≤(p:Int)+(t.text.length:Nat)∧(p:Int)+(t.text.length:Nat)≤9223372036854775807 by omega) (cW ?_);exact ⟨(f,(p+t.text.length,l++[⟨t.kind,t.text,t.n,(p:Nat)⟩])),⟨(by show p+t.text.length≤s.length;omega),(by show s.length<p+t.text.length+(f+1);omega),(by show (l++[_]).length≤p+t.text.length;rw [List.length_append];show l.length+1≤_;omega),hs'⟩,(by show s.length-(p+t.text.length)<s.length-p;omega),(aj [(0,.id 3)] rfl ⟨ah,kX,ah,trivial⟩ ⟨⟨_,rfl,jA⟩,trivial⟩)⟩
  ·have hd:=of_decide_eq_false hd;obtain rfl:p=s.length:=by omega
   have hs':jr s=.ok (l++[⟨3,[],0,(s.length:Nat)⟩]):=by rw [hsp,oh,if_pos (abZ s)]
   rw [hs'];exact ah9
theorem agp {s:List UInt8}:∀ (f p:Nat) (l T:List Tok),(∀ t∈l,t.kind≠3)→s.length<p+f→p≤s.length→oh s f p l=.ok T→∀ t∈T,t.kind=3→t.text=[]:=by
 intro f;induction f with
 | zero=>intro p l T _ h1 h2;omega
 | succ f ih =>
  intro p l T hl h1 h2 h;unfold oh at h;split at h
  ·cases h;intro t ht hk;rcases List.mem_append.1 ht with ht | ht
   ·exact (hl t ht hk).elim
   ·have:t=_:=List.mem_singleton.1 ht;subst this;rfl
  ·rename_i hne';split at h
   ·cases h
   ·rename_i t hN;have hq:fA s p≤s.length:=by
     exact aej
    have hqp:p≤fA s p:=by unfold fA;omega
    have hne:s.drop (fA s p)≠[]:=fun h=>by
     exact SL
    obtain ⟨t1,t2⟩:=EH hne hN;have t3:=t2.length_le;rw [List.length_drop] at t3;refine ih _ _ T (fun x hx=>?_) aI aI h;rcases List.mem_append.1 hx with hx | hx
    ·exact hl x hx
    ·have:x=_:=List.mem_singleton.1 hx;subst this;exact (SN hN).1
theorem U9 {s:List UInt8} {T:List Tok} (h:jr s=.ok T):SSt T (sN T):=by
 refine ⟨Vj h,(fun e he=>by cases he),?_⟩;unfold jr at h;split at h
 ·cases h
 ·exact agp _ _ _ _ (fun t ht=>by cases ht) aI aI h
theorem aiK (T:List Tok):Um T (sN T)=.cells 212 [Gx T,.int .i64 0,.int .i64 0,.int .i64 0]:=by
 show AB.cells 212 [Gx T,.int .i64 ((T.length-T.length:Nat):Int),.int .i64 0,.int .i64 0]=_;rw [Nat.sub_self];rfl
theorem agE {p:Prop}(h:p:=by
 refine ⟨⟨[(2,.ptr 0 0),(3,.int .i64 e.1),(4,.int .i64 e.2)],[(0,.cells 56 (su i0))],1⟩,(aj [(0,.id 0)] rfl ⟨aQ,ah,ah,trivial⟩ ⟨⟨_,rfl,.cells _ _ _ _ rfl aa4 rfl⟩,trivial⟩),(cW ?_)⟩;rfl):p:=h
theorem aaq (s:List UInt8) (hs:s.length≤9223372036854775807):bM Tryz.prog 148 [.str s] (fun rs=>rs=MR (iK s)):=by
 have hl:=ajs s hs;cases e1:jr s with
 | error e =>
  have hp:iK s=.error e:=by unfold iK;rw [e1]
  have hne:=N9 e1;rw [hp];rw [e1] at hl;unfold Nl at hl;refine aW (au 41 [0,2,3,4,5,6,7,8,9,17,30]) Tryz.func148 ?_;conv=>whnf
  refine cO (fun _=>hl) (cW ?_);rw [decide_eq_false hne];refine gT (cW ?_);exact agE
 | ok T =>
  have hst:=U9 e1;have hk:=aiV hst;have ha:=YZ hst.st.fin;have hss:=Y_ (sN T);rw [e1] at hl;unfold Nl at hl;unfold KX at hk;rw [aiK] at hk;cases e2:bP T with
  | error e =>
   have hp:iK s=.error e:=by unfold iK;rw [e1];dsimp only;rw [e2]
   rw [hp];rw [e2] at ha;have he:(zU (sN T)).2.er=some e:=ha;have hx:decide (sD (zU (sN T)).2=0)=false:=decide_eq_false (by unfold sD;rw [he];exact hss.ok hst.ok e he);have h1:abJ (zU (sN T)).2=e.1:=by unfold abJ;rw [he]
   have h2:sD (zU (sN T)).2=e.2:=by unfold sD;rw [he]
   refine aW (au 41 [0,2,3,4,5,6,7,8,9,17,30]) Tryz.func148 ?_;conv=>whnf
   refine cO (fun _=>hl) (cW ?_);refine gF (cW ?_);refine cR (hk) [1] (cW ?_);rw [hx];refine gT (cW ?_);refine .eff ad0 (cW ?_);refine ⟨by kernel_rfl,(cW (cW ?_))⟩;rw [h1,h2];exact agE
  | ok v =>
   obtain ⟨x,r⟩:=v;have hp:iK s=.ok x:=by unfold iK;rw [e1];dsimp only;rw [e2]
   rw [hp];have hv:=d_ ha e2;rw [hv] at hk;refine aW (au 41 [0,2,3,4,5,6,7,8,9,17,30]) Tryz.func148 ?_;conv=>whnf
   refine cO (fun _=>hl) (cW ?_);refine gF (cW ?_);refine cR (hk) [1] (cW ?_);rw [oJ (show (sN r).er=none from rfl)];refine gF (cW ?_);refine ⟨⟨[(2,.ptr 0 0),(3,.int .i64 0),(4,.int .i64 0)],[(0,.cells 56 (su x))],1⟩,(aj [(0,.id 0)] rfl ⟨aQ,ah,ah,trivial⟩ ⟨aB,trivial⟩),(cW ?_)⟩;rfl
theorem Un {s:List UInt8} {e:Er} (h:iK s=.error e):e.2≠0:=by
 cases e1:jr s with
 | error er =>
  have hp:iK s=.error er:=by unfold iK;rw [e1]
  rw [hp] at h;cases h;exact N9 e1
 | ok T =>
  have hst:=U9 e1;have ha:=YZ hst.st.fin;have hse:=Y_ (sN T);cases e2:bP T with
  | ok v =>
   obtain ⟨x,r⟩:=v;have hp:iK s=.ok x:=by unfold iK;rw [e1];dsimp only;rw [e2]
   rw [hp] at h;cases h
  | error er =>
   have hp:iK s=.error er:=by unfold iK;rw [e1];dsimp only;rw [e2]
   rw [hp] at h;cases h;rw [e2] at ha;exact hse.ok hst.ok e ha
theorem acH (s:List UInt8) (hs:s.length≤9223372036854775807):bM Tryz.prog 23 [.str s] (fun rs=>rs=MR (iK s)):=by
 cases h:jr s with
 | error e =>
  have hp:iK s=.error e:=by unfold iK;rw [h]
  rw [hp];exact YK s hs h
 | ok T=>exact aaK s hs h
theorem aaz (s:List UInt8) (hs:s.length≤9223372036854775807):∃ x p e,bM Tryz.prog 23 [.str s] (fun rs=>rs=[.val (N8 x),.val (.int .i64 p),.val (.int .i64 e)])∧decide (e=0)=wP s:=by
 have h:=acH s hs;unfold wP;cases hp:iK s with
 | ok x=>rw [hp] at h;exact ⟨x,0,0,h,rfl⟩
 | error e=>rw [hp] at h;exact ⟨i0,e.1,e.2,h,decide_eq_false (Un hp)⟩
theorem Ih {k:Nat} {n:Int} {m:Nat} (h:n=m):decide ((k:Int)≤n)=decide (k≤m):=decide_eq_decide.2 (by omega)
theorem aga (lines seats:Int) (h1:0≤lines∧lines≤9223372036854775807) (hs:0≤seats∧seats≤9223372036854775807) (p:Pro) (hu:p.units.length≤9223372036854775807) (hv:p.votes.length≤9223372036854775807):ak Tryz.prog 63 [eF p,.rop [.int .i64 seats],.rop [Ub],.rop [.int .i64 lines],.rop [unV seats]] (.bool (qK lines seats p)):=by
 have g1:=nT 0 (lines-1) p.issue;have g2:=AQ p.day;have g3:=F6 seats p.units hu;have g4:=afF p.votes seats (t_ seats) (fun v _=>abE seats hs v) hv;refine aO (au 45 [0,1,2,3,4,5,6,7]) Tryz.func63 ?_;conv=>whnf
 refine iO (cW ?_);refine cO (fun _=>g1) (cW ?_);refine cO (fun _=>g2) (cW ?_);refine cO (fun _=>g3) (cW ?_);refine .one _ _ _ (fun _=>g4) BI uU uO (cW ?_);show [AR.val (AV.bool _)]=_;rw [Ih (k:=p.text.length) (n:=4000) (m:=4000) rfl,Ih (k:=p.votes.length) (n:=2000) (m:=2000) rfl];rfl
theorem ahm {p:Prop}(h:p:=by
 conv=>whnf
 refine .one _ _ _ (fun _=>g7) BI uU uO (cW ?_);show [AR.val (AV.bool _)]=_;rw [Ih (k:=stages.length) (n:=500) (m:=500) rfl,hpe];simp [mJ,e1,e4]):p:=h
theorem aic {p:Prop}(h:p:=by
 conv=>whnf
 refine .one _ _ _ (fun _=>g7) BI uU uO (cW ?_);show [AR.val (AV.bool _)]=_;rw [Ih (k:=stages.length) (n:=500) (m:=500) rfl,hpe];simp [mJ,e1,e3,e4]):p:=h
theorem ahz {p:Prop}(h:p:=by
 conv=>whnf
 refine cO (fun _=>g4) (cW ?_);refine nD (cW ?_);refine cF [.int .i64 0,.int .i64 10000,.undef] [.val (.bool false)] (cW ?_);refine cF [.int .i64 since] [.val (.bool false)] ?_;exact ahm):p:=h
theorem ahP {p:Prop}(h:p:=by
 conv=>whnf
 refine cO (fun _=>g4) (cW ?_);refine nD (cW ?_);refine cF [.int .i64 0,.int .i64 10000,.undef] [.val (.bool false)] (cW ?_);refine cF [.int .i64 since] [.val (.bool false)] ?_;exact aic):p:=h
theorem adI {p:Prop}(h:p:=by
 conv=>whnf
 refine cO (fun _=>g4) (cW ?_);refine nE (cW ?_);refine cO (fun _=>g5) (cW ?_);refine cO (fun _=>g6) ?_;exact ahm):p:=h
theorem ae9 {p:Prop}(h:p:=by
 conv=>whnf
 refine cO (fun _=>g4) (cW ?_);refine nE (cW ?_);refine cO (fun _=>g5) (cW ?_);refine cO (fun _=>g6) ?_;exact aic):p:=h
theorem ab4 (seats:Int) (x:Lin) (ht:x.text.length≤9223372036854775807) (hu:x.units.length≤9223372036854775807) (hn:x.noted.length≤9223372036854775807) (hv:x.stages.length≤9223372036854775807):ak Tryz.prog 59 [dW x,.rop [Ub],.rop [unV seats]] (.bool (mJ seats x)):=by
 obtain ⟨text,units,noted,notedAt,stages,fast,called,price,ended,since⟩:=x;simp only at ht hu hn hv;obtain ⟨px,pp,pe,gp,hpe⟩:=aaz text ht;have g1:=F6 seats units hu;have g2:=F6 seats noted hn;have g3:=nT (-1) 5000 notedAt;have g4:=afO (-1) 200000 fast called;have g5:=nT 0 10000 price;have g6:=AQ since;have g7:=afS stages pY (fun b _=>aac b) hv;cases e1:jk seats units with
 | false =>
  rw [e1] at g1;cases e4:inB (-1) 200000 [fast,called] with
  | false =>
   rw [e4] at g4;refine aO (au 79 [0,1,2,3,4,7,8,9,10]) Tryz.func59 ?_;conv=>whnf
   refine cO (fun _=>gp) (cW ?_);refine cO (fun _=>g1) (cW ?_);refine cF [.sl 1 encI 0 noted,.rop [.int .i64 seats]] [.val (.bool false)] (cW ?_);refine gF (cW ?_);refine cF [.int .i64 (-1),.int .i64 5000,.undef] [.val (.bool false)] ?_;exact ahz
  | true =>
   rw [e4] at g4;refine aO (au 79 [0,1,2,3,4,7,8,9,10]) Tryz.func59 ?_;conv=>whnf
   refine cO (fun _=>gp) (cW ?_);refine cO (fun _=>g1) (cW ?_);refine cF [.sl 1 encI 0 noted,.rop [.int .i64 seats]] [.val (.bool false)] (cW ?_);refine gF (cW ?_);refine cF [.int .i64 (-1),.int .i64 5000,.undef] [.val (.bool false)] ?_;exact adI
 | true =>
  rw [e1] at g1;cases noted with
  | nil =>
   cases e4:inB (-1) 200000 [fast,called] with
   | false =>
    rw [e4] at g4;refine aO (au 79 [0,1,2,3,4,7,8,9,10]) Tryz.func59 ?_;conv=>whnf
    refine cO (fun _=>gp) (cW ?_);refine cO (fun _=>g1) (cW ?_);refine cF [.sl 1 encI 0 [],.rop [.int .i64 seats]] [.val (.bool false)] (cW ?_);refine gT (cW ?_);refine cO (fun _=>g3) ?_;exact ahz
   | true =>
    rw [e4] at g4;refine aO (au 79 [0,1,2,3,4,7,8,9,10]) Tryz.func59 ?_;conv=>whnf
    refine cO (fun _=>gp) (cW ?_);refine cO (fun _=>g1) (cW ?_);refine cF [.sl 1 encI 0 [],.rop [.int .i64 seats]] [.val (.bool false)] (cW ?_);refine gT (cW ?_);refine cO (fun _=>g3) ?_;exact adI
  | cons n t =>
   have hz:decide (((n::t).length:Int)=0)=false:=decide_eq_false (by simp only [List.length_cons];omega);cases e3:jk seats (n::t) with
   | false =>
    rw [e3] at g2;cases e4:inB (-1) 200000 [fast,called] with
    | false =>
     rw [e4] at g4;refine aO (au 79 [0,1,2,3,4,7,8,9,10]) Tryz.func59 ?_;conv=>whnf
     refine cO (fun _=>gp) (cW ?_);refine cO (fun _=>g1) (cW ?_);refine cO (fun _=>g2) (cW ?_);refine gF (cW ?_);refine cF [.int .i64 (-1),.int .i64 5000,.undef] [.val (.bool false)] ?_;exact ahP
    | true =>
     rw [e4] at g4;refine aO (au 79 [0,1,2,3,4,7,8,9,10]) Tryz.func59 ?_;conv=>whnf
     refine cO (fun _=>gp) (cW ?_);refine cO (fun _=>g1) (cW ?_);refine cO (fun _=>g2) (cW ?_);refine gF (cW ?_);refine cF [.int .i64 (-1),.int .i64 5000,.undef] [.val (.bool false)] ?_;exact ae9
   | true =>
    rw [e3] at g2;cases e4:inB (-1) 200000 [fast,called] with
    | false =>
     rw [e4] at g4;refine aO (au 79 [0,1,2,3,4,7,8,9,10]) Tryz.func59 ?_;conv=>whnf
     refine cO (fun _=>gp) (cW ?_);refine cO (fun _=>g1) (cW ?_);refine cO (fun _=>g2) (cW ?_);refine gT (cW ?_);refine cO (fun _=>g3) ?_;exact ahP
    | true =>
     rw [e4] at g4;refine aO (au 79 [0,1,2,3,4,7,8,9,10]) Tryz.func59 ?_;conv=>whnf
     refine cO (fun _=>gp) (cW ?_);refine cO (fun _=>g1) (cW ?_);refine cO (fun _=>g2) (cW ?_);refine gT (cW ?_);refine cO (fun _=>g3) ?_;exact ae9
theorem WB (f:Fac) (hn:f.name.length≤9223372036854775807):ak Tryz.prog 115 [eG f] (.bool (j_ f)):=by
 have h:=VB f.name hn;refine aO (au 47 [0,1,2,3,4]) Tryz.func115 ?_;conv=>whnf
 refine .quiet bZ (cW ?_);refine cO (fun _=>h) (cW ?_);rfl
theorem aex {p:Prop}(h:p:=by
 have hd:=of_decide_eq_false hd;obtain rfl:k=l.length:=by omega
 rw [List.drop_length,mF] at hP;rw [← hP];conv=>whnf
 rfl):p:=h
theorem ad5 {p:Prop}(h:p:=by
 have hc:=of_decide_eq_true hc;rw [decide_eq_false (show ¬ l.length≤10000 by omega)];conv=>whnf
 rfl):p:=h
theorem aae (l:List Fac) (hl:l.length≤9223372036854775807) (hn:∀ f∈l,f.name.length≤9223372036854775807):ak Tryz.prog 22 [.sl 5 eG fa0 l] (.bool (qy l)):=by
 unfold qy;refine aO (au 27 [0,2,3,5,8,9,10,11,12,23]) Tryz.func22 ?_;conv=>whnf
 refine ⟨fun hc=>?_,fun hc=>?_⟩
 ·exact ad5
 have hc:=of_decide_eq_false hc;rw [decide_eq_true (show l.length≤10000 by omega)];conv=>whnf
 refine dO (au _ _) (σ:=Nat×Int) (fun s=>s.1≤l.length∧mF s.2 (l.drop s.1)=mF 0 l) (fun s=>l.length-s.1) (fun s=>⟨[(0,.sl 5 eG fa0 l),(2,.bool false),(3,.int .i64 (s.2)),(8,.bool false),(9,.sl 5 eG fa0 l),(10,.int .i64 (l.length:Nat)),(11,.int .i64 ((s.1):Nat))],[],0⟩) (0,0) ⟨Nat.zero_le _,rfl⟩ ?_ ?_
 ·rw [show decide (10000<(l.length:Int))=false from decide_eq_false hc];exact (aj [] rfl ⟨ah,ah,ah,ah,ah,ah,ah,trivial⟩ trivial)
 rintro ⟨k,d⟩ ⟨hk,hP⟩;simp only at hk hP;show fQ _ _ (⟨[(0,.sl 5 eG fa0 l),(2,.bool false),(3,.int .i64 d),(8,.bool false),(9,.sl 5 eG fa0 l),(10,.int .i64 (l.length:Nat)),(11,.int .i64 (k:Nat))],[],0⟩) _;conv=>whnf
 refine ⟨fun hd=>?_,fun hd=>?_⟩
 ·have hd:=of_decide_eq_true hd;have hlt:k<l.length:=by omega
  have hek:(k:Int).toNat=k:=Int.toNat_natCast k;have hf:=WB _ (hn _ (getD_mem (d:=fa0) hlt));rw [Aa fa0 hlt,mF] at hP;conv=>whnf
  refine iO (cW ?_);refine And.intro rfl (cW ?_);rw [hek];generalize l.getD k fa0=f at *;conv=>whnf
  refine cO (fun _=>hf) (cW ?_);refine ⟨fun he=>?_,fun he=>?_⟩
  ·rw [← hP];conv=>whnf
   show [AR.val (AV.bool false)]=_;by_cases hb:j_ f=true
   ·rw [hb] at he;have h3:¬ d≤f.day:=by have:=of_decide_eq_true (by simpa using he:decide (f.day<d)=true);omega
    rw [decide_eq_false h3];simp
   ·rw [Bool.not_eq_true] at hb;rw [hb];simp
  ·simp only [Bool.or_eq_false_iff,Bool.not_eq_false',decide_eq_false_iff_not] at he;conv=>whnf
   refine iO (cW ?_);refine ⟨(k+1,f.day),⟨hlt,?_⟩,by show l.length-(k+1)<l.length-k;omega,(aj [] rfl ⟨ah,ah,ah,ah,ah,ah,ah,trivial⟩ trivial)⟩;rw [he.1,decide_eq_true (show d≤f.day by omega)] at hP;simpa using hP
 ·exact aex
structure OkS (s:Sta):Prop where
 cash:s.cash.length≤9223372036854775807
 purses:s.purses.length≤9223372036854775807
 lines:s.lines.length≤9223372036854775807
 facts:s.facts.length≤9223372036854775807
 payments:s.payments.length≤9223372036854775807
 proposals:s.proposals.length≤9223372036854775807
 line:∀ x∈s.lines,x.text.length≤9223372036854775807∧x.units.length≤9223372036854775807∧x.noted.length≤9223372036854775807∧x.stages.length≤9223372036854775807
 fact:∀ x∈s.facts,x.name.length≤9223372036854775807
 proposal:∀ x∈s.proposals,x.text.length≤9223372036854775807∧x.units.length≤9223372036854775807∧x.votes.length≤9223372036854775807
theorem abx {p:Prop}(h:p:=by
 refine gF (cW ?_);refine cF [.int .i64 (-1000000000000000000),.int .i64 1000000000000000000,.undef] [.val (.bool false)] (cW ?_);refine ⟨fun z=>?_,fun z=>?_⟩
 ·conv=>whnf
  rfl
 ·simp at z):p:=h
theorem EG (s:Sta) (o:OkS s):ak Tryz.prog 13 [mW s] (.bool (fM s)):=by
 have hM:gX=1000000000000000000:=rfl;have ol:0≤(s.lines.length:Int)∧(s.lines.length:Int)≤9223372036854775807:=⟨by omega,by have:=o.lines;omega⟩;have os:0≤(s.purses.length:Int)∧(s.purses.length:Int)≤9223372036854775807:=⟨by omega,by have:=o.purses;omega⟩;have hc:=o.cash;have hp:=o.purses;have hl:=o.lines;have hf:=o.facts;have hy:=o.payments;have hq:=o.proposals;have g1:=U8 [s.cash,s.purses] (by simp) (fun l hl=>by
  rcases List.mem_cons.1 hl with rfl | hl
  ·exact o.cash
  ·rw [List.mem_singleton.1 hl];exact o.purses)
 rw [OW] at g1;have g2:=AQ s.day;have g3:=nT (-1000000000000000000) 1000000000000000000 s.outside;have g4:=aae s.facts o.facts o.fact;have g5:=ac2 s.lines s.purses.length (mJ s.purses.length) (fun x hx=>ab4 s.purses.length x (o.line x hx).1 (o.line x hx).2.1 (o.line x hx).2.2.1 (o.line x hx).2.2.2) o.lines;have g6:=afZ s.payments s.lines.length s.purses.length (jE s.lines.length s.purses.length) (fun x _=>afR s.lines.length s.purses.length ol os x) o.payments;have g7:=agq s.proposals s.lines.length s.purses.length (qK s.lines.length s.purses.length) (fun x hx=>aga s.lines.length s.purses.length ol os x (o.proposal x hx).2.1 (o.proposal x hx).2.2) o.proposals;cases e1:xU s with
 | none =>
  rw [e1] at g1;rw [show fM s=false by simp [fM,e1]];refine aO (au 93 [0,1,2,3,4,5,6,8,9,10,11,53,73]) Tryz.func13 ?_;conv=>whnf
  refine .eff ad0 (cW ?_);refine And.intro rfl (cW ?_);refine cO (fun _=>g1) (cW ?_);refine cF [.int .i64 s.day] [.val (.bool false)] (cW ?_);exact abx
 | some v =>
  rw [e1] at g1;cases e2:kJ s.day with
  | false =>
   rw [e2] at g2;rw [show fM s=false by simp [fM,e1,e2]];refine aO (au 93 [0,1,2,3,4,5,6,8,9,10,11,53,73]) Tryz.func13 ?_;conv=>whnf
   refine .eff ad0 (cW ?_);refine And.intro rfl (cW ?_);refine cO (fun _=>g1) (cW ?_);refine cO (fun _=>g2) (cW ?_);exact abx
  | true =>
   rw [e2] at g2;by_cases e3:s.cash.length≤60
   case neg =>
    have k3:decide (60<(s.cash.length:Int))=true:=decide_eq_true (by omega);rw [show fM s=false by simp [fM,e1,e2,e3]];refine aO (au 93 [0,1,2,3,4,5,6,8,9,10,11,53,73]) Tryz.func13 ?_;conv=>whnf
    refine .eff ad0 (cW ?_);refine And.intro rfl (cW ?_);refine cO (fun _=>g1) (cW ?_);refine cO (fun _=>g2) (cW ?_);rw [k3];exact abx
   have k3:decide (60<(s.cash.length:Int))=false:=decide_eq_false (by omega);by_cases e4:s.purses.length≤20000
   case neg =>
    have k4:decide (20000<(s.purses.length:Int))=true:=decide_eq_true (by omega);rw [show fM s=false by simp [fM,e1,e2,e3,e4]];refine aO (au 93 [0,1,2,3,4,5,6,8,9,10,11,53,73]) Tryz.func13 ?_;conv=>whnf
    refine .eff ad0 (cW ?_);refine And.intro rfl (cW ?_);refine cO (fun _=>g1) (cW ?_);refine cO (fun _=>g2) (cW ?_);rw [k3,k4];refine gF (cW ?_);refine cF [.int .i64 (-1000000000000000000),.int .i64 1000000000000000000,.undef] [.val (.bool false)] (cW ?_);refine nE (cW ?_);rfl
   have k4:decide (20000<(s.purses.length:Int))=false:=decide_eq_false (by omega);refine aO (au 93 [0,1,2,3,4,5,6,8,9,10,11,53,73]) Tryz.func13 ?_;conv=>whnf
   refine .eff ad0 (cW ?_);refine And.intro rfl (cW ?_);refine cO (fun _=>g1) (cW ?_);refine cO (fun _=>g2) (cW ?_);rw [k3,k4];refine gT (cW ?_);refine cO (fun _=>g3) (cW ?_);cases e5:inB (-1000000000000000000) 1000000000000000000 [s.outside]
   ·refine ⟨fun z=>?_,fun z=>?_⟩
    ·conv=>whnf
     rw [show fM s=false by simp [fM,hM,e1,e2,e3,e4,e5]];rfl
    ·simp at z
   ·refine ⟨fun z=>?_,fun z=>?_⟩
    ·simp at z
    conv=>whnf
    refine cO (fun _=>g4) (cW ?_);refine ⟨fun y=>?_,fun y=>?_⟩
    ·conv=>whnf
     have hr:fM s=false:=by
      simp only [Bool.or_eq_true,decide_eq_true_eq,Bool.not_eq_true'] at y;unfold fM;rcases y with ((y | y) | y) | y
      ·rw [decide_eq_false (show ¬ s.lines.length≤400 by omega)];simp
      ·rw [decide_eq_false (show ¬ s.payments.length≤100000 by omega)];simp
      ·rw [decide_eq_false (show ¬ s.proposals.length≤10000 by omega)];simp
      ·rw [y];simp
     rw [hr];rfl
    simp only [Bool.or_eq_false_iff,decide_eq_false_iff_not,Bool.not_eq_false'] at y;obtain ⟨⟨⟨y1,y2⟩,y3⟩,y4⟩:=y;conv=>whnf
    refine .one _ _ _ (fun _=>g5) (.cons (lS rfl) (.cons (.fn _ _ _ _ _ _ _ .nil (.cons (.box _ _ _ _ _ _ rfl (.cons (.base (.same _ rfl)) .nil) LD) (.cons (.box _ _ _ _ _ _ rfl (.cons (.fn _ _ _ _ _ _ _ .nil (.cons (.boxt _ _ _ rfl rfl rfl) .nil)) .nil) LD) .nil))) .nil)) (.inr fun r hr=>Tn) uO (cW ?_);refine .one _ _ _ (fun _=>g6) (.cons (lS rfl) (.cons (.fn _ _ _ _ _ _ _ .nil (.cons (.box _ _ _ _ _ _ rfl (.cons (.base (.same _ rfl)) .nil) LD) (.cons (.box _ _ _ _ _ _ rfl (.cons (.base (.same _ rfl)) .nil) LD) (.cons (.box _ _ _ _ _ _ rfl (.cons (.base (.same _ rfl)) .nil) LD) .nil)))) .nil)) (.inr fun r hr=>Tn) uO (cW ?_);refine .one _ _ _ (fun _=>g7) (.cons (lS rfl) (.cons (.fn _ _ _ _ _ _ _ .nil (.cons (.box _ _ _ _ _ _ rfl (.cons (.base (.same _ rfl)) .nil) LD) (.cons (.box _ _ _ _ _ _ rfl (.cons (.base (.same _ rfl)) .nil) LD) (.cons (.box _ _ _ _ _ _ rfl (.cons (.base (.same _ rfl)) .nil) LD) (.cons (.box _ _ _ _ _ _ rfl (.cons (.fn _ _ _ _ _ _ _ .nil (.cons (.boxt _ _ _ rfl rfl rfl) .nil)) .nil) LD) .nil))))) .nil)) (.inr fun r hr=>Tn) uO (cW ?_);show [AR.val (AV.bool _)]=_;have he:(s.lines.all (mJ s.purses.length)&&s.payments.all (jE s.lines.length s.purses.length)&&s.proposals.all (qK s.lines.length s.purses.length))=fM s:=by
     unfold fM;rw [e1,e2,decide_eq_true e3,decide_eq_true e4,hM,e5,decide_eq_true (show s.lines.length≤400 by omega),decide_eq_true (show s.payments.length≤100000 by omega),decide_eq_true (show s.proposals.length≤10000 by omega),y4];simp
    rw [← he]
theorem JR (b:Bool):ak Tryz.prog 83 [.bool b] (.int .i64 (jy b)):=by
 refine aO (au 4 [0,2,3]) Tryz.func83 ?_;conv=>whnf
 refine ⟨fun h=>?_,fun h=>?_⟩
 ·conv=>whnf
  rw [h];rfl
 ·conv=>whnf
  rw [h];rfl
def dB {T:Type} (f:T→List UInt8) (l:List T) (k:Nat):List UInt8:=dK l.length++(l.take k).flatMap f
theorem RH {T:Type} {l:List T} {k:Nat} (d:T) (h:k<l.length):l.take (k+1)=l.take k++[l.getD k d]:=by
 exact adC
theorem qY {T:Type} {f:T→List UInt8} {l:List T} {k:Nat} {d:T} (h:k<l.length):dB f l (k+1)=dB f l k++f (l.getD k d):=by
 unfold dB;rw [RH d h,List.flatMap_append,List.append_assoc];simp
theorem gq {T:Type} {f:T→List UInt8} {l:List T} (k:Nat):(dB f l k).length≤(fO f l).length:=by
 unfold dB fO;rw [List.length_append,List.length_append];have:(l.flatMap f)=(l.take k).flatMap f++(l.drop k).flatMap f:=by rw [← List.flatMap_append,List.take_append_drop]
 rw [this,List.length_append];omega
theorem vY {T:Type} (f:T→List UInt8) (l:List T) (k:Nat):dB f l k≠[]:=by
 unfold dB;intro h;exact yD aI (List.append_eq_nil_iff.1 h).1
theorem ZK {T:Type} (f:T→List UInt8) (l:List T):dB f l l.length=fO f l:=by unfold dB fO;rw [List.take_length]
theorem mX {T:Type} (f:T→List UInt8) (l:List T):dB f l 0=dK l.length:=by unfold dB;simp
theorem KD {l:List Int} {k:Nat} (h:k<l.length):bn (l.take (k+1))=bn (l.take k)++dK (l.getD k 0):=by
 unfold bn;rw [RH 0 h,List.flatMap_append];simp
theorem Gp {l:List Int} (k:Nat):(bn (l.take k)).length≤(bn l).length:=by
 have:bn l=bn (l.take k)++bn (l.drop k):=by
  unfold bn;rw [← List.flatMap_append,List.take_append_drop]
 rw [this,List.length_append];omega
theorem agQ (l:List Int) (hne:l≠[]) (hl:∀ n∈l,0≤n∧dG n) (hn:l.length≤1000000000) (hT:(bn l).length≤140737488355328):ak Tryz.prog 79 [.sl 1 encI 0 l] (.str (bn l)):=by
 have hl0:0<l.length:=List.length_pos_iff.2 hne;refine aO (au 17 [0,2,3,5,6,7,8,9]) Tryz.func79 ?_;conv=>whnf
 refine dO (au _ _) (σ:=Nat) (fun k=>k≤l.length) (fun k=>l.length-k) (fun k=>match k with | 0=>⟨[(0,.sl 1 encI 0 l),(3,.ptr 0 0),(6,.sl 1 encI 0 l),(7,.int .i64 l.length),(8,.int .i64 0)],[(0,.cells 173 [.nilp,.nils])],1⟩ | k+1=>⟨[(0,.sl 1 encI 0 l),(3,.ptr 0 0),(6,.sl 1 encI 0 l),(7,.int .i64 l.length),(8,.int .i64 ((k+1):Nat))],[(0,.cells 173 [.ptr 0 0,.own 1]),(1,.lst 5 1 (aY (bn (l.take (k+1)))))],2⟩) 0 (Nat.zero_le _) ((aj [(0,.id 0)] rfl ⟨ah,aQ,ah,ah,ah,trivial⟩ ⟨aB,trivial⟩)) ?_;intro k hk;cases k with
 | zero =>
  show fQ _ _ (⟨[(0,.sl 1 encI 0 l),(3,.ptr 0 0),(6,.sl 1 encI 0 l),(7,.int .i64 l.length),(8,.int .i64 0)],[(0,.cells 173 [.nilp,.nils])],1⟩) _;have h0:=tX (l.getD 0 0) (hl _ (getD_mem (d:=0) hl0)).2;have hs:=KD hl0;have hsl:=Gp (l:=l) 1;have hs:bn (l.take 1)=dK (l.getD 0 0):=by
   have:bn (l.take 0)=[]:=by simp [bn]
   rw [hs,this,List.nil_append]
  rw [hs] at hsl;conv=>whnf
  refine ⟨fun hd=>?_,fun hd=>?_⟩
  ·conv=>whnf
   refine iO (cW ?_);refine And.intro rfl (cW ?_);refine cO (fun _=>h0) (cW ?_);refine .raw _ _ rfl (fun h=>by cases h) (qX (dK (l.getD 0 0)) aI) ?_;rintro r rfl;refine ⟨Nat.le_of_ble_eq_true rfl,(cW ?_)⟩;refine iO (cW ?_);refine ⟨1,hl0,by show l.length-1<l.length-0;omega,(aj [(0,.id 0),(1,.id 1)] rfl ⟨ah,aQ,ah,ah,ah,trivial⟩ ⟨aB,⟨_,rfl,.lst _ _ _ _ _ rfl (by rw [hs])⟩,trivial⟩)⟩
  ·have hd:=of_decide_eq_false hd;omega
 | succ j =>
  show fQ _ _ (⟨[(0,.sl 1 encI 0 l),(3,.ptr 0 0),(6,.sl 1 encI 0 l),(7,.int .i64 l.length),(8,.int .i64 ((j+1):Nat))],[(0,.cells 173 [.ptr 0 0,.own 1]),(1,.lst 5 1 (aY (bn (l.take (j+1)))))],2⟩) _;have hk:j+1≤l.length:=hk;have hpl:=Gp (l:=l) (j+1);have hpl1:=Gp (l:=l) (j+1+1);have hne2:bn (l.take (j+1))≠[]:=by
   cases l with
   | nil=>simp at hl0
   | cons x l =>
    unfold bn;rw [List.take_succ_cons,List.flatMap_cons];intro h;exact yD (hl x (by simp)).1 (List.append_eq_nil_iff.1 h).1
  conv=>whnf
  refine ⟨fun hd=>?_,fun hd=>?_⟩
  ·have hd:=of_decide_eq_true hd;have hkl:j+1<l.length:=by omega
   have hek:((j+1:Nat):Int).toNat=j+1:=Int.toNat_natCast _;have h0:=tX (l.getD (j+1) 0) (hl _ (getD_mem (d:=0) hkl)).2;have hs:=KD hkl;conv=>whnf
   refine iO (cW ?_);refine And.intro rfl (cW ?_);rw [hek];refine cO (fun _=>h0) (cW ?_);refine .raw _ _ rfl (fun h=>by cases h) (FW (Vw (bn (l.take (j+1))) (dK (l.getD (j+1) 0)) (by rw [hs,List.length_append] at hpl1;omega)) (fun id hid=>by
    simp only [List.mem_cons,List.not_mem_nil,or_false] at hid;rcases hid with rfl | rfl<;>rfl)) ?_
   rintro r rfl;refine ⟨Nat.le_of_ble_eq_true rfl,(cW ?_)⟩;have hpe:aY (bn (l.take (j+1)))++aY (dK (l.getD (j+1) 0))=aY (bn (l.take (j+1+1))):=by rw [hs,zL]
   refine iO (cW ?_);refine ⟨j+2,by omega,by show l.length-(j+2)<l.length-(j+1);omega,(aj [(0,.id 0),(1,.id 2)] rfl ⟨ah,aQ,ah,ah,ah,trivial⟩ ⟨aB,⟨_,rfl,.lst _ _ _ _ _ rfl (hpe)⟩,trivial⟩)⟩
  ·have hd:=of_decide_eq_false hd;have hke:j+1=l.length:=by omega
   conv=>whnf
   refine .raw _ _ rfl (fun h=>by cases h) (Af (bn (l.take (j+1))) hne2) ?_;rintro r rfl;refine ⟨Nat.le_of_ble_eq_true rfl,(cW ?_)⟩;rw [hke,List.take_length];rfl
theorem NV {p:Prop}(h:p:=by
 refine iO (cW ?_);refine up hkl trivial ((aj [(0,.id 0),(1,.id 3)] rfl ⟨ah,.fn _ _ _ _ _ fP fP,aQ,ah,ah,ah,trivial⟩ ⟨aB,⟨_,rfl,.lst _ _ _ _ _ rfl (hpe)⟩,trivial⟩))):p:=h
theorem JZ {p:Prop}(h:p:=by
 rintro r rfl;refine ⟨Nat.le_of_ble_eq_true rfl,(cW ?_)⟩;rw [hke,ZK];rfl):p:=h
theorem Y4 (l:List Brc) (hf:∀ e∈l,ak Tryz.prog 78 [gy e] (.str (lW e))) (hn:l.length≤1000000000) (hT:(fO lW l).length≤140737488355328):ak Tryz.prog 77 [.sl 2 gy fG l,.fn (.func 78) [] []] (.str (fO lW l)):=by
 have hi:=tX l.length zT;have hpl0:=gq (f:=lW) (l:=l) 0;rw [mX] at hpl0;refine aO (au 24 [0,1,4,5,7,12,13,14,15]) Tryz.func77 ?_;conv=>whnf
 refine cO (fun _=>hi) (cW ?_);refine .raw _ _ rfl (fun h=>by cases h) (qX (dK l.length) aI) ?_;rintro r rfl;refine ⟨Nat.le_of_ble_eq_true rfl,(cW ?_)⟩;have hp0:aY (dK l.length)=aY (dB lW l 0):=by rw [mX]
 refine aX (au _ _) l.length (fun _=>True) (fun k=>⟨[(0,.sl 2 gy fG l),(1,.fn (.func 78) [] []),(5,.ptr 0 0),(12,.sl 2 gy fG l),(13,.int .i64 l.length),(14,.int .i64 (k:Nat))],[(0,.cells 173 [.ptr 0 0,.own 1]),(1,.lst 5 1 (aY (dB lW l k)))],2⟩) trivial ((aj [(0,.id 0),(1,.id 1)] rfl ⟨ah,.fn _ _ _ _ _ fP fP,aQ,ah,ah,ah,trivial⟩ ⟨aB,⟨_,rfl,.lst _ _ _ _ _ rfl (hp0)⟩,trivial⟩)) ?_;intro k hk _;have hps:=fun h:k<l.length=>qY (f:=lW) (d:=fG) h
 have hpl:=gq (f:=lW) (l:=l) k;have hpl1:=gq (f:=lW) (l:=l) (k+1);conv=>whnf
 refine ⟨fun hd=>?_,fun hd=>?_⟩
 ·have hkl:k<l.length:=by
   exact Az
  have hps:=hps hkl;have hek:(k:Int).toNat=k:=Int.toNat_natCast k;have hx:=hf _ (getD_mem (d:=fG) hkl);conv=>whnf
  refine iO (cW ?_);refine And.intro rfl (cW ?_);rw [hek];conv=>whnf
  refine cO (fun _=>hx) (cW ?_);have hlen:(dB lW l k).length+(lW (l.getD k fG)).length≤140737488355328:=by
   exact H_
  refine cR ((qH (dB lW l k) (lW (l.getD k fG)) hlen)) [0,1] (cW (cW ?_));have hpe:aY (dB lW l k++lW (l.getD k fG))=aY (dB lW l (k+1)):=by rw [hps]
  exact NV
 ·have hke:k=l.length:=by
   exact Am
  conv=>whnf
  refine .raw _ _ rfl (fun h=>by cases h) (Af (dB lW l k) (vY lW l k)) ?_;exact JZ
theorem Zq (l:List Lin) (hf:∀ e∈l,ak Tryz.prog 76 [dW e] (.str (lC e))) (hn:l.length≤1000000000) (hT:(fO lC l).length≤140737488355328):ak Tryz.prog 75 [.sl 10 dW eP l,.fn (.func 76) [] []] (.str (fO lC l)):=by
 have hi:=tX l.length zT;have hpl0:=gq (f:=lC) (l:=l) 0;rw [mX] at hpl0;refine aO (au 24 [0,1,4,5,7,12,13,14,15]) Tryz.func75 ?_;conv=>whnf
 refine cO (fun _=>hi) (cW ?_);refine .raw _ _ rfl (fun h=>by cases h) (qX (dK l.length) aI) ?_;rintro r rfl;refine ⟨Nat.le_of_ble_eq_true rfl,(cW ?_)⟩;have hp0:aY (dK l.length)=aY (dB lC l 0):=by rw [mX]
 refine aX (au _ _) l.length (fun _=>True) (fun k=>⟨[(0,.sl 10 dW eP l),(1,.fn (.func 76) [] []),(5,.ptr 0 0),(12,.sl 10 dW eP l),(13,.int .i64 l.length),(14,.int .i64 (k:Nat))],[(0,.cells 173 [.ptr 0 0,.own 1]),(1,.lst 5 1 (aY (dB lC l k)))],2⟩) trivial ((aj [(0,.id 0),(1,.id 1)] rfl ⟨ah,.fn _ _ _ _ _ fP fP,aQ,ah,ah,ah,trivial⟩ ⟨aB,⟨_,rfl,.lst _ _ _ _ _ rfl (hp0)⟩,trivial⟩)) ?_;intro k hk _;have hps:=fun h:k<l.length=>qY (f:=lC) (d:=eP) h
 have hpl:=gq (f:=lC) (l:=l) k;have hpl1:=gq (f:=lC) (l:=l) (k+1);conv=>whnf
 refine ⟨fun hd=>?_,fun hd=>?_⟩
 ·have hkl:k<l.length:=by
   exact Az
  have hps:=hps hkl;have hek:(k:Int).toNat=k:=Int.toNat_natCast k;have hx:=hf _ (getD_mem (d:=eP) hkl);conv=>whnf
  refine iO (cW ?_);refine And.intro rfl (cW ?_);rw [hek];conv=>whnf
  refine cO (fun _=>hx) (cW ?_);have hlen:(dB lC l k).length+(lC (l.getD k eP)).length≤140737488355328:=by
   exact H_
  refine cR ((qH (dB lC l k) (lC (l.getD k eP)) hlen)) [0,1] (cW (cW ?_));have hpe:aY (dB lC l k++lC (l.getD k eP))=aY (dB lC l (k+1)):=by rw [hps]
  exact NV
 ·have hke:k=l.length:=by
   exact Am
  conv=>whnf
  refine .raw _ _ rfl (fun h=>by cases h) (Af (dB lC l k) (vY lC l k)) ?_;exact JZ
theorem Z9 (l:List Fac) (hf:∀ e∈l,ak Tryz.prog 85 [eG e] (.str (lI e))) (hn:l.length≤1000000000) (hT:(fO lI l).length≤140737488355328):ak Tryz.prog 84 [.sl 5 eG fa0 l,.fn (.func 85) [] []] (.str (fO lI l)):=by
 have hi:=tX l.length zT;have hpl0:=gq (f:=lI) (l:=l) 0;rw [mX] at hpl0;refine aO (au 24 [0,1,4,5,7,12,13,14,15]) Tryz.func84 ?_;conv=>whnf
 refine cO (fun _=>hi) (cW ?_);refine .raw _ _ rfl (fun h=>by cases h) (qX (dK l.length) aI) ?_;rintro r rfl;refine ⟨Nat.le_of_ble_eq_true rfl,(cW ?_)⟩;have hp0:aY (dK l.length)=aY (dB lI l 0):=by rw [mX]
 refine aX (au _ _) l.length (fun _=>True) (fun k=>⟨[(0,.sl 5 eG fa0 l),(1,.fn (.func 85) [] []),(5,.ptr 0 0),(12,.sl 5 eG fa0 l),(13,.int .i64 l.length),(14,.int .i64 (k:Nat))],[(0,.cells 173 [.ptr 0 0,.own 1]),(1,.lst 5 1 (aY (dB lI l k)))],2⟩) trivial ((aj [(0,.id 0),(1,.id 1)] rfl ⟨ah,.fn _ _ _ _ _ fP fP,aQ,ah,ah,ah,trivial⟩ ⟨aB,⟨_,rfl,.lst _ _ _ _ _ rfl (hp0)⟩,trivial⟩)) ?_;intro k hk _;have hps:=fun h:k<l.length=>qY (f:=lI) (d:=fa0) h
 have hpl:=gq (f:=lI) (l:=l) k;have hpl1:=gq (f:=lI) (l:=l) (k+1);conv=>whnf
 refine ⟨fun hd=>?_,fun hd=>?_⟩
 ·have hkl:k<l.length:=by
   exact Az
  have hps:=hps hkl;have hek:(k:Int).toNat=k:=Int.toNat_natCast k;have hx:=hf _ (getD_mem (d:=fa0) hkl);conv=>whnf
  refine iO (cW ?_);refine And.intro rfl (cW ?_);rw [hek];conv=>whnf
  refine cO (fun _=>hx) (cW ?_);have hlen:(dB lI l k).length+(lI (l.getD k fa0)).length≤140737488355328:=by
   exact H_
  refine cR ((qH (dB lI l k) (lI (l.getD k fa0)) hlen)) [0,1] (cW (cW ?_));have hpe:aY (dB lI l k++lI (l.getD k fa0))=aY (dB lI l (k+1)):=by rw [hps]
  exact NV
 ·have hke:k=l.length:=by
   exact Am
  conv=>whnf
  refine .raw _ _ rfl (fun h=>by cases h) (Af (dB lI l k) (vY lI l k)) ?_;exact JZ
theorem aaA (l:List Pay) (hf:∀ e∈l,ak Tryz.prog 87 [fZ e] (.str (lG e))) (hn:l.length≤1000000000) (hT:(fO lG l).length≤140737488355328):ak Tryz.prog 86 [.sl 6 fZ pa0 l,.fn (.func 87) [] []] (.str (fO lG l)):=by
 have hi:=tX l.length zT;have hpl0:=gq (f:=lG) (l:=l) 0;rw [mX] at hpl0;refine aO (au 24 [0,1,4,5,7,12,13,14,15]) Tryz.func86 ?_;conv=>whnf
 refine cO (fun _=>hi) (cW ?_);refine .raw _ _ rfl (fun h=>by cases h) (qX (dK l.length) aI) ?_;rintro r rfl;refine ⟨Nat.le_of_ble_eq_true rfl,(cW ?_)⟩;have hp0:aY (dK l.length)=aY (dB lG l 0):=by rw [mX]
 refine aX (au _ _) l.length (fun _=>True) (fun k=>⟨[(0,.sl 6 fZ pa0 l),(1,.fn (.func 87) [] []),(5,.ptr 0 0),(12,.sl 6 fZ pa0 l),(13,.int .i64 l.length),(14,.int .i64 (k:Nat))],[(0,.cells 173 [.ptr 0 0,.own 1]),(1,.lst 5 1 (aY (dB lG l k)))],2⟩) trivial ((aj [(0,.id 0),(1,.id 1)] rfl ⟨ah,.fn _ _ _ _ _ fP fP,aQ,ah,ah,ah,trivial⟩ ⟨aB,⟨_,rfl,.lst _ _ _ _ _ rfl (hp0)⟩,trivial⟩)) ?_;intro k hk _;have hps:=fun h:k<l.length=>qY (f:=lG) (d:=pa0) h
 have hpl:=gq (f:=lG) (l:=l) k;have hpl1:=gq (f:=lG) (l:=l) (k+1);conv=>whnf
 refine ⟨fun hd=>?_,fun hd=>?_⟩
 ·have hkl:k<l.length:=by
   exact Az
  have hps:=hps hkl;have hek:(k:Int).toNat=k:=Int.toNat_natCast k;have hx:=hf _ (getD_mem (d:=pa0) hkl);conv=>whnf
  refine iO (cW ?_);refine And.intro rfl (cW ?_);rw [hek];conv=>whnf
  refine cO (fun _=>hx) (cW ?_);have hlen:(dB lG l k).length+(lG (l.getD k pa0)).length≤140737488355328:=by
   exact H_
  refine cR ((qH (dB lG l k) (lG (l.getD k pa0)) hlen)) [0,1] (cW (cW ?_));have hpe:aY (dB lG l k++lG (l.getD k pa0))=aY (dB lG l (k+1)):=by rw [hps]
  exact NV
 ·have hke:k=l.length:=by
   exact Am
  conv=>whnf
  refine .raw _ _ rfl (fun h=>by cases h) (Af (dB lG l k) (vY lG l k)) ?_;exact JZ
theorem ZC (l:List Pro) (hf:∀ e∈l,ak Tryz.prog 89 [eF e] (.str (lu e))) (hn:l.length≤1000000000) (hT:(fO lu l).length≤140737488355328):ak Tryz.prog 88 [.sl 6 eF fB l,.fn (.func 89) [] []] (.str (fO lu l)):=by
 have hi:=tX l.length zT;have hpl0:=gq (f:=lu) (l:=l) 0;rw [mX] at hpl0;refine aO (au 24 [0,1,4,5,7,12,13,14,15]) Tryz.func88 ?_;conv=>whnf
 refine cO (fun _=>hi) (cW ?_);refine .raw _ _ rfl (fun h=>by cases h) (qX (dK l.length) aI) ?_;rintro r rfl;refine ⟨Nat.le_of_ble_eq_true rfl,(cW ?_)⟩;have hp0:aY (dK l.length)=aY (dB lu l 0):=by rw [mX]
 refine aX (au _ _) l.length (fun _=>True) (fun k=>⟨[(0,.sl 6 eF fB l),(1,.fn (.func 89) [] []),(5,.ptr 0 0),(12,.sl 6 eF fB l),(13,.int .i64 l.length),(14,.int .i64 (k:Nat))],[(0,.cells 173 [.ptr 0 0,.own 1]),(1,.lst 5 1 (aY (dB lu l k)))],2⟩) trivial ((aj [(0,.id 0),(1,.id 1)] rfl ⟨ah,.fn _ _ _ _ _ fP fP,aQ,ah,ah,ah,trivial⟩ ⟨aB,⟨_,rfl,.lst _ _ _ _ _ rfl (hp0)⟩,trivial⟩)) ?_;intro k hk _;have hps:=fun h:k<l.length=>qY (f:=lu) (d:=fB) h
 have hpl:=gq (f:=lu) (l:=l) k;have hpl1:=gq (f:=lu) (l:=l) (k+1);conv=>whnf
 refine ⟨fun hd=>?_,fun hd=>?_⟩
 ·have hkl:k<l.length:=by
   exact Az
  have hps:=hps hkl;have hek:(k:Int).toNat=k:=Int.toNat_natCast k;have hx:=hf _ (getD_mem (d:=fB) hkl);conv=>whnf
  refine iO (cW ?_);refine And.intro rfl (cW ?_);rw [hek];conv=>whnf
  refine cO (fun _=>hx) (cW ?_);have hlen:(dB lu l k).length+(lu (l.getD k fB)).length≤140737488355328:=by
   exact H_
  refine cR ((qH (dB lu l k) (lu (l.getD k fB)) hlen)) [0,1] (cW (cW ?_));have hpe:aY (dB lu l k++lu (l.getD k fB))=aY (dB lu l (k+1)):=by rw [hps]
  exact NV
 ·have hke:k=l.length:=by
   exact Am
  conv=>whnf
  refine .raw _ _ rfl (fun h=>by cases h) (Af (dB lu l k) (vY lu l k)) ?_;exact JZ
theorem Y1 (l:List Vot) (hf:∀ e∈l,ak Tryz.prog 91 [gu e] (.str (lT e))) (hn:l.length≤1000000000) (hT:(fO lT l).length≤140737488355328):ak Tryz.prog 90 [.sl 3 gu eU l,.fn (.func 91) [] []] (.str (fO lT l)):=by
 have hi:=tX l.length zT;have hpl0:=gq (f:=lT) (l:=l) 0;rw [mX] at hpl0;refine aO (au 24 [0,1,4,5,7,12,13,14,15]) Tryz.func90 ?_;conv=>whnf
 refine cO (fun _=>hi) (cW ?_);refine .raw _ _ rfl (fun h=>by cases h) (qX (dK l.length) aI) ?_;rintro r rfl;refine ⟨Nat.le_of_ble_eq_true rfl,(cW ?_)⟩;have hp0:aY (dK l.length)=aY (dB lT l 0):=by rw [mX]
 refine aX (au _ _) l.length (fun _=>True) (fun k=>⟨[(0,.sl 3 gu eU l),(1,.fn (.func 91) [] []),(5,.ptr 0 0),(12,.sl 3 gu eU l),(13,.int .i64 l.length),(14,.int .i64 (k:Nat))],[(0,.cells 173 [.ptr 0 0,.own 1]),(1,.lst 5 1 (aY (dB lT l k)))],2⟩) trivial ((aj [(0,.id 0),(1,.id 1)] rfl ⟨ah,.fn _ _ _ _ _ fP fP,aQ,ah,ah,ah,trivial⟩ ⟨aB,⟨_,rfl,.lst _ _ _ _ _ rfl (hp0)⟩,trivial⟩)) ?_;intro k hk _;have hps:=fun h:k<l.length=>qY (f:=lT) (d:=eU) h
 have hpl:=gq (f:=lT) (l:=l) k;have hpl1:=gq (f:=lT) (l:=l) (k+1);conv=>whnf
 refine ⟨fun hd=>?_,fun hd=>?_⟩
 ·have hkl:k<l.length:=by
   exact Az
  have hps:=hps hkl;have hek:(k:Int).toNat=k:=Int.toNat_natCast k;have hx:=hf _ (getD_mem (d:=eU) hkl);conv=>whnf
  refine iO (cW ?_);refine And.intro rfl (cW ?_);rw [hek];conv=>whnf
  refine cO (fun _=>hx) (cW ?_);have hlen:(dB lT l k).length+(lT (l.getD k eU)).length≤140737488355328:=by
   exact H_
  refine cR ((qH (dB lT l k) (lT (l.getD k eU)) hlen)) [0,1] (cW (cW ?_));have hpe:aY (dB lT l k++lT (l.getD k eU))=aY (dB lT l (k+1)):=by rw [hps]
  exact NV
 ·have hke:k=l.length:=by
   exact Am
  conv=>whnf
  refine .raw _ _ rfl (fun h=>by cases h) (Af (dB lT l k) (vY lT l k)) ?_;exact JZ
theorem OB (l:List Int) (hf:∀ e∈l,ak Tryz.prog 93 [encI e] (.str (dK e))) (hn:l.length≤1000000000) (hT:(fO dK l).length≤140737488355328):ak Tryz.prog 92 [.sl 1 encI 0 l,.fn (.func 93) [] []] (.str (fO dK l)):=by
 have hi:=tX l.length zT;have hpl0:=gq (f:=dK) (l:=l) 0;rw [mX] at hpl0;refine aO (au 24 [0,1,4,5,7,12,13,14,15]) Tryz.func92 ?_;conv=>whnf
 refine cO (fun _=>hi) (cW ?_);refine .raw _ _ rfl (fun h=>by cases h) (qX (dK l.length) aI) ?_;rintro r rfl;refine ⟨Nat.le_of_ble_eq_true rfl,(cW ?_)⟩;have hp0:aY (dK l.length)=aY (dB dK l 0):=by rw [mX]
 refine aX (au _ _) l.length (fun _=>True) (fun k=>⟨[(0,.sl 1 encI 0 l),(1,.fn (.func 93) [] []),(5,.ptr 0 0),(12,.sl 1 encI 0 l),(13,.int .i64 l.length),(14,.int .i64 (k:Nat))],[(0,.cells 173 [.ptr 0 0,.own 1]),(1,.lst 5 1 (aY (dB dK l k)))],2⟩) trivial ((aj [(0,.id 0),(1,.id 1)] rfl ⟨ah,.fn _ _ _ _ _ fP fP,aQ,ah,ah,ah,trivial⟩ ⟨aB,⟨_,rfl,.lst _ _ _ _ _ rfl (hp0)⟩,trivial⟩)) ?_;intro k hk _;have hps:=fun h:k<l.length=>qY (f:=dK) (d:=0) h
 have hpl:=gq (f:=dK) (l:=l) k;have hpl1:=gq (f:=dK) (l:=l) (k+1);conv=>whnf
 refine ⟨fun hd=>?_,fun hd=>?_⟩
 ·have hkl:k<l.length:=by
   exact Az
  have hps:=hps hkl;have hek:(k:Int).toNat=k:=Int.toNat_natCast k;have hx:=hf _ (getD_mem (d:=0) hkl);conv=>whnf
  refine iO (cW ?_);refine And.intro rfl (cW ?_);rw [hek];conv=>whnf
  refine cO (fun _=>hx) (cW ?_);have hlen:(dB dK l k).length+(dK (l.getD k 0)).length≤140737488355328:=by
   exact H_
  refine cR ((qH (dB dK l k) (dK (l.getD k 0)) hlen)) [0,1] (cW (cW ?_));have hpe:aY (dB dK l k++dK (l.getD k 0))=aY (dB dK l (k+1)):=by rw [hps]
  exact aeQ
 ·have hke:k=l.length:=by
   exact Am
  conv=>whnf
  refine .raw _ _ rfl (fun h=>by cases h) (Af (dB dK l k) (vY dK l k)) ?_;exact JZ
set_option maxHeartbeats 1000000
theorem Wj {p:Prop}(h:p:=by
 simp only [List.length_append,List.length_cons,List.length_nil];omega):p:=h
theorem kW {n:Int} (h:dG n):(b_ n).length≤21:=by
 have:=pI n h;unfold b_;exact Wj
theorem wW {n:Int} (h:N0 n):(dK n).length≤21:=by
 unfold dK;split
 ·exact Nat.zero_le _
 ·exact kW h.2
theorem D_ {T:Type} {f:T→List UInt8} {B:Nat}:∀ (l:List T),(∀ x∈l,(f x).length≤B)→(l.flatMap f).length≤B*l.length
 | [],_=>by simp
 | x::l,h=>by
  have h1:=D_ l fun y hy=>h y (List.mem_cons_of_mem _ hy)
  have h2:=h x (by simp);rw [List.flatMap_cons,List.length_append,List.length_cons,Nat.mul_succ];omega
theorem dF {l:List Int} (h:∀ n∈l,N0 n):(bn l).length≤21*l.length:=D_ l fun n hn=>wW (h n hn)
theorem o9 {T:Type} {f:T→List UInt8} {l:List T} {B:Nat} (h:∀ x∈l,(f x).length≤B) (hn:l.length≤1000000000):(fO f l).length≤21+B*l.length:=by
 have h1:=D_ l h;have h2:=wW (n:=l.length) ⟨by omega,by unfold dG;omega⟩;unfold fO;rw [List.length_append];omega
theorem qZ {s:List UInt8} (h:s.length≤1000000000):(textS s).length≤s.length+22:=by
 have:=pI s.length zT;unfold textS;exact Wj
theorem ng {l:List Int} (h:∀ n∈l,dG n) (hn:l.length≤1000000000):(iG b_ l).length≤22+21*l.length:=by
 have h1:=D_ (f:=b_) l fun n hn=>kW (h n hn)
 have h2:=pI l.length zT;unfold iG xE;exact Wj
structure LiB (x:Lin):Prop where
 w:LiW x
 text:x.text.length≤1000000
 units:x.units.length≤1000000
 noted:x.noted.length≤1000000
 stages:x.stages.length≤1000000
structure FaB (f:Fac):Prop where
 w:FaW f
 name:f.name.length≤1000000
structure PrB (p:Pro):Prop where
 w:PrW p
 text:p.text.length≤1000000
 units:p.units.length≤1000000
 votes:p.votes.length≤1000000
theorem TV {b:Brc} (h:N0 b.stage∧N0 b.since):(lW b).length≤42 :=
 dF (l:=[b.stage,b.since]) oz
theorem Ry {v:Vot} (h:N0 v.seat∧N0 v.day):(lT v).length≤63 :=
 dF (l:=[v.seat,v.day,jy v.yes]) (by simpa using ⟨h.1,h.2,oQ _⟩)
theorem aau {p:Pay} (h:YW p):(lG p).length≤126:=by
 have h1:=dF (l:=[p.issue,p.seat,p.day,p.due,p.paid]) (by simpa using ⟨h.1,h.2.1,h.2.2.1,h.2.2.2.1,h.2.2.2.2.1⟩);have h2:=kW h.2.2.2.2.2;unfold lG;rw [List.length_append];simp only [List.length_cons,List.length_nil] at h1;omega
theorem acp {p:Prop} (h:p:=by simpa using ⟨h.w.2.2.1,h.w.2.2.2.1,h.w.2.2.2.2⟩):p:=h
theorem Zw {f:Fac} (h:FaB f):(lI f).length≤1000110:=by
 have h1:=dF (l:=[f.issuer]) (by simpa using h.w.1);have h2:=dF (l:=[f.period,f.value,f.day]) acp;have h3:=qZ (s:=f.name) (by have:=h.name;omega);have:=h.name;unfold lI;rw [List.length_append,List.length_append];simp only [List.length_cons,List.length_nil] at h1 h2;omega
theorem Za {x:Lin} (h:LiB x):(lC x).length≤100000000:=by
 obtain ⟨⟨w1,w2,w3,w4,w5,w6,w7,w8,w9⟩,b1,b2,b3,b4⟩:=h;have h1:=qZ (s:=x.text) (by omega);have h2:=ng w2.1 (by omega);have h3:=ng w3.1 (by omega);have h4:=kW w4;have h5:=o9 (f:=lW) (B:=42) (l:=x.stages) (fun b hb=>TV (w5.1 b hb)) (by omega);have h6:=kW w6;have h7:=kW w7;have h8:=dF (l:=[x.price,jy x.ended,x.since]) (by simpa using ⟨w8,oQ _,w9⟩);unfold lC;simp only [List.length_append];simp only [List.length_cons,List.length_nil] at h8;omega
theorem Ti {p:Prop} (h:p:=by simpa using w1):p:=h
theorem YO {p:Pro} (h:PrB p):(lu p).length≤100000000:=by
 obtain ⟨⟨w1,w2,w3,w4,w5⟩,b1,b2,b3⟩:=h;have h1:=qZ (s:=p.text) (by omega);have h2:=ng w4.1 (by omega);have h3:=dF (l:=[p.issue]) Ti;have h4:=dF (l:=[p.day]) (by simpa using w3);have h5:=o9 (f:=lT) (B:=63) (l:=p.votes) (fun v hv=>Ry (w5.1 v hv)) (by omega);have h6:=dF (l:=[jy p.closed]) (by simpa using oQ p.closed);unfold lu;simp only [List.length_append];simp only [List.length_cons,List.length_nil] at h3 h4 h6;omega
structure StB (s:Sta):Prop where
 w:StW s
 cash:s.cash.length≤60
 purses:s.purses.length≤20000
 line:∀ x∈s.lines,LiB x
 lines:s.lines.length≤400
 fact:∀ x∈s.facts,FaB x
 facts:s.facts.length≤10000
 payments:s.payments.length≤100000
 proposal:∀ x∈s.proposals,PrB x
 proposals:s.proposals.length≤10000
theorem VJ {s:Sta} (h:fM s=true):StB s:=by
 have w:=Vt h;unfold fM at h;simp only [Bool.and_eq_true,decide_eq_true_eq,List.all_eq_true] at h;obtain ⟨⟨⟨⟨⟨⟨hsum,hday⟩,hcl⟩,hpl⟩,hout⟩,⟨⟨hll,hpay⟩,hpro⟩,hfac⟩,⟨hl,hp⟩,hq⟩:=h;unfold qy at hfac;simp only [Bool.and_eq_true,decide_eq_true_eq] at hfac;have ul:∀ {k:Int} {l:List Int},jk k l=true→k≤20000→l.length≤1000000:=fun h hk=>by
  unfold jk at h;simp only [Bool.and_eq_true,decide_eq_true_eq] at h;omega
 refine ⟨w,hcl,hpl,fun x hx=>?_,hll,fun x hx=>?_,hfac.1,hpay,fun x hx=>?_,hpro⟩
 ·have h:=hl x hx;unfold mJ at h;simp only [Bool.and_eq_true,decide_eq_true_eq,List.all_eq_true,Bool.or_eq_true] at h;obtain ⟨⟨⟨⟨hp,⟨hu,hn⟩,hna⟩,⟨hfc,hpr⟩,hsi⟩,hsl⟩,hst⟩:=h;refine ⟨w.lines.1 x hx,by have:=Gz hp;omega,ul hu aI,?_,by omega⟩;rcases hn with hn | hn
  ·rw [hn];simp
  ·exact ul hn aI
 ·have h:=G8 _ _ hfac.2 x hx;unfold j_ at h;simp only [Bool.and_eq_true,decide_eq_true_eq] at h;have hnl:=Uf h.2;exact ⟨w.facts.1 x hx,by omega⟩
 ·have h:=hq x hx;unfold qK at h;simp only [Bool.and_eq_true,decide_eq_true_eq,List.all_eq_true] at h;obtain ⟨⟨⟨⟨⟨a,b⟩,c⟩,d⟩,e⟩,f⟩:=h;exact ⟨w.proposals.1 x hx,by omega,ul d aI,by omega⟩
theorem uY (l:List Int) (hne:l≠[]) (hl:∀ n∈l,N0 n) (hn:l.length≤1000):ak Tryz.prog 79 [.sl 1 encI 0 l] (.str (bn l)) :=
 agQ l hne (fun n h=>⟨(hl n h).1,(hl n h).2⟩) (by omega) (by have:=dF hl;omega)
theorem aie (b:Brc) (h:N0 b.stage∧N0 b.since):ak Tryz.prog 78 [gy b] (.str (lW b)):=by
 have g:=uY [b.stage,b.since] (by simp) oz (by simp);refine aO (au 9 [0,1,2]) Tryz.func78 ?_;conv=>whnf
 refine cO (fun _=>g) (cW ?_);rfl
theorem ahL (v:Vot) (h:N0 v.seat∧N0 v.day):ak Tryz.prog 91 [gu v] (.str (lT v)):=by
 have g0:=JR v.yes;have g:=uY [v.seat,v.day,jy v.yes] (by simp) (by simpa using ⟨h.1,h.2,oQ _⟩) (by simp);refine aO (au 12 [0,1,2]) Tryz.func91 ?_;conv=>whnf
 refine .eff ad0 (cW ?_);refine cO (fun _=>g0) (cW ?_);refine cO (fun _=>g) (cW ?_);refine ⟨by kernel_rfl,(cW ?_)⟩;rfl
theorem WJ {p:Prop}(h:p:=by
 conv=>whnf
 refine And.intro iY (cW ?_);refine ⟨by kernel_rfl,(cW ?_)⟩;rfl):p:=h
theorem aix (f:Fac) (h:FaB f):ak Tryz.prog 85 [eG f] (.str (lI f)):=by
 have g1:=uY [f.issuer] (by simp) (by simpa using h.w.1) (by simp);have g2:=NW f.name h.w.2.1;have g3:=uY [f.period,f.value,f.day] (by simp) acp (by simp);have b1:=dF (l:=[f.issuer]) (by simpa using h.w.1);have b2:=qZ (s:=f.name) (by have:=h.name;omega);have b3:=dF (l:=[f.period,f.value,f.day]) acp;have:=h.name;simp only [List.length_cons,List.length_nil] at b1 b3;unfold lI;generalize bn [f.issuer]=A at *;generalize textS f.name=B at *;generalize bn [f.period,f.value,f.day]=C at *;refine aO (au 20 [0,1,2]) Tryz.func85 ?_;conv=>whnf
 refine .eff ad0 (cW ?_);refine cO (fun _=>g1) (cW ?_);refine cO (fun _=>g2) (cW ?_);refine And.intro iY (cW ?_);refine cO (fun _=>g3) ?_;exact WJ
theorem aiv (p:Pay) (h:YW p):ak Tryz.prog 87 [fZ p] (.str (lG p)):=by
 have hh:∀ n∈[p.issue,p.seat,p.day,p.due,p.paid],N0 n:=by simpa using ⟨h.1,h.2.1,h.2.2.1,h.2.2.2.1,h.2.2.2.2.1⟩
 have g1:=uY [p.issue,p.seat,p.day,p.due,p.paid] (by simp) hh (by simp);have g2:=BL p.period h.2.2.2.2.2;have b1:=dF hh;have b2:=kW h.2.2.2.2.2;simp only [List.length_cons,List.length_nil] at b1;unfold lG;generalize bn [p.issue,p.seat,p.day,p.due,p.paid]=A at *;generalize b_ p.period=B at *;refine aO (au 19 [0,1,2]) Tryz.func87 ?_;conv=>whnf
 refine .eff ad0 (cW ?_);refine cO (fun _=>g1) (cW ?_);refine cO (fun _=>g2) (cW ?_);refine And.intro aI (And.intro rfl (cW ?_));rfl
theorem ahF (x:Lin) (h:LiB x):ak Tryz.prog 76 [dW x] (.str (lC x)):=by
 obtain ⟨⟨w1,w2,w3,w4,w5,w6,w7,w8,w9⟩,b1,b2,b3,b4⟩:=h;have h1:=qZ (s:=x.text) (by omega);have h2:=ng w2.1 (by omega);have h3:=ng w3.1 (by omega);have h4:=kW w4;have h5:=o9 (f:=lW) (B:=42) (l:=x.stages) (fun b hb=>TV (w5.1 b hb)) (by omega);have h6:=kW w6;have h7:=kW w7;have hh:∀ n∈[x.price,jy x.ended,x.since],N0 n:=by simpa using ⟨w8,oQ _,w9⟩
 have h8:=dF hh;simp only [List.length_cons,List.length_nil] at h8;have g0:=Y4 x.stages (fun b hb=>aie b (w5.1 b hb)) (by omega) (by omega);have g1:=NW x.text w1;have g2:=MV x.units w2.1 (by omega) (by omega);have g3:=MV x.noted w3.1 (by omega) (by omega);have g4:=BL x.notedAt w4;have g6:=BL x.fast w6;have g7:=BL x.called w7;have g8:=JR x.ended;have g9:=uY [x.price,jy x.ended,x.since] (by simp) hh (by simp);unfold lC;generalize textS x.text=A at *;generalize iG b_ x.units=B at *;generalize iG b_ x.noted=C at *;generalize b_ x.notedAt=D at *;generalize fO lW x.stages=E at *;generalize b_ x.fast=F at *;generalize b_ x.called=G at *;generalize bn [x.price,jy x.ended,x.since]=H at *;refine aO (au 42 [0,1,2,3]) Tryz.func76 ?_;conv=>whnf
 refine .one _ _ _ (fun _=>g0) BI uU uO (cW ?_);refine .eff ad0 (cW ?_);refine cO (fun _=>g1) (cW ?_);refine cO (fun _=>g2) (cW ?_);refine And.intro iY (cW ?_);refine cO (fun _=>g3) (cW ?_);refine And.intro iY (cW ?_);refine cO (fun _=>g4) (cW ?_);refine And.intro iY (cW ?_);refine And.intro iY (cW ?_);refine cO (fun _=>g6) (cW ?_);refine And.intro iY (cW ?_);refine cO (fun _=>g7) (cW ?_);refine And.intro iY (cW ?_);refine cO (fun _=>g8) (cW ?_);refine cO (fun _=>g9) ?_;exact WJ
theorem ait (p:Pro) (h:PrB p):ak Tryz.prog 89 [eF p] (.str (lu p)):=by
 obtain ⟨⟨w1,w2,w3,w4,w5⟩,b1,b2,b3⟩:=h;have i1:∀ n∈[p.issue],N0 n:=by simpa using w1
 have i2:∀ n∈[p.day],N0 n:=by simpa using w3
 have i3:∀ n∈[jy p.closed],N0 n:=by simpa using oQ p.closed
 have h1:=qZ (s:=p.text) (by omega);have h2:=ng w4.1 (by omega);have h3:=dF i1;have h4:=dF i2;have h5:=o9 (f:=lT) (B:=63) (l:=p.votes) (fun v hv=>Ry (w5.1 v hv)) (by omega);have h6:=dF i3;simp only [List.length_cons,List.length_nil] at h3 h4 h6;have g0:=Y1 p.votes (fun v hv=>ahL v (w5.1 v hv)) (by omega) (by omega);have g1:=uY [p.issue] (by simp) i1 (by simp);have g2:=NW p.text w2;have g3:=uY [p.day] (by simp) i2 (by simp);have g4:=MV p.units w4.1 (by omega) (by omega);have g5:=JR p.closed;have g6:=uY [jy p.closed] (by simp) i3 (by simp);unfold lu;generalize bn [p.issue]=A at *;generalize textS p.text=B at *;generalize bn [p.day]=C at *;generalize iG b_ p.units=D at *;generalize fO lT p.votes=E at *;generalize bn [jy p.closed]=F at *;refine aO (au 32 [0,1,2,3]) Tryz.func89 ?_;conv=>whnf
 refine .one _ _ _ (fun _=>g0) BI uU uO (cW ?_);refine .eff ad0 (cW ?_);refine cO (fun _=>g1) (cW ?_);refine cO (fun _=>g2) (cW ?_);refine And.intro iY (cW ?_);refine cO (fun _=>g3) (cW ?_);refine And.intro iY (cW ?_);refine cO (fun _=>g4) (cW ?_);refine And.intro iY (cW ?_);refine And.intro iY (cW ?_);refine cO (fun _=>g5) (cW ?_);refine cO (fun _=>g6) ?_;exact WJ
theorem Ef (s:Sta) (o:OkS s):ak Tryz.prog 15 [mW s] (.str (vk s)):=by
 have gr:=EG s o;unfold vk;cases hr:fM s with
 | false =>
  rw [hr] at gr;rw [if_neg (by simp)];refine aO (au 46 [0,1,2,3,4,5,6,9]) Tryz.func15 ?_;conv=>whnf
  refine cO (fun _=>gr) (cW ?_);refine nE (cW ?_);rfl
 | true =>
  rw [hr] at gr;rw [if_pos rfl];obtain ⟨w,c1,c2,c3,c4,c5,c6,c7,c8,c9⟩:=VJ hr;have i1:∀ n∈[s.day],N0 n:=by simpa using w.day
  have h1:=dF i1;have h2:=o9 (f:=dK) (B:=21) (l:=s.cash) (fun n hn=>wW (w.cash.1 n hn)) (by omega);have h3:=o9 (f:=dK) (B:=21) (l:=s.purses) (fun n hn=>wW (w.purses.1 n hn)) (by omega);have h4:=kW w.outside;have h5:=o9 (f:=lC) (B:=100000000) (l:=s.lines) (fun x hx=>Za (c3 x hx)) (by omega);have h6:=o9 (f:=lI) (B:=1000110) (l:=s.facts) (fun x hx=>Zw (c5 x hx)) (by omega);have h7:=o9 (f:=lG) (B:=126) (l:=s.payments) (fun x hx=>aau (w.payments.1 x hx)) (by omega);have h8:=o9 (f:=lu) (B:=100000000) (l:=s.proposals) (fun x hx=>YO (c8 x hx)) (by omega);simp only [List.length_cons,List.length_nil] at h1;have g1:=uY [s.day] (by simp) i1 (by simp);have g2:=OB s.cash (fun n hn=>tX n (w.cash.1 n hn).2) (by omega) (by omega);have g3:=OB s.purses (fun n hn=>tX n (w.purses.1 n hn).2) (by omega) (by omega);have g4:=BL s.outside w.outside;have g5:=Zq s.lines (fun x hx=>ahF x (c3 x hx)) (by omega) (by omega);have g6:=Z9 s.facts (fun x hx=>aix x (c5 x hx)) (by omega) (by omega);have g7:=aaA s.payments (fun x hx=>aiv x (w.payments.1 x hx)) (by omega) (by omega);have g8:=ZC s.proposals (fun x hx=>ait x (c8 x hx)) (by omega) (by omega);unfold Jw;generalize bn [s.day]=A at *;generalize fO dK s.cash=B at *;generalize fO dK s.purses=C at *;generalize b_ s.outside=D at *;generalize fO lC s.lines=E at *;generalize fO lI s.facts=F at *;generalize fO lG s.payments=G at *;generalize fO lu s.proposals=H at *;refine aO (au 46 [0,1,2,3,4,5,6,9]) Tryz.func15 ?_;conv=>whnf
  refine cO (fun _=>gr) (cW ?_);refine gF (cW ?_);refine .one _ _ _ (fun _=>g5) BI uU uO (cW ?_);refine .one _ _ _ (fun _=>g6) BI uU uO (cW ?_);refine .one _ _ _ (fun _=>g7) BI uU uO (cW ?_);refine .one _ _ _ (fun _=>g8) BI uU uO (cW ?_);refine .eff ad0 (cW ?_);refine cO (fun _=>g1) (cW ?_);refine .one _ _ _ (fun _=>g2) BI uU uO (cW ?_);refine And.intro iY (cW ?_);refine .one _ _ _ (fun _=>g3) BI uU uO (cW ?_);refine And.intro iY (cW ?_);refine cO (fun _=>g4) (cW ?_);refine And.intro iY (cW ?_);refine And.intro iY (cW ?_);refine And.intro iY (cW ?_);refine And.intro iY ?_;exact WJ
noncomputable instance:DecidableEq Brc:=fun _ _=>Classical.propDecidable _
noncomputable instance:DecidableEq Vot:=fun _ _=>Classical.propDecidable _
noncomputable instance:DecidableEq Pay:=fun _ _=>Classical.propDecidable _
noncomputable instance:DecidableEq Pro:=fun _ _=>Classical.propDecidable _
noncomputable instance:DecidableEq Lin:=fun _ _=>Classical.propDecidable _
noncomputable instance:DecidableEq Fac:=fun _ _=>Classical.propDecidable _
noncomputable instance:DecidableEq Sta:=fun _ _=>Classical.propDecidable _
theorem nS {α:Type} {d:α}:∀ {l r:List α},l.length=r.length→(∀ j,j<l.length→l.getD j d=r.getD j d)→l=r
 | [],[],_,_=>rfl
 | [],_::_,h,_=>by cases h
 | _::_,[],h,_=>by cases h
 | a::l,b::r,h,hj=>by
  have h0:a=b:=hj 0 (by simp);have h1:l=r:=nS oz fun j hl=>hj (j+1) nC
  rw [h0,h1]
theorem OC (a b:Brc):decide (a=b)=((decide (a.stage=b.stage)&&(decide (a.since=b.since)&&true))):=by
 rw [Bool.eq_iff_iff];cases a;cases b;simp only [Bool.and_eq_true,decide_eq_true_eq,Brc.mk.injEq,and_true,and_assoc];first | done | (constructor<;>(intro h;simp only [h,and_self,true_and,and_true];try exact h))
theorem Oz (a b:Vot):decide (a=b)=((decide (a.seat=b.seat)&&(decide (a.day=b.day)&&(decide (a.yes=b.yes)&&true)))):=by
 rw [Bool.eq_iff_iff];cases a;cases b;simp only [Bool.and_eq_true,decide_eq_true_eq,Vot.mk.injEq,and_true,and_assoc];first | done | (constructor<;>(intro h;simp only [h,and_self,true_and,and_true];try exact h))
theorem OH (a b:Pay):decide (a=b)=((decide (a.issue=b.issue)&&(decide (a.seat=b.seat)&&(decide (a.day=b.day)&&(decide (a.due=b.due)&&(decide (a.paid=b.paid)&&(decide (a.period=b.period)&&true))))))):=by
 rw [Bool.eq_iff_iff];cases a;cases b;simp only [Bool.and_eq_true,decide_eq_true_eq,Pay.mk.injEq,and_true,and_assoc];first | done | (constructor<;>(intro h;simp only [h,and_self,true_and,and_true];try exact h))
theorem OT (a b:Fac):decide (a=b)=((decide (a.issuer=b.issuer)&&(decide (a.name=b.name)&&(decide (a.period=b.period)&&(decide (a.value=b.value)&&(decide (a.day=b.day)&&true)))))):=by
 rw [Bool.eq_iff_iff];cases a;cases b;simp only [Bool.and_eq_true,decide_eq_true_eq,Fac.mk.injEq,and_true,and_assoc];first | done | (constructor<;>(intro h;simp only [h,and_self,true_and,and_true];try exact h))
theorem Q_ {p:Prop}(h:p:=by
 conv=>whnf
 refine iO (cW ?_);refine up hlt (fun j hj=>?_) ((aj [] rfl ⟨ah,ah,ah,ah,ah,trivial⟩ trivial));by_cases e:j=k
 ·subst e;exact he
 ·exact hP j aI):p:=h
theorem ED {p:Prop}(h:p:=by
 have hne:¬ l=r:=by
  intro h;rw [h] at hlen;simp at hlen
 rw [decide_eq_false hne];conv=>whnf
 rfl):p:=h
theorem Ir {p:Prop}(h:p:=by
 intro h;rw [h] at he;simp at he):p:=h
theorem Fv {p:Prop}(h:p:=by
 have hne:¬ l=r:=by
  exact Ir
 rw [decide_eq_false hne];conv=>whnf
 rfl):p:=h
theorem JJ {p:Prop}(h:p:=by
 rw [decide_eq_true he];conv=>whnf
 rfl):p:=h
theorem aeN {p:Prop}(h:p:=by
 have hd:=of_decide_eq_false hd;have he:l=r:=nS (d:=0) hlen fun j hj=>hP j (by omega)
 exact JJ):p:=h
theorem D8 (l r:List Int) (hl:l.length≤9223372036854775807) (hr:r.length≤9223372036854775807) :
  ak Tryz.prog 101 [.sl 1 encI 0 l,.sl 1 encI 0 r] (.bool (decide (l=r))):=by
 refine aO (au 26 [0,1,4,5,10,12,13,14,24]) Tryz.func101 ?_;conv=>whnf
 refine ⟨fun hlen=>?_,fun hlen=>?_⟩
 ·exact ED
 have hlen:l.length=r.length:=by simp at hlen;omega
 conv=>whnf
 refine aX (au _ _) l.length (fun k=>∀ j,j<k→l.getD j 0=r.getD j 0) (fun k=>⟨[(0,.sl 1 encI 0 l),(1,.sl 1 encI 0 r),(4,.bool false),(12,.int .i64 (l.length:Nat)),(13,.int .i64 (k:Nat))],[],0⟩) mZ ((aj [] rfl ⟨ah,ah,ah,ah,ah,trivial⟩ trivial)) ?_;intro k hk hP;conv=>whnf
 refine ⟨fun hd=>?_,fun hd=>?_⟩
 ·have hd:=of_decide_eq_true hd;have hlt:k<l.length:=by omega
  have hek:(k:Int).toNat=k:=Int.toNat_natCast k;conv=>whnf
  refine .quiet bZ (cW ?_);refine iO (cW ?_);refine And.intro rfl (cW ?_);refine iO (cW ?_);refine And.intro rfl (cW ?_);rw [hek];conv=>whnf
  try (rw [hek];conv=>whnf)
  refine ⟨fun he=>?_,fun he=>?_⟩
  ·exact Fv
  ·have he:l.getD k 0=r.getD k 0:=by simpa using he
   exact Q_
 ·exact aeN
theorem afT (l r:List Brc) (hl:l.length≤9223372036854775807) (hr:r.length≤9223372036854775807) :
  ak Tryz.prog 102 [.sl 2 gy fG l,.sl 2 gy fG r] (.bool (decide (l=r))):=by
 refine aO (au 26 [0,1,4,5,10,12,13,14,24]) Tryz.func102 ?_;conv=>whnf
 refine ⟨fun hlen=>?_,fun hlen=>?_⟩
 ·exact ED
 have hlen:l.length=r.length:=by simp at hlen;omega
 conv=>whnf
 refine aX (au _ _) l.length (fun k=>∀ j,j<k→l.getD j fG=r.getD j fG) (fun k=>⟨[(0,.sl 2 gy fG l),(1,.sl 2 gy fG r),(4,.bool false),(12,.int .i64 (l.length:Nat)),(13,.int .i64 (k:Nat))],[],0⟩) mZ ((aj [] rfl ⟨ah,ah,ah,ah,ah,trivial⟩ trivial)) ?_;intro k hk hP;conv=>whnf
 refine ⟨fun hd=>?_,fun hd=>?_⟩
 ·have hd:=of_decide_eq_true hd;have hlt:k<l.length:=by omega
  have hek:(k:Int).toNat=k:=Int.toNat_natCast k;conv=>whnf
  refine .quiet bZ (cW ?_);refine iO (cW ?_);refine And.intro rfl (cW ?_);refine iO (cW ?_);refine And.intro rfl (cW ?_);rw [hek];conv=>whnf
  try (rw [hek];conv=>whnf)
  refine And.intro ⟨by kernel_rfl,by kernel_rfl⟩ (cW ?_);rw [show (decide ((l.getD k fG).stage=(r.getD k fG).stage)&&(decide ((l.getD k fG).since=(r.getD k fG).since)&&true))=decide (l.getD k fG=r.getD k fG) from (OC _ _).symm];refine ⟨fun he=>?_,fun he=>?_⟩
  ·exact Fv
  ·have he:l.getD k fG=r.getD k fG:=by simpa using he
   exact Q_
 ·have hd:=of_decide_eq_false hd;have he:l=r:=nS (d:=fG) hlen fun j hj=>hP j (by omega)
  exact JJ
theorem afE (l r:List Vot) (hl:l.length≤9223372036854775807) (hr:r.length≤9223372036854775807) :
  ak Tryz.prog 105 [.sl 3 gu eU l,.sl 3 gu eU r] (.bool (decide (l=r))):=by
 refine aO (au 26 [0,1,4,5,10,12,13,14,24]) Tryz.func105 ?_;conv=>whnf
 refine ⟨fun hlen=>?_,fun hlen=>?_⟩
 ·exact ED
 have hlen:l.length=r.length:=by simp at hlen;omega
 conv=>whnf
 refine aX (au _ _) l.length (fun k=>∀ j,j<k→l.getD j eU=r.getD j eU) (fun k=>⟨[(0,.sl 3 gu eU l),(1,.sl 3 gu eU r),(4,.bool false),(12,.int .i64 (l.length:Nat)),(13,.int .i64 (k:Nat))],[],0⟩) mZ ((aj [] rfl ⟨ah,ah,ah,ah,ah,trivial⟩ trivial)) ?_;intro k hk hP;conv=>whnf
 refine ⟨fun hd=>?_,fun hd=>?_⟩
 ·have hd:=of_decide_eq_true hd;have hlt:k<l.length:=by omega
  have hek:(k:Int).toNat=k:=Int.toNat_natCast k;conv=>whnf
  refine .quiet bZ (cW ?_);refine iO (cW ?_);refine And.intro rfl (cW ?_);refine iO (cW ?_);refine And.intro rfl (cW ?_);rw [hek];conv=>whnf
  try (rw [hek];conv=>whnf)
  refine And.intro ⟨by kernel_rfl,by kernel_rfl⟩ (cW ?_);rw [show (decide ((l.getD k eU).seat=(r.getD k eU).seat)&&(decide ((l.getD k eU).day=(r.getD k eU).day)&&(decide ((l.getD k eU).yes=(r.getD k eU).yes)&&true)))=decide (l.getD k eU=r.getD k eU) from (Oz _ _).symm];refine ⟨fun he=>?_,fun he=>?_⟩
  ·exact Fv
  ·have he:l.getD k eU=r.getD k eU:=by simpa using he
   exact Q_
 ·have hd:=of_decide_eq_false hd;have he:l=r:=nS (d:=eU) hlen fun j hj=>hP j (by omega)
  exact JJ
theorem adJ {p:Prop}(h:p:=by
 have hd:=of_decide_eq_false hd;have he:l=r:=nS (d:=fa0) hlen fun j hj=>hP j (by omega)
 exact JJ):p:=h
theorem abf (l r:List Fac) (hl:l.length≤9223372036854775807) (hr:r.length≤9223372036854775807) :
  ak Tryz.prog 106 [.sl 5 eG fa0 l,.sl 5 eG fa0 r] (.bool (decide (l=r))):=by
 refine aO (au 26 [0,1,4,5,10,12,13,14,24]) Tryz.func106 ?_;conv=>whnf
 refine ⟨fun hlen=>?_,fun hlen=>?_⟩
 ·exact ED
 have hlen:l.length=r.length:=by simp at hlen;omega
 conv=>whnf
 refine aX (au _ _) l.length (fun k=>∀ j,j<k→l.getD j fa0=r.getD j fa0) (fun k=>⟨[(0,.sl 5 eG fa0 l),(1,.sl 5 eG fa0 r),(4,.bool false),(12,.int .i64 (l.length:Nat)),(13,.int .i64 (k:Nat))],[],0⟩) mZ ((aj [] rfl ⟨ah,ah,ah,ah,ah,trivial⟩ trivial)) ?_;intro k hk hP;conv=>whnf
 refine ⟨fun hd=>?_,fun hd=>?_⟩
 ·have hd:=of_decide_eq_true hd;have hlt:k<l.length:=by omega
  have hek:(k:Int).toNat=k:=Int.toNat_natCast k;conv=>whnf
  refine .quiet bZ (cW ?_);refine iO (cW ?_);refine And.intro rfl (cW ?_);refine iO (cW ?_);refine And.intro rfl (cW ?_);rw [hek];conv=>whnf
  try (rw [hek];conv=>whnf)
  refine And.intro ⟨by kernel_rfl,by kernel_rfl⟩ (cW ?_);rw [show (decide ((l.getD k fa0).issuer=(r.getD k fa0).issuer)&&(decide ((l.getD k fa0).name=(r.getD k fa0).name)&&(decide ((l.getD k fa0).period=(r.getD k fa0).period)&&(decide ((l.getD k fa0).value=(r.getD k fa0).value)&&(decide ((l.getD k fa0).day=(r.getD k fa0).day)&&true)))))=decide (l.getD k fa0=r.getD k fa0) from (OT _ _).symm];refine ⟨fun he=>?_,fun he=>?_⟩
  ·exact Fv
  ·have he:l.getD k fa0=r.getD k fa0:=by simpa using he
   exact Q_
 ·exact adJ
theorem abq (l r:List Pay) (hl:l.length≤9223372036854775807) (hr:r.length≤9223372036854775807) :
  ak Tryz.prog 107 [.sl 6 fZ pa0 l,.sl 6 fZ pa0 r] (.bool (decide (l=r))):=by
 refine aO (au 26 [0,1,4,5,10,12,13,14,24]) Tryz.func107 ?_;conv=>whnf
 refine ⟨fun hlen=>?_,fun hlen=>?_⟩
 ·exact ED
 have hlen:l.length=r.length:=by simp at hlen;omega
 conv=>whnf
 refine aX (au _ _) l.length (fun k=>∀ j,j<k→l.getD j pa0=r.getD j pa0) (fun k=>⟨[(0,.sl 6 fZ pa0 l),(1,.sl 6 fZ pa0 r),(4,.bool false),(12,.int .i64 (l.length:Nat)),(13,.int .i64 (k:Nat))],[],0⟩) mZ ((aj [] rfl ⟨ah,ah,ah,ah,ah,trivial⟩ trivial)) ?_;intro k hk hP;conv=>whnf
 refine ⟨fun hd=>?_,fun hd=>?_⟩
 ·have hd:=of_decide_eq_true hd;have hlt:k<l.length:=by omega
  have hek:(k:Int).toNat=k:=Int.toNat_natCast k;conv=>whnf
  refine .quiet bZ (cW ?_);refine iO (cW ?_);refine And.intro rfl (cW ?_);refine iO (cW ?_);refine And.intro rfl (cW ?_);rw [hek];conv=>whnf
  try (rw [hek];conv=>whnf)
  refine And.intro ⟨by kernel_rfl,by kernel_rfl⟩ (cW ?_);rw [show (decide ((l.getD k pa0).issue=(r.getD k pa0).issue)&&(decide ((l.getD k pa0).seat=(r.getD k pa0).seat)&&(decide ((l.getD k pa0).day=(r.getD k pa0).day)&&(decide ((l.getD k pa0).due=(r.getD k pa0).due)&&(decide ((l.getD k pa0).paid=(r.getD k pa0).paid)&&(decide ((l.getD k pa0).period=(r.getD k pa0).period)&&true))))))=decide (l.getD k pa0=r.getD k pa0) from (OH _ _).symm];refine ⟨fun he=>?_,fun he=>?_⟩
  ·exact Fv
  ·have he:l.getD k pa0=r.getD k pa0:=by simpa using he
   exact Q_
 ·have hd:=of_decide_eq_false hd;have he:l=r:=nS (d:=pa0) hlen fun j hj=>hP j (by omega)
  exact JJ
theorem adi {p:Prop}(h:p:=by
 conv=>whnf
 refine iO (cW ?_);refine up hlt (fun j hj=>?_) ((aj [] rfl ⟨ah,ah,.fn _ _ _ _ _ fP fP,ah,ah,ah,ah,trivial⟩ trivial));by_cases e:j=k
 ·subst e;exact he
 ·exact hP j aI):p:=h
theorem acC (l r:List Lin) (hl:l.length≤9223372036854775807) (hr:r.length≤9223372036854775807) (hc:∀ x∈l,∀ y∈r,ak Tryz.prog 100 [dW x,dW y] (.bool (decide (x=y)))) :
  ak Tryz.prog 99 [.sl 10 dW eP l,.sl 10 dW eP r,.fn (.func 100) [] []] (.bool (decide (l=r))):=by
 refine aO (au 32 [0,1,2,6,7,8,9,14,15,16,17,18,30]) Tryz.func99 ?_;conv=>whnf
 refine ⟨fun hlen=>?_,fun hlen=>?_⟩
 ·exact ED
 have hlen:l.length=r.length:=by simp at hlen;omega
 conv=>whnf
 refine aX (au _ _) l.length (fun k=>∀ j,j<k→l.getD j eP=r.getD j eP) (fun k=>⟨[(0,.sl 10 dW eP l),(1,.sl 10 dW eP r),(2,.fn (.func 100) [] []),(6,.bool false),(15,.sl 10 dW eP l),(16,.int .i64 (l.length:Nat)),(17,.int .i64 (k:Nat))],[],0⟩) mZ ((aj [] rfl ⟨ah,ah,.fn _ _ _ _ _ fP fP,ah,ah,ah,ah,trivial⟩ trivial)) ?_;intro k hk hP;conv=>whnf
 refine ⟨fun hd=>?_,fun hd=>?_⟩
 ·have hd:=of_decide_eq_true hd;have hlt:k<l.length:=by omega
  have hek:(k:Int).toNat=k:=Int.toNat_natCast k;have h:=hc _ (getD_mem (d:=eP) hlt) _ (getD_mem (d:=eP) (show k<r.length by omega));conv=>whnf
  refine iO (cW ?_);refine And.intro rfl (cW ?_);refine iO (cW ?_);refine And.intro rfl (cW ?_);rw [hek];conv=>whnf
  refine cO (fun _=>h) (cW ?_);refine ⟨fun he=>?_,fun he=>?_⟩
  ·exact Fv
  ·have he:l.getD k eP=r.getD k eP:=by simpa using he
   exact adi
 ·have hd:=of_decide_eq_false hd;have he:l=r:=nS (d:=eP) hlen fun j hj=>hP j (by omega)
  exact JJ
theorem ac9 (l r:List Pro) (hl:l.length≤9223372036854775807) (hr:r.length≤9223372036854775807) (hc:∀ x∈l,∀ y∈r,ak Tryz.prog 104 [eF x,eF y] (.bool (decide (x=y)))) :
  ak Tryz.prog 103 [.sl 6 eF fB l,.sl 6 eF fB r,.fn (.func 104) [] []] (.bool (decide (l=r))):=by
 refine aO (au 32 [0,1,2,6,7,8,9,14,15,16,17,18,30]) Tryz.func103 ?_;conv=>whnf
 refine ⟨fun hlen=>?_,fun hlen=>?_⟩
 ·exact ED
 have hlen:l.length=r.length:=by simp at hlen;omega
 conv=>whnf
 refine aX (au _ _) l.length (fun k=>∀ j,j<k→l.getD j fB=r.getD j fB) (fun k=>⟨[(0,.sl 6 eF fB l),(1,.sl 6 eF fB r),(2,.fn (.func 104) [] []),(6,.bool false),(15,.sl 6 eF fB l),(16,.int .i64 (l.length:Nat)),(17,.int .i64 (k:Nat))],[],0⟩) mZ ((aj [] rfl ⟨ah,ah,.fn _ _ _ _ _ fP fP,ah,ah,ah,ah,trivial⟩ trivial)) ?_;intro k hk hP;conv=>whnf
 refine ⟨fun hd=>?_,fun hd=>?_⟩
 ·have hd:=of_decide_eq_true hd;have hlt:k<l.length:=by omega
  have hek:(k:Int).toNat=k:=Int.toNat_natCast k;have h:=hc _ (getD_mem (d:=fB) hlt) _ (getD_mem (d:=fB) (show k<r.length by omega));conv=>whnf
  refine iO (cW ?_);refine And.intro rfl (cW ?_);refine iO (cW ?_);refine And.intro rfl (cW ?_);rw [hek];conv=>whnf
  refine cO (fun _=>h) (cW ?_);refine ⟨fun he=>?_,fun he=>?_⟩
  ·exact Fv
  ·have he:l.getD k fB=r.getD k fB:=by simpa using he
   exact adi
 ·have hd:=of_decide_eq_false hd;have he:l=r:=nS (d:=fB) hlen fun j hj=>hP j (by omega)
  exact JJ
theorem OU (a b:Lin):decide (a=b)=((decide (a.text=b.text)&&decide (a.units=b.units)&&decide (a.noted=b.noted)&&decide (a.notedAt=b.notedAt)&&decide (a.stages=b.stages))&&decide (a.fast=b.fast)&&decide (a.called=b.called)&&decide (a.price=b.price)&&(a.ended == b.ended)&&decide (a.since=b.since)):=by
 rw [Bool.eq_iff_iff];cases a;cases b;simp only [Bool.and_eq_true,decide_eq_true_eq,beq_iff_eq,Lin.mk.injEq,and_assoc]
theorem Pz (a b:Pro):decide (a=b)=(decide (a.issue=b.issue)&&decide (a.text=b.text)&&decide (a.day=b.day)&&decide (a.units=b.units)&&decide (a.votes=b.votes)&&(a.closed == b.closed)):=by
 rw [Bool.eq_iff_iff];cases a;cases b;simp only [Bool.and_eq_true,decide_eq_true_eq,beq_iff_eq,Pro.mk.injEq,and_assoc]
theorem PN (a b:Sta):decide (a=b)=((decide (a.day=b.day)&&decide (a.cash=b.cash)&&decide (a.purses=b.purses)&&decide (a.outside=b.outside))&&decide (a.lines=b.lines)&&decide (a.proposals=b.proposals)&&decide (a.facts=b.facts)&&decide (a.payments=b.payments)):=by
 rw [Bool.eq_iff_iff];cases a;cases b;simp only [Bool.and_eq_true,decide_eq_true_eq,Sta.mk.injEq,and_assoc];constructor
 ·rintro ⟨h1,h2,h3,h4,h5,h6,h7,h8⟩;exact ⟨h1,h2,h3,h4,h5,h8,h6,h7⟩
 ·rintro ⟨h1,h2,h3,h4,h5,h8,h6,h7⟩;exact ⟨h1,h2,h3,h4,h5,h6,h7,h8⟩
theorem Zg (x y:Lin) (hx:x.text.length≤9223372036854775807∧x.units.length≤9223372036854775807∧x.noted.length≤9223372036854775807∧x.stages.length≤9223372036854775807) (hy:y.text.length≤9223372036854775807∧y.units.length≤9223372036854775807∧y.noted.length≤9223372036854775807∧y.stages.length≤9223372036854775807) :
  ak Tryz.prog 100 [dW x,dW y] (.bool (decide (x=y))):=by
 have g1:=D8 x.units y.units hx.2.1 hy.2.1;have g2:=D8 x.noted y.noted hx.2.2.1 hy.2.2.1;have g3:=afT x.stages y.stages hx.2.2.2 hy.2.2.2;rw [OU];refine aO (au 75 [0,1,2,3,4,5]) Tryz.func100 ?_;conv=>whnf
 refine cO (fun _=>g1) (cW ?_);refine cO (fun _=>g2) (cW ?_);refine cO (fun _=>g3) (cW ?_)
 trace_state
 rfl
theorem YS (x y:Pro) (hx:x.text.length≤9223372036854775807∧x.units.length≤9223372036854775807∧x.votes.length≤9223372036854775807) (hy:y.text.length≤9223372036854775807∧y.units.length≤9223372036854775807∧y.votes.length≤9223372036854775807) :
  ak Tryz.prog 104 [eF x,eF y] (.bool (decide (x=y))):=by
 have g1:=D8 x.units y.units hx.2.1 hy.2.1;have g3:=afE x.votes y.votes hx.2.2 hy.2.2;rw [Pz];refine aO (au 45 [0,1,2,3,4]) Tryz.func104 ?_;conv=>whnf
 refine cO (fun _=>g1) (cW ?_);refine cO (fun _=>g3) (cW ?_);rfl
theorem Nj (a b:Sta) (oa:OkS a) (ob:OkS b):ak Tryz.prog 17 [mW a,mW b] (.bool (decide (a=b))):=by
 have g1:=acC a.lines b.lines oa.lines ob.lines (fun x hx y hy=>Zg x y (oa.line x hx) (ob.line y hy));have g2:=ac9 a.proposals b.proposals oa.proposals ob.proposals (fun x hx y hy=>YS x y (oa.proposal x hx) (ob.proposal y hy));have g3:=D8 a.cash b.cash oa.cash ob.cash;have g4:=D8 a.purses b.purses oa.purses ob.purses;have g5:=abf a.facts b.facts oa.facts ob.facts;have g6:=abq a.payments b.payments oa.payments ob.payments;rw [PN];refine aO (au 65 [0,1,2,3,4,5,6,7]) Tryz.func17 ?_;conv=>whnf
 refine .one _ _ _ (fun _=>g1) BI uU uO (cW ?_);refine .one _ _ _ (fun _=>g2) BI uU uO (cW ?_);refine cO (fun _=>g3) (cW ?_);refine cO (fun _=>g4) (cW ?_);refine cO (fun _=>g5) (cW ?_);refine cO (fun _=>g6) (cW ?_);rfl
theorem TD (s:Sta) (o:OkS s):ak Tryz.prog 19 [mW s] (.int .i64 (uZ s)):=by
 have gr:=EG s o;have g1:=U8 [s.cash,s.purses] (by simp) (fun l hl=>by
  rcases List.mem_cons.1 hl with rfl | hl
  ·exact o.cash
  ·rw [List.mem_singleton.1 hl];exact o.purses)
 rw [OW] at g1;unfold uZ;cases hr:fM s with
 | false =>
  rw [hr] at gr;rw [if_neg (by simp)];refine aO (au 18 [0,1,2,3,7]) Tryz.func19 ?_;conv=>whnf
  refine cO (fun _=>gr) (cW ?_);refine nE (cW ?_);rfl
 | true =>
  rw [hr] at gr;rw [if_pos rfl];cases e1:xU s with
  | none=>simp [fM,e1] at hr
  | some v =>
   rw [e1] at g1;refine aO (au 18 [0,1,2,3,7]) Tryz.func19 ?_;conv=>whnf
   refine cO (fun _=>gr) (cW ?_);refine nD (cW ?_);refine cO (fun _=>g1) (cW ?_);rfl
abbrev bx:AB:=.cells 69 [.ptr 0 0]
theorem aZ (q:RS):(ay q).2.rest.length≤q.rest.length:=(jS 59 0 q (by omega)).2
theorem gZ (q:RS) (hs:q.rest.length≤100000000000):jR Tryz.prog 27 [.ptr 0 0] [ro q] (fun bs rs=>bs=[ro (ay q).2]∧rs=[.val (.int .i64 (ay q).1)]):=afL q (by omega)
theorem H6 (q:RS) (hs:q.rest.length≤100000000000):jR Tryz.prog 29 [.ptr 0 0] [ro q] (fun bs rs=>bs=[ro (aC q).2]∧rs=[.val (.int .i64 (aC q).1)]):=Vq q (by omega)
theorem Tt (q:RS) (hs:q.rest.length≤100000000000):jR Tryz.prog 35 [.ptr 0 0] [ro q] (fun bs rs=>bs=[ro (bC q).2]∧rs=[.val (.str (bC q).1)]):=acT q (by omega)
theorem nJ (q:RS):(aC q).2.rest.length≤q.rest.length:=DR q
theorem tV (q:RS):(bC q).2.rest.length≤q.rest.length:=acE q
abbrev aiM (b:Brc):List AV:=[.int .i64 b.stage,.int .i64 b.since]
theorem dS {p:Prop} (h:p:=by exact BorL.cons (BorIO.ptr _ _ _ rfl) BorL.nil):p:=h
theorem ai9 (q:RS) (hs:q.rest.length≤100000000000):jo Tryz.prog 124 [.ptr 1 0] [ro q,bx] 2 (fun vs bs es=>vs=[gy (gQ q).1]∧bs=[ro (gQ q).2,bx]∧es=[.cells 61 (aiM (gQ q).1)]):=by
 have l1:=aZ q;have g1:=gZ q (by omega);have l2:=aZ (ay q).2;have g2:=gZ (ay q).2 (by omega);have hz:(gQ q).2.rest.length≤q.rest.length:=by unfold gQ;dsimp only;omega
 clear hz;unfold gQ;dsimp only;generalize ay (ay q).2=x2 at *;generalize ay q=x1 at *;refine rO (aJ 2 9 [0,1]) Tryz.func124 ?_;conv=>whnf
 refine .eff ad0 (cW ?_);refine .raw ([0]++[]) _ rfl (fun _=>⟨⟨_,[0]++[],_,_⟩,fun r'=>Iff.rfl,rfl⟩) (aF (g1) [0] [] rfl rfl ⟨rfl,trivial⟩ dS rfl (.inl rfl)) ?_;rintro _ rfl;refine ⟨aS _ _,(cW ?_)⟩;refine .raw ([0]++[]) _ rfl (fun _=>⟨⟨_,[0]++[],_,_⟩,fun r'=>Iff.rfl,rfl⟩) (aF (g2) [0] [] rfl rfl ⟨rfl,trivial⟩ dS rfl (.inl rfl)) ?_;rintro _ rfl;refine ⟨aS _ _,(cW ?_)⟩;refine ⟨by kernel_rfl,(cW ?_)⟩;refine ⟨⟨[(1,.ptr 2 0)],[(0,.cells 155 [.str x2.2.rest,.bool x2.2.bad]),(1,.cells 69 [.ptr 0 0]),(2,.cells 61 [.int .i64 x1.1,.int .i64 x2.1])],3⟩,(aj [(0,.id 0),(1,.id 1),(2,.id 2)] rfl ⟨aQ,trivial⟩ ⟨aB,aB,aB,trivial⟩),rfl,rfl,?_⟩;exact dM
theorem TM (q:RS):(gQ q).2.rest.length≤q.rest.length:=by
 have l1:=aZ q;have l2:=aZ (ay q).2;unfold gQ;dsimp only;omega
abbrev aiS (b:Vot):List AV:=[.int .i64 b.seat,.int .i64 b.day,.bool b.yes]
theorem aiY (q:RS) (hs:q.rest.length≤100000000000):jo Tryz.prog 128 [.ptr 1 0] [ro q,bx] 2 (fun vs bs es=>vs=[gu (jQ q).1]∧bs=[ro (jQ q).2,bx]∧es=[.cells 66 (aiS (jQ q).1)]):=by
 have l1:=aZ q;have g1:=gZ q (by omega);have l2:=aZ (ay q).2;have g2:=gZ (ay q).2 (by omega);have l3:=aZ (ay (ay q).2).2;have g3:=gZ (ay (ay q).2).2 (by omega);have hz:(jQ q).2.rest.length≤q.rest.length:=by unfold jQ;dsimp only;omega
 clear hz;unfold jQ;dsimp only;generalize ay (ay (ay q).2).2=x3 at *;generalize ay (ay q).2=x2 at *;generalize ay q=x1 at *;refine rO (aJ 2 13 [0,1]) Tryz.func128 ?_;conv=>whnf
 refine .eff ad0 (cW ?_);refine .raw ([0]++[]) _ rfl (fun _=>⟨⟨_,[0]++[],_,_⟩,fun r'=>Iff.rfl,rfl⟩) (aF (g1) [0] [] rfl rfl ⟨rfl,trivial⟩ dS rfl (.inl rfl)) ?_;rintro _ rfl;refine ⟨aS _ _,(cW ?_)⟩;refine .raw ([0]++[]) _ rfl (fun _=>⟨⟨_,[0]++[],_,_⟩,fun r'=>Iff.rfl,rfl⟩) (aF (g2) [0] [] rfl rfl ⟨rfl,trivial⟩ dS rfl (.inl rfl)) ?_;rintro _ rfl;refine ⟨aS _ _,(cW ?_)⟩;refine ⟨by kernel_rfl,(cW ?_)⟩;refine .raw ([0]++[]) _ rfl (fun _=>⟨⟨_,[0]++[],_,_⟩,fun r'=>Iff.rfl,rfl⟩) (aF (g3) [0] [] rfl rfl ⟨rfl,trivial⟩ dS rfl (.inl rfl)) ?_;rintro _ rfl;refine ⟨aS _ _,(cW ?_)⟩;refine ⟨⟨[(1,.ptr 2 0)],[(0,.cells 155 [.str x3.2.rest,.bool x3.2.bad]),(1,.cells 69 [.ptr 0 0]),(2,.cells 66 [.int .i64 x1.1,.int .i64 x2.1,.bool (decide (x3.1=1))])],3⟩,(aj [(0,.id 0),(1,.id 1),(2,.id 2)] rfl ⟨aQ,trivial⟩ ⟨aB,aB,aB,trivial⟩),rfl,rfl,?_⟩;exact dM
theorem RJ (q:RS):(jQ q).2.rest.length≤q.rest.length:=by
 have l1:=aZ q;have l2:=aZ (ay q).2;have l3:=aZ (ay (ay q).2).2;unfold jQ;dsimp only;omega
abbrev ajo (b:Fac):List AV:=[.int .i64 b.issuer,.str b.name,.int .i64 b.period,.int .i64 b.value,.int .i64 b.day]
theorem aiU (q:RS) (hs:q.rest.length≤100000000000):jo Tryz.prog 34 [.ptr 1 0] [ro q,bx] 2 (fun vs bs es=>vs=[eG (jU q).1]∧bs=[ro (jU q).2,bx]∧es=[.cells 41 (ajo (jU q).1)]):=by
 have l1:=aZ q;have g1:=gZ q (by omega);have l2:=tV (ay q).2;have g2:=Tt (ay q).2 (by omega);have l3:=aZ (bC (ay q).2).2;have g3:=gZ (bC (ay q).2).2 (by omega);have l4:=aZ (ay (bC (ay q).2).2).2;have g4:=gZ (ay (bC (ay q).2).2).2 (by omega);have l5:=aZ (ay (ay (bC (ay q).2).2).2).2;have g5:=gZ (ay (ay (bC (ay q).2).2).2).2 (by omega);have hz:(jU q).2.rest.length≤q.rest.length:=by unfold jU;dsimp only;omega
 clear hz;unfold jU;dsimp only;generalize ay (ay (ay (bC (ay q).2).2).2).2=x5 at *;generalize ay (ay (bC (ay q).2).2).2=x4 at *;generalize ay (bC (ay q).2).2=x3 at *;generalize bC (ay q).2=x2 at *;generalize ay q=x1 at *;refine rO (aJ 2 18 [0,1]) Tryz.func34 ?_;conv=>whnf
 refine .raw ([0]++[]) _ rfl (fun _=>⟨⟨_,[0]++[],_,_⟩,fun r'=>Iff.rfl,rfl⟩) (aF (g1) [0] [] rfl rfl ⟨rfl,trivial⟩ dS rfl (.inl rfl)) ?_;rintro _ rfl;refine ⟨aS _ _,(cW ?_)⟩;refine .raw ([0]++[]) _ rfl (fun _=>⟨⟨_,[0]++[],_,_⟩,fun r'=>Iff.rfl,rfl⟩) (aF (g2) [0] [] rfl rfl ⟨rfl,trivial⟩ dS rfl (.inl rfl)) ?_;rintro _ rfl;refine ⟨aS _ _,(cW ?_)⟩;refine .eff ad0 (cW ?_);refine .raw ([0]++[]) _ rfl (fun _=>⟨⟨_,[0]++[],_,_⟩,fun r'=>Iff.rfl,rfl⟩) (aF (g3) [0] [] rfl rfl ⟨rfl,trivial⟩ dS rfl (.inl rfl)) ?_;rintro _ rfl;refine ⟨aS _ _,(cW ?_)⟩;refine .raw ([0]++[]) _ rfl (fun _=>⟨⟨_,[0]++[],_,_⟩,fun r'=>Iff.rfl,rfl⟩) (aF (g4) [0] [] rfl rfl ⟨rfl,trivial⟩ dS rfl (.inl rfl)) ?_;rintro _ rfl;refine ⟨aS _ _,(cW ?_)⟩;refine .raw ([0]++[]) _ rfl (fun _=>⟨⟨_,[0]++[],_,_⟩,fun r'=>Iff.rfl,rfl⟩) (aF (g5) [0] [] rfl rfl ⟨rfl,trivial⟩ dS rfl (.inl rfl)) ?_;rintro _ rfl;refine ⟨aS _ _,(cW ?_)⟩;refine ⟨by kernel_rfl,(cW ?_)⟩;refine ⟨⟨[(1,.ptr 2 0)],[(0,.cells 155 [.str x5.2.rest,.bool x5.2.bad]),(1,.cells 69 [.ptr 0 0]),(2,.cells 41 [.int .i64 x1.1,.str x2.1,.int .i64 x3.1,.int .i64 x4.1,.int .i64 x5.1])],3⟩,(aj [(0,.id 0),(1,.id 1),(2,.id 2)] rfl ⟨aQ,trivial⟩ ⟨aB,aB,aB,trivial⟩),rfl,rfl,?_⟩;exact dM
theorem GI (q:RS):(jU q).2.rest.length≤q.rest.length:=by
 have l1:=aZ q;have l2:=tV (ay q).2;have l3:=aZ (bC (ay q).2).2;have l4:=aZ (ay (bC (ay q).2).2).2;have l5:=aZ (ay (ay (bC (ay q).2).2).2).2;unfold jU;dsimp only;omega
abbrev ajg (b:Pay):List AV:=[.int .i64 b.issue,.int .i64 b.seat,.int .i64 b.day,.int .i64 b.due,.int .i64 b.paid,.int .i64 b.period]
theorem aji (q:RS) (hs:q.rest.length≤100000000000):jo Tryz.prog 37 [.ptr 1 0] [ro q,bx] 2 (fun vs bs es=>vs=[fZ (kG q).1]∧bs=[ro (kG q).2,bx]∧es=[.cells 43 (ajg (kG q).1)]):=by
 have l1:=aZ q;have g1:=gZ q (by omega);have l2:=aZ (ay q).2;have g2:=gZ (ay q).2 (by omega);have l3:=aZ (ay (ay q).2).2;have g3:=gZ (ay (ay q).2).2 (by omega);have l4:=aZ (ay (ay (ay q).2).2).2;have g4:=gZ (ay (ay (ay q).2).2).2 (by omega);have l5:=aZ (ay (ay (ay (ay q).2).2).2).2;have g5:=gZ (ay (ay (ay (ay q).2).2).2).2 (by omega);have l6:=nJ (ay (ay (ay (ay (ay q).2).2).2).2).2;have g6:=H6 (ay (ay (ay (ay (ay q).2).2).2).2).2 (by omega);have hz:(kG q).2.rest.length≤q.rest.length:=by unfold kG;dsimp only;omega
 clear hz;unfold kG;dsimp only;generalize aC (ay (ay (ay (ay (ay q).2).2).2).2).2=x6 at *;generalize ay (ay (ay (ay (ay q).2).2).2).2=x5 at *;generalize ay (ay (ay (ay q).2).2).2=x4 at *;generalize ay (ay (ay q).2).2=x3 at *;generalize ay (ay q).2=x2 at *;generalize ay q=x1 at *;refine rO (aJ 2 21 [0,1]) Tryz.func37 ?_;conv=>whnf
 refine .eff ad0 (cW ?_);refine .raw ([0]++[]) _ rfl (fun _=>⟨⟨_,[0]++[],_,_⟩,fun r'=>Iff.rfl,rfl⟩) (aF (g1) [0] [] rfl rfl ⟨rfl,trivial⟩ dS rfl (.inl rfl)) ?_;rintro _ rfl;refine ⟨aS _ _,(cW ?_)⟩;refine .raw ([0]++[]) _ rfl (fun _=>⟨⟨_,[0]++[],_,_⟩,fun r'=>Iff.rfl,rfl⟩) (aF (g2) [0] [] rfl rfl ⟨rfl,trivial⟩ dS rfl (.inl rfl)) ?_;rintro _ rfl;refine ⟨aS _ _,(cW ?_)⟩;refine .raw ([0]++[]) _ rfl (fun _=>⟨⟨_,[0]++[],_,_⟩,fun r'=>Iff.rfl,rfl⟩) (aF (g3) [0] [] rfl rfl ⟨rfl,trivial⟩ dS rfl (.inl rfl)) ?_;rintro _ rfl;refine ⟨aS _ _,(cW ?_)⟩;refine .raw ([0]++[]) _ rfl (fun _=>⟨⟨_,[0]++[],_,_⟩,fun r'=>Iff.rfl,rfl⟩) (aF (g4) [0] [] rfl rfl ⟨rfl,trivial⟩ dS rfl (.inl rfl)) ?_;rintro _ rfl;refine ⟨aS _ _,(cW ?_)⟩;refine .raw ([0]++[]) _ rfl (fun _=>⟨⟨_,[0]++[],_,_⟩,fun r'=>Iff.rfl,rfl⟩) (aF (g5) [0] [] rfl rfl ⟨rfl,trivial⟩ dS rfl (.inl rfl)) ?_;rintro _ rfl;refine ⟨aS _ _,(cW ?_)⟩;refine ⟨by kernel_rfl,(cW ?_)⟩;refine .raw ([0]++[]) _ rfl (fun _=>⟨⟨_,[0]++[],_,_⟩,fun r'=>Iff.rfl,rfl⟩) (aF (g6) [0] [] rfl rfl ⟨rfl,trivial⟩ dS rfl (.inl rfl)) ?_;rintro _ rfl;refine ⟨aS _ _,(cW ?_)⟩;refine ⟨⟨[(1,.ptr 2 0)],[(0,.cells 155 [.str x6.2.rest,.bool x6.2.bad]),(1,.cells 69 [.ptr 0 0]),(2,.cells 43 [.int .i64 x1.1,.int .i64 x2.1,.int .i64 x3.1,.int .i64 x4.1,.int .i64 x5.1,.int .i64 x6.1])],3⟩,(aj [(0,.id 0),(1,.id 1),(2,.id 2)] rfl ⟨aQ,trivial⟩ ⟨aB,aB,aB,trivial⟩),rfl,rfl,?_⟩;exact dM
theorem LK (q:RS):(kG q).2.rest.length≤q.rest.length:=by
 have l1:=aZ q;have l2:=aZ (ay q).2;have l3:=aZ (ay (ay q).2).2;have l4:=aZ (ay (ay (ay q).2).2).2;have l5:=aZ (ay (ay (ay (ay q).2).2).2).2;have l6:=nJ (ay (ay (ay (ay (ay q).2).2).2).2).2;unfold kG;dsimp only;omega
end Go.Proofs.YtgaallgiaachlaaGreatDoor
