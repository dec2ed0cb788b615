import Derived.Test.YtlmgomgpiideoaaGreatDoorCb
import Derived.Test.YtlmgomgpiideoaaGreatDoorCa
import Derived.Shelf.Strings.Builder1
import Derived.KernelRfl
import Derived.Test.YtlmgomgpiideoaaGreatDoorProg
import Derived.Test.YtlmgomgpiideoaaGreatDoorLc
import Derived.Lib.ItoaLen
namespace Go.Proofs.YtlmgomgpiideoaaGreatDoor
open Go.Own
set_option maxHeartbeats 40000000
set_option maxRecDepth 100000
theorem one_k {T:List Tok} {s:Sr} (h:SSt T s) {w:List UInt8} (hw:w≠[]) (ws:List (List UInt8)) (hws:∀ x∈ws,x≠[]) (hl:ws.length≤1000):KX 115 [.str w,.sl 1 encS [] ws] T s [.int .i64 (oneS w ws s).1] (oneS w ws s).2 []:=by
 have q1:=h.to (want_ss w hw s)
 unfold oneS
 dsimp only
 obtain ⟨p,hp⟩:∃ p,p=wantS w s:=⟨_,rfl⟩
 rw [← hp] at q1 ⊢
 refine rO (cxPOk 1 28 [0,1,2,6,7,14,22]) Tryz.func115 ?_
 conv=>whnf
 refine cR ((want_k h w)) [0] ?_
 conv=>whnf
 rw [← hp]
 conv=>whnf
 refine loop_inv (cxPOk _ _ _) (fun k:Nat=>k≤ws.length∧∀ j,j<k→isS (ws.getD j []) p=false) (fun k=>ws.length-k) (fun k=>⟨[(0,.ptr 0 0),(1,.str w),(2,.sl 1 encS [] ws),(7,.int .i64 (k:Nat))],[(0,.cells 74 (rcell T p))],1⟩) 0 ⟨by show 0≤_;omega,fun j hj=>by omega⟩ ((wk_of [(0,.id 0)] rfl ⟨wc0,wa0,wa0,wa0,trivial⟩ ⟨wb0,trivial⟩)) ?_
 intro k ⟨hk,hP⟩
 have hk:k≤ws.length:=hk
 conv=>whnf
 refine ⟨fun hd=>?_,fun hd=>?_⟩
 ·have hd:=of_decide_eq_true hd
  have hlt:k<ws.length:=by omega
  have hek:(k:Int).toNat=k:=Int.toNat_natCast k
  have hm:ws.getD k []≠[]:=hws _ (by
   rw [List.getD_eq_getElem?_getD,List.getElem?_eq_getElem hlt]
   exact List.getElem_mem _)
  conv=>whnf
  refine iO ?_;conv=>whnf
  refine And.intro rfl ?_;conv=>whnf
  rw [hek]
  cases hb:isS (ws.getD k []) p with
  | true =>
   have hi:idxP (fun x=>isS x p) ws=k:=idxP_found (d:=[]) hlt hP hb
   rw [hi]
   rw [if_neg (by omega)]
   refine cR ((has_kt q1 hb)) [0] ?_
   conv=>whnf
   refine gT ?_
   conv=>whnf
   refine cR ((want_k (q1.to (is_ss hm hb)) [59])) [0] ?_
   conv=>whnf
   refine ⟨⟨[(6,.int .i64 ((((k:Nat):Int),(wantS [59] (advS p)))).1)],[(0,.cells 74 (rcell T ((((k:Nat):Int),(wantS [59] (advS p)))).2))],1⟩,(wk_of [(0,.id 0)] rfl ⟨wa0,trivial⟩ ⟨wb0,trivial⟩),rfl,rfl,?_⟩
   conv=>whnf
   exact ⟨rfl,rfl,rfl,rfl⟩
  | false =>
   refine cR ((has_kf q1 hb)) [0] ?_
   conv=>whnf
   refine gF ?_
   conv=>whnf
   refine iO ?_
   conv=>whnf
   exact ⟨k+1,⟨hlt,fun j hj=>(by
    by_cases e:j=k
    ·rw [e];exact hb
    ·exact hP j (by omega))⟩,(by show ws.length-(k+1)<ws.length-k;omega),(wk_of [(0,.id 0)] rfl ⟨wc0,wa0,wa0,wa0,trivial⟩ ⟨wb0,trivial⟩)⟩
 ·have hd:=of_decide_eq_false hd
  have hke:k=ws.length:=by omega
  have hi:idxP (fun x=>isS x p) ws=-1:=idxP_none (d:=[]) (fun j hj=>hP j (by omega))
  rw [hi]
  rw [if_pos (by decide)]
  conv=>whnf
  refine cR ((fail_k q1 12)) [0] ?_
  conv=>whnf
  refine ⟨⟨[(6,.int .i64 ((0,(failS 12 p))).1)],[(0,.cells 74 (rcell T ((0,(failS 12 p))).2))],1⟩,(wk_of [(0,.id 0)] rfl ⟨wa0,trivial⟩ ⟨wb0,trivial⟩),rfl,rfl,?_⟩
  conv=>whnf
  exact ⟨rfl,rfl,rfl,rfl⟩
theorem num_bnd (a b:Int) (s:Sr) (ha:0≤a) (hb:0≤b):0≤(numS a b s).1∧(numS a b s).1≤b:=by
 rcases num_ok a b s with h | h<;>omega
theorem date_k {T:List Tok} {s:Sr} (h:SSt T s) (least:Int):KX 113 [.int .i64 least] T s [.int .i64 (dateS least s).1] (dateS least s).2 []:=by
 have q1:=h.to (num_ss 0 1000000000000000 s)
 have q2:=q1.to (want_ss [45] (by decide) _)
 have q3:=q2.to (num_ss 0 1000000000000000 _)
 have q4:=q3.to (want_ss [45] (by decide) _)
 have y0:=num_bnd 0 1000000000000000 s (by omega) (by omega)
 have m0:=num_bnd 0 1000000000000000 (wantS [45] (numS 0 1000000000000000 s).2) (by omega) (by omega)
 have c1:=num_k h 0 1000000000000000
 have c2:=want_k q1 [45]
 have c3:=num_k q2 0 1000000000000000
 have c4:=want_k q3 [45]
 obtain ⟨v,hv⟩:∃ v,v=dateS least s:=⟨_,rfl⟩
 rw [← hv]
 unfold dateS at hv
 dsimp only at hv
 generalize wantS [45] (numS 0 1000000000000000 (wantS [45] (numS 0 1000000000000000 s).2)).2=p at *
 generalize numS 0 1000000000000000 (wantS [45] (numS 0 1000000000000000 s).2)=m at *
 generalize wantS [45] (numS 0 1000000000000000 s).2=p2 at *
 generalize numS 0 1000000000000000 s=y at *
 have hx:=next_k q4
 have hd:=dayof2_ok y.1 m.1 (nextS p).n y0.1 (by omega)
 unfold dayR at hd
 have hat:=q4.at
 have b1:=q4.st.pos
 have b2:=q4.st.le
 have b3:=q4.st.big
 cases hk:decide ((nextS p).kind=1) with
 | false =>
  rw [if_pos (of_decide_eq_false hk)] at hv
  rw [hv]
  refine rO (cxPOk 1 50 [0,1,4,5,6,7,8,9,22,34,39]) Tryz.func113 ?_
  conv=>whnf
  refine cR (c1) [0] ?_
  conv=>whnf
  refine cR (c2) [0] ?_
  conv=>whnf
  refine cR (c3) [0] ?_
  conv=>whnf
  refine cR (c4) [0] ?_
  conv=>whnf
  refine cO (fun _=>hx) ?_
  conv=>whnf
  rw [hk]
  refine gT ?_
  conv=>whnf
  refine cR ((fail_k q4 12)) [0] ?_
  conv=>whnf
  refine ⟨⟨[(4,.int .i64 ((0,(failS 12 p))).1)],[(0,.cells 74 (rcell T ((0,(failS 12 p))).2))],1⟩,(wk_of [(0,.id 0)] rfl ⟨wa0,trivial⟩ ⟨wb0,trivial⟩),rfl,rfl,?_⟩
  conv=>whnf
  exact ⟨rfl,rfl,rfl,rfl⟩
 | true =>
 rw [if_neg (not_not_intro (of_decide_eq_true hk))] at hv
 cases h0:decide ((dayOf y.1 m.1 (nextS p).n).2=0) with
 | false =>
  rw [if_pos (of_decide_eq_false h0)] at hv
  rw [hv]
  refine rO (cxPOk 1 50 [0,1,4,5,6,7,8,9,22,34,39]) Tryz.func113 ?_
  conv=>whnf
  refine cR (c1) [0] ?_
  conv=>whnf
  refine cR (c2) [0] ?_
  conv=>whnf
  refine cR (c3) [0] ?_
  conv=>whnf
  refine cR (c4) [0] ?_
  conv=>whnf
  refine cO (fun _=>hx) ?_
  conv=>whnf
  rw [hk]
  refine gF ?_
  conv=>whnf
  refine cO (fun _=>hd) ?_
  conv=>whnf
  rw [h0]
  refine gT ?_
  conv=>whnf
  refine cR ((fail_k q4 23)) [0] ?_
  conv=>whnf
  refine ⟨⟨[(4,.int .i64 ((0,(failS 23 p))).1)],[(0,.cells 74 (rcell T ((0,(failS 23 p))).2))],1⟩,(wk_of [(0,.id 0)] rfl ⟨wa0,trivial⟩ ⟨wb0,trivial⟩),rfl,rfl,?_⟩
  conv=>whnf
  exact ⟨rfl,rfl,rfl,rfl⟩
 | true =>
 rw [if_neg (not_not_intro (of_decide_eq_true h0))] at hv
 cases hl:decide ((dayOf y.1 m.1 (nextS p).n).1≤least) with
 | true =>
  rw [if_pos (of_decide_eq_true hl)] at hv
  rw [hv]
  refine rO (cxPOk 1 50 [0,1,4,5,6,7,8,9,22,34,39]) Tryz.func113 ?_
  conv=>whnf
  refine cR (c1) [0] ?_
  conv=>whnf
  refine cR (c2) [0] ?_
  conv=>whnf
  refine cR (c3) [0] ?_
  conv=>whnf
  refine cR (c4) [0] ?_
  conv=>whnf
  refine cO (fun _=>hx) ?_
  conv=>whnf
  rw [hk]
  refine gF ?_
  conv=>whnf
  refine cO (fun _=>hd) ?_
  conv=>whnf
  rw [h0]
  refine gF ?_
  conv=>whnf
  rw [hl]
  refine gT ?_
  conv=>whnf
  refine cR ((fail_k q4 3)) [0] ?_
  conv=>whnf
  refine ⟨⟨[(4,.int .i64 ((0,(failS 3 p))).1)],[(0,.cells 74 (rcell T ((0,(failS 3 p))).2))],1⟩,(wk_of [(0,.id 0)] rfl ⟨wa0,trivial⟩ ⟨wb0,trivial⟩),rfl,rfl,?_⟩
  conv=>whnf
  exact ⟨rfl,rfl,rfl,rfl⟩
 | false =>
  rw [if_neg (of_decide_eq_false hl)] at hv
  rw [hv]
  refine rO (cxPOk 1 50 [0,1,4,5,6,7,8,9,22,34,39]) Tryz.func113 ?_
  conv=>whnf
  refine cR (c1) [0] ?_
  conv=>whnf
  refine cR (c2) [0] ?_
  conv=>whnf
  refine cR (c3) [0] ?_
  conv=>whnf
  refine cR (c4) [0] ?_
  conv=>whnf
  refine cO (fun _=>hx) ?_
  conv=>whnf
  rw [hk]
  refine gF ?_
  conv=>whnf
  refine cO (fun _=>hd) ?_
  conv=>whnf
  rw [h0]
  refine gF ?_
  conv=>whnf
  rw [hl]
  refine gF ?_
  conv=>whnf
  refine iO ?_
  conv=>whnf
  rw [hat]
  conv=>whnf
  refine ⟨⟨[(4,.int .i64 (((dayOf y.1 m.1 (nextS p).n).1,(advS p))).1)],[(0,.cells 74 (rcell T (((dayOf y.1 m.1 (nextS p).n).1,(advS p))).2))],1⟩,(wk_of [(0,.id 0)] rfl ⟨wa0,trivial⟩ ⟨wb0,trivial⟩),rfl,rfl,?_⟩
  conv=>whnf
  exact ⟨rfl,rfl,rfl,rfl⟩
theorem fresh_k {T:List Tok} {s:Sr} (h:SSt T s) (names:List (List UInt8)) (hl:names.length≤1000):RIO Tryz.prog 171 [.ptr 0 0,.own 1] [robj T s,.row 9 1 encS [] names] 2 (fun vs bs es=>vs=[.str (freshS names s).1]∧bs=[robj T (freshS names s).2,.row 9 1 encS [] names]∧es=[]):=by
 have hx:=next_k h
 have hm:=name2_ok (nextS s).text (by have:=h.tlen;omega)
 cases hk:decide ((nextS s).kind=0) with
 | false =>
  have hn:namedS s=false:=by unfold namedS;rw [hk];rfl
  have hs:freshS names s=([],failS 12 s):=by unfold freshS;rw [if_pos hn]
  rw [hs]
  refine rO (cxPOk 2 37 [0,1,4,5,6,17,23,32]) Tryz.func171 ?_
  conv=>whnf
  refine cO (fun _=>hx) ?_
  conv=>whnf
  rw [hk]
  refine cF [.str (nextS s).text] [.val (.bool false)] ?_
  conv=>whnf
  refine gT ?_
  conv=>whnf
  refine cR ((fail_k h 12)) [0] ?_
  conv=>whnf
  refine ⟨⟨[(4,.str ([]))],[(0,.cells 74 (rcell T ((failS 12 s)))),(1,.row 9 1 encS [] names)],2⟩,(wk_of [(0,.id 0),(1,.id 1)] rfl ⟨wa0,trivial⟩ ⟨wb0,⟨_,rfl,ag0⟩,trivial⟩),rfl,rfl,?_⟩
  conv=>whnf
  exact ⟨rfl,rfl,rfl,rfl⟩
 | true =>
  cases hb:nameB (nextS s).text with
  | false =>
   rw [hb] at hm
   have hn:namedS s=false:=by unfold namedS;rw [hk,hb];rfl
   have hs:freshS names s=([],failS 12 s):=by unfold freshS;rw [if_pos hn]
   rw [hs]
   refine rO (cxPOk 2 37 [0,1,4,5,6,17,23,32]) Tryz.func171 ?_
   conv=>whnf
   refine cO (fun _=>hx) ?_
   conv=>whnf
   rw [hk]
   refine cO (fun _=>hm) ?_
   conv=>whnf
   refine gT ?_
   conv=>whnf
   refine cR ((fail_k h 12)) [0] ?_
   conv=>whnf
   refine ⟨⟨[(4,.str ([]))],[(0,.cells 74 (rcell T ((failS 12 s)))),(1,.row 9 1 encS [] names)],2⟩,(wk_of [(0,.id 0),(1,.id 1)] rfl ⟨wa0,trivial⟩ ⟨wb0,⟨_,rfl,ag0⟩,trivial⟩),rfl,rfl,?_⟩
   conv=>whnf
   exact ⟨rfl,rfl,rfl,rfl⟩
  | true =>
   rw [hb] at hm
   have hn:namedS s=true:=by unfold namedS;rw [hk,hb];rfl
   have hnm:nameS s=((nextS s).text,advS s):=by unfold nameS;rw [if_pos hn]
   have hs:freshS names s=if (nextS s).text∈names then ([],failS 5 s) else ((nextS s).text,advS s):=by unfold freshS;rw [hn,if_neg (by decide)]
   have hnk:=name_k h
   rw [hnm] at hnk
   rw [hs]
   refine rO (cxPOk 2 37 [0,1,4,5,6,17,23,32]) Tryz.func171 ?_
   conv=>whnf
   refine cO (fun _=>hx) ?_
   conv=>whnf
   rw [hk]
   refine cO (fun _=>hm) ?_
   conv=>whnf
   refine gF ?_
   conv=>whnf
   refine loop_inv (cxPOk _ _ _) (fun k:Nat=>k≤names.length∧∀ j,j<k→names.getD j []≠(nextS s).text) (fun k=>names.length-k) (fun k=>⟨[(0,.ptr 0 0),(1,.own 1),(5,.ptr 2 0),(6,.int .i64 (k:Nat))],[(0,.cells 74 (rcell T s)),(1,.row 9 1 encS [] names),(2,.cells 61 [.int .i64 (nextS s).kind,.str (nextS s).text,.int .i64 (nextS s).n,.int .i64 (nextS s).pos])],3⟩) 0 ⟨by show 0≤_;omega,fun j hj=>by omega⟩ ((wk_of [(0,.id 0),(1,.id 1),(2,.id 2)] rfl ⟨wc0,ah0,wc0,wa0,trivial⟩ ⟨wb0,⟨_,rfl,ag0⟩,wb0,trivial⟩)) ?_
   intro k ⟨hkn,hP⟩
   have hkn:k≤names.length:=hkn
   conv=>whnf
   refine ⟨fun hd=>?_,fun hd=>?_⟩
   ·have hd:=of_decide_eq_true hd
    have hlt:k<names.length:=by omega
    have hek:(k:Int).toNat=k:=Int.toNat_natCast k
    conv=>whnf
    refine .quiet (by kernel_rfl) ?_;conv=>whnf
    refine iO ?_;conv=>whnf
    refine And.intro om0 (And.intro rfl ?_);conv=>whnf
    rw [hek]
    cases he:decide (names.getD k []=(nextS s).text) with
    | true =>
     have hmem:(nextS s).text∈names:=by
      rw [← of_decide_eq_true he,List.getD_eq_getElem?_getD,List.getElem?_eq_getElem hlt]
      exact List.getElem_mem _
     rw [if_pos hmem]
     refine gT ?_
     conv=>whnf
     refine cR ((fail_k h 5)) [0] ?_
     conv=>whnf
     refine ⟨⟨[(4,.str ([]))],[(0,.cells 74 (rcell T ((failS 5 s)))),(1,.row 9 1 encS [] names)],2⟩,(wk_of [(0,.id 0),(1,.id 1)] rfl ⟨wa0,trivial⟩ ⟨wb0,⟨_,rfl,ag0⟩,trivial⟩),rfl,rfl,?_⟩
     conv=>whnf
     exact ⟨rfl,rfl,rfl,rfl⟩
    | false =>
     refine gF ?_
     conv=>whnf
     refine iO ?_
     conv=>whnf
     exact ⟨k+1,⟨hlt,fun j hj=>(by
      by_cases e:j=k
      ·rw [e];exact of_decide_eq_false he
      ·exact hP j (by omega))⟩,(by show names.length-(k+1)<names.length-k;omega),(wk_of [(0,.id 0),(1,.id 1),(2,.id 2)] rfl ⟨wc0,ah0,wc0,wa0,trivial⟩ ⟨wb0,⟨_,rfl,ag0⟩,wb0,trivial⟩)⟩
   ·have hd:=of_decide_eq_false hd
    have hnm:¬ (nextS s).text∈names:=by
     intro hm
     obtain ⟨j,hj,hje⟩:=List.getElem_of_mem hm
     refine hP j om0 ?_
     rw [List.getD_eq_getElem?_getD,List.getElem?_eq_getElem hj]
     exact hje
    rw [if_neg hnm]
    conv=>whnf
    refine cR (hnk) [0] ?_
    conv=>whnf
    refine ⟨⟨[(4,.str ((nextS s).text))],[(0,.cells 74 (rcell T ((advS s)))),(1,.row 9 1 encS [] names)],2⟩,(wk_of [(0,.id 0),(1,.id 1)] rfl ⟨wa0,trivial⟩ ⟨wb0,⟨_,rfl,ag0⟩,trivial⟩),rfl,rfl,?_⟩
    conv=>whnf
    exact ⟨rfl,rfl,rfl,rfl⟩
theorem lets_k {T:List Tok} {s:Sr} (h:SSt T s):KX 116 [] T s [.sl 6 encL l0 (letsS s.r.length [] s).1] (letsS s.r.length [] s).2 []:=by
 obtain ⟨v,hv⟩:∃ v,v=letsS s.r.length [] s:=⟨_,rfl⟩
 rw [← hv]
 refine rO (cxPOk 1 40 [0,2,3,4,6,9]) Tryz.func116 ?_
 conv=>whnf
 refine loop_inv (cxPOk _ _ _) (fun s:Nat×(List LetE×Sr)=>SSt T s.2.2∧s.2.2.r.length≤s.1∧s.2.1.length≤20∧v=letsS s.1 s.2.1 s.2.2) (fun s=>s.1) (fun s=>⟨[(0,.ptr 0 0),(3,.own 2),(4,.own 1)],[(0,.cells 74 (rcell T (s.2.2))),(1,.row 9 1 encS [] ((s.2.1).map LetE.name)),(2,.row 47 6 encL l0 (s.2.1))],3⟩) (s.r.length,([],s)) ⟨h,Nat.le_refl _,by simp,hv⟩ ((wk_of [(0,.id 0),(1,.nil),(2,.nil)] rfl ⟨wc0,ah0,ah0,trivial⟩ ⟨wb0,⟨_,rfl,ag0⟩,⟨_,rfl,ag0⟩,trivial⟩)) ?_
 rintro ⟨f,ls,q⟩ ⟨hq,hqf,hls,hsp⟩
 dsimp only at hq hqf hls hsp ⊢
 obtain ⟨f,rfl⟩:∃ g,f=g+1:=⟨f-1,by have:=hq.st.pos;omega⟩
 have hi:=is_k hq [108,101,116]
 cases hb:isS [108,101,116] q with
 | false =>
  rw [hb] at hi
  conv=>whnf
  refine cO (fun _=>hi) ?_
  conv=>whnf
  refine gF ?_
  conv=>whnf
  rw [letsS,if_pos hb] at hsp
  rw [hsp]
  refine ⟨⟨[(2,.sl 6 encL l0 ls)],[(0,.cells 74 (rcell T q))],1⟩,(wk_frz [2]).trans (wk_of [(0,.id 0)] rfl ⟨wa0,trivial⟩ ⟨wb0,trivial⟩),rfl,rfl,?_⟩
  conv=>whnf
  exact ⟨rfl,rfl,rfl,rfl⟩
 | true =>
  rw [hb] at hi
  have q0:=is_ss (by decide) hb
  have q1:=hq.to q0
  have hat:=hq.at
  have hqp:=hq.st.pos
  have hqle:=hq.st.le
  have hbig:=hq.st.big
  have htl:=tail_lt hq.st.fin
  have hnl:(ls.map LetE.name).length=ls.length:=List.length_map ..
  rw [letsS,if_neg (by rw [hb];decide)] at hsp
  conv=>whnf
  refine cO (fun _=>hi) ?_
  conv=>whnf
  refine gT ?_
  conv=>whnf
  cases h20:decide ((ls.length:Int)=20) with
  | true =>
   rw [if_pos (of_decide_eq_true h20)] at hsp
   rw [hsp]
   refine gT ?_
   conv=>whnf
   refine cR ((fail_k hq 6)) [0] ?_
   conv=>whnf
   refine ⟨⟨[(2,.sl 6 encL l0 ([]))],[(0,.cells 74 (rcell T ((failS 6 q))))],1⟩,(wk_of [(0,.id 0)] rfl ⟨.base (.leT _ _ (LeT.nils_sl 6 encL l0) rfl),trivial⟩ ⟨wb0,trivial⟩),rfl,rfl,?_⟩
   conv=>whnf
   exact ⟨rfl,rfl,rfl,rfl⟩
  | false =>
   have h20':=of_decide_eq_false h20
   rw [if_neg h20'] at hsp
   dsimp only at hsp
   have g1:=fresh_ss (ls.map LetE.name) (advS q)
   have g2:=g1.trans (want_ss [61] (by decide) _)
   have g3:=g2.trans (whole_ss [59] _)
   have cf:=fresh_k q1 (ls.map LetE.name) (by omega)
   have cw:=want_k (q1.to g1) [61]
   have ch:=whole_k (q1.to g2) [59]
   have q4:=q1.to g3
   have hl4:=g3.suf.le
   generalize wholeS [59] (wantS [61] (freshS (ls.map LetE.name) (advS q)).2)=b at *
   generalize wantS [61] (freshS (ls.map LetE.name) (advS q)).2=p at *
   generalize freshS (ls.map LetE.name) (advS q)=a at *
   refine gF ?_
   conv=>whnf
   refine iO ?_
   conv=>whnf
   rw [hat]
   conv=>whnf
   refine cR (cf) [0,1] ?_
   conv=>whnf
   refine And.intro rfl ?_
   conv=>whnf
   refine And.intro ⟨rfl,rfl⟩ (And.intro (by show ((List.map LetE.name ls).length+1)*16≤140737488355328;rw [hnl];omega) ?_)
   conv=>whnf
   refine Exists.intro a.1 (And.intro rfl ?_)
   conv=>whnf
   refine cR (cw) [0] ?_
   conv=>whnf
   have hnl2:((List.map LetE.name ls++[a.1]).length:Int)=ls.length+1:=by rw [List.length_append,hnl];rfl
   have hgs:(List.map LetE.name ls++[a.1]).getD ((ls.length:Nat):Int).toNat []=a.1:=by
    rw [Int.toNat_natCast,List.getD_eq_getElem?_getD,List.getElem?_append_right (by omega),hnl,Nat.sub_self]
    rfl
   have hlt2:((ls.length:Nat):Int).toNat<(List.map LetE.name ls++[a.1]).length:=by rw [Int.toNat_natCast,List.length_append,hnl];exact Nat.lt_succ_self _
   have hm1:((ls.length:Nat):Int)+1-1=(ls.length:Nat):=by omega
   refine .eff ae0 ?_
   conv=>whnf
   rw [hnl2]
   refine iO ?_
   conv=>whnf
   rw [hm1]
   refine iO ?_
   conv=>whnf
   rw [hgs]
   refine And.intro hlt2 (And.intro rfl ?_)
   conv=>whnf
   refine cR (ch) [0] ?_
   conv=>whnf
   refine And.intro rfl ?_
   conv=>whnf
   refine And.intro ⟨rfl,rfl⟩ (And.intro (by show (ls.length+1)*80≤140737488355328;omega) ?_)
   conv=>whnf
   refine Exists.intro ⟨a.1,b.1⟩ (And.intro rfl ?_)
   conv=>whnf
   refine ⟨by kernel_rfl,?_⟩
   conv=>whnf
   conv=>whnf
   exact ⟨(f,(ls++[⟨a.1,b.1⟩],b.2)),⟨q4,(by show b.2.r.length≤f;have:(advS q).r.length=q.r.tail.length:=rfl;omega),(by show (ls++[_]).length≤20;rw [List.length_append];show ls.length+1≤20;omega),hsp⟩,Nat.lt_succ_self f,(wk_of [(0,.id 0),(1,.id 4),(2,.id 7)] rfl ⟨wc0,ah0,ah0,trivial⟩ ⟨wb0,⟨_,rfl,(by first | exact .row _ _ _ _ _ _ _ rfl (by rw [List.map_append];rfl) | exact .lstrow _ _ _ _ _ _ _ rfl (by rw [List.map_append];rfl) | exact .nilrow _ _ _ _ _ (by rw [List.map_append];rfl) | exact .truncrow _ _ _ _ _ _ _ _ rfl (by omega) (by rw [List.map_append];rfl))⟩,⟨_,rfl,ag0⟩,trivial⟩)⟩
theorem covs_k {T:List Tok} {s:Sr} (h:SSt T s):KX 117 [] T s [.sl 7 encC c0 (covsS s.r.length [] s).1] (covsS s.r.length [] s).2 []:=by
 obtain ⟨v,hv⟩:∃ v,v=covsS s.r.length [] s:=⟨_,rfl⟩
 rw [← hv]
 refine rO (cxPOk 1 47 [0,2,3,4,5,7,10]) Tryz.func117 ?_
 conv=>whnf
 refine loop_inv (cxPOk _ _ _) (fun s:Nat×(List Cov×Sr)=>SSt T s.2.2∧s.2.2.r.length≤s.1∧s.2.1.length≤20∧v=covsS s.1 s.2.1 s.2.2) (fun s=>s.1) (fun s=>⟨[(0,.ptr 0 0),(3,.own 2),(4,.own 1)],[(0,.cells 74 (rcell T (s.2.2))),(1,.row 9 1 encS [] ((s.2.1).map Cov.name)),(2,.row 50 7 encC c0 (s.2.1))],3⟩) (s.r.length,([],s)) ⟨h,Nat.le_refl _,by simp,hv⟩ ((wk_of [(0,.id 0),(1,.nil),(2,.nil)] rfl ⟨wc0,ah0,ah0,trivial⟩ ⟨wb0,⟨_,rfl,ag0⟩,⟨_,rfl,ag0⟩,trivial⟩)) ?_
 rintro ⟨f,ls,q⟩ ⟨hq,hqf,hls,hsp⟩
 dsimp only at hq hqf hls hsp ⊢
 obtain ⟨f,rfl⟩:∃ g,f=g+1:=⟨f-1,by have:=hq.st.pos;omega⟩
 have hi:=is_k hq [99,111,118,101,110,97,110,116]
 cases hb:isS [99,111,118,101,110,97,110,116] q with
 | false =>
  rw [hb] at hi
  conv=>whnf
  refine cO (fun _=>hi) ?_
  conv=>whnf
  refine gF ?_
  conv=>whnf
  rw [covsS,if_pos hb] at hsp
  rw [hsp]
  refine ⟨⟨[(2,.sl 7 encC c0 ls)],[(0,.cells 74 (rcell T q))],1⟩,(wk_frz [2]).trans (wk_of [(0,.id 0)] rfl ⟨wa0,trivial⟩ ⟨wb0,trivial⟩),rfl,rfl,?_⟩
  conv=>whnf
  exact ⟨rfl,rfl,rfl,rfl⟩
 | true =>
  rw [hb] at hi
  have q0:=is_ss (by decide) hb
  have q1:=hq.to q0
  have hat:=hq.at
  have hqp:=hq.st.pos
  have hqle:=hq.st.le
  have hbig:=hq.st.big
  have htl:=tail_lt hq.st.fin
  have hnl:(ls.map Cov.name).length=ls.length:=List.length_map ..
  rw [covsS,if_neg (by rw [hb];decide)] at hsp
  conv=>whnf
  refine cO (fun _=>hi) ?_
  conv=>whnf
  refine gT ?_
  conv=>whnf
  cases h20:decide ((ls.length:Int)=20) with
  | true =>
   rw [if_pos (of_decide_eq_true h20)] at hsp
   rw [hsp]
   refine gT ?_
   conv=>whnf
   refine cR ((fail_k hq 6)) [0] ?_
   conv=>whnf
   refine ⟨⟨[(2,.sl 7 encC c0 ([]))],[(0,.cells 74 (rcell T ((failS 6 q))))],1⟩,(wk_of [(0,.id 0)] rfl ⟨.base (.leT _ _ (LeT.nils_sl 7 encC c0) rfl),trivial⟩ ⟨wb0,trivial⟩),rfl,rfl,?_⟩
   conv=>whnf
   exact ⟨rfl,rfl,rfl,rfl⟩
  | false =>
   have h20':=of_decide_eq_false h20
   rw [if_neg h20'] at hsp
   dsimp only at hsp
   have g1:=fresh_ss (ls.map Cov.name) (advS q)
   have g2:=g1.trans (want_ss [109,117,115,116] (by decide) _)
   have g3:=g2.trans (whole_ss [103,114,97,99,101] _)
   have cf:=fresh_k q1 (ls.map Cov.name) (by omega)
   have cw:=want_k (q1.to g1) [109,117,115,116]
   have ch:=whole_k (q1.to g2) [103,114,97,99,101]
   have g4:=g3.trans (num_ss 0 1000 _)
   have g5:=g4.trans (want_ss [59] (by decide) _)
   have cn:=num_k (q1.to g3) 0 1000
   have cz:=want_k (q1.to g4) [59]
   have q4:=q1.to g5
   have hl4:=g5.suf.le
   generalize wantS [59] (numS 0 1000 (wholeS [103,114,97,99,101] (wantS [109,117,115,116] (freshS (ls.map Cov.name) (advS q)).2)).2).2=z at *
   generalize numS 0 1000 (wholeS [103,114,97,99,101] (wantS [109,117,115,116] (freshS (ls.map Cov.name) (advS q)).2)).2=n at *
   generalize wholeS [103,114,97,99,101] (wantS [109,117,115,116] (freshS (ls.map Cov.name) (advS q)).2)=b at *
   generalize wantS [109,117,115,116] (freshS (ls.map Cov.name) (advS q)).2=p at *
   generalize freshS (ls.map Cov.name) (advS q)=a at *
   refine gF ?_
   conv=>whnf
   refine iO ?_
   conv=>whnf
   rw [hat]
   conv=>whnf
   refine cR (cf) [0,1] ?_
   conv=>whnf
   refine And.intro rfl ?_
   conv=>whnf
   refine And.intro ⟨rfl,rfl⟩ (And.intro (by show ((List.map Cov.name ls).length+1)*16≤140737488355328;rw [hnl];omega) ?_)
   conv=>whnf
   refine Exists.intro a.1 (And.intro rfl ?_)
   conv=>whnf
   refine cR (cw) [0] ?_
   conv=>whnf
   have hnl2:((List.map Cov.name ls++[a.1]).length:Int)=ls.length+1:=by rw [List.length_append,hnl];rfl
   have hgs:(List.map Cov.name ls++[a.1]).getD ((ls.length:Nat):Int).toNat []=a.1:=by
    rw [Int.toNat_natCast,List.getD_eq_getElem?_getD,List.getElem?_append_right (by omega),hnl,Nat.sub_self]
    rfl
   have hlt2:((ls.length:Nat):Int).toNat<(List.map Cov.name ls++[a.1]).length:=by rw [Int.toNat_natCast,List.length_append,hnl];exact Nat.lt_succ_self _
   have hm1:((ls.length:Nat):Int)+1-1=(ls.length:Nat):=by omega
   refine .eff ae0 ?_
   conv=>whnf
   rw [hnl2]
   refine iO ?_
   conv=>whnf
   rw [hm1]
   refine iO ?_
   conv=>whnf
   rw [hgs]
   refine And.intro hlt2 (And.intro rfl ?_)
   conv=>whnf
   refine cR (ch) [0] ?_
   conv=>whnf
   refine ⟨by kernel_rfl,?_⟩
   conv=>whnf
   conv=>whnf
   refine cR (cn) [0] ?_
   conv=>whnf
   refine cR (cz) [0] ?_
   conv=>whnf
   refine And.intro rfl ?_
   conv=>whnf
   refine And.intro ⟨rfl,rfl⟩ (And.intro (by show (ls.length+1)*88≤140737488355328;omega) ?_)
   conv=>whnf
   refine Exists.intro ⟨a.1,b.1,n.1⟩ (And.intro rfl ?_)
   conv=>whnf
   exact ⟨(f,(ls++[⟨a.1,b.1,n.1⟩],z)),⟨q4,(by show z.r.length≤f;have:(advS q).r.length=q.r.tail.length:=rfl;omega),(by show (ls++[_]).length≤20;rw [List.length_append];show ls.length+1≤20;omega),hsp⟩,Nat.lt_succ_self f,(wk_of [(0,.id 0),(1,.id 4),(2,.id 8)] rfl ⟨wc0,ah0,ah0,trivial⟩ ⟨wb0,⟨_,rfl,(by first | exact .row _ _ _ _ _ _ _ rfl (by rw [List.map_append];rfl) | exact .lstrow _ _ _ _ _ _ _ rfl (by rw [List.map_append];rfl) | exact .nilrow _ _ _ _ _ (by rw [List.map_append];rfl) | exact .truncrow _ _ _ _ _ _ _ _ rfl (by omega) (by rw [List.map_append];rfl))⟩,⟨_,rfl,ag0⟩,trivial⟩)⟩
theorem calls_k {T:List Tok} {s:Sr} (h:SSt T s):KX 120 [] T s [.sl 2 encK k0 (callsS s.r.length [] s).1] (callsS s.r.length [] s).2 []:=by
 obtain ⟨v,hv⟩:∃ v,v=callsS s.r.length [] s:=⟨_,rfl⟩
 rw [← hv]
 refine rO (cxPOk 1 34 [0,2,3,4,6,9]) Tryz.func120 ?_
 conv=>whnf
 refine loop_inv (cxPOk _ _ _) (fun s:Nat×(List CallE×Sr)=>SSt T s.2.2∧s.2.2.r.length≤s.1∧s.2.1.length≤20∧v=callsS s.1 s.2.1 s.2.2) (fun s=>s.1) (fun s=>⟨[(0,.ptr 0 0),(3,.own 1)],[(0,.cells 74 (rcell T (s.2.2))),(1,.row 54 2 encK k0 (s.2.1))],2⟩) (s.r.length,([],s)) ⟨h,Nat.le_refl _,by simp,hv⟩ ((wk_of [(0,.id 0),(1,.nil)] rfl ⟨wc0,ah0,trivial⟩ ⟨wb0,⟨_,rfl,ag0⟩,trivial⟩)) ?_
 rintro ⟨f,ls,q⟩ ⟨hq,hqf,hls,hsp⟩
 dsimp only at hq hqf hls hsp ⊢
 obtain ⟨f,rfl⟩:∃ g,f=g+1:=⟨f-1,by have:=hq.st.pos;omega⟩
 have hi:=is_k hq [99,97,108,108]
 cases hb:isS [99,97,108,108] q with
 | false =>
  rw [hb] at hi
  conv=>whnf
  refine cO (fun _=>hi) ?_
  conv=>whnf
  refine gF ?_
  conv=>whnf
  rw [callsS,if_pos hb] at hsp
  rw [hsp]
  refine ⟨⟨[(2,.sl 2 encK k0 ls)],[(0,.cells 74 (rcell T q))],1⟩,(wk_frz [1]).trans (wk_of [(0,.id 0)] rfl ⟨wa0,trivial⟩ ⟨wb0,trivial⟩),rfl,rfl,?_⟩
  conv=>whnf
  exact ⟨rfl,rfl,rfl,rfl⟩
 | true =>
  rw [hb] at hi
  have q0:=is_ss (by decide) hb
  have q1:=hq.to q0
  have hat:=hq.at
  have hqp:=hq.st.pos
  have hqle:=hq.st.le
  have hbig:=hq.st.big
  have htl:=tail_lt hq.st.fin
  rw [callsS,if_neg (by rw [hb];decide)] at hsp
  conv=>whnf
  refine cO (fun _=>hi) ?_
  conv=>whnf
  refine gT ?_
  conv=>whnf
  cases h20:decide ((ls.length:Int)=20) with
  | true =>
   rw [if_pos (of_decide_eq_true h20)] at hsp
   rw [hsp]
   refine gT ?_
   conv=>whnf
   refine cR ((fail_k hq 6)) [0] ?_
   conv=>whnf
   refine ⟨⟨[(2,.sl 2 encK k0 ([]))],[(0,.cells 74 (rcell T ((failS 6 q))))],1⟩,(wk_of [(0,.id 0)] rfl ⟨.base (.leT _ _ (LeT.nils_sl 2 encK k0) rfl),trivial⟩ ⟨wb0,trivial⟩),rfl,rfl,?_⟩
   conv=>whnf
   exact ⟨rfl,rfl,rfl,rfl⟩
  | false =>
   have h20':=of_decide_eq_false h20
   rw [if_neg h20'] at hsp
   dsimp only at hsp
   have g1:=date_ss (-1) (advS q)
   have g2:=g1.trans (want_ss [97,116] (by decide) _)
   have g3:=g2.trans (num_ss 0 10000 _)
   have g4:=g3.trans (want_ss [59] (by decide) _)
   have cf:=date_k q1 (-1)
   have cw:=want_k (q1.to g1) [97,116]
   have cn:=num_k (q1.to g2) 0 10000
   have cz:=want_k (q1.to g3) [59]
   have q4:=q1.to g4
   have hl4:=g4.suf.le
   generalize wantS [59] (numS 0 10000 (wantS [97,116] (dateS (-1) (advS q)).2)).2=z at *
   generalize numS 0 10000 (wantS [97,116] (dateS (-1) (advS q)).2)=n at *
   generalize wantS [97,116] (dateS (-1) (advS q)).2=p at *
   generalize dateS (-1) (advS q)=a at *
   refine gF ?_
   conv=>whnf
   refine iO ?_
   conv=>whnf
   rw [hat]
   conv=>whnf
   refine cR (cf) [0] ?_
   conv=>whnf
   refine cR (cw) [0] ?_
   conv=>whnf
   refine cR (cn) [0] ?_
   conv=>whnf
   refine cR (cz) [0] ?_
   conv=>whnf
   refine And.intro rfl ?_
   conv=>whnf
   refine And.intro ⟨rfl,rfl⟩ (And.intro (by show (ls.length+1)*16≤140737488355328;omega) ?_)
   conv=>whnf
   refine Exists.intro ⟨a.1,n.1⟩ (And.intro rfl ?_)
   conv=>whnf
   exact ⟨(f,(ls++[⟨a.1,n.1⟩],z)),⟨q4,(by show z.r.length≤f;have:(advS q).r.length=q.r.tail.length:=rfl;omega),(by show (ls++[_]).length≤20;rw [List.length_append];show ls.length+1≤20;omega),hsp⟩,Nat.lt_succ_self f,(wk_of [(0,.id 0),(1,.id 4)] rfl ⟨wc0,ah0,trivial⟩ ⟨wb0,⟨_,rfl,ag0⟩,trivial⟩)⟩
theorem fresh_lt {T:List Tok} {q:Sr} (h:SSt T q) (he:q.er=none) (names:List (List UInt8)):mS (freshS names q).2<mS q:=by
 have h1:mS q=q.r.length:=by unfold mS;rw [he];rfl
 have h2:=h.st.pos
 have hf:∀ e,mS (failS e q)=0:=fun e=>by
  unfold mS failS
  rw [he]
  rfl
 unfold freshS
 split
 ·show mS (failS 12 q)<_;rw [hf,h1];exact h2
 split
 ·show mS (failS 5 q)<_;rw [hf,h1];exact h2
 ·exact adv_lt h he
theorem fresh_no {q:Sr} (he:q.er=none) (hn:namedS q=false) (names:List (List UInt8)):(freshS names q).2.er≠none:=by
 unfold freshS failS
 rw [if_pos hn,he]
 exact fun h=>by cases h
theorem fav_k {T:List Tok} {s:Sr} (h:SSt T s):KX 118 [] T s [.sl 1 encS [] (favS s).1] (favS s).2 []:=by
 cases hb:isS [102,97,118,111,117,114] s with
 | false =>
  have hs:favS s=([],s):=by unfold favS;rw [if_pos hb]
  rw [hs]
  refine rO (cxPOk 1 49 [0,2,3,4,7,22,37]) Tryz.func118 ?_
  conv=>whnf
  refine cR ((has_kf h hb)) [0] ?_
  conv=>whnf
  refine gT ?_
  conv=>whnf
  refine ⟨⟨[(2,.sl 1 encS [] ([]))],[(0,.cells 74 (rcell T s))],1⟩,(wk_of [(0,.id 0)] rfl ⟨.base (.leT _ _ (LeT.nils_sl 1 encS []) rfl),trivial⟩ ⟨wb0,trivial⟩),rfl,rfl,?_⟩
  conv=>whnf
  exact ⟨rfl,rfl,rfl,rfl⟩
 | true =>
  have h1:=h.to (is_ss (by decide) hb)
  obtain ⟨v,hv⟩:∃ v,v=favS s:=⟨_,rfl⟩
  rw [← hv]
  unfold favS at hv
  rw [if_neg (by rw [hb];decide)] at hv
  refine rO (cxPOk 1 49 [0,2,3,4,7,22,37]) Tryz.func118 ?_
  conv=>whnf
  refine cR ((has_kt h hb)) [0] ?_
  conv=>whnf
  refine gF ?_
  conv=>whnf
  refine loop_inv (cxPOk _ _ _) (fun s:Nat×(List (List UInt8)×Sr)=>SSt T s.2.2∧mS s.2.2<s.1∧(s.2.1.length≤21∧(s.2.1.length≤20∨s.2.2.er≠none))∧v=favQ s.1 s.2.1 s.2.2) (fun s=>s.1) (fun s=>⟨[(0,.ptr 0 0),(3,.own 1)],[(0,.cells 74 (rcell T (s.2.2))),(1,.row 9 1 encS [] (s.2.1))],2⟩) (mS (advS s)+1,([],advS s)) ⟨h1,Nat.lt_succ_self _,⟨by simp,.inl (by simp)⟩,hv⟩ ((wk_of [(0,.id 0),(1,.nil)] rfl ⟨wc0,ah0,trivial⟩ ⟨wb0,⟨_,rfl,ag0⟩,trivial⟩)) ?_
  rintro ⟨f,ls,q⟩ ⟨hq,hqf,⟨hls,hl20⟩,hsp⟩
  dsimp only at hq hqf hls hl20 hsp ⊢
  obtain ⟨f,rfl⟩:∃ g,f=g+1:=⟨f-1,by omega⟩
  cases he:q.er with
  | some x =>
   have hx:decide (errI q=0)=false:=decide_eq_false (by unfold errI;rw [he];exact hq.ok x he)
   have hs:v=(ls,wantS [59] q):=by rw [hsp,favQ,if_neg (fun y=>by rw [he] at y;exact Bool.noConfusion y.1)]
   rw [hs]
   conv=>whnf
   rw [hx]
   refine cF [.rop (rcell T q),.str [59]] [.val (.bool false)] ?_
   conv=>whnf
   refine gF ?_
   conv=>whnf
   refine cR ((want_k hq [59])) [0] ?_
   conv=>whnf
   refine ⟨⟨[(2,.sl 1 encS [] ls)],[(0,.cells 74 (rcell T ((wantS [59] q))))],1⟩,(wk_frz [1]).trans (wk_of [(0,.id 0)] rfl ⟨wa0,trivial⟩ ⟨wb0,trivial⟩),rfl,rfl,?_⟩
   conv=>whnf
   exact ⟨rfl,rfl,rfl,rfl⟩
  | none =>
  have hE:q.er.isSome=false:=by rw [he];rfl
  have hl20:ls.length≤20:=hl20.resolve_right (fun x=>x he)
  cases h0:decide ((ls.length:Int)=0) with
  | true =>
   have hg:(ls.length:Int)=0∨isS [59] q=false:=.inl (of_decide_eq_true h0)
   conv=>whnf
   rw [err_0 he]
   rw [h0]
   refine cF [.rop (rcell T q),.str [59]] [.val (.bool false)] ?_
   conv=>whnf
   refine gT ?_
   conv=>whnf
   have hx:=next_k hq
   have hm:=name2_ok (nextS q).text (by have:=hq.tlen;omega)
   refine cO (fun _=>hx) ?_
   conv=>whnf
   cases h20:decide ((ls.length:Int)=20) with
   | false =>
    have h20':=of_decide_eq_false h20
    have hns:¬ ((ls.length:Int)=20∧namedS q=true):=fun x=>h20' x.1
    have hnx:(ls++[(freshS ls q).1]).length≤21∧((ls++[(freshS ls q).1]).length≤20∨(freshS ls q).2.er≠none):=by
     rw [List.length_append]
     exact ⟨by show ls.length+1≤21;omega,.inl (by show ls.length+1≤20;omega)⟩
    refine cF [.str (nextS q).text] [.val (.bool false)] ?_
    conv=>whnf
    refine gF ?_
    conv=>whnf
    have hs:v=favQ f (ls++[(freshS ls q).1]) (freshS ls q).2:=by rw [hsp,favQ,if_pos ⟨hE,hg⟩,if_neg hns]
    have q2:=hq.to (fresh_ss ls q)
    have lt2:=fresh_lt hq he ls
    have cf:=fresh_k hq ls (by omega)
    generalize freshS ls q=a at *
    refine cR (cf) [0,1] ?_
    conv=>whnf
    refine And.intro rfl ?_
    conv=>whnf
    refine And.intro ⟨rfl,rfl⟩ (And.intro (by show (ls.length+1)*16≤140737488355328;omega) ?_)
    conv=>whnf
    refine Exists.intro a.1 (And.intro rfl ?_)
    conv=>whnf
    exact ⟨(f,(ls++[a.1],a.2)),⟨q2,(by show mS a.2<f;omega),hnx,hs⟩,Nat.lt_succ_self f,(wk_of [(0,.id 0),(1,.id 4)] rfl ⟨wc0,ah0,trivial⟩ ⟨wb0,⟨_,rfl,ag0⟩,trivial⟩)⟩
   | true =>
    have h20':=of_decide_eq_true h20
    cases hk:decide ((nextS q).kind=0) with
    | false =>
     have hnm:namedS q=false:=by unfold namedS;rw [hk];rfl
     have hns:¬ ((ls.length:Int)=20∧namedS q=true):=fun x=>by rw [hnm] at x;exact Bool.noConfusion x.2
     have hnx:(ls++[(freshS ls q).1]).length≤21∧((ls++[(freshS ls q).1]).length≤20∨(freshS ls q).2.er≠none):=by
      rw [List.length_append]
      exact ⟨by show ls.length+1≤21;omega,.inr (fresh_no he hnm ls)⟩
     refine cF [.str (nextS q).text] [.val (.bool false)] ?_
     conv=>whnf
     refine gF ?_
     conv=>whnf
     have hs:v=favQ f (ls++[(freshS ls q).1]) (freshS ls q).2:=by rw [hsp,favQ,if_pos ⟨hE,hg⟩,if_neg hns]
     have q2:=hq.to (fresh_ss ls q)
     have lt2:=fresh_lt hq he ls
     have cf:=fresh_k hq ls (by omega)
     generalize freshS ls q=a at *
     refine cR (cf) [0,1] ?_
     conv=>whnf
     refine And.intro rfl ?_
     conv=>whnf
     refine And.intro ⟨rfl,rfl⟩ (And.intro (by show (ls.length+1)*16≤140737488355328;omega) ?_)
     conv=>whnf
     refine Exists.intro a.1 (And.intro rfl ?_)
     conv=>whnf
     exact ⟨(f,(ls++[a.1],a.2)),⟨q2,(by show mS a.2<f;omega),hnx,hs⟩,Nat.lt_succ_self f,(wk_of [(0,.id 0),(1,.id 4)] rfl ⟨wc0,ah0,trivial⟩ ⟨wb0,⟨_,rfl,ag0⟩,trivial⟩)⟩
    | true =>
     cases hb:nameB (nextS q).text with
     | false =>
      rw [hb] at hm
      have hnm:namedS q=false:=by unfold namedS;rw [hk,hb];rfl
      have hns:¬ ((ls.length:Int)=20∧namedS q=true):=fun x=>by rw [hnm] at x;exact Bool.noConfusion x.2
      have hnx:(ls++[(freshS ls q).1]).length≤21∧((ls++[(freshS ls q).1]).length≤20∨(freshS ls q).2.er≠none):=by
       rw [List.length_append]
       exact ⟨by show ls.length+1≤21;omega,.inr (fresh_no he hnm ls)⟩
      refine cO (fun _=>hm) ?_
      conv=>whnf
      refine gF ?_
      conv=>whnf
      have hs:v=favQ f (ls++[(freshS ls q).1]) (freshS ls q).2:=by rw [hsp,favQ,if_pos ⟨hE,hg⟩,if_neg hns]
      have q2:=hq.to (fresh_ss ls q)
      have lt2:=fresh_lt hq he ls
      have cf:=fresh_k hq ls (by omega)
      generalize freshS ls q=a at *
      refine cR (cf) [0,1] ?_
      conv=>whnf
      refine And.intro rfl ?_
      conv=>whnf
      refine And.intro ⟨rfl,rfl⟩ (And.intro (by show (ls.length+1)*16≤140737488355328;omega) ?_)
      conv=>whnf
      refine Exists.intro a.1 (And.intro rfl ?_)
      conv=>whnf
      exact ⟨(f,(ls++[a.1],a.2)),⟨q2,(by show mS a.2<f;omega),hnx,hs⟩,Nat.lt_succ_self f,(wk_of [(0,.id 0),(1,.id 4)] rfl ⟨wc0,ah0,trivial⟩ ⟨wb0,⟨_,rfl,ag0⟩,trivial⟩)⟩
     | true =>
      rw [hb] at hm
      have hnm:namedS q=true:=by unfold namedS;rw [hk,hb];rfl
      have hs:v=([],failS 6 q):=by rw [hsp,favQ,if_pos ⟨hE,hg⟩,if_pos ⟨h20',hnm⟩]
      rw [hs]
      refine cO (fun _=>hm) ?_
      conv=>whnf
      refine gT ?_
      conv=>whnf
      refine cR ((fail_k hq 6)) [0] ?_
      conv=>whnf
      refine ⟨⟨[(2,.sl 1 encS [] ([]))],[(0,.cells 74 (rcell T ((failS 6 q))))],1⟩,(wk_of [(0,.id 0)] rfl ⟨.base (.leT _ _ (LeT.nils_sl 1 encS []) rfl),trivial⟩ ⟨wb0,trivial⟩),rfl,rfl,?_⟩
      conv=>whnf
      exact ⟨rfl,rfl,rfl,rfl⟩
  | false =>
   have h0':=of_decide_eq_false h0
   have hi:=is_k hq [59]
   cases h59:isS [59] q with
   | false =>
    rw [h59] at hi
    have hg:(ls.length:Int)=0∨isS [59] q=false:=.inr h59
    conv=>whnf
    rw [err_0 he]
    rw [h0]
    refine cO (fun _=>hi) ?_
    conv=>whnf
    refine gT ?_
    conv=>whnf
    have hx:=next_k hq
    have hm:=name2_ok (nextS q).text (by have:=hq.tlen;omega)
    refine cO (fun _=>hx) ?_
    conv=>whnf
    cases h20:decide ((ls.length:Int)=20) with
    | false =>
     have h20':=of_decide_eq_false h20
     have hns:¬ ((ls.length:Int)=20∧namedS q=true):=fun x=>h20' x.1
     have hnx:(ls++[(freshS ls q).1]).length≤21∧((ls++[(freshS ls q).1]).length≤20∨(freshS ls q).2.er≠none):=by
      rw [List.length_append]
      exact ⟨by show ls.length+1≤21;omega,.inl (by show ls.length+1≤20;omega)⟩
     refine cF [.str (nextS q).text] [.val (.bool false)] ?_
     conv=>whnf
     refine gF ?_
     conv=>whnf
     have hs:v=favQ f (ls++[(freshS ls q).1]) (freshS ls q).2:=by rw [hsp,favQ,if_pos ⟨hE,hg⟩,if_neg hns]
     have q2:=hq.to (fresh_ss ls q)
     have lt2:=fresh_lt hq he ls
     have cf:=fresh_k hq ls (by omega)
     generalize freshS ls q=a at *
     refine cR (cf) [0,1] ?_
     conv=>whnf
     refine And.intro rfl ?_
     conv=>whnf
     refine And.intro ⟨rfl,rfl⟩ (And.intro (by show (ls.length+1)*16≤140737488355328;omega) ?_)
     conv=>whnf
     refine Exists.intro a.1 (And.intro rfl ?_)
     conv=>whnf
     exact ⟨(f,(ls++[a.1],a.2)),⟨q2,(by show mS a.2<f;omega),hnx,hs⟩,Nat.lt_succ_self f,(wk_of [(0,.id 0),(1,.id 4)] rfl ⟨wc0,ah0,trivial⟩ ⟨wb0,⟨_,rfl,ag0⟩,trivial⟩)⟩
    | true =>
     have h20':=of_decide_eq_true h20
     cases hk:decide ((nextS q).kind=0) with
     | false =>
      have hnm:namedS q=false:=by unfold namedS;rw [hk];rfl
      have hns:¬ ((ls.length:Int)=20∧namedS q=true):=fun x=>by rw [hnm] at x;exact Bool.noConfusion x.2
      have hnx:(ls++[(freshS ls q).1]).length≤21∧((ls++[(freshS ls q).1]).length≤20∨(freshS ls q).2.er≠none):=by
       rw [List.length_append]
       exact ⟨by show ls.length+1≤21;omega,.inr (fresh_no he hnm ls)⟩
      refine cF [.str (nextS q).text] [.val (.bool false)] ?_
      conv=>whnf
      refine gF ?_
      conv=>whnf
      have hs:v=favQ f (ls++[(freshS ls q).1]) (freshS ls q).2:=by rw [hsp,favQ,if_pos ⟨hE,hg⟩,if_neg hns]
      have q2:=hq.to (fresh_ss ls q)
      have lt2:=fresh_lt hq he ls
      have cf:=fresh_k hq ls (by omega)
      generalize freshS ls q=a at *
      refine cR (cf) [0,1] ?_
      conv=>whnf
      refine And.intro rfl ?_
      conv=>whnf
      refine And.intro ⟨rfl,rfl⟩ (And.intro (by show (ls.length+1)*16≤140737488355328;omega) ?_)
      conv=>whnf
      refine Exists.intro a.1 (And.intro rfl ?_)
      conv=>whnf
      exact ⟨(f,(ls++[a.1],a.2)),⟨q2,(by show mS a.2<f;omega),hnx,hs⟩,Nat.lt_succ_self f,(wk_of [(0,.id 0),(1,.id 4)] rfl ⟨wc0,ah0,trivial⟩ ⟨wb0,⟨_,rfl,ag0⟩,trivial⟩)⟩
     | true =>
      cases hb:nameB (nextS q).text with
      | false =>
       rw [hb] at hm
       have hnm:namedS q=false:=by unfold namedS;rw [hk,hb];rfl
       have hns:¬ ((ls.length:Int)=20∧namedS q=true):=fun x=>by rw [hnm] at x;exact Bool.noConfusion x.2
       have hnx:(ls++[(freshS ls q).1]).length≤21∧((ls++[(freshS ls q).1]).length≤20∨(freshS ls q).2.er≠none):=by
        rw [List.length_append]
        exact ⟨by show ls.length+1≤21;omega,.inr (fresh_no he hnm ls)⟩
       refine cO (fun _=>hm) ?_
       conv=>whnf
       refine gF ?_
       conv=>whnf
       have hs:v=favQ f (ls++[(freshS ls q).1]) (freshS ls q).2:=by rw [hsp,favQ,if_pos ⟨hE,hg⟩,if_neg hns]
       have q2:=hq.to (fresh_ss ls q)
       have lt2:=fresh_lt hq he ls
       have cf:=fresh_k hq ls (by omega)
       generalize freshS ls q=a at *
       refine cR (cf) [0,1] ?_
       conv=>whnf
       refine And.intro rfl ?_
       conv=>whnf
       refine And.intro ⟨rfl,rfl⟩ (And.intro (by show (ls.length+1)*16≤140737488355328;omega) ?_)
       conv=>whnf
       refine Exists.intro a.1 (And.intro rfl ?_)
       conv=>whnf
       exact ⟨(f,(ls++[a.1],a.2)),⟨q2,(by show mS a.2<f;omega),hnx,hs⟩,Nat.lt_succ_self f,(wk_of [(0,.id 0),(1,.id 4)] rfl ⟨wc0,ah0,trivial⟩ ⟨wb0,⟨_,rfl,ag0⟩,trivial⟩)⟩
      | true =>
       rw [hb] at hm
       have hnm:namedS q=true:=by unfold namedS;rw [hk,hb];rfl
       have hs:v=([],failS 6 q):=by rw [hsp,favQ,if_pos ⟨hE,hg⟩,if_pos ⟨h20',hnm⟩]
       rw [hs]
       refine cO (fun _=>hm) ?_
       conv=>whnf
       refine gT ?_
       conv=>whnf
       refine cR ((fail_k hq 6)) [0] ?_
       conv=>whnf
       refine ⟨⟨[(2,.sl 1 encS [] ([]))],[(0,.cells 74 (rcell T ((failS 6 q))))],1⟩,(wk_of [(0,.id 0)] rfl ⟨.base (.leT _ _ (LeT.nils_sl 1 encS []) rfl),trivial⟩ ⟨wb0,trivial⟩),rfl,rfl,?_⟩
       conv=>whnf
       exact ⟨rfl,rfl,rfl,rfl⟩
   | true =>
    rw [h59] at hi
    have hs:v=(ls,wantS [59] q):=by rw [hsp,favQ,if_neg (fun y=>y.2.elim h0' (fun z=>by rw [h59] at z;exact Bool.noConfusion z))]
    rw [hs]
    conv=>whnf
    rw [err_0 he]
    rw [h0]
    refine cO (fun _=>hi) ?_
    conv=>whnf
    refine gF ?_
    conv=>whnf
    refine cR ((want_k hq [59])) [0] ?_
    conv=>whnf
    refine ⟨⟨[(2,.sl 1 encS [] ls)],[(0,.cells 74 (rcell T ((wantS [59] q))))],1⟩,(wk_frz [1]).trans (wk_of [(0,.id 0)] rfl ⟨wa0,trivial⟩ ⟨wb0,trivial⟩),rfl,rfl,?_⟩
    conv=>whnf
    exact ⟨rfl,rfl,rfl,rfl⟩
def indS (s:Sr):Ind×Sr :=
 let a1:=wantS [105,115,115,117,101] s
 let a2:=nameS a1
 let a3:=wantS [111,102] a2.2
 let a4:=nameS a3
 let a5:=wantS [59] a4.2
 let a6:=partS [102,97,99,101] 1 1000000000000000 a5
 let a7:=wantS [102,114,111,109] a6.2
 let a8:=dateS (-1) a7
 let a9:=wantS [116,111] a8.2
 let a10:=dateS a8.1 a9
 let a11:=wantS [101,118,101,114,121] a10.2
 let a12:=numS 1 120 a11
 let a13:=wantS [109,111,110,116,104,115] a12.2
 let a14:=wantS [59] a13
 let a15:=oneS [99,111,117,110,116] cntW a14
 let a16:=oneS [97,100,106,117,115,116] adjW a15.2
 let a17:=partS [114,101,99,111,114,100] 0 100 a16.2
 let a18:=partS [114,97,110,107] 0 9 a17.2
 let a19:=letsS a18.2.r.length [] a18.2
 let a20:=wantS [99,111,117,112,111,110] a19.2
 let a21:=wholeS [59] a20
 let a22:=partS [99,97,112] 0 10000 a21.2
 let a23:=covsS a22.2.r.length [] a22.2
 let a24:=favS a23.2
 let a25:=maybeS [99,114,111,115,115] 1000000000000000 (-1) a24.2
 let a26:=callsS a25.2.r.length [] a25.2
 let a27:=maybeS [110,111,116,105,99,101] 1000 0 a26.2
 let a28:=maybeS [115,105,110,107] 1000 0 a27.2
 let a29:=partS [109,97,106,111,114,105,116,121] 1 1000 a28.2
 let a30:=partS [102,97,115,116] 1 1000 a29.2
 (⟨a2.1,a4.1,a6.1,a8.1,a10.1,a12.1,a15.1,a16.1,a17.1,a18.1,a19.1,a21.1,a22.1,a23.1,a24.1,a25.1,a26.1,a27.1,a28.1,a29.1,a30.1⟩,if a30.2.er.isSome=false∧(nextS a30.2).kind≠3 then failS 12 a30.2 else a30.2)
theorem fin_ss (s:Sr):SS s (if s.er.isSome=false∧(nextS s).kind≠3 then failS 12 s else s):=by
 split
 ·exact fail_ss _ dd0 _
 ·exact .refl _
theorem ind_ss (s:Sr):SS s (indS s).2:=by
 unfold indS
 dsimp only
 exact ((((((((((((((((((((((((((((((want_ss [105,115,115,117,101] dd0 _).trans (name_ss _)).trans (want_ss [111,102] dd0 _)).trans (name_ss _)).trans (want_ss [59] dd0 _)).trans (part_ss [102,97,99,101] dd0 _ _ _)).trans (want_ss [102,114,111,109] dd0 _)).trans (date_ss _ _)).trans (want_ss [116,111] dd0 _)).trans (date_ss _ _)).trans (want_ss [101,118,101,114,121] dd0 _)).trans (num_ss _ _ _)).trans (want_ss [109,111,110,116,104,115] dd0 _)).trans (want_ss [59] dd0 _)).trans (one_ss [99,111,117,110,116] dd0 cntW dd0 _)).trans (one_ss [97,100,106,117,115,116] dd0 adjW dd0 _)).trans (part_ss [114,101,99,111,114,100] dd0 _ _ _)).trans (part_ss [114,97,110,107] dd0 _ _ _)).trans (lets_ss _ _ _)).trans (want_ss [99,111,117,112,111,110] dd0 _)).trans (whole_ss _ _)).trans (part_ss [99,97,112] dd0 _ _ _)).trans (covs_ss _ _ _)).trans (fav_ss _)).trans (maybe_ss [99,114,111,115,115] dd0 _ _ _)).trans (calls_ss _ _ _)).trans (maybe_ss [110,111,116,105,99,101] dd0 _ _ _)).trans (maybe_ss [115,105,110,107] dd0 _ _ _)).trans (part_ss [109,97,106,111,114,105,116,121] dd0 _ _ _)).trans (part_ss [102,97,115,116] dd0 _ _ _)).trans (fin_ss _)
theorem ind_k {T:List Tok} {s:Sr} (h:SSt T s):KX 43 [] T s [encX (indS s).1] (indS s).2 [.cells 31 (celX (indS s).1)]:=by
 obtain ⟨a1,h1⟩:∃ a,a=wantS [105,115,115,117,101] s:=⟨_,rfl⟩
 have q1:SSt T a1:=by rw [h1];exact SSt.to h (want_ss [105,115,115,117,101] (by decide) _)
 have c1:KX 110 [.str [105,115,115,117,101]] T s [] a1 []:=by rw [h1];exact want_k h [105,115,115,117,101]
 obtain ⟨a2,h2⟩:∃ a,a=nameS a1:=⟨_,rfl⟩
 have q2:SSt T a2.2:=by rw [h2];exact SSt.to q1 (name_ss _)
 have c2:KX 111 [] T a1 [.str a2.1] a2.2 []:=by rw [h2];exact name_k q1
 obtain ⟨a3,h3⟩:∃ a,a=wantS [111,102] a2.2:=⟨_,rfl⟩
 have q3:SSt T a3:=by rw [h3];exact SSt.to q2 (want_ss [111,102] (by decide) _)
 have c3:KX 110 [.str [111,102]] T a2.2 [] a3 []:=by rw [h3];exact want_k q2 [111,102]
 obtain ⟨a4,h4⟩:∃ a,a=nameS a3:=⟨_,rfl⟩
 have q4:SSt T a4.2:=by rw [h4];exact SSt.to q3 (name_ss _)
 have c4:KX 111 [] T a3 [.str a4.1] a4.2 []:=by rw [h4];exact name_k q3
 obtain ⟨a5,h5⟩:∃ a,a=wantS [59] a4.2:=⟨_,rfl⟩
 have q5:SSt T a5:=by rw [h5];exact SSt.to q4 (want_ss [59] (by decide) _)
 have c5:KX 110 [.str [59]] T a4.2 [] a5 []:=by rw [h5];exact want_k q4 [59]
 obtain ⟨a6,h6⟩:∃ a,a=partS [102,97,99,101] 1 1000000000000000 a5:=⟨_,rfl⟩
 have q6:SSt T a6.2:=by rw [h6];exact SSt.to q5 (part_ss [102,97,99,101] (by decide) _ _ _)
 have c6:KX 112 [.str [102,97,99,101],.int .i64 1,.int .i64 1000000000000000] T a5 [.int .i64 a6.1] a6.2 []:=by rw [h6];exact part_k q5 (by decide) 1 1000000000000000
 obtain ⟨a7,h7⟩:∃ a,a=wantS [102,114,111,109] a6.2:=⟨_,rfl⟩
 have q7:SSt T a7:=by rw [h7];exact SSt.to q6 (want_ss [102,114,111,109] (by decide) _)
 have c7:KX 110 [.str [102,114,111,109]] T a6.2 [] a7 []:=by rw [h7];exact want_k q6 [102,114,111,109]
 obtain ⟨a8,h8⟩:∃ a,a=dateS (-1) a7:=⟨_,rfl⟩
 have q8:SSt T a8.2:=by rw [h8];exact SSt.to q7 (date_ss _ _)
 have c8:KX 113 [.int .i64 (-1)] T a7 [.int .i64 a8.1] a8.2 []:=by rw [h8];exact date_k q7 (-1)
 obtain ⟨a9,h9⟩:∃ a,a=wantS [116,111] a8.2:=⟨_,rfl⟩
 have q9:SSt T a9:=by rw [h9];exact SSt.to q8 (want_ss [116,111] (by decide) _)
 have c9:KX 110 [.str [116,111]] T a8.2 [] a9 []:=by rw [h9];exact want_k q8 [116,111]
 obtain ⟨a10,h10⟩:∃ a,a=dateS a8.1 a9:=⟨_,rfl⟩
 have q10:SSt T a10.2:=by rw [h10];exact SSt.to q9 (date_ss _ _)
 have c10:KX 113 [.int .i64 a8.1] T a9 [.int .i64 a10.1] a10.2 []:=by rw [h10];exact date_k q9 a8.1
 obtain ⟨a11,h11⟩:∃ a,a=wantS [101,118,101,114,121] a10.2:=⟨_,rfl⟩
 have q11:SSt T a11:=by rw [h11];exact SSt.to q10 (want_ss [101,118,101,114,121] (by decide) _)
 have c11:KX 110 [.str [101,118,101,114,121]] T a10.2 [] a11 []:=by rw [h11];exact want_k q10 [101,118,101,114,121]
 obtain ⟨a12,h12⟩:∃ a,a=numS 1 120 a11:=⟨_,rfl⟩
 have q12:SSt T a12.2:=by rw [h12];exact SSt.to q11 (num_ss _ _ _)
 have c12:KX 114 [.int .i64 1,.int .i64 120] T a11 [.int .i64 a12.1] a12.2 []:=by rw [h12];exact num_k q11 1 120
 obtain ⟨a13,h13⟩:∃ a,a=wantS [109,111,110,116,104,115] a12.2:=⟨_,rfl⟩
 have q13:SSt T a13:=by rw [h13];exact SSt.to q12 (want_ss [109,111,110,116,104,115] (by decide) _)
 have c13:KX 110 [.str [109,111,110,116,104,115]] T a12.2 [] a13 []:=by rw [h13];exact want_k q12 [109,111,110,116,104,115]
 obtain ⟨a14,h14⟩:∃ a,a=wantS [59] a13:=⟨_,rfl⟩
 have q14:SSt T a14:=by rw [h14];exact SSt.to q13 (want_ss [59] (by decide) _)
 have c14:KX 110 [.str [59]] T a13 [] a14 []:=by rw [h14];exact want_k q13 [59]
 obtain ⟨a15,h15⟩:∃ a,a=oneS [99,111,117,110,116] cntW a14:=⟨_,rfl⟩
 have q15:SSt T a15.2:=by rw [h15];exact SSt.to q14 (one_ss [99,111,117,110,116] (by decide) cntW (by decide) _)
 have c15:KX 115 [.str [99,111,117,110,116],.sl 1 encS [] cntW] T a14 [.int .i64 a15.1] a15.2 []:=by rw [h15];exact one_k q14 (by decide) cntW (by decide) (by decide)
 obtain ⟨a16,h16⟩:∃ a,a=oneS [97,100,106,117,115,116] adjW a15.2:=⟨_,rfl⟩
 have q16:SSt T a16.2:=by rw [h16];exact SSt.to q15 (one_ss [97,100,106,117,115,116] (by decide) adjW (by decide) _)
 have c16:KX 115 [.str [97,100,106,117,115,116],.sl 1 encS [] adjW] T a15.2 [.int .i64 a16.1] a16.2 []:=by rw [h16];exact one_k q15 (by decide) adjW (by decide) (by decide)
 obtain ⟨a17,h17⟩:∃ a,a=partS [114,101,99,111,114,100] 0 100 a16.2:=⟨_,rfl⟩
 have q17:SSt T a17.2:=by rw [h17];exact SSt.to q16 (part_ss [114,101,99,111,114,100] (by decide) _ _ _)
 have c17:KX 112 [.str [114,101,99,111,114,100],.int .i64 0,.int .i64 100] T a16.2 [.int .i64 a17.1] a17.2 []:=by rw [h17];exact part_k q16 (by decide) 0 100
 obtain ⟨a18,h18⟩:∃ a,a=partS [114,97,110,107] 0 9 a17.2:=⟨_,rfl⟩
 have q18:SSt T a18.2:=by rw [h18];exact SSt.to q17 (part_ss [114,97,110,107] (by decide) _ _ _)
 have c18:KX 112 [.str [114,97,110,107],.int .i64 0,.int .i64 9] T a17.2 [.int .i64 a18.1] a18.2 []:=by rw [h18];exact part_k q17 (by decide) 0 9
 obtain ⟨a19,h19⟩:∃ a,a=letsS a18.2.r.length [] a18.2:=⟨_,rfl⟩
 have q19:SSt T a19.2:=by rw [h19];exact SSt.to q18 (lets_ss _ _ _)
 have c19:KX 116 [] T a18.2 [.sl 6 encL l0 a19.1] a19.2 []:=by rw [h19];exact lets_k q18
 obtain ⟨a20,h20⟩:∃ a,a=wantS [99,111,117,112,111,110] a19.2:=⟨_,rfl⟩
 have q20:SSt T a20:=by rw [h20];exact SSt.to q19 (want_ss [99,111,117,112,111,110] (by decide) _)
 have c20:KX 110 [.str [99,111,117,112,111,110]] T a19.2 [] a20 []:=by rw [h20];exact want_k q19 [99,111,117,112,111,110]
 obtain ⟨a21,h21⟩:∃ a,a=wholeS [59] a20:=⟨_,rfl⟩
 have q21:SSt T a21.2:=by rw [h21];exact SSt.to q20 (whole_ss _ _)
 have c21:KX 49 [.str [59]] T a20 [encE a21.1] a21.2 [.cells 26 (cellsE a21.1)]:=by rw [h21];exact whole_k q20 [59]
 obtain ⟨a22,h22⟩:∃ a,a=partS [99,97,112] 0 10000 a21.2:=⟨_,rfl⟩
 have q22:SSt T a22.2:=by rw [h22];exact SSt.to q21 (part_ss [99,97,112] (by decide) _ _ _)
 have c22:KX 112 [.str [99,97,112],.int .i64 0,.int .i64 10000] T a21.2 [.int .i64 a22.1] a22.2 []:=by rw [h22];exact part_k q21 (by decide) 0 10000
 obtain ⟨a23,h23⟩:∃ a,a=covsS a22.2.r.length [] a22.2:=⟨_,rfl⟩
 have q23:SSt T a23.2:=by rw [h23];exact SSt.to q22 (covs_ss _ _ _)
 have c23:KX 117 [] T a22.2 [.sl 7 encC c0 a23.1] a23.2 []:=by rw [h23];exact covs_k q22
 obtain ⟨a24,h24⟩:∃ a,a=favS a23.2:=⟨_,rfl⟩
 have q24:SSt T a24.2:=by rw [h24];exact SSt.to q23 (fav_ss _)
 have c24:KX 118 [] T a23.2 [.sl 1 encS [] a24.1] a24.2 []:=by rw [h24];exact fav_k q23
 obtain ⟨a25,h25⟩:∃ a,a=maybeS [99,114,111,115,115] 1000000000000000 (-1) a24.2:=⟨_,rfl⟩
 have q25:SSt T a25.2:=by rw [h25];exact SSt.to q24 (maybe_ss [99,114,111,115,115] (by decide) _ _ _)
 have c25:KX 119 [.str [99,114,111,115,115],.int .i64 1000000000000000,.int .i64 (-1)] T a24.2 [.int .i64 a25.1] a25.2 []:=by rw [h25];exact maybe_k q24 (by decide) 1000000000000000 (-1)
 obtain ⟨a26,h26⟩:∃ a,a=callsS a25.2.r.length [] a25.2:=⟨_,rfl⟩
 have q26:SSt T a26.2:=by rw [h26];exact SSt.to q25 (calls_ss _ _ _)
 have c26:KX 120 [] T a25.2 [.sl 2 encK k0 a26.1] a26.2 []:=by rw [h26];exact calls_k q25
 obtain ⟨a27,h27⟩:∃ a,a=maybeS [110,111,116,105,99,101] 1000 0 a26.2:=⟨_,rfl⟩
 have q27:SSt T a27.2:=by rw [h27];exact SSt.to q26 (maybe_ss [110,111,116,105,99,101] (by decide) _ _ _)
 have c27:KX 119 [.str [110,111,116,105,99,101],.int .i64 1000,.int .i64 0] T a26.2 [.int .i64 a27.1] a27.2 []:=by rw [h27];exact maybe_k q26 (by decide) 1000 0
 obtain ⟨a28,h28⟩:∃ a,a=maybeS [115,105,110,107] 1000 0 a27.2:=⟨_,rfl⟩
 have q28:SSt T a28.2:=by rw [h28];exact SSt.to q27 (maybe_ss [115,105,110,107] (by decide) _ _ _)
 have c28:KX 119 [.str [115,105,110,107],.int .i64 1000,.int .i64 0] T a27.2 [.int .i64 a28.1] a28.2 []:=by rw [h28];exact maybe_k q27 (by decide) 1000 0
 obtain ⟨a29,h29⟩:∃ a,a=partS [109,97,106,111,114,105,116,121] 1 1000 a28.2:=⟨_,rfl⟩
 have q29:SSt T a29.2:=by rw [h29];exact SSt.to q28 (part_ss [109,97,106,111,114,105,116,121] (by decide) _ _ _)
 have c29:KX 112 [.str [109,97,106,111,114,105,116,121],.int .i64 1,.int .i64 1000] T a28.2 [.int .i64 a29.1] a29.2 []:=by rw [h29];exact part_k q28 (by decide) 1 1000
 obtain ⟨a30,h30⟩:∃ a,a=partS [102,97,115,116] 1 1000 a29.2:=⟨_,rfl⟩
 have q30:SSt T a30.2:=by rw [h30];exact SSt.to q29 (part_ss [102,97,115,116] (by decide) _ _ _)
 have c30:KX 112 [.str [102,97,115,116],.int .i64 1,.int .i64 1000] T a29.2 [.int .i64 a30.1] a30.2 []:=by rw [h30];exact part_k q29 (by decide) 1 1000
 have hv:indS s=(⟨a2.1,a4.1,a6.1,a8.1,a10.1,a12.1,a15.1,a16.1,a17.1,a18.1,a19.1,a21.1,a22.1,a23.1,a24.1,a25.1,a26.1,a27.1,a28.1,a29.1,a30.1⟩,if a30.2.er.isSome=false∧(nextS a30.2).kind≠3 then failS 12 a30.2 else a30.2):=by subst_vars;rfl
 rw [hv]
 clear hv h1 h2 h3 h4 h5 h6 h7 h8 h9 h10 h11 h12 h13 h14 h15 h16 h17 h18 h19 h20 h21 h22 h23 h24 h25 h26 h27 h28 h29 h30
 have hn:=next_k q30
 cases he:a30.2.er with
 | some x =>
  have hx:decide (errI a30.2=0)=false:=decide_eq_false (by unfold errI;rw [he];exact q30.ok x he)
  rw [if_neg (show ¬ ((some x).isSome=false∧(nextS a30.2).kind≠3) from fun y=>Bool.noConfusion y.1)]
  refine rO (cxPOk 1 104 [0,2,3,100]) Tryz.func43 ?_
  conv=>whnf
  refine cR (c1) [0] ?_
  conv=>whnf
  refine cR (c2) [0] ?_
  conv=>whnf
  refine cR (c3) [0] ?_
  conv=>whnf
  refine cR (c4) [0] ?_
  conv=>whnf
  refine cR (c5) [0] ?_
  conv=>whnf
  refine cR (c6) [0] ?_
  conv=>whnf
  refine cR (c7) [0] ?_
  conv=>whnf
  refine cR (c8) [0] ?_
  conv=>whnf
  refine cR (c9) [0] ?_
  conv=>whnf
  refine cR (c10) [0] ?_
  conv=>whnf
  refine cR (c11) [0] ?_
  conv=>whnf
  refine cR (c12) [0] ?_
  conv=>whnf
  refine cR (c13) [0] ?_
  conv=>whnf
  refine cR (c14) [0] ?_
  conv=>whnf
  refine cO (fun _=>cnt2_ok) ?_
  conv=>whnf
  refine cR (c15) [0] ?_
  conv=>whnf
  refine cO (fun _=>adj2_ok) ?_
  conv=>whnf
  refine cR (c16) [0] ?_
  conv=>whnf
  refine cR (c17) [0] ?_
  conv=>whnf
  refine cR (c18) [0] ?_
  conv=>whnf
  refine cR (c19) [0] ?_
  conv=>whnf
  refine cR (c20) [0] ?_
  conv=>whnf
  refine cR (c21) [0] ?_
  conv=>whnf
  refine cR (c22) [0] ?_
  conv=>whnf
  refine cR (c23) [0] ?_
  conv=>whnf
  refine cR (c24) [0] ?_
  conv=>whnf
  refine cR (c25) [0] ?_
  conv=>whnf
  refine cR (c26) [0] ?_
  conv=>whnf
  refine cR (c27) [0] ?_
  conv=>whnf
  refine cR (c28) [0] ?_
  conv=>whnf
  refine cR (c29) [0] ?_
  conv=>whnf
  refine cR (c30) [0] ?_
  conv=>whnf
  rw [hx]
  refine gF ?_
  conv=>whnf
  refine gF ?_
  conv=>whnf
  refine ⟨⟨[(2,.ptr 1 0)],[(0,.cells 74 (rcell T (a30.2))),(1,.cells 31 (celX ((Ind.mk a2.1 a4.1 a6.1 a8.1 a10.1 a12.1 a15.1 a16.1 a17.1 a18.1 a19.1 a21.1 a22.1 a23.1 a24.1 a25.1 a26.1 a27.1 a28.1 a29.1 a30.1))))],2⟩,(wk_of [(0,.id 0),(1,.id 1)] rfl ⟨wc0,trivial⟩ ⟨wb0,wb0,trivial⟩),rfl,rfl,?_⟩
  conv=>whnf
  exact ⟨rfl,rfl,rfl,rfl⟩
 | none =>
 cases hk:decide ((nextS a30.2).kind=3) with
 | true =>
  rw [if_neg (show ¬ ((none:Option Er).isSome=false∧(nextS a30.2).kind≠3) from fun y=>y.2 (of_decide_eq_true hk))]
  refine rO (cxPOk 1 104 [0,2,3,100]) Tryz.func43 ?_
  conv=>whnf
  refine cR (c1) [0] ?_
  conv=>whnf
  refine cR (c2) [0] ?_
  conv=>whnf
  refine cR (c3) [0] ?_
  conv=>whnf
  refine cR (c4) [0] ?_
  conv=>whnf
  refine cR (c5) [0] ?_
  conv=>whnf
  refine cR (c6) [0] ?_
  conv=>whnf
  refine cR (c7) [0] ?_
  conv=>whnf
  refine cR (c8) [0] ?_
  conv=>whnf
  refine cR (c9) [0] ?_
  conv=>whnf
  refine cR (c10) [0] ?_
  conv=>whnf
  refine cR (c11) [0] ?_
  conv=>whnf
  refine cR (c12) [0] ?_
  conv=>whnf
  refine cR (c13) [0] ?_
  conv=>whnf
  refine cR (c14) [0] ?_
  conv=>whnf
  refine cO (fun _=>cnt2_ok) ?_
  conv=>whnf
  refine cR (c15) [0] ?_
  conv=>whnf
  refine cO (fun _=>adj2_ok) ?_
  conv=>whnf
  refine cR (c16) [0] ?_
  conv=>whnf
  refine cR (c17) [0] ?_
  conv=>whnf
  refine cR (c18) [0] ?_
  conv=>whnf
  refine cR (c19) [0] ?_
  conv=>whnf
  refine cR (c20) [0] ?_
  conv=>whnf
  refine cR (c21) [0] ?_
  conv=>whnf
  refine cR (c22) [0] ?_
  conv=>whnf
  refine cR (c23) [0] ?_
  conv=>whnf
  refine cR (c24) [0] ?_
  conv=>whnf
  refine cR (c25) [0] ?_
  conv=>whnf
  refine cR (c26) [0] ?_
  conv=>whnf
  refine cR (c27) [0] ?_
  conv=>whnf
  refine cR (c28) [0] ?_
  conv=>whnf
  refine cR (c29) [0] ?_
  conv=>whnf
  refine cR (c30) [0] ?_
  conv=>whnf
  rw [err_0 he]
  refine gT ?_
  conv=>whnf
  refine cO (fun _=>hn) ?_
  conv=>whnf
  rw [hk]
  refine gF ?_
  conv=>whnf
  refine ⟨⟨[(2,.ptr 1 0)],[(0,.cells 74 (rcell T (a30.2))),(1,.cells 31 (celX ((Ind.mk a2.1 a4.1 a6.1 a8.1 a10.1 a12.1 a15.1 a16.1 a17.1 a18.1 a19.1 a21.1 a22.1 a23.1 a24.1 a25.1 a26.1 a27.1 a28.1 a29.1 a30.1))))],2⟩,(wk_of [(0,.id 0),(1,.id 1)] rfl ⟨wc0,trivial⟩ ⟨wb0,wb0,trivial⟩),rfl,rfl,?_⟩
  conv=>whnf
  exact ⟨rfl,rfl,rfl,rfl⟩
 | false =>
  rw [if_pos (show ((none:Option Er).isSome=false∧(nextS a30.2).kind≠3) from ⟨rfl,of_decide_eq_false hk⟩)]
  refine rO (cxPOk 1 104 [0,2,3,100]) Tryz.func43 ?_
  conv=>whnf
  refine cR (c1) [0] ?_
  conv=>whnf
  refine cR (c2) [0] ?_
  conv=>whnf
  refine cR (c3) [0] ?_
  conv=>whnf
  refine cR (c4) [0] ?_
  conv=>whnf
  refine cR (c5) [0] ?_
  conv=>whnf
  refine cR (c6) [0] ?_
  conv=>whnf
  refine cR (c7) [0] ?_
  conv=>whnf
  refine cR (c8) [0] ?_
  conv=>whnf
  refine cR (c9) [0] ?_
  conv=>whnf
  refine cR (c10) [0] ?_
  conv=>whnf
  refine cR (c11) [0] ?_
  conv=>whnf
  refine cR (c12) [0] ?_
  conv=>whnf
  refine cR (c13) [0] ?_
  conv=>whnf
  refine cR (c14) [0] ?_
  conv=>whnf
  refine cO (fun _=>cnt2_ok) ?_
  conv=>whnf
  refine cR (c15) [0] ?_
  conv=>whnf
  refine cO (fun _=>adj2_ok) ?_
  conv=>whnf
  refine cR (c16) [0] ?_
  conv=>whnf
  refine cR (c17) [0] ?_
  conv=>whnf
  refine cR (c18) [0] ?_
  conv=>whnf
  refine cR (c19) [0] ?_
  conv=>whnf
  refine cR (c20) [0] ?_
  conv=>whnf
  refine cR (c21) [0] ?_
  conv=>whnf
  refine cR (c22) [0] ?_
  conv=>whnf
  refine cR (c23) [0] ?_
  conv=>whnf
  refine cR (c24) [0] ?_
  conv=>whnf
  refine cR (c25) [0] ?_
  conv=>whnf
  refine cR (c26) [0] ?_
  conv=>whnf
  refine cR (c27) [0] ?_
  conv=>whnf
  refine cR (c28) [0] ?_
  conv=>whnf
  refine cR (c29) [0] ?_
  conv=>whnf
  refine cR (c30) [0] ?_
  conv=>whnf
  rw [err_0 he]
  refine gT ?_
  conv=>whnf
  refine cO (fun _=>hn) ?_
  conv=>whnf
  rw [hk]
  refine gT ?_
  conv=>whnf
  refine cR ((fail_k q30 12)) [0] ?_
  conv=>whnf
  refine ⟨⟨[(2,.ptr 1 0)],[(0,.cells 74 (rcell T ((failS 12 a30.2)))),(1,.cells 31 (celX ((Ind.mk a2.1 a4.1 a6.1 a8.1 a10.1 a12.1 a15.1 a16.1 a17.1 a18.1 a19.1 a21.1 a22.1 a23.1 a24.1 a25.1 a26.1 a27.1 a28.1 a29.1 a30.1))))],2⟩,(wk_of [(0,.id 0),(1,.id 1)] rfl ⟨wc0,trivial⟩ ⟨wb0,wb0,trivial⟩),rfl,rfl,?_⟩
  conv=>whnf
  exact ⟨rfl,rfl,rfl,rfl⟩
theorem nTF:¬ true=false:=fun h=>Bool.noConfusion h
theorem whole_ag {w:List UInt8} (hw:w≠[]) {r:List Tok} (hf:Fin1 r):Ag (wholeP w r) (wholeS w (sN r)):=by
 have ha:=exp_ag r.length 0 r (by omega) (by omega) hf (Nat.le_refl _)
 unfold wholeP wholeS
 dsimp only
 cases e1:expP r.length 0 r with
 | error e =>
  rw [e1] at ha
  have ha:(exC 0 (sN r)).2.er=some e:=ha
  rw [ha,if_pos (show (some e).isSome=true from rfl)]
  exact ha
 | ok v =>
 obtain ⟨x,r1⟩:=v
 rw [ag_ok ha e1]
 dsimp only
 rw [if_neg (show ¬ (none:Option Er).isSome=true from fun h=>Bool.noConfusion h)]
 have hi:isS w (sN r1)=isT w r1:=rfl
 rw [hi]
 cases hb:isT w r1 with
 | false =>
  rw [if_pos (show false=false from rfl),if_pos (show w=[]∧(nextS (sN r1)).kind≠3∨w≠[]∧false=false from .inr ⟨hw,rfl⟩)]
  rfl
 | true =>
  rw [if_neg (show ¬ true=false from fun h=>Bool.noConfusion h),if_neg (show ¬ (w=[]∧(nextS (sN r1)).kind≠3∨w≠[]∧true=false) from fun y=>y.elim (fun z=>hw z.1) (fun z=>Bool.noConfusion z.2))]
  by_cases h12:((lev x:Nat):Int)≤12
  ·rw [if_pos h12,if_neg (show ¬ 12<((lev x:Nat):Int) by omega),if_pos hw]
   rfl
  ·rw [if_neg h12,if_pos (show 12<((lev x:Nat):Int) by omega)]
   rfl
theorem part_ag (w:List UInt8) (a b:Int) (r:List Tok):Ag (partP w a b r) (partS w a b (sN r)):=by
 have a1:=want_ag w r
 unfold partP partS
 cases e1:wantP w r with
 | error e=>exact agR_er a1 e1 ((num_ss a b _).trans (want_ss [59] (by decide) _))
 | ok r1 =>
 rw [agR_ok a1 e1]
 dsimp only
 have a2:=num_ag a b r1
 cases e2:numP a b r1 with
 | error e=>exact ag_er a2 e2 (want_ss [59] (by decide) _)
 | ok v =>
 obtain ⟨n,r2⟩:=v
 rw [ag_ok a2 e2]
 dsimp only
 have a3:=want_ag [59] r2
 cases e3:wantP [59] r2 with
 | error e=>exact agR_er a3 e3 (.refl _)
 | ok r3 =>
 rw [agR_ok a3 e3]
 rfl
theorem maybe_ag (w:List UInt8) (a n0:Int) (r:List Tok):Ag (maybeP w a n0 r) (maybeS w a n0 (sN r)):=by
 unfold maybeP maybeS
 have hi:isS w (sN r)=isT w r:=rfl
 rw [hi]
 cases isT w r with
 | true=>exact part_ag w 0 a r
 | false=>rfl
theorem one_ag (w:List UInt8) (ws:List (List UInt8)) (hws:∀ x∈ws,x≠[]) (r:List Tok):Ag (oneP w ws r) (oneS w ws (sN r)):=by
 have a1:=want_ag w r
 unfold oneP oneS
 dsimp only
 cases e1:wantP w r with
 | error e =>
  rw [e1] at a1
  refine agR_er a1 rfl ?_
  have hb:∀ x,x∈ws→isS x (wantS w (sN r))=false:=by
   intro x hx
   have h:(wantS w (sN r)).er=some e:=a1
   cases hi:isS x (wantS w (sN r)) with
   | false=>rfl
   | true =>
    have:=is_none (hws x hx) hi
    rw [h] at this
    cases this
  have hi:idxP (fun x=>isS x (wantS w (sN r))) ws=-1:=idxP_none (d:=[]) (fun j hj=>hb _ (by
   rw [List.getD_eq_getElem?_getD,List.getElem?_eq_getElem hj]
   exact List.getElem_mem _))
  rw [hi,if_pos (by decide)]
  exact fail_ss _ dd0 _
 | ok r1 =>
 rw [agR_ok a1 e1]
 have hx:(fun x=>isS x (sN r1))=(fun x=>isT x r1):=rfl
 rw [hx]
 dsimp only
 by_cases hi:idxP (fun x=>isT x r1) ws<0
 ·rw [if_pos hi,if_pos hi]
  rfl
 rw [if_neg hi,if_neg hi]
 have a2:=want_ag [59] r1.tail
 have ha:advS (sN r1)=sN r1.tail:=rfl
 rw [ha]
 cases e2:wantP [59] r1.tail with
 | error e=>exact agR_er a2 e2 (.refl _)
 | ok r2 =>
 rw [agR_ok a2 e2]
 rfl
theorem date_ag (least:Int) (r:List Tok):Ag (dateP least r) (dateS least (sN r)):=by
 unfold dateP dateS
 dsimp only
 have tl:∀ (y m:Int) (s:Sr),SS s (if (nextS s).kind≠1 then (0,failS 12 s) else if (dayOf y m (nextS s).n).2≠0 then (0,failS 23 s) else if (dayOf y m (nextS s).n).1≤least then (0,failS 3 s) else ((dayOf y m (nextS s).n).1,advS s)).2:=by
  intro y m s
  split
  ·exact fail_ss _ dd0 _
  rename_i hk
  have hk:=Decidable.of_not_not hk
  split
  ·exact fail_ss _ dd0 _
  split
  ·exact fail_ss _ dd0 _
  ·exact adv_ss (by rw [hk];decide) (kind_none hk)
 have a1:=num_ag 0 1000000000000000 r
 cases e1:numP 0 1000000000000000 r with
 | error e=>exact ag_er a1 e1 ((((want_ss [45] (by decide) _).trans (num_ss 0 1000000000000000 _)).trans (want_ss [45] (by decide) _)).trans (tl _ _ _))
 | ok v =>
 obtain ⟨y,r1⟩:=v
 rw [ag_ok a1 e1]
 dsimp only
 have a2:=want_ag [45] r1
 cases e2:wantP [45] r1 with
 | error e=>exact agR_er a2 e2 (((num_ss 0 1000000000000000 _).trans (want_ss [45] (by decide) _)).trans (tl _ _ _))
 | ok r2 =>
 rw [agR_ok a2 e2]
 dsimp only
 have a3:=num_ag 0 1000000000000000 r2
 cases e3:numP 0 1000000000000000 r2 with
 | error e=>exact ag_er a3 e3 ((want_ss [45] (by decide) _).trans (tl _ _ _))
 | ok v =>
 obtain ⟨m,r3⟩:=v
 rw [ag_ok a3 e3]
 dsimp only
 have a4:=want_ag [45] r3
 cases e4:wantP [45] r3 with
 | error e=>exact agR_er a4 e4 (tl _ _ _)
 | ok r4 =>
 rw [agR_ok a4 e4]
 have hx:nextS (sN r4)=hdT r4:=rfl
 dsimp only
 rw [hx]
 by_cases hk:(hdT r4).kind=1
 ·rw [if_neg (not_not_intro hk),if_neg (not_not_intro hk)]
  by_cases h0:(dayOf y m (hdT r4).n).2=0
  ·rw [if_neg (not_not_intro h0),if_neg (not_not_intro h0)]
   by_cases hl:least<(dayOf y m (hdT r4).n).1
   ·rw [if_pos hl,if_neg (by omega)]
    rfl
   ·rw [if_neg hl,if_pos (by omega)]
    rfl
  ·rw [if_pos h0,if_pos h0]
   rfl
 ·rw [if_pos hk,if_pos hk]
  rfl
theorem fresh_ag (names:List (List UInt8)) (r:List Tok):Ag (freshP names r) (freshS names (sN r)):=by
 unfold freshP freshS
 have h1:namedS (sN r)=namedB r:=rfl
 have h2:nextS (sN r)=hdT r:=rfl
 rw [h1,h2]
 cases namedB r with
 | false=>rfl
 | true =>
  rw [if_neg nTF,if_neg nTF]
  split<;>rfl
theorem lets_ag:∀ (f:Nat) (ls:List LetE) (r:List Tok),Fin1 r→(ls.length:Int)≤20→Ag (letsP f ls r) (letsS f ls (sN r))
 | 0,_,_,_,_=>rfl
 | f+1,ls,r,hf,hl=>by
  unfold letsP letsS
  have hi:isS [108,101,116] (sN r)=isT [108,101,116] r:=rfl
  rw [hi]
  cases hb:isT [108,101,116] r with
  | false=>rfl
  | true =>
  rw [if_neg nTF,if_neg nTF]
  by_cases h20:(ls.length:Int)=20
  ·rw [if_pos (show ¬ (ls.length:Int)<20 by omega),if_pos h20]
   rfl
  rw [if_neg (show ¬ ¬ (ls.length:Int)<20 by omega),if_neg h20]
  have ha:advS (sN r)=sN r.tail:=rfl
  rw [ha]
  dsimp only
  have hl':∀ x:LetE,((ls++[x]).length:Int)≤20:=fun x=>by rw [List.length_append];show ((ls.length+1:Nat):Int)≤20;omega
  have f0:=hf.tail (isT_kind hb)
  have t1:=fun (l:List LetE) (s:Sr)=>lets_ss f l s
  have a1:=fresh_ag (ls.map LetE.name) r.tail
  cases e1:freshP (ls.map LetE.name) r.tail with
  | error e=>exact ag_er a1 e1 (((want_ss [61] (by decide) _).trans (whole_ss _ _)).trans (t1 _ _))
  | ok v =>
  obtain ⟨nm,r1⟩:=v
  rw [ag_ok a1 e1]
  dsimp only
  have a2:=want_ag [61] r1
  cases e2:wantP [61] r1 with
  | error e=>exact agR_er a2 e2 ((whole_ss _ _).trans (t1 _ _))
  | ok r2 =>
  rw [agR_ok a2 e2]
  dsimp only
  have f2:=((freshP_suf e1).trans (wantP_suf e2)).2 f0
  have a3:=whole_ag (w:=[59]) (by decide) f2
  cases e3:wholeP [59] r2 with
  | error e=>exact ag_er a3 e3 (t1 _ _)
  | ok v =>
  obtain ⟨x,r3⟩:=v
  rw [ag_ok a3 e3]
  dsimp only
  exact lets_ag f _ r3 ((wholeP_suf e3).2 f2) (hl' _)
theorem covs_ag:∀ (f:Nat) (ls:List Cov) (r:List Tok),Fin1 r→(ls.length:Int)≤20→Ag (covsP f ls r) (covsS f ls (sN r))
 | 0,_,_,_,_=>rfl
 | f+1,ls,r,hf,hl=>by
  unfold covsP covsS
  have hi:isS [99,111,118,101,110,97,110,116] (sN r)=isT [99,111,118,101,110,97,110,116] r:=rfl
  rw [hi]
  cases hb:isT [99,111,118,101,110,97,110,116] r with
  | false=>rfl
  | true =>
  rw [if_neg nTF,if_neg nTF]
  by_cases h20:(ls.length:Int)=20
  ·rw [if_pos (show ¬ (ls.length:Int)<20 by omega),if_pos h20]
   rfl
  rw [if_neg (show ¬ ¬ (ls.length:Int)<20 by omega),if_neg h20]
  have ha:advS (sN r)=sN r.tail:=rfl
  rw [ha]
  dsimp only
  have hl':∀ x:Cov,((ls++[x]).length:Int)≤20:=fun x=>by rw [List.length_append];show ((ls.length+1:Nat):Int)≤20;omega
  have f0:=hf.tail (isT_kind hb)
  have t1:=fun (l:List Cov) (s:Sr)=>covs_ss f l s
  have a1:=fresh_ag (ls.map Cov.name) r.tail
  cases e1:freshP (ls.map Cov.name) r.tail with
  | error e=>exact ag_er a1 e1 ((((want_ss [109,117,115,116] (by decide) _).trans (whole_ss _ _)).trans (num_ss _ _ _)).trans ((want_ss [59] (by decide) _).trans (t1 _ _)))
  | ok v =>
  obtain ⟨nm,r1⟩:=v
  rw [ag_ok a1 e1]
  dsimp only
  have a2:=want_ag [109,117,115,116] r1
  cases e2:wantP [109,117,115,116] r1 with
  | error e=>exact agR_er a2 e2 (((whole_ss _ _).trans (num_ss _ _ _)).trans ((want_ss [59] (by decide) _).trans (t1 _ _)))
  | ok r2 =>
  rw [agR_ok a2 e2]
  dsimp only
  have f2:=((freshP_suf e1).trans (wantP_suf e2)).2 f0
  have a3:=whole_ag (w:=[103,114,97,99,101]) (by decide) f2
  cases e3:wholeP [103,114,97,99,101] r2 with
  | error e=>exact ag_er a3 e3 ((num_ss _ _ _).trans ((want_ss [59] (by decide) _).trans (t1 _ _)))
  | ok v =>
  obtain ⟨x,r3⟩:=v
  rw [ag_ok a3 e3]
  dsimp only
  have f3:=(wholeP_suf e3).2 f2
  have a4:=num_ag 0 1000 r3
  cases e4:numP 0 1000 r3 with
  | error e=>exact ag_er a4 e4 ((want_ss [59] (by decide) _).trans (t1 _ _))
  | ok v =>
  obtain ⟨n,r4⟩:=v
  rw [ag_ok a4 e4]
  dsimp only
  have a5:=want_ag [59] r4
  cases e5:wantP [59] r4 with
  | error e=>exact agR_er a5 e5 (t1 _ _)
  | ok r5 =>
  rw [agR_ok a5 e5]
  dsimp only
  exact covs_ag f _ r5 (((numP_suf e4).1.trans (wantP_suf e5)).2 f3) (hl' _)
theorem calls_ag:∀ (f:Nat) (ls:List CallE) (r:List Tok),Fin1 r→(ls.length:Int)≤20→Ag (callsP f ls r) (callsS f ls (sN r))
 | 0,_,_,_,_=>rfl
 | f+1,ls,r,hf,hl=>by
  unfold callsP callsS
  have hi:isS [99,97,108,108] (sN r)=isT [99,97,108,108] r:=rfl
  rw [hi]
  cases hb:isT [99,97,108,108] r with
  | false=>rfl
  | true =>
  rw [if_neg nTF,if_neg nTF]
  by_cases h20:(ls.length:Int)=20
  ·rw [if_pos (show ¬ (ls.length:Int)<20 by omega),if_pos h20]
   rfl
  rw [if_neg (show ¬ ¬ (ls.length:Int)<20 by omega),if_neg h20]
  have ha:advS (sN r)=sN r.tail:=rfl
  rw [ha]
  dsimp only
  have hl':∀ x:CallE,((ls++[x]).length:Int)≤20:=fun x=>by rw [List.length_append];show ((ls.length+1:Nat):Int)≤20;omega
  have f0:=hf.tail (isT_kind hb)
  have t1:=fun (l:List CallE) (s:Sr)=>calls_ss f l s
  have a1:=date_ag (-1) r.tail
  cases e1:dateP (-1) r.tail with
  | error e=>exact ag_er a1 e1 (((want_ss [97,116] (by decide) _).trans (num_ss _ _ _)).trans ((want_ss [59] (by decide) _).trans (t1 _ _)))
  | ok v =>
  obtain ⟨d,r1⟩:=v
  rw [ag_ok a1 e1]
  dsimp only
  have a2:=want_ag [97,116] r1
  cases e2:wantP [97,116] r1 with
  | error e=>exact agR_er a2 e2 ((num_ss _ _ _).trans ((want_ss [59] (by decide) _).trans (t1 _ _)))
  | ok r2 =>
  rw [agR_ok a2 e2]
  dsimp only
  have f2:=((dateP_suf e1).trans (wantP_suf e2)).2 f0
  have a4:=num_ag 0 10000 r2
  cases e4:numP 0 10000 r2 with
  | error e=>exact ag_er a4 e4 ((want_ss [59] (by decide) _).trans (t1 _ _))
  | ok v =>
  obtain ⟨n,r4⟩:=v
  rw [ag_ok a4 e4]
  dsimp only
  have a5:=want_ag [59] r4
  cases e5:wantP [59] r4 with
  | error e=>exact agR_er a5 e5 (t1 _ _)
  | ok r5 =>
  rw [agR_ok a5 e5]
  dsimp only
  exact calls_ag f _ r5 (((numP_suf e4).1.trans (wantP_suf e5)).2 f2) (hl' _)
theorem favQ_ag:∀ (f g:Nat) (ls:List (List UInt8)) (r:List Tok),Fin1 r→r.length≤f→r.length<g→(ls.length:Int)≤20→Ag (favK (favL f ls r)) (favQ g ls (sN r))
 | 0,_,_,r,hf,h,_,_=>absurd (List.length_pos_iff.2 hf.ne) (by omega)
 | _+1,0,_,_,_,_,h,_=>absurd h (Nat.not_lt_zero _)
 | f+1,g+1,ls,r,hf,h1,h2,hl=>by
  unfold favL favQ
  have hi:isS [59] (sN r)=isT [59] r:=rfl
  have hn:namedS (sN r)=namedB r:=rfl
  rw [hi,hn]
  have he:(sN r).er.isSome=false:=rfl
  by_cases hc:ls.length=0∨isT [59] r=false
  ·rw [if_pos hc,if_pos (show (sN r).er.isSome=false∧((ls.length:Int)=0∨isT [59] r=false) from ⟨he,hc.imp (fun h=>by omega) id⟩)]
   cases hb:namedB r with
   | false =>
    rw [if_pos (show false=false from rfl),if_neg (show ¬ ((ls.length:Int)=20∧false=true) from fun y=>Bool.noConfusion y.2)]
    have hfr:(freshS ls (sN r)).2.er=some ((hdT r).pos,12):=by
     unfold freshS
     rw [hn,hb,if_pos (show false=false from rfl)]
     rfl
    exact (favQ_ss g _ _).keep _ hfr
   | true =>
   rw [if_neg nTF]
   by_cases h20:(ls.length:Int)=20
   ·rw [if_pos (show ¬ (ls.length:Int)<20 by omega),if_pos (show (ls.length:Int)=20∧true=true from ⟨h20,rfl⟩)]
    rfl
   rw [if_neg (show ¬ ¬ (ls.length:Int)<20 by omega),if_neg (show ¬ ((ls.length:Int)=20∧true=true) from fun y=>h20 y.1)]
   have a1:=fresh_ag ls r
   cases e1:freshP ls r with
   | error e=>exact ag_er a1 e1 (favQ_ss g _ _)
   | ok v =>
   obtain ⟨nm,r1⟩:=v
   rw [ag_ok a1 e1]
   dsimp only
   have hr1:r1=r.tail:=by
    unfold freshP at e1
    split at e1
    ·cases e1
    split at e1
    ·cases e1
    ·cases e1;rfl
   have ht:=tail_lt hf
   refine favQ_ag f g _ r1 ((freshP_suf e1).2 hf) (by rw [hr1];omega) (by rw [hr1];omega) ?_
   rw [List.length_append]
   show ((ls.length+1:Nat):Int)≤20
   omega
  ·rw [if_neg hc,if_neg (show ¬ ((sN r).er.isSome=false∧((ls.length:Int)=0∨isT [59] r=false)) from fun y=>hc (y.2.imp (fun h=>by omega) id))]
   have a1:=want_ag [59] r
   unfold favK
   dsimp only
   cases e1:wantP [59] r with
   | error e=>exact agR_er a1 e1 (.refl _)
   | ok r1 =>
    rw [agR_ok a1 e1]
    rfl
theorem fav_ag {r:List Tok} (hf:Fin1 r):Ag (favP r) (favS (sN r)):=by
 have hi:isS [102,97,118,111,117,114] (sN r)=isT [102,97,118,111,117,114] r:=rfl
 unfold favP favS
 rw [hi]
 cases hb:isT [102,97,118,111,117,114] r with
 | false=>rfl
 | true =>
  rw [if_neg nTF,if_neg nTF]
  exact favQ_ag r.tail.length (mS (sN r.tail)+1) [] r.tail (hf.tail (isT_kind hb)) (Nat.le_refl _) (Nat.lt_succ_self _) dd0
set_option maxHeartbeats 4000000
theorem ind_ag {r:List Tok} (hf:Fin1 r):Ag (indP r) (indS (sN r)):=by
 obtain ⟨a1,h1⟩:∃ a,a=wantS [105,115,115,117,101] (sN r):=⟨_,rfl⟩
 obtain ⟨a2,h2⟩:∃ a,a=nameS a1:=⟨_,rfl⟩
 obtain ⟨a3,h3⟩:∃ a,a=wantS [111,102] a2.2:=⟨_,rfl⟩
 obtain ⟨a4,h4⟩:∃ a,a=nameS a3:=⟨_,rfl⟩
 obtain ⟨a5,h5⟩:∃ a,a=wantS [59] a4.2:=⟨_,rfl⟩
 obtain ⟨a6,h6⟩:∃ a,a=partS [102,97,99,101] 1 1000000000000000 a5:=⟨_,rfl⟩
 obtain ⟨a7,h7⟩:∃ a,a=wantS [102,114,111,109] a6.2:=⟨_,rfl⟩
 obtain ⟨a8,h8⟩:∃ a,a=dateS (-1) a7:=⟨_,rfl⟩
 obtain ⟨a9,h9⟩:∃ a,a=wantS [116,111] a8.2:=⟨_,rfl⟩
 obtain ⟨a10,h10⟩:∃ a,a=dateS a8.1 a9:=⟨_,rfl⟩
 obtain ⟨a11,h11⟩:∃ a,a=wantS [101,118,101,114,121] a10.2:=⟨_,rfl⟩
 obtain ⟨a12,h12⟩:∃ a,a=numS 1 120 a11:=⟨_,rfl⟩
 obtain ⟨a13,h13⟩:∃ a,a=wantS [109,111,110,116,104,115] a12.2:=⟨_,rfl⟩
 obtain ⟨a14,h14⟩:∃ a,a=wantS [59] a13:=⟨_,rfl⟩
 obtain ⟨a15,h15⟩:∃ a,a=oneS [99,111,117,110,116] cntW a14:=⟨_,rfl⟩
 obtain ⟨a16,h16⟩:∃ a,a=oneS [97,100,106,117,115,116] adjW a15.2:=⟨_,rfl⟩
 obtain ⟨a17,h17⟩:∃ a,a=partS [114,101,99,111,114,100] 0 100 a16.2:=⟨_,rfl⟩
 obtain ⟨a18,h18⟩:∃ a,a=partS [114,97,110,107] 0 9 a17.2:=⟨_,rfl⟩
 obtain ⟨a19,h19⟩:∃ a,a=letsS a18.2.r.length [] a18.2:=⟨_,rfl⟩
 obtain ⟨a20,h20⟩:∃ a,a=wantS [99,111,117,112,111,110] a19.2:=⟨_,rfl⟩
 obtain ⟨a21,h21⟩:∃ a,a=wholeS [59] a20:=⟨_,rfl⟩
 obtain ⟨a22,h22⟩:∃ a,a=partS [99,97,112] 0 10000 a21.2:=⟨_,rfl⟩
 obtain ⟨a23,h23⟩:∃ a,a=covsS a22.2.r.length [] a22.2:=⟨_,rfl⟩
 obtain ⟨a24,h24⟩:∃ a,a=favS a23.2:=⟨_,rfl⟩
 obtain ⟨a25,h25⟩:∃ a,a=maybeS [99,114,111,115,115] 1000000000000000 (-1) a24.2:=⟨_,rfl⟩
 obtain ⟨a26,h26⟩:∃ a,a=callsS a25.2.r.length [] a25.2:=⟨_,rfl⟩
 obtain ⟨a27,h27⟩:∃ a,a=maybeS [110,111,116,105,99,101] 1000 0 a26.2:=⟨_,rfl⟩
 obtain ⟨a28,h28⟩:∃ a,a=maybeS [115,105,110,107] 1000 0 a27.2:=⟨_,rfl⟩
 obtain ⟨a29,h29⟩:∃ a,a=partS [109,97,106,111,114,105,116,121] 1 1000 a28.2:=⟨_,rfl⟩
 obtain ⟨a30,h30⟩:∃ a,a=partS [102,97,115,116] 1 1000 a29.2:=⟨_,rfl⟩
 have hv:indS (sN r)=(⟨a2.1,a4.1,a6.1,a8.1,a10.1,a12.1,a15.1,a16.1,a17.1,a18.1,a19.1,a21.1,a22.1,a23.1,a24.1,a25.1,a26.1,a27.1,a28.1,a29.1,a30.1⟩,if a30.2.er.isSome=false∧(nextS a30.2).kind≠3 then failS 12 a30.2 else a30.2):=by subst_vars;rfl
 rw [hv]
 have t30:=fin_ss a30.2
 have t29:SS a29.2 _:=(show SS a29.2 a30.2 by rw [h30];exact part_ss [102,97,115,116] (by decide) _ _ _).trans t30
 have t28:SS a28.2 _:=(show SS a28.2 a29.2 by rw [h29];exact part_ss [109,97,106,111,114,105,116,121] (by decide) _ _ _).trans t29
 have t27:SS a27.2 _:=(show SS a27.2 a28.2 by rw [h28];exact maybe_ss [115,105,110,107] (by decide) _ _ _).trans t28
 have t26:SS a26.2 _:=(show SS a26.2 a27.2 by rw [h27];exact maybe_ss [110,111,116,105,99,101] (by decide) _ _ _).trans t27
 have t25:SS a25.2 _:=(show SS a25.2 a26.2 by rw [h26];exact calls_ss _ _ _).trans t26
 have t24:SS a24.2 _:=(show SS a24.2 a25.2 by rw [h25];exact maybe_ss [99,114,111,115,115] (by decide) _ _ _).trans t25
 have t23:SS a23.2 _:=(show SS a23.2 a24.2 by rw [h24];exact fav_ss _).trans t24
 have t22:SS a22.2 _:=(show SS a22.2 a23.2 by rw [h23];exact covs_ss _ _ _).trans t23
 have t21:SS a21.2 _:=(show SS a21.2 a22.2 by rw [h22];exact part_ss [99,97,112] (by decide) _ _ _).trans t22
 have t20:SS a20 _:=(show SS a20 a21.2 by rw [h21];exact whole_ss _ _).trans t21
 have t19:SS a19.2 _:=(show SS a19.2 a20 by rw [h20];exact want_ss [99,111,117,112,111,110] (by decide) _).trans t20
 have t18:SS a18.2 _:=(show SS a18.2 a19.2 by rw [h19];exact lets_ss _ _ _).trans t19
 have t17:SS a17.2 _:=(show SS a17.2 a18.2 by rw [h18];exact part_ss [114,97,110,107] (by decide) _ _ _).trans t18
 have t16:SS a16.2 _:=(show SS a16.2 a17.2 by rw [h17];exact part_ss [114,101,99,111,114,100] (by decide) _ _ _).trans t17
 have t15:SS a15.2 _:=(show SS a15.2 a16.2 by rw [h16];exact one_ss [97,100,106,117,115,116] (by decide) adjW (by decide) _).trans t16
 have t14:SS a14 _:=(show SS a14 a15.2 by rw [h15];exact one_ss [99,111,117,110,116] (by decide) cntW (by decide) _).trans t15
 have t13:SS a13 _:=(show SS a13 a14 by rw [h14];exact want_ss [59] (by decide) _).trans t14
 have t12:SS a12.2 _:=(show SS a12.2 a13 by rw [h13];exact want_ss [109,111,110,116,104,115] (by decide) _).trans t13
 have t11:SS a11 _:=(show SS a11 a12.2 by rw [h12];exact num_ss _ _ _).trans t12
 have t10:SS a10.2 _:=(show SS a10.2 a11 by rw [h11];exact want_ss [101,118,101,114,121] (by decide) _).trans t11
 have t9:SS a9 _:=(show SS a9 a10.2 by rw [h10];exact date_ss _ _).trans t10
 have t8:SS a8.2 _:=(show SS a8.2 a9 by rw [h9];exact want_ss [116,111] (by decide) _).trans t9
 have t7:SS a7 _:=(show SS a7 a8.2 by rw [h8];exact date_ss _ _).trans t8
 have t6:SS a6.2 _:=(show SS a6.2 a7 by rw [h7];exact want_ss [102,114,111,109] (by decide) _).trans t7
 have t5:SS a5 _:=(show SS a5 a6.2 by rw [h6];exact part_ss [102,97,99,101] (by decide) _ _ _).trans t6
 have t4:SS a4.2 _:=(show SS a4.2 a5 by rw [h5];exact want_ss [59] (by decide) _).trans t5
 have t3:SS a3 _:=(show SS a3 a4.2 by rw [h4];exact name_ss _).trans t4
 have t2:SS a2.2 _:=(show SS a2.2 a3 by rw [h3];exact want_ss [111,102] (by decide) _).trans t3
 have t1:SS a1 _:=(show SS a1 a2.2 by rw [h2];exact name_ss _).trans t2
 have g1:AgR (wantP [105,115,115,117,101] r) a1:=by rw [h1];exact want_ag _ _
 rcases e1:wantP [105,115,115,117,101] r with e | r1
 ·rw [e1] at g1
  have hi:indP r=.error e:=by simp only [indP,wantsP,e1,ok_bind,er_bind]
  rw [hi]
  exact t1.keep e g1
 have p1:=agR_ok g1 e1
 have f1:Fin1 r1:=(wantP_suf e1).2 hf
 have g2:Ag (nameP r1) a2:=by rw [h2,p1];exact name_ag _
 rcases e2:nameP r1 with e | ⟨x2,r2⟩
 ·rw [e2] at g2
  have hi:indP r=.error e:=by simp only [indP,wantsP,e1,e2,ok_bind,er_bind]
  rw [hi]
  exact t2.keep e g2
 have v2:=ag_ok g2 e2
 have p2:a2.2=sN r2:=by rw [v2]
 have f2:Fin1 r2:=(nameP_suf e2).2 f1
 have g3:AgR (wantP [111,102] r2) a3:=by rw [h3,p2];exact want_ag _ _
 rcases e3:wantP [111,102] r2 with e | r3
 ·rw [e3] at g3
  have hi:indP r=.error e:=by simp only [indP,wantsP,e1,e2,e3,ok_bind,er_bind]
  rw [hi]
  exact t3.keep e g3
 have p3:=agR_ok g3 e3
 have f3:Fin1 r3:=(wantP_suf e3).2 f2
 have g4:Ag (nameP r3) a4:=by rw [h4,p3];exact name_ag _
 rcases e4:nameP r3 with e | ⟨x4,r4⟩
 ·rw [e4] at g4
  have hi:indP r=.error e:=by simp only [indP,wantsP,e1,e2,e3,e4,ok_bind,er_bind]
  rw [hi]
  exact t4.keep e g4
 have v4:=ag_ok g4 e4
 have p4:a4.2=sN r4:=by rw [v4]
 have f4:Fin1 r4:=(nameP_suf e4).2 f3
 have g5:AgR (wantP [59] r4) a5:=by rw [h5,p4];exact want_ag _ _
 rcases e5:wantP [59] r4 with e | r5
 ·rw [e5] at g5
  have hi:indP r=.error e:=by simp only [indP,wantsP,e1,e2,e3,e4,e5,ok_bind,er_bind]
  rw [hi]
  exact t5.keep e g5
 have p5:=agR_ok g5 e5
 have f5:Fin1 r5:=(wantP_suf e5).2 f4
 have g6:Ag (partP [102,97,99,101] 1 1000000000000000 r5) a6:=by rw [h6,p5];exact part_ag _ _ _ _
 rcases e6:partP [102,97,99,101] 1 1000000000000000 r5 with e | ⟨x6,r6⟩
 ·rw [e6] at g6
  have hi:indP r=.error e:=by simp only [indP,wantsP,e1,e2,e3,e4,e5,e6,ok_bind,er_bind]
  rw [hi]
  exact t6.keep e g6
 have v6:=ag_ok g6 e6
 have p6:a6.2=sN r6:=by rw [v6]
 have f6:Fin1 r6:=(partP_suf e6).2 f5
 have g7:AgR (wantP [102,114,111,109] r6) a7:=by rw [h7,p6];exact want_ag _ _
 rcases e7:wantP [102,114,111,109] r6 with e | r7
 ·rw [e7] at g7
  have hi:indP r=.error e:=by simp only [indP,wantsP,e1,e2,e3,e4,e5,e6,e7,ok_bind,er_bind]
  rw [hi]
  exact t7.keep e g7
 have p7:=agR_ok g7 e7
 have f7:Fin1 r7:=(wantP_suf e7).2 f6
 have g8:Ag (dateP (-1) r7) a8:=by rw [h8,p7];exact date_ag _ _
 rcases e8:dateP (-1) r7 with e | ⟨x8,r8⟩
 ·rw [e8] at g8
  have hi:indP r=.error e:=by simp only [indP,wantsP,e1,e2,e3,e4,e5,e6,e7,e8,ok_bind,er_bind]
  rw [hi]
  exact t8.keep e g8
 have v8:=ag_ok g8 e8
 have p8:a8.2=sN r8:=by rw [v8]
 have f8:Fin1 r8:=(dateP_suf e8).2 f7
 have g9:AgR (wantP [116,111] r8) a9:=by rw [h9,p8];exact want_ag _ _
 rcases e9:wantP [116,111] r8 with e | r9
 ·rw [e9] at g9
  have hi:indP r=.error e:=by simp only [indP,wantsP,e1,e2,e3,e4,e5,e6,e7,e8,e9,ok_bind,er_bind]
  rw [hi]
  exact t9.keep e g9
 have p9:=agR_ok g9 e9
 have f9:Fin1 r9:=(wantP_suf e9).2 f8
 have g10:Ag (dateP x8 r9) a10:=by rw [h10,p9,v8];exact date_ag _ _
 rcases e10:dateP x8 r9 with e | ⟨x10,r10⟩
 ·rw [e10] at g10
  have hi:indP r=.error e:=by simp only [indP,wantsP,e1,e2,e3,e4,e5,e6,e7,e8,e9,e10,ok_bind,er_bind]
  rw [hi]
  exact t10.keep e g10
 have v10:=ag_ok g10 e10
 have p10:a10.2=sN r10:=by rw [v10]
 have f10:Fin1 r10:=(dateP_suf e10).2 f9
 have g11:AgR (wantP [101,118,101,114,121] r10) a11:=by rw [h11,p10];exact want_ag _ _
 rcases e11:wantP [101,118,101,114,121] r10 with e | r11
 ·rw [e11] at g11
  have hi:indP r=.error e:=by simp only [indP,wantsP,e1,e2,e3,e4,e5,e6,e7,e8,e9,e10,e11,ok_bind,er_bind]
  rw [hi]
  exact t11.keep e g11
 have p11:=agR_ok g11 e11
 have f11:Fin1 r11:=(wantP_suf e11).2 f10
 have g12:Ag (numP 1 120 r11) a12:=by rw [h12,p11];exact num_ag _ _ _
 rcases e12:numP 1 120 r11 with e | ⟨x12,r12⟩
 ·rw [e12] at g12
  have hi:indP r=.error e:=by simp only [indP,wantsP,e1,e2,e3,e4,e5,e6,e7,e8,e9,e10,e11,e12,ok_bind,er_bind]
  rw [hi]
  exact t12.keep e g12
 have v12:=ag_ok g12 e12
 have p12:a12.2=sN r12:=by rw [v12]
 have f12:Fin1 r12:=((numP_suf e12).1).2 f11
 have g13:AgR (wantP [109,111,110,116,104,115] r12) a13:=by rw [h13,p12];exact want_ag _ _
 rcases e13:wantP [109,111,110,116,104,115] r12 with e | r13
 ·rw [e13] at g13
  have hi:indP r=.error e:=by simp only [indP,wantsP,e1,e2,e3,e4,e5,e6,e7,e8,e9,e10,e11,e12,e13,ok_bind,er_bind]
  rw [hi]
  exact t13.keep e g13
 have p13:=agR_ok g13 e13
 have f13:Fin1 r13:=(wantP_suf e13).2 f12
 have g14:AgR (wantP [59] r13) a14:=by rw [h14,p13];exact want_ag _ _
 rcases e14:wantP [59] r13 with e | r14
 ·rw [e14] at g14
  have hi:indP r=.error e:=by simp only [indP,wantsP,e1,e2,e3,e4,e5,e6,e7,e8,e9,e10,e11,e12,e13,e14,ok_bind,er_bind]
  rw [hi]
  exact t14.keep e g14
 have p14:=agR_ok g14 e14
 have f14:Fin1 r14:=(wantP_suf e14).2 f13
 have g15:Ag (oneP [99,111,117,110,116] cntW r14) a15:=by rw [h15,p14];exact one_ag _ _ (by decide) _
 rcases e15:oneP [99,111,117,110,116] cntW r14 with e | ⟨x15,r15⟩
 ·rw [e15] at g15
  have hi:indP r=.error e:=by simp only [indP,wantsP,e1,e2,e3,e4,e5,e6,e7,e8,e9,e10,e11,e12,e13,e14,e15,ok_bind,er_bind]
  rw [hi]
  exact t15.keep e g15
 have v15:=ag_ok g15 e15
 have p15:a15.2=sN r15:=by rw [v15]
 have f15:Fin1 r15:=(oneP_suf e15).2 f14
 have g16:Ag (oneP [97,100,106,117,115,116] adjW r15) a16:=by rw [h16,p15];exact one_ag _ _ (by decide) _
 rcases e16:oneP [97,100,106,117,115,116] adjW r15 with e | ⟨x16,r16⟩
 ·rw [e16] at g16
  have hi:indP r=.error e:=by simp only [indP,wantsP,e1,e2,e3,e4,e5,e6,e7,e8,e9,e10,e11,e12,e13,e14,e15,e16,ok_bind,er_bind]
  rw [hi]
  exact t16.keep e g16
 have v16:=ag_ok g16 e16
 have p16:a16.2=sN r16:=by rw [v16]
 have f16:Fin1 r16:=(oneP_suf e16).2 f15
 have g17:Ag (partP [114,101,99,111,114,100] 0 100 r16) a17:=by rw [h17,p16];exact part_ag _ _ _ _
 rcases e17:partP [114,101,99,111,114,100] 0 100 r16 with e | ⟨x17,r17⟩
 ·rw [e17] at g17
  have hi:indP r=.error e:=by simp only [indP,wantsP,e1,e2,e3,e4,e5,e6,e7,e8,e9,e10,e11,e12,e13,e14,e15,e16,e17,ok_bind,er_bind]
  rw [hi]
  exact t17.keep e g17
 have v17:=ag_ok g17 e17
 have p17:a17.2=sN r17:=by rw [v17]
 have f17:Fin1 r17:=(partP_suf e17).2 f16
 have g18:Ag (partP [114,97,110,107] 0 9 r17) a18:=by rw [h18,p17];exact part_ag _ _ _ _
 rcases e18:partP [114,97,110,107] 0 9 r17 with e | ⟨x18,r18⟩
 ·rw [e18] at g18
  have hi:indP r=.error e:=by simp only [indP,wantsP,e1,e2,e3,e4,e5,e6,e7,e8,e9,e10,e11,e12,e13,e14,e15,e16,e17,e18,ok_bind,er_bind]
  rw [hi]
  exact t18.keep e g18
 have v18:=ag_ok g18 e18
 have p18:a18.2=sN r18:=by rw [v18]
 have f18:Fin1 r18:=(partP_suf e18).2 f17
 have g19:Ag (letsP r18.length [] r18) a19:=by rw [h19,p18];exact lets_ag _ _ _ f18 (by decide)
 rcases e19:letsP r18.length [] r18 with e | ⟨x19,r19⟩
 ·rw [e19] at g19
  have hi:indP r=.error e:=by simp only [indP,wantsP,e1,e2,e3,e4,e5,e6,e7,e8,e9,e10,e11,e12,e13,e14,e15,e16,e17,e18,e19,ok_bind,er_bind]
  rw [hi]
  exact t19.keep e g19
 have v19:=ag_ok g19 e19
 have p19:a19.2=sN r19:=by rw [v19]
 have f19:Fin1 r19:=(letsP_suf _ e19).2 f18
 have g20:AgR (wantP [99,111,117,112,111,110] r19) a20:=by rw [h20,p19];exact want_ag _ _
 rcases e20:wantP [99,111,117,112,111,110] r19 with e | r20
 ·rw [e20] at g20
  have hi:indP r=.error e:=by simp only [indP,wantsP,e1,e2,e3,e4,e5,e6,e7,e8,e9,e10,e11,e12,e13,e14,e15,e16,e17,e18,e19,e20,ok_bind,er_bind]
  rw [hi]
  exact t20.keep e g20
 have p20:=agR_ok g20 e20
 have f20:Fin1 r20:=(wantP_suf e20).2 f19
 have g21:Ag (wholeP [59] r20) a21:=by rw [h21,p20];exact whole_ag (by decide) f20
 rcases e21:wholeP [59] r20 with e | ⟨x21,r21⟩
 ·rw [e21] at g21
  have hi:indP r=.error e:=by simp only [indP,wantsP,e1,e2,e3,e4,e5,e6,e7,e8,e9,e10,e11,e12,e13,e14,e15,e16,e17,e18,e19,e20,e21,ok_bind,er_bind]
  rw [hi]
  exact t21.keep e g21
 have v21:=ag_ok g21 e21
 have p21:a21.2=sN r21:=by rw [v21]
 have f21:Fin1 r21:=(wholeP_suf e21).2 f20
 have g22:Ag (partP [99,97,112] 0 10000 r21) a22:=by rw [h22,p21];exact part_ag _ _ _ _
 rcases e22:partP [99,97,112] 0 10000 r21 with e | ⟨x22,r22⟩
 ·rw [e22] at g22
  have hi:indP r=.error e:=by simp only [indP,wantsP,e1,e2,e3,e4,e5,e6,e7,e8,e9,e10,e11,e12,e13,e14,e15,e16,e17,e18,e19,e20,e21,e22,ok_bind,er_bind]
  rw [hi]
  exact t22.keep e g22
 have v22:=ag_ok g22 e22
 have p22:a22.2=sN r22:=by rw [v22]
 have f22:Fin1 r22:=(partP_suf e22).2 f21
 have g23:Ag (covsP r22.length [] r22) a23:=by rw [h23,p22];exact covs_ag _ _ _ f22 (by decide)
 rcases e23:covsP r22.length [] r22 with e | ⟨x23,r23⟩
 ·rw [e23] at g23
  have hi:indP r=.error e:=by simp only [indP,wantsP,e1,e2,e3,e4,e5,e6,e7,e8,e9,e10,e11,e12,e13,e14,e15,e16,e17,e18,e19,e20,e21,e22,e23,ok_bind,er_bind]
  rw [hi]
  exact t23.keep e g23
 have v23:=ag_ok g23 e23
 have p23:a23.2=sN r23:=by rw [v23]
 have f23:Fin1 r23:=(covsP_suf _ e23).2 f22
 have g24:Ag (favP r23) a24:=by rw [h24,p23];exact fav_ag f23
 rcases e24:favP r23 with e | ⟨x24,r24⟩
 ·rw [e24] at g24
  have hi:indP r=.error e:=by simp only [indP,wantsP,e1,e2,e3,e4,e5,e6,e7,e8,e9,e10,e11,e12,e13,e14,e15,e16,e17,e18,e19,e20,e21,e22,e23,e24,ok_bind,er_bind]
  rw [hi]
  exact t24.keep e g24
 have v24:=ag_ok g24 e24
 have p24:a24.2=sN r24:=by rw [v24]
 have f24:Fin1 r24:=(favP_suf e24).2 f23
 have g25:Ag (maybeP [99,114,111,115,115] 1000000000000000 (-1) r24) a25:=by rw [h25,p24];exact maybe_ag _ _ _ _
 rcases e25:maybeP [99,114,111,115,115] 1000000000000000 (-1) r24 with e | ⟨x25,r25⟩
 ·rw [e25] at g25
  have hi:indP r=.error e:=by simp only [indP,wantsP,e1,e2,e3,e4,e5,e6,e7,e8,e9,e10,e11,e12,e13,e14,e15,e16,e17,e18,e19,e20,e21,e22,e23,e24,e25,ok_bind,er_bind]
  rw [hi]
  exact t25.keep e g25
 have v25:=ag_ok g25 e25
 have p25:a25.2=sN r25:=by rw [v25]
 have f25:Fin1 r25:=(maybeP_suf e25).2 f24
 have g26:Ag (callsP r25.length [] r25) a26:=by rw [h26,p25];exact calls_ag _ _ _ f25 (by decide)
 rcases e26:callsP r25.length [] r25 with e | ⟨x26,r26⟩
 ·rw [e26] at g26
  have hi:indP r=.error e:=by simp only [indP,wantsP,e1,e2,e3,e4,e5,e6,e7,e8,e9,e10,e11,e12,e13,e14,e15,e16,e17,e18,e19,e20,e21,e22,e23,e24,e25,e26,ok_bind,er_bind]
  rw [hi]
  exact t26.keep e g26
 have v26:=ag_ok g26 e26
 have p26:a26.2=sN r26:=by rw [v26]
 have f26:Fin1 r26:=(callsP_suf _ e26).2 f25
 have g27:Ag (maybeP [110,111,116,105,99,101] 1000 0 r26) a27:=by rw [h27,p26];exact maybe_ag _ _ _ _
 rcases e27:maybeP [110,111,116,105,99,101] 1000 0 r26 with e | ⟨x27,r27⟩
 ·rw [e27] at g27
  have hi:indP r=.error e:=by simp only [indP,wantsP,e1,e2,e3,e4,e5,e6,e7,e8,e9,e10,e11,e12,e13,e14,e15,e16,e17,e18,e19,e20,e21,e22,e23,e24,e25,e26,e27,ok_bind,er_bind]
  rw [hi]
  exact t27.keep e g27
 have v27:=ag_ok g27 e27
 have p27:a27.2=sN r27:=by rw [v27]
 have f27:Fin1 r27:=(maybeP_suf e27).2 f26
 have g28:Ag (maybeP [115,105,110,107] 1000 0 r27) a28:=by rw [h28,p27];exact maybe_ag _ _ _ _
 rcases e28:maybeP [115,105,110,107] 1000 0 r27 with e | ⟨x28,r28⟩
 ·rw [e28] at g28
  have hi:indP r=.error e:=by simp only [indP,wantsP,e1,e2,e3,e4,e5,e6,e7,e8,e9,e10,e11,e12,e13,e14,e15,e16,e17,e18,e19,e20,e21,e22,e23,e24,e25,e26,e27,e28,ok_bind,er_bind]
  rw [hi]
  exact t28.keep e g28
 have v28:=ag_ok g28 e28
 have p28:a28.2=sN r28:=by rw [v28]
 have f28:Fin1 r28:=(maybeP_suf e28).2 f27
 have g29:Ag (partP [109,97,106,111,114,105,116,121] 1 1000 r28) a29:=by rw [h29,p28];exact part_ag _ _ _ _
 rcases e29:partP [109,97,106,111,114,105,116,121] 1 1000 r28 with e | ⟨x29,r29⟩
 ·rw [e29] at g29
  have hi:indP r=.error e:=by simp only [indP,wantsP,e1,e2,e3,e4,e5,e6,e7,e8,e9,e10,e11,e12,e13,e14,e15,e16,e17,e18,e19,e20,e21,e22,e23,e24,e25,e26,e27,e28,e29,ok_bind,er_bind]
  rw [hi]
  exact t29.keep e g29
 have v29:=ag_ok g29 e29
 have p29:a29.2=sN r29:=by rw [v29]
 have f29:Fin1 r29:=(partP_suf e29).2 f28
 have g30:Ag (partP [102,97,115,116] 1 1000 r29) a30:=by rw [h30,p29];exact part_ag _ _ _ _
 rcases e30:partP [102,97,115,116] 1 1000 r29 with e | ⟨x30,r30⟩
 ·rw [e30] at g30
  have hi:indP r=.error e:=by simp only [indP,wantsP,e1,e2,e3,e4,e5,e6,e7,e8,e9,e10,e11,e12,e13,e14,e15,e16,e17,e18,e19,e20,e21,e22,e23,e24,e25,e26,e27,e28,e29,e30,ok_bind,er_bind]
  rw [hi]
  exact t30.keep e g30
 have v30:=ag_ok g30 e30
 have p30:a30.2=sN r30:=by rw [v30]
 have f30:Fin1 r30:=(partP_suf e30).2 f29
 have hi:indP r=if (hdT r30).kind=3 then .ok (⟨x2,x4,x6,x8,x10,x12,x15,x16,x17,x18,x19,x21,x22,x23,x24,x25,x26,x27,x28,x29,x30⟩,r30) else errP 12 r30:=by simp only [indP,wantsP,e1,e2,e3,e4,e5,e6,e7,e8,e9,e10,e11,e12,e13,e14,e15,e16,e17,e18,e19,e20,e21,e22,e23,e24,e25,e26,e27,e28,e29,e30,ok_bind,er_bind]
 rw [hi,p30]
 have hx:nextS (sN r30)=hdT r30:=rfl
 rw [hx]
 by_cases hk:(hdT r30).kind=3
 ·rw [if_pos hk,if_neg (show ¬ ((sN r30).er.isSome=false∧(hdT r30).kind≠3) from fun y=>y.2 hk),v2,v4,v6,v8,v10,v12,v15,v16,v17,v18,v19,v21,v22,v23,v24,v25,v26,v27,v28,v29,v30]
  rfl
 ·rw [if_neg hk,if_pos (show (sN r30).er.isSome=false∧(hdT r30).kind≠3 from ⟨rfl,hk⟩)]
  rfl
theorem lexL_e3 {s:List UInt8}:∀ (f p:Nat) (l T:List Tok),(∀ t∈l,t.kind≠3)→s.length<p+f→p≤s.length→lexL s f p l=.ok T→∀ t∈T,t.kind=3→t.text=[]:=by
 intro f
 induction f with
 | zero=>intro p l T _ h1 h2;omega
 | succ f ih =>
  intro p l T hl h1 h2 h
  unfold lexL at h
  split at h
  ·cases h
   intro t ht hk
   rcases List.mem_append.1 ht with ht | ht
   ·exact (hl t ht hk).elim
   ·have:t=_:=List.mem_singleton.1 ht
    subst this
    rfl
  ·rename_i hne'
   split at h
   ·cases h
   ·rename_i t hN
    have hq:skipN s p≤s.length:=by
     have:=spanN_le blkB (s.drop p)
     rw [List.length_drop] at this
     unfold skipN;omega
    have hqp:p≤skipN s p:=by unfold skipN;omega
    have hne:s.drop (skipN s p)≠[]:=fun h=>by
     have:=congrArg List.length h
     rw [List.length_drop] at this
     simp only [List.length_nil] at this
     omega
    obtain ⟨t1,t2⟩:=nextR_ok hne hN
    have t3:=t2.length_le
    rw [List.length_drop] at t3
    refine ih _ _ T (fun x hx=>?_) om0 om0 h
    rcases List.mem_append.1 hx with hx | hx
    ·exact hl x hx
    ·have:x=_:=List.mem_singleton.1 hx
     subst this
     exact (nextR_mk hN).1
theorem lex_sst {s:List UInt8} {T:List Tok} (h:lexR s=.ok T):SSt T (sN T):=by
 refine ⟨lexR_ok h,(fun e he=>by cases he),?_⟩
 unfold lexR at h
 split at h
 ·cases h
 ·exact lexL_e3 _ _ _ _ (fun t ht=>by cases ht) om0 om0 h
theorem wholeE_ag {r:List Tok} (hf:Fin1 r):match (match expP r.length 0 r with
  | .error e=>.error e
  | .ok (x,r)=>if ¬ (hdT r).kind=3 then errP 12 r else if ((lev x:Nat):Int)≤12 then .ok x else errP 6 r:Except Er Exp) with
  | .ok x=>(wholeS [] (sN r)).1=x∧(wholeS [] (sN r)).2.er=none
  | .error e=>(wholeS [] (sN r)).2.er=some e:=by
 have ha:=exp_ag r.length 0 r (by omega) (by omega) hf (Nat.le_refl _)
 unfold wholeS
 dsimp only
 cases e1:expP r.length 0 r with
 | error e =>
  rw [e1] at ha
  have ha:(exC 0 (sN r)).2.er=some e:=ha
  rw [ha,if_pos (show (some e).isSome=true from rfl)]
  exact ha
 | ok v =>
 obtain ⟨x,r1⟩:=v
 rw [ag_ok ha e1]
 dsimp only
 rw [if_neg (show ¬ (none:Option Er).isSome=true from fun h=>Bool.noConfusion h)]
 have hx:nextS (sN r1)=hdT r1:=rfl
 rw [hx]
 by_cases hk:(hdT r1).kind=3
 ·rw [if_neg (not_not_intro hk),if_neg (show ¬ (([]:List UInt8)=[]∧(hdT r1).kind≠3∨([]:List UInt8)≠[]∧isS [] (sN r1)=false) from fun y=>y.elim (fun z=>z.2 hk) (fun z=>z.1 rfl))]
  by_cases h12:((lev x:Nat):Int)≤12
  ·rw [if_pos h12,if_neg (show ¬ 12<((lev x:Nat):Int) by omega),if_neg (not_not_intro rfl)]
   exact ⟨rfl,rfl⟩
  ·rw [if_neg h12,if_pos (show 12<((lev x:Nat):Int) by omega)]
   rfl
 ·rw [if_pos hk,if_pos (show ([]:List UInt8)=[]∧(hdT r1).kind≠3∨([]:List UInt8)≠[]∧isS [] (sN r1)=false from .inl ⟨rfl,hk⟩)]
  rfl
theorem robj0 (T:List Tok):robj T (sN T)=.cells 74 [encTks T,.int .i64 0,.int .i64 0,.int .i64 0]:=by
 show AB.cells 74 [encTks T,.int .i64 ((T.length-T.length:Nat):Int),.int .i64 0,.int .i64 0]=_
 rw [Nat.sub_self]
 rfl
theorem parse2_ok (s:List UInt8) (hs:s.length≤9223372036854775807):APure Tryz.prog 11 [.str s] (fun rs=>rs=parA (parseR s)):=by
 have hl:=lex42 s hs
 cases e1:lexR s with
 | error e =>
  have hp:parseR s=.error e:=by unfold parseR;rw [e1]
  have hne:=lexR_er e1
  rw [hp]
  rw [e1] at hl
  unfold lexA at hl
  refine aW (cxOk 41 [0,2,3,4,5,6,7,8,9,17,30]) Tryz.func11 ?_
  conv=>whnf
  refine cO (fun _=>hl) ?_
  conv=>whnf
  rw [decide_eq_false hne]
  refine gT ?_
  conv=>whnf
  refine ⟨⟨[(2,.ptr 0 0),(3,.int .i64 e.1),(4,.int .i64 e.2)],[(0,.cells 31 (celX i0))],1⟩,(wk_of [(0,.id 0)] rfl ⟨wc0,wa0,wa0,trivial⟩ ⟨⟨_,rfl,.cells _ _ _ _ rfl (by repeat (first | exact .nil | refine .cons (by first | exact .base (.tree _ _ rfl rfl) | exact .base (.own _ _ rfl) | exact .base (.ptr _ _ _ rfl) | exact .base (.map _ _ rfl) | exact .base (.nilown _ rfl) | exact .fn _ _ _ _ _ .nil (by repeat (first | exact .nil | refine .cons (by exact .ptr _ _ _ rfl) ?_)) | exact .base (.tree _ _ (by first | exact LeT.nils_lsl 5 rfl | exact LeT.nils_sl 6 encL l0 | exact LeT.nils_sl 7 encC c0 | exact LeT.nils_sl 1 encS [] | exact LeT.nils_sl 2 encK k0) rfl) | exact .base (.leT _ _ (by first | exact LeT.nils_lsl 5 rfl | exact LeT.nils_sl 6 encL l0 | exact LeT.nils_sl 7 encC c0 | exact LeT.nils_sl 1 encS [] | exact LeT.nils_sl 2 encK k0) rfl)) ?_)) rfl⟩,trivial⟩),?_⟩
  conv=>whnf
  rfl
 | ok T =>
  have hst:=lex_sst e1
  have hk:=ind_k hst
  have ha:=ind_ag hst.st.fin
  have hss:=ind_ss (sN T)
  rw [e1] at hl
  unfold lexA at hl
  unfold KX at hk
  rw [robj0] at hk
  cases e2:indP T with
  | error e =>
   have hp:parseR s=.error e:=by unfold parseR;rw [e1];dsimp only;rw [e2]
   rw [hp]
   rw [e2] at ha
   have he:(indS (sN T)).2.er=some e:=ha
   have hx:decide (errI (indS (sN T)).2=0)=false:=decide_eq_false (by unfold errI;rw [he];exact hss.ok hst.ok e he)
   have h1:posI (indS (sN T)).2=e.1:=by unfold posI;rw [he]
   have h2:errI (indS (sN T)).2=e.2:=by unfold errI;rw [he]
   refine aW (cxOk 41 [0,2,3,4,5,6,7,8,9,17,30]) Tryz.func11 ?_
   conv=>whnf
   refine cO (fun _=>hl) ?_
   conv=>whnf
   refine gF ?_
   conv=>whnf
   refine cR (hk) [1] ?_
   conv=>whnf
   rw [hx]
   refine gT ?_
   conv=>whnf
   refine .eff ae0 ?_
   conv=>whnf
   refine ⟨by kernel_rfl,?_⟩
   conv=>whnf
   conv=>whnf
   rw [h1,h2]
   refine ⟨⟨[(2,.ptr 0 0),(3,.int .i64 e.1),(4,.int .i64 e.2)],[(0,.cells 31 (celX i0))],1⟩,(wk_of [(0,.id 0)] rfl ⟨wc0,wa0,wa0,trivial⟩ ⟨⟨_,rfl,.cells _ _ _ _ rfl (by repeat (first | exact .nil | refine .cons (by first | exact .base (.tree _ _ rfl rfl) | exact .base (.own _ _ rfl) | exact .base (.ptr _ _ _ rfl) | exact .base (.map _ _ rfl) | exact .base (.nilown _ rfl) | exact .fn _ _ _ _ _ .nil (by repeat (first | exact .nil | refine .cons (by exact .ptr _ _ _ rfl) ?_)) | exact .base (.tree _ _ (by first | exact LeT.nils_lsl 5 rfl | exact LeT.nils_sl 6 encL l0 | exact LeT.nils_sl 7 encC c0 | exact LeT.nils_sl 1 encS [] | exact LeT.nils_sl 2 encK k0) rfl) | exact .base (.leT _ _ (by first | exact LeT.nils_lsl 5 rfl | exact LeT.nils_sl 6 encL l0 | exact LeT.nils_sl 7 encC c0 | exact LeT.nils_sl 1 encS [] | exact LeT.nils_sl 2 encK k0) rfl)) ?_)) rfl⟩,trivial⟩),?_⟩
   conv=>whnf
   rfl
  | ok v =>
   obtain ⟨x,r⟩:=v
   have hp:parseR s=.ok x:=by unfold parseR;rw [e1];dsimp only;rw [e2]
   rw [hp]
   have hv:=ag_ok ha e2
   rw [hv] at hk
   refine aW (cxOk 41 [0,2,3,4,5,6,7,8,9,17,30]) Tryz.func11 ?_
   conv=>whnf
   refine cO (fun _=>hl) ?_
   conv=>whnf
   refine gF ?_
   conv=>whnf
   refine cR (hk) [1] ?_
   conv=>whnf
   rw [err_0 (show (sN r).er=none from rfl)]
   refine gF ?_
   conv=>whnf
   refine ⟨⟨[(2,.ptr 0 0),(3,.int .i64 0),(4,.int .i64 0)],[(0,.cells 31 (celX x))],1⟩,(wk_of [(0,.id 0)] rfl ⟨wc0,wa0,wa0,trivial⟩ ⟨wb0,trivial⟩),?_⟩
   conv=>whnf
   rfl
theorem parseE2_ok (s:List UInt8) (hs:s.length≤9223372036854775807):APure Tryz.prog 13 [.str s] (fun rs=>rs=parEA (parseER s)):=by
 have hl:=lex42 s hs
 cases e1:lexR s with
 | error e =>
  have hp:parseER s=.error e:=by unfold parseER;rw [e1]
  have hne:=lexR_er e1
  rw [hp]
  rw [e1] at hl
  unfold lexA at hl
  refine aW (cxOk 41 [0,2,3,4,5,6,7,8,9,17,30]) Tryz.func13 ?_
  conv=>whnf
  refine cO (fun _=>hl) ?_
  conv=>whnf
  rw [decide_eq_false hne]
  refine gT ?_
  conv=>whnf
  refine ⟨⟨[(2,.ptr 0 0),(3,.int .i64 e.1),(4,.int .i64 e.2)],[(0,.cells 26 (cellsE ex0))],1⟩,(wk_of [(0,.id 0)] rfl ⟨wc0,wa0,wa0,trivial⟩ ⟨wd0,trivial⟩),?_⟩
  conv=>whnf
  rfl
 | ok T =>
  have hst:=lex_sst e1
  have hk:=whole_k hst []
  have ha:=wholeE_ag hst.st.fin
  have ha:match parseER s with | .ok x=>(wholeS [] (sN T)).1=x∧(wholeS [] (sN T)).2.er=none | .error e=>(wholeS [] (sN T)).2.er=some e:=by unfold parseER;rw [e1];exact ha
  have hss:=whole_ss [] (sN T)
  rw [e1] at hl
  unfold lexA at hl
  unfold KX at hk
  rw [robj0] at hk
  cases e2:parseER s with
  | error e =>
   rw [e2] at ha
   have he:(wholeS [] (sN T)).2.er=some e:=ha
   have hx:decide (errI (wholeS [] (sN T)).2=0)=false:=decide_eq_false (by unfold errI;rw [he];exact hss.ok hst.ok e he)
   have h1:posI (wholeS [] (sN T)).2=e.1:=by unfold posI;rw [he]
   have h2:errI (wholeS [] (sN T)).2=e.2:=by unfold errI;rw [he]
   refine aW (cxOk 41 [0,2,3,4,5,6,7,8,9,17,30]) Tryz.func13 ?_
   conv=>whnf
   refine cO (fun _=>hl) ?_
   conv=>whnf
   refine gF ?_
   conv=>whnf
   refine cR (hk) [1] ?_
   conv=>whnf
   rw [hx]
   refine gT ?_
   conv=>whnf
   refine .eff ae0 ?_
   conv=>whnf
   refine ⟨by kernel_rfl,?_⟩
   conv=>whnf
   conv=>whnf
   rw [h1,h2]
   refine ⟨⟨[(2,.ptr 0 0),(3,.int .i64 e.1),(4,.int .i64 e.2)],[(0,.cells 26 (cellsE ex0))],1⟩,(wk_of [(0,.id 0)] rfl ⟨wc0,wa0,wa0,trivial⟩ ⟨wd0,trivial⟩),?_⟩
   conv=>whnf
   rfl
  | ok v =>
   rw [e2] at ha
   have ha:(wholeS [] (sN T)).1=v∧(wholeS [] (sN T)).2.er=none:=ha
   rw [ha.1] at hk
   refine aW (cxOk 41 [0,2,3,4,5,6,7,8,9,17,30]) Tryz.func13 ?_
   conv=>whnf
   refine cO (fun _=>hl) ?_
   conv=>whnf
   refine gF ?_
   conv=>whnf
   refine cR (hk) [1] ?_
   conv=>whnf
   rw [err_0 ha.2]
   refine gF ?_
   conv=>whnf
   refine ⟨⟨[(2,.ptr 0 0),(3,.int .i64 0),(4,.int .i64 0)],[(0,.cells 26 (cellsE v))],1⟩,(wk_of [(0,.id 0)] rfl ⟨wc0,wa0,wa0,trivial⟩ ⟨wb0,trivial⟩),?_⟩
   conv=>whnf
   rfl
def dashT:List UInt8:=[32,45,32]
def dayT (n:Int):List UInt8:=Lib.itoa (partY n)++[32,45,32]++Lib.itoa (partM n)++[32,45,32]++Lib.itoa (partD n)
theorem dayT_len {n:Int} (h:0≤n) (h2:n≤200000):(dayT n).length≤70:=by
 obtain ⟨a,b,c,d,e,f⟩:=parts_bounds h h2
 have h1:=Lib.itoa_length_le (partY n) (by omega) (by omega)
 have h2:=Lib.itoa_length_le (partM n) (by omega) (by omega)
 have h3:=Lib.itoa_length_le (partD n) (by omega) (by omega)
 unfold dayT
 simp only [List.length_append,List.length_cons,List.length_nil]
 omega
theorem day_ok (n:Int) (h:0≤n) (h2:n≤200000):APureV Tryz.prog 59 [.int .i64 n] (.str (dayT n)):=by
 have hp:=parts_ok n
 unfold partsR at hp
 rw [if_pos ⟨h,h2⟩] at hp
 obtain ⟨a,b,c,d,e,f⟩:=parts_bounds h h2
 have i1:=itoa_c (partY n) (by omega) (by omega)
 have i2:=itoa_c (partM n) (by omega) (by omega)
 have i3:=itoa_c (partD n) (by omega) (by omega)
 have l1:=Lib.itoa_length_le (partY n) (by omega) (by omega)
 have l2:=Lib.itoa_length_le (partM n) (by omega) (by omega)
 have l3:=Lib.itoa_length_le (partD n) (by omega) (by omega)
 unfold dayT
 generalize partY n=y at *
 generalize partM n=m at *
 generalize partD n=dd at *
 refine aO (cxOk 24 [0,2,3,4,5]) Tryz.func59 ?_
 conv=>whnf
 refine cO (fun _=>hp) ?_
 conv=>whnf
 refine cO (fun _=>i1) ?_
 conv=>whnf
 refine And.intro ab0 ?_
 conv=>whnf
 refine cO (fun _=>i2) ?_
 conv=>whnf
 refine And.intro ab0 ?_
 conv=>whnf
 refine And.intro ab0 ?_
 conv=>whnf
 refine cO (fun _=>i3) ?_
 conv=>whnf
 refine And.intro ab0 ?_
 conv=>whnf
 rfl
def uqB (l:List (List UInt8)) (k:Nat):Bool:=nameB (l.getD k [])&&!decide (l.getD k []∈l.take k)
def uniqB (l:List (List UInt8)) (most:Int):Bool:=((List.range l.length).all fun k=>uqB l k)&&decide ((l.length:Int)≤most)
theorem uniq_ok (l:List (List UInt8)) (most:Int) (hl:l.length≤9223372036854775807) (hs:∀ s∈l,s.length≤9223372036854775807):APureV Tryz.prog 73 [encSs l,.int .i64 most] (.bool (uniqB l most)):=by
 refine aO (cxOk 29 [0,1,4,5,6,7,8,9,10,23]) Tryz.func73 ?_
 conv=>whnf
 refine loop_up (cxOk _ _) l.length (fun k=>∀ j,j<k→uqB l j=true) (fun k=>⟨[(0,encSs l),(1,.int .i64 most),(4,.bool false),(7,encSs l),(8,.int .i64 (l.length:Nat)),(9,.int .i64 (k:Nat))],[],0⟩) (by intro j hj;omega) ((wk_of [] rfl ⟨wa0,wa0,wa0,wa0,wa0,wa0,trivial⟩ trivial)) ?_
 intro k hk hP
 conv=>whnf
 refine ⟨fun hd=>?_,fun hd=>?_⟩
 ·have hd:=of_decide_eq_true hd
  have hlt:k<l.length:=by omega
  have hek:(k:Int).toNat=k:=Int.toNat_natCast k
  have hm:l.getD k []∈l:=getD_mem hlt
  have hn:=name_ok (l.getD k []) (hs _ hm)
  have hc:=contains_ok (l.take k) (l.getD k []) (by simp;omega)
  conv=>whnf
  refine iO ?_;conv=>whnf
  refine And.intro rfl ?_;conv=>whnf
  rw [hek]
  conv=>whnf
  refine cO (fun _=>hn) ?_
  conv=>whnf
  refine And.intro (fun _=>⟨by omega,by omega,by omega⟩) ?_
  conv=>whnf
  refine And.intro rfl ?_
  conv=>whnf
  refine .one _ _ _ (fun _=>hc) (.cons (show Lend _ _ (encSs (l.take k)) [] from lS rfl) (.cons (lS rfl) .nil)) (.inl rfl) (.inr rfl) ?_
  conv=>whnf
  refine ⟨fun hb=>?_,fun hb=>?_⟩
  ·have hq:uniqB l most=false:=by
    have h1:uqB l k=false:=by
     unfold uqB
     simp only [Bool.or_eq_true,Bool.not_eq_true'] at hb
     rcases hb with hb | hb<;>rw [hb]<;>simp
    unfold uniqB
    rw [show ((List.range l.length).all fun k=>uqB l k)=false by
     rw [List.all_eq_false]
     exact ⟨k,List.mem_range.2 hlt,by rw [h1];decide⟩]
    rfl
   conv=>whnf
   rw [hq]
   rfl
  ·have h1:uqB l k=true:=by
    unfold uqB
    simp only [Bool.or_eq_false_iff,Bool.not_eq_false'] at hb
    rw [hb.1,hb.2]
    rfl
   conv=>whnf
   refine iO ?_;conv=>whnf
   refine up hlt (fun j hj=>?_) ((wk_of [] rfl ⟨wa0,wa0,wa0,wa0,wa0,wa0,trivial⟩ trivial))
   by_cases e:j=k
   ·subst e;exact h1
   ·exact hP j om0
 ·have hd:=of_decide_eq_false hd
  obtain rfl:k=l.length:=by omega
  conv=>whnf
  have he:uniqB l most=decide ((l.length:Int)≤most):=by
   unfold uniqB
   rw [show ((List.range l.length).all fun k=>uqB l k)=true by rw [List.all_eq_true];intro j hj;exact hP j (List.mem_range.1 hj)]
   rfl
  rw [he]
  rfl
def letR (l:LetE):Bool:=rightE l.body
def covR (c:Cov):Bool:=rightE c.must&&inB 0 1000 [c.grace]
def callR (c:CallE):Bool:=inB 0 200000 [c.a]&&inB 0 10000 [c.b]
theorem letr_ok (l:LetE) (h:OkE l.body):APureV Tryz.prog 75 [encL l] (.bool (!letR l)):=by
 have hr:=rightexp_ok l.body h
 unfold letR
 refine aO (cxOk 7 [0,1,2]) Tryz.func75 ?_
 conv=>whnf
 refine cO (fun _=>hr) ?_
 conv=>whnf
 rfl
theorem covr_ok (c:Cov) (h:OkE c.must):APureV Tryz.prog 77 [encC c] (.bool (!covR c)):=by
 have hr:=rightexp_ok c.must h
 unfold covR
 cases hb:rightE c.must with
 | false =>
  rw [hb] at hr
  refine aO (cxOk 14 [0,1,2]) Tryz.func77 ?_
  conv=>whnf
  refine cO (fun _=>hr) ?_
  conv=>whnf
  refine gF ?_
  conv=>whnf
  refine cF [.int .i64 0,.int .i64 1000,.undef] [.val (.bool false)] ?_
  conv=>whnf
  rfl
 | true =>
  rw [hb] at hr
  refine aO (cxOk 14 [0,1,2]) Tryz.func77 ?_
  conv=>whnf
  refine cO (fun _=>hr) ?_
  conv=>whnf
  refine gT ?_
  conv=>whnf
  refine cO (fun _=>in1_ok 0 1000 c.grace) ?_
  conv=>whnf
  rfl
theorem callr_ok (c:CallE):APureV Tryz.prog 79 [encK c] (.bool (!callR c)):=by
 unfold callR
 refine aO (cxOk 15 [0,1,2]) Tryz.func79 ?_
 conv=>whnf
 refine cO (fun _=>in1_ok 0 200000 c.a) ?_
 conv=>whnf
 cases hb:inB 0 200000 [c.a] with
 | false =>
  refine gF ?_
  conv=>whnf
  refine cF [.int .i64 0,.int .i64 10000,.undef] [.val (.bool false)] ?_
  conv=>whnf
  rfl
 | true =>
  refine gT ?_
  conv=>whnf
  refine cO (fun _=>in1_ok 0 10000 c.b) ?_
  conv=>whnf
  rfl
theorem in2_ok (a b n m:Int):APureV Tryz.prog 72 [.int .i64 a,.int .i64 b,.sl 1 encI 0 [n,m]] (.bool (inB a b [n,m])):=in_ok a b [n,m] (by simp)
structure OkX (x:Ind):Prop where
 name:x.name.length≤9223372036854775807
 issuer:x.issuer.length≤9223372036854775807
 coupon:OkE x.coupon
 lets:x.lets.length≤1000000000
 let1:∀ l∈x.lets,l.name.length≤9223372036854775807∧OkE l.body
 cov:x.cov.length≤1000000000
 cov1:∀ c∈x.cov,c.name.length≤9223372036854775807∧OkE c.must∧in64 c.grace
 favour:x.favour.length≤9223372036854775807
 fav1:∀ s∈x.favour,s.length≤9223372036854775807
 calls:x.calls.length≤9223372036854775807
 call1:∀ c∈x.calls,in64 c.a∧in64 c.b
 nums:in64 x.face∧in64 x.frm∧in64 x.to∧in64 x.every∧in64 x.count∧in64 x.adjust∧in64 x.record∧in64 x.rank∧in64 x.cap∧in64 x.cross∧in64 x.notice∧in64 x.sink∧in64 x.majority∧in64 x.fast
def datesB (x:Ind):Bool:=inB 0 200000 [x.frm,x.to]&&decide (x.frm<x.to)
def oneB (x:Ind):Bool:=inB 1 1000000000000000 [x.face]&&inB 1 120 [x.every]&&inB 0 2 [x.count]&&inB 0 3 [x.adjust]&&inB 0 100 [x.record]&&inB 0 9 [x.rank]
def twoB (x:Ind):Bool:=inB 0 10000 [x.cap]&&inB (-1) 1000000000000000 [x.cross]&&inB 0 1000 [x.notice,x.sink]&&inB 1 1000 [x.majority,x.fast]
def headB (x:Ind):Bool:=datesB x&&oneB x&&twoB x&&nameB x.name&&nameB x.issuer&&decide ((x.calls.length:Int)≤20)&&uniqB x.favour 20
def restB (x:Ind):Bool:=uniqB (x.lets.map LetE.name) 20&&uniqB (x.cov.map Cov.name) 20&&rightE x.coupon&&x.lets.all letR&&x.cov.all covR&&x.calls.all callR
def rightI (x:Ind):Bool:=headB x&&restB x
theorem rightfn_ok (x:Ind) (hx:OkX x):APureV Tryz.prog 23 [encX x] (.bool (rightI x)):=by
 have hn1:=name_ok x.name hx.name
 have hn2:=name_ok x.issuer hx.issuer
 have hu:=uniq_ok x.favour 20 hx.favour hx.fav1
 refine aO (cxOk 177 [0,1,2,3,4,5,6,7,9,11,12,119,121,122,123,124,134,135,136,137,159]) Tryz.func23 ?_
 conv=>whnf
 refine cO (fun _=>in2_ok 0 200000 x.frm x.to) ?_
 conv=>whnf
 refine cO (fun _=>in1_ok 1 1000000000000000 x.face) ?_
 conv=>whnf
 cases ha0:inB 1 1000000000000000 [x.face] with
 | false =>
  refine gF ?_
  conv=>whnf
  refine cF [.int .i64 1,.int .i64 120,.undef] [.val (.bool false)] ?_
  conv=>whnf
  refine gF ?_
  conv=>whnf
  refine cF [.int .i64 0,.int .i64 2,.undef] [.val (.bool false)] ?_
  conv=>whnf
  refine gF ?_
  conv=>whnf
  refine cF [.int .i64 0,.int .i64 3,.undef] [.val (.bool false)] ?_
  conv=>whnf
  refine gF ?_
  conv=>whnf
  refine cF [.int .i64 0,.int .i64 100,.undef] [.val (.bool false)] ?_
  conv=>whnf
  refine gF ?_
  conv=>whnf
  refine cF [.int .i64 0,.int .i64 9,.undef] [.val (.bool false)] ?_
  conv=>whnf
  refine cO (fun _=>in1_ok 0 10000 x.cap) ?_
  conv=>whnf
  cases hb0:inB 0 10000 [x.cap] with
  | false =>
   refine gF ?_
   conv=>whnf
   refine cF [.int .i64 (-1),.int .i64 1000000000000000,.undef] [.val (.bool false)] ?_
   conv=>whnf
   refine gF ?_
   conv=>whnf
   refine cF [.int .i64 0,.int .i64 1000,.undef] [.val (.bool false)] ?_
   conv=>whnf
   refine gF ?_
   conv=>whnf
   refine cF [.int .i64 1,.int .i64 1000,.undef] [.val (.bool false)] ?_
   conv=>whnf
   refine cO (fun _=>hn1) ?_
   conv=>whnf
   refine cO (fun _=>hn2) ?_
   conv=>whnf
   refine cO (fun _=>hu) ?_
   conv=>whnf
   refine ⟨fun _=>?_,fun hx=>absurd hx (by simp)⟩
   conv=>whnf
   rw [show rightI x=false by simp only [rightI,headB,oneB,twoB,hb0,Bool.and_false,Bool.false_and]]
   rfl
  | true =>
   refine gT ?_
   conv=>whnf
   refine cO (fun _=>in1_ok (-1) 1000000000000000 x.cross) ?_
   conv=>whnf
   cases hb1:inB (-1) 1000000000000000 [x.cross] with
   | false =>
    refine gF ?_
    conv=>whnf
    refine cF [.int .i64 0,.int .i64 1000,.undef] [.val (.bool false)] ?_
    conv=>whnf
    refine gF ?_
    conv=>whnf
    refine cF [.int .i64 1,.int .i64 1000,.undef] [.val (.bool false)] ?_
    conv=>whnf
    refine cO (fun _=>hn1) ?_
    conv=>whnf
    refine cO (fun _=>hn2) ?_
    conv=>whnf
    refine cO (fun _=>hu) ?_
    conv=>whnf
    refine ⟨fun _=>?_,fun hx=>absurd hx (by simp)⟩
    conv=>whnf
    rw [show rightI x=false by simp only [rightI,headB,oneB,twoB,hb1,Bool.and_false,Bool.false_and]]
    rfl
   | true =>
    refine gT ?_
    conv=>whnf
    refine cO (fun _=>in2_ok 0 1000 x.notice x.sink) ?_
    conv=>whnf
    cases hb2:inB 0 1000 [x.notice,x.sink] with
    | false =>
     refine gF ?_
     conv=>whnf
     refine cF [.int .i64 1,.int .i64 1000,.undef] [.val (.bool false)] ?_
     conv=>whnf
     refine cO (fun _=>hn1) ?_
     conv=>whnf
     refine cO (fun _=>hn2) ?_
     conv=>whnf
     refine cO (fun _=>hu) ?_
     conv=>whnf
     refine ⟨fun _=>?_,fun hx=>absurd hx (by simp)⟩
     conv=>whnf
     rw [show rightI x=false by simp only [rightI,headB,oneB,twoB,hb2,Bool.and_false,Bool.false_and]]
     rfl
    | true =>
     refine gT ?_
     conv=>whnf
     refine cO (fun _=>in2_ok 1 1000 x.majority x.fast) ?_
     conv=>whnf
     refine cO (fun _=>hn1) ?_
     conv=>whnf
     refine cO (fun _=>hn2) ?_
     conv=>whnf
     refine cO (fun _=>hu) ?_
     conv=>whnf
     refine ⟨fun _=>?_,fun hx=>absurd hx (by simp)⟩
     conv=>whnf
     rw [show rightI x=false by simp only [rightI,headB,oneB,twoB,ha0,Bool.and_false,Bool.false_and]]
     rfl
 | true =>
  refine gT ?_
  conv=>whnf
  refine cO (fun _=>in1_ok 1 120 x.every) ?_
  conv=>whnf
  cases ha1:inB 1 120 [x.every] with
  | false =>
   refine gF ?_
   conv=>whnf
   refine cF [.int .i64 0,.int .i64 2,.undef] [.val (.bool false)] ?_
   conv=>whnf
   refine gF ?_
   conv=>whnf
   refine cF [.int .i64 0,.int .i64 3,.undef] [.val (.bool false)] ?_
   conv=>whnf
   refine gF ?_
   conv=>whnf
   refine cF [.int .i64 0,.int .i64 100,.undef] [.val (.bool false)] ?_
   conv=>whnf
   refine gF ?_
   conv=>whnf
   refine cF [.int .i64 0,.int .i64 9,.undef] [.val (.bool false)] ?_
   conv=>whnf
   refine cO (fun _=>in1_ok 0 10000 x.cap) ?_
   conv=>whnf
   cases hb0:inB 0 10000 [x.cap] with
   | false =>
    refine gF ?_
    conv=>whnf
    refine cF [.int .i64 (-1),.int .i64 1000000000000000,.undef] [.val (.bool false)] ?_
    conv=>whnf
    refine gF ?_
    conv=>whnf
    refine cF [.int .i64 0,.int .i64 1000,.undef] [.val (.bool false)] ?_
    conv=>whnf
    refine gF ?_
    conv=>whnf
    refine cF [.int .i64 1,.int .i64 1000,.undef] [.val (.bool false)] ?_
    conv=>whnf
    refine cO (fun _=>hn1) ?_
    conv=>whnf
    refine cO (fun _=>hn2) ?_
    conv=>whnf
    refine cO (fun _=>hu) ?_
    conv=>whnf
    refine ⟨fun _=>?_,fun hx=>absurd hx (by simp)⟩
    conv=>whnf
    rw [show rightI x=false by simp only [rightI,headB,oneB,twoB,hb0,Bool.and_false,Bool.false_and]]
    rfl
   | true =>
    refine gT ?_
    conv=>whnf
    refine cO (fun _=>in1_ok (-1) 1000000000000000 x.cross) ?_
    conv=>whnf
    cases hb1:inB (-1) 1000000000000000 [x.cross] with
    | false =>
     refine gF ?_
     conv=>whnf
     refine cF [.int .i64 0,.int .i64 1000,.undef] [.val (.bool false)] ?_
     conv=>whnf
     refine gF ?_
     conv=>whnf
     refine cF [.int .i64 1,.int .i64 1000,.undef] [.val (.bool false)] ?_
     conv=>whnf
     refine cO (fun _=>hn1) ?_
     conv=>whnf
     refine cO (fun _=>hn2) ?_
     conv=>whnf
     refine cO (fun _=>hu) ?_
     conv=>whnf
     refine ⟨fun _=>?_,fun hx=>absurd hx (by simp)⟩
     conv=>whnf
     rw [show rightI x=false by simp only [rightI,headB,oneB,twoB,hb1,Bool.and_false,Bool.false_and]]
     rfl
    | true =>
     refine gT ?_
     conv=>whnf
     refine cO (fun _=>in2_ok 0 1000 x.notice x.sink) ?_
     conv=>whnf
     cases hb2:inB 0 1000 [x.notice,x.sink] with
     | false =>
      refine gF ?_
      conv=>whnf
      refine cF [.int .i64 1,.int .i64 1000,.undef] [.val (.bool false)] ?_
      conv=>whnf
      refine cO (fun _=>hn1) ?_
      conv=>whnf
      refine cO (fun _=>hn2) ?_
      conv=>whnf
      refine cO (fun _=>hu) ?_
      conv=>whnf
      refine ⟨fun _=>?_,fun hx=>absurd hx (by simp)⟩
      conv=>whnf
      rw [show rightI x=false by simp only [rightI,headB,oneB,twoB,hb2,Bool.and_false,Bool.false_and]]
      rfl
     | true =>
      refine gT ?_
      conv=>whnf
      refine cO (fun _=>in2_ok 1 1000 x.majority x.fast) ?_
      conv=>whnf
      refine cO (fun _=>hn1) ?_
      conv=>whnf
      refine cO (fun _=>hn2) ?_
      conv=>whnf
      refine cO (fun _=>hu) ?_
      conv=>whnf
      refine ⟨fun _=>?_,fun hx=>absurd hx (by simp)⟩
      conv=>whnf
      rw [show rightI x=false by simp only [rightI,headB,oneB,twoB,ha1,Bool.and_false,Bool.false_and]]
      rfl
  | true =>
   refine gT ?_
   conv=>whnf
   refine cO (fun _=>in1_ok 0 2 x.count) ?_
   conv=>whnf
   cases ha2:inB 0 2 [x.count] with
   | false =>
    refine gF ?_
    conv=>whnf
    refine cF [.int .i64 0,.int .i64 3,.undef] [.val (.bool false)] ?_
    conv=>whnf
    refine gF ?_
    conv=>whnf
    refine cF [.int .i64 0,.int .i64 100,.undef] [.val (.bool false)] ?_
    conv=>whnf
    refine gF ?_
    conv=>whnf
    refine cF [.int .i64 0,.int .i64 9,.undef] [.val (.bool false)] ?_
    conv=>whnf
    refine cO (fun _=>in1_ok 0 10000 x.cap) ?_
    conv=>whnf
    cases hb0:inB 0 10000 [x.cap] with
    | false =>
     refine gF ?_
     conv=>whnf
     refine cF [.int .i64 (-1),.int .i64 1000000000000000,.undef] [.val (.bool false)] ?_
     conv=>whnf
     refine gF ?_
     conv=>whnf
     refine cF [.int .i64 0,.int .i64 1000,.undef] [.val (.bool false)] ?_
     conv=>whnf
     refine gF ?_
     conv=>whnf
     refine cF [.int .i64 1,.int .i64 1000,.undef] [.val (.bool false)] ?_
     conv=>whnf
     refine cO (fun _=>hn1) ?_
     conv=>whnf
     refine cO (fun _=>hn2) ?_
     conv=>whnf
     refine cO (fun _=>hu) ?_
     conv=>whnf
     refine ⟨fun _=>?_,fun hx=>absurd hx (by simp)⟩
     conv=>whnf
     rw [show rightI x=false by simp only [rightI,headB,oneB,twoB,hb0,Bool.and_false,Bool.false_and]]
     rfl
    | true =>
     refine gT ?_
     conv=>whnf
     refine cO (fun _=>in1_ok (-1) 1000000000000000 x.cross) ?_
     conv=>whnf
     cases hb1:inB (-1) 1000000000000000 [x.cross] with
     | false =>
      refine gF ?_
      conv=>whnf
      refine cF [.int .i64 0,.int .i64 1000,.undef] [.val (.bool false)] ?_
      conv=>whnf
      refine gF ?_
      conv=>whnf
      refine cF [.int .i64 1,.int .i64 1000,.undef] [.val (.bool false)] ?_
      conv=>whnf
      refine cO (fun _=>hn1) ?_
      conv=>whnf
      refine cO (fun _=>hn2) ?_
      conv=>whnf
      refine cO (fun _=>hu) ?_
      conv=>whnf
      refine ⟨fun _=>?_,fun hx=>absurd hx (by simp)⟩
      conv=>whnf
      rw [show rightI x=false by simp only [rightI,headB,oneB,twoB,hb1,Bool.and_false,Bool.false_and]]
      rfl
     | true =>
      refine gT ?_
      conv=>whnf
      refine cO (fun _=>in2_ok 0 1000 x.notice x.sink) ?_
      conv=>whnf
      cases hb2:inB 0 1000 [x.notice,x.sink] with
      | false =>
       refine gF ?_
       conv=>whnf
       refine cF [.int .i64 1,.int .i64 1000,.undef] [.val (.bool false)] ?_
       conv=>whnf
       refine cO (fun _=>hn1) ?_
       conv=>whnf
       refine cO (fun _=>hn2) ?_
       conv=>whnf
       refine cO (fun _=>hu) ?_
       conv=>whnf
       refine ⟨fun _=>?_,fun hx=>absurd hx (by simp)⟩
       conv=>whnf
       rw [show rightI x=false by simp only [rightI,headB,oneB,twoB,hb2,Bool.and_false,Bool.false_and]]
       rfl
      | true =>
       refine gT ?_
       conv=>whnf
       refine cO (fun _=>in2_ok 1 1000 x.majority x.fast) ?_
       conv=>whnf
       refine cO (fun _=>hn1) ?_
       conv=>whnf
       refine cO (fun _=>hn2) ?_
       conv=>whnf
       refine cO (fun _=>hu) ?_
       conv=>whnf
       refine ⟨fun _=>?_,fun hx=>absurd hx (by simp)⟩
       conv=>whnf
       rw [show rightI x=false by simp only [rightI,headB,oneB,twoB,ha2,Bool.and_false,Bool.false_and]]
       rfl
   | true =>
    refine gT ?_
    conv=>whnf
    refine cO (fun _=>in1_ok 0 3 x.adjust) ?_
    conv=>whnf
    cases ha3:inB 0 3 [x.adjust] with
    | false =>
     refine gF ?_
     conv=>whnf
     refine cF [.int .i64 0,.int .i64 100,.undef] [.val (.bool false)] ?_
     conv=>whnf
     refine gF ?_
     conv=>whnf
     refine cF [.int .i64 0,.int .i64 9,.undef] [.val (.bool false)] ?_
     conv=>whnf
     refine cO (fun _=>in1_ok 0 10000 x.cap) ?_
     conv=>whnf
     cases hb0:inB 0 10000 [x.cap] with
     | false =>
      refine gF ?_
      conv=>whnf
      refine cF [.int .i64 (-1),.int .i64 1000000000000000,.undef] [.val (.bool false)] ?_
      conv=>whnf
      refine gF ?_
      conv=>whnf
      refine cF [.int .i64 0,.int .i64 1000,.undef] [.val (.bool false)] ?_
      conv=>whnf
      refine gF ?_
      conv=>whnf
      refine cF [.int .i64 1,.int .i64 1000,.undef] [.val (.bool false)] ?_
      conv=>whnf
      refine cO (fun _=>hn1) ?_
      conv=>whnf
      refine cO (fun _=>hn2) ?_
      conv=>whnf
      refine cO (fun _=>hu) ?_
      conv=>whnf
      refine ⟨fun _=>?_,fun hx=>absurd hx (by simp)⟩
      conv=>whnf
      rw [show rightI x=false by simp only [rightI,headB,oneB,twoB,hb0,Bool.and_false,Bool.false_and]]
      rfl
     | true =>
      refine gT ?_
      conv=>whnf
      refine cO (fun _=>in1_ok (-1) 1000000000000000 x.cross) ?_
      conv=>whnf
      cases hb1:inB (-1) 1000000000000000 [x.cross] with
      | false =>
       refine gF ?_
       conv=>whnf
       refine cF [.int .i64 0,.int .i64 1000,.undef] [.val (.bool false)] ?_
       conv=>whnf
       refine gF ?_
       conv=>whnf
       refine cF [.int .i64 1,.int .i64 1000,.undef] [.val (.bool false)] ?_
       conv=>whnf
       refine cO (fun _=>hn1) ?_
       conv=>whnf
       refine cO (fun _=>hn2) ?_
       conv=>whnf
       refine cO (fun _=>hu) ?_
       conv=>whnf
       refine ⟨fun _=>?_,fun hx=>absurd hx (by simp)⟩
       conv=>whnf
       rw [show rightI x=false by simp only [rightI,headB,oneB,twoB,hb1,Bool.and_false,Bool.false_and]]
       rfl
      | true =>
       refine gT ?_
       conv=>whnf
       refine cO (fun _=>in2_ok 0 1000 x.notice x.sink) ?_
       conv=>whnf
       cases hb2:inB 0 1000 [x.notice,x.sink] with
       | false =>
        refine gF ?_
        conv=>whnf
        refine cF [.int .i64 1,.int .i64 1000,.undef] [.val (.bool false)] ?_
        conv=>whnf
        refine cO (fun _=>hn1) ?_
        conv=>whnf
        refine cO (fun _=>hn2) ?_
        conv=>whnf
        refine cO (fun _=>hu) ?_
        conv=>whnf
        refine ⟨fun _=>?_,fun hx=>absurd hx (by simp)⟩
        conv=>whnf
        rw [show rightI x=false by simp only [rightI,headB,oneB,twoB,hb2,Bool.and_false,Bool.false_and]]
        rfl
       | true =>
        refine gT ?_
        conv=>whnf
        refine cO (fun _=>in2_ok 1 1000 x.majority x.fast) ?_
        conv=>whnf
        refine cO (fun _=>hn1) ?_
        conv=>whnf
        refine cO (fun _=>hn2) ?_
        conv=>whnf
        refine cO (fun _=>hu) ?_
        conv=>whnf
        refine ⟨fun _=>?_,fun hx=>absurd hx (by simp)⟩
        conv=>whnf
        rw [show rightI x=false by simp only [rightI,headB,oneB,twoB,ha3,Bool.and_false,Bool.false_and]]
        rfl
    | true =>
     refine gT ?_
     conv=>whnf
     refine cO (fun _=>in1_ok 0 100 x.record) ?_
     conv=>whnf
     cases ha4:inB 0 100 [x.record] with
     | false =>
      refine gF ?_
      conv=>whnf
      refine cF [.int .i64 0,.int .i64 9,.undef] [.val (.bool false)] ?_
      conv=>whnf
      refine cO (fun _=>in1_ok 0 10000 x.cap) ?_
      conv=>whnf
      cases hb0:inB 0 10000 [x.cap] with
      | false =>
       refine gF ?_
       conv=>whnf
       refine cF [.int .i64 (-1),.int .i64 1000000000000000,.undef] [.val (.bool false)] ?_
       conv=>whnf
       refine gF ?_
       conv=>whnf
       refine cF [.int .i64 0,.int .i64 1000,.undef] [.val (.bool false)] ?_
       conv=>whnf
       refine gF ?_
       conv=>whnf
       refine cF [.int .i64 1,.int .i64 1000,.undef] [.val (.bool false)] ?_
       conv=>whnf
       refine cO (fun _=>hn1) ?_
       conv=>whnf
       refine cO (fun _=>hn2) ?_
       conv=>whnf
       refine cO (fun _=>hu) ?_
       conv=>whnf
       refine ⟨fun _=>?_,fun hx=>absurd hx (by simp)⟩
       conv=>whnf
       rw [show rightI x=false by simp only [rightI,headB,oneB,twoB,hb0,Bool.and_false,Bool.false_and]]
       rfl
      | true =>
       refine gT ?_
       conv=>whnf
       refine cO (fun _=>in1_ok (-1) 1000000000000000 x.cross) ?_
       conv=>whnf
       cases hb1:inB (-1) 1000000000000000 [x.cross] with
       | false =>
        refine gF ?_
        conv=>whnf
        refine cF [.int .i64 0,.int .i64 1000,.undef] [.val (.bool false)] ?_
        conv=>whnf
        refine gF ?_
        conv=>whnf
        refine cF [.int .i64 1,.int .i64 1000,.undef] [.val (.bool false)] ?_
        conv=>whnf
        refine cO (fun _=>hn1) ?_
        conv=>whnf
        refine cO (fun _=>hn2) ?_
        conv=>whnf
        refine cO (fun _=>hu) ?_
        conv=>whnf
        refine ⟨fun _=>?_,fun hx=>absurd hx (by simp)⟩
        conv=>whnf
        rw [show rightI x=false by simp only [rightI,headB,oneB,twoB,hb1,Bool.and_false,Bool.false_and]]
        rfl
       | true =>
        refine gT ?_
        conv=>whnf
        refine cO (fun _=>in2_ok 0 1000 x.notice x.sink) ?_
        conv=>whnf
        cases hb2:inB 0 1000 [x.notice,x.sink] with
        | false =>
         refine gF ?_
         conv=>whnf
         refine cF [.int .i64 1,.int .i64 1000,.undef] [.val (.bool false)] ?_
         conv=>whnf
         refine cO (fun _=>hn1) ?_
         conv=>whnf
         refine cO (fun _=>hn2) ?_
         conv=>whnf
         refine cO (fun _=>hu) ?_
         conv=>whnf
         refine ⟨fun _=>?_,fun hx=>absurd hx (by simp)⟩
         conv=>whnf
         rw [show rightI x=false by simp only [rightI,headB,oneB,twoB,hb2,Bool.and_false,Bool.false_and]]
         rfl
        | true =>
         refine gT ?_
         conv=>whnf
         refine cO (fun _=>in2_ok 1 1000 x.majority x.fast) ?_
         conv=>whnf
         refine cO (fun _=>hn1) ?_
         conv=>whnf
         refine cO (fun _=>hn2) ?_
         conv=>whnf
         refine cO (fun _=>hu) ?_
         conv=>whnf
         refine ⟨fun _=>?_,fun hx=>absurd hx (by simp)⟩
         conv=>whnf
         rw [show rightI x=false by simp only [rightI,headB,oneB,twoB,ha4,Bool.and_false,Bool.false_and]]
         rfl
     | true =>
      refine gT ?_
      conv=>whnf
      refine cO (fun _=>in1_ok 0 9 x.rank) ?_
      conv=>whnf
      refine cO (fun _=>in1_ok 0 10000 x.cap) ?_
      conv=>whnf
      cases hb0:inB 0 10000 [x.cap] with
      | false =>
       refine gF ?_
       conv=>whnf
       refine cF [.int .i64 (-1),.int .i64 1000000000000000,.undef] [.val (.bool false)] ?_
       conv=>whnf
       refine gF ?_
       conv=>whnf
       refine cF [.int .i64 0,.int .i64 1000,.undef] [.val (.bool false)] ?_
       conv=>whnf
       refine gF ?_
       conv=>whnf
       refine cF [.int .i64 1,.int .i64 1000,.undef] [.val (.bool false)] ?_
       conv=>whnf
       refine cO (fun _=>hn1) ?_
       conv=>whnf
       refine cO (fun _=>hn2) ?_
       conv=>whnf
       refine cO (fun _=>hu) ?_
       conv=>whnf
       refine ⟨fun _=>?_,fun hx=>absurd hx (by simp)⟩
       conv=>whnf
       rw [show rightI x=false by simp only [rightI,headB,oneB,twoB,hb0,Bool.and_false,Bool.false_and]]
       rfl
      | true =>
       refine gT ?_
       conv=>whnf
       refine cO (fun _=>in1_ok (-1) 1000000000000000 x.cross) ?_
       conv=>whnf
       cases hb1:inB (-1) 1000000000000000 [x.cross] with
       | false =>
        refine gF ?_
        conv=>whnf
        refine cF [.int .i64 0,.int .i64 1000,.undef] [.val (.bool false)] ?_
        conv=>whnf
        refine gF ?_
        conv=>whnf
        refine cF [.int .i64 1,.int .i64 1000,.undef] [.val (.bool false)] ?_
        conv=>whnf
        refine cO (fun _=>hn1) ?_
        conv=>whnf
        refine cO (fun _=>hn2) ?_
        conv=>whnf
        refine cO (fun _=>hu) ?_
        conv=>whnf
        refine ⟨fun _=>?_,fun hx=>absurd hx (by simp)⟩
        conv=>whnf
        rw [show rightI x=false by simp only [rightI,headB,oneB,twoB,hb1,Bool.and_false,Bool.false_and]]
        rfl
       | true =>
        refine gT ?_
        conv=>whnf
        refine cO (fun _=>in2_ok 0 1000 x.notice x.sink) ?_
        conv=>whnf
        cases hb2:inB 0 1000 [x.notice,x.sink] with
        | false =>
         refine gF ?_
         conv=>whnf
         refine cF [.int .i64 1,.int .i64 1000,.undef] [.val (.bool false)] ?_
         conv=>whnf
         refine cO (fun _=>hn1) ?_
         conv=>whnf
         refine cO (fun _=>hn2) ?_
         conv=>whnf
         refine cO (fun _=>hu) ?_
         conv=>whnf
         refine ⟨fun _=>?_,fun hx=>absurd hx (by simp)⟩
         conv=>whnf
         rw [show rightI x=false by simp only [rightI,headB,oneB,twoB,hb2,Bool.and_false,Bool.false_and]]
         rfl
        | true =>
         refine gT ?_
         conv=>whnf
         refine cO (fun _=>in2_ok 1 1000 x.majority x.fast) ?_
         conv=>whnf
         refine cO (fun _=>hn1) ?_
         conv=>whnf
         refine cO (fun _=>hn2) ?_
         conv=>whnf
         refine cO (fun _=>hu) ?_
         conv=>whnf
         refine ⟨fun hh=>?_,fun hh=>?_⟩
         ·have hB:headB x=false:=by
           cases hB:headB x with
           | false=>rfl
           | true =>
            simp only [headB,datesB,oneB,twoB,Bool.and_eq_true,decide_eq_true_eq] at hB
            obtain ⟨⟨⟨⟨⟨⟨⟨d1,d2⟩,o1⟩,t1⟩,n1⟩,n2⟩,c1⟩,f1⟩:=hB
            rw [d1,o1.2,t1.2,n1,n2,f1] at hh
            simp at hh
            omega
          conv=>whnf
          rw [show rightI x=false by simp only [rightI,hB,Bool.false_and]]
          rfl
         have hB:headB x=true:=by
          simp only [Bool.or_eq_false_iff,Bool.not_eq_false',Bool.and_eq_true,decide_eq_true_eq,decide_eq_false_iff_not] at hh
          obtain ⟨⟨⟨⟨⟨⟨⟨d1,d2⟩,o1⟩,t1⟩,n1⟩,n2⟩,c1⟩,f1⟩:=hh
          simp only [headB,datesB,oneB,twoB,ha0,ha1,ha2,ha3,ha4,hb0,hb1,hb2,d1,o1.2,t1.2,n1,n2,f1,Bool.and_true,decide_eq_true_eq,Bool.and_eq_true]
          exact ⟨⟨trivial,d2⟩,by omega⟩
         conv=>whnf
         have hlets:=hx.lets
         refine loop_up (cxOk _ _) x.lets.length (fun _=>True) (fun k=>⟨[(1,.ptr 0 0),(2,.bool false),(6,.own 1),(7,.nils),(121,.sl 6 encL l0 x.lets),(122,.int .i64 (x.lets.length:Nat)),(123,.int .i64 (k:Nat))],[(0,.cells 31 (celX x)),(1,.row 9 1 encS [] ((x.lets.take k).map LetE.name))],2⟩) trivial ((wk_of [(0,.id 0),(1,.nil)] rfl ⟨wc0,wa0,ah0,wa0,wa0,wa0,wa0,trivial⟩ ⟨wb0,⟨_,rfl,ag0⟩,trivial⟩)) ?_
         intro k hk _
         conv=>whnf
         refine ⟨fun hd=>?_,fun hd=>?_⟩
         ·have hd:=of_decide_eq_true hd
          have hlt:k<x.lets.length:=by omega
          have hek:(k:Int).toNat=k:=Int.toNat_natCast k
          conv=>whnf
          refine iO ?_;conv=>whnf
          refine And.intro rfl ?_;conv=>whnf
          refine And.intro rfl ?_;conv=>whnf
          rw [hek]
          conv=>whnf
          refine And.intro ⟨rfl,rfl⟩ (And.intro (by show ((List.map LetE.name (List.take k x.lets)).length+1)*16≤140737488355328;rw [List.length_map,List.length_take];omega) ?_)
          conv=>whnf
          refine Exists.intro _ (And.intro rfl ?_);conv=>whnf
          refine iO ?_;conv=>whnf
          refine up hlt trivial ((wk_of [(0,.id 0),(1,.id 4)] rfl ⟨wc0,wa0,ah0,wa0,wa0,wa0,wa0,trivial⟩ ⟨wb0,⟨_,rfl,(by first | exact .row _ _ _ _ _ _ _ rfl (by rw [take_getD (d:=l0) hlt,List.map_append];rfl) | exact .lstrow _ _ _ _ _ _ _ rfl (by rw [take_getD (d:=l0) hlt,List.map_append];rfl) | exact .nilrow _ _ _ _ _ (by rw [take_getD (d:=l0) hlt,List.map_append];rfl) | exact .truncrow _ _ _ _ _ _ _ _ rfl (by omega) (by rw [take_getD (d:=l0) hlt,List.map_append];rfl))⟩,trivial⟩))
         have hd:=of_decide_eq_false hd
         obtain rfl:k=x.lets.length:=by omega
         conv=>whnf
         have hcov:=hx.cov
         rw [List.take_length]
         refine loop_up (cxOk _ _) x.cov.length (fun _=>True) (fun k=>⟨[(1,.ptr 0 0),(2,.bool false),(6,.own 1),(7,.own 2),(134,.sl 7 encC c0 x.cov),(135,.int .i64 (x.cov.length:Nat)),(136,.int .i64 (k:Nat))],[(0,.cells 31 (celX x)),(1,.row 9 1 encS [] (x.lets.map LetE.name)),(2,.row 9 1 encS [] ((x.cov.take k).map Cov.name))],3⟩) trivial ((wk_of [(0,.id 0),(1,.id 1),(2,.nil)] rfl ⟨wc0,wa0,ah0,ah0,wa0,wa0,wa0,trivial⟩ ⟨wb0,⟨_,rfl,ag0⟩,⟨_,rfl,ag0⟩,trivial⟩)) ?_
         intro k hk _
         conv=>whnf
         refine ⟨fun hd=>?_,fun hd=>?_⟩
         ·have hd:=of_decide_eq_true hd
          have hlt:k<x.cov.length:=by omega
          have hek:(k:Int).toNat=k:=Int.toNat_natCast k
          conv=>whnf
          refine iO ?_;conv=>whnf
          refine And.intro rfl ?_;conv=>whnf
          refine And.intro rfl ?_;conv=>whnf
          rw [hek]
          conv=>whnf
          refine And.intro ⟨rfl,rfl⟩ (And.intro (by show ((List.map Cov.name (List.take k x.cov)).length+1)*16≤140737488355328;rw [List.length_map,List.length_take];omega) ?_)
          conv=>whnf
          refine Exists.intro _ (And.intro rfl ?_);conv=>whnf
          refine iO ?_;conv=>whnf
          refine up hlt trivial ((wk_of [(0,.id 0),(1,.id 1),(2,.id 5)] rfl ⟨wc0,wa0,ah0,ah0,wa0,wa0,wa0,trivial⟩ ⟨wb0,⟨_,rfl,ag0⟩,⟨_,rfl,(by first | exact .row _ _ _ _ _ _ _ rfl (by rw [take_getD (d:=c0) hlt,List.map_append];rfl) | exact .lstrow _ _ _ _ _ _ _ rfl (by rw [take_getD (d:=c0) hlt,List.map_append];rfl) | exact .nilrow _ _ _ _ _ (by rw [take_getD (d:=c0) hlt,List.map_append];rfl) | exact .truncrow _ _ _ _ _ _ _ _ rfl (by omega) (by rw [take_getD (d:=c0) hlt,List.map_append];rfl))⟩,trivial⟩))
         have hd:=of_decide_eq_false hd
         obtain rfl:k=x.cov.length:=by omega
         conv=>whnf
         rw [List.take_length]
         have u1:=uniq_ok (x.lets.map LetE.name) 20 (by rw [List.length_map];omega) (by
          intro s hs
          obtain ⟨l,hl,rfl⟩:=List.mem_map.1 hs
          exact (hx.let1 l hl).1)
         have u2:=uniq_ok (x.cov.map Cov.name) 20 (by rw [List.length_map];omega) (by
          intro s hs
          obtain ⟨l,hl,rfl⟩:=List.mem_map.1 hs
          exact (hx.cov1 l hl).1)
         have re:=rightexp_ok x.coupon hx.coupon
         have a1:=anyL_ok x.lets 75 (fun l=>!letR l) (fun l hl=>letr_ok l (hx.let1 l hl).2) (by omega)
         have a2:=anyC_ok x.cov 77 (fun l=>!covR l) (fun l hl=>covr_ok l (hx.cov1 l hl).2.1) (by omega)
         have a3:=anyK_ok x.calls 79 (fun l=>!callR l) (fun l _=>callr_ok l) hx.calls
         refine cO (fun _=>u1) ?_
         conv=>whnf
         refine cO (fun _=>u2) ?_
         conv=>whnf
         refine cO (fun _=>re) ?_
         conv=>whnf
         refine ⟨fun hr=>?_,fun hr=>?_⟩
         ·have hR:restB x=false:=by
           simp only [Bool.or_eq_true,Bool.not_eq_true'] at hr
           unfold restB
           rcases hr with (hr | hr) | hr<;>rw [hr]<;>simp
          conv=>whnf
          rw [show rightI x=false by simp only [rightI,hR,Bool.and_false]]
          rfl
         ·have hR:rightI x=(!((x.lets.any fun l=>!letR l)||(x.cov.any fun l=>!covR l))&&!(x.calls.any fun l=>!callR l)):=by
           simp only [Bool.or_eq_false_iff,Bool.not_eq_false'] at hr
           simp only [rightI,restB,hB,hr.1.1,hr.1.2,hr.2,Bool.true_and,List.all_eq_not_any_not,Bool.not_or]
          rw [hR]
          conv=>whnf
          refine cO (fun _=>a1) ?_
          conv=>whnf
          refine cO (fun _=>a2) ?_
          conv=>whnf
          refine cO (fun _=>a3) ?_
          conv=>whnf
          rfl
open Go.Proofs Go.Shelf Go.RowKit
theorem Tryz.sizeB:(Tryz.prog.info? 85).map (·.size)=some 2:=by kernel_rfl
theorem Tryz.liesB:liesAt Tryz.prog Tryz.prog.depth 85 (2 / Tryz.prog.cellsOf 85) 0 85 1=true:=by kernel_rfl
theorem Tryz.mixedO:Tryz.prog.follows .mixedOrders=true:=by kernel_rfl
set_option maxHeartbeats 1000000 in
set_option maxRecDepth 100000 in
theorem Tryz.copy_used_calls (b:Nat) (w:World) (h0:w.cell? ⟨b,0,none⟩=some (.pointer (some ⟨b,0,none⟩))) :
  Calls Tryz.prog 137 #[.pointer (some ⟨b,0,none⟩)] w fun e w'=>e=.returned (.tuple #[])∧w'=w:=by
 obtain ⟨j,hj,_⟩:=Option.map_eq_some_iff.1 Tryz.sizeB
 have mixed:=Tryz.mixedO
 go_enter Tryz.func137,Tryz.ntmps137
 go_wp2
 rw [Lib.run_neq_ptr_same w _ Tryz.underlying82 hj]
 go_wp2
 go_end0
 exact ⟨rfl,rfl⟩
set_option maxHeartbeats 1000000 in
set_option maxRecDepth 100000 in
theorem Tryz.copy_fresh_calls (b:Nat) (w:World) (h0:w.cell? ⟨b,0,none⟩=some (.pointer none)) (hsh:w.shape? b=some (85,2)) (hfz:w.frozen? ⟨b,0,none⟩=false) :
  Calls Tryz.prog 137 #[.pointer (some ⟨b,0,none⟩)] w fun e w'=>e=.returned (.tuple #[])∧w'=w.setCell ⟨b,0,none⟩ (.pointer (some ⟨b,0,none⟩)):=by
 obtain ⟨j,hj,hjs⟩:=Option.map_eq_some_iff.1 Tryz.sizeB
 have mixed:=Tryz.mixedO
 go_enter Tryz.func137,Tryz.ntmps137
 go_wp2
 rw [Lib.run_to_unsafe w ⟨b,0,none⟩ Tryz.underlying82 Tryz.underlying171 hj (by rw [hjs];decide) hsh (Nat.zero_lt_succ 1)]
 simp only [Result.andThen]
 rw [Oper.upon_value]
 go_wp2
 rw [run_callFunc_extern Tryz.func175 (by kernel_rfl) (by kernel_rfl) (by kernel_rfl) (e:=Extern.AbiNoEscape.same) (by kernel_rfl)]
 rw [Lib.run_noEscape]
 simp only [Result.andThen]
 rw [Oper.upon_value]
 go_wp2
 rw [Lib.run_from_unsafe w ⟨b,0,none⟩ Tryz.underlying171 Tryz.underlying82 hj hsh Tryz.liesB]
 simp only [Result.andThen]
 rw [Oper.upon_value]
 go_wp2
 go_end0
 exact ⟨rfl,rfl⟩
theorem fnOk137:FnOk Tryz.prog 137:=⟨_,Tryz.func137,rfl,by decide⟩
theorem write_first (s:List UInt8) (hs:s.length≤140737488355328) :
  RIO Tryz.prog 56 [.ptr 0 0,.str s] [.cells 85 [.nilp,.nils]] 1 (fun vs bs es=>vs=[.int .i64 s.length,.ifc true]∧bs=[.cells 85 [.ptr 0 0,.own 1]]∧es=[.lst 5 1 (strAVs s)]):=by
 refine rO (cxPOk 1 19 [0,1,4,5]) Tryz.func56 ?_
 conv=>whnf
 refine .raw _ _ rfl (fun h=>by cases h) (copy_fresh (e:=85) (x:=.nils) Tryz.copy_fresh_calls fnOk137 rfl) ?_
 rintro r rfl
 refine ⟨Nat.le_refl _,?_⟩
 conv=>whnf
 refine ⟨hs,?_⟩
 conv=>whnf
 refine ⟨_,Wk.refl _,rfl,rfl,?_⟩
 conv=>whnf
 exact ⟨rfl,rfl,rfl,rfl⟩
theorem write_more (b s:List UInt8) (hs:b.length+s.length≤140737488355328) :
  RIO Tryz.prog 56 [.ptr 0 0,.str s] [.cells 85 [.ptr 0 0,.own 1],.lst 5 1 (strAVs b)] 1 (fun vs bs es=>vs=[.int .i64 s.length,.ifc true]∧bs=[.cells 85 [.ptr 0 0,.own 1]]∧es=[.lst 5 1 (strAVs (b++s))]):=by
 refine rO (cxPOk 1 19 [0,1,4,5]) Tryz.func56 ?_
 conv=>whnf
 refine .raw _ _ rfl (fun h=>by cases h) (copy_used (e:=85) (x:=.own 1) Tryz.copy_used_calls fnOk137 rfl) ?_
 rintro r rfl
 refine ⟨Nat.le_refl _,?_⟩
 conv=>whnf
 refine ⟨⟨rfl,rfl⟩,by rw [strAVs_len];exact hs,?_⟩
 conv=>whnf
 refine ⟨⟨[(4,.int .i64 s.length),(5,.ifc true)],[(0,.cells 85 [.ptr 0 0,.own 1]),(1,.lst 5 1 (strAVs (b++s)))],2⟩,(wk_of [(0,.id 0),(1,.id 2)] rfl ⟨wa0,wa0,trivial⟩ ⟨wb0,⟨_,rfl,.lst _ _ _ _ _ rfl ((strAVs_append b s).symm)⟩,trivial⟩),rfl,rfl,?_⟩
 conv=>whnf
 exact ⟨rfl,rfl,rfl,rfl⟩
theorem string_of (b:List UInt8) (hb:b≠[]):RIO Tryz.prog 64 [.ptr 0 0] [.cells 85 [.ptr 0 0,.own 1],.lst 5 1 (strAVs b)] 0 (fun vs bs es=>vs=[.str b]∧bs=[]∧es=[]):=by
 have hb1:0<(strAVs b).length:=by rw [strAVs_len];exact List.length_pos_iff.2 hb
 refine rO (cxPOk 0 14 [0,2]) Tryz.func64 ?_
 conv=>whnf
 refine .eff ae0 ?_
 conv=>whnf
 refine ⟨hb1,?_⟩
 conv=>whnf
 refine ⟨⟨rfl,rfl⟩,hb1,rfl,b,rfl,?_⟩
 conv=>whnf
 refine ⟨by kernel_rfl,?_⟩
 conv=>whnf
 refine ⟨⟨[(2,.str b)],[],0⟩,(wk_of [] rfl ⟨wa0,trivial⟩ trivial),rfl,rfl,?_⟩
 conv=>whnf
 exact ⟨rfl,rfl,rfl,rfl⟩
def lineT (ws:List (List UInt8)):List UInt8:=Lib.join ws [32]++[32,59,10]
abbrev strL (ws:List (List UInt8)):List AV:=ws.map fun s=>AV.str s
theorem line_first (ws:List (List UInt8)) (hN:ws.length≤140737488355328) (hlen:(Lib.join ws [32]).length≤100000000000000) :
  RIO Tryz.prog 55 [.own 1,.ptr 0 0] [.cells 85 [.nilp,.nils],.lst 9 1 (strL ws)] 1
   (fun vs bs es=>vs=[]∧bs=[.cells 85 [.ptr 0 0,.own 1]]∧es=[.lst 5 1 (strAVs (lineT ws))]):=by
 have hj:=join_c ws [32] hN (by omega)
 unfold lineT
 generalize Lib.join ws [32]=J at *
 refine rO (cxPOk 1 7 [0,1]) Tryz.func55 ?_
 conv=>whnf
 refine cO (fun _=>hj) ?_
 conv=>whnf
 refine And.intro ab0 ?_
 conv=>whnf
 refine .raw _ _ rfl (fun h=>by cases h) (rio_at (write_first (J++[32,59,10]) (by simp;omega)) [0] rfl rfl rfl ac0) ?_
 rintro _ ⟨_,_,_,⟨rfl,rfl,rfl⟩,-,rfl⟩
 refine ⟨Nat.le_add_right _ _,?_⟩
 conv=>whnf
 refine ⟨⟨[(1,.ptr 0 0)],[(0,.cells 85 [.ptr 0 0,.own 1]),(1,.lst 5 1 (strAVs (J++[32,59,10])))],2⟩,(wk_of [(0,.id 0),(1,.id 2)] rfl ⟨wc0,trivial⟩ ⟨wb0,we0,trivial⟩),rfl,rfl,?_⟩
 conv=>whnf
 exact ⟨rfl,rfl,rfl,rfl⟩
theorem line_more (b:List UInt8) (ws:List (List UInt8)) (hN:ws.length≤140737488355328) (hlen:b.length+(Lib.join ws [32]).length≤100000000000000) :
  RIO Tryz.prog 55 [.own 2,.ptr 0 0] [.cells 85 [.ptr 0 0,.own 1],.lst 5 1 (strAVs b),.lst 9 1 (strL ws)] 1
   (fun vs bs es=>vs=[]∧bs=[.cells 85 [.ptr 0 0,.own 1]]∧es=[.lst 5 1 (strAVs (b++lineT ws))]):=by
 have hj:=join_c ws [32] hN (by omega)
 unfold lineT
 generalize Lib.join ws [32]=J at *
 refine rO (cxPOk 1 7 [0,1]) Tryz.func55 ?_
 conv=>whnf
 refine cO (fun _=>hj) ?_
 conv=>whnf
 refine And.intro ab0 ?_
 conv=>whnf
 refine .raw _ _ rfl (fun h=>by cases h) (rio_at (write_more b (J++[32,59,10]) (by simp;omega)) [0,1] rfl rfl rfl ac0) ?_
 rintro _ ⟨_,_,_,⟨rfl,rfl,rfl⟩,-,rfl⟩
 refine ⟨Nat.le_add_right _ _,?_⟩
 conv=>whnf
 refine ⟨⟨[(1,.ptr 0 0)],[(0,.cells 85 [.ptr 0 0,.own 1]),(1,.lst 5 1 (strAVs (b++(J++[32,59,10]))))],2⟩,(wk_of [(0,.id 0),(1,.id 3)] rfl ⟨wc0,trivial⟩ ⟨wb0,we0,trivial⟩),rfl,rfl,?_⟩
 conv=>whnf
 exact ⟨rfl,rfl,rfl,rfl⟩
theorem line_row (b:List UInt8) (ws:List (List UInt8)) (hN:ws.length≤140737488355328) (hlen:b.length+(Lib.join ws [32]).length≤100000000000000) :
  RIO Tryz.prog 55 [.own 2,.ptr 0 0] [.cells 85 [.ptr 0 0,.own 1],.lst 5 1 (strAVs b),.row 9 1 encS [] ws] 1
   (fun vs bs es=>vs=[]∧bs=[.cells 85 [.ptr 0 0,.own 1]]∧es=[.lst 5 1 (strAVs (b++lineT ws))]):=by
 have hj:APureV Tryz.prog 57 [.sl 1 encS [] ws,.str [32]] (.str (Lib.join ws [32])):=apure_args (join_c ws [32] hN (by omega)) (.cons LeT.sl_lsl (.cons (.refl _) .nil))
 unfold lineT
 generalize Lib.join ws [32]=J at *
 refine rO (cxPOk 1 7 [0,1]) Tryz.func55 ?_
 conv=>whnf
 refine cO (fun _=>hj) ?_
 conv=>whnf
 refine And.intro ab0 ?_
 conv=>whnf
 refine .raw _ _ rfl (fun h=>by cases h) (rio_at (write_more b (J++[32,59,10]) (by simp;omega)) [0,1] rfl rfl rfl ac0) ?_
 rintro _ ⟨_,_,_,⟨rfl,rfl,rfl⟩,-,rfl⟩
 refine ⟨Nat.le_add_right _ _,?_⟩
 conv=>whnf
 refine ⟨⟨[(1,.ptr 0 0)],[(0,.cells 85 [.ptr 0 0,.own 1]),(1,.lst 5 1 (strAVs (b++(J++[32,59,10]))))],2⟩,(wk_of [(0,.id 0),(1,.id 3)] rfl ⟨wc0,trivial⟩ ⟨wb0,we0,trivial⟩),rfl,rfl,?_⟩
 conv=>whnf
 exact ⟨rfl,rfl,rfl,rfl⟩
def txt (L:List (List (List UInt8))):List UInt8:=(L.map lineT).flatten
theorem txt_snoc (L:List (List (List UInt8))) (w:List (List UInt8)):txt (L++[w])=txt L++lineT w:=by unfold txt;simp
def WsOk (ws:List (List UInt8)):Prop:=ws.length≤21∧∀ s∈ws,s.length≤1100000100
theorem join_len (M:Nat):∀ (ws:List (List UInt8)),(∀ s∈ws,s.length≤M)→(Lib.join ws [32]).length≤ws.length*(M+1):=by
 have tail:∀ (r:List (List UInt8)),(∀ s∈r,s.length≤M)→(Lib.joinTail [32] r).length≤r.length*(M+1):=by
  intro r
  induction r with
  | nil=>intro _;simp [Lib.joinTail]
  | cons x r ih =>
   intro h
   have h1:=ih fun s hs=>h s (List.mem_cons_of_mem _ hs)
   have h2:=h x List.mem_cons_self
   have e:Lib.joinTail [32] (x::r)=([32]++x)++Lib.joinTail [32] r:=by simp [Lib.joinTail]
   rw [e,List.length_append,List.length_append,show (x::r).length=r.length+1 from rfl,Nat.succ_mul,show ([32]:List UInt8).length=1 from rfl]
   omega
 intro ws
 cases ws with
 | nil=>intro _;simp [Lib.join_nil]
 | cons x r =>
  intro h
  have h1:=tail r fun s hs=>h s (List.mem_cons_of_mem _ hs)
  have h2:=h x List.mem_cons_self
  rw [Lib.join_cons,List.length_append,List.length_cons,Nat.succ_mul]
  omega
theorem WsOk.join {ws:List (List UInt8)} (h:WsOk ws):(Lib.join ws [32]).length≤23200000000:=by
 have h1:=join_len 1100000100 ws h.2
 have h2:ws.length*(1100000100+1)≤21*(1100000100+1):=Nat.mul_le_mul_right _ h.1
 omega
theorem WsOk.line {ws:List (List UInt8)} (h:WsOk ws):(lineT ws).length≤23200000003:=by
 have:=h.join
 unfold lineT
 rw [List.length_append]
 simp only [List.length_cons,List.length_nil]
 omega
structure LOk (n:Nat) (L:List (List (List UInt8))):Prop where
 len:L.length≤n
 all:∀ w∈L,WsOk w
theorem LOk.nil:LOk 0 []:=⟨Nat.le_refl _,fun w hw=>by cases hw⟩
theorem LOk.snoc {n:Nat} {L:List (List (List UInt8))} {w:List (List UInt8)} (h:LOk n L) (hw:WsOk w):LOk (n+1) (L++[w]) :=
 ⟨by rw [List.length_append];have:=h.len;simp only [List.length_cons,List.length_nil];omega,fun v hv=>by
  rcases List.mem_append.1 hv with hv | hv
  ·exact h.all v hv
  ·rcases List.mem_singleton.1 hv with rfl;exact hw⟩
theorem LOk.app {n m:Nat} {L M:List (List (List UInt8))} (h:LOk n L) (hM:LOk m M):LOk (n+m) (L++M) :=
 ⟨by rw [List.length_append];have:=h.len;have:=hM.len;omega,fun v hv=>by
  rcases List.mem_append.1 hv with hv | hv
  ·exact h.all v hv
  ·exact hM.all v hv⟩
theorem txt_len:∀ {n:Nat} {L:List (List (List UInt8))},LOk n L→(txt L).length≤n*23200000003:=by
 intro n L
 induction L generalizing n with
 | nil=>intro _;simp [txt]
 | cons w L ih =>
  intro h
  have hl:=h.len
  rw [List.length_cons] at hl
  obtain ⟨k,rfl⟩:∃ k,n=k+1:=⟨n-1,by omega⟩
  have h1:=ih (n:=k) ⟨by omega,fun v hv=>h.all v (List.mem_cons_of_mem _ hv)⟩
  have h2:=(h.all w List.mem_cons_self).line
  have e:txt (w::L)=lineT w++txt L:=by unfold txt;simp
  rw [e,List.length_append,Nat.succ_mul]
  omega
theorem line1_ok (w:List (List UInt8)) (hw:WsOk w):RIO Tryz.prog 55 [.own 1,.ptr 0 0] [.cells 85 [.nilp,.nils],.lst 9 1 (strL w)] 1
  (fun vs bs es=>vs=[]∧bs=[.cells 85 [.ptr 0 0,.own 1]]∧es=[.lst 5 1 (strAVs (txt [w]))]):=by
 have h:=line_first w (by have:=hw.1;omega) (by have:=hw.join;omega)
 have e:txt [w]=lineT w:=by unfold txt;simp
 rw [e]
 exact h
theorem line_ok {n:Nat} {L:List (List (List UInt8))} (hL:LOk n L) (hn:n≤120) (w:List (List UInt8)) (hw:WsOk w) :
  RIO Tryz.prog 55 [.own 2,.ptr 0 0] [.cells 85 [.ptr 0 0,.own 1],.lst 5 1 (strAVs (txt L)),.lst 9 1 (strL w)] 1
   (fun vs bs es=>vs=[]∧bs=[.cells 85 [.ptr 0 0,.own 1]]∧es=[.lst 5 1 (strAVs (txt (L++[w])))]):=by
 have hl:=txt_len hL
 have hl2:n*23200000003≤120*23200000003:=Nat.mul_le_mul_right _ hn
 have h:=line_more (txt L) w (by have:=hw.1;omega) (by have:=hw.join;omega)
 rw [txt_snoc]
 exact h
theorem lrow_ok {n:Nat} {L:List (List (List UInt8))} (hL:LOk n L) (hn:n≤120) (w:List (List UInt8)) (hw:WsOk w) :
  RIO Tryz.prog 55 [.own 2,.ptr 0 0] [.cells 85 [.ptr 0 0,.own 1],.lst 5 1 (strAVs (txt L)),.row 9 1 encS [] w] 1
   (fun vs bs es=>vs=[]∧bs=[.cells 85 [.ptr 0 0,.own 1]]∧es=[.lst 5 1 (strAVs (txt (L++[w])))]):=by
 have hl:=txt_len hL
 have hl2:n*23200000003≤120*23200000003:=Nat.mul_le_mul_right _ hn
 have h:=line_row (txt L) w (by have:=hw.1;omega) (by have:=hw.join;omega)
 rw [txt_snoc]
 exact h
def letW (l:LetE):List (List UInt8):=[[108,101,116],l.name,[61],showT 12 l.body 0]
def covW (c:Cov):List (List UInt8):=[[99,111,118,101,110,97,110,116],c.name,[109,117,115,116],showT 12 c.must 0,[103,114,97,99,101],Lib.itoa c.grace]
def callW (c:CallE):List (List UInt8):=[[99,97,108,108],dayT c.a,[97,116],Lib.itoa c.b]
def headW (x:Ind):List (List (List UInt8)):=[[[105,115,115,117,101],x.name,[111,102],x.issuer],[[102,97,99,101],Lib.itoa x.face],
 [[102,114,111,109],dayT x.frm,[116,111],dayT x.to,[101,118,101,114,121],Lib.itoa x.every,[109,111,110,116,104,115]],
 [[99,111,117,110,116],cntW.getD x.count.toNat []],[[97,100,106,117,115,116],adjW.getD x.adjust.toNat []],
 [[114,101,99,111,114,100],Lib.itoa x.record],[[114,97,110,107],Lib.itoa x.rank]]
def midW (x:Ind):List (List (List UInt8)):=[[[99,111,117,112,111,110],showT 12 x.coupon 0],[[99,97,112],Lib.itoa x.cap]]
def favW (x:Ind):List (List (List UInt8)):=if 0<x.favour.length then [[102,97,118,111,117,114]::x.favour] else []
def croW (x:Ind):List (List (List UInt8)):=if 0≤x.cross then [[[99,114,111,115,115],Lib.itoa x.cross]] else []
def notW (x:Ind):List (List (List UInt8)):=if 0<x.notice then [[[110,111,116,105,99,101],Lib.itoa x.notice]] else []
def sinW (x:Ind):List (List (List UInt8)):=if 0<x.sink then [[[115,105,110,107],Lib.itoa x.sink]] else []
def endW (x:Ind):List (List (List UInt8)):=[[[109,97,106,111,114,105,116,121],Lib.itoa x.majority],[[102,97,115,116],Lib.itoa x.fast]]
def linesW (x:Ind):List (List (List UInt8)):=headW x++x.lets.map letW++midW x++x.cov.map covW++favW x++croW x++x.calls.map callW++notW x++sinW x++endW x
def printI (x:Ind):List UInt8×Int:=if rightI x=true then fitsT (txt (linesW x)) else ([],1)
theorem inB_one {a b n:Int} (h:inB a b [n]=true):a≤n∧n≤b:=by
 unfold inB at h
 simpa using h
structure Rt (x:Ind):Prop where
 frm:0≤x.frm∧x.frm≤200000
 to:0≤x.to∧x.to≤200000
 before:x.frm<x.to
 face:1≤x.face∧x.face≤1000000000000000
 every:1≤x.every∧x.every≤120
 count:0≤x.count∧x.count≤2
 adjust:0≤x.adjust∧x.adjust≤3
 record:0≤x.record∧x.record≤100
 rank:0≤x.rank∧x.rank≤9
 cap:0≤x.cap∧x.cap≤10000
 cross:-1≤x.cross∧x.cross≤1000000000000000
 notice:0≤x.notice∧x.notice≤1000
 sink:0≤x.sink∧x.sink≤1000
 majority:1≤x.majority∧x.majority≤1000
 fast:1≤x.fast∧x.fast≤1000
 name:nameB x.name=true
 issuer:nameB x.issuer=true
 ncalls:x.calls.length≤20
 fav:uniqB x.favour 20=true
 ulets:uniqB (x.lets.map LetE.name) 20=true
 ucov:uniqB (x.cov.map Cov.name) 20=true
 coupon:rightE x.coupon=true
 lets:∀ l∈x.lets,rightE l.body=true
 cov:∀ c∈x.cov,rightE c.must=true∧0≤c.grace∧c.grace≤1000
 calls:∀ c∈x.calls,(0≤c.a∧c.a≤200000)∧0≤c.b∧c.b≤10000
theorem right_iff (x:Ind):rightI x=true↔Rt x:=by
 have one:∀ a b n:Int,inB a b [n]=true↔a≤n∧n≤b:=fun a b n=>by unfold inB;simp
 have two:∀ a b n m:Int,inB a b [n,m]=true↔(a≤n∧n≤b)∧a≤m∧m≤b:=fun a b n m=>by unfold inB;simp
 unfold rightI headB restB datesB oneB twoB letR covR callR
 simp only [Bool.and_eq_true,decide_eq_true_eq,one,two,List.all_eq_true]
 constructor
 ·rintro ⟨⟨⟨⟨⟨⟨⟨⟨⟨a1,a2⟩,a3⟩,⟨⟨⟨⟨⟨b1,b2⟩,b3⟩,b4⟩,b5⟩,b6⟩⟩,⟨⟨⟨c1,c2⟩,c3,c4⟩,c5,c6⟩⟩,d1⟩,d2⟩,d3⟩,d4⟩,⟨⟨⟨⟨e1,e2⟩,e3⟩,e4⟩,e5⟩,e6⟩
  exact ⟨a1,a2,a3,b1,b2,b3,b4,b5,b6,c1,c2,c3,c4,c5,c6,d1,d2,by omega,d4,e1,e2,e3,e4,e5,e6⟩
 ·rintro ⟨a1,a2,a3,b1,b2,b3,b4,b5,b6,c1,c2,c3,c4,c5,c6,d1,d2,d3,d4,e1,e2,e3,e4,e5,e6⟩
  exact ⟨⟨⟨⟨⟨⟨⟨⟨⟨a1,a2⟩,a3⟩,⟨⟨⟨⟨⟨b1,b2⟩,b3⟩,b4⟩,b5⟩,b6⟩⟩,⟨⟨⟨c1,c2⟩,c3,c4⟩,c5,c6⟩⟩,d1⟩,d2⟩,om0⟩,d4⟩,⟨⟨⟨⟨e1,e2⟩,e3⟩,e4⟩,e5⟩,e6⟩
theorem uniq_name {l:List (List UInt8)} {most:Int} (h:uniqB l most=true) {s:List UInt8} (hs:s∈l):nameB s=true:=by
 unfold uniqB at h
 simp only [Bool.and_eq_true,List.all_eq_true,List.mem_range] at h
 obtain ⟨k,hk,rfl⟩:=List.getElem_of_mem hs
 have:=h.1 k hk
 unfold uqB at this
 simp only [Bool.and_eq_true] at this
 have h1:=this.1
 rw [List.getD_eq_getElem?_getD,List.getElem?_eq_getElem hk] at h1
 exact h1
theorem uniq_len {l:List (List UInt8)} {most:Int} (h:uniqB l most=true):(l.length:Int)≤most:=by
 unfold uniqB at h
 simp only [Bool.and_eq_true,decide_eq_true_eq] at h
 exact h.2
theorem itoa_len21 {n:Int} (h:in64 n):(Lib.itoa n).length≤1100000100:=by
 have:=Lib.itoa_length_le n h.1 h.2
 omega
theorem show12_len (e:Exp) (h:rightE e=true) (hok:OkE e):(showT 12 e 0).length≤1100000100:=by
 have h1:=show_len 12 e 0 h hok
 have h3:lenB 12=1073741824:=by decide
 omega
theorem wsOk_of {ws:List (List UInt8)} (h:ws.length≤21) (h2:∀ s∈ws,s.length≤1100000100):WsOk ws:=⟨h,h2⟩
theorem ws2 {a b:List UInt8} (ha:a.length≤1100000100) (hb:b.length≤1100000100):WsOk [a,b]:=wsOk_of (by simp) (by simp;omega)
theorem ws4 {a b c d:List UInt8} (ha:a.length≤1100000100) (hb:b.length≤1100000100) (hc:c.length≤1100000100) (hd:d.length≤1100000100):WsOk [a,b,c,d]:=wsOk_of (by simp) (by simp;omega)
theorem cnt_len (i:Nat):(cntW.getD i []).length≤20:=by
 match i with
 | 0 | 1 | 2=>decide
 | n+3=>simp [cntW]
theorem adj_len (i:Nat):(adjW.getD i []).length≤20:=by
 match i with
 | 0 | 1 | 2 | 3=>decide
 | n+4=>simp [adjW]
theorem int_len {n:Int} (h1:-1≤n) (h2:n≤1000000000000000):(Lib.itoa n).length≤1100000100:=itoa_len21 ⟨by omega,by omega⟩
theorem nam_len {s:List UInt8} (h:nameB s=true):s.length≤1100000100:=by have:=name_len h;omega
theorem day_len {n:Int} (h:0≤n∧n≤200000):(dayT n).length≤1100000100:=by have:=dayT_len h.1 h.2;omega
theorem letW_ok {l:LetE} (hn:nameB l.name=true) (hr:rightE l.body=true) (hok:OkE l.body):WsOk (letW l) :=
 ws4 (by simp) (nam_len hn) (by simp) (show12_len _ hr hok)
theorem covW_ok {c:Cov} (hn:nameB c.name=true) (hr:rightE c.must=true) (hok:OkE c.must) (h1:0≤c.grace) (h2:c.grace≤1000):WsOk (covW c):=by
 have a1:=nam_len hn
 have a2:=show12_len _ hr hok
 have a3:=int_len (n:=c.grace) (by omega) (by omega)
 refine wsOk_of (by simp [covW]) ?_
 unfold covW
 simp
 omega
theorem callW_ok {c:CallE} (h:(0≤c.a∧c.a≤200000)∧0≤c.b∧c.b≤10000):WsOk (callW c) :=
 ws4 (by simp) (day_len h.1) (by simp) (int_len (by omega) (by omega))
theorem favW_ok {l:List (List UInt8)} (h:uniqB l 20=true):WsOk ([102,97,118,111,117,114]::l):=by
 have h1:=uniq_len h
 refine wsOk_of (by rw [List.length_cons];omega) fun s hs=>?_
 rcases List.mem_cons.1 hs with rfl | hs
 ·simp
 ·exact nam_len (uniq_name h hs)
theorem txt_ne {L:List (List (List UInt8))} (h:L≠[]):txt L≠[]:=by
 cases L with
 | nil=>exact (h rfl).elim
 | cons w L =>
  unfold txt lineT
  simp
theorem string_txt {n:Nat} {L:List (List (List UInt8))} (_:LOk n L) (h:L≠[]):RIO Tryz.prog 64 [.ptr 0 0] [.cells 85 [.ptr 0 0,.own 1],.lst 5 1 (strAVs (txt L))] 0 (fun vs bs es=>vs=[.str (txt L)]∧bs=[]∧es=[]):=string_of (txt L) (txt_ne h)
theorem fits_txt {n:Nat} {L:List (List (List UInt8))} (hL:LOk n L) (hn:n≤120):APure Tryz.prog 63 [.str (txt L)] (fun rs=>rs=[.val (.str (fitsT (txt L)).1),.val (.int .i64 (fitsT (txt L)).2)]):=by
 have hl:=txt_len hL
 have hl2:n*23200000003≤120*23200000003:=Nat.mul_le_mul_right _ hn
 exact fits_ok (txt L) om0
theorem print_ok (x:Ind) (hx:OkX x):APure Tryz.prog 19 [encX x] (fun rs=>rs=[.val (.str (printI x).1),.val (.int .i64 (printI x).2)]):=by
 have h:=rightfn_ok x hx
 unfold printI
 cases hr:rightI x with
 | false =>
  rw [hr] at h
  refine aO (cxOk 199 [0,1,2,3,4,5,6,8,10,12,15,75,76,77,78,104,105,106,107,126,135,144,145,146,147,163,173]) Tryz.func19 ?_
  conv=>whnf
  refine cO (fun _=>h) ?_
  conv=>whnf
  refine gT ?_
  conv=>whnf
  rfl
 | true =>
  rw [hr] at h
  rw [if_pos rfl]
  have R:=(right_iff x).1 hr
  have it:∀ (n:Int),-1≤n→n≤1000000000000000→APureV Tryz.prog 58 [.int .i64 n] (.str (Lib.itoa n)):=fun n h1 h2=>itoa_c n (by omega) (by omega)
  have r1:=R.frm
  have r2:=R.to
  have r3:=R.face
  have r4:=R.every
  have r5:=R.count
  have r6:=R.adjust
  have r7:=R.record
  have r8:=R.rank
  have r9:=R.cap
  have r10:=R.cross
  have r11:=R.notice
  have r12:=R.sink
  have r13:=R.majority
  have r14:=R.fast
  have ll:=uniq_len R.ulets
  have lc:=uniq_len R.ucov
  have lf:=uniq_len R.fav
  have lk:=R.ncalls
  rw [List.length_map] at ll lc
  have d1:=day_ok x.frm r1.1 r1.2
  have d2:=day_ok x.to r2.1 r2.2
  have w1:WsOk [[105,115,115,117,101],x.name,[111,102],x.issuer]:=ws4 (by simp) (nam_len R.name) (by simp) (nam_len R.issuer)
  have w2:WsOk [[102,97,99,101],Lib.itoa x.face]:=ws2 (by simp) (int_len (by omega) (by omega))
  have w3:WsOk [[102,114,111,109],dayT x.frm,[116,111],dayT x.to,[101,118,101,114,121],Lib.itoa x.every,[109,111,110,116,104,115]]:=by
   have a1:=day_len r1
   have a2:=day_len r2
   have a3:=int_len (n:=x.every) (by omega) (by omega)
   refine wsOk_of (by simp) ?_
   simp
   omega
  have w4:WsOk [[99,111,117,110,116],cntW.getD x.count.toNat []]:=ws2 (by simp) (by have:=cnt_len x.count.toNat;omega)
  have w5:WsOk [[97,100,106,117,115,116],adjW.getD x.adjust.toNat []]:=ws2 (by simp) (by have:=adj_len x.adjust.toNat;omega)
  have w6:WsOk [[114,101,99,111,114,100],Lib.itoa x.record]:=ws2 (by simp) (int_len (by omega) (by omega))
  have w7:WsOk [[114,97,110,107],Lib.itoa x.rank]:=ws2 (by simp) (int_len (by omega) (by omega))
  have w8:WsOk [[99,111,117,112,111,110],showT 12 x.coupon 0]:=ws2 (by simp) (show12_len _ R.coupon hx.coupon)
  have w9:WsOk [[99,97,112],Lib.itoa x.cap]:=ws2 (by simp) (int_len (by omega) (by omega))
  have w10:=favW_ok R.fav
  have w11:WsOk [[99,114,111,115,115],Lib.itoa x.cross]:=ws2 (by simp) (int_len (by omega) (by omega))
  have w12:WsOk [[110,111,116,105,99,101],Lib.itoa x.notice]:=ws2 (by simp) (int_len (by omega) (by omega))
  have w13:WsOk [[115,105,110,107],Lib.itoa x.sink]:=ws2 (by simp) (int_len (by omega) (by omega))
  have w14:WsOk [[109,97,106,111,114,105,116,121],Lib.itoa x.majority]:=ws2 (by simp) (int_len (by omega) (by omega))
  have w15:WsOk [[102,97,115,116],Lib.itoa x.fast]:=ws2 (by simp) (int_len (by omega) (by omega))
  have hcou:=show_ok 12 x.coupon 0 (by decide) R.coupon hx.coupon
  refine aO (cxOk 199 [0,1,2,3,4,5,6,8,10,12,15,75,76,77,78,104,105,106,107,126,135,144,145,146,147,163,173]) Tryz.func19 ?_
  conv=>whnf
  refine cO (fun _=>h) ?_
  conv=>whnf
  refine gF ?_
  conv=>whnf
  refine cR (line1_ok _ w1) [1,2] ?_
  conv=>whnf
  have L1:=LOk.snoc LOk.nil w1
  refine cO (fun _=>it x.face om0 om0) ?_
  conv=>whnf
  refine cR (line_ok L1 om0 _ w2) [1,3,4] ?_
  conv=>whnf
  have L2:=LOk.snoc L1 w2
  refine .eff ae0 ?_
  conv=>whnf
  refine cO (fun _=>d1) ?_
  conv=>whnf
  refine cO (fun _=>d2) ?_
  conv=>whnf
  refine cO (fun _=>it x.every om0 om0) ?_
  conv=>whnf
  refine cR (line_ok L2 om0 _ w3) [1,5,6] ?_
  conv=>whnf
  have L3:=LOk.snoc L2 w3
  refine ⟨by kernel_rfl,?_⟩
  conv=>whnf
  have e3:cntW.length=3:=rfl
  have e4:adjW.length=4:=rfl
  refine .eff ae0 ?_
  conv=>whnf
  refine cO (fun _=>cnt_ok) ?_
  conv=>whnf
  refine iO ?_;conv=>whnf
  refine And.intro rfl ?_;conv=>whnf
  refine cR (line_ok L3 om0 _ w4) [1,7,8] ?_
  conv=>whnf
  have L4:=LOk.snoc L3 w4
  refine ⟨by kernel_rfl,?_⟩
  conv=>whnf
  refine .eff ae0 ?_
  conv=>whnf
  refine cO (fun _=>adj_ok) ?_
  conv=>whnf
  refine iO ?_;conv=>whnf
  refine And.intro rfl ?_;conv=>whnf
  refine cR (line_ok L4 om0 _ w5) [1,9,10] ?_
  conv=>whnf
  have L5:=LOk.snoc L4 w5
  refine ⟨by kernel_rfl,?_⟩
  conv=>whnf
  refine cO (fun _=>it x.record om0 om0) ?_
  conv=>whnf
  refine cR (line_ok L5 om0 _ w6) [1,11,12] ?_
  conv=>whnf
  have L6:=LOk.snoc L5 w6
  refine cO (fun _=>it x.rank om0 om0) ?_
  conv=>whnf
  refine cR (line_ok L6 om0 _ w7) [1,13,14] ?_
  conv=>whnf
  have L7:=LOk.snoc L6 w7
  have eH:[]++[[[105,115,115,117,101],x.name,[111,102],x.issuer]]=[[[105,115,115,117,101],x.name,[111,102],x.issuer]]:=rfl
  have LH:LOk 7 (headW x):=L7
  have Llet:∀ k,LOk 20 ((x.lets.take k).map letW):=fun k=>⟨by rw [List.length_map,List.length_take];omega,fun w hw=>by
   obtain ⟨l,hl,rfl⟩:=List.mem_map.1 hw
   have hm:=List.mem_of_mem_take hl
   exact letW_ok (uniq_name R.ulets (List.mem_map_of_mem hm)) (R.lets l hm) (hx.let1 l hm).2⟩
  refine loop_up (cxOk _ _) x.lets.length (fun _=>True) (fun k=>⟨[(1,.ptr 0 0),(2,.str []),(3,.int .i64 0),(4,.ptr 1 0),(5,.fn (.func 55) [] [.ptr 1 0]),(6,.fn (.func 58) [] []),(75,.sl 6 encL l0 x.lets),(76,.int .i64 (x.lets.length:Nat)),(77,.int .i64 (k:Nat))],[(0,.cells 31 (celX x)),(1,.cells 85 [.ptr 1 0,.own 2]),(2,.lst 5 1 (strAVs (txt (headW x++(x.lets.take k).map letW))))],3⟩) trivial ((wk_of [(0,.id 0),(1,.id 1),(2,.id 15)] rfl ⟨wc0,wa0,wa0,wc0,.fn _ _ _ _ _ ad0 ad0,.fn _ _ _ _ _ ad0 ad0,wa0,wa0,wa0,trivial⟩ ⟨wb0,wb0,⟨_,rfl,.lst _ _ _ _ _ rfl (rfl)⟩,trivial⟩)) ?_
  intro k hk _
  conv=>whnf
  refine ⟨fun hd=>?_,fun hd=>?_⟩
  ·have hd:=of_decide_eq_true hd
   have hlt:k<x.lets.length:=by omega
   have hek:(k:Int).toNat=k:=Int.toNat_natCast k
   have hm:x.lets.getD k l0∈x.lets:=getD_mem hlt
   have hsh:=show_ok 12 (x.lets.getD k l0).body 0 (by decide) (R.lets _ hm) (hx.let1 _ hm).2
   have hw:=letW_ok (uniq_name R.ulets (List.mem_map_of_mem hm)) (R.lets _ hm) (hx.let1 _ hm).2
   conv=>whnf
   refine iO ?_;conv=>whnf
   refine And.intro rfl ?_;conv=>whnf
   rw [hek]
   conv=>whnf
   refine .eff ae0 ?_
   conv=>whnf
   refine cO (fun _=>hsh) ?_
   conv=>whnf
   refine cR (line_ok (LH.app (Llet k)) om0 _ hw) [1,2,4] ?_
   conv=>whnf
   refine ⟨by kernel_rfl,?_⟩
   conv=>whnf
   refine iO ?_;conv=>whnf
   refine up hlt trivial ((wk_of [(0,.id 0),(1,.id 1),(2,.id 5)] rfl ⟨wc0,wa0,wa0,wc0,.fn _ _ _ _ _ ad0 ad0,.fn _ _ _ _ _ ad0 ad0,wa0,wa0,wa0,trivial⟩ ⟨wb0,wb0,⟨_,rfl,.lst _ _ _ _ _ rfl (by rw [take_getD (d:=l0) hlt,List.map_append,← List.append_assoc];rfl)⟩,trivial⟩))
  have hd:=of_decide_eq_false hd
  obtain rfl:k=x.lets.length:=by omega
  conv=>whnf
  rw [List.take_length]
  have LA:LOk 27 (headW x++x.lets.map letW):=by have:=LH.app (Llet x.lets.length);rw [List.take_length] at this;exact this
  have L100:=LA
  refine cO (fun _=>hcou) ?_
  conv=>whnf
  refine cR (line_ok L100 om0 _ w8) [1,2,3] ?_
  conv=>whnf
  have L101:=LOk.snoc L100 w8
  refine cO (fun _=>it x.cap om0 om0) ?_
  conv=>whnf
  refine cR (line_ok L101 om0 _ w9) [1,4,5] ?_
  conv=>whnf
  have L102:=LOk.snoc L101 w9
  have Lcov:∀ k,LOk 20 ((x.cov.take k).map covW):=fun k=>⟨by rw [List.length_map,List.length_take];omega,fun w hw=>by
   obtain ⟨l,hl,rfl⟩:=List.mem_map.1 hw
   have hm:=List.mem_of_mem_take hl
   exact covW_ok (uniq_name R.ucov (List.mem_map_of_mem hm)) (R.cov l hm).1 (hx.cov1 l hm).2.1 (R.cov l hm).2.1 (R.cov l hm).2.2⟩
  have LB:LOk 29 (headW x++x.lets.map letW++midW x):=by have h:=L102;rw [List.append_assoc] at h;exact h
  refine loop_up (cxOk _ _) x.cov.length (fun _=>True) (fun k=>⟨[(1,.ptr 0 0),(2,.str []),(3,.int .i64 0),(4,.ptr 1 0),(5,.fn (.func 55) [] [.ptr 1 0]),(6,.fn (.func 58) [] []),(104,.sl 7 encC c0 x.cov),(105,.int .i64 (x.cov.length:Nat)),(106,.int .i64 (k:Nat))],[(0,.cells 31 (celX x)),(1,.cells 85 [.ptr 1 0,.own 2]),(2,.lst 5 1 (strAVs (txt (headW x++x.lets.map letW++midW x++(x.cov.take k).map covW))))],3⟩) trivial ((wk_of [(0,.id 0),(1,.id 1),(2,.id 6)] rfl ⟨wc0,wa0,wa0,wc0,.fn _ _ _ _ _ ad0 ad0,.fn _ _ _ _ _ ad0 ad0,wa0,wa0,wa0,trivial⟩ ⟨wb0,wb0,⟨_,rfl,.lst _ _ _ _ _ rfl (by rw [List.append_assoc (headW x++x.lets.map letW)];rw [List.take_zero,List.map_nil,List.append_nil];rfl)⟩,trivial⟩)) ?_
  intro k hk _
  conv=>whnf
  refine ⟨fun hd=>?_,fun hd=>?_⟩
  ·have hd:=of_decide_eq_true hd
   have hlt:k<x.cov.length:=by omega
   have hek:(k:Int).toNat=k:=Int.toNat_natCast k
   have hm:x.cov.getD k c0∈x.cov:=getD_mem hlt
   have hsh:=show_ok 12 (x.cov.getD k c0).must 0 (by decide) (R.cov _ hm).1 (hx.cov1 _ hm).2.1
   have hg:=(R.cov _ hm).2
   have hw:=covW_ok (uniq_name R.ucov (List.mem_map_of_mem hm)) (R.cov _ hm).1 (hx.cov1 _ hm).2.1 hg.1 hg.2
   conv=>whnf
   refine iO ?_;conv=>whnf
   refine And.intro rfl ?_;conv=>whnf
   rw [hek]
   conv=>whnf
   refine .eff ae0 ?_
   conv=>whnf
   refine cO (fun _=>hsh) ?_
   conv=>whnf
   refine cO (fun _=>it (x.cov.getD k c0).grace om0 om0) ?_
   conv=>whnf
   refine cR (line_ok (LB.app (Lcov k)) om0 _ hw) [1,2,4] ?_
   conv=>whnf
   refine ⟨by kernel_rfl,?_⟩
   conv=>whnf
   refine iO ?_;conv=>whnf
   refine up hlt trivial ((wk_of [(0,.id 0),(1,.id 1),(2,.id 5)] rfl ⟨wc0,wa0,wa0,wc0,.fn _ _ _ _ _ ad0 ad0,.fn _ _ _ _ _ ad0 ad0,wa0,wa0,wa0,trivial⟩ ⟨wb0,wb0,⟨_,rfl,.lst _ _ _ _ _ rfl (by rw [take_getD (d:=c0) hlt,List.map_append,← List.append_assoc];rfl)⟩,trivial⟩))
  have hd:=of_decide_eq_false hd
  obtain rfl:k=x.cov.length:=by omega
  conv=>whnf
  rw [List.take_length]
  have LC:LOk 49 (headW x++x.lets.map letW++midW x++x.cov.map covW):=by have:=LB.app (Lcov x.cov.length);rw [List.take_length] at this;exact this
  have Lcal:∀ k,LOk 20 ((x.calls.take k).map callW):=fun k=>⟨by rw [List.length_map,List.length_take];omega,fun w hw=>by
   obtain ⟨c,hc,rfl⟩:=List.mem_map.1 hw
   exact callW_ok (R.calls c (List.mem_of_mem_take hc))⟩
  have fin:∀ {n:Nat} {L:List (List (List UInt8))},LOk n L→L=linesW x→[AR.val (.str (fitsT (txt L)).1),AR.val (.int .i64 (fitsT (txt L)).2)]=[AR.val (.str (fitsT (txt (linesW x))).1),AR.val (.int .i64 (fitsT (txt (linesW x))).2)]:=fun _ h=>by rw [h]
  refine ⟨fun hf=>?_,fun hf=>?_⟩
  ·have hf:=of_decide_eq_true hf
   have qf:favW x=[[102,97,118,111,117,114]::x.favour]:=by unfold favW;rw [if_pos (by omega)]
   conv=>whnf
   refine And.intro rfl ?_
   conv=>whnf
   refine And.intro ⟨rfl,rfl⟩ (And.intro (show (1+x.favour.length)*16≤140737488355328 by omega) ?_)
   conv=>whnf
   refine ⟨[[102,97,118,111,117,114]],rfl,?_⟩
   conv=>whnf
   refine cR (lrow_ok LC om0 _ w10) [1,2,4] ?_
   conv=>whnf
   have L103:=LOk.snoc LC w10
   refine ⟨fun hc=>?_,fun hc=>?_⟩
   ·have hc:=of_decide_eq_true hc
    have qc:croW x=[[[99,114,111,115,115],Lib.itoa x.cross]]:=by unfold croW;rw [if_pos (by omega)]
    conv=>whnf
    refine cO (fun _=>it x.cross om0 om0) ?_
    conv=>whnf
    refine cR (line_ok L103 om0 _ w11) [1,5,6] ?_
    conv=>whnf
    have LD:LOk 51 (headW x++x.lets.map letW++midW x++x.cov.map covW++favW x++croW x):=by
     have a:LOk 1 (favW x):=by rw [qf];first | exact LOk.snoc LOk.nil w10 | exact ⟨by simp,fun w hw=>by cases hw⟩
     have b:LOk 1 (croW x):=by rw [qc];first | exact LOk.snoc LOk.nil w11 | exact ⟨by simp,fun w hw=>by cases hw⟩
     exact (LC.app a).app b
    refine loop_up (cxOk _ _) x.calls.length (fun _=>True) (fun k=>⟨[(1,.ptr 0 0),(2,.str []),(3,.int .i64 0),(4,.ptr 1 0),(5,.fn (.func 55) [] [.ptr 1 0]),(6,.fn (.func 58) [] []),(144,.sl 2 encK k0 x.calls),(145,.int .i64 (x.calls.length:Nat)),(146,.int .i64 (k:Nat))],[(0,.cells 31 (celX x)),(1,.cells 85 [.ptr 1 0,.own 2]),(2,.lst 5 1 (strAVs (txt (headW x++x.lets.map letW++midW x++x.cov.map covW++favW x++croW x++(x.calls.take k).map callW))))],3⟩) trivial ((wk_of [(0,.id 0),(1,.id 1),(2,.id 7)] rfl ⟨wc0,wa0,wa0,wc0,.fn _ _ _ _ _ ad0 ad0,.fn _ _ _ _ _ ad0 ad0,wa0,wa0,wa0,trivial⟩ ⟨wb0,wb0,⟨_,rfl,.lst _ _ _ _ _ rfl (by rw [List.take_zero,List.map_nil,List.append_nil,qf,qc];try simp only [List.append_assoc,List.append_nil])⟩,trivial⟩)) ?_
    intro k hk _
    conv=>whnf
    refine ⟨fun hd=>?_,fun hd=>?_⟩
    ·have hd:=of_decide_eq_true hd
     have hlt:k<x.calls.length:=by omega
     have hek:(k:Int).toNat=k:=Int.toNat_natCast k
     have hm:x.calls.getD k k0∈x.calls:=getD_mem hlt
     have hcr:=R.calls _ hm
     have hw:=callW_ok hcr
     have hda:=day_ok _ hcr.1.1 hcr.1.2
     conv=>whnf
     refine iO ?_;conv=>whnf
     refine And.intro rfl ?_;conv=>whnf
     rw [hek]
     conv=>whnf
     refine .eff ae0 ?_
     conv=>whnf
     refine cO (fun _=>hda) ?_
     conv=>whnf
     refine cO (fun _=>it (x.calls.getD k k0).b om0 om0) ?_
     conv=>whnf
     refine cR (line_ok (LD.app (Lcal k)) om0 _ hw) [1,2,4] ?_
     conv=>whnf
     refine ⟨by kernel_rfl,?_⟩
     conv=>whnf
     refine iO ?_;conv=>whnf
     refine up hlt trivial ((wk_of [(0,.id 0),(1,.id 1),(2,.id 5)] rfl ⟨wc0,wa0,wa0,wc0,.fn _ _ _ _ _ ad0 ad0,.fn _ _ _ _ _ ad0 ad0,wa0,wa0,wa0,trivial⟩ ⟨wb0,wb0,⟨_,rfl,.lst _ _ _ _ _ rfl (by rw [take_getD (d:=k0) hlt,List.map_append,← List.append_assoc];rfl)⟩,trivial⟩))
    have hd:=of_decide_eq_false hd
    obtain rfl:k=x.calls.length:=by omega
    conv=>whnf
    rw [List.take_length]
    have LE:LOk 71 (headW x++x.lets.map letW++midW x++x.cov.map covW++favW x++croW x++x.calls.map callW):=by have:=LD.app (Lcal x.calls.length);rw [List.take_length] at this;exact this
    refine ⟨fun hn=>?_,fun hn=>?_⟩
    ·have hn:=of_decide_eq_true hn
     have qn:notW x=[[[110,111,116,105,99,101],Lib.itoa x.notice]]:=by unfold notW;rw [if_pos (by omega)]
     conv=>whnf
     refine cO (fun _=>it x.notice om0 om0) ?_
     conv=>whnf
     refine cR (line_ok LE om0 _ w12) [1,2,3] ?_
     conv=>whnf
     have L104:=LOk.snoc LE w12
     refine ⟨fun hs=>?_,fun hs=>?_⟩
     ·have hs:=of_decide_eq_true hs
      have qs:sinW x=[[[115,105,110,107],Lib.itoa x.sink]]:=by unfold sinW;rw [if_pos (by omega)]
      conv=>whnf
      refine cO (fun _=>it x.sink om0 om0) ?_
      conv=>whnf
      refine cR (line_ok L104 om0 _ w13) [1,4,5] ?_
      conv=>whnf
      have L105:=LOk.snoc L104 w13
      refine cO (fun _=>it x.majority om0 om0) ?_
      conv=>whnf
      refine cR (line_ok L105 om0 _ w14) [1,6,7] ?_
      conv=>whnf
      have L106:=LOk.snoc L105 w14
      refine cO (fun _=>it x.fast om0 om0) ?_
      conv=>whnf
      refine cR (line_ok L106 om0 _ w15) [1,8,9] ?_
      conv=>whnf
      have L107:=LOk.snoc L106 w15
      refine .raw _ _ rfl (fun h=>by cases h) (rio_at (string_txt L107 (by simp)) [1,10] rfl rfl rfl ac0) ?_
      rintro _ ⟨_,_,_,⟨rfl,rfl,rfl⟩,-,rfl⟩
      refine ⟨Nat.le_add_right _ _,?_⟩
      conv=>whnf
      refine cO (fun _=>fits_txt L107 om0) ?_
      conv=>whnf
      exact fin L107 (by simp only [linesW,endW,qn,qs,List.append_assoc,List.append_nil,List.cons_append,List.nil_append])
     ·have hs:=of_decide_eq_false hs
      have qs:sinW x=[]:=by unfold sinW;rw [if_neg (by omega)]
      conv=>whnf
      refine cO (fun _=>it x.majority om0 om0) ?_
      conv=>whnf
      refine cR (line_ok L104 om0 _ w14) [1,4,5] ?_
      conv=>whnf
      have L108:=LOk.snoc L104 w14
      refine cO (fun _=>it x.fast om0 om0) ?_
      conv=>whnf
      refine cR (line_ok L108 om0 _ w15) [1,6,7] ?_
      conv=>whnf
      have L109:=LOk.snoc L108 w15
      refine .raw _ _ rfl (fun h=>by cases h) (rio_at (string_txt L109 (by simp)) [1,8] rfl rfl rfl ac0) ?_
      rintro _ ⟨_,_,_,⟨rfl,rfl,rfl⟩,-,rfl⟩
      refine ⟨Nat.le_add_right _ _,?_⟩
      conv=>whnf
      refine cO (fun _=>fits_txt L109 om0) ?_
      conv=>whnf
      exact fin L109 (by simp only [linesW,endW,qn,qs,List.append_assoc,List.append_nil,List.cons_append,List.nil_append])
    ·have hn:=of_decide_eq_false hn
     have qn:notW x=[]:=by unfold notW;rw [if_neg (by omega)]
     conv=>whnf
     refine ⟨fun hs=>?_,fun hs=>?_⟩
     ·have hs:=of_decide_eq_true hs
      have qs:sinW x=[[[115,105,110,107],Lib.itoa x.sink]]:=by unfold sinW;rw [if_pos (by omega)]
      conv=>whnf
      refine cO (fun _=>it x.sink om0 om0) ?_
      conv=>whnf
      refine cR (line_ok LE om0 _ w13) [1,2,3] ?_
      conv=>whnf
      have L110:=LOk.snoc LE w13
      refine cO (fun _=>it x.majority om0 om0) ?_
      conv=>whnf
      refine cR (line_ok L110 om0 _ w14) [1,4,5] ?_
      conv=>whnf
      have L111:=LOk.snoc L110 w14
      refine cO (fun _=>it x.fast om0 om0) ?_
      conv=>whnf
      refine cR (line_ok L111 om0 _ w15) [1,6,7] ?_
      conv=>whnf
      have L112:=LOk.snoc L111 w15
      refine .raw _ _ rfl (fun h=>by cases h) (rio_at (string_txt L112 (by simp)) [1,8] rfl rfl rfl ac0) ?_
      rintro _ ⟨_,_,_,⟨rfl,rfl,rfl⟩,-,rfl⟩
      refine ⟨Nat.le_add_right _ _,?_⟩
      conv=>whnf
      refine cO (fun _=>fits_txt L112 om0) ?_
      conv=>whnf
      exact fin L112 (by simp only [linesW,endW,qn,qs,List.append_assoc,List.append_nil,List.cons_append,List.nil_append])
     ·have hs:=of_decide_eq_false hs
      have qs:sinW x=[]:=by unfold sinW;rw [if_neg (by omega)]
      conv=>whnf
      refine cO (fun _=>it x.majority om0 om0) ?_
      conv=>whnf
      refine cR (line_ok LE om0 _ w14) [1,2,3] ?_
      conv=>whnf
      have L113:=LOk.snoc LE w14
      refine cO (fun _=>it x.fast om0 om0) ?_
      conv=>whnf
      refine cR (line_ok L113 om0 _ w15) [1,4,5] ?_
      conv=>whnf
      have L114:=LOk.snoc L113 w15
      refine .raw _ _ rfl (fun h=>by cases h) (rio_at (string_txt L114 (by simp)) [1,6] rfl rfl rfl ac0) ?_
      rintro _ ⟨_,_,_,⟨rfl,rfl,rfl⟩,-,rfl⟩
      refine ⟨Nat.le_add_right _ _,?_⟩
      conv=>whnf
      refine cO (fun _=>fits_txt L114 om0) ?_
      conv=>whnf
      exact fin L114 (by simp only [linesW,endW,qn,qs,List.append_assoc,List.append_nil,List.cons_append,List.nil_append])
   ·have hc:=of_decide_eq_false hc
    have qc:croW x=[]:=by unfold croW;rw [if_neg (by omega)]
    conv=>whnf
    have LD:LOk 51 (headW x++x.lets.map letW++midW x++x.cov.map covW++favW x++croW x):=by
     have a:LOk 1 (favW x):=by rw [qf];first | exact LOk.snoc LOk.nil w10 | exact ⟨by simp,fun w hw=>by cases hw⟩
     have b:LOk 1 (croW x):=by rw [qc];first | exact LOk.snoc LOk.nil w11 | exact ⟨by simp,fun w hw=>by cases hw⟩
     exact (LC.app a).app b
    refine loop_up (cxOk _ _) x.calls.length (fun _=>True) (fun k=>⟨[(1,.ptr 0 0),(2,.str []),(3,.int .i64 0),(4,.ptr 1 0),(5,.fn (.func 55) [] [.ptr 1 0]),(6,.fn (.func 58) [] []),(144,.sl 2 encK k0 x.calls),(145,.int .i64 (x.calls.length:Nat)),(146,.int .i64 (k:Nat))],[(0,.cells 31 (celX x)),(1,.cells 85 [.ptr 1 0,.own 2]),(2,.lst 5 1 (strAVs (txt (headW x++x.lets.map letW++midW x++x.cov.map covW++favW x++croW x++(x.calls.take k).map callW))))],3⟩) trivial ((wk_of [(0,.id 0),(1,.id 1),(2,.id 5)] rfl ⟨wc0,wa0,wa0,wc0,.fn _ _ _ _ _ ad0 ad0,.fn _ _ _ _ _ ad0 ad0,wa0,wa0,wa0,trivial⟩ ⟨wb0,wb0,⟨_,rfl,.lst _ _ _ _ _ rfl (by rw [List.take_zero,List.map_nil,List.append_nil,qf,qc];try simp only [List.append_assoc,List.append_nil])⟩,trivial⟩)) ?_
    intro k hk _
    conv=>whnf
    refine ⟨fun hd=>?_,fun hd=>?_⟩
    ·have hd:=of_decide_eq_true hd
     have hlt:k<x.calls.length:=by omega
     have hek:(k:Int).toNat=k:=Int.toNat_natCast k
     have hm:x.calls.getD k k0∈x.calls:=getD_mem hlt
     have hcr:=R.calls _ hm
     have hw:=callW_ok hcr
     have hda:=day_ok _ hcr.1.1 hcr.1.2
     conv=>whnf
     refine iO ?_;conv=>whnf
     refine And.intro rfl ?_;conv=>whnf
     rw [hek]
     conv=>whnf
     refine .eff ae0 ?_
     conv=>whnf
     refine cO (fun _=>hda) ?_
     conv=>whnf
     refine cO (fun _=>it (x.calls.getD k k0).b om0 om0) ?_
     conv=>whnf
     refine cR (line_ok (LD.app (Lcal k)) om0 _ hw) [1,2,4] ?_
     conv=>whnf
     refine ⟨by kernel_rfl,?_⟩
     conv=>whnf
     refine iO ?_;conv=>whnf
     refine up hlt trivial ((wk_of [(0,.id 0),(1,.id 1),(2,.id 5)] rfl ⟨wc0,wa0,wa0,wc0,.fn _ _ _ _ _ ad0 ad0,.fn _ _ _ _ _ ad0 ad0,wa0,wa0,wa0,trivial⟩ ⟨wb0,wb0,⟨_,rfl,.lst _ _ _ _ _ rfl (by rw [take_getD (d:=k0) hlt,List.map_append,← List.append_assoc];rfl)⟩,trivial⟩))
    have hd:=of_decide_eq_false hd
    obtain rfl:k=x.calls.length:=by omega
    conv=>whnf
    rw [List.take_length]
    have LE:LOk 71 (headW x++x.lets.map letW++midW x++x.cov.map covW++favW x++croW x++x.calls.map callW):=by have:=LD.app (Lcal x.calls.length);rw [List.take_length] at this;exact this
    refine ⟨fun hn=>?_,fun hn=>?_⟩
    ·have hn:=of_decide_eq_true hn
     have qn:notW x=[[[110,111,116,105,99,101],Lib.itoa x.notice]]:=by unfold notW;rw [if_pos (by omega)]
     conv=>whnf
     refine cO (fun _=>it x.notice om0 om0) ?_
     conv=>whnf
     refine cR (line_ok LE om0 _ w12) [1,2,3] ?_
     conv=>whnf
     have L115:=LOk.snoc LE w12
     refine ⟨fun hs=>?_,fun hs=>?_⟩
     ·have hs:=of_decide_eq_true hs
      have qs:sinW x=[[[115,105,110,107],Lib.itoa x.sink]]:=by unfold sinW;rw [if_pos (by omega)]
      conv=>whnf
      refine cO (fun _=>it x.sink om0 om0) ?_
      conv=>whnf
      refine cR (line_ok L115 om0 _ w13) [1,4,5] ?_
      conv=>whnf
      have L116:=LOk.snoc L115 w13
      refine cO (fun _=>it x.majority om0 om0) ?_
      conv=>whnf
      refine cR (line_ok L116 om0 _ w14) [1,6,7] ?_
      conv=>whnf
      have L117:=LOk.snoc L116 w14
      refine cO (fun _=>it x.fast om0 om0) ?_
      conv=>whnf
      refine cR (line_ok L117 om0 _ w15) [1,8,9] ?_
      conv=>whnf
      have L118:=LOk.snoc L117 w15
      refine .raw _ _ rfl (fun h=>by cases h) (rio_at (string_txt L118 (by simp)) [1,10] rfl rfl rfl ac0) ?_
      rintro _ ⟨_,_,_,⟨rfl,rfl,rfl⟩,-,rfl⟩
      refine ⟨Nat.le_add_right _ _,?_⟩
      conv=>whnf
      refine cO (fun _=>fits_txt L118 om0) ?_
      conv=>whnf
      exact fin L118 (by simp only [linesW,endW,qn,qs,List.append_assoc,List.append_nil,List.cons_append,List.nil_append])
     ·have hs:=of_decide_eq_false hs
      have qs:sinW x=[]:=by unfold sinW;rw [if_neg (by omega)]
      conv=>whnf
      refine cO (fun _=>it x.majority om0 om0) ?_
      conv=>whnf
      refine cR (line_ok L115 om0 _ w14) [1,4,5] ?_
      conv=>whnf
      have L119:=LOk.snoc L115 w14
      refine cO (fun _=>it x.fast om0 om0) ?_
      conv=>whnf
      refine cR (line_ok L119 om0 _ w15) [1,6,7] ?_
      conv=>whnf
      have L120:=LOk.snoc L119 w15
      refine .raw _ _ rfl (fun h=>by cases h) (rio_at (string_txt L120 (by simp)) [1,8] rfl rfl rfl ac0) ?_
      rintro _ ⟨_,_,_,⟨rfl,rfl,rfl⟩,-,rfl⟩
      refine ⟨Nat.le_add_right _ _,?_⟩
      conv=>whnf
      refine cO (fun _=>fits_txt L120 om0) ?_
      conv=>whnf
      exact fin L120 (by simp only [linesW,endW,qn,qs,List.append_assoc,List.append_nil,List.cons_append,List.nil_append])
    ·have hn:=of_decide_eq_false hn
     have qn:notW x=[]:=by unfold notW;rw [if_neg (by omega)]
     conv=>whnf
     refine ⟨fun hs=>?_,fun hs=>?_⟩
     ·have hs:=of_decide_eq_true hs
      have qs:sinW x=[[[115,105,110,107],Lib.itoa x.sink]]:=by unfold sinW;rw [if_pos (by omega)]
      conv=>whnf
      refine cO (fun _=>it x.sink om0 om0) ?_
      conv=>whnf
      refine cR (line_ok LE om0 _ w13) [1,2,3] ?_
      conv=>whnf
      have L121:=LOk.snoc LE w13
      refine cO (fun _=>it x.majority om0 om0) ?_
      conv=>whnf
      refine cR (line_ok L121 om0 _ w14) [1,4,5] ?_
      conv=>whnf
      have L122:=LOk.snoc L121 w14
      refine cO (fun _=>it x.fast om0 om0) ?_
      conv=>whnf
      refine cR (line_ok L122 om0 _ w15) [1,6,7] ?_
      conv=>whnf
      have L123:=LOk.snoc L122 w15
      refine .raw _ _ rfl (fun h=>by cases h) (rio_at (string_txt L123 (by simp)) [1,8] rfl rfl rfl ac0) ?_
      rintro _ ⟨_,_,_,⟨rfl,rfl,rfl⟩,-,rfl⟩
      refine ⟨Nat.le_add_right _ _,?_⟩
      conv=>whnf
      refine cO (fun _=>fits_txt L123 om0) ?_
      conv=>whnf
      exact fin L123 (by simp only [linesW,endW,qn,qs,List.append_assoc,List.append_nil,List.cons_append,List.nil_append])
     ·have hs:=of_decide_eq_false hs
      have qs:sinW x=[]:=by unfold sinW;rw [if_neg (by omega)]
      conv=>whnf
      refine cO (fun _=>it x.majority om0 om0) ?_
      conv=>whnf
      refine cR (line_ok LE om0 _ w14) [1,2,3] ?_
      conv=>whnf
      have L124:=LOk.snoc LE w14
      refine cO (fun _=>it x.fast om0 om0) ?_
      conv=>whnf
      refine cR (line_ok L124 om0 _ w15) [1,4,5] ?_
      conv=>whnf
      have L125:=LOk.snoc L124 w15
      refine .raw _ _ rfl (fun h=>by cases h) (rio_at (string_txt L125 (by simp)) [1,6] rfl rfl rfl ac0) ?_
      rintro _ ⟨_,_,_,⟨rfl,rfl,rfl⟩,-,rfl⟩
      refine ⟨Nat.le_add_right _ _,?_⟩
      conv=>whnf
      refine cO (fun _=>fits_txt L125 om0) ?_
      conv=>whnf
      exact fin L125 (by simp only [linesW,endW,qn,qs,List.append_assoc,List.append_nil,List.cons_append,List.nil_append])
  ·have hf:=of_decide_eq_false hf
   have qf:favW x=[]:=by unfold favW;rw [if_neg (by omega)]
   conv=>whnf
   refine ⟨fun hc=>?_,fun hc=>?_⟩
   ·have hc:=of_decide_eq_true hc
    have qc:croW x=[[[99,114,111,115,115],Lib.itoa x.cross]]:=by unfold croW;rw [if_pos (by omega)]
    conv=>whnf
    refine cO (fun _=>it x.cross om0 om0) ?_
    conv=>whnf
    refine cR (line_ok LC om0 _ w11) [1,2,3] ?_
    conv=>whnf
    have LD:LOk 51 (headW x++x.lets.map letW++midW x++x.cov.map covW++favW x++croW x):=by
     have a:LOk 1 (favW x):=by rw [qf];first | exact LOk.snoc LOk.nil w10 | exact ⟨by simp,fun w hw=>by cases hw⟩
     have b:LOk 1 (croW x):=by rw [qc];first | exact LOk.snoc LOk.nil w11 | exact ⟨by simp,fun w hw=>by cases hw⟩
     exact (LC.app a).app b
    refine loop_up (cxOk _ _) x.calls.length (fun _=>True) (fun k=>⟨[(1,.ptr 0 0),(2,.str []),(3,.int .i64 0),(4,.ptr 1 0),(5,.fn (.func 55) [] [.ptr 1 0]),(6,.fn (.func 58) [] []),(144,.sl 2 encK k0 x.calls),(145,.int .i64 (x.calls.length:Nat)),(146,.int .i64 (k:Nat))],[(0,.cells 31 (celX x)),(1,.cells 85 [.ptr 1 0,.own 2]),(2,.lst 5 1 (strAVs (txt (headW x++x.lets.map letW++midW x++x.cov.map covW++favW x++croW x++(x.calls.take k).map callW))))],3⟩) trivial ((wk_of [(0,.id 0),(1,.id 1),(2,.id 4)] rfl ⟨wc0,wa0,wa0,wc0,.fn _ _ _ _ _ ad0 ad0,.fn _ _ _ _ _ ad0 ad0,wa0,wa0,wa0,trivial⟩ ⟨wb0,wb0,⟨_,rfl,.lst _ _ _ _ _ rfl (by rw [List.take_zero,List.map_nil,List.append_nil,qf,qc];try simp only [List.append_assoc,List.append_nil])⟩,trivial⟩)) ?_
    intro k hk _
    conv=>whnf
    refine ⟨fun hd=>?_,fun hd=>?_⟩
    ·have hd:=of_decide_eq_true hd
     have hlt:k<x.calls.length:=by omega
     have hek:(k:Int).toNat=k:=Int.toNat_natCast k
     have hm:x.calls.getD k k0∈x.calls:=getD_mem hlt
     have hcr:=R.calls _ hm
     have hw:=callW_ok hcr
     have hda:=day_ok _ hcr.1.1 hcr.1.2
     conv=>whnf
     refine iO ?_;conv=>whnf
     refine And.intro rfl ?_;conv=>whnf
     rw [hek]
     conv=>whnf
     refine .eff ae0 ?_
     conv=>whnf
     refine cO (fun _=>hda) ?_
     conv=>whnf
     refine cO (fun _=>it (x.calls.getD k k0).b om0 om0) ?_
     conv=>whnf
     refine cR (line_ok (LD.app (Lcal k)) om0 _ hw) [1,2,4] ?_
     conv=>whnf
     refine ⟨by kernel_rfl,?_⟩
     conv=>whnf
     refine iO ?_;conv=>whnf
     refine up hlt trivial ((wk_of [(0,.id 0),(1,.id 1),(2,.id 5)] rfl ⟨wc0,wa0,wa0,wc0,.fn _ _ _ _ _ ad0 ad0,.fn _ _ _ _ _ ad0 ad0,wa0,wa0,wa0,trivial⟩ ⟨wb0,wb0,⟨_,rfl,.lst _ _ _ _ _ rfl (by rw [take_getD (d:=k0) hlt,List.map_append,← List.append_assoc];rfl)⟩,trivial⟩))
    have hd:=of_decide_eq_false hd
    obtain rfl:k=x.calls.length:=by omega
    conv=>whnf
    rw [List.take_length]
    have LE:LOk 71 (headW x++x.lets.map letW++midW x++x.cov.map covW++favW x++croW x++x.calls.map callW):=by have:=LD.app (Lcal x.calls.length);rw [List.take_length] at this;exact this
    refine ⟨fun hn=>?_,fun hn=>?_⟩
    ·have hn:=of_decide_eq_true hn
     have qn:notW x=[[[110,111,116,105,99,101],Lib.itoa x.notice]]:=by unfold notW;rw [if_pos (by omega)]
     conv=>whnf
     refine cO (fun _=>it x.notice om0 om0) ?_
     conv=>whnf
     refine cR (line_ok LE om0 _ w12) [1,2,3] ?_
     conv=>whnf
     have L126:=LOk.snoc LE w12
     refine ⟨fun hs=>?_,fun hs=>?_⟩
     ·have hs:=of_decide_eq_true hs
      have qs:sinW x=[[[115,105,110,107],Lib.itoa x.sink]]:=by unfold sinW;rw [if_pos (by omega)]
      conv=>whnf
      refine cO (fun _=>it x.sink om0 om0) ?_
      conv=>whnf
      refine cR (line_ok L126 om0 _ w13) [1,4,5] ?_
      conv=>whnf
      have L127:=LOk.snoc L126 w13
      refine cO (fun _=>it x.majority om0 om0) ?_
      conv=>whnf
      refine cR (line_ok L127 om0 _ w14) [1,6,7] ?_
      conv=>whnf
      have L128:=LOk.snoc L127 w14
      refine cO (fun _=>it x.fast om0 om0) ?_
      conv=>whnf
      refine cR (line_ok L128 om0 _ w15) [1,8,9] ?_
      conv=>whnf
      have L129:=LOk.snoc L128 w15
      refine .raw _ _ rfl (fun h=>by cases h) (rio_at (string_txt L129 (by simp)) [1,10] rfl rfl rfl ac0) ?_
      rintro _ ⟨_,_,_,⟨rfl,rfl,rfl⟩,-,rfl⟩
      refine ⟨Nat.le_add_right _ _,?_⟩
      conv=>whnf
      refine cO (fun _=>fits_txt L129 om0) ?_
      conv=>whnf
      exact fin L129 (by simp only [linesW,endW,qn,qs,List.append_assoc,List.append_nil,List.cons_append,List.nil_append])
     ·have hs:=of_decide_eq_false hs
      have qs:sinW x=[]:=by unfold sinW;rw [if_neg (by omega)]
      conv=>whnf
      refine cO (fun _=>it x.majority om0 om0) ?_
      conv=>whnf
      refine cR (line_ok L126 om0 _ w14) [1,4,5] ?_
      conv=>whnf
      have L130:=LOk.snoc L126 w14
      refine cO (fun _=>it x.fast om0 om0) ?_
      conv=>whnf
      refine cR (line_ok L130 om0 _ w15) [1,6,7] ?_
      conv=>whnf
      have L131:=LOk.snoc L130 w15
      refine .raw _ _ rfl (fun h=>by cases h) (rio_at (string_txt L131 (by simp)) [1,8] rfl rfl rfl ac0) ?_
      rintro _ ⟨_,_,_,⟨rfl,rfl,rfl⟩,-,rfl⟩
      refine ⟨Nat.le_add_right _ _,?_⟩
      conv=>whnf
      refine cO (fun _=>fits_txt L131 om0) ?_
      conv=>whnf
      exact fin L131 (by simp only [linesW,endW,qn,qs,List.append_assoc,List.append_nil,List.cons_append,List.nil_append])
    ·have hn:=of_decide_eq_false hn
     have qn:notW x=[]:=by unfold notW;rw [if_neg (by omega)]
     conv=>whnf
     refine ⟨fun hs=>?_,fun hs=>?_⟩
     ·have hs:=of_decide_eq_true hs
      have qs:sinW x=[[[115,105,110,107],Lib.itoa x.sink]]:=by unfold sinW;rw [if_pos (by omega)]
      conv=>whnf
      refine cO (fun _=>it x.sink om0 om0) ?_
      conv=>whnf
      refine cR (line_ok LE om0 _ w13) [1,2,3] ?_
      conv=>whnf
      have L132:=LOk.snoc LE w13
      refine cO (fun _=>it x.majority om0 om0) ?_
      conv=>whnf
      refine cR (line_ok L132 om0 _ w14) [1,4,5] ?_
      conv=>whnf
      have L133:=LOk.snoc L132 w14
      refine cO (fun _=>it x.fast om0 om0) ?_
      conv=>whnf
      refine cR (line_ok L133 om0 _ w15) [1,6,7] ?_
      conv=>whnf
      have L134:=LOk.snoc L133 w15
      refine .raw _ _ rfl (fun h=>by cases h) (rio_at (string_txt L134 (by simp)) [1,8] rfl rfl rfl ac0) ?_
      rintro _ ⟨_,_,_,⟨rfl,rfl,rfl⟩,-,rfl⟩
      refine ⟨Nat.le_add_right _ _,?_⟩
      conv=>whnf
      refine cO (fun _=>fits_txt L134 om0) ?_
      conv=>whnf
      exact fin L134 (by simp only [linesW,endW,qn,qs,List.append_assoc,List.append_nil,List.cons_append,List.nil_append])
     ·have hs:=of_decide_eq_false hs
      have qs:sinW x=[]:=by unfold sinW;rw [if_neg (by omega)]
      conv=>whnf
      refine cO (fun _=>it x.majority om0 om0) ?_
      conv=>whnf
      refine cR (line_ok LE om0 _ w14) [1,2,3] ?_
      conv=>whnf
      have L135:=LOk.snoc LE w14
      refine cO (fun _=>it x.fast om0 om0) ?_
      conv=>whnf
      refine cR (line_ok L135 om0 _ w15) [1,4,5] ?_
      conv=>whnf
      have L136:=LOk.snoc L135 w15
      refine .raw _ _ rfl (fun h=>by cases h) (rio_at (string_txt L136 (by simp)) [1,6] rfl rfl rfl ac0) ?_
      rintro _ ⟨_,_,_,⟨rfl,rfl,rfl⟩,-,rfl⟩
      refine ⟨Nat.le_add_right _ _,?_⟩
      conv=>whnf
      refine cO (fun _=>fits_txt L136 om0) ?_
      conv=>whnf
      exact fin L136 (by simp only [linesW,endW,qn,qs,List.append_assoc,List.append_nil,List.cons_append,List.nil_append])
   ·have hc:=of_decide_eq_false hc
    have qc:croW x=[]:=by unfold croW;rw [if_neg (by omega)]
    conv=>whnf
    have LD:LOk 51 (headW x++x.lets.map letW++midW x++x.cov.map covW++favW x++croW x):=by
     have a:LOk 1 (favW x):=by rw [qf];first | exact LOk.snoc LOk.nil w10 | exact ⟨by simp,fun w hw=>by cases hw⟩
     have b:LOk 1 (croW x):=by rw [qc];first | exact LOk.snoc LOk.nil w11 | exact ⟨by simp,fun w hw=>by cases hw⟩
     exact (LC.app a).app b
    refine loop_up (cxOk _ _) x.calls.length (fun _=>True) (fun k=>⟨[(1,.ptr 0 0),(2,.str []),(3,.int .i64 0),(4,.ptr 1 0),(5,.fn (.func 55) [] [.ptr 1 0]),(6,.fn (.func 58) [] []),(144,.sl 2 encK k0 x.calls),(145,.int .i64 (x.calls.length:Nat)),(146,.int .i64 (k:Nat))],[(0,.cells 31 (celX x)),(1,.cells 85 [.ptr 1 0,.own 2]),(2,.lst 5 1 (strAVs (txt (headW x++x.lets.map letW++midW x++x.cov.map covW++favW x++croW x++(x.calls.take k).map callW))))],3⟩) trivial ((wk_of [(0,.id 0),(1,.id 1),(2,.id 2)] rfl ⟨wc0,wa0,wa0,wc0,.fn _ _ _ _ _ ad0 ad0,.fn _ _ _ _ _ ad0 ad0,wa0,wa0,wa0,trivial⟩ ⟨wb0,wb0,⟨_,rfl,.lst _ _ _ _ _ rfl (by rw [List.take_zero,List.map_nil,List.append_nil,qf,qc];try simp only [List.append_assoc,List.append_nil])⟩,trivial⟩)) ?_
    intro k hk _
    conv=>whnf
    refine ⟨fun hd=>?_,fun hd=>?_⟩
    ·have hd:=of_decide_eq_true hd
     have hlt:k<x.calls.length:=by omega
     have hek:(k:Int).toNat=k:=Int.toNat_natCast k
     have hm:x.calls.getD k k0∈x.calls:=getD_mem hlt
     have hcr:=R.calls _ hm
     have hw:=callW_ok hcr
     have hda:=day_ok _ hcr.1.1 hcr.1.2
     conv=>whnf
     refine iO ?_;conv=>whnf
     refine And.intro rfl ?_;conv=>whnf
     rw [hek]
     conv=>whnf
     refine .eff ae0 ?_
     conv=>whnf
     refine cO (fun _=>hda) ?_
     conv=>whnf
     refine cO (fun _=>it (x.calls.getD k k0).b om0 om0) ?_
     conv=>whnf
     refine cR (line_ok (LD.app (Lcal k)) om0 _ hw) [1,2,4] ?_
     conv=>whnf
     refine ⟨by kernel_rfl,?_⟩
     conv=>whnf
     refine iO ?_;conv=>whnf
     refine up hlt trivial ((wk_of [(0,.id 0),(1,.id 1),(2,.id 5)] rfl ⟨wc0,wa0,wa0,wc0,.fn _ _ _ _ _ ad0 ad0,.fn _ _ _ _ _ ad0 ad0,wa0,wa0,wa0,trivial⟩ ⟨wb0,wb0,⟨_,rfl,.lst _ _ _ _ _ rfl (by rw [take_getD (d:=k0) hlt,List.map_append,← List.append_assoc];rfl)⟩,trivial⟩))
    have hd:=of_decide_eq_false hd
    obtain rfl:k=x.calls.length:=by omega
    conv=>whnf
    rw [List.take_length]
    have LE:LOk 71 (headW x++x.lets.map letW++midW x++x.cov.map covW++favW x++croW x++x.calls.map callW):=by have:=LD.app (Lcal x.calls.length);rw [List.take_length] at this;exact this
    refine ⟨fun hn=>?_,fun hn=>?_⟩
    ·have hn:=of_decide_eq_true hn
     have qn:notW x=[[[110,111,116,105,99,101],Lib.itoa x.notice]]:=by unfold notW;rw [if_pos (by omega)]
     conv=>whnf
     refine cO (fun _=>it x.notice om0 om0) ?_
     conv=>whnf
     refine cR (line_ok LE om0 _ w12) [1,2,3] ?_
     conv=>whnf
     have L137:=LOk.snoc LE w12
     refine ⟨fun hs=>?_,fun hs=>?_⟩
     ·have hs:=of_decide_eq_true hs
      have qs:sinW x=[[[115,105,110,107],Lib.itoa x.sink]]:=by unfold sinW;rw [if_pos (by omega)]
      conv=>whnf
      refine cO (fun _=>it x.sink om0 om0) ?_
      conv=>whnf
      refine cR (line_ok L137 om0 _ w13) [1,4,5] ?_
      conv=>whnf
      have L138:=LOk.snoc L137 w13
      refine cO (fun _=>it x.majority om0 om0) ?_
      conv=>whnf
      refine cR (line_ok L138 om0 _ w14) [1,6,7] ?_
      conv=>whnf
      have L139:=LOk.snoc L138 w14
      refine cO (fun _=>it x.fast om0 om0) ?_
      conv=>whnf
      refine cR (line_ok L139 om0 _ w15) [1,8,9] ?_
      conv=>whnf
      have L140:=LOk.snoc L139 w15
      refine .raw _ _ rfl (fun h=>by cases h) (rio_at (string_txt L140 (by simp)) [1,10] rfl rfl rfl ac0) ?_
      rintro _ ⟨_,_,_,⟨rfl,rfl,rfl⟩,-,rfl⟩
      refine ⟨Nat.le_add_right _ _,?_⟩
      conv=>whnf
      refine cO (fun _=>fits_txt L140 om0) ?_
      conv=>whnf
      exact fin L140 (by simp only [linesW,endW,qn,qs,List.append_assoc,List.append_nil,List.cons_append,List.nil_append])
     ·have hs:=of_decide_eq_false hs
      have qs:sinW x=[]:=by unfold sinW;rw [if_neg (by omega)]
      conv=>whnf
      refine cO (fun _=>it x.majority om0 om0) ?_
      conv=>whnf
      refine cR (line_ok L137 om0 _ w14) [1,4,5] ?_
      conv=>whnf
      have L141:=LOk.snoc L137 w14
      refine cO (fun _=>it x.fast om0 om0) ?_
      conv=>whnf
      refine cR (line_ok L141 om0 _ w15) [1,6,7] ?_
      conv=>whnf
      have L142:=LOk.snoc L141 w15
      refine .raw _ _ rfl (fun h=>by cases h) (rio_at (string_txt L142 (by simp)) [1,8] rfl rfl rfl ac0) ?_
      rintro _ ⟨_,_,_,⟨rfl,rfl,rfl⟩,-,rfl⟩
      refine ⟨Nat.le_add_right _ _,?_⟩
      conv=>whnf
      refine cO (fun _=>fits_txt L142 om0) ?_
      conv=>whnf
      exact fin L142 (by simp only [linesW,endW,qn,qs,List.append_assoc,List.append_nil,List.cons_append,List.nil_append])
    ·have hn:=of_decide_eq_false hn
     have qn:notW x=[]:=by unfold notW;rw [if_neg (by omega)]
     conv=>whnf
     refine ⟨fun hs=>?_,fun hs=>?_⟩
     ·have hs:=of_decide_eq_true hs
      have qs:sinW x=[[[115,105,110,107],Lib.itoa x.sink]]:=by unfold sinW;rw [if_pos (by omega)]
      conv=>whnf
      refine cO (fun _=>it x.sink om0 om0) ?_
      conv=>whnf
      refine cR (line_ok LE om0 _ w13) [1,2,3] ?_
      conv=>whnf
      have L143:=LOk.snoc LE w13
      refine cO (fun _=>it x.majority om0 om0) ?_
      conv=>whnf
      refine cR (line_ok L143 om0 _ w14) [1,4,5] ?_
      conv=>whnf
      have L144:=LOk.snoc L143 w14
      refine cO (fun _=>it x.fast om0 om0) ?_
      conv=>whnf
      refine cR (line_ok L144 om0 _ w15) [1,6,7] ?_
      conv=>whnf
      have L145:=LOk.snoc L144 w15
      refine .raw _ _ rfl (fun h=>by cases h) (rio_at (string_txt L145 (by simp)) [1,8] rfl rfl rfl ac0) ?_
      rintro _ ⟨_,_,_,⟨rfl,rfl,rfl⟩,-,rfl⟩
      refine ⟨Nat.le_add_right _ _,?_⟩
      conv=>whnf
      refine cO (fun _=>fits_txt L145 om0) ?_
      conv=>whnf
      exact fin L145 (by simp only [linesW,endW,qn,qs,List.append_assoc,List.append_nil,List.cons_append,List.nil_append])
     ·have hs:=of_decide_eq_false hs
      have qs:sinW x=[]:=by unfold sinW;rw [if_neg (by omega)]
      conv=>whnf
      refine cO (fun _=>it x.majority om0 om0) ?_
      conv=>whnf
      refine cR (line_ok LE om0 _ w14) [1,2,3] ?_
      conv=>whnf
      have L146:=LOk.snoc LE w14
      refine cO (fun _=>it x.fast om0 om0) ?_
      conv=>whnf
      refine cR (line_ok L146 om0 _ w15) [1,4,5] ?_
      conv=>whnf
      have L147:=LOk.snoc L146 w15
      refine .raw _ _ rfl (fun h=>by cases h) (rio_at (string_txt L147 (by simp)) [1,6] rfl rfl rfl ac0) ?_
      rintro _ ⟨_,_,_,⟨rfl,rfl,rfl⟩,-,rfl⟩
      refine ⟨Nat.le_add_right _ _,?_⟩
      conv=>whnf
      refine cO (fun _=>fits_txt L147 om0) ?_
      conv=>whnf
      exact fin L147 (by simp only [linesW,endW,qn,qs,List.append_assoc,List.append_nil,List.cons_append,List.nil_append])
def badB (e:Exp):Bool:=(decide ((e.args.length:Int)≠opsN e.op)||(decide (e.op≠0)&&decide (e.unit≠0))||(decide (e.op≠0)&&!(decide (e.op=16)||decide (e.op=17)||decide (e.op=18))&&decide (e.n≠0)) ||
 ((decide (e.op=16)||decide (e.op=17)||decide (e.op=18))&&!inB 1 1000 [e.n]))
def formT (op:Int):List UInt8 :=
 if op=15 then [105,102] else if op=14 then [111,114] else if op=13 then [97,110,100] else if op=12 then [110,111,116] else if op=11 then [61,61] else if op=10 then [60]
 else if op=4 then [43] else if op=5 then [45] else if op=6 then [42] else if op=7 then [47] else if op=8 then [109,105,110] else if op=9 then [109,97,120]
 else if op=16 then [101,118,101,114] else if op=17 then [108,111,110,103] else if op=18 then [115,111,111,110] else []
def formN (op:Int):Int :=
 if op=15 then 0 else if op=14 then 1 else if op=13 then 2 else if op=12 then 3 else if op=11∨op=10 then 4 else if op=4∨op=5 then 5 else if op=6∨op=7 then 6
 else if op=8∨op=9 then 7 else if op=16∨op=17∨op=18 then 8 else 7
def leafT (e:Exp):List UInt8:=if e.op=1 then e.s else if e.op=2 then [102,97,99,116,32]++e.s else if e.op=3 then [114,97,116,101,32]++e.s else numT e.n e.unit
def tailT (l:List (List UInt8)):List UInt8:=Lib.joinTail [32] l
theorem LOk.txt {n:Nat} {L:List (List (List UInt8))} (h:LOk n L) (hn:n≤120):(txt L).length≤2784000000360:=by
 have h1:=txt_len h
 have h2:n*23200000003≤120*23200000003:=Nat.mul_le_mul_right _ hn
 omega
noncomputable instance:DecidableEq Exp:=fun _ _=>Classical.propDecidable _
noncomputable instance:DecidableEq LetE:=fun _ _=>Classical.propDecidable _
noncomputable instance:DecidableEq Cov:=fun _ _=>Classical.propDecidable _
noncomputable instance:DecidableEq CallE:=fun _ _=>Classical.propDecidable _
noncomputable instance:DecidableEq Ind:=fun _ _=>Classical.propDecidable _
theorem list_eq {α:Type} {d:α}:∀ {l r:List α},l.length=r.length→(∀ j,j<l.length→l.getD j d=r.getD j d)→l=r
 | [],[],_,_=>rfl
 | [],_::_,h,_=>by cases h
 | _::_,[],h,_=>by cases h
 | a::l,b::r,h,hj=>by
  have h0:a=b:=hj 0 (by simp)
  have h1:l=r:=list_eq (by simpa using h) fun j hl=>hj (j+1) (by simp;omega)
  rw [h0,h1]
theorem Exp.ext_iff' (a b:Exp):a=b↔a.op=b.op∧a.n=b.n∧a.unit=b.unit∧a.s=b.s∧a.args=b.args:=by
 cases a;cases b
 simp [Exp.op,Exp.n,Exp.unit,Exp.s,Exp.args]
theorem eqE_dec (a b:Exp):decide (a=b)=(decide (a.op=b.op)&&decide (a.n=b.n)&&decide (a.unit=b.unit)&&decide (a.s=b.s)&&decide (a.args=b.args)):=by
 rw [Bool.eq_iff_iff]
 simp only [Bool.and_eq_true,decide_eq_true_eq,Exp.ext_iff' a b]
 constructor
 ·rintro ⟨h1,h2,h3,h4,h5⟩;exact ⟨⟨⟨⟨h1,h2⟩,h3⟩,h4⟩,h5⟩
 ·rintro ⟨⟨⟨⟨h1,h2⟩,h3⟩,h4⟩,h5⟩;exact ⟨h1,h2,h3,h4,h5⟩
theorem eqL_dec (a b:LetE):decide (a=b)=(decide (a.name=b.name)&&decide (a.body=b.body)):=by
 rw [Bool.eq_iff_iff]
 cases a;cases b
 simp
theorem eqC_dec (a b:Cov):decide (a=b)=(decide (a.name=b.name)&&decide (a.grace=b.grace)&&decide (a.must=b.must)):=by
 rw [Bool.eq_iff_iff]
 cases a;cases b
 simp only [Bool.and_eq_true,decide_eq_true_eq,Cov.mk.injEq]
 constructor
 ·rintro ⟨h1,h2,h3⟩;exact ⟨⟨h1,h3⟩,h2⟩
 ·rintro ⟨⟨h1,h3⟩,h2⟩;exact ⟨h1,h2,h3⟩
theorem eqK_dec (a b:CallE):decide (a=b)=(decide (a.a=b.a)&&decide (a.b=b.b)):=by
 rw [Bool.eq_iff_iff]
 cases a;cases b
 simp
theorem eqfE_ok (l r:List Exp) (hl:l.length≤9223372036854775807) (hr:r.length≤9223372036854775807) (hc:∀ x∈l,∀ y∈r,APureV Tryz.prog 28 [encE x,encE y] (.bool (decide (x=y)))) :
  APureV Tryz.prog 90 [.sl 5 encE ex0 l,.sl 5 encE ex0 r,.fn (.func 28) [] []] (.bool (decide (l=r))):=by
 refine aO (cxOk 32 [0,1,2,6,7,8,9,14,15,16,17,18,30]) Tryz.func90 ?_
 conv=>whnf
 refine ⟨fun hlen=>?_,fun hlen=>?_⟩
 ·have hne:¬ l=r:=by
   intro h
   rw [h] at hlen
   simp at hlen
  rw [decide_eq_false hne]
  conv=>whnf
  rfl
 have hlen:l.length=r.length:=by simp at hlen;omega
 conv=>whnf
 refine loop_up (cxOk _ _) l.length (fun k=>∀ j,j<k→l.getD j ex0=r.getD j ex0) (fun k=>⟨[(0,.sl 5 encE ex0 l),(1,.sl 5 encE ex0 r),(2,.fn (.func 28) [] []),(6,.bool false),(15,.sl 5 encE ex0 l),(16,.int .i64 (l.length:Nat)),(17,.int .i64 (k:Nat))],[],0⟩) (by intro j hj;omega) ((wk_of [] rfl ⟨wa0,wa0,.fn _ _ _ _ _ ad0 ad0,wa0,wa0,wa0,wa0,trivial⟩ trivial)) ?_
 intro k hk hP
 conv=>whnf
 refine ⟨fun hd=>?_,fun hd=>?_⟩
 ·have hd:=of_decide_eq_true hd
  have hlt:k<l.length:=by omega
  have hek:(k:Int).toNat=k:=Int.toNat_natCast k
  have h:=hc _ (getD_mem (d:=ex0) hlt) _ (getD_mem (d:=ex0) (show k<r.length by omega))
  conv=>whnf
  refine iO ?_;conv=>whnf
  refine And.intro rfl ?_;conv=>whnf
  refine iO ?_;conv=>whnf
  refine And.intro rfl ?_;conv=>whnf
  rw [hek]
  conv=>whnf
  refine cO (fun _=>h) ?_
  conv=>whnf
  refine ⟨fun he=>?_,fun he=>?_⟩
  ·have hne:¬ l=r:=by
    intro h
    rw [h] at he
    simp at he
   rw [decide_eq_false hne]
   conv=>whnf
   rfl
  ·have he:l.getD k ex0=r.getD k ex0:=by simpa using he
   conv=>whnf
   refine iO ?_;conv=>whnf
   refine up hlt (fun j hj=>?_) ((wk_of [] rfl ⟨wa0,wa0,.fn _ _ _ _ _ ad0 ad0,wa0,wa0,wa0,wa0,trivial⟩ trivial))
   by_cases e:j=k
   ·subst e;exact he
   ·exact hP j om0
 ·have hd:=of_decide_eq_false hd
  have he:l=r:=list_eq (d:=ex0) hlen fun j hj=>hP j (by omega)
  rw [decide_eq_true he]
  conv=>whnf
  rfl
theorem eqfL_ok (l r:List LetE) (hl:l.length≤9223372036854775807) (hr:r.length≤9223372036854775807) (hc:∀ x∈l,∀ y∈r,APureV Tryz.prog 87 [encL x,encL y] (.bool (decide (x=y)))) :
  APureV Tryz.prog 86 [.sl 6 encL l0 l,.sl 6 encL l0 r,.fn (.func 87) [] []] (.bool (decide (l=r))):=by
 refine aO (cxOk 32 [0,1,2,6,7,8,9,14,15,16,17,18,30]) Tryz.func86 ?_
 conv=>whnf
 refine ⟨fun hlen=>?_,fun hlen=>?_⟩
 ·have hne:¬ l=r:=by
   intro h
   rw [h] at hlen
   simp at hlen
  rw [decide_eq_false hne]
  conv=>whnf
  rfl
 have hlen:l.length=r.length:=by simp at hlen;omega
 conv=>whnf
 refine loop_up (cxOk _ _) l.length (fun k=>∀ j,j<k→l.getD j l0=r.getD j l0) (fun k=>⟨[(0,.sl 6 encL l0 l),(1,.sl 6 encL l0 r),(2,.fn (.func 87) [] []),(6,.bool false),(15,.sl 6 encL l0 l),(16,.int .i64 (l.length:Nat)),(17,.int .i64 (k:Nat))],[],0⟩) (by intro j hj;omega) ((wk_of [] rfl ⟨wa0,wa0,.fn _ _ _ _ _ ad0 ad0,wa0,wa0,wa0,wa0,trivial⟩ trivial)) ?_
 intro k hk hP
 conv=>whnf
 refine ⟨fun hd=>?_,fun hd=>?_⟩
 ·have hd:=of_decide_eq_true hd
  have hlt:k<l.length:=by omega
  have hek:(k:Int).toNat=k:=Int.toNat_natCast k
  have h:=hc _ (getD_mem (d:=l0) hlt) _ (getD_mem (d:=l0) (show k<r.length by omega))
  conv=>whnf
  refine iO ?_;conv=>whnf
  refine And.intro rfl ?_;conv=>whnf
  refine iO ?_;conv=>whnf
  refine And.intro rfl ?_;conv=>whnf
  rw [hek]
  conv=>whnf
  refine cO (fun _=>h) ?_
  conv=>whnf
  refine ⟨fun he=>?_,fun he=>?_⟩
  ·have hne:¬ l=r:=by
    intro h
    rw [h] at he
    simp at he
   rw [decide_eq_false hne]
   conv=>whnf
   rfl
  ·have he:l.getD k l0=r.getD k l0:=by simpa using he
   conv=>whnf
   refine iO ?_;conv=>whnf
   refine up hlt (fun j hj=>?_) ((wk_of [] rfl ⟨wa0,wa0,.fn _ _ _ _ _ ad0 ad0,wa0,wa0,wa0,wa0,trivial⟩ trivial))
   by_cases e:j=k
   ·subst e;exact he
   ·exact hP j om0
 ·have hd:=of_decide_eq_false hd
  have he:l=r:=list_eq (d:=l0) hlen fun j hj=>hP j (by omega)
  rw [decide_eq_true he]
  conv=>whnf
  rfl
theorem eqfC_ok (l r:List Cov) (hl:l.length≤9223372036854775807) (hr:r.length≤9223372036854775807) (hc:∀ x∈l,∀ y∈r,APureV Tryz.prog 89 [encC x,encC y] (.bool (decide (x=y)))) :
  APureV Tryz.prog 88 [.sl 7 encC c0 l,.sl 7 encC c0 r,.fn (.func 89) [] []] (.bool (decide (l=r))):=by
 refine aO (cxOk 32 [0,1,2,6,7,8,9,14,15,16,17,18,30]) Tryz.func88 ?_
 conv=>whnf
 refine ⟨fun hlen=>?_,fun hlen=>?_⟩
 ·have hne:¬ l=r:=by
   intro h
   rw [h] at hlen
   simp at hlen
  rw [decide_eq_false hne]
  conv=>whnf
  rfl
 have hlen:l.length=r.length:=by simp at hlen;omega
 conv=>whnf
 refine loop_up (cxOk _ _) l.length (fun k=>∀ j,j<k→l.getD j c0=r.getD j c0) (fun k=>⟨[(0,.sl 7 encC c0 l),(1,.sl 7 encC c0 r),(2,.fn (.func 89) [] []),(6,.bool false),(15,.sl 7 encC c0 l),(16,.int .i64 (l.length:Nat)),(17,.int .i64 (k:Nat))],[],0⟩) (by intro j hj;omega) ((wk_of [] rfl ⟨wa0,wa0,.fn _ _ _ _ _ ad0 ad0,wa0,wa0,wa0,wa0,trivial⟩ trivial)) ?_
 intro k hk hP
 conv=>whnf
 refine ⟨fun hd=>?_,fun hd=>?_⟩
 ·have hd:=of_decide_eq_true hd
  have hlt:k<l.length:=by omega
  have hek:(k:Int).toNat=k:=Int.toNat_natCast k
  have h:=hc _ (getD_mem (d:=c0) hlt) _ (getD_mem (d:=c0) (show k<r.length by omega))
  conv=>whnf
  refine iO ?_;conv=>whnf
  refine And.intro rfl ?_;conv=>whnf
  refine iO ?_;conv=>whnf
  refine And.intro rfl ?_;conv=>whnf
  rw [hek]
  conv=>whnf
  refine cO (fun _=>h) ?_
  conv=>whnf
  refine ⟨fun he=>?_,fun he=>?_⟩
  ·have hne:¬ l=r:=by
    intro h
    rw [h] at he
    simp at he
   rw [decide_eq_false hne]
   conv=>whnf
   rfl
  ·have he:l.getD k c0=r.getD k c0:=by simpa using he
   conv=>whnf
   refine iO ?_;conv=>whnf
   refine up hlt (fun j hj=>?_) ((wk_of [] rfl ⟨wa0,wa0,.fn _ _ _ _ _ ad0 ad0,wa0,wa0,wa0,wa0,trivial⟩ trivial))
   by_cases e:j=k
   ·subst e;exact he
   ·exact hP j om0
 ·have hd:=of_decide_eq_false hd
  have he:l=r:=list_eq (d:=c0) hlen fun j hj=>hP j (by omega)
  rw [decide_eq_true he]
  conv=>whnf
  rfl
theorem eqsS_ok (l r:List (List UInt8)) (hl:l.length≤9223372036854775807) (hr:r.length≤9223372036854775807) :
  APureV Tryz.prog 84 [.sl 1 encS [] l,.sl 1 encS [] r] (.bool (decide (l=r))):=by
 refine aO (cxOk 26 [0,1,4,5,10,12,13,14,24]) Tryz.func84 ?_
 conv=>whnf
 refine ⟨fun hlen=>?_,fun hlen=>?_⟩
 ·have hne:¬ l=r:=by
   intro h
   rw [h] at hlen
   simp at hlen
  rw [decide_eq_false hne]
  conv=>whnf
  rfl
 have hlen:l.length=r.length:=by simp at hlen;omega
 conv=>whnf
 refine loop_up (cxOk _ _) l.length (fun k=>∀ j,j<k→l.getD j []=r.getD j []) (fun k=>⟨[(0,.sl 1 encS [] l),(1,.sl 1 encS [] r),(4,.bool false),(12,.int .i64 (l.length:Nat)),(13,.int .i64 (k:Nat))],[],0⟩) (by intro j hj;omega) ((wk_of [] rfl ⟨wa0,wa0,wa0,wa0,wa0,trivial⟩ trivial)) ?_
 intro k hk hP
 conv=>whnf
 refine ⟨fun hd=>?_,fun hd=>?_⟩
 ·have hd:=of_decide_eq_true hd
  have hlt:k<l.length:=by omega
  have hek:(k:Int).toNat=k:=Int.toNat_natCast k
  conv=>whnf
  refine .quiet (by kernel_rfl) ?_;conv=>whnf
  refine iO ?_;conv=>whnf
  refine And.intro rfl ?_;conv=>whnf
  refine iO ?_;conv=>whnf
  refine And.intro rfl ?_;conv=>whnf
  rw [hek]
  conv=>whnf
  try (rw [hek];conv=>whnf)
  refine ⟨fun he=>?_,fun he=>?_⟩
  ·have hne:¬ l=r:=by
    intro h
    rw [h] at he
    simp at he
   rw [decide_eq_false hne]
   conv=>whnf
   rfl
  ·have he:l.getD k []=r.getD k []:=by simpa using he
   conv=>whnf
   refine iO ?_;conv=>whnf
   refine up hlt (fun j hj=>?_) ((wk_of [] rfl ⟨wa0,wa0,wa0,wa0,wa0,trivial⟩ trivial))
   by_cases e:j=k
   ·subst e;exact he
   ·exact hP j om0
 ·have hd:=of_decide_eq_false hd
  have he:l=r:=list_eq (d:=[]) hlen fun j hj=>hP j (by omega)
  rw [decide_eq_true he]
  conv=>whnf
  rfl
theorem eqsK_ok (l r:List CallE) (hl:l.length≤9223372036854775807) (hr:r.length≤9223372036854775807) :
  APureV Tryz.prog 85 [.sl 2 encK k0 l,.sl 2 encK k0 r] (.bool (decide (l=r))):=by
 refine aO (cxOk 26 [0,1,4,5,10,12,13,14,24]) Tryz.func85 ?_
 conv=>whnf
 refine ⟨fun hlen=>?_,fun hlen=>?_⟩
 ·have hne:¬ l=r:=by
   intro h
   rw [h] at hlen
   simp at hlen
  rw [decide_eq_false hne]
  conv=>whnf
  rfl
 have hlen:l.length=r.length:=by simp at hlen;omega
 conv=>whnf
 refine loop_up (cxOk _ _) l.length (fun k=>∀ j,j<k→l.getD j k0=r.getD j k0) (fun k=>⟨[(0,.sl 2 encK k0 l),(1,.sl 2 encK k0 r),(4,.bool false),(12,.int .i64 (l.length:Nat)),(13,.int .i64 (k:Nat))],[],0⟩) (by intro j hj;omega) ((wk_of [] rfl ⟨wa0,wa0,wa0,wa0,wa0,trivial⟩ trivial)) ?_
 intro k hk hP
 conv=>whnf
 refine ⟨fun hd=>?_,fun hd=>?_⟩
 ·have hd:=of_decide_eq_true hd
  have hlt:k<l.length:=by omega
  have hek:(k:Int).toNat=k:=Int.toNat_natCast k
  conv=>whnf
  refine .quiet (by kernel_rfl) ?_;conv=>whnf
  refine iO ?_;conv=>whnf
  refine And.intro rfl ?_;conv=>whnf
  refine iO ?_;conv=>whnf
  refine And.intro rfl ?_;conv=>whnf
  rw [hek]
  conv=>whnf
  try (rw [hek];conv=>whnf)
  refine And.intro ⟨by kernel_rfl,by kernel_rfl⟩ ?_
  conv=>whnf
  rw [show (decide ((l.getD k k0).a=(r.getD k k0).a)&&(decide ((l.getD k k0).b=(r.getD k k0).b)&&true))=decide (l.getD k k0=r.getD k k0) by rw [Bool.and_true];exact (eqK_dec _ _).symm]
  refine ⟨fun he=>?_,fun he=>?_⟩
  ·have hne:¬ l=r:=by
    intro h
    rw [h] at he
    simp at he
   rw [decide_eq_false hne]
   conv=>whnf
   rfl
  ·have he:l.getD k k0=r.getD k k0:=by simpa using he
   conv=>whnf
   refine iO ?_;conv=>whnf
   refine up hlt (fun j hj=>?_) ((wk_of [] rfl ⟨wa0,wa0,wa0,wa0,wa0,trivial⟩ trivial))
   by_cases e:j=k
   ·subst e;exact he
   ·exact hP j om0
 ·have hd:=of_decide_eq_false hd
  have he:l=r:=list_eq (d:=k0) hlen fun j hj=>hP j (by omega)
  rw [decide_eq_true he]
  conv=>whnf
  rfl
theorem sameexp_ok:∀ (k:Nat) (a b:Exp),SizeOf.sizeOf a≤k→OkE a→OkE b→APureV Tryz.prog 28 [encE a,encE b] (.bool (decide (a=b))):=by
 intro k
 induction k with
 | zero=>intro a b h;cases a;simp at h
 | succ k ih =>
  intro a b hk ha hb
  have hq:=eqfE_ok a.args b.args ha.alen hb.alen (fun x hx y hy=>ih x y (by have:=args_lt a hx;omega) (ha.arg x hx) (hb.arg y hy))
  rw [eqE_dec]
  refine aO (cxOk 38 [0,1,2,3,4]) Tryz.func28 ?_
  conv=>whnf
  refine .one _ _ _ (fun _=>hq) (.cons (lX (argsE_eq a)) (.cons (lX (argsE_eq b)) (.cons (lS rfl) .nil))) (.inl rfl) (.inr rfl) ?_
  conv=>whnf
  rfl
theorem same_ok (a b:Exp) (ha:OkE a) (hb:OkE b):APureV Tryz.prog 28 [encE a,encE b] (.bool (decide (a=b))):=sameexp_ok _ a b (Nat.le_refl _) ha hb
theorem samel_ok (a b:LetE) (ha:OkE a.body) (hb:OkE b.body):APureV Tryz.prog 87 [encL a,encL b] (.bool (decide (a=b))):=by
 have h:=same_ok a.body b.body ha hb
 rw [eqL_dec]
 refine aO (cxOk 17 [0,1,2,3,4]) Tryz.func87 ?_
 conv=>whnf
 refine cO (fun _=>h) ?_
 conv=>whnf
 rfl
theorem samec_ok (a b:Cov) (ha:OkE a.must) (hb:OkE b.must):APureV Tryz.prog 89 [encC a,encC b] (.bool (decide (a=b))):=by
 have h:=same_ok a.must b.must ha hb
 rw [eqC_dec]
 refine aO (cxOk 24 [0,1,2,3,4]) Tryz.func89 ?_
 conv=>whnf
 refine cO (fun _=>h) ?_
 conv=>whnf
 rfl
theorem sameexp2_ok:∀ (k:Nat) (a b:Exp),SizeOf.sizeOf a≤k→OkE a→OkE b→APureV Tryz.prog 15 [encE a,encE b] (.bool (decide (a=b))):=by
 intro k
 induction k with
 | zero=>intro a b h;cases a;simp at h
 | succ k ih =>
  intro a b hk ha hb
  have hla:=argsE_len a
  have hlb:=argsE_len b
  have ha2:=ha.alen
  have hb2:=hb.alen
  refine aO (cxOk 60 [0,1,2,3,4,5,40,45,59]) Tryz.func15 ?_
  conv=>whnf
  refine ⟨fun hne=>?_,fun hne=>?_⟩
  ·have hf:¬ a=b:=by
    intro h
    rw [h] at hne
    simp at hne
   rw [decide_eq_false hf]
   conv=>whnf
   rfl
  simp only [Bool.or_eq_false_iff,Bool.not_eq_false',decide_eq_true_eq] at hne
  obtain ⟨⟨⟨⟨e1,e2⟩,e3⟩,e4⟩,e5⟩:=hne
  conv=>whnf
  refine loop_up (cxOk _ _) a.args.length (fun k=>∀ j,j<k→a.args.getD j ex0=b.args.getD j ex0) (fun k=>⟨[(2,.ptr 0 0),(3,.ptr 1 0),(4,.bool false),(5,.int .i64 (k:Nat))],[(0,.cells 26 (cellsE a)),(1,.cells 26 (cellsE b))],2⟩) (by intro j hj;omega) ((wk_of [(0,.id 0),(1,.id 1)] rfl ⟨wc0,wc0,wa0,wa0,trivial⟩ ⟨wb0,wb0,trivial⟩)) ?_
  intro k hk2 hP
  conv=>whnf
  refine ⟨fun hd=>?_,fun hd=>?_⟩
  ·have hd:=of_decide_eq_true hd
   have hlt:k<a.args.length:=by omega
   have hlt2:k<b.args.length:=by omega
   have hek:(k:Int).toNat=k:=Int.toNat_natCast k
   have h:=ih (argOf a k) (argOf b k) (by have:=args_lt a (getD_argOf hlt);omega) (ha.arg _ (getD_argOf hlt)) (hb.arg _ (getD_argOf hlt2))
   conv=>whnf
   refine .quiet (by kernel_rfl) ?_
   conv=>whnf
   refine iO ?_;conv=>whnf
   refine And.intro rfl ?_;conv=>whnf
   rw [hek,argsE_get a hlt]
   conv=>whnf
   refine iO ?_;conv=>whnf
   refine And.intro rfl ?_;conv=>whnf
   rw [hek,argsE_get b hlt2]
   conv=>whnf
   refine .mk _ _ _ _ (fun _=>h) af0 rfl ?_
   conv=>whnf
   refine ⟨fun he=>?_,fun he=>?_⟩
   ·have hne2:¬ a=b:=by
     intro h
     rw [h] at he
     simp [argOf] at he
    rw [decide_eq_false hne2]
    conv=>whnf
    rfl
   ·have he:argOf a k=argOf b k:=by simpa using he
    conv=>whnf
    refine iO ?_;conv=>whnf
    refine up hlt (fun j hj=>?_) ((wk_of [(0,.id 0),(1,.id 1)] rfl ⟨wc0,wc0,wa0,wa0,trivial⟩ ⟨wb0,wb0,trivial⟩))
    by_cases e:j=k
    ·subst e;exact he
    ·exact hP j om0
  ·have hd:=of_decide_eq_false hd
   have he:a=b:=(Exp.ext_iff' a b).2 ⟨e1,e2,e3,e4,list_eq (d:=ex0) (by omega) fun j hj=>hP j (by omega)⟩
   rw [decide_eq_true he]
   conv=>whnf
   rfl
theorem same2_ok (a b:Exp) (ha:OkE a) (hb:OkE b):APureV Tryz.prog 15 [encE a,encE b] (.bool (decide (a=b))):=sameexp2_ok _ a b (Nat.le_refl _) ha hb
theorem ind_eq {a b:Ind} (h_name:a.name=b.name) (h_issuer:a.issuer=b.issuer) (h_face:a.face=b.face) (h_frm:a.frm=b.frm) (h_to:a.to=b.to) (h_every:a.every=b.every) (h_count:a.count=b.count) (h_adjust:a.adjust=b.adjust) (h_record:a.record=b.record) (h_rank:a.rank=b.rank) (h_lets:a.lets=b.lets) (h_coupon:a.coupon=b.coupon) (h_cap:a.cap=b.cap) (h_cov:a.cov=b.cov) (h_favour:a.favour=b.favour) (h_cross:a.cross=b.cross) (h_calls:a.calls=b.calls) (h_notice:a.notice=b.notice) (h_sink:a.sink=b.sink) (h_majority:a.majority=b.majority) (h_fast:a.fast=b.fast):a=b:=by
 cases a;cases b
 simp only at *
 subst h_name
 subst h_issuer
 subst h_face
 subst h_frm
 subst h_to
 subst h_every
 subst h_count
 subst h_adjust
 subst h_record
 subst h_rank
 subst h_lets
 subst h_coupon
 subst h_cap
 subst h_cov
 subst h_favour
 subst h_cross
 subst h_calls
 subst h_notice
 subst h_sink
 subst h_majority
 subst h_fast
 rfl
theorem eqI_dec (a b:Ind):decide (a=b)=((decide (a.name=b.name)&&decide (a.issuer=b.issuer)&&decide (a.face=b.face)&&decide (a.frm=b.frm)&&decide (a.to=b.to)&&decide (a.every=b.every)&&decide (a.count=b.count)&&decide (a.adjust=b.adjust)&&decide (a.record=b.record)&&decide (a.rank=b.rank))&&(decide (a.cap=b.cap)&&decide (a.cross=b.cross)&&decide (a.notice=b.notice)&&decide (a.sink=b.sink)&&decide (a.majority=b.majority)&&decide (a.fast=b.fast)&&decide (a.favour=b.favour)&&decide (a.calls=b.calls))&&decide (a.lets=b.lets)&&decide (a.cov=b.cov)&&decide (a.coupon=b.coupon)):=by
 rw [Bool.eq_iff_iff]
 simp only [Bool.and_eq_true,decide_eq_true_eq]
 constructor
 ·intro h
  rw [h]
  simp
 ·rintro ⟨⟨⟨⟨⟨⟨⟨⟨⟨⟨⟨⟨⟨h_name,h_issuer⟩,h_face⟩,h_frm⟩,h_to⟩,h_every⟩,h_count⟩,h_adjust⟩,h_record⟩,h_rank⟩,⟨⟨⟨⟨⟨⟨⟨h_cap,h_cross⟩,h_notice⟩,h_sink⟩,h_majority⟩,h_fast⟩,h_favour⟩,h_calls⟩⟩,h_lets⟩,h_cov⟩,h_coupon⟩
  exact ind_eq h_name h_issuer h_face h_frm h_to h_every h_count h_adjust h_record h_rank h_lets h_coupon h_cap h_cov h_favour h_cross h_calls h_notice h_sink h_majority h_fast
theorem samefn_ok (a b:Ind) (ha:OkX a) (hb:OkX b):APureV Tryz.prog 27 [encX a,encX b] (.bool (decide (a=b))):=by
 have q1:=eqsS_ok a.favour b.favour ha.favour hb.favour
 have q2:=eqsK_ok a.calls b.calls ha.calls hb.calls
 have q3:=eqfL_ok a.lets b.lets (by have:=ha.lets;omega) (by have:=hb.lets;omega) (fun x hx y hy=>samel_ok x y (ha.let1 x hx).2 (hb.let1 y hy).2)
 have q4:=eqfC_ok a.cov b.cov (by have:=ha.cov;omega) (by have:=hb.cov;omega) (fun x hx y hy=>samec_ok x y (ha.cov1 x hx).2.1 (hb.cov1 y hy).2.1)
 have q5:=same_ok a.coupon b.coupon ha.coupon hb.coupon
 rw [eqI_dec]
 refine aO (cxOk 158 [0,1,2,3,4,5,6,7,8]) Tryz.func27 ?_
 conv=>whnf
 refine cO (fun _=>q1) ?_
 conv=>whnf
 refine cO (fun _=>q2) ?_
 conv=>whnf
 refine cO (fun _=>q3) ?_
 conv=>whnf
 refine cO (fun _=>q4) ?_
 conv=>whnf
 refine cO (fun _=>q5) ?_
 conv=>whnf
 rfl
theorem samefn2_ok (a b:Ind) (ha:OkX a) (hb:OkX b):APureV Tryz.prog 14 [encX a,encX b] (.bool (decide (a=b))):=by
 have q5:=same2_ok a.coupon b.coupon ha.coupon hb.coupon
 have hal:=ha.lets
 have hbl:=hb.lets
 have hac:=ha.cov
 have hbc:=hb.cov
 have haf:=ha.favour
 have hbf:=hb.favour
 have hak:=ha.calls
 have hbk:=hb.calls
 refine aO (cxOk 291 [0,1,2,3,4,5,6,7,8,9,10,167,172,203,208,254,259,272,277,290]) Tryz.func14 ?_
 conv=>whnf
 refine cO (fun _=>q5) ?_
 conv=>whnf
 refine ⟨fun hne=>?_,fun hne=>?_⟩
 ·have hf:¬ a=b:=by
   intro h
   rw [h] at hne
   simp at hne
  rw [decide_eq_false hf]
  conv=>whnf
  rfl
 simp only [Bool.or_eq_false_iff,Bool.not_eq_false',decide_eq_true_eq,Bool.and_eq_true] at hne
 obtain ⟨⟨⟨⟨⟨⟨⟨⟨⟨⟨⟨⟨⟨⟨h_name,h_issuer⟩,h_face⟩,h_frm⟩,h_to⟩,h_every⟩,h_count⟩,h_adjust⟩,h_record⟩,h_rank⟩,⟨⟨⟨⟨⟨⟨h_cap,h_cross⟩,h_notice⟩,h_sink⟩,h_majority⟩,h_fast⟩,h_coupon⟩⟩,l1⟩,l2⟩,l3⟩,l4⟩:=hne
 conv=>whnf
 refine loop_up (cxOk _ _) a.lets.length (fun k=>∀ j,j<k→a.lets.getD j l0=b.lets.getD j l0) (fun k=>⟨[(2,.ptr 0 0),(3,.ptr 1 0),(4,.bool false),(7,.int .i64 (k:Nat))],[(0,.cells 31 (celX a)),(1,.cells 31 (celX b))],2⟩) (by intro j hj;omega) ((wk_of [(0,.id 0),(1,.id 1)] rfl ⟨wc0,wc0,wa0,wa0,trivial⟩ ⟨wb0,wb0,trivial⟩)) ?_
 intro k hk hP
 conv=>whnf
 refine ⟨fun hd=>?_,fun hd=>?_⟩
 ·have hd:=of_decide_eq_true hd
  have hlt:k<a.lets.length:=by omega
  have hlt2:k<b.lets.length:=by omega
  have hek:(k:Int).toNat=k:=Int.toNat_natCast k
  have hb1:=same2_ok _ _ (ha.let1 _ (getD_mem (d:=l0) hlt)).2 (hb.let1 _ (getD_mem (d:=l0) hlt2)).2
  conv=>whnf
  refine .quiet (by kernel_rfl) ?_
  conv=>whnf
  refine iO ?_;conv=>whnf
  refine And.intro rfl ?_;conv=>whnf
  refine iO ?_;conv=>whnf
  refine And.intro rfl ?_;conv=>whnf
  refine And.intro om0 (And.intro rfl ?_);conv=>whnf
  refine And.intro om0 (And.intro rfl ?_);conv=>whnf
  rw [hek]
  conv=>whnf
  refine .mk _ _ _ _ (fun _=>hb1) af0 rfl ?_
  conv=>whnf
  refine ⟨fun he=>?_,fun he=>?_⟩
  ·have hf:¬ a=b:=by
    intro h
    rw [h] at he
    simp at he
   rw [decide_eq_false hf]
   conv=>whnf
   rfl
  ·have he:a.lets.getD k l0=b.lets.getD k l0:=by
    simp only [Bool.or_eq_false_iff,Bool.not_eq_false'] at he
    exact of_decide_eq_true (by rw [eqL_dec,he.1,he.2];rfl)
   conv=>whnf
   refine iO ?_;conv=>whnf
   refine up hlt (fun j hj=>?_) ((wk_of [(0,.id 0),(1,.id 1)] rfl ⟨wc0,wc0,wa0,wa0,trivial⟩ ⟨wb0,wb0,trivial⟩))
   by_cases e:j=k
   ·subst e;exact he
   ·exact hP j om0
 have hd:=of_decide_eq_false hd
 have h_lets:a.lets=b.lets:=list_eq (d:=l0) (by omega) fun j hj=>hP j (by omega)
 conv=>whnf
 refine loop_up (cxOk _ _) a.cov.length (fun k=>∀ j,j<k→a.cov.getD j c0=b.cov.getD j c0) (fun k=>⟨[(2,.ptr 0 0),(3,.ptr 1 0),(4,.bool false),(8,.int .i64 (k:Nat))],[(0,.cells 31 (celX a)),(1,.cells 31 (celX b))],2⟩) (by intro j hj;omega) ((wk_of [(0,.id 0),(1,.id 1)] rfl ⟨wc0,wc0,wa0,wa0,trivial⟩ ⟨wb0,wb0,trivial⟩)) ?_
 intro k hk hP
 conv=>whnf
 refine ⟨fun hd=>?_,fun hd=>?_⟩
 ·have hd:=of_decide_eq_true hd
  have hlt:k<a.cov.length:=by omega
  have hlt2:k<b.cov.length:=by omega
  have hek:(k:Int).toNat=k:=Int.toNat_natCast k
  have hb1:=same2_ok _ _ (ha.cov1 _ (getD_mem (d:=c0) hlt)).2.1 (hb.cov1 _ (getD_mem (d:=c0) hlt2)).2.1
  conv=>whnf
  refine .quiet (by kernel_rfl) ?_
  conv=>whnf
  refine iO ?_;conv=>whnf
  refine And.intro rfl ?_;conv=>whnf
  refine iO ?_;conv=>whnf
  refine And.intro rfl ?_;conv=>whnf
  refine And.intro om0 (And.intro rfl ?_);conv=>whnf
  refine And.intro om0 (And.intro rfl ?_);conv=>whnf
  refine And.intro om0 (And.intro rfl ?_);conv=>whnf
  refine And.intro om0 (And.intro rfl ?_);conv=>whnf
  rw [hek]
  conv=>whnf
  refine .mk _ _ _ _ (fun _=>hb1) af0 rfl ?_
  conv=>whnf
  refine ⟨fun he=>?_,fun he=>?_⟩
  ·have hf:¬ a=b:=by
    intro h
    rw [h] at he
    simp at he
   rw [decide_eq_false hf]
   conv=>whnf
   rfl
  ·have he:a.cov.getD k c0=b.cov.getD k c0:=by
    simp only [Bool.or_eq_false_iff,Bool.not_eq_false'] at he
    exact of_decide_eq_true (by rw [eqC_dec,he.1.1,he.1.2,he.2];rfl)
   conv=>whnf
   refine iO ?_;conv=>whnf
   refine up hlt (fun j hj=>?_) ((wk_of [(0,.id 0),(1,.id 1)] rfl ⟨wc0,wc0,wa0,wa0,trivial⟩ ⟨wb0,wb0,trivial⟩))
   by_cases e:j=k
   ·subst e;exact he
   ·exact hP j om0
 have hd:=of_decide_eq_false hd
 have h_cov:a.cov=b.cov:=list_eq (d:=c0) (by omega) fun j hj=>hP j (by omega)
 conv=>whnf
 refine loop_up (cxOk _ _) a.favour.length (fun k=>∀ j,j<k→a.favour.getD j []=b.favour.getD j []) (fun k=>⟨[(2,.ptr 0 0),(3,.ptr 1 0),(4,.bool false),(9,.int .i64 (k:Nat))],[(0,.cells 31 (celX a)),(1,.cells 31 (celX b))],2⟩) (by intro j hj;omega) ((wk_of [(0,.id 0),(1,.id 1)] rfl ⟨wc0,wc0,wa0,wa0,trivial⟩ ⟨wb0,wb0,trivial⟩)) ?_
 intro k hk hP
 conv=>whnf
 refine ⟨fun hd=>?_,fun hd=>?_⟩
 ·have hd:=of_decide_eq_true hd
  have hlt:k<a.favour.length:=by omega
  have hlt2:k<b.favour.length:=by omega
  have hek:(k:Int).toNat=k:=Int.toNat_natCast k
  conv=>whnf
  refine .quiet (by kernel_rfl) ?_
  conv=>whnf
  refine iO ?_;conv=>whnf
  refine And.intro rfl ?_;conv=>whnf
  refine iO ?_;conv=>whnf
  refine And.intro rfl ?_;conv=>whnf
  rw [hek]
  conv=>whnf
  refine ⟨fun he=>?_,fun he=>?_⟩
  ·have hf:¬ a=b:=by
    intro h
    rw [h] at he
    simp at he
   rw [decide_eq_false hf]
   conv=>whnf
   rfl
  ·have he:a.favour.getD k []=b.favour.getD k []:=by
    simpa using he
   conv=>whnf
   refine iO ?_;conv=>whnf
   refine up hlt (fun j hj=>?_) ((wk_of [(0,.id 0),(1,.id 1)] rfl ⟨wc0,wc0,wa0,wa0,trivial⟩ ⟨wb0,wb0,trivial⟩))
   by_cases e:j=k
   ·subst e;exact he
   ·exact hP j om0
 have hd:=of_decide_eq_false hd
 have h_favour:a.favour=b.favour:=list_eq (d:=[]) (by omega) fun j hj=>hP j (by omega)
 conv=>whnf
 refine loop_up (cxOk _ _) a.calls.length (fun k=>∀ j,j<k→a.calls.getD j k0=b.calls.getD j k0) (fun k=>⟨[(2,.ptr 0 0),(3,.ptr 1 0),(4,.bool false),(10,.int .i64 (k:Nat))],[(0,.cells 31 (celX a)),(1,.cells 31 (celX b))],2⟩) (by intro j hj;omega) ((wk_of [(0,.id 0),(1,.id 1)] rfl ⟨wc0,wc0,wa0,wa0,trivial⟩ ⟨wb0,wb0,trivial⟩)) ?_
 intro k hk hP
 conv=>whnf
 refine ⟨fun hd=>?_,fun hd=>?_⟩
 ·have hd:=of_decide_eq_true hd
  have hlt:k<a.calls.length:=by omega
  have hlt2:k<b.calls.length:=by omega
  have hek:(k:Int).toNat=k:=Int.toNat_natCast k
  conv=>whnf
  refine .quiet (by kernel_rfl) ?_
  conv=>whnf
  refine iO ?_;conv=>whnf
  refine And.intro rfl ?_;conv=>whnf
  refine iO ?_;conv=>whnf
  refine And.intro rfl ?_;conv=>whnf
  rw [hek]
  conv=>whnf
  refine And.intro ⟨by kernel_rfl,by kernel_rfl⟩ ?_
  conv=>whnf
  rw [show (decide ((a.calls.getD k k0).a=(b.calls.getD k k0).a)&&(decide ((a.calls.getD k k0).b=(b.calls.getD k k0).b)&&true))=decide (a.calls.getD k k0=b.calls.getD k k0) by rw [Bool.and_true];exact (eqK_dec _ _).symm]
  refine ⟨fun he=>?_,fun he=>?_⟩
  ·have hf:¬ a=b:=by
    intro h
    rw [h] at he
    simp at he
   rw [decide_eq_false hf]
   conv=>whnf
   rfl
  ·have he:a.calls.getD k k0=b.calls.getD k k0:=by
    simpa using he
   conv=>whnf
   refine iO ?_;conv=>whnf
   refine up hlt (fun j hj=>?_) ((wk_of [(0,.id 0),(1,.id 1)] rfl ⟨wc0,wc0,wa0,wa0,trivial⟩ ⟨wb0,wb0,trivial⟩))
   by_cases e:j=k
   ·subst e;exact he
   ·exact hP j om0
 have hd:=of_decide_eq_false hd
 have h_calls:a.calls=b.calls:=list_eq (d:=k0) (by omega) fun j hj=>hP j (by omega)
 conv=>whnf
 have he:a=b:=ind_eq h_name h_issuer h_face h_frm h_to h_every h_count h_adjust h_record h_rank h_lets h_coupon h_cap h_cov h_favour h_cross h_calls h_notice h_sink h_majority h_fast
 rw [decide_eq_true he]
 rfl
mutual
def nodesN:Nat→Exp→Int→Int
 | 0,_,m=>m+1
 | d+1,e,m=>if 40<e.s.length then m+1 else nodesL d m e.args 1
def nodesL:Nat→Int→List Exp→Int→Int
 | _,_,[],n=>n
 | d,m,x::l,n=>if n≤m then nodesL d m l (n+nodesN d x (m-n)) else n
end
def fewE (e:Exp):Bool:=decide (nodesN 16 e 60≤60)
def few0 (x:Ind):Bool:=!(decide (22<(x.lets.length:Int))||decide (22<(x.cov.length:Int))||decide (22<(x.favour.length:Int))||decide (22<(x.calls.length:Int))||decide (40<(x.name.length:Int))||decide (40<(x.issuer.length:Int))||!fewE x.coupon)
def fewL (l:LetE):Bool:=!(decide (40<(l.name.length:Int))||!fewE l.body)
def fewC (c:Cov):Bool:=!(decide (40<(c.name.length:Int))||!fewE c.must)
def fewS (s:List UInt8):Bool:=!decide (40<(s.length:Int))
def fewX (x:Ind):Bool:=few0 x&&x.lets.all fewL&&x.cov.all fewC&&x.favour.all fewS
theorem args_0 {e:Exp} (h:(e.args.length:Int)=0):e.args=[]:=List.length_eq_zero_iff.1 (by omega)
theorem args_1 {e:Exp} (h:(e.args.length:Int)=1):∃ x,e.args=[x]:=List.length_eq_one_iff.1 (by omega)
theorem args_2 {e:Exp} (h:(e.args.length:Int)=2):∃ x y,e.args=[x,y]:=by
 match hl:e.args,(show e.args.length=2 by omega) with
 | [x,y],_=>exact ⟨x,y,rfl⟩
theorem args_3 {e:Exp} (h:(e.args.length:Int)=3):∃ x y z,e.args=[x,y,z]:=by
 match hl:e.args,(show e.args.length=3 by omega) with
 | [x,y,z],_=>exact ⟨x,y,z,rfl⟩
theorem name_len20 {s:List UInt8} (h:nameB s=true):s.length≤20:=by
 unfold nameB wordB at h
 simp only [Bool.and_eq_true,decide_eq_true_eq] at h
 exact h.1.1.2
theorem right_mk (d:Nat) (op n u:Int) (s:List UInt8) (args:List Exp):rightB (d+1) (.mk op n u s args) =
  if (args.length:Int)≠opsN op then false
  else if op=0 then decide (s=[])&&inB 0 4 [u]&&inB 0 (if u=4 then 1 else 1000000000000000) [n]
  else if op=1∨op=2∨op=3 then decide (n=0)&&decide (u=0)&&nameB s
  else if op=16∨op=17∨op=18 then decide (u=0)&&decide (s=[])&&inB 1 1000 [n]&&rightB d (args.getD 0 ex0)
  else decide (n=0)&&decide (u=0)&&decide (s=[])&&!(args.any fun x=>!rightB d x):=rfl
theorem right_wf:∀ (d:Nat) (e:Exp),rightB d e=true→WfE e∧lev e≤d
 | 0,e,h=>by cases h
 | d+1,⟨op,n,u,s,args⟩,h=>by
  rw [right_mk] at h
  by_cases hl:(args.length:Int)≠opsN op
  ·rw [if_pos hl] at h;cases h
  rw [if_neg hl] at h
  have hl:=Decidable.of_not_not hl
  unfold opsN at hl
  have lv:∀ l:List Exp,lev (.mk op n u s l)=levs l+1:=fun l=>by rw [lev]
  by_cases h0:op=0
  ·rw [if_pos h0] at h
   subst h0
   simp only [Bool.and_eq_true,decide_eq_true_eq] at h
   obtain ⟨⟨hs,hu⟩,hn⟩:=h
   have hu:=inB_one hu
   have hn:=inB_one hn
   have ha:=args_0 (e:=.mk 0 n u s args) (by simpa [Exp.args] using hl)
   have ha:args=[]:=ha
   subst ha hs
   refine ⟨?_,by rw [lv];simp [levs]⟩
   by_cases h4:u=4
   ·subst h4
    rw [if_pos rfl] at hn
    exact .boo n om0
   ·rw [if_neg h4] at hn
    exact .num n u hn.1 hn.2 om0
  rw [if_neg h0] at h
  by_cases h1:op=1∨op=2∨op=3
  ·rw [if_pos h1] at h
   simp only [Bool.and_eq_true,decide_eq_true_eq] at h
   obtain ⟨⟨hn,hu⟩,hs⟩:=h
   rw [if_pos (by omega)] at hl
   have ha:args=[]:=args_0 (e:=.mk op n u s args) hl
   subst ha hn hu
   exact ⟨.name op s h1 hs (by have:=name_len20 hs;omega),by rw [lv];simp [levs]⟩
  rw [if_neg h1] at h
  rw [if_neg (by omega)] at hl
  by_cases h2:op=16∨op=17∨op=18
  ·rw [if_pos h2] at h
   simp only [Bool.and_eq_true,decide_eq_true_eq] at h
   obtain ⟨⟨⟨hu,hs⟩,hn⟩,hx⟩:=h
   rw [if_pos (by omega)] at hl
   obtain ⟨x,ha⟩:=args_1 (e:=.mk op n u s args) hl
   have ha:args=[x]:=ha
   subst ha hu hs
   have ih:=right_wf d x hx
   refine ⟨.within op n x h2 (inB_one hn) ih.1,?_⟩
   rw [lv];simp only [levs];omega
  rw [if_neg h2] at h
  simp only [Bool.and_eq_true,decide_eq_true_eq,Bool.not_eq_true',List.any_eq_false,Bool.not_eq_true] at h
  obtain ⟨⟨⟨hn,hu⟩,hs⟩,hx⟩:=h
  subst hn hu hs
  have hx':∀ a∈args,WfE a∧lev a≤d:=fun a ha=>right_wf d a (by simpa using hx a ha)
  by_cases h12:op=12
  ·subst h12
   rw [if_pos (by omega)] at hl
   obtain ⟨x,ha⟩:=args_1 (e:=.mk 12 0 0 [] args) hl
   have ha:args=[x]:=ha
   subst ha
   have ih:=hx' x (by simp)
   refine ⟨.not x ih.1,?_⟩
   rw [lv];simp only [levs];omega
  rw [if_neg (by omega)] at hl
  by_cases h15:op=15
  ·subst h15
   rw [if_pos rfl] at hl
   obtain ⟨x,y,z,ha⟩:=args_3 (e:=.mk 15 0 0 [] args) hl
   have ha:args=[x,y,z]:=ha
   subst ha
   have i1:=hx' x (by simp)
   have i2:=hx' y (by simp)
   have i3:=hx' z (by simp)
   refine ⟨.cond x y z i1.1 i2.1 i3.1,?_⟩
   rw [lv];simp only [levs];omega
  rw [if_neg h15] at hl
  split at hl
  ·omega
  rename_i ho
  obtain ⟨x,y,ha⟩:=args_2 (e:=.mk op 0 0 [] args) hl
  have ha:args=[x,y]:=ha
  subst ha
  have i1:=hx' x (by simp)
  have i2:=hx' y (by simp)
  refine ⟨.pair op x y om0 i1.1 i2.1,?_⟩
  rw [lv];simp only [levs];omega
theorem wf_right {e:Exp} (h:WfE e):∀ d:Nat,lev e≤d→rightB d e=true:=by
 have i1:∀ a b n:Int,a≤n∧n≤b→inB a b [n]=true:=fun a b n h=>by unfold inB;simp [h.1,h.2]
 induction h with
 | num n u h0 h1 hu =>
  intro d hd
  obtain ⟨d,rfl⟩:∃ g,d=g+1:=⟨d-1,by simp only [lev] at hd;omega⟩
  rw [right_mk]
  have h4:¬ u=4:=by omega
  simp [Exp.op,Exp.n,Exp.unit,Exp.s,Exp.args,opsN,h4,i1 0 4 u (by omega),i1 0 1000000000000000 n ⟨h0,h1⟩]
 | boo n h =>
  intro d hd
  obtain ⟨d,rfl⟩:∃ g,d=g+1:=⟨d-1,by simp only [lev] at hd;omega⟩
  rw [right_mk]
  simp [Exp.op,Exp.n,Exp.unit,Exp.s,Exp.args,opsN,i1 0 4 4 (by omega),i1 0 1 n (by omega)]
 | name op s ho hn hl =>
  intro d hd
  obtain ⟨d,rfl⟩:∃ g,d=g+1:=⟨d-1,by simp only [lev] at hd;omega⟩
  rw [right_mk]
  rcases ho with rfl | rfl | rfl<;>simp [Exp.op,Exp.n,Exp.unit,Exp.s,Exp.args,opsN,hn]
 | within op n x ho hn hx ih =>
  intro d hd
  obtain ⟨d,rfl⟩:∃ g,d=g+1:=⟨d-1,by simp only [lev] at hd;omega⟩
  have hx:=ih d (by simp only [lev,levs] at hd;omega)
  rw [right_mk]
  rcases ho with rfl | rfl | rfl<;>simp [Exp.op,Exp.n,Exp.unit,Exp.s,Exp.args,argOf,opsN,hx,i1 1 1000 n hn]
 | not x hx ih =>
  intro d hd
  obtain ⟨d,rfl⟩:∃ g,d=g+1:=⟨d-1,by simp only [lev] at hd;omega⟩
  have hx:=ih d (by simp only [lev,levs] at hd;omega)
  rw [right_mk]
  simp [Exp.op,Exp.n,Exp.unit,Exp.s,Exp.args,opsN,hx]
 | pair op x y ho hx hy ihx ihy =>
  intro d hd
  obtain ⟨d,rfl⟩:∃ g,d=g+1:=⟨d-1,by simp only [lev] at hd;omega⟩
  have h1:=ihx d (by simp only [lev,levs] at hd;omega)
  have h2:=ihy d (by simp only [lev,levs] at hd;omega)
  have ho':opsN op=2:=by unfold opsN;rw [if_neg (by omega),if_neg (by omega),if_neg (by omega),if_neg (by omega)]
  rw [right_mk]
  rw [ho']
  rw [if_neg (by simp),if_neg (by omega),if_neg (by omega),if_neg (by omega)]
  simp [h1,h2]
 | cond x y z hx hy hz ihx ihy ihz =>
  intro d hd
  obtain ⟨d,rfl⟩:∃ g,d=g+1:=⟨d-1,by simp only [lev] at hd;omega⟩
  have h1:=ihx d (by simp only [lev,levs] at hd;omega)
  have h2:=ihy d (by simp only [lev,levs] at hd;omega)
  have h3:=ihz d (by simp only [lev,levs] at hd;omega)
  rw [right_mk]
  simp [Exp.op,Exp.n,Exp.unit,Exp.s,Exp.args,opsN,h1,h2,h3]
theorem rightE_iff (e:Exp):rightE e=true↔WfE e∧lev e≤12:=⟨right_wf 12 e,fun h=>wf_right h.1 12 h.2⟩
theorem uniq_iff (l:List (List UInt8)) (m:Int):uniqB l m=true↔(∀ s∈l,nameB s=true)∧l.Nodup∧(l.length:Int)≤m:=by
 unfold uniqB uqB
 simp only [Bool.and_eq_true,List.all_eq_true,List.mem_range,Bool.not_eq_true',decide_eq_false_iff_not,decide_eq_true_eq]
 have hg:∀ k,(h:k<l.length)→l.getD k []=l[k]:=fun k h=>by rw [List.getD_eq_getElem?_getD,List.getElem?_eq_getElem h];rfl
 constructor
 ·rintro ⟨h,hl⟩
  refine ⟨fun s hs=>?_,?_,hl⟩
  ·obtain ⟨k,hk,rfl⟩:=List.getElem_of_mem hs
   rw [← hg k hk]
   exact (h k hk).1
  ·rw [List.nodup_iff_pairwise_ne,List.pairwise_iff_getElem]
   intro i j hi hj hij he
   refine (h j hj).2 ?_
   rw [hg j hj,← he]
   rw [List.mem_iff_getElem]
   exact ⟨i,by rw [List.length_take];omega,by rw [List.getElem_take]⟩
 ·rintro ⟨h1,h2,hl⟩
  refine ⟨fun k hk=>⟨by rw [hg k hk];exact h1 _ (List.getElem_mem _),?_⟩,hl⟩
  rw [hg k hk,List.mem_iff_getElem]
  rintro ⟨i,hi,he⟩
  rw [List.length_take] at hi
  rw [List.getElem_take] at he
  rw [List.nodup_iff_pairwise_ne,List.pairwise_iff_getElem] at h2
  exact h2 i k om0 hk om0 he
theorem uniq_snoc {l:List (List UInt8)} (h:(∀ s∈l,nameB s=true)∧l.Nodup) {s:List UInt8} (hs:nameB s=true) (hn:¬ s∈l):(∀ x∈l++[s],nameB x=true)∧(l++[s]).Nodup:=by
 refine ⟨fun x hx=>?_,?_⟩
 ·rcases List.mem_append.1 hx with hx | hx
  ·exact h.1 x hx
  ·rw [List.mem_singleton.1 hx];exact hs
 ·rw [List.nodup_append]
  refine ⟨h.2,by simp,fun a ha b hb he=>?_⟩
  rw [List.mem_singleton.1 hb] at he
  subst he
  exact hn ha
theorem wholeP_made {T:List Tok} {w:List UInt8} {r r':List Tok} {x:Exp} (h:PSt T r) (e:wholeP w r=.ok (x,r')):rightE x=true:=by
 unfold wholeP at e
 cases e1:expP r.length 0 r with
 | error er=>rw [e1] at e;cases e
 | ok v =>
  obtain ⟨y,r1⟩:=v
  rw [e1] at e
  dsimp only at e
  have hm:=expP_made T _ _ _ _ _ h e1
  split at e
  ·cases e
  split at e
  ·rename_i hl
   cases e
   exact (rightE_iff _).2 ⟨hm.1,by omega⟩
  ·cases e
theorem partP_bnd {T:List Tok} {w:List UInt8} {a b n:Int} {r r':List Tok} (h:PSt T r) (e:partP w a b r=.ok (n,r')):a≤n∧n≤b:=by
 unfold partP at e
 split at e
 ·cases e
 rename_i r1 e1
 split at e
 ·cases e
 rename_i m r2 e2
 split at e
 ·cases e
 cases e
 exact (numP_le (h.to (wantP_suf e1)) e2).2
theorem maybeP_bnd {T:List Tok} {w:List UInt8} {a n0 n:Int} {r r':List Tok} (h:PSt T r) (e:maybeP w a n0 r=.ok (n,r')):n=n0∨0≤n∧n≤a:=by
 unfold maybeP at e
 split at e
 ·exact .inr (partP_bnd h e)
 ·cases e;exact .inl rfl
theorem oneP_bnd {w:List UInt8} {ws:List (List UInt8)} {n:Int} {r r':List Tok} (e:oneP w ws r=.ok (n,r')):0≤n∧n<ws.length:=by
 unfold oneP at e
 split at e
 ·cases e
 rename_i r1 e1
 split at e
 ·cases e
 rename_i hi
 split at e
 ·cases e
 cases e
 have:=idxP_lt (fun w=>isT w r1) [] ws
 omega
theorem dateP_bnd {least d:Int} {r r':List Tok} (e:dateP least r=.ok (d,r')):least<d∧0≤d∧d≤200000:=by
 unfold dateP at e
 split at e
 ·cases e
 split at e
 ·cases e
 split at e
 ·cases e
 split at e
 ·cases e
 split at e
 ·cases e
 rename_i y _ _ _ _ m _ _ r4 _ _
 split at e
 ·cases e
 rename_i h0
 have h0:=Decidable.of_not_not h0
 split at e
 ·rename_i hl
  cases e
  refine ⟨hl,?_⟩
  unfold dayOf at h0 ⊢
  split at h0
  ·exact absurd h0 dd0
  split at h0
  ·exact absurd h0 dd0
  split at h0
  ·rename_i a b c
   rw [if_neg a,if_neg b,if_pos c]
   exact c
  ·exact absurd h0 dd0
 ·cases e
theorem freshP_made {names:List (List UInt8)} {r r':List Tok} {s:List UInt8} (e:freshP names r=.ok (s,r')):nameB s=true∧¬ s∈names:=by
 unfold freshP at e
 split at e
 ·cases e
 rename_i hn
 split at e
 ·cases e
 rename_i hm
 cases e
 refine ⟨?_,hm⟩
 have hn:namedB r=true:=by simpa using hn
 unfold namedB at hn
 simp only [Bool.and_eq_true] at hn
 exact hn.2
def Uq (l:List (List UInt8)):Prop:=(∀ s∈l,nameB s=true)∧l.Nodup
theorem uq_nil:Uq []:=⟨(fun s hs=>by cases hs),List.nodup_nil⟩
theorem letsP_made {T:List Tok}:∀ (f:Nat) (ls ls':List LetE) (r r':List Tok),PSt T r→(∀ l∈ls,rightE l.body=true)→Uq (ls.map LetE.name)→ls.length≤20→letsP f ls r=.ok (ls',r')→(∀ l∈ls',rightE l.body=true)∧Uq (ls'.map LetE.name)∧ls'.length≤20
 | 0,ls,ls',r,r',_,h1,h2,h3,e=>by cases e;exact ⟨h1,h2,h3⟩
 | f+1,ls,ls',r,r',h,h1,h2,h3,e=>by
  unfold letsP at e
  split at e
  ·cases e;exact ⟨h1,h2,h3⟩
  rename_i hb
  split at e
  ·cases e
  rename_i h20
  split at e
  ·cases e
  rename_i s r1 e1
  split at e
  ·cases e
  rename_i r2 e2
  split at e
  ·cases e
  rename_i x r3 e3
  have q0:=h.tail (isT_kind (by simpa using hb))
  have q2:=q0.to ((freshP_suf e1).trans (wantP_suf e2))
  obtain ⟨n1,n2⟩:=freshP_made e1
  refine letsP_made f _ ls' r3 r' (q2.to (wholeP_suf e3)) (fun l hl=>?_) ?_ (by rw [List.length_append];show ls.length+1≤20;omega) e
  ·rcases List.mem_append.1 hl with hl | hl
   ·exact h1 l hl
   ·rw [List.mem_singleton.1 hl];exact wholeP_made q2 e3
  ·rw [List.map_append];exact uniq_snoc h2 n1 n2
theorem covsP_made {T:List Tok}:∀ (f:Nat) (ls ls':List Cov) (r r':List Tok),PSt T r→(∀ c∈ls,rightE c.must=true∧0≤c.grace∧c.grace≤1000)→Uq (ls.map Cov.name)→ls.length≤20→covsP f ls r=.ok (ls',r')→(∀ c∈ls',rightE c.must=true∧0≤c.grace∧c.grace≤1000)∧Uq (ls'.map Cov.name)∧ls'.length≤20
 | 0,ls,ls',r,r',_,h1,h2,h3,e=>by cases e;exact ⟨h1,h2,h3⟩
 | f+1,ls,ls',r,r',h,h1,h2,h3,e=>by
  unfold covsP at e
  split at e
  ·cases e;exact ⟨h1,h2,h3⟩
  rename_i hb
  split at e
  ·cases e
  rename_i h20
  split at e
  ·cases e
  rename_i s r1 e1
  split at e
  ·cases e
  rename_i r2 e2
  split at e
  ·cases e
  rename_i x r3 e3
  split at e
  ·cases e
  rename_i n r4 e4
  split at e
  ·cases e
  rename_i r5 e5
  have q0:=h.tail (isT_kind (by simpa using hb))
  have q2:=q0.to ((freshP_suf e1).trans (wantP_suf e2))
  have q3:=q2.to (wholeP_suf e3)
  have q5:=q3.to ((numP_suf e4).1.trans (wantP_suf e5))
  obtain ⟨n1,n2⟩:=freshP_made e1
  refine covsP_made f _ ls' r5 r' q5 (fun l hl=>?_) ?_ (by rw [List.length_append];show ls.length+1≤20;omega) e
  ·rcases List.mem_append.1 hl with hl | hl
   ·exact h1 l hl
   ·rw [List.mem_singleton.1 hl];exact ⟨wholeP_made q2 e3,(numP_le q3 e4).2⟩
  ·rw [List.map_append];exact uniq_snoc h2 n1 n2
theorem callsP_made {T:List Tok}:∀ (f:Nat) (ls ls':List CallE) (r r':List Tok),PSt T r→(∀ c∈ls,(0≤c.a∧c.a≤200000)∧0≤c.b∧c.b≤10000)→ls.length≤20→callsP f ls r=.ok (ls',r')→(∀ c∈ls',(0≤c.a∧c.a≤200000)∧0≤c.b∧c.b≤10000)∧ls'.length≤20
 | 0,ls,ls',r,r',_,h1,h3,e=>by cases e;exact ⟨h1,h3⟩
 | f+1,ls,ls',r,r',h,h1,h3,e=>by
  unfold callsP at e
  split at e
  ·cases e;exact ⟨h1,h3⟩
  rename_i hb
  split at e
  ·cases e
  rename_i h20
  split at e
  ·cases e
  rename_i d r1 e1
  split at e
  ·cases e
  rename_i r2 e2
  split at e
  ·cases e
  rename_i n r4 e4
  split at e
  ·cases e
  rename_i r5 e5
  have q0:=h.tail (isT_kind (by simpa using hb))
  have q2:=q0.to ((dateP_suf e1).trans (wantP_suf e2))
  have q5:=q2.to ((numP_suf e4).1.trans (wantP_suf e5))
  refine callsP_made f _ ls' r5 r' q5 (fun l hl=>?_) (by rw [List.length_append];show ls.length+1≤20;omega) e
  rcases List.mem_append.1 hl with hl | hl
  ·exact h1 l hl
  ·rw [List.mem_singleton.1 hl];exact ⟨(dateP_bnd e1).2,(numP_le q2 e4).2⟩
theorem favL_made:∀ (f:Nat) (ls ls':List (List UInt8)) (r r':List Tok),Uq ls→ls.length≤20→favL f ls r=.ok (ls',r')→Uq ls'∧ls'.length≤20
 | 0,ls,ls',r,r',h2,h3,e=>by cases e;exact ⟨h2,h3⟩
 | f+1,ls,ls',r,r',h2,h3,e=>by
  unfold favL at e
  split at e
  ·split at e
   ·cases e
   split at e
   ·cases e
   rename_i h20
   split at e
   ·cases e
   rename_i s r1 e1
   obtain ⟨n1,n2⟩:=freshP_made e1
   exact favL_made f _ ls' r1 r' (uniq_snoc h2 n1 n2) (by rw [List.length_append];show ls.length+1≤20;omega) e
  ·cases e;exact ⟨h2,h3⟩
theorem favP_made {ls:List (List UInt8)} {r r':List Tok} (e:favP r=.ok (ls,r')):Uq ls∧ls.length≤20:=by
 unfold favP at e
 split at e
 ·cases e;exact ⟨uq_nil,by simp⟩
 split at e
 ·cases e
 rename_i e1
 split at e
 ·cases e
 cases e
 exact favL_made _ _ _ _ _ uq_nil (by simp) e1
theorem uq_uniq {l:List (List UInt8)} (h:Uq l) (hl:l.length≤20):uniqB l 20=true:=(uniq_iff l 20).2 ⟨h.1,h.2,by omega⟩
end Go.Proofs.YtlmgomgpiideoaaGreatDoor
