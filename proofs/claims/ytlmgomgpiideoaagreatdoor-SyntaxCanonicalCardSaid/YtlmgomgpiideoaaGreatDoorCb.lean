import Derived.Test.YtlmgomgpiideoaaGreatDoorCa
import Derived.Test.YtlmgomgpiideoaaGreatDoorLc
import Derived.Shelf.Strings.Builder1
import Derived.KernelRfl
import Derived.Test.YtlmgomgpiideoaaGreatDoorProg
namespace Go.Proofs.YtlmgomgpiideoaaGreatDoor
open Go.Own
set_option maxHeartbeats 40000000
set_option maxRecDepth 100000
def favL:Nat→List (List UInt8)→List Tok→Ps (List (List UInt8))
 | 0,ls,r=>.ok (ls,r)
 | f+1,ls,r =>
  if ls.length=0∨isT [59] r=false then
   if namedB r=false then errP 12 r
   else if ¬ (ls.length:Int)<20 then errP 6 r
   else match freshP ls r with
    | .error e=>.error e
    | .ok (s,r1)=>favL f (ls++[s]) r1
  else .ok (ls,r)
def favP (r:List Tok):Ps (List (List UInt8)) :=
 if isT [102,97,118,111,117,114] r=false then .ok ([],r)
 else match favL r.tail.length [] r.tail with
  | .error e=>.error e
  | .ok (ls,r1)=>match wantP [59] r1 with
   | .error e=>.error e
   | .ok r2=>.ok (ls,r2)
def callsP:Nat→List CallE→List Tok→Ps (List CallE)
 | 0,ls,r=>.ok (ls,r)
 | f+1,ls,r =>
  if isT [99,97,108,108] r=false then .ok (ls,r)
  else if ¬ (ls.length:Int)<20 then errP 6 r
  else match dateP (-1) r.tail with
   | .error e=>.error e
   | .ok (d,r1)=>match wantP [97,116] r1 with
    | .error e=>.error e
    | .ok r2=>match numP 0 10000 r2 with
     | .error e=>.error e
     | .ok (n,r3)=>match wantP [59] r3 with
      | .error e=>.error e
      | .ok r4=>callsP f (ls++[⟨d,n⟩]) r4
theorem dateP_suf {least d:Int} {r r':List Tok} (h:dateP least r=.ok (d,r')):Suf r r':=by
 unfold dateP at h
 split at h
 ·cases h
 rename_i e1
 split at h
 ·cases h
 rename_i e2
 split at h
 ·cases h
 rename_i e3
 split at h
 ·cases h
 rename_i e4
 split at h
 ·cases h
 rename_i hk
 split at h
 ·cases h
 split at h
 ·cases h
  exact ((((numP_suf e1).1.trans (wantP_suf e2)).trans (numP_suf e3).1).trans (wantP_suf e4)).trans (.tail om0)
 ·cases h
theorem calls_x {T r:List Tok} (h:PSt T r) (x:Ind):RX 107 [.ptr 0 0,.ptr 1 0] [pobj T r,.cells 31 (celN x (.lsl 5 (argsE x.coupon)) (.sl 6 encL l0 x.lets) (.sl 7 encC c0 x.cov) (.sl 1 encS [] x.favour) .nils)] 2 (callsP r.length [] r) (fun _=>[]) (fun v=>[pobj T v.2,.cells 31 (celN x (.lsl 5 (argsE x.coupon)) (.sl 6 encL l0 x.lets) (.sl 7 encC c0 x.cov) (.sl 1 encS [] x.favour) (.sl 2 encK k0 v.1))]) (fun _=>[]):=by
 refine xO (cxXOk (fun ch=>∃ er,callsP r.length [] r=.error er∧ch=stopC er) 2 44 [0,1,4,6]) Tryz.func107 ?_
 conv=>whnf
 refine loop_inv (cxXOk _ _ _ _) (fun s:Nat×(List CallE×List Tok)=>PSt T s.2.2∧s.2.2.length≤s.1∧s.2.1.length≤20∧callsP r.length [] r=callsP s.1 s.2.1 s.2.2) (fun s=>s.1) (fun s=>⟨[(0,.ptr 0 0),(1,.ptr 1 0)],[(0,.cells 118 (pcell T (s.2.2))),(1,.cells 31 (celN x (.lsl 5 (argsE x.coupon)) (.sl 6 encL l0 x.lets) (.sl 7 encC c0 x.cov) (.sl 1 encS [] x.favour) (.own 2))),(2,.row 54 2 encK k0 (s.2.1))],3⟩) (r.length,([],r)) ⟨h,Nat.le_refl _,by simp,rfl⟩ ((wk_of [(0,.id 0),(1,.id 1),(2,.nil)] rfl ⟨wc0,wc0,trivial⟩ ⟨wb0,wb0,⟨_,rfl,ag0⟩,trivial⟩)) ?_
 rintro ⟨f,ls,q⟩ ⟨hq,hqf,hls,hsp⟩
 dsimp only at hq hqf hls hsp ⊢
 obtain ⟨f,rfl⟩:∃ g,f=g+1:=⟨f-1,by have:=hq.pos;omega⟩
 have hi:=is_ok hq [99,97,108,108]
 cases hb:isT [99,97,108,108] q with
 | false =>
  rw [hb] at hi
  conv=>whnf
  refine cO (fun _=>hi) ?_
  conv=>whnf
  refine gF ?_
  conv=>whnf
  have hs:callsP r.length [] r=.ok (ls,q):=by rw [hsp,callsP,if_pos hb]
  refine ⟨⟨[(0,.ptr 0 0)],[(0,.cells 118 (pcell T q)),(1,.cells 31 (celN x (.lsl 5 (argsE x.coupon)) (.sl 6 encL l0 x.lets) (.sl 7 encC c0 x.cov) (.sl 1 encS [] x.favour) (.sl 2 encK k0 ls)))],2⟩,(wk_frz [2]).trans (wk_of [(0,.id 0),(1,.id 1)] rfl ⟨wc0,trivial⟩ ⟨wb0,wb0,trivial⟩),rfl,rfl,?_⟩
  conv=>whnf
  exact ⟨rfl,(ls,q),hs,rfl,rfl,rfl⟩
 | true =>
  rw [hb] at hi
  have q1:=hq.tail (isT_kind hb)
  have hat:=hq.at
  have hqp:=hq.pos
  have hqle:=hq.le
  have hbig:=hq.big
  conv=>whnf
  refine cO (fun _=>hi) ?_
  conv=>whnf
  refine gT ?_
  conv=>whnf
  cases h20:decide ((ls.length:Int)<20) with
  | false =>
   have hs:callsP r.length [] r=.error ((hdT q).pos,6):=by rw [hsp,callsP,if_neg (by simp [hb]),if_pos (of_decide_eq_false h20)];rfl
   exact CallG.stop rfl (riox_stop (chk_f hq 6) [0] rfl rfl rfl ac0) ((fun ch hc=>⟨_,hs,hc⟩))
  | true =>
   have h20':=of_decide_eq_true h20
   have hs:callsP r.length [] r=match dateP (-1) q.tail with
    | .error e=>.error e
    | .ok (d,r1)=>match wantP [97,116] r1 with
     | .error e=>.error e
     | .ok r2=>match numP 0 10000 r2 with
      | .error e=>.error e
      | .ok (n,r3)=>match wantP [59] r3 with
       | .error e=>.error e
       | .ok r4=>callsP f (ls++[⟨d,n⟩]) r4:=by rw [hsp,callsP,if_neg (by simp [hb]),if_neg (by omega)]
   refine cR ((chk_t hq 6)) [0] ?_
   conv=>whnf
   refine iO ?_
   conv=>whnf
   rw [hat]
   conv=>whnf
   rcases e1:dateP (-1) q.tail with e | ⟨d,r1⟩
   ·exact CallG.stop rfl (riox_stop (rx_er (date_x q1 (-1)) e1) [0] rfl rfl rfl ac0) (fun ch hc=>⟨e,by simp only [hs,e1],hc⟩)
   refine cR (rx_ok (date_x q1 (-1)) e1) [0] ?_
   conv=>whnf
   have q2:=q1.to (dateP_suf e1)
   rcases e2:wantP [97,116] r1 with e | r2
   ·exact CallG.stop rfl (riox_stop (rx_er (want1_x q2 [97,116]) e2) [0,4] rfl rfl rfl ac0) (fun ch hc=>⟨e,by simp only [hs,e1,e2],hc⟩)
   refine cR (rx_ok (want1_x q2 [97,116]) e2) [0,4] ?_
   conv=>whnf
   have q3:=q2.to (wantP_suf e2)
   rcases e3:numP 0 10000 r2 with e | ⟨n,r3⟩
   ·exact CallG.stop rfl (riox_stop (rx_er (num_x q3 0 10000) e3) [0] rfl rfl rfl ac0) (fun ch hc=>⟨e,by simp only [hs,e1,e2,e3],hc⟩)
   refine cR (rx_ok (num_x q3 0 10000) e3) [0] ?_
   conv=>whnf
   have q4:=q3.to (numP_suf e3).1
   rcases e4:wantP [59] r3 with e | r4
   ·exact CallG.stop rfl (riox_stop (rx_er (want1_x q4 [59]) e4) [0,5] rfl rfl rfl ac0) (fun ch hc=>⟨e,by simp only [hs,e1,e2,e3,e4],hc⟩)
   refine cR (rx_ok (want1_x q4 [59]) e4) [0,5] ?_
   conv=>whnf
   have q5:=q4.to (wantP_suf e4)
   refine .eff ae0 ?_;conv=>whnf
   refine And.intro rfl ?_;conv=>whnf
   refine And.intro ⟨rfl,rfl⟩ (And.intro (by show (ls.length+1)*16≤140737488355328;omega) ?_)
   conv=>whnf
   refine Exists.intro ⟨d,n⟩ (And.intro rfl ?_)
   conv=>whnf
   refine ⟨by kernel_rfl,?_⟩
   conv=>whnf
   conv=>whnf
   have hl4:r4.length≤f:=by
    have a:=(dateP_suf e1).le
    have b:=(wantP_suf e2).le
    have c:=(numP_suf e3).1.le
    have c4:=(wantP_suf e4).le
    have d:=hq.tl
    omega
   exact ⟨(f,(ls++[⟨d,n⟩],r4)),⟨q5,hl4,(by show (ls++[_]).length≤20;rw [List.length_append];show ls.length+1≤20;omega),(by simp only [hs,e1,e2,e3,e4])⟩,Nat.lt_succ_self f,(wk_of [(0,.id 0),(1,.id 1),(2,.id 7)] rfl ⟨wc0,wc0,trivial⟩ ⟨wb0,wb0,⟨_,rfl,ag0⟩,trivial⟩)⟩
theorem favL_go {f:Nat} {ls:List (List UInt8)} {r:List Tok} (hg:ls.length=0∨isT [59] r=false) (hn:namedB r=true) (h20:(ls.length:Int)<20):favL (f+1) ls r=match freshP ls r with
  | .error e=>.error e
  | .ok (s,r1)=>favL f (ls++[s]) r1:=by
 rw [favL,if_pos hg,if_neg (by simp [hn]),if_neg (by omega)]
theorem freshP_lt {T:List Tok} {names:List (List UInt8)} {r r':List Tok} {s:List UInt8} (hp:PSt T r) (h:freshP names r=.ok (s,r')):r'.length+1=r.length:=by
 unfold freshP at h
 split at h
 ·cases h
 ·split at h
  ·cases h
  ·cases h;exact hp.tl
def favK (s:Ps (List (List UInt8))):Ps (List (List UInt8)):=match s with
 | .error e=>.error e
 | .ok (ls,r1)=>match wantP [59] r1 with
  | .error e=>.error e
  | .ok r2=>.ok (ls,r2)
theorem fav_x {T r:List Tok} (h:PSt T r) (x:Ind):RX 105 [.ptr 0 0,.ptr 1 0] [pobj T r,.cells 31 (celN x (.lsl 5 (argsE x.coupon)) (.sl 6 encL l0 x.lets) (.sl 7 encC c0 x.cov) .nils .nils)] 2 (favP r) (fun _=>[]) (fun v=>[pobj T v.2,.cells 31 (celN x (.lsl 5 (argsE x.coupon)) (.sl 6 encL l0 x.lets) (.sl 7 encC c0 x.cov) (.sl 1 encS [] v.1) .nils)]) (fun _=>[]):=by
 cases hb:isT [102,97,118,111,117,114] r with
 | false =>
  have hs:favP r=.ok ([],r):=by rw [favP,if_pos hb]
  refine xO (cxXOk (fun ch=>∃ er,favP r=.error er∧ch=stopC er) 2 48 [0,1,6,17]) Tryz.func105 ?_
  conv=>whnf
  refine cR ((has_f h hb)) [0] ?_
  conv=>whnf
  refine gT ?_
  conv=>whnf
  refine ⟨⟨[(0,.ptr 0 0)],[(0,.cells 118 (pcell T r)),(1,.cells 31 (celN x (.lsl 5 (argsE x.coupon)) (.sl 6 encL l0 x.lets) (.sl 7 encC c0 x.cov) (.sl 1 encS [] (([]:List (List UInt8)))) .nils))],2⟩,(wk_of [(0,.id 0),(1,.id 1)] rfl ⟨wc0,trivial⟩ ⟨wb0,⟨_,rfl,.cells _ _ _ _ rfl (by repeat (first | exact .nil | refine .cons (by first | exact .base (.tree _ _ rfl rfl) | exact .base (.own _ _ rfl) | exact .base (.ptr _ _ _ rfl) | exact .base (.map _ _ rfl) | exact .base (.nilown _ rfl) | exact .fn _ _ _ _ _ .nil (by repeat (first | exact .nil | refine .cons (by exact .ptr _ _ _ rfl) ?_)) | exact .base (.tree _ _ (LeT.nils_sl 1 encS []) rfl) | exact .base (.leT _ _ (LeT.nils_sl 1 encS []) rfl)) ?_)) rfl⟩,trivial⟩),rfl,rfl,?_⟩
  conv=>whnf
  exact ⟨rfl,([],r),hs,rfl,rfl,rfl⟩
 | true =>
  have h1:=h.tail (isT_kind hb)
  have hs0:favP r=favK (favL r.tail.length [] r.tail):=by
   rw [favP,if_neg (by simp [hb])]
   unfold favK
   try (cases favL r.tail.length [] r.tail<;>rfl)
  refine xO (cxXOk (fun ch=>∃ er,favP r=.error er∧ch=stopC er) 2 48 [0,1,6,17]) Tryz.func105 ?_
  conv=>whnf
  refine cR ((has_t h hb)) [0] ?_
  conv=>whnf
  refine gF ?_
  conv=>whnf
  refine loop_inv (cxXOk _ _ _ _) (fun s:Nat×(List (List UInt8)×List Tok)=>PSt T s.2.2∧s.2.2.length≤s.1∧s.2.1.length≤20∧favP r=favK (favL s.1 s.2.1 s.2.2)) (fun s=>s.1) (fun s=>⟨[(0,.ptr 0 0),(1,.ptr 1 0)],[(0,.cells 118 (pcell T (s.2.2))),(1,.cells 31 (celN x (.lsl 5 (argsE x.coupon)) (.sl 6 encL l0 x.lets) (.sl 7 encC c0 x.cov) (.own 2) .nils)),(2,.row 9 1 encS [] (s.2.1))],3⟩) (r.tail.length,([],r.tail)) ⟨h1,Nat.le_refl _,by simp,hs0⟩ ((wk_of [(0,.id 0),(1,.id 1),(2,.nil)] rfl ⟨wc0,wc0,trivial⟩ ⟨wb0,wb0,⟨_,rfl,ag0⟩,trivial⟩)) ?_
  rintro ⟨f,ls,q⟩ ⟨hq,hqf,hls,hsp⟩
  dsimp only at hq hqf hls hsp ⊢
  obtain ⟨f,rfl⟩:∃ g,f=g+1:=⟨f-1,by have:=hq.pos;omega⟩
  cases h0:decide ((ls.length:Int)=0) with
  | true =>
   have hg:ls.length=0∨isT [59] q=false:=.inl (by have:=of_decide_eq_true h0;omega)
   conv=>whnf
   rw [h0]
   refine cF [.rop (pcell T q),.str [59]] [.val (.bool false)] ?_
   conv=>whnf
   refine gT ?_
   conv=>whnf
   cases hn:namedB q with
   | false =>
    have hs:favP r=.error ((hdT q).pos,12):=by rw [hsp,favL,if_pos hg,if_pos hn];rfl
    have hnm:=named_ok hq
    rw [hn] at hnm
    refine cO (fun _=>hnm) ?_
    conv=>whnf
    exact CallG.stop rfl (riox_stop (chk_f hq 12) [0] rfl rfl rfl ac0) ((fun ch hc=>⟨_,hs,hc⟩))
   | true =>
    have hnm:=named_ok hq
    rw [hn] at hnm
    refine cO (fun _=>hnm) ?_
    conv=>whnf
    refine cR ((chk_t hq 12)) [0] ?_
    conv=>whnf
    cases h20:decide ((ls.length:Int)<20) with
    | false =>
     have hs:favP r=.error ((hdT q).pos,6):=by rw [hsp,favL,if_pos hg,if_neg (by simp [hn]),if_pos (of_decide_eq_false h20)];rfl
     exact CallG.stop rfl (riox_stop (chk_f hq 6) [0] rfl rfl rfl ac0) ((fun ch hc=>⟨_,hs,hc⟩))
    | true =>
     have h20':=of_decide_eq_true h20
     have hs:favP r=favK (match freshP ls q with
      | .error e=>.error e
      | .ok (s,r1)=>favL f (ls++[s]) r1):=by rw [hsp,favL_go hg hn h20']
     refine cR ((chk_t hq 6)) [0] ?_
     conv=>whnf
     rcases e1:freshP ls q with e | ⟨s,r1⟩
     ·have hs':favP r=.error e:=by rw [hs,e1];rfl
      refine DrawG.effp ae0 10 ?_
      conv=>whnf
      exact .mk [0,2] _ (riox_stop ((rx_er (fresh_x hq ls om0) e1)) [0,2] rfl rfl rfl ac0) ((fun ch hc=>⟨e,hs',hc⟩)) ⟨by kernel_rfl,by kernel_rfl⟩
     have hs':favP r=favK (favL f (ls++[s]) r1):=by rw [hs,e1]
     have q2:=hq.to (freshP_suf e1)
     have hl2:=freshP_lt hq e1
     refine .eff ae0 ?_
     conv=>whnf
     refine cR ((rx_ok (fresh_x hq ls om0) e1)) [0,2] ?_
     conv=>whnf
     refine And.intro rfl ?_
     conv=>whnf
     refine And.intro ⟨rfl,rfl⟩ (And.intro (by show (ls.length+1)*16≤140737488355328;omega) ?_)
     conv=>whnf
     refine Exists.intro s (And.intro rfl ?_)
     conv=>whnf
     refine ⟨by kernel_rfl,?_⟩
     conv=>whnf
     conv=>whnf
     exact ⟨(f,(ls++[s],r1)),⟨q2,(by show r1.length≤f;omega),(by show (ls++[_]).length≤20;rw [List.length_append];show ls.length+1≤20;omega),hs'⟩,Nat.lt_succ_self f,(wk_of [(0,.id 0),(1,.id 1),(2,.id 4)] rfl ⟨wc0,wc0,trivial⟩ ⟨wb0,wb0,⟨_,rfl,ag0⟩,trivial⟩)⟩
  | false =>
   have h0':=of_decide_eq_false h0
   cases h59:isT [59] q with
   | false =>
    have hg:ls.length=0∨isT [59] q=false:=.inr h59
    conv=>whnf
    rw [h0]
    refine cO (fun _=>(is_f hq h59)) ?_
    conv=>whnf
    refine gT ?_
    conv=>whnf
    cases hn:namedB q with
    | false =>
     have hs:favP r=.error ((hdT q).pos,12):=by rw [hsp,favL,if_pos hg,if_pos hn];rfl
     have hnm:=named_ok hq
     rw [hn] at hnm
     refine cO (fun _=>hnm) ?_
     conv=>whnf
     exact CallG.stop rfl (riox_stop (chk_f hq 12) [0] rfl rfl rfl ac0) ((fun ch hc=>⟨_,hs,hc⟩))
    | true =>
     have hnm:=named_ok hq
     rw [hn] at hnm
     refine cO (fun _=>hnm) ?_
     conv=>whnf
     refine cR ((chk_t hq 12)) [0] ?_
     conv=>whnf
     cases h20:decide ((ls.length:Int)<20) with
     | false =>
      have hs:favP r=.error ((hdT q).pos,6):=by rw [hsp,favL,if_pos hg,if_neg (by simp [hn]),if_pos (of_decide_eq_false h20)];rfl
      exact CallG.stop rfl (riox_stop (chk_f hq 6) [0] rfl rfl rfl ac0) ((fun ch hc=>⟨_,hs,hc⟩))
     | true =>
      have h20':=of_decide_eq_true h20
      have hs:favP r=favK (match freshP ls q with
       | .error e=>.error e
       | .ok (s,r1)=>favL f (ls++[s]) r1):=by rw [hsp,favL_go hg hn h20']
      refine cR ((chk_t hq 6)) [0] ?_
      conv=>whnf
      rcases e1:freshP ls q with e | ⟨s,r1⟩
      ·have hs':favP r=.error e:=by rw [hs,e1];rfl
       refine DrawG.effp ae0 10 ?_
       conv=>whnf
       exact .mk [0,2] _ (riox_stop ((rx_er (fresh_x hq ls om0) e1)) [0,2] rfl rfl rfl ac0) ((fun ch hc=>⟨e,hs',hc⟩)) ⟨by kernel_rfl,by kernel_rfl⟩
      have hs':favP r=favK (favL f (ls++[s]) r1):=by rw [hs,e1]
      have q2:=hq.to (freshP_suf e1)
      have hl2:=freshP_lt hq e1
      refine .eff ae0 ?_
      conv=>whnf
      refine cR ((rx_ok (fresh_x hq ls om0) e1)) [0,2] ?_
      conv=>whnf
      refine And.intro rfl ?_
      conv=>whnf
      refine And.intro ⟨rfl,rfl⟩ (And.intro (by show (ls.length+1)*16≤140737488355328;omega) ?_)
      conv=>whnf
      refine Exists.intro s (And.intro rfl ?_)
      conv=>whnf
      refine ⟨by kernel_rfl,?_⟩
      conv=>whnf
      conv=>whnf
      exact ⟨(f,(ls++[s],r1)),⟨q2,(by show r1.length≤f;omega),(by show (ls++[_]).length≤20;rw [List.length_append];show ls.length+1≤20;omega),hs'⟩,Nat.lt_succ_self f,(wk_of [(0,.id 0),(1,.id 1),(2,.id 4)] rfl ⟨wc0,wc0,trivial⟩ ⟨wb0,wb0,⟨_,rfl,ag0⟩,trivial⟩)⟩
   | true =>
    have hs:favP r=favK (.ok (ls,q)):=by rw [hsp,favL,if_neg (fun hc=>hc.elim (fun h=>by omega) (fun h=>by rw [h59] at h;cases h))]
    conv=>whnf
    rw [h0]
    refine cO (fun _=>(is_t hq h59)) ?_
    conv=>whnf
    refine gF ?_
    conv=>whnf
    rcases e2:wantP [59] q with e | r2
    ·exact CallG.stop rfl (riox_stop (rx_er (want1_x hq [59]) e2) [0,3] rfl rfl rfl ac0) (fun ch hc=>⟨e,by simp only [hs,favK,e2],hc⟩)
    refine cR (rx_ok (want1_x hq [59]) e2) [0,3] ?_
    conv=>whnf
    refine ⟨⟨[(0,.ptr 0 0)],[(0,.cells 118 (pcell T r2)),(1,.cells 31 (celN x (.lsl 5 (argsE x.coupon)) (.sl 6 encL l0 x.lets) (.sl 7 encC c0 x.cov) (.sl 1 encS [] ls) .nils))],2⟩,(wk_frz [2]).trans (wk_of [(0,.id 0),(1,.id 1)] rfl ⟨wc0,trivial⟩ ⟨wb0,wb0,trivial⟩),rfl,rfl,?_⟩
    conv=>whnf
    exact ⟨rfl,(ls,r2),by simp only [hs,favK,e2],rfl,rfl,rfl⟩
theorem ok_bind {ε α β:Type} (a:α) (f:α→Except ε β):(Except.ok a >>= f)=f a:=rfl
theorem er_bind {ε α β:Type} (e:ε) (f:α→Except ε β):((Except.error e:Except ε α) >>= f)=.error e:=rfl
theorem partP_suf {s:List UInt8} {a b n:Int} {r r':List Tok} (h:partP s a b r=.ok (n,r')):Suf r r':=by
 unfold partP at h
 split at h
 ·cases h
 rename_i e1
 split at h
 ·cases h
 rename_i e2
 split at h
 ·cases h
 rename_i e3
 cases h
 exact ((wantP_suf e1).trans (numP_suf e2).1).trans (wantP_suf e3)
theorem maybeP_suf {s:List UInt8} {a n0 n:Int} {r r':List Tok} (h:maybeP s a n0 r=.ok (n,r')):Suf r r':=by
 unfold maybeP at h
 split at h
 ·exact partP_suf h
 ·cases h;exact .refl _
theorem oneP_suf {s:List UInt8} {ws:List (List UInt8)} {n:Int} {r r':List Tok} (h:oneP s ws r=.ok (n,r')):Suf r r':=by
 unfold oneP at h
 split at h
 ·cases h
 rename_i r1 e1
 split at h
 ·cases h
 rename_i hi
 split at h
 ·cases h
 rename_i e2
 cases h
 have hlt:=idxP_lt (fun w=>isT w r1) [] ws
 have hb:isT (ws.getD (idxP (fun w=>isT w r1) ws).toNat []) r1=true:=by
  rcases hlt with hlt | hlt
  ·exact (hi hlt).elim
  ·exact hlt.2
 exact ((wantP_suf e1).trans (.tail (isT_kind hb))).trans (wantP_suf e2)
theorem letsP_suf:∀ (f:Nat) {ls ls':List LetE} {r r':List Tok},letsP f ls r=.ok (ls',r')→Suf r r'
 | 0,ls,ls',r,r',h=>by cases h;exact .refl _
 | f+1,ls,ls',r,r',h=>by
  unfold letsP at h
  split at h
  ·cases h;exact .refl _
  rename_i hb
  split at h
  ·cases h
  split at h
  ·cases h
  rename_i e1
  split at h
  ·cases h
  rename_i e2
  split at h
  ·cases h
  rename_i e3
  exact ((((Suf.tail (isT_kind (by simpa using hb))).trans (freshP_suf e1)).trans (wantP_suf e2)).trans (wholeP_suf e3)).trans (letsP_suf f h)
theorem covsP_suf:∀ (f:Nat) {ls ls':List Cov} {r r':List Tok},covsP f ls r=.ok (ls',r')→Suf r r'
 | 0,ls,ls',r,r',h=>by cases h;exact .refl _
 | f+1,ls,ls',r,r',h=>by
  unfold covsP at h
  split at h
  ·cases h;exact .refl _
  rename_i hb
  split at h
  ·cases h
  split at h
  ·cases h
  rename_i e1
  split at h
  ·cases h
  rename_i e2
  split at h
  ·cases h
  rename_i e3
  split at h
  ·cases h
  rename_i e4
  split at h
  ·cases h
  rename_i e5
  exact ((((((Suf.tail (isT_kind (by simpa using hb))).trans (freshP_suf e1)).trans (wantP_suf e2)).trans (wholeP_suf e3)).trans (numP_suf e4).1).trans (wantP_suf e5)).trans (covsP_suf f h)
theorem callsP_suf:∀ (f:Nat) {ls ls':List CallE} {r r':List Tok},callsP f ls r=.ok (ls',r')→Suf r r'
 | 0,ls,ls',r,r',h=>by cases h;exact .refl _
 | f+1,ls,ls',r,r',h=>by
  unfold callsP at h
  split at h
  ·cases h;exact .refl _
  rename_i hb
  split at h
  ·cases h
  split at h
  ·cases h
  rename_i e1
  split at h
  ·cases h
  rename_i e2
  split at h
  ·cases h
  rename_i e3
  split at h
  ·cases h
  rename_i e4
  exact (((((Suf.tail (isT_kind (by simpa using hb))).trans (dateP_suf e1)).trans (wantP_suf e2)).trans (numP_suf e3).1).trans (wantP_suf e4)).trans (callsP_suf f h)
theorem favL_suf:∀ (f:Nat) {ls ls':List (List UInt8)} {r r':List Tok},favL f ls r=.ok (ls',r')→Suf r r'
 | 0,ls,ls',r,r',h=>by cases h;exact .refl _
 | f+1,ls,ls',r,r',h=>by
  unfold favL at h
  split at h
  ·split at h
   ·cases h
   split at h
   ·cases h
   split at h
   ·cases h
   rename_i e1
   exact (freshP_suf e1).trans (favL_suf f h)
  ·cases h;exact .refl _
theorem favP_suf {ls:List (List UInt8)} {r r':List Tok} (h:favP r=.ok (ls,r')):Suf r r':=by
 unfold favP at h
 split at h
 ·cases h;exact .refl _
 rename_i hb
 split at h
 ·cases h
 rename_i e1
 split at h
 ·cases h
 rename_i e2
 cases h
 exact ((Suf.tail (isT_kind (by simpa using hb))).trans (favL_suf _ e1)).trans (wantP_suf e2)
def indP (r:List Tok):Except Er (Ind×List Tok):=do
 let r ← wantP [105,115,115,117,101] r
 let (name,r) ← nameP r
 let r ← wantP [111,102] r
 let (issuer,r) ← nameP r
 let r ← wantP [59] r
 let (face,r) ← partP [102,97,99,101] 1 1000000000000000 r
 let r ← wantP [102,114,111,109] r
 let (frm,r) ← dateP (-1) r
 let r ← wantP [116,111] r
 let (to,r) ← dateP frm r
 let r ← wantP [101,118,101,114,121] r
 let (every,r) ← numP 1 120 r
 let r ← wantsP [[109,111,110,116,104,115],[59]] r
 let (count,r) ← oneP [99,111,117,110,116] cntW r
 let (adjust,r) ← oneP [97,100,106,117,115,116] adjW r
 let (record,r) ← partP [114,101,99,111,114,100] 0 100 r
 let (rank,r) ← partP [114,97,110,107] 0 9 r
 let (lets,r) ← letsP r.length [] r
 let r ← wantP [99,111,117,112,111,110] r
 let (coupon,r) ← wholeP [59] r
 let (cap,r) ← partP [99,97,112] 0 10000 r
 let (cov,r) ← covsP r.length [] r
 let (favour,r) ← favP r
 let (cross,r) ← maybeP [99,114,111,115,115] 1000000000000000 (-1) r
 let (calls,r) ← callsP r.length [] r
 let (notice,r) ← maybeP [110,111,116,105,99,101] 1000 0 r
 let (sink,r) ← maybeP [115,105,110,107] 1000 0 r
 let (majority,r) ← partP [109,97,106,111,114,105,116,121] 1 1000 r
 let (fast,r) ← partP [102,97,115,116] 1 1000 r
 if (hdT r).kind=3 then .ok (⟨name,issuer,face,frm,to,every,count,adjust,record,rank,lets,coupon,cap,cov,favour,cross,calls,notice,sink,majority,fast⟩,r) else errP 12 r
theorem ind_x {T r:List Tok} (h:PSt T r):RX 41 [.ptr 0 0] [pobj T r] 1 (indP r) (fun v=>[encX v.1]) (fun v=>[pobj T v.2]) (fun v=>[.cells 31 (celX v.1)]):=by
 refine xO (cxXOk (fun ch=>∃ er,indP r=.error er∧ch=stopC er) 1 98 [0,2,3]) Tryz.func41 ?_
 conv=>whnf
 rcases e1:wantP [105,115,115,117,101] r with e | r1
 ·exact CallG.stop rfl (riox_stop (rx_er (want1_x h [105,115,115,117,101]) e1) [0,3] rfl rfl rfl ac0) (fun ch hc=>⟨e,by simp only [indP,ok_bind,er_bind,e1],hc⟩)
 refine cR (rx_ok (want1_x h [105,115,115,117,101]) e1) [0,3] ?_
 conv=>whnf
 have q1:=PSt.to h (wantP_suf e1)
 rcases e2:nameP r1 with e | ⟨nm,r2⟩
 ·exact CallG.stop rfl (riox_stop (rx_er (name_x q1) e2) [0] rfl rfl rfl ac0) (fun ch hc=>⟨e,by simp only [indP,e1,ok_bind,er_bind,e2],hc⟩)
 refine cR (rx_ok (name_x q1) e2) [0] ?_
 conv=>whnf
 have q2:=PSt.to q1 (nameP_suf e2)
 rcases e3:wantP [111,102] r2 with e | r3
 ·exact CallG.stop rfl (riox_stop (rx_er (want1_x q2 [111,102]) e3) [0,4] rfl rfl rfl ac0) (fun ch hc=>⟨e,by simp only [indP,e1,e2,ok_bind,er_bind,e3],hc⟩)
 refine cR (rx_ok (want1_x q2 [111,102]) e3) [0,4] ?_
 conv=>whnf
 have q3:=PSt.to q2 (wantP_suf e3)
 rcases e4:nameP r3 with e | ⟨iss,r4⟩
 ·exact CallG.stop rfl (riox_stop (rx_er (name_x q3) e4) [0] rfl rfl rfl ac0) (fun ch hc=>⟨e,by simp only [indP,e1,e2,e3,ok_bind,er_bind,e4],hc⟩)
 refine cR (rx_ok (name_x q3) e4) [0] ?_
 conv=>whnf
 have q4:=PSt.to q3 (nameP_suf e4)
 rcases e5:wantP [59] r4 with e | r5
 ·exact CallG.stop rfl (riox_stop (rx_er (want1_x q4 [59]) e5) [0,5] rfl rfl rfl ac0) (fun ch hc=>⟨e,by simp only [indP,e1,e2,e3,e4,ok_bind,er_bind,e5],hc⟩)
 refine cR (rx_ok (want1_x q4 [59]) e5) [0,5] ?_
 conv=>whnf
 have q5:=PSt.to q4 (wantP_suf e5)
 rcases e6:partP [102,97,99,101] 1 1000000000000000 r5 with e | ⟨face,r6⟩
 ·exact CallG.stop rfl (riox_stop (rx_er (part_x q5 [102,97,99,101] 1 1000000000000000) e6) [0] rfl rfl rfl ac0) (fun ch hc=>⟨e,by simp only [indP,e1,e2,e3,e4,e5,ok_bind,er_bind,e6],hc⟩)
 refine cR (rx_ok (part_x q5 [102,97,99,101] 1 1000000000000000) e6) [0] ?_
 conv=>whnf
 have q6:=PSt.to q5 (partP_suf e6)
 rcases e7:wantP [102,114,111,109] r6 with e | r7
 ·exact CallG.stop rfl (riox_stop (rx_er (want1_x q6 [102,114,111,109]) e7) [0,6] rfl rfl rfl ac0) (fun ch hc=>⟨e,by simp only [indP,e1,e2,e3,e4,e5,e6,ok_bind,er_bind,e7],hc⟩)
 refine cR (rx_ok (want1_x q6 [102,114,111,109]) e7) [0,6] ?_
 conv=>whnf
 have q7:=PSt.to q6 (wantP_suf e7)
 rcases e8:dateP (-1) r7 with e | ⟨frm,r8⟩
 ·exact CallG.stop rfl (riox_stop (rx_er (date_x q7 (-1)) e8) [0] rfl rfl rfl ac0) (fun ch hc=>⟨e,by simp only [indP,e1,e2,e3,e4,e5,e6,e7,ok_bind,er_bind,e8],hc⟩)
 refine cR (rx_ok (date_x q7 (-1)) e8) [0] ?_
 conv=>whnf
 have q8:=PSt.to q7 (dateP_suf e8)
 rcases e9:wantP [116,111] r8 with e | r9
 ·exact CallG.stop rfl (riox_stop (rx_er (want1_x q8 [116,111]) e9) [0,7] rfl rfl rfl ac0) (fun ch hc=>⟨e,by simp only [indP,e1,e2,e3,e4,e5,e6,e7,e8,ok_bind,er_bind,e9],hc⟩)
 refine cR (rx_ok (want1_x q8 [116,111]) e9) [0,7] ?_
 conv=>whnf
 have q9:=PSt.to q8 (wantP_suf e9)
 rcases e10:dateP frm r9 with e | ⟨tto,r10⟩
 ·exact CallG.stop rfl (riox_stop (rx_er (date_x q9 frm) e10) [0] rfl rfl rfl ac0) (fun ch hc=>⟨e,by simp only [indP,e1,e2,e3,e4,e5,e6,e7,e8,e9,ok_bind,er_bind,e10],hc⟩)
 refine cR (rx_ok (date_x q9 frm) e10) [0] ?_
 conv=>whnf
 have q10:=PSt.to q9 (dateP_suf e10)
 rcases e11:wantP [101,118,101,114,121] r10 with e | r11
 ·exact CallG.stop rfl (riox_stop (rx_er (want1_x q10 [101,118,101,114,121]) e11) [0,8] rfl rfl rfl ac0) (fun ch hc=>⟨e,by simp only [indP,e1,e2,e3,e4,e5,e6,e7,e8,e9,e10,ok_bind,er_bind,e11],hc⟩)
 refine cR (rx_ok (want1_x q10 [101,118,101,114,121]) e11) [0,8] ?_
 conv=>whnf
 have q11:=PSt.to q10 (wantP_suf e11)
 rcases e12:numP 1 120 r11 with e | ⟨every,r12⟩
 ·exact CallG.stop rfl (riox_stop (rx_er (num_x q11 1 120) e12) [0] rfl rfl rfl ac0) (fun ch hc=>⟨e,by simp only [indP,e1,e2,e3,e4,e5,e6,e7,e8,e9,e10,e11,ok_bind,er_bind,e12],hc⟩)
 refine cR (rx_ok (num_x q11 1 120) e12) [0] ?_
 conv=>whnf
 have q12:=PSt.to q11 ((numP_suf e12).1)
 rcases e13:wantsP [[109,111,110,116,104,115],[59]] r12 with e | r13
 ·exact CallG.stop rfl (riox_stop (rx_er (want_x q12 [[109,111,110,116,104,115],[59]] (by simp)) e13) [0,9] rfl rfl rfl ac0) (fun ch hc=>⟨e,by simp only [indP,e1,e2,e3,e4,e5,e6,e7,e8,e9,e10,e11,e12,ok_bind,er_bind,e13],hc⟩)
 refine cR (rx_ok (want_x q12 [[109,111,110,116,104,115],[59]] (by simp)) e13) [0,9] ?_
 conv=>whnf
 have q13:=PSt.to q12 (wantsP_suf e13)
 refine cO (fun _=>cnt_ok) ?_
 conv=>whnf
 rcases e14:oneP [99,111,117,110,116] cntW r13 with e | ⟨count,r14⟩
 ·exact CallG.stop rfl (riox_stop (rx_er (one_x q13 [99,111,117,110,116] cntW (by decide)) e14) [0] rfl rfl rfl ac0) (fun ch hc=>⟨e,by simp only [indP,e1,e2,e3,e4,e5,e6,e7,e8,e9,e10,e11,e12,e13,ok_bind,er_bind,e14],hc⟩)
 refine cR (rx_ok (one_x q13 [99,111,117,110,116] cntW dd0) e14) [0] ?_
 conv=>whnf
 have q14:=PSt.to q13 (oneP_suf e14)
 refine cO (fun _=>adj_ok) ?_
 conv=>whnf
 rcases e15:oneP [97,100,106,117,115,116] adjW r14 with e | ⟨adjust,r15⟩
 ·exact CallG.stop rfl (riox_stop (rx_er (one_x q14 [97,100,106,117,115,116] adjW (by decide)) e15) [0] rfl rfl rfl ac0) (fun ch hc=>⟨e,by simp only [indP,e1,e2,e3,e4,e5,e6,e7,e8,e9,e10,e11,e12,e13,e14,ok_bind,er_bind,e15],hc⟩)
 refine cR (rx_ok (one_x q14 [97,100,106,117,115,116] adjW dd0) e15) [0] ?_
 conv=>whnf
 have q15:=PSt.to q14 (oneP_suf e15)
 rcases e16:partP [114,101,99,111,114,100] 0 100 r15 with e | ⟨record,r16⟩
 ·exact CallG.stop rfl (riox_stop (rx_er (part_x q15 [114,101,99,111,114,100] 0 100) e16) [0] rfl rfl rfl ac0) (fun ch hc=>⟨e,by simp only [indP,e1,e2,e3,e4,e5,e6,e7,e8,e9,e10,e11,e12,e13,e14,e15,ok_bind,er_bind,e16],hc⟩)
 refine cR (rx_ok (part_x q15 [114,101,99,111,114,100] 0 100) e16) [0] ?_
 conv=>whnf
 have q16:=PSt.to q15 (partP_suf e16)
 rcases e17:partP [114,97,110,107] 0 9 r16 with e | ⟨rank,r17⟩
 ·exact CallG.stop rfl (riox_stop (rx_er (part_x q16 [114,97,110,107] 0 9) e17) [0] rfl rfl rfl ac0) (fun ch hc=>⟨e,by simp only [indP,e1,e2,e3,e4,e5,e6,e7,e8,e9,e10,e11,e12,e13,e14,e15,e16,ok_bind,er_bind,e17],hc⟩)
 refine cR (rx_ok (part_x q16 [114,97,110,107] 0 9) e17) [0] ?_
 conv=>whnf
 have q17:=PSt.to q16 (partP_suf e17)
 rcases e18:letsP r17.length [] r17 with e | ⟨lets,r18⟩
 ·exact CallG.stop rfl (riox_stop (rx_er (lets_x q17 ⟨nm,iss,face,frm,tto,every,count,adjust,record,rank,[],ex0,0,[],[],0,[],0,0,0,0⟩) e18) [0,2] rfl rfl rfl ac0) (fun ch hc=>⟨e,by simp only [indP,e1,e2,e3,e4,e5,e6,e7,e8,e9,e10,e11,e12,e13,e14,e15,e16,e17,ok_bind,er_bind,e18],hc⟩)
 refine cR (rx_ok (lets_x q17 ⟨nm,iss,face,frm,tto,every,count,adjust,record,rank,[],ex0,0,[],[],0,[],0,0,0,0⟩) e18) [0,2] ?_
 conv=>whnf
 have q18:=PSt.to q17 (letsP_suf _ e18)
 rcases e19:wantP [99,111,117,112,111,110] r18 with e | r19
 ·exact CallG.stop rfl (riox_stop (rx_er (want1_x q18 [99,111,117,112,111,110]) e19) [0,10] rfl rfl rfl ac0) (fun ch hc=>⟨e,by simp only [indP,e1,e2,e3,e4,e5,e6,e7,e8,e9,e10,e11,e12,e13,e14,e15,e16,e17,e18,ok_bind,er_bind,e19],hc⟩)
 refine cR (rx_ok (want1_x q18 [99,111,117,112,111,110]) e19) [0,10] ?_
 conv=>whnf
 have q19:=PSt.to q18 (wantP_suf e19)
 rcases e20:wholeP [59] r19 with e | ⟨coupon,r20⟩
 ·exact CallG.stop rfl (riox_stop (rx_er (whole_x q19 [59]) e20) [0] rfl rfl rfl ac0) (fun ch hc=>⟨e,by simp only [indP,e1,e2,e3,e4,e5,e6,e7,e8,e9,e10,e11,e12,e13,e14,e15,e16,e17,e18,e19,ok_bind,er_bind,e20],hc⟩)
 refine cR (rx_ok (whole_x q19 [59]) e20) [0] ?_
 conv=>whnf
 have q20:=PSt.to q19 (wholeP_suf e20)
 rcases e21:partP [99,97,112] 0 10000 r20 with e | ⟨cap,r21⟩
 ·exact CallG.stop rfl (riox_stop (rx_er (part_x q20 [99,97,112] 0 10000) e21) [0] rfl rfl rfl ac0) (fun ch hc=>⟨e,by simp only [indP,e1,e2,e3,e4,e5,e6,e7,e8,e9,e10,e11,e12,e13,e14,e15,e16,e17,e18,e19,e20,ok_bind,er_bind,e21],hc⟩)
 refine cR (rx_ok (part_x q20 [99,97,112] 0 10000) e21) [0] ?_
 conv=>whnf
 have q21:=PSt.to q20 (partP_suf e21)
 rcases e22:covsP r21.length [] r21 with e | ⟨cov,r22⟩
 ·exact CallG.stop rfl (riox_stop (rx_er (covs_x q21 ⟨nm,iss,face,frm,tto,every,count,adjust,record,rank,lets,coupon,cap,[],[],0,[],0,0,0,0⟩) e22) [0,2] rfl rfl rfl ac0) (fun ch hc=>⟨e,by simp only [indP,e1,e2,e3,e4,e5,e6,e7,e8,e9,e10,e11,e12,e13,e14,e15,e16,e17,e18,e19,e20,e21,ok_bind,er_bind,e22],hc⟩)
 refine cR (rx_ok (covs_x q21 ⟨nm,iss,face,frm,tto,every,count,adjust,record,rank,lets,coupon,cap,[],[],0,[],0,0,0,0⟩) e22) [0,2] ?_
 conv=>whnf
 have q22:=PSt.to q21 (covsP_suf _ e22)
 rcases e23:favP r22 with e | ⟨favour,r23⟩
 ·exact CallG.stop rfl (riox_stop (rx_er (fav_x q22 ⟨nm,iss,face,frm,tto,every,count,adjust,record,rank,lets,coupon,cap,cov,[],0,[],0,0,0,0⟩) e23) [0,2] rfl rfl rfl ac0) (fun ch hc=>⟨e,by simp only [indP,e1,e2,e3,e4,e5,e6,e7,e8,e9,e10,e11,e12,e13,e14,e15,e16,e17,e18,e19,e20,e21,e22,ok_bind,er_bind,e23],hc⟩)
 refine cR (rx_ok (fav_x q22 ⟨nm,iss,face,frm,tto,every,count,adjust,record,rank,lets,coupon,cap,cov,[],0,[],0,0,0,0⟩) e23) [0,2] ?_
 conv=>whnf
 have q23:=PSt.to q22 (favP_suf e23)
 rcases e24:maybeP [99,114,111,115,115] 1000000000000000 (-1) r23 with e | ⟨cross,r24⟩
 ·exact CallG.stop rfl (riox_stop (rx_er (maybe_x q23 [99,114,111,115,115] 1000000000000000 (-1)) e24) [0] rfl rfl rfl ac0) (fun ch hc=>⟨e,by simp only [indP,e1,e2,e3,e4,e5,e6,e7,e8,e9,e10,e11,e12,e13,e14,e15,e16,e17,e18,e19,e20,e21,e22,e23,ok_bind,er_bind,e24],hc⟩)
 refine cR (rx_ok (maybe_x q23 [99,114,111,115,115] 1000000000000000 (-1)) e24) [0] ?_
 conv=>whnf
 have q24:=PSt.to q23 (maybeP_suf e24)
 rcases e25:callsP r24.length [] r24 with e | ⟨calls,r25⟩
 ·exact CallG.stop rfl (riox_stop (rx_er (calls_x q24 ⟨nm,iss,face,frm,tto,every,count,adjust,record,rank,lets,coupon,cap,cov,favour,cross,[],0,0,0,0⟩) e25) [0,2] rfl rfl rfl ac0) (fun ch hc=>⟨e,by simp only [indP,e1,e2,e3,e4,e5,e6,e7,e8,e9,e10,e11,e12,e13,e14,e15,e16,e17,e18,e19,e20,e21,e22,e23,e24,ok_bind,er_bind,e25],hc⟩)
 refine cR (rx_ok (calls_x q24 ⟨nm,iss,face,frm,tto,every,count,adjust,record,rank,lets,coupon,cap,cov,favour,cross,[],0,0,0,0⟩) e25) [0,2] ?_
 conv=>whnf
 have q25:=PSt.to q24 (callsP_suf _ e25)
 rcases e26:maybeP [110,111,116,105,99,101] 1000 0 r25 with e | ⟨notice,r26⟩
 ·exact CallG.stop rfl (riox_stop (rx_er (maybe_x q25 [110,111,116,105,99,101] 1000 0) e26) [0] rfl rfl rfl ac0) (fun ch hc=>⟨e,by simp only [indP,e1,e2,e3,e4,e5,e6,e7,e8,e9,e10,e11,e12,e13,e14,e15,e16,e17,e18,e19,e20,e21,e22,e23,e24,e25,ok_bind,er_bind,e26],hc⟩)
 refine cR (rx_ok (maybe_x q25 [110,111,116,105,99,101] 1000 0) e26) [0] ?_
 conv=>whnf
 have q26:=PSt.to q25 (maybeP_suf e26)
 rcases e27:maybeP [115,105,110,107] 1000 0 r26 with e | ⟨sink,r27⟩
 ·exact CallG.stop rfl (riox_stop (rx_er (maybe_x q26 [115,105,110,107] 1000 0) e27) [0] rfl rfl rfl ac0) (fun ch hc=>⟨e,by simp only [indP,e1,e2,e3,e4,e5,e6,e7,e8,e9,e10,e11,e12,e13,e14,e15,e16,e17,e18,e19,e20,e21,e22,e23,e24,e25,e26,ok_bind,er_bind,e27],hc⟩)
 refine cR (rx_ok (maybe_x q26 [115,105,110,107] 1000 0) e27) [0] ?_
 conv=>whnf
 have q27:=PSt.to q26 (maybeP_suf e27)
 rcases e28:partP [109,97,106,111,114,105,116,121] 1 1000 r27 with e | ⟨majority,r28⟩
 ·exact CallG.stop rfl (riox_stop (rx_er (part_x q27 [109,97,106,111,114,105,116,121] 1 1000) e28) [0] rfl rfl rfl ac0) (fun ch hc=>⟨e,by simp only [indP,e1,e2,e3,e4,e5,e6,e7,e8,e9,e10,e11,e12,e13,e14,e15,e16,e17,e18,e19,e20,e21,e22,e23,e24,e25,e26,e27,ok_bind,er_bind,e28],hc⟩)
 refine cR (rx_ok (part_x q27 [109,97,106,111,114,105,116,121] 1 1000) e28) [0] ?_
 conv=>whnf
 have q28:=PSt.to q27 (partP_suf e28)
 rcases e29:partP [102,97,115,116] 1 1000 r28 with e | ⟨fast,r29⟩
 ·exact CallG.stop rfl (riox_stop (rx_er (part_x q28 [102,97,115,116] 1 1000) e29) [0] rfl rfl rfl ac0) (fun ch hc=>⟨e,by simp only [indP,e1,e2,e3,e4,e5,e6,e7,e8,e9,e10,e11,e12,e13,e14,e15,e16,e17,e18,e19,e20,e21,e22,e23,e24,e25,e26,e27,e28,ok_bind,er_bind,e29],hc⟩)
 refine cR (rx_ok (part_x q28 [102,97,115,116] 1 1000) e29) [0] ?_
 conv=>whnf
 have q29:=PSt.to q28 (partP_suf e29)
 have hn:=next_ok q29
 refine cO (fun _=>hn) ?_
 conv=>whnf
 cases hk:decide ((hdT r29).kind=3) with
 | false =>
  have hs:indP r=.error ((hdT r29).pos,12):=by simp only [indP,e1,e2,e3,e4,e5,e6,e7,e8,e9,e10,e11,e12,e13,e14,e15,e16,e17,e18,e19,e20,e21,e22,e23,e24,e25,e26,e27,e28,e29,ok_bind,er_bind,of_decide_eq_false hk,if_false,errP]
  exact CallG.stop rfl (riox_stop (chk_f q29 12) [0] rfl rfl rfl ac0) ((fun ch hc=>⟨_,hs,hc⟩))
 | true =>
  have hs:indP r=.ok (⟨nm,iss,face,frm,tto,every,count,adjust,record,rank,lets,coupon,cap,cov,favour,cross,calls,notice,sink,majority,fast⟩,r29):=by simp only [indP,e1,e2,e3,e4,e5,e6,e7,e8,e9,e10,e11,e12,e13,e14,e15,e16,e17,e18,e19,e20,e21,e22,e23,e24,e25,e26,e27,e28,e29,ok_bind,er_bind,of_decide_eq_true hk,if_true]
  refine cR ((chk_t q29 12)) [0] ?_
  conv=>whnf
  refine ⟨⟨[(2,.ptr 1 0)],[(0,.cells 118 (pcell T r29)),(1,.cells 31 (celX ((⟨nm,iss,face,frm,tto,every,count,adjust,record,rank,lets,coupon,cap,cov,favour,cross,calls,notice,sink,majority,fast⟩:Ind))))],2⟩,(wk_of [(0,.id 0),(1,.id 1)] rfl ⟨wc0,trivial⟩ ⟨wb0,wb0,trivial⟩),rfl,rfl,?_⟩
  conv=>whnf
  exact ⟨rfl,(⟨nm,iss,face,frm,tto,every,count,adjust,record,rank,lets,coupon,cap,cov,favour,cross,calls,notice,sink,majority,fast⟩,r29),hs,rfl,rfl,rfl⟩
def hasP (s p:List UInt8):Bool:=decide (p.length≤s.length)&&decide (s.take p.length=p)
theorem prefix0_ok (s p:List UInt8) (hs:s.length≤9223372036854775807):APureV Tryz.prog 185 [.str s,.str p] (.bool (hasP s p)):=by
 unfold hasP
 cases hb:decide (p.length≤s.length) with
 | true =>
  have hle:=of_decide_eq_true hb
  have h1:decide (((p.length:Nat):Int)≤((s.length:Nat):Int))=true:=decide_eq_true (by omega)
  refine aO (cxOk 18 [0,1,4]) Tryz.func185 ?_
  conv=>whnf
  rw [h1]
  refine And.intro (fun _=>⟨by omega,by omega⟩) ?_;conv=>whnf
  have hc:cut none (some (.int .i64 p.length)) s 0 p.length=s.take p.length:=by
   unfold cut
   simp
  show [AR.val (AV.bool (true&&decide (cut none (some (.int .i64 p.length)) s 0 p.length=p)))]=_
  rw [hc]
 | false =>
  have hle:=of_decide_eq_false hb
  have h1:decide (((p.length:Nat):Int)≤((s.length:Nat):Int))=false:=decide_eq_false (by omega)
  refine aO (cxOk 18 [0,1,4]) Tryz.func185 ?_
  conv=>whnf
  rw [h1]
  refine And.intro (fun h=>(by cases h)) ?_
  conv=>whnf
  rfl
theorem prefix_ok (s p:List UInt8) (hs:s.length≤9223372036854775807):APureV Tryz.prog 161 [.str s,.str p] (.bool (hasP s p)):=by
 have h:=prefix0_ok s p hs
 refine aO (cxOk 8 [0,1,4]) Tryz.func161 ?_
 conv=>whnf
 refine cO (fun _=>h) ?_
 conv=>whnf
 rfl
def numV (s:List UInt8):Int:=s.foldl (fun n c=>10*n+((c.toNat:Int)-48)) 0
def numG (s:List UInt8):Bool:=decide (s≠[])&&decide (spanN digB s=s.length)&&!(decide ((s.getD 0 0).toNat=48)&&decide (s≠[48]))&&decide (s.length≤16)
def numR (s:List UInt8):Option Int:=if numG s=true∧numV s≤1000000000000000 then some (numV s) else none
def numA:Option Int→List AR
 | some n=>[.val (.int .i64 n),.val (.bool true)]
 | none=>[.val (.int .i64 0),.val (.bool false)]
theorem numV_snoc (l:List UInt8) (c:UInt8):numV (l++[c])=10*numV l+((c.toNat:Int)-48):=by simp [numV]
theorem numV_go:∀ (l:List UInt8) (a:Int),0≤a→(∀ c∈l,digB (c.toNat:Int)=true)→0≤l.foldl (fun n c=>10*n+((c.toNat:Int)-48)) a∧l.foldl (fun n c=>10*n+((c.toNat:Int)-48)) a<(a+1)*10 ^ l.length
 | [],a,ha,_=>by simp;omega
 | c::l,a,ha,h=>by
  have h2:=h c (by simp)
  unfold digB at h2
  simp only [Bool.and_eq_true,decide_eq_true_eq] at h2
  have h1:=numV_go l (10*a+((c.toNat:Int)-48)) (by omega) fun x hx=>h x (by simp [hx])
  rw [List.foldl_cons,List.length_cons,Int.pow_succ]
  refine ⟨h1.1,Int.lt_of_lt_of_le h1.2 ?_⟩
  have h3:(10*a+((c.toNat:Int)-48)+1)≤(a+1)*10:=by omega
  have h4:(0:Int)≤10 ^ l.length:=Int.pow_nonneg (by omega)
  have h5:=Int.mul_le_mul_of_nonneg_right h3 h4
  rw [Int.mul_assoc,Int.mul_comm 10 (10 ^ l.length)] at h5
  exact h5
theorem numV_bnd (l:List UInt8) (h:∀ c∈l,digB (c.toNat:Int)=true):0≤numV l∧numV l<10 ^ l.length:=by
 have:=numV_go l 0 (by omega) h
 simpa [numV] using this
theorem numb_ok (s:List UInt8) (hs:s.length≤9223372036854775807):APure Tryz.prog 160 [.str s] (fun rs=>rs=numA (numR s)):=by
 have hsp:=span_ok s 133 _ digit_ok hs
 have hpos:s≠[]→0<s.length:=fun h=>List.length_pos_iff.2 h
 have e4:decide (s=(⟨#[]⟩:ByteArray).data.toList)=decide (s=[]):=rfl
 have e5:decide (s=(⟨#[48]⟩:ByteArray).data.toList)=decide (s=[48]):=rfl
 have e3:decide ((spanN digB s:Int)=(s.length:Int))=decide (spanN digB s=s.length):=by
  by_cases h:spanN digB s=s.length
  ·simp [h]
  ·simp [h];omega
 have e6:decide (16<(s.length:Int))=!decide (s.length≤16):=by
  by_cases h:s.length≤16
  ·simp [h];omega
  ·simp [h];omega
 have e7:decide (((s.getD 0 0).toNat:Int)=48)=decide ((s.getD 0 0).toNat=48):=by
  generalize (s.getD 0 0).toNat=z
  by_cases h:z=48
  ·simp [h]
  ·simp [h];omega
 have hN:numG s=(!decide (s=[])&&decide (spanN digB s=s.length)&&!(decide ((s.getD 0 0).toNat=48)&&!decide (s=[48]))&&decide (s.length≤16)):=by
  unfold numG
  simp
 refine aO (cxOk 46 [0,2,3,4,5,28,30,31,32,44]) Tryz.func160 ?_
 conv=>whnf
 refine cO (fun _=>hsp) ?_
 conv=>whnf
 refine And.intro (fun h=>⟨by omega,by
  have h2:s≠[]:=fun e=>(by subst e;cases h)
  have:=hpos h2
  omega⟩) ?_
 conv=>whnf
 rw [e4,e3,e5,e6,show (Int.toNat 0)=0 from rfl,e7]
 have hcond:(decide (s=[])||!decide (spanN digB s=s.length)||decide ((s.getD 0 0).toNat=48)&&!decide (s=[48])||!decide (s.length≤16))=!numG s:=by
  rw [hN]
  generalize decide (s=[])=a
  generalize decide (spanN digB s=s.length)=b
  generalize decide ((s.getD 0 0).toNat=48)=c
  generalize decide (s=[48])=d
  generalize decide (s.length≤16)=f
  revert a b c d f
  decide
 rw [hcond]
 cases hg:numG s with
 | false =>
  have hr:numR s=none:=by unfold numR;rw [if_neg (by simp [hg])]
  rw [hr]
  refine gT ?_
  conv=>whnf
  rfl
 | true =>
  rw [hg] at hN
  have hN':=hN.symm
  simp only [Bool.and_eq_true,decide_eq_true_eq] at hN'
  have hspan:=hN'.1.1.2
  have h16:=hN'.2
  have hall:∀ k,k<s.length→digB ((s.getD k 0).toNat:Int)=true:=fun k hk=>spanN_lt (by rw [hspan];exact hk)
  have htk:∀ k,k≤s.length→0≤numV (s.take k)∧numV (s.take k)<10 ^ 16:=by
   intro k hk
   have h1:=numV_bnd (s.take k) (fun c hc=>by
    obtain ⟨i,hi,he⟩:=List.mem_iff_getElem.1 hc
    have hik:i<s.length:=by rw [List.length_take] at hi;omega
    have:=hall i hik
    rw [List.getD_eq_getElem?_getD,List.getElem?_eq_getElem hik] at this
    rw [← he,List.getElem_take]
    exact this)
   refine ⟨h1.1,Int.lt_of_lt_of_le h1.2 ?_⟩
   have h2:(10:Nat) ^ (s.take k).length≤10 ^ 16:=Nat.pow_le_pow_right (by omega) (by rw [List.length_take];omega)
   exact_mod_cast h2
  refine gF ?_
  conv=>whnf
  refine loop_up (cxOk _ _) s.length (fun _=>True) (fun k=>⟨[(0,.str s),(2,.int .i64 0),(3,.bool false),(4,.int .i64 (numV (s.take k))),(30,.int .i64 (s.length:Nat)),(31,.int .i64 (k:Nat))],[],0⟩) trivial ((wk_of [] rfl ⟨wa0,wa0,wa0,wa0,wa0,wa0,trivial⟩ trivial)) ?_
  intro k hk _
  have hv:=htk k hk
  conv=>whnf
  refine ⟨fun hd=>?_,fun hd=>?_⟩
  ·have hd:=of_decide_eq_true hd
   have hlt:k<s.length:=by omega
   have hek:(k:Int).toNat=k:=Int.toNat_natCast k
   have hdig:=hall k hlt
   unfold digB at hdig
   simp only [Bool.and_eq_true,decide_eq_true_eq] at hdig
   have hv2:=htk (k+1) hlt
   conv=>whnf
   refine iO ?_;conv=>whnf
   refine iO ?_;conv=>whnf
   rw [hek]
   have hw:IntKind.u8.wrap (((s.getD k 0).toNat:Int)-48)=((s.getD k 0).toNat:Int)-48:=IntWalk.u8_in _ (by omega)
   rw [hw]
   refine iO ?_
   conv=>whnf
   refine iO ?_
   conv=>whnf
   refine iO ?_
   conv=>whnf
   refine ⟨k+1,⟨hlt,trivial⟩,(by show s.length-(k+1)<s.length-k;omega),(wk_of [] rfl ⟨wa0,wa0,wa0,.base (.tree _ _ (congrArg (AV.int .i64) (by rw [take_getD (d:=0) hlt,numV_snoc])) rfl),wa0,wa0,trivial⟩ trivial)⟩
  ·have hd:=of_decide_eq_false hd
   have hke:k=s.length:=by omega
   rw [hke,List.take_length]
   rw [hke,List.take_length] at hv
   conv=>whnf
   refine ⟨fun hm=>?_,fun hm=>?_⟩
   ·have hm:=of_decide_eq_true hm
    have hr:numR s=none:=by unfold numR;rw [if_neg (by omega)]
    rw [hr]
    conv=>whnf
    rfl
   ·have hm:=of_decide_eq_false hm
    have hr:numR s=some (numV s):=by unfold numR;rw [if_pos ⟨hg,by omega⟩]
    rw [hr]
    conv=>whnf
    rfl
def wordT (s:List UInt8):List UInt8:=s.take (spanN (fun c=>letB c||digB c) s)
def digT (s:List UInt8):List UInt8:=s.take (spanN digB s)
def nextR (s:List UInt8):Except Int Tok :=
 if letB ((s.getD 0 0).toNat:Int)=true then
  if wordB (wordT s)=true then .ok ⟨0,wordT s,0,0⟩ else .error 11
 else if digB ((s.getD 0 0).toNat:Int)=true then
  match numR (digT s) with
  | some n=>.ok ⟨1,digT s,n,0⟩
  | none=>.error 3
 else match signs.find? (hasP s) with
  | some p=>.ok ⟨2,p,0,0⟩
  | none=>.error 10
def nextA:Except Int Tok→List AR
 | .ok t=>[.val (encTk t),.val (.int .i64 0)]
 | .error e=>[.val (encTk t0),.val (.int .i64 e)]
theorem find_at {α:Type _} {p:α→Bool} {d:α}:∀ {l:List α} {k:Nat},k<l.length→(∀ j,j<k→p (l.getD j d)=false)→p (l.getD k d)=true→l.find? p=some (l.getD k d)
 | [],k,h,_,_=>by simp at h
 | x::l,0,_,_,hp=>by
  have hp:p x=true:=hp
  rw [List.find?_cons_of_pos hp]
  rfl
 | x::l,k+1,h,hj,hp=>by
  have h0:p x=false:=hj 0 (by omega)
  rw [List.find?_cons_of_neg (by rw [h0];simp)]
  exact find_at (l:=l) (k:=k) (by simpa using h) (fun j hjk=>hj (j+1) (by omega)) hp
theorem find_no {α:Type _} {p:α→Bool} {d:α}:∀ {l:List α},(∀ j,j<l.length→p (l.getD j d)=false)→l.find? p=none
 | [],_=>rfl
 | x::l,h=>by
  have h0:p x=false:=h 0 (by simp)
  rw [List.find?_cons_of_neg (by rw [h0];simp)]
  exact find_no (l:=l) fun j hj=>h (j+1) (by simpa using hj)
theorem signs_rel (cs:Array Value) (h:cs=(signs.map fun s=>Value.string ⟨s.toArray⟩).toArray):cs.size=(signs.map fun s=>AV.str s).length∧∀ (S:Blocks) (w:World) (j:Nat) (c:Value) (a:AV),cs[j]?=some c→(signs.map fun s=>AV.str s)[j]?=some a→RelT S w c a:=by
 subst h
 refine ⟨by simp,fun S w j c a h1 h2=>?_⟩
 simp only [List.getElem?_toArray,List.getElem?_map,Option.map_eq_some_iff] at h1 h2
 obtain ⟨x,hx,rfl⟩:=h1
 obtain ⟨y,hy,rfl⟩:=h2
 rw [hx] at hy
 cases hy
 exact .str _ _ rfl
theorem next95 (s:List UInt8) (hne:s≠[]) (hs:s.length≤4000):APure Tryz.prog 95 [.str s] (fun rs=>rs=nextA (nextR s)):=by
 have hpos:0<s.length:=List.length_pos_iff.2 hne
 have hsp1:=span_ok s 159 _ wordd_ok (by omega)
 have hsp2:=span_ok s 133 _ digit_ok (by omega)
 have hle1:=spanN_le (fun c=>letB c||digB c) s
 have hle2:=spanN_le digB s
 have hw:=word_ok (wordT s) (by unfold wordT;rw [List.length_take];omega)
 have hn:=numb_ok (digT s) (by unfold digT;rw [List.length_take];omega)
 refine aO (cxOk 54 [0,2,3,4,5,6,7,9,10,20,24,38,43,44,45,49]) Tryz.func95 ?_
 conv=>whnf
 refine iO ?_
 conv=>whnf
 refine cO (fun _=>letter_ok ((s.getD 0 0).toNat:Int)) ?_
 conv=>whnf
 refine ⟨fun hl=>?_,fun hl=>?_⟩
 ·conv=>whnf
  refine cO (fun _=>hsp1) ?_
  conv=>whnf
  refine iO ?_;conv=>whnf
  refine cO (fun _=>hw) ?_
  conv=>whnf
  have hr:nextR s=if wordB (wordT s)=true then .ok ⟨0,wordT s,0,0⟩ else .error 11:=by unfold nextR;rw [if_pos hl]
  rw [hr]
  refine ⟨fun hb=>?_,fun hb=>?_⟩
  ·have hb':wordB (wordT s)=false:=by simpa using hb
   rw [hb',if_neg (by simp)]
   conv=>whnf
   rfl
  ·have hb':wordB (wordT s)=true:=by simpa using hb
   rw [hb',if_pos rfl]
   conv=>whnf
   rfl
 conv=>whnf
 refine iO ?_
 conv=>whnf
 refine cO (fun _=>digit_ok ((s.getD 0 0).toNat:Int)) ?_
 conv=>whnf
 refine ⟨fun hd=>?_,fun hd=>?_⟩
 ·conv=>whnf
  refine cO (fun _=>hsp2) ?_
  conv=>whnf
  refine iO ?_;conv=>whnf
  have hr:nextR s=match numR (digT s) with
   | some n=>.ok ⟨1,digT s,n,0⟩
   | none=>.error 3:=by unfold nextR;rw [if_neg (by rw [hl];simp),if_pos hd]
  cases hN:numR (digT s) with
  | none =>
   rw [hN] at hn hr
   unfold numA at hn
   rw [hr]
   refine cO (fun _=>hn) ?_
   conv=>whnf
   refine gT ?_
   conv=>whnf
   rfl
  | some n =>
   rw [hN] at hn hr
   unfold numA at hn
   rw [hr]
   refine cO (fun _=>hn) ?_
   conv=>whnf
   refine gF ?_
   conv=>whnf
   rfl
 have hr:nextR s=match signs.find? (hasP s) with
  | some p=>.ok ⟨2,p,0,0⟩
  | none=>.error 10:=by unfold nextR;rw [if_neg (by rw [hl];simp),if_neg (by rw [hd];simp)]
 rw [hr]
 conv=>whnf
 refine .arr _ (signs.map fun s=>AV.str s) _ rfl rfl rfl rfl signs_rel ?_
 conv=>whnf
 refine loop_up (cxOk _ _) 11 (fun k=>∀ j,j<k→hasP s (signs.getD j [])=false) (fun k=>⟨[(0,.str s),(2,.ptr 0 0),(3,.int .i64 0),(43,.agg (signs.map fun s=>AV.str s)),(44,.int .i64 (k:Nat))],[(0,.cells 61 [.int .i64 0,.str [],.int .i64 0,.int .i64 0])],1⟩) (by intro j hj;omega) ((wk_of [(0,.id 0)] rfl ⟨wa0,wc0,wa0,wa0,wa0,trivial⟩ ⟨wb0,trivial⟩)) ?_
 intro k hk hP
 have hlen:signs.length=11:=rfl
 conv=>whnf
 refine ⟨fun hd2=>?_,fun hd2=>?_⟩
 ·have hd2:=of_decide_eq_true hd2
  have hlt:k<signs.length:=by omega
  have hek:(k:Int).toNat=k:=Int.toNat_natCast k
  have hp:=prefix_ok s (signs.getD k []) (by omega)
  conv=>whnf
  refine iO ?_;conv=>whnf
  have hgk:(signs.map fun s=>AV.str s).getD (k:Int).toNat .undef=.str (signs.getD k []):=by rw [hek];exact wsL_get signs hlt
  rw [hgk]
  conv=>whnf
  refine cO (fun _=>hp) ?_
  conv=>whnf
  refine ⟨fun hq=>?_,fun hq=>?_⟩
  ·rw [find_at (d:=[]) hlt hP hq]
   conv=>whnf
   rfl
  ·conv=>whnf
   refine iO ?_
   conv=>whnf
   refine ⟨k+1,⟨hlt,fun j hj=>(by
    by_cases e:j=k
    ·rw [e];exact hq
    ·exact hP j (by omega))⟩,(by show 11-(k+1)<11-k;omega),(wk_of [(0,.id 0)] rfl ⟨wa0,wc0,wa0,wa0,wa0,trivial⟩ ⟨wb0,trivial⟩)⟩
 ·have hd2:=of_decide_eq_false hd2
  obtain rfl:k=11:=by omega
  rw [find_no (d:=[]) (fun j hj=>hP j (by omega))]
  conv=>whnf
  rfl
def skipN (s:List UInt8) (p:Nat):Nat:=p+spanN blkB (s.drop p)
def lexL (s:List UInt8):Nat→Nat→List Tok→Except Er (List Tok)
 | 0,_,l=>.ok l
 | f+1,p,l =>
  if skipN s p=s.length then .ok (l++[⟨3,[],0,(s.length:Nat)⟩])
  else match nextR (s.drop (skipN s p)) with
   | .error e=>.error ((skipN s p:Nat),e)
   | .ok t=>lexL s f (skipN s p+t.text.length) (l++[⟨t.kind,t.text,t.n,(skipN s p:Nat)⟩])
def lexR (s:List UInt8):Except Er (List Tok):=if 4000<s.length then .error (0,6) else lexL s (s.length+1) 0 []
def lexA:Except Er (List Tok)→List AR
 | .ok l=>[.val (encTks l),.val (.int .i64 0),.val (.int .i64 0)]
 | .error e=>[.val .nils,.val (.int .i64 e.1),.val (.int .i64 e.2)]
theorem signs_pos:∀ p∈signs,1≤p.length:=by decide
theorem spanN_pos {p:Int→Bool} {s:List UInt8} (hs:s≠[]) (h:p ((s.getD 0 0).toNat:Int)=true):1≤spanN p s:=by
 cases s with
 | nil=>exact (hs rfl).elim
 | cons c s =>
  have h:p (c.toNat:Int)=true:=h
  unfold spanN
  rw [List.takeWhile_cons,if_pos h]
  simp
theorem nextR_ok {s:List UInt8} (hs:s≠[]) {t:Tok} (h:nextR s=.ok t):1≤t.text.length∧t.text <+: s:=by
 unfold nextR at h
 split at h
 ·rename_i hl
  split at h
  ·cases h
   have:=spanN_pos (p:=fun c=>letB c||digB c) hs (by simp only [hl,Bool.true_or])
   have hle:=spanN_le (fun c=>letB c||digB c) s
   exact ⟨by show 1≤(wordT s).length;unfold wordT;rw [List.length_take];omega,List.take_prefix _ _⟩
  ·cases h
 split at h
 ·rename_i hd
  split at h
  ·cases h
   have:=spanN_pos hs hd
   have hle:=spanN_le digB s
   exact ⟨by show 1≤(digT s).length;unfold digT;rw [List.length_take];omega,List.take_prefix _ _⟩
  ·cases h
 split at h
 ·rename_i p hp
  cases h
  refine ⟨signs_pos _ (List.mem_of_find?_eq_some hp),?_⟩
  have:=List.find?_some hp
  unfold hasP at this
  simp only [Bool.and_eq_true,decide_eq_true_eq] at this
  show p <+: s
  rw [← this.2]
  exact List.take_prefix _ _
 ·cases h
theorem nextR_er {s:List UInt8} {e:Int} (h:nextR s=.error e):e=11∨e=3∨e=10:=by
 unfold nextR at h
 split at h
 ·split at h
  ·cases h
  ·cases h;omega
 split at h
 ·split at h
  ·cases h
  ·cases h;omega
 split at h
 ·cases h
 ·cases h;omega
theorem lex34 (s:List UInt8) (hs:s.length≤9223372036854775807):APure Tryz.prog 34 [.str s] (fun rs=>rs=lexA (lexR s)):=by
 cases h4:decide (4000<s.length) with
 | true =>
  have h4':=of_decide_eq_true h4
  have hr:lexR s=.error (0,6):=by unfold lexR;rw [if_pos h4']
  rw [hr]
  refine aW (cxOk 49 [0,2,3,4,5,6,7,8,11,21,35]) Tryz.func34 ?_
  conv=>whnf
  rw [decide_eq_true (show (4000:Int)<((s.length:Nat):Int) by omega)]
  refine gT ?_
  conv=>whnf
  refine ⟨_,Wk.refl _,?_⟩
  conv=>whnf
  rfl
 | false =>
  have h4':=of_decide_eq_false h4
  have hr:lexR s=lexL s (s.length+1) 0 []:=by unfold lexR;rw [if_neg h4']
  refine aW (cxOk 49 [0,2,3,4,5,6,7,8,11,21,35]) Tryz.func34 ?_
  conv=>whnf
  rw [decide_eq_false (show ¬ (4000:Int)<((s.length:Nat):Int) by omega)]
  refine gF ?_
  conv=>whnf
  refine loop_inv (cxOk _ _) (fun x:Nat×(Nat×List Tok)=>x.2.1≤s.length∧s.length<x.2.1+x.1∧x.2.2.length≤x.2.1∧lexR s=lexL s x.1 x.2.1 x.2.2) (fun x=>x.1) (fun x=>⟨[(0,.str s),(5,.own 0),(6,.int .i64 ((x.2.1):Nat))],[(0,.row 61 4 encTk t0 (x.2.2))],1⟩) (s.length+1,(0,[])) ⟨by show 0≤_;omega,by show _<0+(_+1);omega,by simp,hr⟩ ((wk_of [(0,.nil)] rfl ⟨wa0,ah0,wa0,trivial⟩ ⟨⟨_,rfl,ag0⟩,trivial⟩)) ?_
  rintro ⟨f,p,l⟩ ⟨hp,hpf,hl,hsp⟩
  dsimp only at hp hpf hl hsp ⊢
  obtain ⟨f,rfl⟩:∃ g,f=g+1:=⟨f-1,by omega⟩
  have hbl:=span_ok (s.drop p) 94 _ blank_ok (by rw [List.length_drop];omega)
  have hbn:=spanN_le blkB (s.drop p)
  rw [List.length_drop] at hbn
  conv=>whnf
  refine iO ?_;conv=>whnf
  refine cO (fun _=>hbl) ?_
  conv=>whnf
  refine iO ?_
  conv=>whnf
  have hq:(p:Int)+(spanN blkB (s.drop p):Nat)=((skipN s p:Nat):Int):=(Int.natCast_add _ _).symm
  have hqle:skipN s p≤s.length:=by unfold skipN;omega
  have hqp:p≤skipN s p:=by unfold skipN;omega
  rw [hq]
  cases he:decide (skipN s p=s.length) with
  | true =>
   have he':=of_decide_eq_true he
   rw [decide_eq_true (show ((skipN s p:Nat):Int)=((s.length:Nat):Int) by omega)]
   have hs':lexR s=.ok (l++[⟨3,[],0,(s.length:Nat)⟩]):=by rw [hsp,lexL,if_pos he']
   rw [hs',he']
   refine gT ?_
   conv=>whnf
   refine And.intro rfl ?_
   conv=>whnf
   refine And.intro ⟨rfl,rfl⟩ (And.intro (by show (l.length+1)*40≤140737488355328;omega) ?_)
   conv=>whnf
   refine Exists.intro ⟨3,[],0,(s.length:Nat)⟩ (And.intro rfl ?_)
   conv=>whnf
   refine ⟨_,wk_frz [2],?_⟩
   conv=>whnf
   rfl
  | false =>
   have he':=of_decide_eq_false he
   rw [decide_eq_false (show ¬ ((skipN s p:Nat):Int)=((s.length:Nat):Int) by omega)]
   have hne:s.drop (skipN s p)≠[]:=fun h=>by
    have:=congrArg List.length h
    rw [List.length_drop] at this
    simp only [List.length_nil] at this
    omega
   have hnx:=next95 (s.drop (skipN s p)) hne (by rw [List.length_drop];omega)
   refine gF ?_
   conv=>whnf
   refine iO ?_
   conv=>whnf
   cases hN:nextR (s.drop (skipN s p)) with
   | error e =>
    rw [hN] at hnx
    have hs':lexR s=.error ((skipN s p:Nat),e):=by rw [hsp,lexL,if_neg he',hN]
    have hen:=nextR_er hN
    rw [hs']
    unfold nextA at hnx
    refine cO (fun _=>hnx) ?_
    conv=>whnf
    rw [decide_eq_false (show ¬ e=0 by omega)]
    refine gT ?_
    conv=>whnf
    refine ⟨_,Wk.refl _,?_⟩
    conv=>whnf
    rfl
   | ok t =>
    rw [hN] at hnx
    obtain ⟨ht1,htp⟩:=nextR_ok hne hN
    have htl:=htp.length_le
    rw [List.length_drop] at htl
    have hs':lexR s=lexL s f (skipN s p+t.text.length) (l++[⟨t.kind,t.text,t.n,(skipN s p:Nat)⟩]):=by rw [hsp,lexL,if_neg he',hN]
    unfold nextA at hnx
    refine cO (fun _=>hnx) ?_
    conv=>whnf
    refine gF ?_
    conv=>whnf
    refine And.intro rfl ?_
    conv=>whnf
    refine And.intro ⟨rfl,rfl⟩ (And.intro (by show (l.length+1)*40≤140737488355328;omega) ?_)
    conv=>whnf
    refine Exists.intro ⟨t.kind,t.text,t.n,(skipN s p:Nat)⟩ (And.intro rfl ?_)
    conv=>whnf
    refine iO ?_
    conv=>whnf
    exact ⟨(f,(skipN s p+t.text.length,l++[⟨t.kind,t.text,t.n,(skipN s p:Nat)⟩])),⟨(by show skipN s p+t.text.length≤s.length;omega),(by show s.length<skipN s p+t.text.length+f;omega),(by show (l++[_]).length≤skipN s p+t.text.length;rw [List.length_append];show l.length+1≤_;omega),hs'⟩,Nat.lt_succ_self f,(wk_of [(0,.id 3)] rfl ⟨wa0,ah0,wa0,trivial⟩ ⟨⟨_,rfl,ag0⟩,trivial⟩)⟩
theorem digT_all (s:List UInt8):∀ c∈digT s,digB (c.toNat:Int)=true:=by
 intro c hc
 have h1:digT s=s.takeWhile fun b=>digB (b.toNat:Int):=by
  unfold digT spanN
  exact (List.prefix_iff_eq_take.1 (List.takeWhile_prefix _)).symm
 rw [h1] at hc
 exact (List.all_eq_true.1 (List.all_takeWhile (p:=fun b:UInt8=>digB (b.toNat:Int)) (l:=s))) _ hc
theorem nextR_mk {s:List UInt8} {t:Tok} (h:nextR s=.ok t):t.kind≠3∧0≤t.n∧t.n≤1000000000000000:=by
 unfold nextR at h
 split at h
 ·split at h
  ·cases h;exact ⟨by simp,by simp,by simp⟩
  ·cases h
 split at h
 ·split at h
  ·rename_i n hn
   cases h
   unfold numR at hn
   split at hn
   ·rename_i hc
    cases hn
    exact ⟨by simp,(numV_bnd _ (digT_all s)).1,hc.2⟩
   ·cases hn
  ·cases h
 split at h
 ·cases h;exact ⟨by simp,by simp,by simp⟩
 ·cases h
theorem fin1_snoc {l:List Tok} {t:Tok} (h:∀ x∈l,x.kind≠3) (ht:t.kind=3):Fin1 (l++[t]):=by
 induction l with
 | nil=>exact ht
 | cons x l ih =>
  have h1:=ih fun y hy=>h y (List.mem_cons_of_mem _ hy)
  have h2:=h x List.mem_cons_self
  cases l with
  | nil=>exact ⟨h2,h1⟩
  | cons y l=>exact ⟨h2,h1⟩
theorem lexL_ok {s:List UInt8}:∀ (f p:Nat) (l T:List Tok),(∀ t∈l,t.kind≠3∧t.text.length≤4000∧0≤t.n∧t.n≤1000000000000000)→s.length≤4000→p≤s.length→s.length<p+f→l.length≤p→lexL s f p l=.ok T→Fin1 T∧T.length≤s.length+1∧∀ t∈T,t.text.length≤4000∧0≤t.n∧t.n≤1000000000000000:=by
 intro f
 induction f with
 | zero=>intro p l T _ _ hp hf;omega
 | succ f ih =>
  intro p l T hl h4 hp hf hlp h
  unfold lexL at h
  split at h
  ·cases h
   refine ⟨fin1_snoc (fun x hx=>(hl x hx).1) rfl,by rw [List.length_append];simp;omega,fun t ht=>?_⟩
   rcases List.mem_append.1 ht with ht | ht
   ·exact (hl t ht).2
   ·have:t=_:=List.mem_singleton.1 ht
    subst this
    exact ⟨by simp,by simp,by simp⟩
  ·rename_i hne'
   split at h
   ·cases h
   ·rename_i t hN
    have hq:skipN s p≤s.length:=by
     have:=spanN_le blkB (s.drop p)
     rw [List.length_drop] at this
     unfold skipN;omega
    have hqp:p≤skipN s p:=by unfold skipN;omega
    have hne:s.drop (skipN s p)≠[]:=fun h=>by
     have:=congrArg List.length h
     rw [List.length_drop] at this
     simp only [List.length_nil] at this
     omega
    obtain ⟨t1,t2⟩:=nextR_ok hne hN
    obtain ⟨k1,k2,k3⟩:=nextR_mk hN
    have t3:=t2.length_le
    rw [List.length_drop] at t3
    refine ih _ _ T (fun x hx=>?_) h4 (by omega) (by omega) (by rw [List.length_append];simp;omega) h
    rcases List.mem_append.1 hx with hx | hx
    ·exact hl x hx
    ·have:x=_:=List.mem_singleton.1 hx
     subst this
     exact ⟨k1,by show t.text.length≤4000;omega,k2,k3⟩
theorem lexR_ok {s:List UInt8} {T:List Tok} (h:lexR s=.ok T):PSt T T:=by
 unfold lexR at h
 split at h
 ·cases h
 ·rename_i h4
  obtain ⟨a,b,c⟩:=lexL_ok _ _ _ T (fun t ht=>by cases ht) (by omega) (by omega) (by omega) (by simp) h
  exact ⟨List.suffix_refl _,a,by omega,c⟩
theorem open_ok (s:List UInt8) (hs:s.length≤9223372036854775807) {T:List Tok} (h:lexR s=.ok T):RIO Tryz.prog 38 [.str s] [] 0 (fun vs bs es=>vs=[.ptr 0 0,.int .i64 0,.int .i64 0]∧bs=[]∧es=[pobj T T]):=by
 have hl:=lex34 s hs
 rw [h] at hl
 unfold lexA at hl
 refine rO (cxPOk 0 19 [0,2,3,4,5,6,7]) Tryz.func38 ?_
 conv=>whnf
 refine cO (fun _=>hl) ?_
 conv=>whnf
 refine ⟨⟨[(2,.ptr 0 0),(3,.int .i64 0),(4,.int .i64 0)],[(0,.cells 118 (pcell T T))],1⟩,(wk_of [(0,.id 0)] rfl ⟨wc0,wa0,wa0,trivial⟩ ⟨⟨_,rfl,.cells _ _ _ _ rfl (by repeat (first | exact .nil | refine .cons (by first | exact .base (.tree _ _ rfl rfl) | exact .base (.own _ _ rfl) | exact .base (.ptr _ _ _ rfl) | exact .base (.map _ _ rfl) | exact .base (.nilown _ rfl) | exact .fn _ _ _ _ _ .nil (by repeat (first | exact .nil | refine .cons (by exact .ptr _ _ _ rfl) ?_)) | exact .base (.tree _ _ (congrArg (AV.int .i64) (by rw [Nat.sub_self];rfl)) rfl) | exact .base (.leT _ _ (congrArg (AV.int .i64) (by rw [Nat.sub_self];rfl)) rfl)) ?_)) rfl⟩,trivial⟩),rfl,rfl,?_⟩
 conv=>whnf
 exact ⟨rfl,rfl,rfl,rfl⟩
theorem open_er (s:List UInt8) (hs:s.length≤9223372036854775807) {e:Er} (h:lexR s=.error e):RIO Tryz.prog 38 [.str s] [] 0 (fun vs bs es=>vs=[.ptr 0 0,.int .i64 e.1,.int .i64 e.2]∧bs=[]∧es=[.cells 118 [.nils,.int .i64 0]]):=by
 have hl:=lex34 s hs
 rw [h] at hl
 unfold lexA at hl
 refine rO (cxPOk 0 19 [0,2,3,4,5,6,7]) Tryz.func38 ?_
 conv=>whnf
 refine cO (fun _=>hl) ?_
 conv=>whnf
 refine ⟨_,Wk.refl _,rfl,rfl,?_⟩
 conv=>whnf
 exact ⟨rfl,rfl,rfl,rfl⟩
theorem caught_er (a b c d:Int):RIO Tryz.prog 40 [.ival 120 [.int .i64 a,.int .i64 b],.ptr 0 0,.ptr 1 0] [.cells 3 [.int .i64 c],.cells 32 [.int .i64 d]] 2
  (fun vs bs es=>vs=[.bool true]∧bs=[.cells 3 [.int .i64 a],.cells 32 [.int .i64 b]]∧es=[]):=by
 refine rO (cxPOk 2 31 [0,1,2,6,7,8,19,21]) Tryz.func40 ?_
 conv=>whnf
 refine gF ?_
 conv=>whnf
 refine gT ?_
 conv=>whnf
 refine .eff ae0 ?_
 conv=>whnf
 refine ⟨by kernel_rfl,?_⟩
 conv=>whnf
 conv=>whnf
 refine ⟨⟨[(6,.bool true)],[(0,.cells 3 [.int .i64 a]),(1,.cells 32 [.int .i64 b])],2⟩,(wk_of [(0,.id 0),(1,.id 1)] rfl ⟨wa0,trivial⟩ ⟨wb0,wb0,trivial⟩),rfl,rfl,?_⟩
 conv=>whnf
 exact ⟨rfl,rfl,rfl,rfl⟩
theorem caught_ok (c d:Int):RIO Tryz.prog 40 [.ifc true,.ptr 0 0,.ptr 1 0] [.cells 3 [.int .i64 c],.cells 32 [.int .i64 d]] 2
  (fun vs bs es=>vs=[.bool false]∧bs=[.cells 3 [.int .i64 c],.cells 32 [.int .i64 d]]∧es=[]):=by
 refine rO (cxPOk 2 31 [0,1,2,6,7,8,19,21]) Tryz.func40 ?_
 conv=>whnf
 refine gF ?_
 conv=>whnf
 refine gF ?_
 conv=>whnf
 refine ⟨⟨[(6,.bool false)],[(0,.cells 3 [.int .i64 c]),(1,.cells 32 [.int .i64 d])],2⟩,(wk_of [(0,.id 0),(1,.id 1)] rfl ⟨wa0,trivial⟩ ⟨wb0,wb0,trivial⟩),rfl,rfl,?_⟩
 conv=>whnf
 exact ⟨rfl,rfl,rfl,rfl⟩
def parseR (s:List UInt8):Except Er Ind:=match lexR s with
 | .error e=>.error e
 | .ok T=>match indP T with
  | .error e=>.error e
  | .ok (x,_)=>.ok x
def parA:Except Er Ind→List AR
 | .ok x=>[.val (encX x),.val (.int .i64 0),.val (.int .i64 0)]
 | .error e=>[.val (encX i0),.val (.int .i64 e.1),.val (.int .i64 e.2)]
theorem lexR_er {s:List UInt8} {e:Er} (h:lexR s=.error e):e.2≠0:=by
 unfold lexR at h
 split at h
 ·cases h;simp
 ·rename_i h4
  have:∀ (f p:Nat) (l:List Tok),lexL s f p l=.error e→e.2≠0:=by
   intro f
   induction f with
   | zero=>intro p l h;cases h
   | succ f ih =>
    intro p l h
    unfold lexL at h
    split at h
    ·cases h
    ·split at h
     ·rename_i e' he
      cases h
      have:=nextR_er he
      show e'≠0
      omega
     ·exact ih _ _ h
  exact this _ _ _ h
theorem parse_lex (s:List UInt8) (hs:s.length≤9223372036854775807) {e:Er} (h:lexR s=.error e):APure Tryz.prog 10 [.str s] (fun rs=>rs=parA (.error e)):=by
 have ho:=open_er s hs h
 have hne:=lexR_er h
 refine aW (cxOk 20 [0,2,3,4,5,13]) Tryz.func10 ?_
 conv=>whnf
 refine cR (ho) [] ?_
 conv=>whnf
 rw [decide_eq_false hne]
 refine gT ?_
 conv=>whnf
 refine .eff ae0 ?_
 conv=>whnf
 refine ⟨by kernel_rfl,?_⟩
 conv=>whnf
 conv=>whnf
 refine ⟨⟨[(2,.ptr 0 0),(3,.ptr 1 0),(4,.ptr 2 0)],[(0,.cells 31 (celX i0)),(1,.cells 3 [.int .i64 e.1]),(2,.cells 32 [.int .i64 e.2])],3⟩,(wk_of [(0,.id 0),(1,.id 1),(2,.id 2)] rfl ⟨wc0,wc0,wc0,trivial⟩ ⟨⟨_,rfl,.cells _ _ _ _ rfl (by repeat (first | exact .nil | refine .cons (by first | exact .base (.tree _ _ rfl rfl) | exact .base (.own _ _ rfl) | exact .base (.ptr _ _ _ rfl) | exact .base (.map _ _ rfl) | exact .base (.nilown _ rfl) | exact .fn _ _ _ _ _ .nil (by repeat (first | exact .nil | refine .cons (by exact .ptr _ _ _ rfl) ?_)) | exact .base (.tree _ _ (by first | exact LeT.nils_lsl 5 rfl | exact LeT.nils_sl 6 encL l0 | exact LeT.nils_sl 7 encC c0 | exact LeT.nils_sl 1 encS [] | exact LeT.nils_sl 2 encK k0) rfl) | exact .base (.leT _ _ (by first | exact LeT.nils_lsl 5 rfl | exact LeT.nils_sl 6 encL l0 | exact LeT.nils_sl 7 encC c0 | exact LeT.nils_sl 1 encS [] | exact LeT.nils_sl 2 encK k0) rfl)) ?_)) rfl⟩,wb0,wb0,trivial⟩),?_⟩
 conv=>whnf
 rfl
abbrev zIX:List AV:=[.str [],.str [],.int .i64 0,.int .i64 0,.int .i64 0,.int .i64 0,.int .i64 0,.int .i64 0,.int .i64 0,.int .i64 0,.nils,.int .i64 0,.int .i64 0,.int .i64 0,.str [],.nils,.int .i64 0,.nils,.nils,.int .i64 0,.nils,.int .i64 0,.int .i64 0,.int .i64 0,.int .i64 0]
noncomputable abbrev cP:Cx:=cxP 3 20 [0,2,3,4,5,13]
theorem parse_go (s:List UInt8) (hs:s.length≤9223372036854775807) {T:List Tok} (h:lexR s=.ok T):APure Tryz.prog 10 [.str s] (fun rs=>rs=parA (parseR s)):=by
 have ho:=open_ok s hs h
 have hp:=lexR_ok h
 have hfit:∀ {F:Fr},F.pin=(fun _=>none)→F.fits 3:=fun {F} e i v hv=>by rw [e] at hv;cases hv
 refine apure_d (C:=cP) Tryz.func10 rfl dd0 rfl (by exact Nat.le_of_ble_eq_true rfl) ?_
 intro S w a hrel
 have hstart:=hrel
 refine wp_seq_ev (cxPOk _ _ _) (C:=cP) (hfit rfl) (st1:=⟨[(0,.str s),(2,.ptr 0 0),(3,.ptr 1 0),(4,.ptr 2 0)],[(0,.cells 31 zIX),(1,.cells 3 [.int .i64 0]),(2,.cells 32 [.int .i64 0])],3⟩) (Rr:=fun _=>False) ?_ (fun _ h=>h) ?_ (fun _ _ _ _ h=>h.elim) a w hrel
 ·conv=>whnf
  exact (wk_of [(0,.id 0),(1,.id 1),(2,.id 2)] rfl ⟨wa0,wc0,wc0,wc0,trivial⟩ ⟨wb0,wb0,wb0,trivial⟩)
 intro a w1 hrel
 refine wp_seq_ev (cxPOk _ _ _) (C:=cP) (hfit rfl) (st1:=⟨[(2,.ptr 0 0),(3,.ptr 1 0),(4,.ptr 2 0),(5,.ptr 3 0)],[(0,.cells 31 zIX),(1,.cells 3 [.int .i64 0]),(2,.cells 32 [.int .i64 0]),(3,.cells 118 (pcell T T))],4⟩) (Rr:=fun _=>False) ?_ (fun _ h=>h) ?_ (fun _ _ _ _ h=>h.elim) a w1 hrel
 ·conv=>whnf
  refine cR (ho) [] ?_
  conv=>whnf
  exact (wk_of [(0,.id 0),(1,.id 1),(2,.id 2),(3,.id 3)] rfl ⟨wc0,wc0,wc0,wc0,trivial⟩ ⟨wb0,wb0,wb0,wb0,trivial⟩)
 intro a w1 hrel
 refine wp_seq_ev (cxPOk _ _ _) (C:=cP) (hfit rfl) (st1:=⟨[(2,.ptr 0 0),(3,.ptr 1 0),(4,.ptr 2 0),(5,.ptr 3 0)],[(0,.cells 31 zIX),(1,.cells 3 [.int .i64 0]),(2,.cells 32 [.int .i64 0]),(3,.cells 118 (pcell T T))],4⟩) (Rr:=fun _=>False) ?_ (fun _ h=>h) ?_ (fun _ _ _ _ h=>h.elim) a w1 hrel
 ·conv=>whnf
  refine gF ?_
  conv=>whnf
  exact (wk_of [(0,.id 0),(1,.id 1),(2,.id 2),(3,.id 3)] rfl ⟨wc0,wc0,wc0,wc0,trivial⟩ ⟨wb0,wb0,wb0,wb0,trivial⟩)
 intro a w1 hrel
 obtain ⟨m,S1,hc,hsz,hds,hr⟩:=hrel
 have hsz20:a.tmps.size=20:=hsz
 have p2:RelV m S1 w1 (a.tmps.getD 2 undef) (.ptr 0 0):=hr 2
 have p3:RelV m S1 w1 (a.tmps.getD 3 undef) (.ptr 1 0):=hr 3
 have p4:RelV m S1 w1 (a.tmps.getD 4 undef) (.ptr 2 0):=hr 4
 have hR0:Rel (Fr.inner ⟨w,fun _=>False,S,fun _=>none,[]⟩ m 3) 20 (⟨[(2,.ptr 0 0),(3,.ptr 1 0),(4,.ptr 2 0),(5,.ptr 3 0)],[(0,.cells 31 zIX),(1,.cells 3 [.int .i64 0]),(2,.cells 32 [.int .i64 0]),(3,.cells 118 (pcell T T))],4⟩) a w1:=⟨m,S1,core_inner hc 3,hsz,hds,hr⟩
 have hlt17:17<a.tmps.size:=by omega
 refine wp_seq (wp_defer (t:=17) (g:=39) rfl rfl rfl rfl rfl rfl hlt17 ?_)
 have hR1:=rel_defer (t:=17) (v:=.func (.func 39) #[] (#[Operand.tmp 3,Operand.tmp 4,Operand.tmp 2].map a.eval)) (d:={ target:=.fn (.func 39) (#[Operand.tmp 3,Operand.tmp 4,Operand.tmp 2].map a.eval),args:=#[] }) hR0 rfl
 have hcap:#[Operand.tmp 3,Operand.tmp 4,Operand.tmp 2].map a.eval=#[a.tmps.getD 3 undef,a.tmps.getD 4 undef,a.tmps.getD 2 undef]:=by
  rw [List.map_toArray]
  rfl
 cases hi:indP T with
 | ok v =>
  obtain ⟨x,r⟩:=v
  have hs:parseR s=.ok x:=by unfold parseR;rw [h];simp only [hi]
  rw [hs]
  have hfit3:=Fr.inner_fits ⟨w,fun _=>False,S,fun _=>none,[]⟩ m 3
  refine wp_mono (evCode_sound (C:=cP) (cxPOk _ _ _) (F:=⟨w,fun _=>False,S,(Fr.inner ⟨w,fun _=>False,S,fun _=>none,[]⟩ m 3).pin,[_]⟩) hfit3 _ _ (fun e st'=>match e with
   | .ret=>Wk 3 20 st' (⟨[(2,.ptr 0 0),(3,.ptr 1 0),(4,.ptr 2 0)],[(0,.cells 31 (celX x)),(1,.cells 3 [.int .i64 0]),(2,.cells 32 [.int .i64 0])],3⟩)
   | _=>False) ?_ _ _ hR1) ?_
  ·conv=>whnf
   refine cR ((rx_ok (ind_x hp) hi)) [3] ?_
   conv=>whnf
   exact (wk_of [(0,.id 0),(1,.id 1),(2,.id 2)] rfl ⟨wc0,wc0,wc0,trivial⟩ ⟨wb0,wb0,wb0,trivial⟩)
  rintro e a' w' ⟨st',h1,h2⟩
  have h2:=orP_off (fun _ h=>h) h2
  cases e with
  | ret =>
   obtain ⟨m',S',hc',hsz',hd',hr'⟩:=h2 ⟨w,fun _=>False,S,(Fr.inner ⟨w,fun _=>False,S,fun _=>none,[]⟩ m 3).pin,[_]⟩ a' w' hfit3 h1
   have hmm:∀ i,i<3→∀ u,m i=some u→m' i=some u:=fun i hi u hu=>hc'.pins i u (by show (if i<3 then m i else none)=some u;rw [if_pos hi,hu])
   show Leaves Tryz.prog Tryz.f10 a'.tmps _ a'.defers .returning w'
   rw [hd']
   refine leaves_cons (u:=.returning) (fun h=>by cases h) (f:=39) (args:=#[a.tmps.getD 3 undef,a.tmps.getD 4 undef,a.tmps.getD 2 undef]) ?_ ?_
   ·rw [hcap]
    simp [invoke]
   have hc0:Core (Fr.mk w (fun _=>False) S (fun _=>none) []) m' S' w' (⟨[(2,.ptr 0 0),(3,.ptr 1 0),(4,.ptr 2 0)],[(0,.cells 31 (celX x)),(1,.cells 3 [.int .i64 0]),(2,.cells 32 [.int .i64 0])],3⟩:St).heap 3:=⟨hc'.good,hc'.free,hc'.far,hc'.owns,hc'.ro,hc'.ro0,fun i v (h:none=some v)=>nomatch h⟩
   refine (closure_runs (C:=cxP 3 6 [0,1,2,4]) (cxPOk _ _ _) Tryz.func39 rfl rfl rfl (t:=3) rfl rfl rfl dd0 (F:=Fr.inner (Fr.mk w (fun _=>False) S (fun _=>none) []) m' 3) (Fr.inner_fits _ _ _) rfl (env:=(⟨[(0,.ptr 1 0),(1,.ptr 2 0),(2,.ptr 0 0)],[(0,.cells 31 (celX x)),(1,.cells 3 [.int .i64 0]),(2,.cells 32 [.int .i64 0])],3⟩:St).env) (H:=(⟨[(0,.ptr 1 0),(1,.ptr 2 0),(2,.ptr 0 0)],[(0,.cells 31 (celX x)),(1,.cells 3 [.int .i64 0]),(2,.cells 32 [.int .i64 0])],3⟩:St).heap) (nx:=3) (rv:=.ifc true) (stE:=⟨[(2,.ptr 0 0)],[(0,.cells 31 (celX x)),(1,.cells 3 [.int .i64 0]),(2,.cells 32 [.int .i64 0])],3⟩) (fun _ h=>h) ?_ (core_inner hc0 3) (Nat.le_of_ble_eq_true rfl) (caps3 (ptr_move p3 (hmm 1 om0)) (ptr_move p4 (hmm 2 om0)) (ptr_move p2 (hmm 0 om0))) (u:=.returning) (u':=.returning) (v:=.nilIface) ?_ ?_).mono ?_
   ·conv=>whnf
    refine cR ((caught_ok 0 0)) [1,2] ?_
    conv=>whnf
    refine gF ?_
    conv=>whnf
    exact (wk_of [(0,.id 0),(1,.id 1),(2,.id 2)] rfl ⟨wc0,trivial⟩ ⟨wb0,wb0,wb0,trivial⟩)
   ·exact .t _ _ (by constructor<;>rfl)
   ·intro c₀ cs hu
    simp [recoverD,hu]
   ·rintro e u' w'' ⟨⟨r,rfl⟩,rfl,a'',hE⟩
    have hb:=rel_back (l:=[(2,0),(3,1),(4,2)]) (by decide) hsz' hr' hE
    have hb':Rel (Fr.mk w (fun _=>False) S (fun i=>if i<3 then m' i else none) []) 20 (⟨[(2,.ptr 0 0),(3,.ptr 1 0),(4,.ptr 2 0)],[(0,.cells 31 (celX x)),(1,.cells 3 [.int .i64 0]),(2,.cells 32 [.int .i64 0])],3⟩) { tmps:=a'.tmps,defers:=[] } w'':=hb
    have hq:resK tab Tryz.f10.results.toList (⟨[(2,.ptr 0 0),(3,.ptr 1 0),(4,.ptr 2 0)],[(0,.cells 31 (celX x)),(1,.cells 3 [.int .i64 0]),(2,.cells 32 [.int .i64 0])],3⟩) [] [] (fun rs=>rs=parA (.ok x)):=by
     conv=>whnf
     rfl
    exact ret_end (C:=cP) (fn:=Tryz.f10) (a':={ tmps:=a'.tmps,defers:=[] }) (cxPOk _ _ _) (Nat.le_of_ble_eq_true rfl) hb' hq
  | _=>exact h2.elim
 | error er =>
  have hs:parseR s=.error er:=by unfold parseR;rw [h];simp only [hi]
  rw [hs]
  obtain ⟨m0,S0,hc0,_,_,_⟩:=hstart
  have hS0:∀ g,S g→g<w.heap.size:=fun g hg=>(hc0.good.ro g (hc0.ro0 g hg)).1
  have hT0:TabAt S w:=fun g Q hg=>by
   obtain ⟨h1,h2⟩:=hc0.good.tab g Q hg
   rcases hc0.ro g h1 with h3 | h3 | h3
   ·exact ⟨h3,h2⟩
   ·exact h3.elim
   ·have h3:w.heap.size≤g:=h3
    have:=(hc0.good.ro g h1).1
    omega
  have ca:=core_aside hc [0,1,2] []
  have hA:Rel (Fr.aside S1 w1 m (deads [0,1,2] (⟨[(2,.ptr 0 0),(3,.ptr 1 0),(4,.ptr 2 0),(5,.ptr 3 0)],[(0,.cells 31 zIX),(1,.cells 3 [.int .i64 0]),(2,.cells 32 [.int .i64 0]),(3,.cells 118 (pcell T T))],4⟩:St).heap) []) 20 ⟨[(5,.ptr 3 0)],deads [0,1,2] (⟨[(2,.ptr 0 0),(3,.ptr 1 0),(4,.ptr 2 0),(5,.ptr 3 0)],[(0,.cells 31 zIX),(1,.cells 3 [.int .i64 0]),(2,.cells 32 [.int .i64 0]),(3,.cells 118 (pcell T T))],4⟩:St).heap,4⟩ a w1:=⟨m,S1,ca,hsz20,hds,fun s=>(by
   by_cases e5:s=5
   ·subst e5;exact hr 5
   ·have:lk [(5,AV.ptr 3 0)] s=.undef:=by
     unfold lk
     rw [show Nat.beq 5 s=false from by
      cases hb:Nat.beq 5 s with
      | false=>rfl
      | true=>exact (e5 (Nat.eq_of_beq_eq_true hb).symm).elim]
     rfl
    show RelV m S1 w1 _ (lk [(5,AV.ptr 3 0)] s)
    rw [this]
    exact .t _ _ (.undef _))⟩
  have hB:=rel_defer (t:=17) (v:=.func (.func 39) #[] (#[Operand.tmp 3,Operand.tmp 4,Operand.tmp 2].map a.eval)) (d:={ target:=.fn (.func 39) (#[Operand.tmp 3,Operand.tmp 4,Operand.tmp 2].map a.eval),args:=#[] }) hA rfl
  refine wp_seq (wp_mono (region_kept (C:=cxX (fun ch=>ch=stopC er) 0 20 [0,2,3,4,5,13]) tabOk (Q:=fun _=>False) ?_ (L:=[2,3,4]) dd0 hB) ?_)
  ·conv=>whnf
   exact CallG.stop rfl (riox_stop ((rx_er (ind_x hp) hi)) [3] rfl rfl rfl ac0) ((fun ch hc=>hc))
  rintro e a' w' ⟨⟨st',hR,hq⟩,hK⟩
  cases e with
  | panic ch =>
   have hq:ch=stopC er:=hq
   subst hq
   obtain ⟨m2,S2,hc2,hsz2,hd2,_⟩:=hR
   have hk2:a'.tmps.getD 2 undef=a.tmps.getD 2 undef:=(hK 2 (by decide)).trans (by show (a.tmps.setIfInBounds 17 _).getD 2 undef=_;rw [getD_set hlt17,if_neg (by decide)])
   have hk3:a'.tmps.getD 3 undef=a.tmps.getD 3 undef:=(hK 3 (by decide)).trans (by show (a.tmps.setIfInBounds 17 _).getD 3 undef=_;rw [getD_set hlt17,if_neg (by decide)])
   have hk4:a'.tmps.getD 4 undef=a.tmps.getD 4 undef:=(hK 4 (by decide)).trans (by show (a.tmps.setIfInBounds 17 _).getD 4 undef=_;rw [getD_set hlt17,if_neg (by decide)])
   have hkeep:=core_keep (F:=Fr.mk w (fun _=>False) S (fun _=>none) []) (fun _ h=>h) hT0 hS0 hc (K:=[0,1,2]) (H3:=(⟨[(0,.ptr 1 0),(1,.ptr 2 0),(2,.ptr 0 0)],[(0,.cells 31 zIX),(1,.cells 3 [.int .i64 0]),(2,.cells 32 [.int .i64 0])],4⟩:St).heap) (fun id=>(by
    match id with
    | 0=>rfl
    | 1=>rfl
    | 2=>rfl
    | n+3 =>
     rw [if_neg (by simp)]
     rfl)) (fun id hid=>(by
    simp only [List.mem_cons,List.not_mem_nil,or_false] at hid
    rcases hid with rfl | rfl | rfl
    ·exact ⟨_,_,rfl,by decide⟩
    ·exact ⟨_,_,rfl,by decide⟩
    ·exact ⟨_,_,rfl,by decide⟩)) hc2.far 3
   show Leaves Tryz.prog Tryz.f10 a'.tmps _ a'.defers (.panicking (stopC er)) w'
   rw [hd2]
   refine leaves_cons (u:=.panicking (stopC er)) (fun h=>by cases h) (f:=39) (args:=#[a.tmps.getD 3 undef,a.tmps.getD 4 undef,a.tmps.getD 2 undef]) ?_ ?_
   ·rw [hcap]
    simp [invoke]
   refine (closure_runs (C:=cxP 3 6 [0,1,2,4]) (cxPOk _ _ _) Tryz.func39 rfl rfl rfl (t:=3) rfl rfl rfl dd0 (F:=Fr.inner (Fr.mk w (fun _=>False) S (fun _=>none) []) m 3) (Fr.inner_fits _ _ _) rfl (env:=(⟨[(0,.ptr 1 0),(1,.ptr 2 0),(2,.ptr 0 0)],[(0,.cells 31 zIX),(1,.cells 3 [.int .i64 0]),(2,.cells 32 [.int .i64 0])],4⟩:St).env) (H:=(⟨[(0,.ptr 1 0),(1,.ptr 2 0),(2,.ptr 0 0)],[(0,.cells 31 zIX),(1,.cells 3 [.int .i64 0]),(2,.cells 32 [.int .i64 0])],4⟩:St).heap) (nx:=4) (rv:=.ival 120 [.int .i64 er.1,.int .i64 er.2]) (stE:=⟨[(2,.ptr 0 0)],[(0,.cells 31 (celX i0)),(1,.cells 3 [.int .i64 er.1]),(2,.cells 32 [.int .i64 er.2])],4⟩) (fun _ h=>h) ?_ hkeep (Nat.le_of_ble_eq_true rfl) (caps3 (ptr_move p3 (fun _ h=>h)) (ptr_move p4 (fun _ h=>h)) (ptr_move p2 (fun _ h=>h))) (u:=.panicking (stopC er)) (u':=.panicking [{ v:=.iface 120 (.agg #[.int .i64 er.1,.int .i64 er.2]),recovered:=true }]) (v:=.iface 120 (.agg #[.int .i64 er.1,.int .i64 er.2])) ?_ ?_).mono ?_
   ·conv=>whnf
    refine cR ((caught_er er.1 er.2 0 0)) [1,2] ?_
    conv=>whnf
    refine gT ?_
    conv=>whnf
    exact (wk_of [(0,.id 0),(1,.id 1),(2,.id 2)] rfl ⟨wc0,trivial⟩ ⟨⟨_,rfl,.cells _ _ _ _ rfl (by repeat (first | exact .nil | refine .cons (by first | exact .base (.tree _ _ rfl rfl) | exact .base (.own _ _ rfl) | exact .base (.ptr _ _ _ rfl) | exact .base (.map _ _ rfl) | exact .base (.nilown _ rfl) | exact .fn _ _ _ _ _ .nil (by repeat (first | exact .nil | refine .cons (by exact .ptr _ _ _ rfl) ?_)) | exact .base (.tree _ _ (by first | exact LeT.nils_lsl 5 rfl | exact LeT.nils_sl 6 encL l0 | exact LeT.nils_sl 7 encC c0 | exact LeT.nils_sl 1 encS [] | exact LeT.nils_sl 2 encK k0) rfl) | exact .base (.leT _ _ (by first | exact LeT.nils_lsl 5 rfl | exact LeT.nils_sl 6 encL l0 | exact LeT.nils_sl 7 encC c0 | exact LeT.nils_sl 1 encS [] | exact LeT.nils_sl 2 encK k0) rfl)) ?_)) rfl⟩,wb0,wb0,trivial⟩)
   ·refine .t _ _ (.ival 120 _ _ rfl fun j c a hj ha=>?_)
    match j with
    | 0=>cases hj;cases ha;exact .int _ _
    | 1=>cases hj;cases ha;exact .int _ _
    | n+2=>simp at ha
   ·intro c₀ cs hu
    simp [recoverD,hu,stopC]
   ·rintro e u' w'' ⟨⟨r,rfl⟩,rfl,a'',hE⟩
    have hb:=rel_back (m:=m) (S:=S) (w:=w') (a:=a') (l:=[(2,0),(3,1),(4,2)]) (by decide) hsz2 (fun s=>(by
     match s with
     | 0=>exact .t _ _ (.undef _)
     | 1=>exact .t _ _ (.undef _)
     | 2=>rw [hk2];exact ptr_move p2 (fun _ h=>h)
     | 3=>rw [hk3];exact ptr_move p3 (fun _ h=>h)
     | 4=>rw [hk4];exact ptr_move p4 (fun _ h=>h)
     | n+5=>exact .t _ _ (.undef _))) hE
    have hb':Rel (Fr.mk w (fun _=>False) S (fun i=>if i<3 then m i else none) []) 20 (⟨[(2,.ptr 0 0),(3,.ptr 1 0),(4,.ptr 2 0)],[(0,.cells 31 (celX i0)),(1,.cells 3 [.int .i64 er.1]),(2,.cells 32 [.int .i64 er.2])],4⟩) { tmps:=a'.tmps,defers:=[] } w'':=hb
    have hq:resK tab Tryz.f10.results.toList (⟨[(2,.ptr 0 0),(3,.ptr 1 0),(4,.ptr 2 0)],[(0,.cells 31 (celX i0)),(1,.cells 3 [.int .i64 er.1]),(2,.cells 32 [.int .i64 er.2])],4⟩) [] [] (fun rs=>rs=parA (.error er)):=by
     conv=>whnf
     rfl
    exact ret_end (C:=cP) (fn:=Tryz.f10) (a':={ tmps:=a'.tmps,defers:=[] }) (cxPOk _ _ _) (Nat.le_of_ble_eq_true rfl) hb' hq
  | _=>exact hq.elim
abbrev zEX:List AV:=[.int .i64 0,.int .i64 0,.int .i64 0,.str [],.nils]
noncomputable abbrev cQ:Cx:=cxP 3 33 [0,2,3,4,5,6,14]
def parseER (s:List UInt8):Except Er Exp:=match lexR s with
 | .error e=>.error e
 | .ok T=>match expP T.length 0 T with
  | .error e=>.error e
  | .ok (x,r)=>if ¬ (hdT r).kind=3 then errP 12 r else if ((lev x:Nat):Int)≤12 then .ok x else errP 6 r
def parEA:Except Er Exp→List AR
 | .ok x=>[.val (encE x),.val (.int .i64 0),.val (.int .i64 0)]
 | .error e=>[.val (encE ex0),.val (.int .i64 e.1),.val (.int .i64 e.2)]
theorem parseE_lex (s:List UInt8) (hs:s.length≤9223372036854775807) {e:Er} (h:lexR s=.error e):APure Tryz.prog 12 [.str s] (fun rs=>rs=parEA (.error e)):=by
 have ho:=open_er s hs h
 have hne:=lexR_er h
 refine aW (cxOk 33 [0,2,3,4,5,6,14]) Tryz.func12 ?_
 conv=>whnf
 refine cR (ho) [] ?_
 conv=>whnf
 rw [decide_eq_false hne]
 refine gT ?_
 conv=>whnf
 refine .eff ae0 ?_
 conv=>whnf
 refine ⟨by kernel_rfl,?_⟩
 conv=>whnf
 conv=>whnf
 refine ⟨⟨[(2,.ptr 0 0),(3,.ptr 1 0),(4,.ptr 2 0)],[(0,.cells 26 (cellsE ex0)),(1,.cells 3 [.int .i64 e.1]),(2,.cells 32 [.int .i64 e.2])],3⟩,(wk_of [(0,.id 0),(1,.id 1),(2,.id 2)] rfl ⟨wc0,wc0,wc0,trivial⟩ ⟨wd0,wb0,wb0,trivial⟩),?_⟩
 conv=>whnf
 rfl
theorem parseE_go (s:List UInt8) (hs:s.length≤9223372036854775807) {T:List Tok} (h:lexR s=.ok T):APure Tryz.prog 12 [.str s] (fun rs=>rs=parEA (parseER s)):=by
 have ho:=open_ok s hs h
 have hp:=lexR_ok h
 have hfit:∀ {F:Fr},F.pin=(fun _=>none)→F.fits 3:=fun {F} e i v hv=>by rw [e] at hv;cases hv
 refine apure_d (C:=cQ) Tryz.func12 rfl dd0 rfl (by exact Nat.le_of_ble_eq_true rfl) ?_
 intro S w a hrel
 have hstart:=hrel
 refine wp_seq_ev (cxPOk _ _ _) (C:=cQ) (hfit rfl) (st1:=⟨[(0,.str s),(2,.ptr 0 0),(3,.ptr 1 0),(4,.ptr 2 0)],[(0,.cells 26 zEX),(1,.cells 3 [.int .i64 0]),(2,.cells 32 [.int .i64 0])],3⟩) (Rr:=fun _=>False) ?_ (fun _ h=>h) ?_ (fun _ _ _ _ h=>h.elim) a w hrel
 ·conv=>whnf
  exact (wk_of [(0,.id 0),(1,.id 1),(2,.id 2)] rfl ⟨wa0,wc0,wc0,wc0,trivial⟩ ⟨wb0,wb0,wb0,trivial⟩)
 intro a w1 hrel
 refine wp_seq_ev (cxPOk _ _ _) (C:=cQ) (hfit rfl) (st1:=⟨[(2,.ptr 0 0),(3,.ptr 1 0),(4,.ptr 2 0),(5,.ptr 3 0)],[(0,.cells 26 zEX),(1,.cells 3 [.int .i64 0]),(2,.cells 32 [.int .i64 0]),(3,.cells 118 (pcell T T))],4⟩) (Rr:=fun _=>False) ?_ (fun _ h=>h) ?_ (fun _ _ _ _ h=>h.elim) a w1 hrel
 ·conv=>whnf
  refine cR (ho) [] ?_
  conv=>whnf
  exact (wk_of [(0,.id 0),(1,.id 1),(2,.id 2),(3,.id 3)] rfl ⟨wc0,wc0,wc0,wc0,trivial⟩ ⟨wb0,wb0,wb0,wb0,trivial⟩)
 intro a w1 hrel
 refine wp_seq_ev (cxPOk _ _ _) (C:=cQ) (hfit rfl) (st1:=⟨[(2,.ptr 0 0),(3,.ptr 1 0),(4,.ptr 2 0),(5,.ptr 3 0)],[(0,.cells 26 zEX),(1,.cells 3 [.int .i64 0]),(2,.cells 32 [.int .i64 0]),(3,.cells 118 (pcell T T))],4⟩) (Rr:=fun _=>False) ?_ (fun _ h=>h) ?_ (fun _ _ _ _ h=>h.elim) a w1 hrel
 ·conv=>whnf
  refine gF ?_
  conv=>whnf
  exact (wk_of [(0,.id 0),(1,.id 1),(2,.id 2),(3,.id 3)] rfl ⟨wc0,wc0,wc0,wc0,trivial⟩ ⟨wb0,wb0,wb0,wb0,trivial⟩)
 intro a w1 hrel
 obtain ⟨m,S1,hc,hsz,hds,hr⟩:=hrel
 have hsz33:a.tmps.size=33:=hsz
 have p2:RelV m S1 w1 (a.tmps.getD 2 undef) (.ptr 0 0):=hr 2
 have p3:RelV m S1 w1 (a.tmps.getD 3 undef) (.ptr 1 0):=hr 3
 have p4:RelV m S1 w1 (a.tmps.getD 4 undef) (.ptr 2 0):=hr 4
 have hR0:Rel (Fr.inner ⟨w,fun _=>False,S,fun _=>none,[]⟩ m 3) 33 (⟨[(2,.ptr 0 0),(3,.ptr 1 0),(4,.ptr 2 0),(5,.ptr 3 0)],[(0,.cells 26 zEX),(1,.cells 3 [.int .i64 0]),(2,.cells 32 [.int .i64 0]),(3,.cells 118 (pcell T T))],4⟩) a w1:=⟨m,S1,core_inner hc 3,hsz,hds,hr⟩
 have hlt18:18<a.tmps.size:=by omega
 refine wp_seq (wp_defer (t:=18) (g:=44) rfl rfl rfl rfl rfl rfl hlt18 ?_)
 have hR1:=rel_defer (t:=18) (v:=.func (.func 44) #[] (#[Operand.tmp 3,Operand.tmp 4,Operand.tmp 2].map a.eval)) (d:={ target:=.fn (.func 44) (#[Operand.tmp 3,Operand.tmp 4,Operand.tmp 2].map a.eval),args:=#[] }) hR0 rfl
 have hcap:#[Operand.tmp 3,Operand.tmp 4,Operand.tmp 2].map a.eval=#[a.tmps.getD 3 undef,a.tmps.getD 4 undef,a.tmps.getD 2 undef]:=by
  rw [List.map_toArray]
  rfl
 obtain ⟨m0,S0,hc0,_,_,_⟩:=hstart
 have hS0:∀ g,S g→g<w.heap.size:=fun g hg=>(hc0.good.ro g (hc0.ro0 g hg)).1
 have hT0:TabAt S w:=fun g Q hg=>by
  obtain ⟨h1,h2⟩:=hc0.good.tab g Q hg
  rcases hc0.ro g h1 with h3 | h3 | h3
  ·exact ⟨h3,h2⟩
  ·exact h3.elim
  ·have h3:w.heap.size≤g:=h3
   have:=(hc0.good.ro g h1).1
   omega
 have ca:=core_aside hc [0,1,2] []
 have hA:Rel (Fr.aside S1 w1 m (deads [0,1,2] (⟨[(2,.ptr 0 0),(3,.ptr 1 0),(4,.ptr 2 0),(5,.ptr 3 0)],[(0,.cells 26 zEX),(1,.cells 3 [.int .i64 0]),(2,.cells 32 [.int .i64 0]),(3,.cells 118 (pcell T T))],4⟩:St).heap) []) 33 ⟨[(5,.ptr 3 0)],deads [0,1,2] (⟨[(2,.ptr 0 0),(3,.ptr 1 0),(4,.ptr 2 0),(5,.ptr 3 0)],[(0,.cells 26 zEX),(1,.cells 3 [.int .i64 0]),(2,.cells 32 [.int .i64 0]),(3,.cells 118 (pcell T T))],4⟩:St).heap,4⟩ a w1:=⟨m,S1,ca,hsz33,hds,fun s=>(by
  by_cases e5:s=5
  ·subst e5;exact hr 5
  ·have:lk [(5,AV.ptr 3 0)] s=.undef:=by
    unfold lk
    rw [show Nat.beq 5 s=false from by
     cases hb:Nat.beq 5 s with
     | false=>rfl
     | true=>exact (e5 (Nat.eq_of_beq_eq_true hb).symm).elim]
    rfl
   show RelV m S1 w1 _ (lk [(5,AV.ptr 3 0)] s)
   rw [this]
   exact .t _ _ (.undef _))⟩
 have hB:=rel_defer (t:=18) (v:=.func (.func 44) #[] (#[Operand.tmp 3,Operand.tmp 4,Operand.tmp 2].map a.eval)) (d:={ target:=.fn (.func 44) (#[Operand.tmp 3,Operand.tmp 4,Operand.tmp 2].map a.eval),args:=#[] }) hA rfl
 have fin:∀ (er:Er) (a':Act) (w':World),parseER s=.error er→Kept [2,3,4] a a'→a'.tmps.size=33→a'.defers=[{ target:=.fn (.func 44) (#[Operand.tmp 3,Operand.tmp 4,Operand.tmp 2].map a.eval),args:=#[] }]→Far (own m (deads [0,1,2] (⟨[(2,.ptr 0 0),(3,.ptr 1 0),(4,.ptr 2 0),(5,.ptr 3 0)],[(0,.cells 26 zEX),(1,.cells 3 [.int .i64 0]),(2,.cells 32 [.int .i64 0]),(3,.cells 118 (pcell T T))],4⟩:St).heap)) w1 w'→Leaves Tryz.prog Tryz.f12 a'.tmps (PureEnd S w fun rs=>rs=parEA (parseER s)) a'.defers (.panicking (stopC er)) w':=by
  intro er a' w' hs hK hsz2 hd2 hfar
  rw [hs]
  have hk2:=hK 2 (by decide)
  have hk3:=hK 3 (by decide)
  have hk4:=hK 4 (by decide)
  have hkeep:=core_keep (F:=Fr.mk w (fun _=>False) S (fun _=>none) []) (fun _ h=>h) hT0 hS0 hc (K:=[0,1,2]) (H3:=(⟨[(0,.ptr 1 0),(1,.ptr 2 0),(2,.ptr 0 0)],[(0,.cells 26 zEX),(1,.cells 3 [.int .i64 0]),(2,.cells 32 [.int .i64 0])],4⟩:St).heap) (fun id=>(by
   match id with
   | 0=>rfl
   | 1=>rfl
   | 2=>rfl
   | n+3 =>
    rw [if_neg (by simp)]
    rfl)) (fun id hid=>(by
   simp only [List.mem_cons,List.not_mem_nil,or_false] at hid
   rcases hid with rfl | rfl | rfl
   ·exact ⟨_,_,rfl,by decide⟩
   ·exact ⟨_,_,rfl,by decide⟩
   ·exact ⟨_,_,rfl,by decide⟩)) hfar 3
  show Leaves Tryz.prog Tryz.f12 a'.tmps _ a'.defers (.panicking (stopC er)) w'
  rw [hd2]
  refine leaves_cons (u:=.panicking (stopC er)) (fun h=>by cases h) (f:=44) (args:=#[a.tmps.getD 3 undef,a.tmps.getD 4 undef,a.tmps.getD 2 undef]) ?_ ?_
  ·rw [hcap]
   simp [invoke]
  refine (closure_runs (C:=cxP 3 6 [0,1,2,4]) (cxPOk _ _ _) Tryz.func44 rfl rfl rfl (t:=3) rfl rfl rfl dd0 (F:=Fr.inner (Fr.mk w (fun _=>False) S (fun _=>none) []) m 3) (Fr.inner_fits _ _ _) rfl (env:=(⟨[(0,.ptr 1 0),(1,.ptr 2 0),(2,.ptr 0 0)],[(0,.cells 26 zEX),(1,.cells 3 [.int .i64 0]),(2,.cells 32 [.int .i64 0])],4⟩:St).env) (H:=(⟨[(0,.ptr 1 0),(1,.ptr 2 0),(2,.ptr 0 0)],[(0,.cells 26 zEX),(1,.cells 3 [.int .i64 0]),(2,.cells 32 [.int .i64 0])],4⟩:St).heap) (nx:=4) (rv:=.ival 120 [.int .i64 er.1,.int .i64 er.2]) (stE:=⟨[(2,.ptr 0 0)],[(0,.cells 26 (cellsE ex0)),(1,.cells 3 [.int .i64 er.1]),(2,.cells 32 [.int .i64 er.2])],4⟩) (fun _ h=>h) ?_ hkeep (Nat.le_of_ble_eq_true rfl) (caps3 (ptr_move p3 (fun _ h=>h)) (ptr_move p4 (fun _ h=>h)) (ptr_move p2 (fun _ h=>h))) (u:=.panicking (stopC er)) (u':=.panicking [{ v:=.iface 120 (.agg #[.int .i64 er.1,.int .i64 er.2]),recovered:=true }]) (v:=.iface 120 (.agg #[.int .i64 er.1,.int .i64 er.2])) ?_ ?_).mono ?_
  ·conv=>whnf
   refine cR ((caught_er er.1 er.2 0 0)) [1,2] ?_
   conv=>whnf
   refine gT ?_
   conv=>whnf
   exact (wk_of [(0,.id 0),(1,.id 1),(2,.id 2)] rfl ⟨wc0,trivial⟩ ⟨wd0,wb0,wb0,trivial⟩)
  ·refine .t _ _ (.ival 120 _ _ rfl fun j c a hj ha=>?_)
   match j with
   | 0=>cases hj;cases ha;exact .int _ _
   | 1=>cases hj;cases ha;exact .int _ _
   | n+2=>simp at ha
  ·intro c₀ cs hu
   simp [recoverD,hu,stopC]
  ·rintro e u' w'' ⟨⟨r,rfl⟩,rfl,a'',hE⟩
   have hb:=rel_back (m:=m) (S:=S) (w:=w') (a:=a') (l:=[(2,0),(3,1),(4,2)]) (by decide) hsz2 (fun s=>(by
    match s with
    | 0=>exact .t _ _ (.undef _)
    | 1=>exact .t _ _ (.undef _)
    | 2=>rw [hk2];exact ptr_move p2 (fun _ h=>h)
    | 3=>rw [hk3];exact ptr_move p3 (fun _ h=>h)
    | 4=>rw [hk4];exact ptr_move p4 (fun _ h=>h)
    | n+5=>exact .t _ _ (.undef _))) hE
   have hb':Rel (Fr.mk w (fun _=>False) S (fun i=>if i<3 then m i else none) []) 33 (⟨[(2,.ptr 0 0),(3,.ptr 1 0),(4,.ptr 2 0)],[(0,.cells 26 (cellsE ex0)),(1,.cells 3 [.int .i64 er.1]),(2,.cells 32 [.int .i64 er.2])],4⟩) { tmps:=a'.tmps,defers:=[] } w'':=hb
   have hq:resK tab Tryz.f12.results.toList (⟨[(2,.ptr 0 0),(3,.ptr 1 0),(4,.ptr 2 0)],[(0,.cells 26 (cellsE ex0)),(1,.cells 3 [.int .i64 er.1]),(2,.cells 32 [.int .i64 er.2])],4⟩) [] [] (fun rs=>rs=parEA (.error er)):=by
    conv=>whnf
    rfl
   exact ret_end (C:=cQ) (fn:=Tryz.f12) (a':={ tmps:=a'.tmps,defers:=[] }) (cxPOk _ _ _) (Nat.le_of_ble_eq_true rfl) hb' hq
 have hex:=expP_x T T.length 0 T (by omega) (by omega) hp (Nat.le_refl _)
 have keep0:∀ {v:Value} {dd:List Deferred},Kept [2,3,4] a { tmps:=a.tmps.setIfInBounds 18 v,defers:=dd }:=by
  intro v dd i hi
  show (a.tmps.setIfInBounds 18 v).getD i undef=_
  rw [getD_set hlt18]
  simp only [List.mem_cons,List.not_mem_nil,or_false] at hi
  rcases hi with rfl | rfl | rfl<;>rfl
 cases hi:expP T.length 0 T with
 | error er =>
  have hs:parseER s=.error er:=by unfold parseER;rw [h];simp only [hi]
  refine wp_seq (wp_mono (region_kept (C:=cxX (fun ch=>ch=stopC er) 0 33 [0,2,3,4,5,6,14]) tabOk (Q:=fun _=>False) ?_ (L:=[2,3,4]) dd0 hB) ?_)
  ·conv=>whnf
   exact CallG.stop rfl (riox_stop ((rx_er hex hi)) [3] rfl rfl rfl ac0) ((fun ch hc=>hc))
  rintro e a' w' ⟨⟨st',hR,hq'⟩,hK⟩
  cases e with
  | panic ch =>
   have hq':ch=stopC er:=hq'
   subst hq'
   obtain ⟨m2,S2,hc2,hsz2,hd2,_⟩:=hR
   exact fin er a' w' hs (Kept.trans keep0 hK) hsz2 hd2 hc2.far
  | _=>exact hq'.elim
 | ok v =>
  obtain ⟨x,r⟩:=v
  have hq:=hp.to (expP_suf _ _ _ _ _ hi)
  obtain ⟨hw,hl⟩:=expP_made T _ _ _ _ _ hp hi
  have hbig:=hp.big
  have hlv:=levels_ok hw (by omega)
  cases hk:decide ((hdT r).kind=3) with
  | false =>
   have hs:parseER s=.error ((hdT r).pos,12):=by unfold parseER;rw [h];simp only [hi,of_decide_eq_false hk,not_false_eq_true,if_true,errP]
   refine wp_seq_kept (C:=cxX (fun ch=>ch=stopC ((hdT r).pos,12)) 0 33 [0,2,3,4,5,6,14]) (cxXOk _ _ _ _) (st1:=⟨[(5,.ptr 0 0),(6,.ptr 1 0)],[(0,.cells 118 (pcell T r)),(1,.cells 26 (cellsE x))],2⟩) (L:=[2,3,4]) dd0 ?_ (fun i v h=>by cases h) hB ?_ ?_
   ·conv=>whnf
    refine cR ((rx_ok hex hi)) [3] ?_
    conv=>whnf
    exact (wk_of [(0,.id 3),(1,.id 5)] rfl ⟨wc0,wc0,trivial⟩ ⟨wb0,wb0,trivial⟩)
   rotate_left
   ·intro ch a' w' st' hR hx hK
    have hx:ch=stopC ((hdT r).pos,12):=hx
    subst hx
    obtain ⟨m2,S2,hc2,hsz2,hd2,_⟩:=hR
    exact fin ((hdT r).pos,12) a' w' hs (Kept.trans keep0 hK) hsz2 hd2 hc2.far
   intro a2 w2 h2 hK2
   refine wp_seq (wp_mono (region_kept (C:=cxX (fun ch=>ch=stopC ((hdT r).pos,12)) 0 33 [0,2,3,4,5,6,14]) tabOk (Q:=fun _=>False) ?_ (L:=[2,3,4]) dd0 h2) ?_)
   ·conv=>whnf
    refine cO (fun _=>(next_ok hq)) ?_
    conv=>whnf
    rw [hk]
    exact CallG.stop rfl (riox_stop (chk_f hq 12) [0] rfl rfl rfl ac0) ((fun ch hc=>hc))
   rintro e a' w' ⟨⟨st',hR,hq'⟩,hK⟩
   cases e with
   | panic ch =>
    have hq':ch=stopC ((hdT r).pos,12):=hq'
    subst hq'
    obtain ⟨m2,S2,hc2,hsz2,hd2,_⟩:=hR
    exact fin ((hdT r).pos,12) a' w' hs (Kept.trans (Kept.trans keep0 hK2) hK) hsz2 hd2 hc2.far
   | _=>exact hq'.elim
  | true =>
   cases h12:decide (((lev x:Nat):Int)≤12) with
   | false =>
    have hs:parseER s=.error ((hdT r).pos,6):=by unfold parseER;rw [h];simp only [hi,of_decide_eq_true hk,not_true_eq_false,if_false,of_decide_eq_false h12,errP]
    refine wp_seq_kept (C:=cxX (fun ch=>ch=stopC ((hdT r).pos,6)) 0 33 [0,2,3,4,5,6,14]) (cxXOk _ _ _ _) (st1:=⟨[(5,.ptr 0 0),(6,.ptr 1 0)],[(0,.cells 118 (pcell T r)),(1,.cells 26 (cellsE x))],2⟩) (L:=[2,3,4]) dd0 ?_ (fun i v h=>by cases h) hB ?_ ?_
    ·conv=>whnf
     refine cR ((rx_ok hex hi)) [3] ?_
     conv=>whnf
     exact (wk_of [(0,.id 3),(1,.id 5)] rfl ⟨wc0,wc0,trivial⟩ ⟨wb0,wb0,trivial⟩)
    rotate_left
    ·intro ch a' w' st' hR hx hK
     have hx:ch=stopC ((hdT r).pos,6):=hx
     subst hx
     obtain ⟨m2,S2,hc2,hsz2,hd2,_⟩:=hR
     exact fin ((hdT r).pos,6) a' w' hs (Kept.trans keep0 hK) hsz2 hd2 hc2.far
    intro a2 w2 h2 hK2
    refine wp_seq_kept (C:=cxX (fun ch=>ch=stopC ((hdT r).pos,6)) 0 33 [0,2,3,4,5,6,14]) (cxXOk _ _ _ _) (st1:=⟨[(5,.ptr 0 0),(6,.ptr 1 0)],[(0,.cells 118 (pcell T r)),(1,.cells 26 (cellsE x))],2⟩) (L:=[2,3,4]) dd0 ?_ (fun i v h=>by cases h) h2 ?_ ?_
    ·conv=>whnf
     refine cO (fun _=>(next_ok hq)) ?_
     conv=>whnf
     rw [hk]
     refine cR ((chk_t hq 12)) [0] ?_
     conv=>whnf
     exact (wk_of [(0,.id 0),(1,.id 1)] rfl ⟨wc0,wc0,trivial⟩ ⟨wb0,wb0,trivial⟩)
    rotate_left
    ·intro ch a' w' st' hR hx hK
     have hx:ch=stopC ((hdT r).pos,6):=hx
     subst hx
     obtain ⟨m2,S2,hc2,hsz2,hd2,_⟩:=hR
     exact fin ((hdT r).pos,6) a' w' hs (Kept.trans (Kept.trans keep0 hK2) hK) hsz2 hd2 hc2.far
    intro a3 w3 h3 hK3
    refine wp_seq (wp_mono (region_kept (C:=cxX (fun ch=>ch=stopC ((hdT r).pos,6)) 0 33 [0,2,3,4,5,6,14]) tabOk (Q:=fun _=>False) ?_ (L:=[2,3,4]) dd0 h3) ?_)
    ·conv=>whnf
     refine cO (fun _=>hlv) ?_
     conv=>whnf
     rw [h12]
     exact CallG.stop rfl (riox_stop (chk_f hq 6) [0] rfl rfl rfl ac0) ((fun ch hc=>hc))
    rintro e a' w' ⟨⟨st',hR,hq'⟩,hK⟩
    cases e with
    | panic ch =>
     have hq':ch=stopC ((hdT r).pos,6):=hq'
     subst hq'
     obtain ⟨m2,S2,hc2,hsz2,hd2,_⟩:=hR
     exact fin ((hdT r).pos,6) a' w' hs (Kept.trans (Kept.trans (Kept.trans keep0 hK2) hK3) hK) hsz2 hd2 hc2.far
    | _=>exact hq'.elim
   | true =>
    have hs:parseER s=.ok x:=by unfold parseER;rw [h];simp only [hi,of_decide_eq_true hk,not_true_eq_false,if_false,of_decide_eq_true h12,if_true]
    rw [hs]
    have hfit3:=Fr.inner_fits ⟨w,fun _=>False,S,fun _=>none,[]⟩ m 3
    refine wp_mono (evCode_sound (C:=cQ) (cxPOk _ _ _) (F:=⟨w,fun _=>False,S,(Fr.inner ⟨w,fun _=>False,S,fun _=>none,[]⟩ m 3).pin,[_]⟩) hfit3 _ _ (fun e st'=>match e with
     | .ret=>Wk 3 33 st' (⟨[(2,.ptr 0 0),(3,.ptr 1 0),(4,.ptr 2 0)],[(0,.cells 26 (cellsE x)),(1,.cells 3 [.int .i64 0]),(2,.cells 32 [.int .i64 0])],3⟩)
     | _=>False) ?_ _ _ hR1) ?_
    ·conv=>whnf
     refine cR ((rx_ok hex hi)) [3] ?_
     conv=>whnf
     refine cO (fun _=>(next_ok hq)) ?_
     conv=>whnf
     rw [hk]
     refine cR ((chk_t hq 12)) [3] ?_
     conv=>whnf
     refine cO (fun _=>hlv) ?_
     conv=>whnf
     rw [h12]
     refine cR ((chk_t hq 6)) [3] ?_
     conv=>whnf
     exact (wk_of [(0,.id 0),(1,.id 1),(2,.id 2)] rfl ⟨wc0,wc0,wc0,trivial⟩ ⟨wb0,wb0,wb0,trivial⟩)
    rintro e a' w' ⟨st',h1,h2⟩
    have h2:=orP_off (fun _ h=>h) h2
    cases e with
    | ret =>
     obtain ⟨m',S',hc',hsz',hd',hr'⟩:=h2 ⟨w,fun _=>False,S,(Fr.inner ⟨w,fun _=>False,S,fun _=>none,[]⟩ m 3).pin,[_]⟩ a' w' hfit3 h1
     have hmm:∀ i,i<3→∀ u,m i=some u→m' i=some u:=fun i hi u hu=>hc'.pins i u (by show (if i<3 then m i else none)=some u;rw [if_pos hi,hu])
     show Leaves Tryz.prog Tryz.f12 a'.tmps _ a'.defers .returning w'
     rw [hd']
     refine leaves_cons (u:=.returning) (fun h=>by cases h) (f:=44) (args:=#[a.tmps.getD 3 undef,a.tmps.getD 4 undef,a.tmps.getD 2 undef]) ?_ ?_
     ·rw [hcap]
      simp [invoke]
     have hc0:Core (Fr.mk w (fun _=>False) S (fun _=>none) []) m' S' w' (⟨[(2,.ptr 0 0),(3,.ptr 1 0),(4,.ptr 2 0)],[(0,.cells 26 (cellsE x)),(1,.cells 3 [.int .i64 0]),(2,.cells 32 [.int .i64 0])],3⟩:St).heap 3:=⟨hc'.good,hc'.free,hc'.far,hc'.owns,hc'.ro,hc'.ro0,fun i v (h:none=some v)=>nomatch h⟩
     refine (closure_runs (C:=cxP 3 6 [0,1,2,4]) (cxPOk _ _ _) Tryz.func44 rfl rfl rfl (t:=3) rfl rfl rfl dd0 (F:=Fr.inner (Fr.mk w (fun _=>False) S (fun _=>none) []) m' 3) (Fr.inner_fits _ _ _) rfl (env:=(⟨[(0,.ptr 1 0),(1,.ptr 2 0),(2,.ptr 0 0)],[(0,.cells 26 (cellsE x)),(1,.cells 3 [.int .i64 0]),(2,.cells 32 [.int .i64 0])],3⟩:St).env) (H:=(⟨[(0,.ptr 1 0),(1,.ptr 2 0),(2,.ptr 0 0)],[(0,.cells 26 (cellsE x)),(1,.cells 3 [.int .i64 0]),(2,.cells 32 [.int .i64 0])],3⟩:St).heap) (nx:=3) (rv:=.ifc true) (stE:=⟨[(2,.ptr 0 0)],[(0,.cells 26 (cellsE x)),(1,.cells 3 [.int .i64 0]),(2,.cells 32 [.int .i64 0])],3⟩) (fun _ h=>h) ?_ (core_inner hc0 3) (Nat.le_of_ble_eq_true rfl) (caps3 (ptr_move p3 (hmm 1 om0)) (ptr_move p4 (hmm 2 om0)) (ptr_move p2 (hmm 0 om0))) (u:=.returning) (u':=.returning) (v:=.nilIface) ?_ ?_).mono ?_
     ·conv=>whnf
      refine cR ((caught_ok 0 0)) [1,2] ?_
      conv=>whnf
      refine gF ?_
      conv=>whnf
      exact (wk_of [(0,.id 0),(1,.id 1),(2,.id 2)] rfl ⟨wc0,trivial⟩ ⟨wb0,wb0,wb0,trivial⟩)
     ·exact .t _ _ (by constructor<;>rfl)
     ·intro c₀ cs hu
      simp [recoverD,hu]
     ·rintro e u' w'' ⟨⟨r,rfl⟩,rfl,a'',hE⟩
      have hb:=rel_back (l:=[(2,0),(3,1),(4,2)]) (by decide) hsz' hr' hE
      have hb':Rel (Fr.mk w (fun _=>False) S (fun i=>if i<3 then m' i else none) []) 33 (⟨[(2,.ptr 0 0),(3,.ptr 1 0),(4,.ptr 2 0)],[(0,.cells 26 (cellsE x)),(1,.cells 3 [.int .i64 0]),(2,.cells 32 [.int .i64 0])],3⟩) { tmps:=a'.tmps,defers:=[] } w'':=hb
      have hq:resK tab Tryz.f12.results.toList (⟨[(2,.ptr 0 0),(3,.ptr 1 0),(4,.ptr 2 0)],[(0,.cells 26 (cellsE x)),(1,.cells 3 [.int .i64 0]),(2,.cells 32 [.int .i64 0])],3⟩) [] [] (fun rs=>rs=parEA (.ok x)):=by
       conv=>whnf
       rfl
      exact ret_end (C:=cQ) (fn:=Tryz.f12) (a':={ tmps:=a'.tmps,defers:=[] }) (cxPOk _ _ _) (Nat.le_of_ble_eq_true rfl) hb' hq
    | _=>exact h2.elim
def txs (l:List Tok):List (List UInt8):=(l.filter fun t=>decide (t.kind≠3)).map Tok.text
abbrev sgL:List UInt8:=[59,44,61,60,43,45,42,47,40,41]
def signN (s:List UInt8) (p:Nat):Int :=
 if p+1<s.length∧(s.getD (p+1) 0).toNat=61∧(s.getD p 0).toNat=61 then 2
 else if s.getD p 0∈sgL then 1 else 0
def digsB (s:List UInt8):Prop:=∀ k,k<s.length→digB ((s.getD k 0).toNat:Int)=true
theorem span_all {s:List UInt8}:spanN digB s=s.length↔digsB s:=by
 constructor
 ·intro h k hk
  exact spanN_lt (by rw [h];exact hk)
 ·intro h
  apply Classical.byContradiction
  intro hne
  have hlt:spanN digB s<s.length:=by have:=spanN_le digB s;omega
  have:=spanN_at hlt
  rw [h _ hlt] at this
  cases this
instance (s:List UInt8):Decidable (digsB s):=decidable_of_iff _ span_all
def tokA (p:Nat):Except Int Tok→List AR
 | .ok t=>[.val (encTk ⟨t.kind,t.text,t.n,(p:Nat)⟩),.val (.int .i64 0)]
 | .error e=>[.val (encTk t0),.val (.int .i64 e)]
structure Sr where
 r:List Tok
 er:Option Er
def nextS (s:Sr):Tok:=match s.er with
 | none=>hdT s.r
 | some _=>t0
def failS (e:Int) (s:Sr):Sr:=match s.er with
 | none=>⟨s.r,some ((hdT s.r).pos,e)⟩
 | some _=>s
def isS (w:List UInt8) (s:Sr):Bool:=decide ((nextS s).kind≠3)&&decide ((nextS s).text=w)
def advS (s:Sr):Sr:=⟨s.r.tail,s.er⟩
def hasS (w:List UInt8) (s:Sr):Sr:=if isS w s=true then advS s else s
def wantS (w:List UInt8) (s:Sr):Sr:=if isS w s=true then advS s else failS 12 s
def namedS (s:Sr):Bool:=decide ((nextS s).kind=0)&&nameB (nextS s).text
def nameS (s:Sr):List UInt8×Sr:=if namedS s=true then ((nextS s).text,advS s) else ([],failS 12 s)
def numS (a b:Int) (s:Sr):Int×Sr :=
 if (nextS s).kind≠1 then (0,failS 12 s) else if a≤(nextS s).n∧(nextS s).n≤b then ((nextS s).n,advS s) else (0,failS 3 s)
abbrev Req:=Int→Sr→Exp×Sr
def unitS (s:Sr):Int×Sr :=
 if isS [99,111,105,110,115] s=true then (1,advS s)
 else if isS [100,97,121,115] s=true then (3,advS s)
 else if isS [109,105,108,108,101] s=true then (2,advS s)
 else (0,s)
def withinS (ex:Req) (op:Int) (s:Sr):Exp×Sr :=
 (.mk op (numS 1 1000 s).1 0 [] [(ex 0 (wantS [40] (numS 1 1000 s).2)).1],wantS [41] (ex 0 (wantS [40] (numS 1 1000 s).2)).2)
def namedE (op:Int) (s:Sr):Exp×Sr:=(.mk op 0 0 (nameS s).1 [],(nameS s).2)
def pairS (ex:Req) (op:Int) (s:Sr):Exp×Sr :=
 (.mk op 0 0 [] [(ex 0 (wantS [40] s)).1,(ex 0 (wantS [44] (ex 0 (wantS [40] s)).2)).1],wantS [41] (ex 0 (wantS [44] (ex 0 (wantS [40] s)).2)).2)
def parenS (ex:Req) (s:Sr):Exp×Sr:=((ex 0 s).1,wantS [41] (ex 0 s).2)
def primS (ex:Req) (s:Sr):Exp×Sr :=
 if (nextS s).kind=1 then (.mk 0 (nextS s).n (unitS (advS s)).1 [] [],(unitS (advS s)).2)
 else if isS [116,114,117,101] s=true then (.mk 0 1 4 [] [],advS s)
 else if isS [102,97,108,115,101] s=true then (.mk 0 0 4 [] [],advS s)
 else if isS [102,97,99,116] s=true then namedE 2 (advS s)
 else if isS [114,97,116,101] s=true then namedE 3 (advS s)
 else if isS [101,118,101,114] s=true then withinS ex 16 (advS s)
 else if isS [108,111,110,103] s=true then withinS ex 17 (advS s)
 else if isS [115,111,111,110] s=true then withinS ex 18 (advS s)
 else if isS [109,105,110] s=true then pairS ex 8 (advS s)
 else if isS [109,97,120] s=true then pairS ex 9 (advS s)
 else if isS [40] s=true then parenS ex (advS s)
 else namedE 1 s
def symT (t:Tok):Int×Int :=
 if t.kind=3 then (-1,0)
 else if t.text=[111,114] then (14,1)
 else if t.text=[97,110,100] then (13,2)
 else if t.text=[61,61] then (11,4)
 else if t.text=[60] then (10,4)
 else if t.text=[43] then (4,5)
 else if t.text=[45] then (5,5)
 else if t.text=[42] then (6,6)
 else if t.text=[47] then (7,6)
 else (-1,0)
def loopS (ex:Req) (form:Int):Nat→Exp→Sr→Exp×Sr
 | 0,e,s=>(e,s)
 | f+1,e,s =>
  if (symT (nextS s)).1<0∨(symT (nextS s)).2≠form then (e,s)
  else if form=4 then (.mk (symT (nextS s)).1 0 0 [] [e,(ex (form+1) (advS s)).1],(ex (form+1) (advS s)).2)
  else loopS ex form f (.mk (symT (nextS s)).1 0 0 [] [e,(ex (form+1) (advS s)).1]) (ex (form+1) (advS s)).2
def ifS (ex:Req) (s:Sr):Exp×Sr :=
 (.mk 15 0 0 [] [(ex 0 s).1,(ex 0 (wantS [116,104,101,110] (ex 0 s).2)).1,(ex 0 (wantS [101,108,115,101] (ex 0 (wantS [116,104,101,110] (ex 0 s).2)).2)).1],
  (ex 0 (wantS [101,108,115,101] (ex 0 (wantS [116,104,101,110] (ex 0 s).2)).2)).2)
def notS (ex:Req) (s:Sr):Exp×Sr:=(.mk 12 0 0 [] [(ex 3 s).1],(ex 3 s).2)
def expT (ex:Req) (form:Int) (s:Sr):Exp×Sr :=
 if s.er.isSome=true then (ex0,s)
 else if form=0∧isS [105,102] s=true then ifS ex (advS s)
 else if form=0 then ex 1 s
 else if form=3∧isS [110,111,116] s=true then notS ex (advS s)
 else if form=7 then primS ex s
 else if form=3 then ex 4 s
 else loopS ex form (ex (form+1) s).2.r.length (ex (form+1) s).1 (ex (form+1) s).2
def expQ:Nat→Req
 | 0,_,s=>(ex0,s)
 | f+1,form,s=>expT (expQ f) form s
def okE (s:Sr):Prop:=∀ e,s.er=some e→e.2≠0
structure SS (s s':Sr):Prop where
 suf:Suf s.r s'.r
 ok:okE s→okE s'
 keep:∀ e,s.er=some e→s'.er=some e
theorem SS.bad {s s':Sr} (h:SS s s') (hs:s.er.isSome=true):s'.er.isSome=true:=by
 obtain ⟨e,he⟩:=Option.isSome_iff_exists.1 hs
 rw [h.keep e he];rfl
theorem SS.refl (s:Sr):SS s s:=⟨.refl _,id,fun _=>id⟩
theorem SS.trans {a b c:Sr} (h:SS a b) (h':SS b c):SS a c:=⟨h.suf.trans h'.suf,fun x=>h'.ok (h.ok x),fun e x=>h'.keep e (h.keep e x)⟩
structure SSt (T:List Tok) (s:Sr):Prop where
 st:PSt T s.r
 ok:okE s
 e3:∀ t∈T,t.kind=3→t.text=[]
theorem SSt.to {T:List Tok} {s s':Sr} (h:SSt T s) (hs:SS s s'):SSt T s':=⟨h.st.to hs.suf,hs.ok h.ok,h.e3⟩
theorem fail_ss (e:Int) (he:e≠0) (s:Sr):SS s (failS e s):=by
 rcases s with ⟨r,_ | x⟩
 ·exact ⟨.refl _,fun _ y hy=>by cases hy;exact he,fun _ h=>by cases h⟩
 ·exact .refl _
theorem adv_ss {s:Sr} (h:(nextS s).kind≠3) (h0:s.er=none):SS s (advS s):=by
 rcases s with ⟨r,_ | x⟩
 ·exact ⟨.tail h,(fun _ y hy=>by cases hy),(fun _ h=>by cases h)⟩
 ·cases h0
theorem is_none {w:List UInt8} {s:Sr} (hw:w≠[]) (h:isS w s=true):s.er=none:=by
 rcases s with ⟨r,_ | x⟩
 ·rfl
 ·unfold isS at h
  simp only [Bool.and_eq_true,decide_eq_true_eq] at h
  exact absurd h.2.symm hw
theorem is_kind {w:List UInt8} {s:Sr} (h:isS w s=true):(nextS s).kind≠3:=by
 unfold isS at h
 simp only [Bool.and_eq_true,decide_eq_true_eq] at h
 exact h.1
theorem is_ss {w:List UInt8} {s:Sr} (hw:w≠[]) (h:isS w s=true):SS s (advS s):=adv_ss (is_kind h) (is_none hw h)
theorem want_ss (w:List UInt8) (hw:w≠[]) (s:Sr):SS s (wantS w s):=by
 unfold wantS
 split
 ·rename_i h;exact is_ss hw h
 ·exact fail_ss _ dd0 _
theorem kind_none {s:Sr} (h:(nextS s).kind=1):s.er=none:=by
 rcases s with ⟨r,_ | x⟩
 ·rfl
 ·exact absurd (show (0:Int)=1 from h) (by decide)
theorem named_none {s:Sr} (h:namedS s=true):s.er=none:=by
 rcases s with ⟨r,_ | x⟩
 ·rfl
 ·unfold namedS at h
  simp only [Bool.and_eq_true] at h
  exact absurd (show nameB []=true from h.2) (by decide)
theorem name_ss (s:Sr):SS s (nameS s).2:=by
 unfold nameS
 split
 ·rename_i h
  refine adv_ss ?_ (named_none h)
  unfold namedS at h
  simp only [Bool.and_eq_true,decide_eq_true_eq] at h
  show (nextS s).kind≠3
  rw [h.1];decide
 ·exact fail_ss _ dd0 _
theorem num_ss (a b:Int) (s:Sr):SS s (numS a b s).2:=by
 unfold numS
 split
 ·exact fail_ss _ dd0 _
 ·rename_i h
  have h:=Decidable.of_not_not h
  split
  ·exact adv_ss (by rw [h];decide) (kind_none h)
  ·exact fail_ss _ dd0 _
def mS (s:Sr):Nat:=if s.er.isSome=true then 0 else s.r.length
theorem SS.le {s s':Sr} (h:SS s s'):mS s'≤mS s:=by
 unfold mS
 cases h1:s.er.isSome with
 | true=>rw [h.bad h1];exact Nat.le_refl _
 | false =>
  split
  ·exact Nat.zero_le _
  ·exact h.suf.le
def ReqS (ex:Req):Prop:=∀ form s,SS s (ex form s).2
theorem unit_ss (s:Sr):SS s (unitS s).2:=by
 unfold unitS
 split
 ·rename_i h;exact is_ss (by decide) h
 split
 ·rename_i h;exact is_ss (by decide) h
 split
 ·rename_i h;exact is_ss (by decide) h
 ·exact .refl _
theorem within_ss {ex:Req} (h:ReqS ex) (op:Int) (s:Sr):SS s (withinS ex op s).2 :=
 (((num_ss 1 1000 s).trans (want_ss [40] (by decide) _)).trans (h _ _)).trans (want_ss [41] (by decide) _)
theorem pair_ss {ex:Req} (h:ReqS ex) (op:Int) (s:Sr):SS s (pairS ex op s).2 :=
 ((((want_ss [40] (by decide) _).trans (h _ _)).trans (want_ss [44] (by decide) _)).trans (h _ _)).trans (want_ss [41] (by decide) _)
theorem paren_ss {ex:Req} (h:ReqS ex) (s:Sr):SS s (parenS ex s).2:=(h _ _).trans (want_ss [41] (by decide) _)
theorem prim_ss {ex:Req} (h:ReqS ex) (s:Sr):SS s (primS ex s).2:=by
 unfold primS
 split
 ·rename_i hk
  exact (adv_ss (by rw [hk];decide) (kind_none hk)).trans (unit_ss _)
 split
 ·rename_i hb;exact is_ss (by decide) hb
 split
 ·rename_i hb;exact is_ss (by decide) hb
 split
 ·rename_i hb;exact (is_ss (by decide) hb).trans (name_ss _)
 split
 ·rename_i hb;exact (is_ss (by decide) hb).trans (name_ss _)
 split
 ·rename_i hb;exact (is_ss (by decide) hb).trans (within_ss h _ _)
 split
 ·rename_i hb;exact (is_ss (by decide) hb).trans (within_ss h _ _)
 split
 ·rename_i hb;exact (is_ss (by decide) hb).trans (within_ss h _ _)
 split
 ·rename_i hb;exact (is_ss (by decide) hb).trans (pair_ss h _ _)
 split
 ·rename_i hb;exact (is_ss (by decide) hb).trans (pair_ss h _ _)
 split
 ·rename_i hb;exact (is_ss (by decide) hb).trans (paren_ss h _)
 ·exact name_ss _
theorem sym_none {s:Sr} (h:¬ (symT (nextS s)).1<0):s.er=none:=by
 rcases s with ⟨r,_ | x⟩
 ·rfl
 ·exact absurd (show (symT t0).1<0 by decide) h
theorem sym_kind {s:Sr} (h:¬ (symT (nextS s)).1<0):(nextS s).kind≠3:=by
 intro hk
 unfold symT at h
 rw [if_pos hk] at h
 exact h dd0
theorem loop_ss {ex:Req} (h:ReqS ex) (form:Int):∀ (f:Nat) (e:Exp) (s:Sr),SS s (loopS ex form f e s).2
 | 0,_,s=>.refl s
 | f+1,e,s=>by
  unfold loopS
  split
  ·exact .refl _
  rename_i hc
  have hc:¬ (symT (nextS s)).1<0:=fun x=>hc (.inl x)
  have h1:SS s (advS s):=adv_ss (sym_kind hc) (sym_none hc)
  split
  ·exact h1.trans (h _ _)
  ·exact (h1.trans (h _ _)).trans (loop_ss h form f _ _)
theorem expT_ss {ex:Req} (h:ReqS ex):ReqS (expT ex):=by
 intro form s
 unfold expT
 split
 ·exact .refl _
 split
 ·rename_i hb
  exact ((((is_ss dd0 hb.2).trans (h _ _)).trans ((want_ss _ dd0 _).trans (h _ _))).trans ((want_ss _ dd0 _))).trans (h _ _)
 split
 ·exact h _ _
 split
 ·rename_i hb
  exact (is_ss dd0 hb.2).trans (h _ _)
 split
 ·exact prim_ss h _
 split
 ·exact h _ _
 ·exact (h _ _).trans (loop_ss h _ _ _ _)
theorem expQ_ss:∀ f:Nat,ReqS (expQ f)
 | 0=>fun _ s=>.refl s
 | f+1=>expT_ss (expQ_ss f)
def needS (form:Int) (s:Sr):Nat:=if s.er.isSome=true then 0 else 9*s.r.length+(8-form).toNat
theorem ite2 {c:Prop} [Decidable c] {α:Type} {a b d e:α} (h1:c→a=b) (h2:¬ c→d=e):(if c then a else d)=(if c then b else e):=by
 by_cases h:c
 ·rw [if_pos h,if_pos h];exact h1 h
 ·rw [if_neg h,if_neg h];exact h2 h
def AgrE (ex ex':Req) (n:Nat):Prop:=∀ form s,0≤form→form≤7→Fin1 s.r→needS form s<n→ex form s=ex' form s
theorem SS.fin {s s':Sr} (h:SS s s') (hf:Fin1 s.r):Fin1 s'.r:=h.suf.2 hf
theorem need_adv {s s':Sr} (hf:Fin1 s.r) (h0:s.er=none) (h:SS (advS s) s') (form form':Int) (h1:0≤form'):needS form' s'<needS form s:=by
 have h2:needS form s=9*s.r.length+(8-form).toNat:=by unfold needS;rw [h0];rfl
 rw [h2]
 have h3:=tail_lt hf
 have h4:s'.r.length≤s.r.tail.length:=h.suf.le
 unfold needS
 split<;>omega
theorem need_up {s:Sr} (h0:s.er=none) {form form':Int} (h:form<form') (h1:form<8):needS form' s<needS form s:=by
 unfold needS
 rw [h0]
 show 9*s.r.length+_<9*s.r.length+_
 omega
theorem er_none {s:Sr} (h:¬ s.er.isSome=true):s.er=none:=by
 cases he:s.er with
 | none=>rfl
 | some x=>exact (h (by rw [he];rfl)).elim
theorem within_congr {ex ex':Req} {n:Nat} (hA:AgrE ex ex' n) (op:Int) {s:Sr} (hf:Fin1 s.r) (hn:∀ s',SS s s'→∀ form,0≤form→needS form s'<n):withinS ex op s=withinS ex' op s:=by
 have h1:=(num_ss 1 1000 s).trans (want_ss [40] (by decide) _)
 unfold withinS
 rw [hA 0 _ (by omega) (by omega) (h1.fin hf) (hn _ h1 0 (by omega))]
theorem pair_congr {ex ex':Req} {n:Nat} (hA:AgrE ex ex' n) (hS:ReqS ex) (op:Int) {s:Sr} (hf:Fin1 s.r) (hn:∀ s',SS s s'→∀ form,0≤form→needS form s'<n):pairS ex op s=pairS ex' op s:=by
 have h1:=want_ss [40] (by decide) s
 have e1:=hA 0 _ (by omega) (by omega) (h1.fin hf) (hn _ h1 0 (by omega))
 have h2:=(h1.trans (hS 0 _)).trans (want_ss [44] (by decide) _)
 have e2:=hA 0 _ (by omega) (by omega) (h2.fin hf) (hn _ h2 0 (by omega))
 unfold pairS
 rw [e2,e1]
theorem paren_congr {ex ex':Req} {n:Nat} (hA:AgrE ex ex' n) {s:Sr} (hf:Fin1 s.r) (hn:∀ s',SS s s'→∀ form,0≤form→needS form s'<n):parenS ex s=parenS ex' s:=by
 unfold parenS
 rw [hA 0 _ (by omega) (by omega) hf (hn _ (.refl _) 0 (by omega))]
theorem prim_congr {ex ex':Req} {n:Nat} (hA:AgrE ex ex' n) (hS:ReqS ex) {s:Sr} (hf:Fin1 s.r) (hn:s.er=none→needS 7 s≤n):primS ex s=primS ex' s:=by
 have key:∀ {w:List UInt8},w≠[]→isS w s=true→Fin1 (advS s).r∧∀ s',SS (advS s) s'→∀ form,0≤form→needS form s'<n:=by
  intro w hw hb
  have h0:=is_none hw hb
  exact ⟨(is_ss hw hb).fin hf,fun s' hs form h1=>Nat.lt_of_lt_of_le (need_adv hf h0 hs 7 form h1) (hn h0)⟩
 unfold primS
 refine ite2 (fun _=>rfl) fun _=>?_
 refine ite2 (fun _=>rfl) fun _=>?_
 refine ite2 (fun _=>rfl) fun _=>?_
 refine ite2 (fun _=>rfl) fun _=>?_
 refine ite2 (fun _=>rfl) fun _=>?_
 refine ite2 (fun hb=>?_) fun _=>?_
 ·obtain ⟨a,b⟩:=key (by decide) hb
  exact within_congr hA _ a b
 refine ite2 (fun hb=>?_) fun _=>?_
 ·obtain ⟨a,b⟩:=key (by decide) hb
  exact within_congr hA _ a b
 refine ite2 (fun hb=>?_) fun _=>?_
 ·obtain ⟨a,b⟩:=key (by decide) hb
  exact within_congr hA _ a b
 refine ite2 (fun hb=>?_) fun _=>?_
 ·obtain ⟨a,b⟩:=key (by decide) hb
  exact pair_congr hA hS _ a b
 refine ite2 (fun hb=>?_) fun _=>?_
 ·obtain ⟨a,b⟩:=key (by decide) hb
  exact pair_congr hA hS _ a b
 refine ite2 (fun hb=>?_) fun _=>rfl
 obtain ⟨a,b⟩:=key (by decide) hb
 exact paren_congr hA a b
theorem loop_congr {ex ex':Req} {n:Nat} (hA:AgrE ex ex' n) (hS:ReqS ex) (form:Int) (h0:0≤form) (h6:form≤6):∀ (f:Nat) (e:Exp) (s:Sr),Fin1 s.r→(s.er=none→9*s.r.length≤n)→loopS ex form f e s=loopS ex' form f e s
 | 0,_,_,_,_=>rfl
 | f+1,e,s,hf,hn=>by
  unfold loopS
  refine ite2 (fun _=>rfl) fun hc=>?_
  have hc:¬ (symT (nextS s)).1<0:=fun x=>hc (.inl x)
  have h1:SS s (advS s):=adv_ss (sym_kind hc) (sym_none hc)
  have hx:=sym_none hc
  have e1:=hA (form+1) (advS s) (by omega) (by omega) (h1.fin hf) (by
   have h2:=need_adv (form:=8) hf hx (.refl _) (form+1) (by omega)
   have h3:needS 8 s=9*s.r.length:=by unfold needS;rw [hx];rfl
   have h4:=hn hx
   omega)
  rw [e1]
  refine ite2 (fun _=>rfl) fun _=>?_
  ·rw [← e1]
   have h3:=h1.trans (hS (form+1) _)
   refine loop_congr hA hS form h0 h6 f _ _ (h3.fin hf) fun h4=>?_
   have h5:(ex (form+1) (advS s)).2.r.length≤s.r.length:=h3.suf.le
   have:=hn hx
   omega
theorem expT_congr {ex ex':Req} {n:Nat} (hS:ReqS ex) {form:Int} {s:Sr} (hf:Fin1 s.r) (h0:0≤form) (h7:form≤7) (hA:AgrE ex ex' n) (hn:needS form s≤n):expT ex form s=expT ex' form s:=by
 unfold expT
 refine ite2 (fun _=>rfl) fun he=>?_
 have he:=er_none he
 have key:∀ {w:List UInt8},w≠[]→isS w s=true→Fin1 (advS s).r∧∀ s',SS (advS s) s'→∀ form',0≤form'→needS form' s'<n:=by
  intro w hw hb
  exact ⟨(is_ss hw hb).fin hf,fun s' hs form' h1=>Nat.lt_of_lt_of_le (need_adv hf he hs form form' h1) hn⟩
 refine ite2 (fun hb=>?_) fun _=>?_
 ·obtain ⟨a,b⟩:=key (by decide) hb.2
  have s1:=(hS 0 (advS s)).trans (want_ss [116,104,101,110] (by decide) _)
  have s2:=s1.trans ((hS 0 _).trans (want_ss [101,108,115,101] (by decide) _))
  have e1:=hA 0 _ (by omega) (by omega) a (b _ (.refl _) 0 (by omega))
  have e2:=hA 0 _ (by omega) (by omega) (s1.fin a) (b _ s1 0 (by omega))
  have e3:=hA 0 _ (by omega) (by omega) (s2.fin a) (b _ s2 0 (by omega))
  unfold ifS
  rw [e3,e2,e1]
 refine ite2 (fun h=>?_) fun _=>?_
 ·rw [h] at hn
  exact hA 1 s om0 om0 hf (Nat.lt_of_lt_of_le (need_up he om0 om0) hn)
 refine ite2 (fun hb=>?_) fun _=>?_
 ·obtain ⟨a,b⟩:=key (by decide) hb.2
  unfold notS
  rw [hA 3 _ (by omega) (by omega) a (b _ (.refl _) 3 (by omega))]
 refine ite2 (fun h=>?_) fun _=>?_
 ·rw [h] at hn
  exact prim_congr hA hS hf fun _=>hn
 refine ite2 (fun h=>?_) fun _=>?_
 ·rw [h] at hn
  exact hA 4 s om0 om0 hf (Nat.lt_of_lt_of_le (need_up he om0 om0) hn)
 ·have e1:=hA (form+1) s (by omega) (by omega) hf (Nat.lt_of_lt_of_le (need_up he (by omega) (by omega)) hn)
  rw [e1]
  have s1:=hS (form+1) s
  rw [e1] at s1
  refine loop_congr hA hS form h0 om0 _ _ _ (s1.fin hf) fun _=>?_
  have h5:=s1.suf.le
  have h6:needS form s=9*s.r.length+(8-form).toNat:=by unfold needS;rw [he];rfl
  omega
theorem expQ_fuel:∀ (F F':Nat) (form:Int) (s:Sr),0≤form→form≤7→Fin1 s.r→needS form s<F→needS form s<F'→expQ F form s=expQ F' form s
 | 0,_,_,_,_,_,_,h,_=>absurd h (Nat.not_lt_zero _)
 | _+1,0,_,_,_,_,_,_,h=>absurd h (Nat.not_lt_zero _)
 | F+1,F'+1,form,s,h0,h7,hf,h,h'=>expT_congr (n:=needS form s) (expQ_ss F) hf h0 h7 (fun form' s' a b c d=>expQ_fuel F F' form' s' a b c (by omega) (by omega)) (Nat.le_refl _)
def exC (form:Int) (s:Sr):Exp×Sr:=expQ (needS form s+1) form s
theorem exC_ss:ReqS exC:=fun form s=>expQ_ss _ form s
theorem exC_eq {form:Int} {s:Sr} (h0:0≤form) (h7:form≤7) (hf:Fin1 s.r):exC form s=expT exC form s :=
 expT_congr (n:=needS form s) (expQ_ss _) hf h0 h7 (fun form' s' a b c d=>expQ_fuel _ _ form' s' a b c d (Nat.lt_succ_self _)) (Nat.le_refl _)
def wholeS (w:List UInt8) (s:Sr):Exp×Sr :=
 let a:=exC 0 s
 if a.2.er.isSome=true then a
 else if (w=[]∧(nextS a.2).kind≠3)∨(w≠[]∧isS w a.2=false) then (a.1,failS 12 a.2)
 else if 12<((lev a.1:Nat):Int) then (a.1,failS 6 a.2)
 else if w≠[] then (a.1,advS a.2)
 else a
def partS (w:List UInt8) (a b:Int) (s:Sr):Int×Sr:=((numS a b (wantS w s)).1,wantS [59] (numS a b (wantS w s)).2)
def maybeS (w:List UInt8) (a n0:Int) (s:Sr):Int×Sr:=if isS w s=true then partS w 0 a s else (n0,s)
def oneS (w:List UInt8) (ws:List (List UInt8)) (s:Sr):Int×Sr :=
 let i:=idxP (fun x=>isS x (wantS w s)) ws
 if i<0 then (0,failS 12 (wantS w s)) else (i,wantS [59] (advS (wantS w s)))
def dateS (least:Int) (s:Sr):Int×Sr :=
 let y:=numS 0 1000000000000000 s
 let m:=numS 0 1000000000000000 (wantS [45] y.2)
 let s4:=wantS [45] m.2
 if (nextS s4).kind≠1 then (0,failS 12 s4)
 else if (dayOf y.1 m.1 (nextS s4).n).2≠0 then (0,failS 23 s4)
 else if (dayOf y.1 m.1 (nextS s4).n).1≤least then (0,failS 3 s4)
 else ((dayOf y.1 m.1 (nextS s4).n).1,advS s4)
def freshS (names:List (List UInt8)) (s:Sr):List UInt8×Sr :=
 if namedS s=false then ([],failS 12 s) else if (nextS s).text∈names then ([],failS 5 s) else ((nextS s).text,advS s)
def letsS:Nat→List LetE→Sr→List LetE×Sr
 | 0,ls,s=>(ls,s)
 | f+1,ls,s =>
  if isS [108,101,116] s=false then (ls,s)
  else if (ls.length:Int)=20 then ([],failS 6 s)
  else
   let a:=freshS (ls.map LetE.name) (advS s)
   let b:=wholeS [59] (wantS [61] a.2)
   letsS f (ls++[⟨a.1,b.1⟩]) b.2
def covsS:Nat→List Cov→Sr→List Cov×Sr
 | 0,ls,s=>(ls,s)
 | f+1,ls,s =>
  if isS [99,111,118,101,110,97,110,116] s=false then (ls,s)
  else if (ls.length:Int)=20 then ([],failS 6 s)
  else
   let a:=freshS (ls.map Cov.name) (advS s)
   let b:=wholeS [103,114,97,99,101] (wantS [109,117,115,116] a.2)
   let n:=numS 0 1000 b.2
   covsS f (ls++[⟨a.1,b.1,n.1⟩]) (wantS [59] n.2)
def favQ:Nat→List (List UInt8)→Sr→List (List UInt8)×Sr
 | 0,ls,s=>(ls,wantS [59] s)
 | f+1,ls,s =>
  if s.er.isSome=false∧((ls.length:Int)=0∨isS [59] s=false) then
   if (ls.length:Int)=20∧namedS s=true then ([],failS 6 s)
   else favQ f (ls++[(freshS ls s).1]) (freshS ls s).2
  else (ls,wantS [59] s)
def favS (s:Sr):List (List UInt8)×Sr :=
 if isS [102,97,118,111,117,114] s=false then ([],s) else favQ (mS (advS s)+1) [] (advS s)
def callsS:Nat→List CallE→Sr→List CallE×Sr
 | 0,ls,s=>(ls,s)
 | f+1,ls,s =>
  if isS [99,97,108,108] s=false then (ls,s)
  else if (ls.length:Int)=20 then ([],failS 6 s)
  else
   let a:=dateS (-1) (advS s)
   let n:=numS 0 10000 (wantS [97,116] a.2)
   callsS f (ls++[⟨a.1,n.1⟩]) (wantS [59] n.2)
theorem nf_t {b:Bool} (h:¬ b=false):b=true:=by cases b with | true=>rfl | false=>exact (h rfl).elim
theorem whole_ss (w:List UInt8) (s:Sr):SS s (wholeS w s).2:=by
 unfold wholeS
 dsimp only
 have h1:=exC_ss 0 s
 split
 ·exact h1
 rename_i h0
 split
 ·exact h1.trans (fail_ss _ dd0 _)
 rename_i hb
 split
 ·exact h1.trans (fail_ss _ dd0 _)
 split
 ·rename_i hw
  have hi:isS w (exC 0 s).2=true:=by
   cases hi:isS w (exC 0 s).2 with
   | true=>rfl
   | false=>exact (hb (.inr ⟨hw,hi⟩)).elim
  exact h1.trans (is_ss hw hi)
 ·exact h1
theorem part_ss (w:List UInt8) (hw:w≠[]) (a b:Int) (s:Sr):SS s (partS w a b s).2:=((want_ss w hw s).trans (num_ss a b _)).trans (want_ss _ (by decide) _)
theorem maybe_ss (w:List UInt8) (hw:w≠[]) (a n0:Int) (s:Sr):SS s (maybeS w a n0 s).2:=by
 unfold maybeS
 split
 ·exact part_ss w hw _ _ _
 ·exact .refl _
theorem one_ss (w:List UInt8) (hw:w≠[]) (ws:List (List UInt8)) (hws:∀ x∈ws,x≠[]) (s:Sr):SS s (oneS w ws s).2:=by
 unfold oneS
 dsimp only
 split
 ·exact (want_ss w hw s).trans (fail_ss _ dd0 _)
 rename_i hi
 have hlt:=idxP_lt (fun x=>isS x (wantS w s)) [] ws
 rcases hlt with hlt | hlt
 ·exact (hi hlt).elim
 have hm:ws.getD (idxP (fun x=>isS x (wantS w s)) ws).toNat []≠[]:=by
  apply hws
  rw [List.getD_eq_getElem?_getD,List.getElem?_eq_getElem hlt.1]
  exact List.getElem_mem _
 exact ((want_ss w hw s).trans (is_ss hm hlt.2)).trans (want_ss _ dd0 _)
theorem date_ss (least:Int) (s:Sr):SS s (dateS least s).2:=by
 unfold dateS
 dsimp only
 have h4:=(((num_ss 0 1000000000000000 s).trans (want_ss [45] (by decide) _)).trans (num_ss 0 1000000000000000 _)).trans (want_ss [45] (by decide) _)
 split
 ·exact h4.trans (fail_ss _ dd0 _)
 rename_i hk
 have hk:=Decidable.of_not_not hk
 split
 ·exact h4.trans (fail_ss _ dd0 _)
 split
 ·exact h4.trans (fail_ss _ dd0 _)
 ·exact h4.trans (adv_ss (by rw [hk];decide) (kind_none hk))
theorem named_kind {s:Sr} (h:namedS s=true):(nextS s).kind≠3:=by
 unfold namedS at h
 simp only [Bool.and_eq_true,decide_eq_true_eq] at h
 rw [h.1];decide
theorem fresh_ss (names:List (List UInt8)) (s:Sr):SS s (freshS names s).2:=by
 unfold freshS
 split
 ·exact fail_ss _ dd0 _
 rename_i hn
 have hn:namedS s=true:=by simpa using hn
 split
 ·exact fail_ss _ dd0 _
 ·exact adv_ss (named_kind hn) (named_none hn)
theorem lets_ss:∀ (f:Nat) (ls:List LetE) (s:Sr),SS s (letsS f ls s).2
 | 0,_,s=>.refl s
 | f+1,ls,s=>by
  unfold letsS
  split
  ·exact .refl _
  rename_i hb
  split
  ·exact fail_ss _ dd0 _
  ·exact ((((is_ss dd0 (nf_t hb)).trans (fresh_ss _ _)).trans (want_ss _ dd0 _)).trans (whole_ss _ _)).trans (lets_ss f _ _)
theorem covs_ss:∀ (f:Nat) (ls:List Cov) (s:Sr),SS s (covsS f ls s).2
 | 0,_,s=>.refl s
 | f+1,ls,s=>by
  unfold covsS
  split
  ·exact .refl _
  rename_i hb
  split
  ·exact fail_ss _ dd0 _
  ·exact ((((((is_ss dd0 (nf_t hb)).trans (fresh_ss _ _)).trans (want_ss _ dd0 _)).trans (whole_ss _ _)).trans (num_ss _ _ _)).trans (want_ss _ dd0 _)).trans (covs_ss f _ _)
theorem favQ_ss:∀ (f:Nat) (ls:List (List UInt8)) (s:Sr),SS s (favQ f ls s).2
 | 0,_,s=>want_ss _ (by decide) s
 | f+1,ls,s=>by
  unfold favQ
  split
  ·split
   ·exact fail_ss _ dd0 _
   ·exact (fresh_ss _ _).trans (favQ_ss f _ _)
  ·exact want_ss _ dd0 s
theorem fav_ss (s:Sr):SS s (favS s).2:=by
 unfold favS
 split
 ·exact .refl _
 rename_i hb
 exact (is_ss dd0 (nf_t hb)).trans (favQ_ss _ _ _)
theorem calls_ss:∀ (f:Nat) (ls:List CallE) (s:Sr),SS s (callsS f ls s).2
 | 0,_,s=>.refl s
 | f+1,ls,s=>by
  unfold callsS
  split
  ·exact .refl _
  rename_i hb
  split
  ·exact fail_ss _ dd0 _
  ·exact (((((is_ss dd0 (nf_t hb)).trans (date_ss _ _)).trans (want_ss _ dd0 _)).trans (num_ss _ _ _)).trans (want_ss _ dd0 _)).trans (calls_ss f _ _)
def errI (s:Sr):Int:=match s.er with
 | none=>0
 | some e=>e.2
def posI (s:Sr):Int:=match s.er with
 | none=>0
 | some e=>e.1
abbrev rcell (T:List Tok) (s:Sr):List AV:=[encTks T,.int .i64 ((T.length-s.r.length:Nat):Int),.int .i64 (errI s),.int .i64 (posI s)]
abbrev robj (T:List Tok) (s:Sr):AB:=.cells 74 (rcell T s)
abbrev KX (f:FuncId) (args:List AV) (T:List Tok) (s:Sr) (rs:List AV) (s':Sr) (E:List AB):Prop :=
 RIO Tryz.prog f (.ptr 0 0::args) [robj T s] 1 (fun vs bs es=>vs=rs∧bs=[robj T s']∧es=E)
theorem SSt.at {T:List Tok} {s:Sr} (h:SSt T s):((T.length-s.r.length:Nat):Int)+1=((T.length-(advS s).r.length:Nat):Int):=h.st.at
theorem SSt.tlen {T:List Tok} {s:Sr} (h:SSt T s):(nextS s).text.length≤4000:=by
 rcases s with ⟨r,_ | x⟩
 ·exact h.st.tlen
 ·exact Nat.zero_le _
def ReqX (T:List Tok) (n:Nat) (ex:Req):Prop:=∀ form s,0≤form→form≤7→SSt T s→needS form s<n→KX 128 [.int .i64 form] T s [encE (ex form s).1] (ex form s).2 [.cells 26 (cellsE (ex form s).1)]
abbrev PrK (T:List Tok) (s:Sr) (v:Exp×Sr):Prop:=KX 173 [] T s [encE v.1] v.2 [.cells 26 (cellsE v.1)]
abbrev WiK (T:List Tok) (s:Sr) (op:Int) (v:Exp×Sr):Prop:=KX 188 [.int .i64 op] T s [encE v.1] v.2 [.cells 26 (cellsE v.1)]
def Rich (n:Nat) (s:Sr):Prop:=∀ q,SS s q→∀ form,0≤form→needS form q<n
theorem Rich.to {n:Nat} {s s':Sr} (h:Rich n s) (hs:SS s s'):Rich n s':=fun a b c d=>h a (hs.trans b) c d
structure NoS (s:Sr) (k:Nat):Prop where
 kd:(nextS s).kind≠1
 w0:0<k→isS [116,114,117,101] s=false
 w1:1<k→isS [102,97,108,115,101] s=false
 w2:2<k→isS [102,97,99,116] s=false
 w3:3<k→isS [114,97,116,101] s=false
 w4:4<k→isS [101,118,101,114] s=false
 w5:5<k→isS [108,111,110,103] s=false
 w6:6<k→isS [115,111,111,110] s=false
def symR (t:Tok):List AR:=[.val (.int .i64 (symT t).1),.val (.int .i64 (symT t).2)]
abbrev ExK (T:List Tok) (s:Sr) (form:Int) (v:Exp×Sr):Prop:=KX 128 [.int .i64 form] T s [encE v.1] v.2 [.cells 26 (cellsE v.1)]
abbrev sN (r:List Tok):Sr:=⟨r,none⟩
def Ag {α:Type}:Ps α→α×Sr→Prop
 | .ok (v,r'),g=>g=(v,sN r')
 | .error e,g=>g.2.er=some e
def AgR:Except Er (List Tok)→Sr→Prop
 | .ok r',s=>s=sN r'
 | .error e,s=>s.er=some e
theorem ag_er {α β:Type} {e:Er} {f:Ps α} {g:α×Sr} {g':β×Sr} (h:Ag f g) (he:f=.error e) (hs:SS g.2 g'.2):Ag (.error e:Ps β) g':=by
 subst he
 exact hs.keep e h
theorem agR_er {β:Type} {e:Er} {f:Except Er (List Tok)} {s:Sr} {g':β×Sr} (h:AgR f s) (he:f=.error e) (hs:SS s g'.2):Ag (.error e:Ps β) g':=by
 subst he
 exact hs.keep e h
theorem ag_ok {α:Type} {v:α} {r':List Tok} {f:Ps α} {g:α×Sr} (h:Ag f g) (he:f=.ok (v,r')):g=(v,sN r'):=by
 subst he
 exact h
theorem agR_ok {r':List Tok} {f:Except Er (List Tok)} {s:Sr} (h:AgR f s) (he:f=.ok r'):s=sN r':=by
 subst he
 exact h
theorem want_ag (w:List UInt8) (r:List Tok):AgR (wantP w r) (wantS w (sN r)):=by
 unfold wantP wantS
 have:isS w (sN r)=isT w r:=rfl
 rw [this]
 try (cases isT w r<;>rfl)
theorem name_ag (r:List Tok):Ag (nameP r) (nameS (sN r)):=by
 unfold nameP nameS
 have:namedS (sN r)=namedB r:=rfl
 rw [this]
 try (cases namedB r<;>rfl)
theorem num_ag (a b:Int) (r:List Tok):Ag (numP a b r) (numS a b (sN r)):=by
 unfold numP numS
 have:nextS (sN r)=hdT r:=rfl
 rw [this]
 split
 ·rfl
 split<;>rfl
theorem unit_ag (r:List Tok):unitS (sN r)=((unitP r).1,sN (unitP r).2):=by
 unfold unitS unitP
 have:∀ w,isS w (sN r)=isT w r:=fun _=>rfl
 rw [this,this,this]
 try (cases isT [99,111,105,110,115] r<;>cases isT [100,97,121,115] r<;>cases isT [109,105,108,108,101] r<;>rfl)
def HA (n:Nat) (ex:Rec) (exR:Req):Prop:=∀ form r,0≤form→form≤7→Fin1 r→r.length≤n→Ag (ex form r) (exR form (sN r))
theorem named_ag (op:Int) (r:List Tok):Ag (namedP op r) (namedE op (sN r)):=by
 have h:=name_ag r
 unfold namedP namedE
 cases e1:nameP r with
 | error e=>exact ag_er h e1 (.refl _)
 | ok v =>
  obtain ⟨s,r1⟩:=v
  rw [ag_ok h e1]
  rfl
theorem within_ag {n:Nat} {ex:Rec} {exR:Req} (hA:HA n ex exR) (hS:RecS ex) (hR:ReqS exR) (op:Int) {r:List Tok} (hf:Fin1 r) (hn:r.length≤n):Ag (withinP ex op r) (withinS exR op (sN r)):=by
 have a1:=num_ag 1 1000 r
 unfold withinP
 cases e1:numP 1 1000 r with
 | error e=>exact ag_er a1 e1 (((want_ss [40] (by decide) _).trans (hR 0 _)).trans (want_ss [41] (by decide) _))
 | ok v =>
 obtain ⟨k,r1⟩:=v
 have s1:=(numP_suf e1).1
 unfold withinS
 rw [ag_ok a1 e1]
 dsimp only
 have a2:=want_ag [40] r1
 cases e2:wantP [40] r1 with
 | error e=>exact agR_er a2 e2 ((hR 0 _).trans (want_ss [41] (by decide) _))
 | ok r2 =>
 have s2:=s1.trans (wantP_suf e2)
 rw [agR_ok a2 e2]
 dsimp only
 have a3:=hA 0 r2 (by omega) (by omega) (s2.2 hf) (Nat.le_trans s2.le hn)
 cases e3:ex 0 r2 with
 | error e=>exact ag_er a3 e3 (want_ss [41] (by decide) _)
 | ok v =>
 obtain ⟨x,r3⟩:=v
 rw [ag_ok a3 e3]
 dsimp only
 have a4:=want_ag [41] r3
 cases e4:wantP [41] r3 with
 | error e=>exact agR_er a4 e4 (.refl _)
 | ok r4 =>
 rw [agR_ok a4 e4]
 rfl
theorem pair_ag {n:Nat} {ex:Rec} {exR:Req} (hA:HA n ex exR) (hS:RecS ex) (hR:ReqS exR) (op:Int) {r:List Tok} (hf:Fin1 r) (hn:r.length≤n):Ag (pairP ex op r) (pairS exR op (sN r)):=by
 have a1:=want_ag [40] r
 unfold pairP
 have t5:=fun s=>want_ss [41] (by decide) s
 have t4:=fun s=>(hR 0 s).trans (t5 _)
 have t3:=fun s=>(want_ss [44] (by decide) s).trans (t4 _)
 have t2:=fun s=>(hR 0 s).trans (t3 _)
 cases e1:wantP [40] r with
 | error e=>exact agR_er a1 e1 (t2 _)
 | ok r1 =>
 have s1:=wantP_suf e1
 unfold pairS
 rw [agR_ok a1 e1]
 dsimp only
 have a2:=hA 0 r1 (by omega) (by omega) (s1.2 hf) (Nat.le_trans s1.le hn)
 cases e2:ex 0 r1 with
 | error e=>exact ag_er a2 e2 (t3 _)
 | ok v =>
 obtain ⟨x,r2⟩:=v
 have s2:=s1.trans (hS _ _ _ _ e2)
 rw [ag_ok a2 e2]
 dsimp only
 have a3:=want_ag [44] r2
 cases e3:wantP [44] r2 with
 | error e=>exact agR_er a3 e3 (t4 _)
 | ok r3 =>
 have s3:=s2.trans (wantP_suf e3)
 rw [agR_ok a3 e3]
 dsimp only
 have a4:=hA 0 r3 (by omega) (by omega) (s3.2 hf) (Nat.le_trans s3.le hn)
 cases e4:ex 0 r3 with
 | error e=>exact ag_er a4 e4 (t5 _)
 | ok v =>
 obtain ⟨y,r4⟩:=v
 rw [ag_ok a4 e4]
 dsimp only
 have a5:=want_ag [41] r4
 cases e5:wantP [41] r4 with
 | error e=>exact agR_er a5 e5 (.refl _)
 | ok r5 =>
 rw [agR_ok a5 e5]
 rfl
theorem paren_ag {n:Nat} {ex:Rec} {exR:Req} (hA:HA n ex exR) {r:List Tok} (hf:Fin1 r) (hn:r.length≤n):Ag (parenP ex r) (parenS exR (sN r)):=by
 unfold parenP parenS
 have a2:=hA 0 r (by omega) (by omega) hf hn
 cases e2:ex 0 r with
 | error e=>exact ag_er a2 e2 (want_ss [41] (by decide) _)
 | ok v =>
 obtain ⟨x,r2⟩:=v
 rw [ag_ok a2 e2]
 dsimp only
 have a3:=want_ag [41] r2
 cases e3:wantP [41] r2 with
 | error e=>exact agR_er a3 e3 (.refl _)
 | ok r3 =>
 rw [agR_ok a3 e3]
 rfl
theorem if_ag {n:Nat} {ex:Rec} {exR:Req} (hA:HA n ex exR) (hS:RecS ex) (hR:ReqS exR) {r:List Tok} (hf:Fin1 r) (hn:r.length≤n):Ag (ifP ex r) (ifS exR (sN r)):=by
 unfold ifP
 have t4:=fun s=>hR 0 s
 have t3:=fun s=>(want_ss [101,108,115,101] (by decide) s).trans (t4 _)
 have t2:=fun s=>(hR 0 s).trans (t3 _)
 have t1:=fun s=>(want_ss [116,104,101,110] (by decide) s).trans (t2 _)
 have a1:=hA 0 r (by omega) (by omega) hf hn
 cases e1:ex 0 r with
 | error e=>exact ag_er a1 e1 (t1 _)
 | ok v =>
 obtain ⟨x,r1⟩:=v
 have s1:=hS _ _ _ _ e1
 unfold ifS
 rw [ag_ok a1 e1]
 dsimp only
 have a2:=want_ag [116,104,101,110] r1
 cases e2:wantP [116,104,101,110] r1 with
 | error e=>exact agR_er a2 e2 (t2 _)
 | ok r2 =>
 have s2:=s1.trans (wantP_suf e2)
 rw [agR_ok a2 e2]
 dsimp only
 have a3:=hA 0 r2 (by omega) (by omega) (s2.2 hf) (Nat.le_trans s2.le hn)
 cases e3:ex 0 r2 with
 | error e=>exact ag_er a3 e3 (t3 _)
 | ok v =>
 obtain ⟨y,r3⟩:=v
 have s3:=s2.trans (hS _ _ _ _ e3)
 rw [ag_ok a3 e3]
 dsimp only
 have a4:=want_ag [101,108,115,101] r3
 cases e4:wantP [101,108,115,101] r3 with
 | error e=>exact agR_er a4 e4 (t4 _)
 | ok r4 =>
 have s4:=s3.trans (wantP_suf e4)
 rw [agR_ok a4 e4]
 dsimp only
 have a5:=hA 0 r4 (by omega) (by omega) (s4.2 hf) (Nat.le_trans s4.le hn)
 cases e5:ex 0 r4 with
 | error e=>exact ag_er a5 e5 (.refl _)
 | ok v =>
 obtain ⟨z,r5⟩:=v
 rw [ag_ok a5 e5]
 rfl
theorem not_ag {n:Nat} {ex:Rec} {exR:Req} (hA:HA n ex exR) {r:List Tok} (hf:Fin1 r) (hn:r.length≤n):Ag (notP ex r) (notS exR (sN r)):=by
 unfold notP notS
 have a1:=hA 3 r (by omega) (by omega) hf hn
 cases e1:ex 3 r with
 | error e=>exact ag_er a1 e1 (.refl _)
 | ok v =>
 obtain ⟨x,r1⟩:=v
 rw [ag_ok a1 e1]
 rfl
theorem prim_ag {n:Nat} {ex:Rec} {exR:Req} (hA:HA n ex exR) (hS:RecS ex) (hR:ReqS exR) {r:List Tok} (hf:Fin1 r) (hn:r.length≤n+1):Ag (primP ex r) (primS exR (sN r)):=by
 have hl:=tail_lt hf
 have ht:r.tail.length≤n:=by omega
 have key:∀ {w:List UInt8},isT w r=true→Fin1 r.tail:=fun h=>hf.tail (isT_kind h)
 have hi:∀ w,isS w (sN r)=isT w r:=fun _=>rfl
 have hx:nextS (sN r)=hdT r:=rfl
 have ha:advS (sN r)=sN r.tail:=rfl
 unfold primP primS
 simp only [hi,hx,ha]
 by_cases hk:(hdT r).kind=1
 ·rw [if_pos hk,if_pos hk,unit_ag]
  rfl
 rw [if_neg hk,if_neg hk]
 cases b0:isT [116,114,117,101] r with
 | true=>rfl
 | false =>
 cases b1:isT [102,97,108,115,101] r with
 | true=>rfl
 | false =>
 cases b2:isT [102,97,99,116] r with
 | true=>exact named_ag 2 r.tail
 | false =>
 cases b3:isT [114,97,116,101] r with
 | true=>exact named_ag 3 r.tail
 | false =>
 cases b4:isT [101,118,101,114] r with
 | true=>exact within_ag hA hS hR 16 (key b4) ht
 | false =>
 cases b5:isT [108,111,110,103] r with
 | true=>exact within_ag hA hS hR 17 (key b5) ht
 | false =>
 cases b6:isT [115,111,111,110] r with
 | true=>exact within_ag hA hS hR 18 (key b6) ht
 | false =>
 cases b7:isT [109,105,110] r with
 | true =>
  have bx:isT [109,97,120] r=false:=by
   unfold isT at b7 ⊢
   simp only [Bool.and_eq_true,decide_eq_true_eq] at b7
   rw [b7.2]
   simp
  rw [bx]
  exact pair_ag hA hS hR 8 (key b7) ht
 | false =>
 cases b8:isT [109,97,120] r with
 | true=>exact pair_ag hA hS hR 9 (key b8) ht
 | false =>
 cases b9:isT [40] r with
 | true=>exact paren_ag hA (key b9) ht
 | false=>exact named_ag 1 r
theorem sym_form (t:Tok):(symT t).1<0∨1≤(symT t).2∧(symT t).2≤6∧(symT t).2≠3:=by
 unfold symT
 repeat' split
 all_goals decide
theorem op_sym (r:List Tok):if opI r<0 then (symT (hdT r)).1<0 else symT (hdT r)=((opAt (opI r)).op,(opAt (opI r)).form):=by
 unfold opI opAt symT oprL isT
 by_cases hk:(hdT r).kind=3
 ·rw [if_pos hk]
  simp [hk,idxP]
 rw [if_neg hk]
 by_cases b0:(hdT r).text=[111,114]
 ·simp [hk,idxP,b0]
 by_cases b1:(hdT r).text=[97,110,100]
 ·simp [hk,idxP,b1]
 by_cases b2:(hdT r).text=[61,61]
 ·simp [hk,idxP,b2]
 by_cases b3:(hdT r).text=[60]
 ·simp [hk,idxP,b3]
 by_cases b4:(hdT r).text=[43]
 ·simp [hk,idxP,b4]
 by_cases b5:(hdT r).text=[45]
 ·simp [hk,idxP,b5]
 by_cases b6:(hdT r).text=[42]
 ·simp [hk,idxP,b6]
 by_cases b7:(hdT r).text=[47]
 ·simp [hk,idxP,b7]
 simp [hk,idxP,b0,b1,b2,b3,b4,b5,b6,b7]
def downS (ex:Req):Nat→Int→Exp→Sr→Exp×Sr
 | 0,_,e,s=>(e,s)
 | n+1,form,e,s=>loopS ex form (downS ex n (form+1) e s).2.r.length (downS ex n (form+1) e s).1 (downS ex n (form+1) e s).2
theorem down_ss {ex:Req} (h:ReqS ex):∀ (n:Nat) (form:Int) (e:Exp) (s:Sr),SS s (downS ex n form e s).2
 | 0,_,_,s=>.refl s
 | n+1,form,e,s=>(down_ss h n (form+1) e s).trans (loop_ss h _ _ _ _)
theorem loop_id {ex:Req} {form:Int} {f:Nat} {e:Exp} {s:Sr} (h:(symT (nextS s)).1<0∨(symT (nextS s)).2≠form):loopS ex form f e s=(e,s):=by
 cases f with
 | zero=>rfl
 | succ f=>rw [loopS,if_pos h]
theorem down_id {ex:Req} {e:Exp} {s:Sr}:∀ (n:Nat) (form:Int),((symT (nextS s)).1<0∨(symT (nextS s)).2<form∨form+n≤(symT (nextS s)).2)→downS ex n form e s=(e,s)
 | 0,_,_=>rfl
 | n+1,form,h=>by
  have ih:=down_id (ex:=ex) (e:=e) n (form+1) (by
   rcases h with h | h | h
   ·exact .inl h
   ·exact .inr (.inl om0)
   ·exact .inr (.inr om0))
  unfold downS
  rw [ih]
  refine loop_id ?_
  dsimp only
  rcases h with h | h | h
  ·exact .inl h
  ·exact .inr (by show ¬ _=form;omega)
  ·exact .inr (by show ¬ _=form;omega)
theorem down_add {ex:Req} {e:Exp} {s:Sr} (b:Nat):∀ (a:Nat) (form:Int),downS ex (a+b) form e s=downS ex a form (downS ex b (form+a) e s).1 (downS ex b (form+a) e s).2
 | 0,form=>by
  rw [Nat.zero_add,show form+((0:Nat):Int)=form by omega]
  rfl
 | a+1,form=>by
  rw [show a+1+b=(a+b)+1 by omega]
  rw [downS,down_add b a (form+1),downS]
  rw [show form+1+(a:Int)=form+((a+1:Nat):Int) by omega]
theorem loopS_fuel {ex:Req} (hS:ReqS ex) {form:Int}:∀ (f f':Nat) (e:Exp) (s:Sr),Fin1 s.r→s.r.length≤f→s.r.length≤f'→loopS ex form f e s=loopS ex form f' e s
 | 0,_,_,s,hf,h,_=>absurd (List.length_pos_iff.2 hf.ne) (by omega)
 | _+1,0,_,s,hf,_,h=>absurd (List.length_pos_iff.2 hf.ne) (by omega)
 | f+1,f'+1,e,s,hf,h,h'=>by
  unfold loopS
  refine ite2 (fun _=>rfl) fun hc=>?_
  have hc:¬ (symT (nextS s)).1<0:=fun x=>hc (.inl x)
  have h1:=(adv_ss (sym_kind hc) (sym_none hc)).trans (hS (form+1) (advS s))
  have h2:(ex (form+1) (advS s)).2.r.length≤s.r.tail.length:=(hS (form+1) (advS s)).suf.le
  have h3:=tail_lt hf
  exact ite2 (fun _=>rfl) fun _=>loopS_fuel hS f f' _ _ (h1.fin hf) om0 om0
def topF (own:Int):Int:=if own=4 then 3 else if own=7 then 6 else own
theorem loop_ag {n:Nat} {ex:Rec} {exR:Req} (hA:HA n ex exR) (hS:RecS ex) (hR:ReqS exR) {form:Int} (h0:0≤form):∀ (f:Nat) (own:Int) (e:Exp) (r:List Tok),0≤own→own≤7→Fin1 r→r.length≤f→r.length≤n+1 →
  Ag (loopP ex form f e own r) (downS exR (topF own+1-form).toNat form e (sN r))
 | 0,_,_,r,_,_,hf,h,_=>absurd (List.length_pos_iff.2 hf.ne) (by omega)
 | f+1,own,e,r,w0,w7,hf,hl,hn=>by
  have hop:=op_sym r
  have hx:nextS (sN r)=hdT r:=rfl
  by_cases hi:opI r<0
  ·rw [if_pos hi] at hop
   rw [loopP,if_pos hi]
   exact down_id _ _ (.inl hop)
  rw [if_neg hi] at hop
  obtain ⟨hi1,hi2⟩:=opI_ok hi
  have hfm:=form_bnd hi1
  have hoa:opAt (opI r)=oprL.getD (opI r).toNat o0:=rfl
  rw [← hoa] at hfm
  have hsy:(symT (nextS (sN r))).2=(opAt (opI r)).form:=by rw [hx,hop]
  have hsy1:(symT (nextS (sN r))).1=(opAt (opI r)).op:=by rw [hx,hop]
  have hsf:=sym_form (nextS (sN r))
  have hnn:¬ (symT (nextS (sN r))).1<0:=by
   rw [hsy1]
   have:∀ i,i<8→¬ (oprL.getD i o0).op<0:=by decide
   exact this _ hi1
  have hn3:(opAt (opI r)).form≠3:=by
   rcases hsf with h | h
   ·exact (hnn h).elim
   ·rw [← hsy];exact h.2.2
  rw [loopP,if_neg hi]
  dsimp only
  by_cases hc:(opAt (opI r)).form<form∨own<(opAt (opI r)).form∨own=4∧(opAt (opI r)).form=4
  ·rw [if_pos hc]
   refine down_id _ _ (.inr ?_)
   rw [hsy]
   unfold topF
   rcases hc with h | h | h
   ·exact .inl h
   ·refine (Int.lt_or_le (opAt (opI r)).form form).imp id fun hge=>?_
    split
    ·omega
    split<;>omega
   ·refine (Int.lt_or_le (opAt (opI r)).form form).imp id fun hge=>?_
    rw [if_pos h.1]
    omega
  rw [if_neg hc]
  have c1:form≤(opAt (opI r)).form:=by omega
  have c2:(opAt (opI r)).form≤topF own:=by
   unfold topF
   split
   ·omega
   split<;>omega
  generalize hF:(opAt (opI r)).form=F at *
  have hk:=isT_kind hi2
  have hft:=hf.tail hk
  have htl:=tail_lt hf
  have ha:=hA (F+1) r.tail (by omega) (by omega) hft (by omega)
  have hcount:(topF own+1-form).toNat=(F-form).toNat+((topF own-F).toNat+1):=by omega
  have hFa:form+((F-form).toNat:Int)=F:=by omega
  have hgo:¬ ((symT (nextS (sN r))).1<0∨(symT (nextS (sN r))).2≠F):=by
   rintro (h | h)
   ·exact hnn h
   ·exact h hsy
  rw [hcount,down_add,hFa]
  rw [downS,down_id (topF own-F).toNat (F+1) (.inr (.inl (by rw [hsy];omega)))]
  dsimp only
  obtain ⟨g,hg⟩:∃ g,r.length=g+1:=⟨r.length-1,by have:=List.length_pos_iff.2 hf.ne;omega⟩
  rw [hg,loopS,if_neg hgo]
  rw [hsy1]
  have hadv:advS (sN r)=sN r.tail:=rfl
  rw [hadv]
  cases e1:ex (F+1) r.tail with
  | error e' =>
   dsimp only
   refine ag_er ha e1 ?_
   split
   ·exact down_ss hR _ _ _ _
   ·exact (loop_ss hR _ _ _ _).trans (down_ss hR _ _ _ _)
  | ok v =>
  obtain ⟨y,r'⟩:=v
  dsimp only
  have s1:=hS _ _ _ _ e1
  rw [ag_ok ha e1]
  dsimp only
  have hl':r'.length≤f:=by have:=s1.le;omega
  have ih:=loop_ag hA hS hR h0 f F (.mk (opAt (opI r)).op 0 0 [] [e,y]) r' (by omega) (by omega) (s1.2 hft) hl' (by have:=s1.le;omega)
  by_cases h4:F=4
  ·rw [if_pos h4]
   have ht:topF F=3:=by rw [h4];rfl
   rw [ht,show (3+1-form).toNat=(F-form).toNat by omega] at ih
   exact ih
  ·rw [if_neg h4]
   have ht:topF F=F:=by unfold topF;rw [if_neg h4,if_neg (show ¬ F=7 by omega)]
   rw [ht,show (F+1-form).toNat=(F-form).toNat+1 by omega,down_add,hFa] at ih
   rw [downS,downS] at ih
   dsimp only at ih
   rw [loopS_fuel hR g r'.length _ _ (s1.2 hft) (by show r'.length≤g;have:=s1.le;omega) (Nat.le_refl _)]
   exact ih
theorem exC_step {form:Int} {r:List Tok} (h0:0≤form) (h7:form<7) (hf:Fin1 r) (hi:form=0→isT [105,102] r=false) (h3:form=3→isT [110,111,116] r=false) :
  exC form (sN r)=loopS exC form (exC (form+1) (sN r)).2.r.length (exC (form+1) (sN r)).1 (exC (form+1) (sN r)).2:=by
 have hsf:=sym_form (nextS (exC (form+1) (sN r)).2)
 have hid:form=0∨form=3→(symT (nextS (exC (form+1) (sN r)).2)).1<0∨(symT (nextS (exC (form+1) (sN r)).2)).2≠form:=by
  intro h
  rcases hsf with h' | h'
  ·exact .inl h'
  ·exact .inr om0
 have e1:∀ w,isS w (sN r)=isT w r:=fun _=>rfl
 rw [exC_eq (form:=form) (s:=sN r) h0 (by omega) hf]
 unfold expT
 rw [if_neg (show ¬ (sN r).er.isSome=true from fun h=>Bool.noConfusion h)]
 rw [e1,e1]
 by_cases f0:form=0
 ·rw [hi f0,if_neg (by simp),if_pos f0,loop_id (hid (.inl f0)),f0]
  rfl
 rw [if_neg (fun x=>f0 x.1),if_neg f0]
 by_cases f3:form=3
 ·rw [h3 f3,if_neg (by simp),if_neg (show ¬ form=7 by omega),if_pos f3,loop_id (hid (.inr f3)),f3]
  rfl
 rw [if_neg (fun x=>f3 x.1),if_neg (show ¬ form=7 by omega),if_neg f3]
theorem exC_down {r:List Tok} (hf:Fin1 r):∀ (k:Nat) (form:Int),0≤form→form+k≤7→(form=0→isT [105,102] r=false∨k=0)→(isT [110,111,116] r=false∨form+k≤3∨3<form) →
  exC form (sN r)=downS exC k form (exC (form+k) (sN r)).1 (exC (form+k) (sN r)).2
 | 0,form,_,_,_,_=>by
  rw [show form+((0:Nat):Int)=form by omega]
  rfl
 | k+1,form,h0,h7,hi,hn=>by
  have ih:=exC_down hf k (form+1) (by omega) (by omega) (fun h=>by omega) (hn.imp id (fun h=>by omega))
  rw [show form+1+(k:Int)=form+((k+1:Nat):Int) by omega] at ih
  rw [downS,← ih]
  exact exC_step h0 om0 hf (fun h=>(hi h).resolve_right om0) (fun h=>hn.resolve_right om0)
theorem exC_if {r:List Tok} (hf:Fin1 r) (hb:isT [105,102] r=true):exC 0 (sN r)=ifS exC (sN r.tail):=by
 rw [exC_eq (form:=0) (s:=sN r) (by omega) (by omega) hf]
 unfold expT
 rw [if_neg (show ¬ (sN r).er.isSome=true from fun h=>Bool.noConfusion h),if_pos ⟨rfl,hb⟩]
 rfl
theorem exC_not {r:List Tok} (hf:Fin1 r) (hb:isT [110,111,116] r=true):exC 3 (sN r)=notS exC (sN r.tail):=by
 rw [exC_eq (form:=3) (s:=sN r) (by omega) (by omega) hf]
 unfold expT
 rw [if_neg (show ¬ (sN r).er.isSome=true from fun h=>Bool.noConfusion h),if_neg (fun x=>absurd x.1 (by decide)),if_neg (by decide),if_pos ⟨rfl,hb⟩]
 rfl
theorem exC_7 {r:List Tok} (hf:Fin1 r):exC 7 (sN r)=primS exC (sN r):=by
 rw [exC_eq (form:=7) (s:=sN r) (by omega) (by omega) hf]
 unfold expT
 rw [if_neg (show ¬ (sN r).er.isSome=true from fun h=>Bool.noConfusion h),if_neg (fun x=>absurd x.1 (by decide)),if_neg (by decide),if_neg (fun x=>absurd x.1 (by decide)),if_pos rfl]
theorem down_ag {n:Nat} {ex:Rec} (hA:HA n ex exC) (hS:RecS ex) {form own:Int} (h0:0≤form) (w0:0≤own) (w7:own≤7) {r:List Tok} {p:Ps Exp} {g:Exp×Sr} (ha:Ag p g) (hp:∀ x r',p=.ok (x,r')→Suf r r') (hf:Fin1 r) (hn:r.length≤n+1) :
  Ag (match p with
   | .error e=>.error e
   | .ok (e,r')=>loopP ex form r'.length e own r') (downS exC (topF own+1-form).toNat form g.1 g.2):=by
 cases e1:p with
 | error e=>exact ag_er ha e1 (down_ss exC_ss _ _ _ _)
 | ok v =>
  obtain ⟨x,r'⟩:=v
  have s1:=hp _ _ e1
  rw [ag_ok ha e1]
  exact loop_ag hA hS exC_ss h0 r'.length own x r' w0 w7 (s1.2 hf) (Nat.le_refl _) (Nat.le_trans s1.le hn)
theorem exp_ag:∀ n:Nat,HA n (expP n) exC
 | 0,form,r,_,_,hf,hn=>absurd (List.length_pos_iff.2 hf.ne) (by omega)
 | n+1,form,r,h0,h7,hf,hn=>by
  have hA:=exp_ag n
  have hS:=expP_suf n
  have htl:=tail_lt hf
  show Ag (expS (expP n) form r) _
  unfold expS prefP
  by_cases c1:form=0∧isT [105,102] r=true
  ·rw [if_pos c1]
   have:=down_ag hA hS h0 (own:=0) (by omega) (by omega) (if_ag hA hS exC_ss (hf.tail (isT_kind c1.2)) (show r.tail.length≤n by omega)) (fun x r' h=>(Suf.tail (isT_kind c1.2)).trans (ifP_suf hS h)) hf hn
   rw [c1.1] at this ⊢
   rw [exC_if hf c1.2]
   rw [show (topF 0+1-0).toNat=0+1 from rfl,downS] at this
   dsimp only [downS] at this
   rw [loop_id (by
    rcases sym_form (nextS (ifS exC (sN r.tail)).2) with h | h
    ·exact .inl h
    ·exact .inr om0)] at this
   cases e1:ifP (expP n) r.tail with
   | error e=>rw [e1] at this;exact this
   | ok v=>rw [e1] at this;exact this
  rw [if_neg c1]
  have hi:form=0→isT [105,102] r=false:=fun h=>by
   cases hb:isT [105,102] r with
   | true=>exact (c1 ⟨h,hb⟩).elim
   | false=>rfl
  by_cases c2:form≤3∧isT [110,111,116] r=true
  ·rw [if_pos c2]
   have:=down_ag hA hS h0 (own:=3) (by omega) (by omega) (not_ag hA (hf.tail (isT_kind c2.2)) (show r.tail.length≤n by omega)) (fun x r' h=>(Suf.tail (isT_kind c2.2)).trans (notP_suf hS h)) hf hn
   rw [exC_down hf (3-form).toNat form h0 (by omega) (fun h=>.inl (hi h)) (.inr (.inl (by omega))),show form+((3-form).toNat:Int)=3 by omega,exC_not hf c2.2]
   rw [show (topF 3+1-form).toNat=(3-form).toNat+1 by show (3+1-form).toNat=_;omega,down_add,show form+((3-form).toNat:Int)=3 by omega,downS] at this
   dsimp only [downS] at this
   rw [loop_id (by
    rcases sym_form (nextS (notS exC (sN r.tail)).2) with h | h
    ·exact .inl h
    ·exact .inr om0)] at this
   cases e1:notP (expP n) r.tail with
   | error e=>rw [e1] at this;exact this
   | ok v=>rw [e1] at this;exact this
  ·rw [if_neg c2]
   have:=down_ag hA hS h0 (own:=7) (by omega) (by omega) (prim_ag hA hS exC_ss hf hn) (fun x r' h=>primP_suf hS h) hf hn
   have hd:isT [110,111,116] r=false∨form+((7-form).toNat:Int)≤3∨3<form:=by
    cases hb:isT [110,111,116] r with
    | true =>
     refine .inr (.inr ?_)
     by_cases h:form≤3
     ·exact (c2 ⟨h,hb⟩).elim
     ·omega
    | false=>exact .inl rfl
   rw [exC_down hf (7-form).toNat form h0 (by omega) (fun h=>.inl (hi h)) hd,show form+((7-form).toNat:Int)=7 by omega,exC_7 hf]
   rw [show (topF 7+1-form).toNat=(7-form).toNat by show (6+1-form).toNat=_;omega] at this
   cases e1:primP (expP n) r with
   | error e=>rw [e1] at this;exact this
   | ok v=>rw [e1] at this;exact this
def indS (s:Sr):Ind×Sr :=
 let a1:=wantS [105,115,115,117,101] s
 let a2:=nameS a1
 let a3:=wantS [111,102] a2.2
 let a4:=nameS a3
 let a5:=wantS [59] a4.2
 let a6:=partS [102,97,99,101] 1 1000000000000000 a5
 let a7:=wantS [102,114,111,109] a6.2
 let a8:=dateS (-1) a7
 let a9:=wantS [116,111] a8.2
 let a10:=dateS a8.1 a9
 let a11:=wantS [101,118,101,114,121] a10.2
 let a12:=numS 1 120 a11
 let a13:=wantS [109,111,110,116,104,115] a12.2
 let a14:=wantS [59] a13
 let a15:=oneS [99,111,117,110,116] cntW a14
 let a16:=oneS [97,100,106,117,115,116] adjW a15.2
 let a17:=partS [114,101,99,111,114,100] 0 100 a16.2
 let a18:=partS [114,97,110,107] 0 9 a17.2
 let a19:=letsS a18.2.r.length [] a18.2
 let a20:=wantS [99,111,117,112,111,110] a19.2
 let a21:=wholeS [59] a20
 let a22:=partS [99,97,112] 0 10000 a21.2
 let a23:=covsS a22.2.r.length [] a22.2
 let a24:=favS a23.2
 let a25:=maybeS [99,114,111,115,115] 1000000000000000 (-1) a24.2
 let a26:=callsS a25.2.r.length [] a25.2
 let a27:=maybeS [110,111,116,105,99,101] 1000 0 a26.2
 let a28:=maybeS [115,105,110,107] 1000 0 a27.2
 let a29:=partS [109,97,106,111,114,105,116,121] 1 1000 a28.2
 let a30:=partS [102,97,115,116] 1 1000 a29.2
 (⟨a2.1,a4.1,a6.1,a8.1,a10.1,a12.1,a15.1,a16.1,a17.1,a18.1,a19.1,a21.1,a22.1,a23.1,a24.1,a25.1,a26.1,a27.1,a28.1,a29.1,a30.1⟩,if a30.2.er.isSome=false∧(nextS a30.2).kind≠3 then failS 12 a30.2 else a30.2)
theorem fin_ss (s:Sr):SS s (if s.er.isSome=false∧(nextS s).kind≠3 then failS 12 s else s):=by
 split
 ·exact fail_ss _ dd0 _
 ·exact .refl _
theorem nTF:¬ true=false:=fun h=>Bool.noConfusion h
theorem whole_ag {w:List UInt8} (hw:w≠[]) {r:List Tok} (hf:Fin1 r):Ag (wholeP w r) (wholeS w (sN r)):=by
 have ha:=exp_ag r.length 0 r (by omega) (by omega) hf (Nat.le_refl _)
 unfold wholeP wholeS
 dsimp only
 cases e1:expP r.length 0 r with
 | error e =>
  rw [e1] at ha
  have ha:(exC 0 (sN r)).2.er=some e:=ha
  rw [ha,if_pos (show (some e).isSome=true from rfl)]
  exact ha
 | ok v =>
 obtain ⟨x,r1⟩:=v
 rw [ag_ok ha e1]
 dsimp only
 rw [if_neg (show ¬ (none:Option Er).isSome=true from fun h=>Bool.noConfusion h)]
 have hi:isS w (sN r1)=isT w r1:=rfl
 rw [hi]
 cases hb:isT w r1 with
 | false =>
  rw [if_pos (show false=false from rfl),if_pos (show w=[]∧(nextS (sN r1)).kind≠3∨w≠[]∧false=false from .inr ⟨hw,rfl⟩)]
  rfl
 | true =>
  rw [if_neg (show ¬ true=false from fun h=>Bool.noConfusion h),if_neg (show ¬ (w=[]∧(nextS (sN r1)).kind≠3∨w≠[]∧true=false) from fun y=>y.elim (fun z=>hw z.1) (fun z=>Bool.noConfusion z.2))]
  by_cases h12:((lev x:Nat):Int)≤12
  ·rw [if_pos h12,if_neg (show ¬ 12<((lev x:Nat):Int) by omega),if_pos hw]
   rfl
  ·rw [if_neg h12,if_pos (show 12<((lev x:Nat):Int) by omega)]
   rfl
theorem part_ag (w:List UInt8) (a b:Int) (r:List Tok):Ag (partP w a b r) (partS w a b (sN r)):=by
 have a1:=want_ag w r
 unfold partP partS
 cases e1:wantP w r with
 | error e=>exact agR_er a1 e1 ((num_ss a b _).trans (want_ss [59] (by decide) _))
 | ok r1 =>
 rw [agR_ok a1 e1]
 dsimp only
 have a2:=num_ag a b r1
 cases e2:numP a b r1 with
 | error e=>exact ag_er a2 e2 (want_ss [59] (by decide) _)
 | ok v =>
 obtain ⟨n,r2⟩:=v
 rw [ag_ok a2 e2]
 dsimp only
 have a3:=want_ag [59] r2
 cases e3:wantP [59] r2 with
 | error e=>exact agR_er a3 e3 (.refl _)
 | ok r3 =>
 rw [agR_ok a3 e3]
 rfl
theorem maybe_ag (w:List UInt8) (a n0:Int) (r:List Tok):Ag (maybeP w a n0 r) (maybeS w a n0 (sN r)):=by
 unfold maybeP maybeS
 have hi:isS w (sN r)=isT w r:=rfl
 rw [hi]
 cases isT w r with
 | true=>exact part_ag w 0 a r
 | false=>rfl
theorem one_ag (w:List UInt8) (ws:List (List UInt8)) (hws:∀ x∈ws,x≠[]) (r:List Tok):Ag (oneP w ws r) (oneS w ws (sN r)):=by
 have a1:=want_ag w r
 unfold oneP oneS
 dsimp only
 cases e1:wantP w r with
 | error e =>
  rw [e1] at a1
  refine agR_er a1 rfl ?_
  have hb:∀ x,x∈ws→isS x (wantS w (sN r))=false:=by
   intro x hx
   have h:(wantS w (sN r)).er=some e:=a1
   cases hi:isS x (wantS w (sN r)) with
   | false=>rfl
   | true =>
    have:=is_none (hws x hx) hi
    rw [h] at this
    cases this
  have hi:idxP (fun x=>isS x (wantS w (sN r))) ws=-1:=idxP_none (d:=[]) (fun j hj=>hb _ (by
   rw [List.getD_eq_getElem?_getD,List.getElem?_eq_getElem hj]
   exact List.getElem_mem _))
  rw [hi,if_pos (by decide)]
  exact fail_ss _ dd0 _
 | ok r1 =>
 rw [agR_ok a1 e1]
 have hx:(fun x=>isS x (sN r1))=(fun x=>isT x r1):=rfl
 rw [hx]
 dsimp only
 by_cases hi:idxP (fun x=>isT x r1) ws<0
 ·rw [if_pos hi,if_pos hi]
  rfl
 rw [if_neg hi,if_neg hi]
 have a2:=want_ag [59] r1.tail
 have ha:advS (sN r1)=sN r1.tail:=rfl
 rw [ha]
 cases e2:wantP [59] r1.tail with
 | error e=>exact agR_er a2 e2 (.refl _)
 | ok r2 =>
 rw [agR_ok a2 e2]
 rfl
theorem date_ag (least:Int) (r:List Tok):Ag (dateP least r) (dateS least (sN r)):=by
 unfold dateP dateS
 dsimp only
 have tl:∀ (y m:Int) (s:Sr),SS s (if (nextS s).kind≠1 then (0,failS 12 s) else if (dayOf y m (nextS s).n).2≠0 then (0,failS 23 s) else if (dayOf y m (nextS s).n).1≤least then (0,failS 3 s) else ((dayOf y m (nextS s).n).1,advS s)).2:=by
  intro y m s
  split
  ·exact fail_ss _ dd0 _
  rename_i hk
  have hk:=Decidable.of_not_not hk
  split
  ·exact fail_ss _ dd0 _
  split
  ·exact fail_ss _ dd0 _
  ·exact adv_ss (by rw [hk];decide) (kind_none hk)
 have a1:=num_ag 0 1000000000000000 r
 cases e1:numP 0 1000000000000000 r with
 | error e=>exact ag_er a1 e1 ((((want_ss [45] (by decide) _).trans (num_ss 0 1000000000000000 _)).trans (want_ss [45] (by decide) _)).trans (tl _ _ _))
 | ok v =>
 obtain ⟨y,r1⟩:=v
 rw [ag_ok a1 e1]
 dsimp only
 have a2:=want_ag [45] r1
 cases e2:wantP [45] r1 with
 | error e=>exact agR_er a2 e2 (((num_ss 0 1000000000000000 _).trans (want_ss [45] (by decide) _)).trans (tl _ _ _))
 | ok r2 =>
 rw [agR_ok a2 e2]
 dsimp only
 have a3:=num_ag 0 1000000000000000 r2
 cases e3:numP 0 1000000000000000 r2 with
 | error e=>exact ag_er a3 e3 ((want_ss [45] (by decide) _).trans (tl _ _ _))
 | ok v =>
 obtain ⟨m,r3⟩:=v
 rw [ag_ok a3 e3]
 dsimp only
 have a4:=want_ag [45] r3
 cases e4:wantP [45] r3 with
 | error e=>exact agR_er a4 e4 (tl _ _ _)
 | ok r4 =>
 rw [agR_ok a4 e4]
 have hx:nextS (sN r4)=hdT r4:=rfl
 dsimp only
 rw [hx]
 by_cases hk:(hdT r4).kind=1
 ·rw [if_neg (not_not_intro hk),if_neg (not_not_intro hk)]
  by_cases h0:(dayOf y m (hdT r4).n).2=0
  ·rw [if_neg (not_not_intro h0),if_neg (not_not_intro h0)]
   by_cases hl:least<(dayOf y m (hdT r4).n).1
   ·rw [if_pos hl,if_neg (by omega)]
    rfl
   ·rw [if_neg hl,if_pos (by omega)]
    rfl
  ·rw [if_pos h0,if_pos h0]
   rfl
 ·rw [if_pos hk,if_pos hk]
  rfl
theorem fresh_ag (names:List (List UInt8)) (r:List Tok):Ag (freshP names r) (freshS names (sN r)):=by
 unfold freshP freshS
 have h1:namedS (sN r)=namedB r:=rfl
 have h2:nextS (sN r)=hdT r:=rfl
 rw [h1,h2]
 cases namedB r with
 | false=>rfl
 | true =>
  rw [if_neg nTF,if_neg nTF]
  split<;>rfl
theorem lets_ag:∀ (f:Nat) (ls:List LetE) (r:List Tok),Fin1 r→(ls.length:Int)≤20→Ag (letsP f ls r) (letsS f ls (sN r))
 | 0,_,_,_,_=>rfl
 | f+1,ls,r,hf,hl=>by
  unfold letsP letsS
  have hi:isS [108,101,116] (sN r)=isT [108,101,116] r:=rfl
  rw [hi]
  cases hb:isT [108,101,116] r with
  | false=>rfl
  | true =>
  rw [if_neg nTF,if_neg nTF]
  by_cases h20:(ls.length:Int)=20
  ·rw [if_pos (show ¬ (ls.length:Int)<20 by omega),if_pos h20]
   rfl
  rw [if_neg (show ¬ ¬ (ls.length:Int)<20 by omega),if_neg h20]
  have ha:advS (sN r)=sN r.tail:=rfl
  rw [ha]
  dsimp only
  have hl':∀ x:LetE,((ls++[x]).length:Int)≤20:=fun x=>by rw [List.length_append];show ((ls.length+1:Nat):Int)≤20;omega
  have f0:=hf.tail (isT_kind hb)
  have t1:=fun (l:List LetE) (s:Sr)=>lets_ss f l s
  have a1:=fresh_ag (ls.map LetE.name) r.tail
  cases e1:freshP (ls.map LetE.name) r.tail with
  | error e=>exact ag_er a1 e1 (((want_ss [61] (by decide) _).trans (whole_ss _ _)).trans (t1 _ _))
  | ok v =>
  obtain ⟨nm,r1⟩:=v
  rw [ag_ok a1 e1]
  dsimp only
  have a2:=want_ag [61] r1
  cases e2:wantP [61] r1 with
  | error e=>exact agR_er a2 e2 ((whole_ss _ _).trans (t1 _ _))
  | ok r2 =>
  rw [agR_ok a2 e2]
  dsimp only
  have f2:=((freshP_suf e1).trans (wantP_suf e2)).2 f0
  have a3:=whole_ag (w:=[59]) (by decide) f2
  cases e3:wholeP [59] r2 with
  | error e=>exact ag_er a3 e3 (t1 _ _)
  | ok v =>
  obtain ⟨x,r3⟩:=v
  rw [ag_ok a3 e3]
  dsimp only
  exact lets_ag f _ r3 ((wholeP_suf e3).2 f2) (hl' _)
theorem covs_ag:∀ (f:Nat) (ls:List Cov) (r:List Tok),Fin1 r→(ls.length:Int)≤20→Ag (covsP f ls r) (covsS f ls (sN r))
 | 0,_,_,_,_=>rfl
 | f+1,ls,r,hf,hl=>by
  unfold covsP covsS
  have hi:isS [99,111,118,101,110,97,110,116] (sN r)=isT [99,111,118,101,110,97,110,116] r:=rfl
  rw [hi]
  cases hb:isT [99,111,118,101,110,97,110,116] r with
  | false=>rfl
  | true =>
  rw [if_neg nTF,if_neg nTF]
  by_cases h20:(ls.length:Int)=20
  ·rw [if_pos (show ¬ (ls.length:Int)<20 by omega),if_pos h20]
   rfl
  rw [if_neg (show ¬ ¬ (ls.length:Int)<20 by omega),if_neg h20]
  have ha:advS (sN r)=sN r.tail:=rfl
  rw [ha]
  dsimp only
  have hl':∀ x:Cov,((ls++[x]).length:Int)≤20:=fun x=>by rw [List.length_append];show ((ls.length+1:Nat):Int)≤20;omega
  have f0:=hf.tail (isT_kind hb)
  have t1:=fun (l:List Cov) (s:Sr)=>covs_ss f l s
  have a1:=fresh_ag (ls.map Cov.name) r.tail
  cases e1:freshP (ls.map Cov.name) r.tail with
  | error e=>exact ag_er a1 e1 ((((want_ss [109,117,115,116] (by decide) _).trans (whole_ss _ _)).trans (num_ss _ _ _)).trans ((want_ss [59] (by decide) _).trans (t1 _ _)))
  | ok v =>
  obtain ⟨nm,r1⟩:=v
  rw [ag_ok a1 e1]
  dsimp only
  have a2:=want_ag [109,117,115,116] r1
  cases e2:wantP [109,117,115,116] r1 with
  | error e=>exact agR_er a2 e2 (((whole_ss _ _).trans (num_ss _ _ _)).trans ((want_ss [59] (by decide) _).trans (t1 _ _)))
  | ok r2 =>
  rw [agR_ok a2 e2]
  dsimp only
  have f2:=((freshP_suf e1).trans (wantP_suf e2)).2 f0
  have a3:=whole_ag (w:=[103,114,97,99,101]) (by decide) f2
  cases e3:wholeP [103,114,97,99,101] r2 with
  | error e=>exact ag_er a3 e3 ((num_ss _ _ _).trans ((want_ss [59] (by decide) _).trans (t1 _ _)))
  | ok v =>
  obtain ⟨x,r3⟩:=v
  rw [ag_ok a3 e3]
  dsimp only
  have f3:=(wholeP_suf e3).2 f2
  have a4:=num_ag 0 1000 r3
  cases e4:numP 0 1000 r3 with
  | error e=>exact ag_er a4 e4 ((want_ss [59] (by decide) _).trans (t1 _ _))
  | ok v =>
  obtain ⟨n,r4⟩:=v
  rw [ag_ok a4 e4]
  dsimp only
  have a5:=want_ag [59] r4
  cases e5:wantP [59] r4 with
  | error e=>exact agR_er a5 e5 (t1 _ _)
  | ok r5 =>
  rw [agR_ok a5 e5]
  dsimp only
  exact covs_ag f _ r5 (((numP_suf e4).1.trans (wantP_suf e5)).2 f3) (hl' _)
theorem calls_ag:∀ (f:Nat) (ls:List CallE) (r:List Tok),Fin1 r→(ls.length:Int)≤20→Ag (callsP f ls r) (callsS f ls (sN r))
 | 0,_,_,_,_=>rfl
 | f+1,ls,r,hf,hl=>by
  unfold callsP callsS
  have hi:isS [99,97,108,108] (sN r)=isT [99,97,108,108] r:=rfl
  rw [hi]
  cases hb:isT [99,97,108,108] r with
  | false=>rfl
  | true =>
  rw [if_neg nTF,if_neg nTF]
  by_cases h20:(ls.length:Int)=20
  ·rw [if_pos (show ¬ (ls.length:Int)<20 by omega),if_pos h20]
   rfl
  rw [if_neg (show ¬ ¬ (ls.length:Int)<20 by omega),if_neg h20]
  have ha:advS (sN r)=sN r.tail:=rfl
  rw [ha]
  dsimp only
  have hl':∀ x:CallE,((ls++[x]).length:Int)≤20:=fun x=>by rw [List.length_append];show ((ls.length+1:Nat):Int)≤20;omega
  have f0:=hf.tail (isT_kind hb)
  have t1:=fun (l:List CallE) (s:Sr)=>calls_ss f l s
  have a1:=date_ag (-1) r.tail
  cases e1:dateP (-1) r.tail with
  | error e=>exact ag_er a1 e1 (((want_ss [97,116] (by decide) _).trans (num_ss _ _ _)).trans ((want_ss [59] (by decide) _).trans (t1 _ _)))
  | ok v =>
  obtain ⟨d,r1⟩:=v
  rw [ag_ok a1 e1]
  dsimp only
  have a2:=want_ag [97,116] r1
  cases e2:wantP [97,116] r1 with
  | error e=>exact agR_er a2 e2 ((num_ss _ _ _).trans ((want_ss [59] (by decide) _).trans (t1 _ _)))
  | ok r2 =>
  rw [agR_ok a2 e2]
  dsimp only
  have f2:=((dateP_suf e1).trans (wantP_suf e2)).2 f0
  have a4:=num_ag 0 10000 r2
  cases e4:numP 0 10000 r2 with
  | error e=>exact ag_er a4 e4 ((want_ss [59] (by decide) _).trans (t1 _ _))
  | ok v =>
  obtain ⟨n,r4⟩:=v
  rw [ag_ok a4 e4]
  dsimp only
  have a5:=want_ag [59] r4
  cases e5:wantP [59] r4 with
  | error e=>exact agR_er a5 e5 (t1 _ _)
  | ok r5 =>
  rw [agR_ok a5 e5]
  dsimp only
  exact calls_ag f _ r5 (((numP_suf e4).1.trans (wantP_suf e5)).2 f2) (hl' _)
theorem favQ_ag:∀ (f g:Nat) (ls:List (List UInt8)) (r:List Tok),Fin1 r→r.length≤f→r.length<g→(ls.length:Int)≤20→Ag (favK (favL f ls r)) (favQ g ls (sN r))
 | 0,_,_,r,hf,h,_,_=>absurd (List.length_pos_iff.2 hf.ne) (by omega)
 | _+1,0,_,_,_,_,h,_=>absurd h (Nat.not_lt_zero _)
 | f+1,g+1,ls,r,hf,h1,h2,hl=>by
  unfold favL favQ
  have hi:isS [59] (sN r)=isT [59] r:=rfl
  have hn:namedS (sN r)=namedB r:=rfl
  rw [hi,hn]
  have he:(sN r).er.isSome=false:=rfl
  by_cases hc:ls.length=0∨isT [59] r=false
  ·rw [if_pos hc,if_pos (show (sN r).er.isSome=false∧((ls.length:Int)=0∨isT [59] r=false) from ⟨he,hc.imp (fun h=>by omega) id⟩)]
   cases hb:namedB r with
   | false =>
    rw [if_pos (show false=false from rfl),if_neg (show ¬ ((ls.length:Int)=20∧false=true) from fun y=>Bool.noConfusion y.2)]
    have hfr:(freshS ls (sN r)).2.er=some ((hdT r).pos,12):=by
     unfold freshS
     rw [hn,hb,if_pos (show false=false from rfl)]
     rfl
    exact (favQ_ss g _ _).keep _ hfr
   | true =>
   rw [if_neg nTF]
   by_cases h20:(ls.length:Int)=20
   ·rw [if_pos (show ¬ (ls.length:Int)<20 by omega),if_pos (show (ls.length:Int)=20∧true=true from ⟨h20,rfl⟩)]
    rfl
   rw [if_neg (show ¬ ¬ (ls.length:Int)<20 by omega),if_neg (show ¬ ((ls.length:Int)=20∧true=true) from fun y=>h20 y.1)]
   have a1:=fresh_ag ls r
   cases e1:freshP ls r with
   | error e=>exact ag_er a1 e1 (favQ_ss g _ _)
   | ok v =>
   obtain ⟨nm,r1⟩:=v
   rw [ag_ok a1 e1]
   dsimp only
   have hr1:r1=r.tail:=by
    unfold freshP at e1
    split at e1
    ·cases e1
    split at e1
    ·cases e1
    ·cases e1;rfl
   have ht:=tail_lt hf
   refine favQ_ag f g _ r1 ((freshP_suf e1).2 hf) (by rw [hr1];omega) (by rw [hr1];omega) ?_
   rw [List.length_append]
   show ((ls.length+1:Nat):Int)≤20
   omega
  ·rw [if_neg hc,if_neg (show ¬ ((sN r).er.isSome=false∧((ls.length:Int)=0∨isT [59] r=false)) from fun y=>hc (y.2.imp (fun h=>by omega) id))]
   have a1:=want_ag [59] r
   unfold favK
   dsimp only
   cases e1:wantP [59] r with
   | error e=>exact agR_er a1 e1 (.refl _)
   | ok r1 =>
    rw [agR_ok a1 e1]
    rfl
theorem fav_ag {r:List Tok} (hf:Fin1 r):Ag (favP r) (favS (sN r)):=by
 have hi:isS [102,97,118,111,117,114] (sN r)=isT [102,97,118,111,117,114] r:=rfl
 unfold favP favS
 rw [hi]
 cases hb:isT [102,97,118,111,117,114] r with
 | false=>rfl
 | true =>
  rw [if_neg nTF,if_neg nTF]
  exact favQ_ag r.tail.length (mS (sN r.tail)+1) [] r.tail (hf.tail (isT_kind hb)) (Nat.le_refl _) (Nat.lt_succ_self _) dd0
set_option maxHeartbeats 4000000
theorem ind_ag {r:List Tok} (hf:Fin1 r):Ag (indP r) (indS (sN r)):=by
 obtain ⟨a1,h1⟩:∃ a,a=wantS [105,115,115,117,101] (sN r):=⟨_,rfl⟩
 obtain ⟨a2,h2⟩:∃ a,a=nameS a1:=⟨_,rfl⟩
 obtain ⟨a3,h3⟩:∃ a,a=wantS [111,102] a2.2:=⟨_,rfl⟩
 obtain ⟨a4,h4⟩:∃ a,a=nameS a3:=⟨_,rfl⟩
 obtain ⟨a5,h5⟩:∃ a,a=wantS [59] a4.2:=⟨_,rfl⟩
 obtain ⟨a6,h6⟩:∃ a,a=partS [102,97,99,101] 1 1000000000000000 a5:=⟨_,rfl⟩
 obtain ⟨a7,h7⟩:∃ a,a=wantS [102,114,111,109] a6.2:=⟨_,rfl⟩
 obtain ⟨a8,h8⟩:∃ a,a=dateS (-1) a7:=⟨_,rfl⟩
 obtain ⟨a9,h9⟩:∃ a,a=wantS [116,111] a8.2:=⟨_,rfl⟩
 obtain ⟨a10,h10⟩:∃ a,a=dateS a8.1 a9:=⟨_,rfl⟩
 obtain ⟨a11,h11⟩:∃ a,a=wantS [101,118,101,114,121] a10.2:=⟨_,rfl⟩
 obtain ⟨a12,h12⟩:∃ a,a=numS 1 120 a11:=⟨_,rfl⟩
 obtain ⟨a13,h13⟩:∃ a,a=wantS [109,111,110,116,104,115] a12.2:=⟨_,rfl⟩
 obtain ⟨a14,h14⟩:∃ a,a=wantS [59] a13:=⟨_,rfl⟩
 obtain ⟨a15,h15⟩:∃ a,a=oneS [99,111,117,110,116] cntW a14:=⟨_,rfl⟩
 obtain ⟨a16,h16⟩:∃ a,a=oneS [97,100,106,117,115,116] adjW a15.2:=⟨_,rfl⟩
 obtain ⟨a17,h17⟩:∃ a,a=partS [114,101,99,111,114,100] 0 100 a16.2:=⟨_,rfl⟩
 obtain ⟨a18,h18⟩:∃ a,a=partS [114,97,110,107] 0 9 a17.2:=⟨_,rfl⟩
 obtain ⟨a19,h19⟩:∃ a,a=letsS a18.2.r.length [] a18.2:=⟨_,rfl⟩
 obtain ⟨a20,h20⟩:∃ a,a=wantS [99,111,117,112,111,110] a19.2:=⟨_,rfl⟩
 obtain ⟨a21,h21⟩:∃ a,a=wholeS [59] a20:=⟨_,rfl⟩
 obtain ⟨a22,h22⟩:∃ a,a=partS [99,97,112] 0 10000 a21.2:=⟨_,rfl⟩
 obtain ⟨a23,h23⟩:∃ a,a=covsS a22.2.r.length [] a22.2:=⟨_,rfl⟩
 obtain ⟨a24,h24⟩:∃ a,a=favS a23.2:=⟨_,rfl⟩
 obtain ⟨a25,h25⟩:∃ a,a=maybeS [99,114,111,115,115] 1000000000000000 (-1) a24.2:=⟨_,rfl⟩
 obtain ⟨a26,h26⟩:∃ a,a=callsS a25.2.r.length [] a25.2:=⟨_,rfl⟩
 obtain ⟨a27,h27⟩:∃ a,a=maybeS [110,111,116,105,99,101] 1000 0 a26.2:=⟨_,rfl⟩
 obtain ⟨a28,h28⟩:∃ a,a=maybeS [115,105,110,107] 1000 0 a27.2:=⟨_,rfl⟩
 obtain ⟨a29,h29⟩:∃ a,a=partS [109,97,106,111,114,105,116,121] 1 1000 a28.2:=⟨_,rfl⟩
 obtain ⟨a30,h30⟩:∃ a,a=partS [102,97,115,116] 1 1000 a29.2:=⟨_,rfl⟩
 have hv:indS (sN r)=(⟨a2.1,a4.1,a6.1,a8.1,a10.1,a12.1,a15.1,a16.1,a17.1,a18.1,a19.1,a21.1,a22.1,a23.1,a24.1,a25.1,a26.1,a27.1,a28.1,a29.1,a30.1⟩,if a30.2.er.isSome=false∧(nextS a30.2).kind≠3 then failS 12 a30.2 else a30.2):=by subst_vars;rfl
 rw [hv]
 have t30:=fin_ss a30.2
 have t29:SS a29.2 _:=(show SS a29.2 a30.2 by rw [h30];exact part_ss [102,97,115,116] (by decide) _ _ _).trans t30
 have t28:SS a28.2 _:=(show SS a28.2 a29.2 by rw [h29];exact part_ss [109,97,106,111,114,105,116,121] (by decide) _ _ _).trans t29
 have t27:SS a27.2 _:=(show SS a27.2 a28.2 by rw [h28];exact maybe_ss [115,105,110,107] (by decide) _ _ _).trans t28
 have t26:SS a26.2 _:=(show SS a26.2 a27.2 by rw [h27];exact maybe_ss [110,111,116,105,99,101] (by decide) _ _ _).trans t27
 have t25:SS a25.2 _:=(show SS a25.2 a26.2 by rw [h26];exact calls_ss _ _ _).trans t26
 have t24:SS a24.2 _:=(show SS a24.2 a25.2 by rw [h25];exact maybe_ss [99,114,111,115,115] (by decide) _ _ _).trans t25
 have t23:SS a23.2 _:=(show SS a23.2 a24.2 by rw [h24];exact fav_ss _).trans t24
 have t22:SS a22.2 _:=(show SS a22.2 a23.2 by rw [h23];exact covs_ss _ _ _).trans t23
 have t21:SS a21.2 _:=(show SS a21.2 a22.2 by rw [h22];exact part_ss [99,97,112] (by decide) _ _ _).trans t22
 have t20:SS a20 _:=(show SS a20 a21.2 by rw [h21];exact whole_ss _ _).trans t21
 have t19:SS a19.2 _:=(show SS a19.2 a20 by rw [h20];exact want_ss [99,111,117,112,111,110] (by decide) _).trans t20
 have t18:SS a18.2 _:=(show SS a18.2 a19.2 by rw [h19];exact lets_ss _ _ _).trans t19
 have t17:SS a17.2 _:=(show SS a17.2 a18.2 by rw [h18];exact part_ss [114,97,110,107] (by decide) _ _ _).trans t18
 have t16:SS a16.2 _:=(show SS a16.2 a17.2 by rw [h17];exact part_ss [114,101,99,111,114,100] (by decide) _ _ _).trans t17
 have t15:SS a15.2 _:=(show SS a15.2 a16.2 by rw [h16];exact one_ss [97,100,106,117,115,116] (by decide) adjW (by decide) _).trans t16
 have t14:SS a14 _:=(show SS a14 a15.2 by rw [h15];exact one_ss [99,111,117,110,116] (by decide) cntW (by decide) _).trans t15
 have t13:SS a13 _:=(show SS a13 a14 by rw [h14];exact want_ss [59] (by decide) _).trans t14
 have t12:SS a12.2 _:=(show SS a12.2 a13 by rw [h13];exact want_ss [109,111,110,116,104,115] (by decide) _).trans t13
 have t11:SS a11 _:=(show SS a11 a12.2 by rw [h12];exact num_ss _ _ _).trans t12
 have t10:SS a10.2 _:=(show SS a10.2 a11 by rw [h11];exact want_ss [101,118,101,114,121] (by decide) _).trans t11
 have t9:SS a9 _:=(show SS a9 a10.2 by rw [h10];exact date_ss _ _).trans t10
 have t8:SS a8.2 _:=(show SS a8.2 a9 by rw [h9];exact want_ss [116,111] (by decide) _).trans t9
 have t7:SS a7 _:=(show SS a7 a8.2 by rw [h8];exact date_ss _ _).trans t8
 have t6:SS a6.2 _:=(show SS a6.2 a7 by rw [h7];exact want_ss [102,114,111,109] (by decide) _).trans t7
 have t5:SS a5 _:=(show SS a5 a6.2 by rw [h6];exact part_ss [102,97,99,101] (by decide) _ _ _).trans t6
 have t4:SS a4.2 _:=(show SS a4.2 a5 by rw [h5];exact want_ss [59] (by decide) _).trans t5
 have t3:SS a3 _:=(show SS a3 a4.2 by rw [h4];exact name_ss _).trans t4
 have t2:SS a2.2 _:=(show SS a2.2 a3 by rw [h3];exact want_ss [111,102] (by decide) _).trans t3
 have t1:SS a1 _:=(show SS a1 a2.2 by rw [h2];exact name_ss _).trans t2
 have g1:AgR (wantP [105,115,115,117,101] r) a1:=by rw [h1];exact want_ag _ _
 rcases e1:wantP [105,115,115,117,101] r with e | r1
 ·rw [e1] at g1
  have hi:indP r=.error e:=by simp only [indP,wantsP,e1,ok_bind,er_bind]
  rw [hi]
  exact t1.keep e g1
 have p1:=agR_ok g1 e1
 have f1:Fin1 r1:=(wantP_suf e1).2 hf
 have g2:Ag (nameP r1) a2:=by rw [h2,p1];exact name_ag _
 rcases e2:nameP r1 with e | ⟨x2,r2⟩
 ·rw [e2] at g2
  have hi:indP r=.error e:=by simp only [indP,wantsP,e1,e2,ok_bind,er_bind]
  rw [hi]
  exact t2.keep e g2
 have v2:=ag_ok g2 e2
 have p2:a2.2=sN r2:=by rw [v2]
 have f2:Fin1 r2:=(nameP_suf e2).2 f1
 have g3:AgR (wantP [111,102] r2) a3:=by rw [h3,p2];exact want_ag _ _
 rcases e3:wantP [111,102] r2 with e | r3
 ·rw [e3] at g3
  have hi:indP r=.error e:=by simp only [indP,wantsP,e1,e2,e3,ok_bind,er_bind]
  rw [hi]
  exact t3.keep e g3
 have p3:=agR_ok g3 e3
 have f3:Fin1 r3:=(wantP_suf e3).2 f2
 have g4:Ag (nameP r3) a4:=by rw [h4,p3];exact name_ag _
 rcases e4:nameP r3 with e | ⟨x4,r4⟩
 ·rw [e4] at g4
  have hi:indP r=.error e:=by simp only [indP,wantsP,e1,e2,e3,e4,ok_bind,er_bind]
  rw [hi]
  exact t4.keep e g4
 have v4:=ag_ok g4 e4
 have p4:a4.2=sN r4:=by rw [v4]
 have f4:Fin1 r4:=(nameP_suf e4).2 f3
 have g5:AgR (wantP [59] r4) a5:=by rw [h5,p4];exact want_ag _ _
 rcases e5:wantP [59] r4 with e | r5
 ·rw [e5] at g5
  have hi:indP r=.error e:=by simp only [indP,wantsP,e1,e2,e3,e4,e5,ok_bind,er_bind]
  rw [hi]
  exact t5.keep e g5
 have p5:=agR_ok g5 e5
 have f5:Fin1 r5:=(wantP_suf e5).2 f4
 have g6:Ag (partP [102,97,99,101] 1 1000000000000000 r5) a6:=by rw [h6,p5];exact part_ag _ _ _ _
 rcases e6:partP [102,97,99,101] 1 1000000000000000 r5 with e | ⟨x6,r6⟩
 ·rw [e6] at g6
  have hi:indP r=.error e:=by simp only [indP,wantsP,e1,e2,e3,e4,e5,e6,ok_bind,er_bind]
  rw [hi]
  exact t6.keep e g6
 have v6:=ag_ok g6 e6
 have p6:a6.2=sN r6:=by rw [v6]
 have f6:Fin1 r6:=(partP_suf e6).2 f5
 have g7:AgR (wantP [102,114,111,109] r6) a7:=by rw [h7,p6];exact want_ag _ _
 rcases e7:wantP [102,114,111,109] r6 with e | r7
 ·rw [e7] at g7
  have hi:indP r=.error e:=by simp only [indP,wantsP,e1,e2,e3,e4,e5,e6,e7,ok_bind,er_bind]
  rw [hi]
  exact t7.keep e g7
 have p7:=agR_ok g7 e7
 have f7:Fin1 r7:=(wantP_suf e7).2 f6
 have g8:Ag (dateP (-1) r7) a8:=by rw [h8,p7];exact date_ag _ _
 rcases e8:dateP (-1) r7 with e | ⟨x8,r8⟩
 ·rw [e8] at g8
  have hi:indP r=.error e:=by simp only [indP,wantsP,e1,e2,e3,e4,e5,e6,e7,e8,ok_bind,er_bind]
  rw [hi]
  exact t8.keep e g8
 have v8:=ag_ok g8 e8
 have p8:a8.2=sN r8:=by rw [v8]
 have f8:Fin1 r8:=(dateP_suf e8).2 f7
 have g9:AgR (wantP [116,111] r8) a9:=by rw [h9,p8];exact want_ag _ _
 rcases e9:wantP [116,111] r8 with e | r9
 ·rw [e9] at g9
  have hi:indP r=.error e:=by simp only [indP,wantsP,e1,e2,e3,e4,e5,e6,e7,e8,e9,ok_bind,er_bind]
  rw [hi]
  exact t9.keep e g9
 have p9:=agR_ok g9 e9
 have f9:Fin1 r9:=(wantP_suf e9).2 f8
 have g10:Ag (dateP x8 r9) a10:=by rw [h10,p9,v8];exact date_ag _ _
 rcases e10:dateP x8 r9 with e | ⟨x10,r10⟩
 ·rw [e10] at g10
  have hi:indP r=.error e:=by simp only [indP,wantsP,e1,e2,e3,e4,e5,e6,e7,e8,e9,e10,ok_bind,er_bind]
  rw [hi]
  exact t10.keep e g10
 have v10:=ag_ok g10 e10
 have p10:a10.2=sN r10:=by rw [v10]
 have f10:Fin1 r10:=(dateP_suf e10).2 f9
 have g11:AgR (wantP [101,118,101,114,121] r10) a11:=by rw [h11,p10];exact want_ag _ _
 rcases e11:wantP [101,118,101,114,121] r10 with e | r11
 ·rw [e11] at g11
  have hi:indP r=.error e:=by simp only [indP,wantsP,e1,e2,e3,e4,e5,e6,e7,e8,e9,e10,e11,ok_bind,er_bind]
  rw [hi]
  exact t11.keep e g11
 have p11:=agR_ok g11 e11
 have f11:Fin1 r11:=(wantP_suf e11).2 f10
 have g12:Ag (numP 1 120 r11) a12:=by rw [h12,p11];exact num_ag _ _ _
 rcases e12:numP 1 120 r11 with e | ⟨x12,r12⟩
 ·rw [e12] at g12
  have hi:indP r=.error e:=by simp only [indP,wantsP,e1,e2,e3,e4,e5,e6,e7,e8,e9,e10,e11,e12,ok_bind,er_bind]
  rw [hi]
  exact t12.keep e g12
 have v12:=ag_ok g12 e12
 have p12:a12.2=sN r12:=by rw [v12]
 have f12:Fin1 r12:=((numP_suf e12).1).2 f11
 have g13:AgR (wantP [109,111,110,116,104,115] r12) a13:=by rw [h13,p12];exact want_ag _ _
 rcases e13:wantP [109,111,110,116,104,115] r12 with e | r13
 ·rw [e13] at g13
  have hi:indP r=.error e:=by simp only [indP,wantsP,e1,e2,e3,e4,e5,e6,e7,e8,e9,e10,e11,e12,e13,ok_bind,er_bind]
  rw [hi]
  exact t13.keep e g13
 have p13:=agR_ok g13 e13
 have f13:Fin1 r13:=(wantP_suf e13).2 f12
 have g14:AgR (wantP [59] r13) a14:=by rw [h14,p13];exact want_ag _ _
 rcases e14:wantP [59] r13 with e | r14
 ·rw [e14] at g14
  have hi:indP r=.error e:=by simp only [indP,wantsP,e1,e2,e3,e4,e5,e6,e7,e8,e9,e10,e11,e12,e13,e14,ok_bind,er_bind]
  rw [hi]
  exact t14.keep e g14
 have p14:=agR_ok g14 e14
 have f14:Fin1 r14:=(wantP_suf e14).2 f13
 have g15:Ag (oneP [99,111,117,110,116] cntW r14) a15:=by rw [h15,p14];exact one_ag _ _ (by decide) _
 rcases e15:oneP [99,111,117,110,116] cntW r14 with e | ⟨x15,r15⟩
 ·rw [e15] at g15
  have hi:indP r=.error e:=by simp only [indP,wantsP,e1,e2,e3,e4,e5,e6,e7,e8,e9,e10,e11,e12,e13,e14,e15,ok_bind,er_bind]
  rw [hi]
  exact t15.keep e g15
 have v15:=ag_ok g15 e15
 have p15:a15.2=sN r15:=by rw [v15]
 have f15:Fin1 r15:=(oneP_suf e15).2 f14
 have g16:Ag (oneP [97,100,106,117,115,116] adjW r15) a16:=by rw [h16,p15];exact one_ag _ _ (by decide) _
 rcases e16:oneP [97,100,106,117,115,116] adjW r15 with e | ⟨x16,r16⟩
 ·rw [e16] at g16
  have hi:indP r=.error e:=by simp only [indP,wantsP,e1,e2,e3,e4,e5,e6,e7,e8,e9,e10,e11,e12,e13,e14,e15,e16,ok_bind,er_bind]
  rw [hi]
  exact t16.keep e g16
 have v16:=ag_ok g16 e16
 have p16:a16.2=sN r16:=by rw [v16]
 have f16:Fin1 r16:=(oneP_suf e16).2 f15
 have g17:Ag (partP [114,101,99,111,114,100] 0 100 r16) a17:=by rw [h17,p16];exact part_ag _ _ _ _
 rcases e17:partP [114,101,99,111,114,100] 0 100 r16 with e | ⟨x17,r17⟩
 ·rw [e17] at g17
  have hi:indP r=.error e:=by simp only [indP,wantsP,e1,e2,e3,e4,e5,e6,e7,e8,e9,e10,e11,e12,e13,e14,e15,e16,e17,ok_bind,er_bind]
  rw [hi]
  exact t17.keep e g17
 have v17:=ag_ok g17 e17
 have p17:a17.2=sN r17:=by rw [v17]
 have f17:Fin1 r17:=(partP_suf e17).2 f16
 have g18:Ag (partP [114,97,110,107] 0 9 r17) a18:=by rw [h18,p17];exact part_ag _ _ _ _
 rcases e18:partP [114,97,110,107] 0 9 r17 with e | ⟨x18,r18⟩
 ·rw [e18] at g18
  have hi:indP r=.error e:=by simp only [indP,wantsP,e1,e2,e3,e4,e5,e6,e7,e8,e9,e10,e11,e12,e13,e14,e15,e16,e17,e18,ok_bind,er_bind]
  rw [hi]
  exact t18.keep e g18
 have v18:=ag_ok g18 e18
 have p18:a18.2=sN r18:=by rw [v18]
 have f18:Fin1 r18:=(partP_suf e18).2 f17
 have g19:Ag (letsP r18.length [] r18) a19:=by rw [h19,p18];exact lets_ag _ _ _ f18 (by decide)
 rcases e19:letsP r18.length [] r18 with e | ⟨x19,r19⟩
 ·rw [e19] at g19
  have hi:indP r=.error e:=by simp only [indP,wantsP,e1,e2,e3,e4,e5,e6,e7,e8,e9,e10,e11,e12,e13,e14,e15,e16,e17,e18,e19,ok_bind,er_bind]
  rw [hi]
  exact t19.keep e g19
 have v19:=ag_ok g19 e19
 have p19:a19.2=sN r19:=by rw [v19]
 have f19:Fin1 r19:=(letsP_suf _ e19).2 f18
 have g20:AgR (wantP [99,111,117,112,111,110] r19) a20:=by rw [h20,p19];exact want_ag _ _
 rcases e20:wantP [99,111,117,112,111,110] r19 with e | r20
 ·rw [e20] at g20
  have hi:indP r=.error e:=by simp only [indP,wantsP,e1,e2,e3,e4,e5,e6,e7,e8,e9,e10,e11,e12,e13,e14,e15,e16,e17,e18,e19,e20,ok_bind,er_bind]
  rw [hi]
  exact t20.keep e g20
 have p20:=agR_ok g20 e20
 have f20:Fin1 r20:=(wantP_suf e20).2 f19
 have g21:Ag (wholeP [59] r20) a21:=by rw [h21,p20];exact whole_ag (by decide) f20
 rcases e21:wholeP [59] r20 with e | ⟨x21,r21⟩
 ·rw [e21] at g21
  have hi:indP r=.error e:=by simp only [indP,wantsP,e1,e2,e3,e4,e5,e6,e7,e8,e9,e10,e11,e12,e13,e14,e15,e16,e17,e18,e19,e20,e21,ok_bind,er_bind]
  rw [hi]
  exact t21.keep e g21
 have v21:=ag_ok g21 e21
 have p21:a21.2=sN r21:=by rw [v21]
 have f21:Fin1 r21:=(wholeP_suf e21).2 f20
 have g22:Ag (partP [99,97,112] 0 10000 r21) a22:=by rw [h22,p21];exact part_ag _ _ _ _
 rcases e22:partP [99,97,112] 0 10000 r21 with e | ⟨x22,r22⟩
 ·rw [e22] at g22
  have hi:indP r=.error e:=by simp only [indP,wantsP,e1,e2,e3,e4,e5,e6,e7,e8,e9,e10,e11,e12,e13,e14,e15,e16,e17,e18,e19,e20,e21,e22,ok_bind,er_bind]
  rw [hi]
  exact t22.keep e g22
 have v22:=ag_ok g22 e22
 have p22:a22.2=sN r22:=by rw [v22]
 have f22:Fin1 r22:=(partP_suf e22).2 f21
 have g23:Ag (covsP r22.length [] r22) a23:=by rw [h23,p22];exact covs_ag _ _ _ f22 (by decide)
 rcases e23:covsP r22.length [] r22 with e | ⟨x23,r23⟩
 ·rw [e23] at g23
  have hi:indP r=.error e:=by simp only [indP,wantsP,e1,e2,e3,e4,e5,e6,e7,e8,e9,e10,e11,e12,e13,e14,e15,e16,e17,e18,e19,e20,e21,e22,e23,ok_bind,er_bind]
  rw [hi]
  exact t23.keep e g23
 have v23:=ag_ok g23 e23
 have p23:a23.2=sN r23:=by rw [v23]
 have f23:Fin1 r23:=(covsP_suf _ e23).2 f22
 have g24:Ag (favP r23) a24:=by rw [h24,p23];exact fav_ag f23
 rcases e24:favP r23 with e | ⟨x24,r24⟩
 ·rw [e24] at g24
  have hi:indP r=.error e:=by simp only [indP,wantsP,e1,e2,e3,e4,e5,e6,e7,e8,e9,e10,e11,e12,e13,e14,e15,e16,e17,e18,e19,e20,e21,e22,e23,e24,ok_bind,er_bind]
  rw [hi]
  exact t24.keep e g24
 have v24:=ag_ok g24 e24
 have p24:a24.2=sN r24:=by rw [v24]
 have f24:Fin1 r24:=(favP_suf e24).2 f23
 have g25:Ag (maybeP [99,114,111,115,115] 1000000000000000 (-1) r24) a25:=by rw [h25,p24];exact maybe_ag _ _ _ _
 rcases e25:maybeP [99,114,111,115,115] 1000000000000000 (-1) r24 with e | ⟨x25,r25⟩
 ·rw [e25] at g25
  have hi:indP r=.error e:=by simp only [indP,wantsP,e1,e2,e3,e4,e5,e6,e7,e8,e9,e10,e11,e12,e13,e14,e15,e16,e17,e18,e19,e20,e21,e22,e23,e24,e25,ok_bind,er_bind]
  rw [hi]
  exact t25.keep e g25
 have v25:=ag_ok g25 e25
 have p25:a25.2=sN r25:=by rw [v25]
 have f25:Fin1 r25:=(maybeP_suf e25).2 f24
 have g26:Ag (callsP r25.length [] r25) a26:=by rw [h26,p25];exact calls_ag _ _ _ f25 (by decide)
 rcases e26:callsP r25.length [] r25 with e | ⟨x26,r26⟩
 ·rw [e26] at g26
  have hi:indP r=.error e:=by simp only [indP,wantsP,e1,e2,e3,e4,e5,e6,e7,e8,e9,e10,e11,e12,e13,e14,e15,e16,e17,e18,e19,e20,e21,e22,e23,e24,e25,e26,ok_bind,er_bind]
  rw [hi]
  exact t26.keep e g26
 have v26:=ag_ok g26 e26
 have p26:a26.2=sN r26:=by rw [v26]
 have f26:Fin1 r26:=(callsP_suf _ e26).2 f25
 have g27:Ag (maybeP [110,111,116,105,99,101] 1000 0 r26) a27:=by rw [h27,p26];exact maybe_ag _ _ _ _
 rcases e27:maybeP [110,111,116,105,99,101] 1000 0 r26 with e | ⟨x27,r27⟩
 ·rw [e27] at g27
  have hi:indP r=.error e:=by simp only [indP,wantsP,e1,e2,e3,e4,e5,e6,e7,e8,e9,e10,e11,e12,e13,e14,e15,e16,e17,e18,e19,e20,e21,e22,e23,e24,e25,e26,e27,ok_bind,er_bind]
  rw [hi]
  exact t27.keep e g27
 have v27:=ag_ok g27 e27
 have p27:a27.2=sN r27:=by rw [v27]
 have f27:Fin1 r27:=(maybeP_suf e27).2 f26
 have g28:Ag (maybeP [115,105,110,107] 1000 0 r27) a28:=by rw [h28,p27];exact maybe_ag _ _ _ _
 rcases e28:maybeP [115,105,110,107] 1000 0 r27 with e | ⟨x28,r28⟩
 ·rw [e28] at g28
  have hi:indP r=.error e:=by simp only [indP,wantsP,e1,e2,e3,e4,e5,e6,e7,e8,e9,e10,e11,e12,e13,e14,e15,e16,e17,e18,e19,e20,e21,e22,e23,e24,e25,e26,e27,e28,ok_bind,er_bind]
  rw [hi]
  exact t28.keep e g28
 have v28:=ag_ok g28 e28
 have p28:a28.2=sN r28:=by rw [v28]
 have f28:Fin1 r28:=(maybeP_suf e28).2 f27
 have g29:Ag (partP [109,97,106,111,114,105,116,121] 1 1000 r28) a29:=by rw [h29,p28];exact part_ag _ _ _ _
 rcases e29:partP [109,97,106,111,114,105,116,121] 1 1000 r28 with e | ⟨x29,r29⟩
 ·rw [e29] at g29
  have hi:indP r=.error e:=by simp only [indP,wantsP,e1,e2,e3,e4,e5,e6,e7,e8,e9,e10,e11,e12,e13,e14,e15,e16,e17,e18,e19,e20,e21,e22,e23,e24,e25,e26,e27,e28,e29,ok_bind,er_bind]
  rw [hi]
  exact t29.keep e g29
 have v29:=ag_ok g29 e29
 have p29:a29.2=sN r29:=by rw [v29]
 have f29:Fin1 r29:=(partP_suf e29).2 f28
 have g30:Ag (partP [102,97,115,116] 1 1000 r29) a30:=by rw [h30,p29];exact part_ag _ _ _ _
 rcases e30:partP [102,97,115,116] 1 1000 r29 with e | ⟨x30,r30⟩
 ·rw [e30] at g30
  have hi:indP r=.error e:=by simp only [indP,wantsP,e1,e2,e3,e4,e5,e6,e7,e8,e9,e10,e11,e12,e13,e14,e15,e16,e17,e18,e19,e20,e21,e22,e23,e24,e25,e26,e27,e28,e29,e30,ok_bind,er_bind]
  rw [hi]
  exact t30.keep e g30
 have v30:=ag_ok g30 e30
 have p30:a30.2=sN r30:=by rw [v30]
 have f30:Fin1 r30:=(partP_suf e30).2 f29
 have hi:indP r=if (hdT r30).kind=3 then .ok (⟨x2,x4,x6,x8,x10,x12,x15,x16,x17,x18,x19,x21,x22,x23,x24,x25,x26,x27,x28,x29,x30⟩,r30) else errP 12 r30:=by simp only [indP,wantsP,e1,e2,e3,e4,e5,e6,e7,e8,e9,e10,e11,e12,e13,e14,e15,e16,e17,e18,e19,e20,e21,e22,e23,e24,e25,e26,e27,e28,e29,e30,ok_bind,er_bind]
 rw [hi,p30]
 have hx:nextS (sN r30)=hdT r30:=rfl
 rw [hx]
 by_cases hk:(hdT r30).kind=3
 ·rw [if_pos hk,if_neg (show ¬ ((sN r30).er.isSome=false∧(hdT r30).kind≠3) from fun y=>y.2 hk),v2,v4,v6,v8,v10,v12,v15,v16,v17,v18,v19,v21,v22,v23,v24,v25,v26,v27,v28,v29,v30]
  rfl
 ·rw [if_neg hk,if_pos (show (sN r30).er.isSome=false∧(hdT r30).kind≠3 from ⟨rfl,hk⟩)]
  rfl
theorem lexL_e3 {s:List UInt8}:∀ (f p:Nat) (l T:List Tok),(∀ t∈l,t.kind≠3)→s.length<p+f→p≤s.length→lexL s f p l=.ok T→∀ t∈T,t.kind=3→t.text=[]:=by
 intro f
 induction f with
 | zero=>intro p l T _ h1 h2;omega
 | succ f ih =>
  intro p l T hl h1 h2 h
  unfold lexL at h
  split at h
  ·cases h
   intro t ht hk
   rcases List.mem_append.1 ht with ht | ht
   ·exact (hl t ht hk).elim
   ·have:t=_:=List.mem_singleton.1 ht
    subst this
    rfl
  ·rename_i hne'
   split at h
   ·cases h
   ·rename_i t hN
    have hq:skipN s p≤s.length:=by
     have:=spanN_le blkB (s.drop p)
     rw [List.length_drop] at this
     unfold skipN;omega
    have hqp:p≤skipN s p:=by unfold skipN;omega
    have hne:s.drop (skipN s p)≠[]:=fun h=>by
     have:=congrArg List.length h
     rw [List.length_drop] at this
     simp only [List.length_nil] at this
     omega
    obtain ⟨t1,t2⟩:=nextR_ok hne hN
    have t3:=t2.length_le
    rw [List.length_drop] at t3
    refine ih _ _ T (fun x hx=>?_) om0 om0 h
    rcases List.mem_append.1 hx with hx | hx
    ·exact hl x hx
    ·have:x=_:=List.mem_singleton.1 hx
     subst this
     exact (nextR_mk hN).1
theorem lex_sst {s:List UInt8} {T:List Tok} (h:lexR s=.ok T):SSt T (sN T):=by
 refine ⟨lexR_ok h,(fun e he=>by cases he),?_⟩
 unfold lexR at h
 split at h
 ·cases h
 ·exact lexL_e3 _ _ _ _ (fun t ht=>by cases ht) om0 om0 h
theorem wholeE_ag {r:List Tok} (hf:Fin1 r):match (match expP r.length 0 r with
  | .error e=>.error e
  | .ok (x,r)=>if ¬ (hdT r).kind=3 then errP 12 r else if ((lev x:Nat):Int)≤12 then .ok x else errP 6 r:Except Er Exp) with
  | .ok x=>(wholeS [] (sN r)).1=x∧(wholeS [] (sN r)).2.er=none
  | .error e=>(wholeS [] (sN r)).2.er=some e:=by
 have ha:=exp_ag r.length 0 r (by omega) (by omega) hf (Nat.le_refl _)
 unfold wholeS
 dsimp only
 cases e1:expP r.length 0 r with
 | error e =>
  rw [e1] at ha
  have ha:(exC 0 (sN r)).2.er=some e:=ha
  rw [ha,if_pos (show (some e).isSome=true from rfl)]
  exact ha
 | ok v =>
 obtain ⟨x,r1⟩:=v
 rw [ag_ok ha e1]
 dsimp only
 rw [if_neg (show ¬ (none:Option Er).isSome=true from fun h=>Bool.noConfusion h)]
 have hx:nextS (sN r1)=hdT r1:=rfl
 rw [hx]
 by_cases hk:(hdT r1).kind=3
 ·rw [if_neg (not_not_intro hk),if_neg (show ¬ (([]:List UInt8)=[]∧(hdT r1).kind≠3∨([]:List UInt8)≠[]∧isS [] (sN r1)=false) from fun y=>y.elim (fun z=>z.2 hk) (fun z=>z.1 rfl))]
  by_cases h12:((lev x:Nat):Int)≤12
  ·rw [if_pos h12,if_neg (show ¬ 12<((lev x:Nat):Int) by omega),if_neg (not_not_intro rfl)]
   exact ⟨rfl,rfl⟩
  ·rw [if_neg h12,if_pos (show 12<((lev x:Nat):Int) by omega)]
   rfl
 ·rw [if_pos hk,if_pos (show ([]:List UInt8)=[]∧(hdT r1).kind≠3∨([]:List UInt8)≠[]∧isS [] (sN r1)=false from .inl ⟨rfl,hk⟩)]
  rfl
def dashT:List UInt8:=[32,45,32]
def dayT (n:Int):List UInt8:=Lib.itoa (partY n)++[32,45,32]++Lib.itoa (partM n)++[32,45,32]++Lib.itoa (partD n)
theorem dayT_len {n:Int} (h:0≤n) (h2:n≤200000):(dayT n).length≤70:=by
 obtain ⟨a,b,c,d,e,f⟩:=parts_bounds h h2
 have h1:=Lib.itoa_length_le (partY n) (by omega) (by omega)
 have h2:=Lib.itoa_length_le (partM n) (by omega) (by omega)
 have h3:=Lib.itoa_length_le (partD n) (by omega) (by omega)
 unfold dayT
 simp only [List.length_append,List.length_cons,List.length_nil]
 omega
theorem day_ok (n:Int) (h:0≤n) (h2:n≤200000):APureV Tryz.prog 59 [.int .i64 n] (.str (dayT n)):=by
 have hp:=parts_ok n
 unfold partsR at hp
 rw [if_pos ⟨h,h2⟩] at hp
 obtain ⟨a,b,c,d,e,f⟩:=parts_bounds h h2
 have i1:=itoa_c (partY n) (by omega) (by omega)
 have i2:=itoa_c (partM n) (by omega) (by omega)
 have i3:=itoa_c (partD n) (by omega) (by omega)
 have l1:=Lib.itoa_length_le (partY n) (by omega) (by omega)
 have l2:=Lib.itoa_length_le (partM n) (by omega) (by omega)
 have l3:=Lib.itoa_length_le (partD n) (by omega) (by omega)
 unfold dayT
 generalize partY n=y at *
 generalize partM n=m at *
 generalize partD n=dd at *
 refine aO (cxOk 24 [0,2,3,4,5]) Tryz.func59 ?_
 conv=>whnf
 refine cO (fun _=>hp) ?_
 conv=>whnf
 refine cO (fun _=>i1) ?_
 conv=>whnf
 refine And.intro ab0 ?_
 conv=>whnf
 refine cO (fun _=>i2) ?_
 conv=>whnf
 refine And.intro ab0 ?_
 conv=>whnf
 refine And.intro ab0 ?_
 conv=>whnf
 refine cO (fun _=>i3) ?_
 conv=>whnf
 refine And.intro ab0 ?_
 conv=>whnf
 rfl
def uqB (l:List (List UInt8)) (k:Nat):Bool:=nameB (l.getD k [])&&!decide (l.getD k []∈l.take k)
def uniqB (l:List (List UInt8)) (most:Int):Bool:=((List.range l.length).all fun k=>uqB l k)&&decide ((l.length:Int)≤most)
theorem uniq_ok (l:List (List UInt8)) (most:Int) (hl:l.length≤9223372036854775807) (hs:∀ s∈l,s.length≤9223372036854775807):APureV Tryz.prog 73 [encSs l,.int .i64 most] (.bool (uniqB l most)):=by
 refine aO (cxOk 29 [0,1,4,5,6,7,8,9,10,23]) Tryz.func73 ?_
 conv=>whnf
 refine loop_up (cxOk _ _) l.length (fun k=>∀ j,j<k→uqB l j=true) (fun k=>⟨[(0,encSs l),(1,.int .i64 most),(4,.bool false),(7,encSs l),(8,.int .i64 (l.length:Nat)),(9,.int .i64 (k:Nat))],[],0⟩) (by intro j hj;omega) ((wk_of [] rfl ⟨wa0,wa0,wa0,wa0,wa0,wa0,trivial⟩ trivial)) ?_
 intro k hk hP
 conv=>whnf
 refine ⟨fun hd=>?_,fun hd=>?_⟩
 ·have hd:=of_decide_eq_true hd
  have hlt:k<l.length:=by omega
  have hek:(k:Int).toNat=k:=Int.toNat_natCast k
  have hm:l.getD k []∈l:=getD_mem hlt
  have hn:=name_ok (l.getD k []) (hs _ hm)
  have hc:=contains_ok (l.take k) (l.getD k []) (by simp;omega)
  conv=>whnf
  refine iO ?_;conv=>whnf
  refine And.intro rfl ?_;conv=>whnf
  rw [hek]
  conv=>whnf
  refine cO (fun _=>hn) ?_
  conv=>whnf
  refine And.intro (fun _=>⟨by omega,by omega,by omega⟩) ?_
  conv=>whnf
  refine And.intro rfl ?_
  conv=>whnf
  refine .one _ _ _ (fun _=>hc) (.cons (show Lend _ _ (encSs (l.take k)) [] from lS rfl) (.cons (lS rfl) .nil)) (.inl rfl) (.inr rfl) ?_
  conv=>whnf
  refine ⟨fun hb=>?_,fun hb=>?_⟩
  ·have hq:uniqB l most=false:=by
    have h1:uqB l k=false:=by
     unfold uqB
     simp only [Bool.or_eq_true,Bool.not_eq_true'] at hb
     rcases hb with hb | hb<;>rw [hb]<;>simp
    unfold uniqB
    rw [show ((List.range l.length).all fun k=>uqB l k)=false by
     rw [List.all_eq_false]
     exact ⟨k,List.mem_range.2 hlt,by rw [h1];decide⟩]
    rfl
   conv=>whnf
   rw [hq]
   rfl
  ·have h1:uqB l k=true:=by
    unfold uqB
    simp only [Bool.or_eq_false_iff,Bool.not_eq_false'] at hb
    rw [hb.1,hb.2]
    rfl
   conv=>whnf
   refine iO ?_;conv=>whnf
   refine up hlt (fun j hj=>?_) ((wk_of [] rfl ⟨wa0,wa0,wa0,wa0,wa0,wa0,trivial⟩ trivial))
   by_cases e:j=k
   ·subst e;exact h1
   ·exact hP j om0
 ·have hd:=of_decide_eq_false hd
  obtain rfl:k=l.length:=by omega
  conv=>whnf
  have he:uniqB l most=decide ((l.length:Int)≤most):=by
   unfold uniqB
   rw [show ((List.range l.length).all fun k=>uqB l k)=true by rw [List.all_eq_true];intro j hj;exact hP j (List.mem_range.1 hj)]
   rfl
  rw [he]
  rfl
def letR (l:LetE):Bool:=rightE l.body
def covR (c:Cov):Bool:=rightE c.must&&inB 0 1000 [c.grace]
def callR (c:CallE):Bool:=inB 0 200000 [c.a]&&inB 0 10000 [c.b]
theorem letr_ok (l:LetE) (h:OkE l.body):APureV Tryz.prog 75 [encL l] (.bool (!letR l)):=by
 have hr:=rightexp_ok l.body h
 unfold letR
 refine aO (cxOk 7 [0,1,2]) Tryz.func75 ?_
 conv=>whnf
 refine cO (fun _=>hr) ?_
 conv=>whnf
 rfl
theorem covr_ok (c:Cov) (h:OkE c.must):APureV Tryz.prog 77 [encC c] (.bool (!covR c)):=by
 have hr:=rightexp_ok c.must h
 unfold covR
 cases hb:rightE c.must with
 | false =>
  rw [hb] at hr
  refine aO (cxOk 14 [0,1,2]) Tryz.func77 ?_
  conv=>whnf
  refine cO (fun _=>hr) ?_
  conv=>whnf
  refine gF ?_
  conv=>whnf
  refine cF [.int .i64 0,.int .i64 1000,.undef] [.val (.bool false)] ?_
  conv=>whnf
  rfl
 | true =>
  rw [hb] at hr
  refine aO (cxOk 14 [0,1,2]) Tryz.func77 ?_
  conv=>whnf
  refine cO (fun _=>hr) ?_
  conv=>whnf
  refine gT ?_
  conv=>whnf
  refine cO (fun _=>in1_ok 0 1000 c.grace) ?_
  conv=>whnf
  rfl
theorem callr_ok (c:CallE):APureV Tryz.prog 79 [encK c] (.bool (!callR c)):=by
 unfold callR
 refine aO (cxOk 15 [0,1,2]) Tryz.func79 ?_
 conv=>whnf
 refine cO (fun _=>in1_ok 0 200000 c.a) ?_
 conv=>whnf
 cases hb:inB 0 200000 [c.a] with
 | false =>
  refine gF ?_
  conv=>whnf
  refine cF [.int .i64 0,.int .i64 10000,.undef] [.val (.bool false)] ?_
  conv=>whnf
  rfl
 | true =>
  refine gT ?_
  conv=>whnf
  refine cO (fun _=>in1_ok 0 10000 c.b) ?_
  conv=>whnf
  rfl
theorem in2_ok (a b n m:Int):APureV Tryz.prog 72 [.int .i64 a,.int .i64 b,.sl 1 encI 0 [n,m]] (.bool (inB a b [n,m])):=in_ok a b [n,m] (by simp)
structure OkX (x:Ind):Prop where
 name:x.name.length≤9223372036854775807
 issuer:x.issuer.length≤9223372036854775807
 coupon:OkE x.coupon
 lets:x.lets.length≤1000000000
 let1:∀ l∈x.lets,l.name.length≤9223372036854775807∧OkE l.body
 cov:x.cov.length≤1000000000
 cov1:∀ c∈x.cov,c.name.length≤9223372036854775807∧OkE c.must∧in64 c.grace
 favour:x.favour.length≤9223372036854775807
 fav1:∀ s∈x.favour,s.length≤9223372036854775807
 calls:x.calls.length≤9223372036854775807
 call1:∀ c∈x.calls,in64 c.a∧in64 c.b
 nums:in64 x.face∧in64 x.frm∧in64 x.to∧in64 x.every∧in64 x.count∧in64 x.adjust∧in64 x.record∧in64 x.rank∧in64 x.cap∧in64 x.cross∧in64 x.notice∧in64 x.sink∧in64 x.majority∧in64 x.fast
def datesB (x:Ind):Bool:=inB 0 200000 [x.frm,x.to]&&decide (x.frm<x.to)
def oneB (x:Ind):Bool:=inB 1 1000000000000000 [x.face]&&inB 1 120 [x.every]&&inB 0 2 [x.count]&&inB 0 3 [x.adjust]&&inB 0 100 [x.record]&&inB 0 9 [x.rank]
def twoB (x:Ind):Bool:=inB 0 10000 [x.cap]&&inB (-1) 1000000000000000 [x.cross]&&inB 0 1000 [x.notice,x.sink]&&inB 1 1000 [x.majority,x.fast]
def headB (x:Ind):Bool:=datesB x&&oneB x&&twoB x&&nameB x.name&&nameB x.issuer&&decide ((x.calls.length:Int)≤20)&&uniqB x.favour 20
def restB (x:Ind):Bool:=uniqB (x.lets.map LetE.name) 20&&uniqB (x.cov.map Cov.name) 20&&rightE x.coupon&&x.lets.all letR&&x.cov.all covR&&x.calls.all callR
def rightI (x:Ind):Bool:=headB x&&restB x
theorem rightfn_ok (x:Ind) (hx:OkX x):APureV Tryz.prog 23 [encX x] (.bool (rightI x)):=by
 have hn1:=name_ok x.name hx.name
 have hn2:=name_ok x.issuer hx.issuer
 have hu:=uniq_ok x.favour 20 hx.favour hx.fav1
 refine aO (cxOk 177 [0,1,2,3,4,5,6,7,9,11,12,119,121,122,123,124,134,135,136,137,159]) Tryz.func23 ?_
 conv=>whnf
 refine cO (fun _=>in2_ok 0 200000 x.frm x.to) ?_
 conv=>whnf
 refine cO (fun _=>in1_ok 1 1000000000000000 x.face) ?_
 conv=>whnf
 cases ha0:inB 1 1000000000000000 [x.face] with
 | false =>
  refine gF ?_
  conv=>whnf
  refine cF [.int .i64 1,.int .i64 120,.undef] [.val (.bool false)] ?_
  conv=>whnf
  refine gF ?_
  conv=>whnf
  refine cF [.int .i64 0,.int .i64 2,.undef] [.val (.bool false)] ?_
  conv=>whnf
  refine gF ?_
  conv=>whnf
  refine cF [.int .i64 0,.int .i64 3,.undef] [.val (.bool false)] ?_
  conv=>whnf
  refine gF ?_
  conv=>whnf
  refine cF [.int .i64 0,.int .i64 100,.undef] [.val (.bool false)] ?_
  conv=>whnf
  refine gF ?_
  conv=>whnf
  refine cF [.int .i64 0,.int .i64 9,.undef] [.val (.bool false)] ?_
  conv=>whnf
  refine cO (fun _=>in1_ok 0 10000 x.cap) ?_
  conv=>whnf
  cases hb0:inB 0 10000 [x.cap] with
  | false =>
   refine gF ?_
   conv=>whnf
   refine cF [.int .i64 (-1),.int .i64 1000000000000000,.undef] [.val (.bool false)] ?_
   conv=>whnf
   refine gF ?_
   conv=>whnf
   refine cF [.int .i64 0,.int .i64 1000,.undef] [.val (.bool false)] ?_
   conv=>whnf
   refine gF ?_
   conv=>whnf
   refine cF [.int .i64 1,.int .i64 1000,.undef] [.val (.bool false)] ?_
   conv=>whnf
   refine cO (fun _=>hn1) ?_
   conv=>whnf
   refine cO (fun _=>hn2) ?_
   conv=>whnf
   refine cO (fun _=>hu) ?_
   conv=>whnf
   refine ⟨fun _=>?_,fun hx=>absurd hx (by simp)⟩
   conv=>whnf
   rw [show rightI x=false by simp only [rightI,headB,oneB,twoB,hb0,Bool.and_false,Bool.false_and]]
   rfl
  | true =>
   refine gT ?_
   conv=>whnf
   refine cO (fun _=>in1_ok (-1) 1000000000000000 x.cross) ?_
   conv=>whnf
   cases hb1:inB (-1) 1000000000000000 [x.cross] with
   | false =>
    refine gF ?_
    conv=>whnf
    refine cF [.int .i64 0,.int .i64 1000,.undef] [.val (.bool false)] ?_
    conv=>whnf
    refine gF ?_
    conv=>whnf
    refine cF [.int .i64 1,.int .i64 1000,.undef] [.val (.bool false)] ?_
    conv=>whnf
    refine cO (fun _=>hn1) ?_
    conv=>whnf
    refine cO (fun _=>hn2) ?_
    conv=>whnf
    refine cO (fun _=>hu) ?_
    conv=>whnf
    refine ⟨fun _=>?_,fun hx=>absurd hx (by simp)⟩
    conv=>whnf
    rw [show rightI x=false by simp only [rightI,headB,oneB,twoB,hb1,Bool.and_false,Bool.false_and]]
    rfl
   | true =>
    refine gT ?_
    conv=>whnf
    refine cO (fun _=>in2_ok 0 1000 x.notice x.sink) ?_
    conv=>whnf
    cases hb2:inB 0 1000 [x.notice,x.sink] with
    | false =>
     refine gF ?_
     conv=>whnf
     refine cF [.int .i64 1,.int .i64 1000,.undef] [.val (.bool false)] ?_
     conv=>whnf
     refine cO (fun _=>hn1) ?_
     conv=>whnf
     refine cO (fun _=>hn2) ?_
     conv=>whnf
     refine cO (fun _=>hu) ?_
     conv=>whnf
     refine ⟨fun _=>?_,fun hx=>absurd hx (by simp)⟩
     conv=>whnf
     rw [show rightI x=false by simp only [rightI,headB,oneB,twoB,hb2,Bool.and_false,Bool.false_and]]
     rfl
    | true =>
     refine gT ?_
     conv=>whnf
     refine cO (fun _=>in2_ok 1 1000 x.majority x.fast) ?_
     conv=>whnf
     refine cO (fun _=>hn1) ?_
     conv=>whnf
     refine cO (fun _=>hn2) ?_
     conv=>whnf
     refine cO (fun _=>hu) ?_
     conv=>whnf
     refine ⟨fun _=>?_,fun hx=>absurd hx (by simp)⟩
     conv=>whnf
     rw [show rightI x=false by simp only [rightI,headB,oneB,twoB,ha0,Bool.and_false,Bool.false_and]]
     rfl
 | true =>
  refine gT ?_
  conv=>whnf
  refine cO (fun _=>in1_ok 1 120 x.every) ?_
  conv=>whnf
  cases ha1:inB 1 120 [x.every] with
  | false =>
   refine gF ?_
   conv=>whnf
   refine cF [.int .i64 0,.int .i64 2,.undef] [.val (.bool false)] ?_
   conv=>whnf
   refine gF ?_
   conv=>whnf
   refine cF [.int .i64 0,.int .i64 3,.undef] [.val (.bool false)] ?_
   conv=>whnf
   refine gF ?_
   conv=>whnf
   refine cF [.int .i64 0,.int .i64 100,.undef] [.val (.bool false)] ?_
   conv=>whnf
   refine gF ?_
   conv=>whnf
   refine cF [.int .i64 0,.int .i64 9,.undef] [.val (.bool false)] ?_
   conv=>whnf
   refine cO (fun _=>in1_ok 0 10000 x.cap) ?_
   conv=>whnf
   cases hb0:inB 0 10000 [x.cap] with
   | false =>
    refine gF ?_
    conv=>whnf
    refine cF [.int .i64 (-1),.int .i64 1000000000000000,.undef] [.val (.bool false)] ?_
    conv=>whnf
    refine gF ?_
    conv=>whnf
    refine cF [.int .i64 0,.int .i64 1000,.undef] [.val (.bool false)] ?_
    conv=>whnf
    refine gF ?_
    conv=>whnf
    refine cF [.int .i64 1,.int .i64 1000,.undef] [.val (.bool false)] ?_
    conv=>whnf
    refine cO (fun _=>hn1) ?_
    conv=>whnf
    refine cO (fun _=>hn2) ?_
    conv=>whnf
    refine cO (fun _=>hu) ?_
    conv=>whnf
    refine ⟨fun _=>?_,fun hx=>absurd hx (by simp)⟩
    conv=>whnf
    rw [show rightI x=false by simp only [rightI,headB,oneB,twoB,hb0,Bool.and_false,Bool.false_and]]
    rfl
   | true =>
    refine gT ?_
    conv=>whnf
    refine cO (fun _=>in1_ok (-1) 1000000000000000 x.cross) ?_
    conv=>whnf
    cases hb1:inB (-1) 1000000000000000 [x.cross] with
    | false =>
     refine gF ?_
     conv=>whnf
     refine cF [.int .i64 0,.int .i64 1000,.undef] [.val (.bool false)] ?_
     conv=>whnf
     refine gF ?_
     conv=>whnf
     refine cF [.int .i64 1,.int .i64 1000,.undef] [.val (.bool false)] ?_
     conv=>whnf
     refine cO (fun _=>hn1) ?_
     conv=>whnf
     refine cO (fun _=>hn2) ?_
     conv=>whnf
     refine cO (fun _=>hu) ?_
     conv=>whnf
     refine ⟨fun _=>?_,fun hx=>absurd hx (by simp)⟩
     conv=>whnf
     rw [show rightI x=false by simp only [rightI,headB,oneB,twoB,hb1,Bool.and_false,Bool.false_and]]
     rfl
    | true =>
     refine gT ?_
     conv=>whnf
     refine cO (fun _=>in2_ok 0 1000 x.notice x.sink) ?_
     conv=>whnf
     cases hb2:inB 0 1000 [x.notice,x.sink] with
     | false =>
      refine gF ?_
      conv=>whnf
      refine cF [.int .i64 1,.int .i64 1000,.undef] [.val (.bool false)] ?_
      conv=>whnf
      refine cO (fun _=>hn1) ?_
      conv=>whnf
      refine cO (fun _=>hn2) ?_
      conv=>whnf
      refine cO (fun _=>hu) ?_
      conv=>whnf
      refine ⟨fun _=>?_,fun hx=>absurd hx (by simp)⟩
      conv=>whnf
      rw [show rightI x=false by simp only [rightI,headB,oneB,twoB,hb2,Bool.and_false,Bool.false_and]]
      rfl
     | true =>
      refine gT ?_
      conv=>whnf
      refine cO (fun _=>in2_ok 1 1000 x.majority x.fast) ?_
      conv=>whnf
      refine cO (fun _=>hn1) ?_
      conv=>whnf
      refine cO (fun _=>hn2) ?_
      conv=>whnf
      refine cO (fun _=>hu) ?_
      conv=>whnf
      refine ⟨fun _=>?_,fun hx=>absurd hx (by simp)⟩
      conv=>whnf
      rw [show rightI x=false by simp only [rightI,headB,oneB,twoB,ha1,Bool.and_false,Bool.false_and]]
      rfl
  | true =>
   refine gT ?_
   conv=>whnf
   refine cO (fun _=>in1_ok 0 2 x.count) ?_
   conv=>whnf
   cases ha2:inB 0 2 [x.count] with
   | false =>
    refine gF ?_
    conv=>whnf
    refine cF [.int .i64 0,.int .i64 3,.undef] [.val (.bool false)] ?_
    conv=>whnf
    refine gF ?_
    conv=>whnf
    refine cF [.int .i64 0,.int .i64 100,.undef] [.val (.bool false)] ?_
    conv=>whnf
    refine gF ?_
    conv=>whnf
    refine cF [.int .i64 0,.int .i64 9,.undef] [.val (.bool false)] ?_
    conv=>whnf
    refine cO (fun _=>in1_ok 0 10000 x.cap) ?_
    conv=>whnf
    cases hb0:inB 0 10000 [x.cap] with
    | false =>
     refine gF ?_
     conv=>whnf
     refine cF [.int .i64 (-1),.int .i64 1000000000000000,.undef] [.val (.bool false)] ?_
     conv=>whnf
     refine gF ?_
     conv=>whnf
     refine cF [.int .i64 0,.int .i64 1000,.undef] [.val (.bool false)] ?_
     conv=>whnf
     refine gF ?_
     conv=>whnf
     refine cF [.int .i64 1,.int .i64 1000,.undef] [.val (.bool false)] ?_
     conv=>whnf
     refine cO (fun _=>hn1) ?_
     conv=>whnf
     refine cO (fun _=>hn2) ?_
     conv=>whnf
     refine cO (fun _=>hu) ?_
     conv=>whnf
     refine ⟨fun _=>?_,fun hx=>absurd hx (by simp)⟩
     conv=>whnf
     rw [show rightI x=false by simp only [rightI,headB,oneB,twoB,hb0,Bool.and_false,Bool.false_and]]
     rfl
    | true =>
     refine gT ?_
     conv=>whnf
     refine cO (fun _=>in1_ok (-1) 1000000000000000 x.cross) ?_
     conv=>whnf
     cases hb1:inB (-1) 1000000000000000 [x.cross] with
     | false =>
      refine gF ?_
      conv=>whnf
      refine cF [.int .i64 0,.int .i64 1000,.undef] [.val (.bool false)] ?_
      conv=>whnf
      refine gF ?_
      conv=>whnf
      refine cF [.int .i64 1,.int .i64 1000,.undef] [.val (.bool false)] ?_
      conv=>whnf
      refine cO (fun _=>hn1) ?_
      conv=>whnf
      refine cO (fun _=>hn2) ?_
      conv=>whnf
      refine cO (fun _=>hu) ?_
      conv=>whnf
      refine ⟨fun _=>?_,fun hx=>absurd hx (by simp)⟩
      conv=>whnf
      rw [show rightI x=false by simp only [rightI,headB,oneB,twoB,hb1,Bool.and_false,Bool.false_and]]
      rfl
     | true =>
      refine gT ?_
      conv=>whnf
      refine cO (fun _=>in2_ok 0 1000 x.notice x.sink) ?_
      conv=>whnf
      cases hb2:inB 0 1000 [x.notice,x.sink] with
      | false =>
       refine gF ?_
       conv=>whnf
       refine cF [.int .i64 1,.int .i64 1000,.undef] [.val (.bool false)] ?_
       conv=>whnf
       refine cO (fun _=>hn1) ?_
       conv=>whnf
       refine cO (fun _=>hn2) ?_
       conv=>whnf
       refine cO (fun _=>hu) ?_
       conv=>whnf
       refine ⟨fun _=>?_,fun hx=>absurd hx (by simp)⟩
       conv=>whnf
       rw [show rightI x=false by simp only [rightI,headB,oneB,twoB,hb2,Bool.and_false,Bool.false_and]]
       rfl
      | true =>
       refine gT ?_
       conv=>whnf
       refine cO (fun _=>in2_ok 1 1000 x.majority x.fast) ?_
       conv=>whnf
       refine cO (fun _=>hn1) ?_
       conv=>whnf
       refine cO (fun _=>hn2) ?_
       conv=>whnf
       refine cO (fun _=>hu) ?_
       conv=>whnf
       refine ⟨fun _=>?_,fun hx=>absurd hx (by simp)⟩
       conv=>whnf
       rw [show rightI x=false by simp only [rightI,headB,oneB,twoB,ha2,Bool.and_false,Bool.false_and]]
       rfl
   | true =>
    refine gT ?_
    conv=>whnf
    refine cO (fun _=>in1_ok 0 3 x.adjust) ?_
    conv=>whnf
    cases ha3:inB 0 3 [x.adjust] with
    | false =>
     refine gF ?_
     conv=>whnf
     refine cF [.int .i64 0,.int .i64 100,.undef] [.val (.bool false)] ?_
     conv=>whnf
     refine gF ?_
     conv=>whnf
     refine cF [.int .i64 0,.int .i64 9,.undef] [.val (.bool false)] ?_
     conv=>whnf
     refine cO (fun _=>in1_ok 0 10000 x.cap) ?_
     conv=>whnf
     cases hb0:inB 0 10000 [x.cap] with
     | false =>
      refine gF ?_
      conv=>whnf
      refine cF [.int .i64 (-1),.int .i64 1000000000000000,.undef] [.val (.bool false)] ?_
      conv=>whnf
      refine gF ?_
      conv=>whnf
      refine cF [.int .i64 0,.int .i64 1000,.undef] [.val (.bool false)] ?_
      conv=>whnf
      refine gF ?_
      conv=>whnf
      refine cF [.int .i64 1,.int .i64 1000,.undef] [.val (.bool false)] ?_
      conv=>whnf
      refine cO (fun _=>hn1) ?_
      conv=>whnf
      refine cO (fun _=>hn2) ?_
      conv=>whnf
      refine cO (fun _=>hu) ?_
      conv=>whnf
      refine ⟨fun _=>?_,fun hx=>absurd hx (by simp)⟩
      conv=>whnf
      rw [show rightI x=false by simp only [rightI,headB,oneB,twoB,hb0,Bool.and_false,Bool.false_and]]
      rfl
     | true =>
      refine gT ?_
      conv=>whnf
      refine cO (fun _=>in1_ok (-1) 1000000000000000 x.cross) ?_
      conv=>whnf
      cases hb1:inB (-1) 1000000000000000 [x.cross] with
      | false =>
       refine gF ?_
       conv=>whnf
       refine cF [.int .i64 0,.int .i64 1000,.undef] [.val (.bool false)] ?_
       conv=>whnf
       refine gF ?_
       conv=>whnf
       refine cF [.int .i64 1,.int .i64 1000,.undef] [.val (.bool false)] ?_
       conv=>whnf
       refine cO (fun _=>hn1) ?_
       conv=>whnf
       refine cO (fun _=>hn2) ?_
       conv=>whnf
       refine cO (fun _=>hu) ?_
       conv=>whnf
       refine ⟨fun _=>?_,fun hx=>absurd hx (by simp)⟩
       conv=>whnf
       rw [show rightI x=false by simp only [rightI,headB,oneB,twoB,hb1,Bool.and_false,Bool.false_and]]
       rfl
      | true =>
       refine gT ?_
       conv=>whnf
       refine cO (fun _=>in2_ok 0 1000 x.notice x.sink) ?_
       conv=>whnf
       cases hb2:inB 0 1000 [x.notice,x.sink] with
       | false =>
        refine gF ?_
        conv=>whnf
        refine cF [.int .i64 1,.int .i64 1000,.undef] [.val (.bool false)] ?_
        conv=>whnf
        refine cO (fun _=>hn1) ?_
        conv=>whnf
        refine cO (fun _=>hn2) ?_
        conv=>whnf
        refine cO (fun _=>hu) ?_
        conv=>whnf
        refine ⟨fun _=>?_,fun hx=>absurd hx (by simp)⟩
        conv=>whnf
        rw [show rightI x=false by simp only [rightI,headB,oneB,twoB,hb2,Bool.and_false,Bool.false_and]]
        rfl
       | true =>
        refine gT ?_
        conv=>whnf
        refine cO (fun _=>in2_ok 1 1000 x.majority x.fast) ?_
        conv=>whnf
        refine cO (fun _=>hn1) ?_
        conv=>whnf
        refine cO (fun _=>hn2) ?_
        conv=>whnf
        refine cO (fun _=>hu) ?_
        conv=>whnf
        refine ⟨fun _=>?_,fun hx=>absurd hx (by simp)⟩
        conv=>whnf
        rw [show rightI x=false by simp only [rightI,headB,oneB,twoB,ha3,Bool.and_false,Bool.false_and]]
        rfl
    | true =>
     refine gT ?_
     conv=>whnf
     refine cO (fun _=>in1_ok 0 100 x.record) ?_
     conv=>whnf
     cases ha4:inB 0 100 [x.record] with
     | false =>
      refine gF ?_
      conv=>whnf
      refine cF [.int .i64 0,.int .i64 9,.undef] [.val (.bool false)] ?_
      conv=>whnf
      refine cO (fun _=>in1_ok 0 10000 x.cap) ?_
      conv=>whnf
      cases hb0:inB 0 10000 [x.cap] with
      | false =>
       refine gF ?_
       conv=>whnf
       refine cF [.int .i64 (-1),.int .i64 1000000000000000,.undef] [.val (.bool false)] ?_
       conv=>whnf
       refine gF ?_
       conv=>whnf
       refine cF [.int .i64 0,.int .i64 1000,.undef] [.val (.bool false)] ?_
       conv=>whnf
       refine gF ?_
       conv=>whnf
       refine cF [.int .i64 1,.int .i64 1000,.undef] [.val (.bool false)] ?_
       conv=>whnf
       refine cO (fun _=>hn1) ?_
       conv=>whnf
       refine cO (fun _=>hn2) ?_
       conv=>whnf
       refine cO (fun _=>hu) ?_
       conv=>whnf
       refine ⟨fun _=>?_,fun hx=>absurd hx (by simp)⟩
       conv=>whnf
       rw [show rightI x=false by simp only [rightI,headB,oneB,twoB,hb0,Bool.and_false,Bool.false_and]]
       rfl
      | true =>
       refine gT ?_
       conv=>whnf
       refine cO (fun _=>in1_ok (-1) 1000000000000000 x.cross) ?_
       conv=>whnf
       cases hb1:inB (-1) 1000000000000000 [x.cross] with
       | false =>
        refine gF ?_
        conv=>whnf
        refine cF [.int .i64 0,.int .i64 1000,.undef] [.val (.bool false)] ?_
        conv=>whnf
        refine gF ?_
        conv=>whnf
        refine cF [.int .i64 1,.int .i64 1000,.undef] [.val (.bool false)] ?_
        conv=>whnf
        refine cO (fun _=>hn1) ?_
        conv=>whnf
        refine cO (fun _=>hn2) ?_
        conv=>whnf
        refine cO (fun _=>hu) ?_
        conv=>whnf
        refine ⟨fun _=>?_,fun hx=>absurd hx (by simp)⟩
        conv=>whnf
        rw [show rightI x=false by simp only [rightI,headB,oneB,twoB,hb1,Bool.and_false,Bool.false_and]]
        rfl
       | true =>
        refine gT ?_
        conv=>whnf
        refine cO (fun _=>in2_ok 0 1000 x.notice x.sink) ?_
        conv=>whnf
        cases hb2:inB 0 1000 [x.notice,x.sink] with
        | false =>
         refine gF ?_
         conv=>whnf
         refine cF [.int .i64 1,.int .i64 1000,.undef] [.val (.bool false)] ?_
         conv=>whnf
         refine cO (fun _=>hn1) ?_
         conv=>whnf
         refine cO (fun _=>hn2) ?_
         conv=>whnf
         refine cO (fun _=>hu) ?_
         conv=>whnf
         refine ⟨fun _=>?_,fun hx=>absurd hx (by simp)⟩
         conv=>whnf
         rw [show rightI x=false by simp only [rightI,headB,oneB,twoB,hb2,Bool.and_false,Bool.false_and]]
         rfl
        | true =>
         refine gT ?_
         conv=>whnf
         refine cO (fun _=>in2_ok 1 1000 x.majority x.fast) ?_
         conv=>whnf
         refine cO (fun _=>hn1) ?_
         conv=>whnf
         refine cO (fun _=>hn2) ?_
         conv=>whnf
         refine cO (fun _=>hu) ?_
         conv=>whnf
         refine ⟨fun _=>?_,fun hx=>absurd hx (by simp)⟩
         conv=>whnf
         rw [show rightI x=false by simp only [rightI,headB,oneB,twoB,ha4,Bool.and_false,Bool.false_and]]
         rfl
     | true =>
      refine gT ?_
      conv=>whnf
      refine cO (fun _=>in1_ok 0 9 x.rank) ?_
      conv=>whnf
      refine cO (fun _=>in1_ok 0 10000 x.cap) ?_
      conv=>whnf
      cases hb0:inB 0 10000 [x.cap] with
      | false =>
       refine gF ?_
       conv=>whnf
       refine cF [.int .i64 (-1),.int .i64 1000000000000000,.undef] [.val (.bool false)] ?_
       conv=>whnf
       refine gF ?_
       conv=>whnf
       refine cF [.int .i64 0,.int .i64 1000,.undef] [.val (.bool false)] ?_
       conv=>whnf
       refine gF ?_
       conv=>whnf
       refine cF [.int .i64 1,.int .i64 1000,.undef] [.val (.bool false)] ?_
       conv=>whnf
       refine cO (fun _=>hn1) ?_
       conv=>whnf
       refine cO (fun _=>hn2) ?_
       conv=>whnf
       refine cO (fun _=>hu) ?_
       conv=>whnf
       refine ⟨fun _=>?_,fun hx=>absurd hx (by simp)⟩
       conv=>whnf
       rw [show rightI x=false by simp only [rightI,headB,oneB,twoB,hb0,Bool.and_false,Bool.false_and]]
       rfl
      | true =>
       refine gT ?_
       conv=>whnf
       refine cO (fun _=>in1_ok (-1) 1000000000000000 x.cross) ?_
       conv=>whnf
       cases hb1:inB (-1) 1000000000000000 [x.cross] with
       | false =>
        refine gF ?_
        conv=>whnf
        refine cF [.int .i64 0,.int .i64 1000,.undef] [.val (.bool false)] ?_
        conv=>whnf
        refine gF ?_
        conv=>whnf
        refine cF [.int .i64 1,.int .i64 1000,.undef] [.val (.bool false)] ?_
        conv=>whnf
        refine cO (fun _=>hn1) ?_
        conv=>whnf
        refine cO (fun _=>hn2) ?_
        conv=>whnf
        refine cO (fun _=>hu) ?_
        conv=>whnf
        refine ⟨fun _=>?_,fun hx=>absurd hx (by simp)⟩
        conv=>whnf
        rw [show rightI x=false by simp only [rightI,headB,oneB,twoB,hb1,Bool.and_false,Bool.false_and]]
        rfl
       | true =>
        refine gT ?_
        conv=>whnf
        refine cO (fun _=>in2_ok 0 1000 x.notice x.sink) ?_
        conv=>whnf
        cases hb2:inB 0 1000 [x.notice,x.sink] with
        | false =>
         refine gF ?_
         conv=>whnf
         refine cF [.int .i64 1,.int .i64 1000,.undef] [.val (.bool false)] ?_
         conv=>whnf
         refine cO (fun _=>hn1) ?_
         conv=>whnf
         refine cO (fun _=>hn2) ?_
         conv=>whnf
         refine cO (fun _=>hu) ?_
         conv=>whnf
         refine ⟨fun _=>?_,fun hx=>absurd hx (by simp)⟩
         conv=>whnf
         rw [show rightI x=false by simp only [rightI,headB,oneB,twoB,hb2,Bool.and_false,Bool.false_and]]
         rfl
        | true =>
         refine gT ?_
         conv=>whnf
         refine cO (fun _=>in2_ok 1 1000 x.majority x.fast) ?_
         conv=>whnf
         refine cO (fun _=>hn1) ?_
         conv=>whnf
         refine cO (fun _=>hn2) ?_
         conv=>whnf
         refine cO (fun _=>hu) ?_
         conv=>whnf
         refine ⟨fun hh=>?_,fun hh=>?_⟩
         ·have hB:headB x=false:=by
           cases hB:headB x with
           | false=>rfl
           | true =>
            simp only [headB,datesB,oneB,twoB,Bool.and_eq_true,decide_eq_true_eq] at hB
            obtain ⟨⟨⟨⟨⟨⟨⟨d1,d2⟩,o1⟩,t1⟩,n1⟩,n2⟩,c1⟩,f1⟩:=hB
            rw [d1,o1.2,t1.2,n1,n2,f1] at hh
            simp at hh
            omega
          conv=>whnf
          rw [show rightI x=false by simp only [rightI,hB,Bool.false_and]]
          rfl
         have hB:headB x=true:=by
          simp only [Bool.or_eq_false_iff,Bool.not_eq_false',Bool.and_eq_true,decide_eq_true_eq,decide_eq_false_iff_not] at hh
          obtain ⟨⟨⟨⟨⟨⟨⟨d1,d2⟩,o1⟩,t1⟩,n1⟩,n2⟩,c1⟩,f1⟩:=hh
          simp only [headB,datesB,oneB,twoB,ha0,ha1,ha2,ha3,ha4,hb0,hb1,hb2,d1,o1.2,t1.2,n1,n2,f1,Bool.and_true,decide_eq_true_eq,Bool.and_eq_true]
          exact ⟨⟨trivial,d2⟩,by omega⟩
         conv=>whnf
         have hlets:=hx.lets
         refine loop_up (cxOk _ _) x.lets.length (fun _=>True) (fun k=>⟨[(1,.ptr 0 0),(2,.bool false),(6,.own 1),(7,.nils),(121,.sl 6 encL l0 x.lets),(122,.int .i64 (x.lets.length:Nat)),(123,.int .i64 (k:Nat))],[(0,.cells 31 (celX x)),(1,.row 9 1 encS [] ((x.lets.take k).map LetE.name))],2⟩) trivial ((wk_of [(0,.id 0),(1,.nil)] rfl ⟨wc0,wa0,ah0,wa0,wa0,wa0,wa0,trivial⟩ ⟨wb0,⟨_,rfl,ag0⟩,trivial⟩)) ?_
         intro k hk _
         conv=>whnf
         refine ⟨fun hd=>?_,fun hd=>?_⟩
         ·have hd:=of_decide_eq_true hd
          have hlt:k<x.lets.length:=by omega
          have hek:(k:Int).toNat=k:=Int.toNat_natCast k
          conv=>whnf
          refine iO ?_;conv=>whnf
          refine And.intro rfl ?_;conv=>whnf
          refine And.intro rfl ?_;conv=>whnf
          rw [hek]
          conv=>whnf
          refine And.intro ⟨rfl,rfl⟩ (And.intro (by show ((List.map LetE.name (List.take k x.lets)).length+1)*16≤140737488355328;rw [List.length_map,List.length_take];omega) ?_)
          conv=>whnf
          refine Exists.intro _ (And.intro rfl ?_);conv=>whnf
          refine iO ?_;conv=>whnf
          refine up hlt trivial ((wk_of [(0,.id 0),(1,.id 4)] rfl ⟨wc0,wa0,ah0,wa0,wa0,wa0,wa0,trivial⟩ ⟨wb0,⟨_,rfl,(by first | exact .row _ _ _ _ _ _ _ rfl (by rw [take_getD (d:=l0) hlt,List.map_append];rfl) | exact .lstrow _ _ _ _ _ _ _ rfl (by rw [take_getD (d:=l0) hlt,List.map_append];rfl) | exact .nilrow _ _ _ _ _ (by rw [take_getD (d:=l0) hlt,List.map_append];rfl) | exact .truncrow _ _ _ _ _ _ _ _ rfl (by omega) (by rw [take_getD (d:=l0) hlt,List.map_append];rfl))⟩,trivial⟩))
         have hd:=of_decide_eq_false hd
         obtain rfl:k=x.lets.length:=by omega
         conv=>whnf
         have hcov:=hx.cov
         rw [List.take_length]
         refine loop_up (cxOk _ _) x.cov.length (fun _=>True) (fun k=>⟨[(1,.ptr 0 0),(2,.bool false),(6,.own 1),(7,.own 2),(134,.sl 7 encC c0 x.cov),(135,.int .i64 (x.cov.length:Nat)),(136,.int .i64 (k:Nat))],[(0,.cells 31 (celX x)),(1,.row 9 1 encS [] (x.lets.map LetE.name)),(2,.row 9 1 encS [] ((x.cov.take k).map Cov.name))],3⟩) trivial ((wk_of [(0,.id 0),(1,.id 1),(2,.nil)] rfl ⟨wc0,wa0,ah0,ah0,wa0,wa0,wa0,trivial⟩ ⟨wb0,⟨_,rfl,ag0⟩,⟨_,rfl,ag0⟩,trivial⟩)) ?_
         intro k hk _
         conv=>whnf
         refine ⟨fun hd=>?_,fun hd=>?_⟩
         ·have hd:=of_decide_eq_true hd
          have hlt:k<x.cov.length:=by omega
          have hek:(k:Int).toNat=k:=Int.toNat_natCast k
          conv=>whnf
          refine iO ?_;conv=>whnf
          refine And.intro rfl ?_;conv=>whnf
          refine And.intro rfl ?_;conv=>whnf
          rw [hek]
          conv=>whnf
          refine And.intro ⟨rfl,rfl⟩ (And.intro (by show ((List.map Cov.name (List.take k x.cov)).length+1)*16≤140737488355328;rw [List.length_map,List.length_take];omega) ?_)
          conv=>whnf
          refine Exists.intro _ (And.intro rfl ?_);conv=>whnf
          refine iO ?_;conv=>whnf
          refine up hlt trivial ((wk_of [(0,.id 0),(1,.id 1),(2,.id 5)] rfl ⟨wc0,wa0,ah0,ah0,wa0,wa0,wa0,trivial⟩ ⟨wb0,⟨_,rfl,ag0⟩,⟨_,rfl,(by first | exact .row _ _ _ _ _ _ _ rfl (by rw [take_getD (d:=c0) hlt,List.map_append];rfl) | exact .lstrow _ _ _ _ _ _ _ rfl (by rw [take_getD (d:=c0) hlt,List.map_append];rfl) | exact .nilrow _ _ _ _ _ (by rw [take_getD (d:=c0) hlt,List.map_append];rfl) | exact .truncrow _ _ _ _ _ _ _ _ rfl (by omega) (by rw [take_getD (d:=c0) hlt,List.map_append];rfl))⟩,trivial⟩))
         have hd:=of_decide_eq_false hd
         obtain rfl:k=x.cov.length:=by omega
         conv=>whnf
         rw [List.take_length]
         have u1:=uniq_ok (x.lets.map LetE.name) 20 (by rw [List.length_map];omega) (by
          intro s hs
          obtain ⟨l,hl,rfl⟩:=List.mem_map.1 hs
          exact (hx.let1 l hl).1)
         have u2:=uniq_ok (x.cov.map Cov.name) 20 (by rw [List.length_map];omega) (by
          intro s hs
          obtain ⟨l,hl,rfl⟩:=List.mem_map.1 hs
          exact (hx.cov1 l hl).1)
         have re:=rightexp_ok x.coupon hx.coupon
         have a1:=anyL_ok x.lets 75 (fun l=>!letR l) (fun l hl=>letr_ok l (hx.let1 l hl).2) (by omega)
         have a2:=anyC_ok x.cov 77 (fun l=>!covR l) (fun l hl=>covr_ok l (hx.cov1 l hl).2.1) (by omega)
         have a3:=anyK_ok x.calls 79 (fun l=>!callR l) (fun l _=>callr_ok l) hx.calls
         refine cO (fun _=>u1) ?_
         conv=>whnf
         refine cO (fun _=>u2) ?_
         conv=>whnf
         refine cO (fun _=>re) ?_
         conv=>whnf
         refine ⟨fun hr=>?_,fun hr=>?_⟩
         ·have hR:restB x=false:=by
           simp only [Bool.or_eq_true,Bool.not_eq_true'] at hr
           unfold restB
           rcases hr with (hr | hr) | hr<;>rw [hr]<;>simp
          conv=>whnf
          rw [show rightI x=false by simp only [rightI,hR,Bool.and_false]]
          rfl
         ·have hR:rightI x=(!((x.lets.any fun l=>!letR l)||(x.cov.any fun l=>!covR l))&&!(x.calls.any fun l=>!callR l)):=by
           simp only [Bool.or_eq_false_iff,Bool.not_eq_false'] at hr
           simp only [rightI,restB,hB,hr.1.1,hr.1.2,hr.2,Bool.true_and,List.all_eq_not_any_not,Bool.not_or]
          rw [hR]
          conv=>whnf
          refine cO (fun _=>a1) ?_
          conv=>whnf
          refine cO (fun _=>a2) ?_
          conv=>whnf
          refine cO (fun _=>a3) ?_
          conv=>whnf
          rfl
open Go.Proofs Go.Shelf Go.RowKit
theorem Tryz.sizeB:(Tryz.prog.info? 85).map (·.size)=some 2:=by kernel_rfl
theorem Tryz.liesB:liesAt Tryz.prog Tryz.prog.depth 85 (2 / Tryz.prog.cellsOf 85) 0 85 1=true:=by kernel_rfl
theorem Tryz.mixedO:Tryz.prog.follows .mixedOrders=true:=by kernel_rfl
set_option maxHeartbeats 1000000 in
set_option maxRecDepth 100000 in
theorem Tryz.copy_used_calls (b:Nat) (w:World) (h0:w.cell? ⟨b,0,none⟩=some (.pointer (some ⟨b,0,none⟩))) :
  Calls Tryz.prog 137 #[.pointer (some ⟨b,0,none⟩)] w fun e w'=>e=.returned (.tuple #[])∧w'=w:=by
 obtain ⟨j,hj,_⟩:=Option.map_eq_some_iff.1 Tryz.sizeB
 have mixed:=Tryz.mixedO
 go_enter Tryz.func137,Tryz.ntmps137
 go_wp2
 rw [Lib.run_neq_ptr_same w _ Tryz.underlying82 hj]
 go_wp2
 go_end0
 exact ⟨rfl,rfl⟩
set_option maxHeartbeats 1000000 in
set_option maxRecDepth 100000 in
theorem Tryz.copy_fresh_calls (b:Nat) (w:World) (h0:w.cell? ⟨b,0,none⟩=some (.pointer none)) (hsh:w.shape? b=some (85,2)) (hfz:w.frozen? ⟨b,0,none⟩=false) :
  Calls Tryz.prog 137 #[.pointer (some ⟨b,0,none⟩)] w fun e w'=>e=.returned (.tuple #[])∧w'=w.setCell ⟨b,0,none⟩ (.pointer (some ⟨b,0,none⟩)):=by
 obtain ⟨j,hj,hjs⟩:=Option.map_eq_some_iff.1 Tryz.sizeB
 have mixed:=Tryz.mixedO
 go_enter Tryz.func137,Tryz.ntmps137
 go_wp2
 rw [Lib.run_to_unsafe w ⟨b,0,none⟩ Tryz.underlying82 Tryz.underlying171 hj (by rw [hjs];decide) hsh (Nat.zero_lt_succ 1)]
 simp only [Result.andThen]
 rw [Oper.upon_value]
 go_wp2
 rw [run_callFunc_extern Tryz.func175 (by kernel_rfl) (by kernel_rfl) (by kernel_rfl) (e:=Extern.AbiNoEscape.same) (by kernel_rfl)]
 rw [Lib.run_noEscape]
 simp only [Result.andThen]
 rw [Oper.upon_value]
 go_wp2
 rw [Lib.run_from_unsafe w ⟨b,0,none⟩ Tryz.underlying171 Tryz.underlying82 hj hsh Tryz.liesB]
 simp only [Result.andThen]
 rw [Oper.upon_value]
 go_wp2
 go_end0
 exact ⟨rfl,rfl⟩
theorem fnOk137:FnOk Tryz.prog 137:=⟨_,Tryz.func137,rfl,by decide⟩
theorem write_first (s:List UInt8) (hs:s.length≤140737488355328) :
  RIO Tryz.prog 56 [.ptr 0 0,.str s] [.cells 85 [.nilp,.nils]] 1 (fun vs bs es=>vs=[.int .i64 s.length,.ifc true]∧bs=[.cells 85 [.ptr 0 0,.own 1]]∧es=[.lst 5 1 (strAVs s)]):=by
 refine rO (cxPOk 1 19 [0,1,4,5]) Tryz.func56 ?_
 conv=>whnf
 refine .raw _ _ rfl (fun h=>by cases h) (copy_fresh (e:=85) (x:=.nils) Tryz.copy_fresh_calls fnOk137 rfl) ?_
 rintro r rfl
 refine ⟨Nat.le_refl _,?_⟩
 conv=>whnf
 refine ⟨hs,?_⟩
 conv=>whnf
 refine ⟨_,Wk.refl _,rfl,rfl,?_⟩
 conv=>whnf
 exact ⟨rfl,rfl,rfl,rfl⟩
theorem write_more (b s:List UInt8) (hs:b.length+s.length≤140737488355328) :
  RIO Tryz.prog 56 [.ptr 0 0,.str s] [.cells 85 [.ptr 0 0,.own 1],.lst 5 1 (strAVs b)] 1 (fun vs bs es=>vs=[.int .i64 s.length,.ifc true]∧bs=[.cells 85 [.ptr 0 0,.own 1]]∧es=[.lst 5 1 (strAVs (b++s))]):=by
 refine rO (cxPOk 1 19 [0,1,4,5]) Tryz.func56 ?_
 conv=>whnf
 refine .raw _ _ rfl (fun h=>by cases h) (copy_used (e:=85) (x:=.own 1) Tryz.copy_used_calls fnOk137 rfl) ?_
 rintro r rfl
 refine ⟨Nat.le_refl _,?_⟩
 conv=>whnf
 refine ⟨⟨rfl,rfl⟩,by rw [strAVs_len];exact hs,?_⟩
 conv=>whnf
 refine ⟨⟨[(4,.int .i64 s.length),(5,.ifc true)],[(0,.cells 85 [.ptr 0 0,.own 1]),(1,.lst 5 1 (strAVs (b++s)))],2⟩,(wk_of [(0,.id 0),(1,.id 2)] rfl ⟨wa0,wa0,trivial⟩ ⟨wb0,⟨_,rfl,.lst _ _ _ _ _ rfl ((strAVs_append b s).symm)⟩,trivial⟩),rfl,rfl,?_⟩
 conv=>whnf
 exact ⟨rfl,rfl,rfl,rfl⟩
theorem string_of (b:List UInt8) (hb:b≠[]):RIO Tryz.prog 64 [.ptr 0 0] [.cells 85 [.ptr 0 0,.own 1],.lst 5 1 (strAVs b)] 0 (fun vs bs es=>vs=[.str b]∧bs=[]∧es=[]):=by
 have hb1:0<(strAVs b).length:=by rw [strAVs_len];exact List.length_pos_iff.2 hb
 refine rO (cxPOk 0 14 [0,2]) Tryz.func64 ?_
 conv=>whnf
 refine .eff ae0 ?_
 conv=>whnf
 refine ⟨hb1,?_⟩
 conv=>whnf
 refine ⟨⟨rfl,rfl⟩,hb1,rfl,b,rfl,?_⟩
 conv=>whnf
 refine ⟨by kernel_rfl,?_⟩
 conv=>whnf
 refine ⟨⟨[(2,.str b)],[],0⟩,(wk_of [] rfl ⟨wa0,trivial⟩ trivial),rfl,rfl,?_⟩
 conv=>whnf
 exact ⟨rfl,rfl,rfl,rfl⟩
def lineT (ws:List (List UInt8)):List UInt8:=Lib.join ws [32]++[32,59,10]
abbrev strL (ws:List (List UInt8)):List AV:=ws.map fun s=>AV.str s
theorem line_first (ws:List (List UInt8)) (hN:ws.length≤140737488355328) (hlen:(Lib.join ws [32]).length≤100000000000000) :
  RIO Tryz.prog 55 [.own 1,.ptr 0 0] [.cells 85 [.nilp,.nils],.lst 9 1 (strL ws)] 1
   (fun vs bs es=>vs=[]∧bs=[.cells 85 [.ptr 0 0,.own 1]]∧es=[.lst 5 1 (strAVs (lineT ws))]):=by
 have hj:=join_c ws [32] hN (by omega)
 unfold lineT
 generalize Lib.join ws [32]=J at *
 refine rO (cxPOk 1 7 [0,1]) Tryz.func55 ?_
 conv=>whnf
 refine cO (fun _=>hj) ?_
 conv=>whnf
 refine And.intro ab0 ?_
 conv=>whnf
 refine .raw _ _ rfl (fun h=>by cases h) (rio_at (write_first (J++[32,59,10]) (by simp;omega)) [0] rfl rfl rfl ac0) ?_
 rintro _ ⟨_,_,_,⟨rfl,rfl,rfl⟩,-,rfl⟩
 refine ⟨Nat.le_add_right _ _,?_⟩
 conv=>whnf
 refine ⟨⟨[(1,.ptr 0 0)],[(0,.cells 85 [.ptr 0 0,.own 1]),(1,.lst 5 1 (strAVs (J++[32,59,10])))],2⟩,(wk_of [(0,.id 0),(1,.id 2)] rfl ⟨wc0,trivial⟩ ⟨wb0,we0,trivial⟩),rfl,rfl,?_⟩
 conv=>whnf
 exact ⟨rfl,rfl,rfl,rfl⟩
theorem line_more (b:List UInt8) (ws:List (List UInt8)) (hN:ws.length≤140737488355328) (hlen:b.length+(Lib.join ws [32]).length≤100000000000000) :
  RIO Tryz.prog 55 [.own 2,.ptr 0 0] [.cells 85 [.ptr 0 0,.own 1],.lst 5 1 (strAVs b),.lst 9 1 (strL ws)] 1
   (fun vs bs es=>vs=[]∧bs=[.cells 85 [.ptr 0 0,.own 1]]∧es=[.lst 5 1 (strAVs (b++lineT ws))]):=by
 have hj:=join_c ws [32] hN (by omega)
 unfold lineT
 generalize Lib.join ws [32]=J at *
 refine rO (cxPOk 1 7 [0,1]) Tryz.func55 ?_
 conv=>whnf
 refine cO (fun _=>hj) ?_
 conv=>whnf
 refine And.intro ab0 ?_
 conv=>whnf
 refine .raw _ _ rfl (fun h=>by cases h) (rio_at (write_more b (J++[32,59,10]) (by simp;omega)) [0,1] rfl rfl rfl ac0) ?_
 rintro _ ⟨_,_,_,⟨rfl,rfl,rfl⟩,-,rfl⟩
 refine ⟨Nat.le_add_right _ _,?_⟩
 conv=>whnf
 refine ⟨⟨[(1,.ptr 0 0)],[(0,.cells 85 [.ptr 0 0,.own 1]),(1,.lst 5 1 (strAVs (b++(J++[32,59,10]))))],2⟩,(wk_of [(0,.id 0),(1,.id 3)] rfl ⟨wc0,trivial⟩ ⟨wb0,we0,trivial⟩),rfl,rfl,?_⟩
 conv=>whnf
 exact ⟨rfl,rfl,rfl,rfl⟩
theorem line_row (b:List UInt8) (ws:List (List UInt8)) (hN:ws.length≤140737488355328) (hlen:b.length+(Lib.join ws [32]).length≤100000000000000) :
  RIO Tryz.prog 55 [.own 2,.ptr 0 0] [.cells 85 [.ptr 0 0,.own 1],.lst 5 1 (strAVs b),.row 9 1 encS [] ws] 1
   (fun vs bs es=>vs=[]∧bs=[.cells 85 [.ptr 0 0,.own 1]]∧es=[.lst 5 1 (strAVs (b++lineT ws))]):=by
 have hj:APureV Tryz.prog 57 [.sl 1 encS [] ws,.str [32]] (.str (Lib.join ws [32])):=apure_args (join_c ws [32] hN (by omega)) (.cons LeT.sl_lsl (.cons (.refl _) .nil))
 unfold lineT
 generalize Lib.join ws [32]=J at *
 refine rO (cxPOk 1 7 [0,1]) Tryz.func55 ?_
 conv=>whnf
 refine cO (fun _=>hj) ?_
 conv=>whnf
 refine And.intro ab0 ?_
 conv=>whnf
 refine .raw _ _ rfl (fun h=>by cases h) (rio_at (write_more b (J++[32,59,10]) (by simp;omega)) [0,1] rfl rfl rfl ac0) ?_
 rintro _ ⟨_,_,_,⟨rfl,rfl,rfl⟩,-,rfl⟩
 refine ⟨Nat.le_add_right _ _,?_⟩
 conv=>whnf
 refine ⟨⟨[(1,.ptr 0 0)],[(0,.cells 85 [.ptr 0 0,.own 1]),(1,.lst 5 1 (strAVs (b++(J++[32,59,10]))))],2⟩,(wk_of [(0,.id 0),(1,.id 3)] rfl ⟨wc0,trivial⟩ ⟨wb0,we0,trivial⟩),rfl,rfl,?_⟩
 conv=>whnf
 exact ⟨rfl,rfl,rfl,rfl⟩
def txt (L:List (List (List UInt8))):List UInt8:=(L.map lineT).flatten
theorem txt_snoc (L:List (List (List UInt8))) (w:List (List UInt8)):txt (L++[w])=txt L++lineT w:=by unfold txt;simp
def WsOk (ws:List (List UInt8)):Prop:=ws.length≤21∧∀ s∈ws,s.length≤1100000100
theorem join_len (M:Nat):∀ (ws:List (List UInt8)),(∀ s∈ws,s.length≤M)→(Lib.join ws [32]).length≤ws.length*(M+1):=by
 have tail:∀ (r:List (List UInt8)),(∀ s∈r,s.length≤M)→(Lib.joinTail [32] r).length≤r.length*(M+1):=by
  intro r
  induction r with
  | nil=>intro _;simp [Lib.joinTail]
  | cons x r ih =>
   intro h
   have h1:=ih fun s hs=>h s (List.mem_cons_of_mem _ hs)
   have h2:=h x List.mem_cons_self
   have e:Lib.joinTail [32] (x::r)=([32]++x)++Lib.joinTail [32] r:=by simp [Lib.joinTail]
   rw [e,List.length_append,List.length_append,show (x::r).length=r.length+1 from rfl,Nat.succ_mul,show ([32]:List UInt8).length=1 from rfl]
   omega
 intro ws
 cases ws with
 | nil=>intro _;simp [Lib.join_nil]
 | cons x r =>
  intro h
  have h1:=tail r fun s hs=>h s (List.mem_cons_of_mem _ hs)
  have h2:=h x List.mem_cons_self
  rw [Lib.join_cons,List.length_append,List.length_cons,Nat.succ_mul]
  omega
theorem WsOk.join {ws:List (List UInt8)} (h:WsOk ws):(Lib.join ws [32]).length≤23200000000:=by
 have h1:=join_len 1100000100 ws h.2
 have h2:ws.length*(1100000100+1)≤21*(1100000100+1):=Nat.mul_le_mul_right _ h.1
 omega
theorem WsOk.line {ws:List (List UInt8)} (h:WsOk ws):(lineT ws).length≤23200000003:=by
 have:=h.join
 unfold lineT
 rw [List.length_append]
 simp only [List.length_cons,List.length_nil]
 omega
structure LOk (n:Nat) (L:List (List (List UInt8))):Prop where
 len:L.length≤n
 all:∀ w∈L,WsOk w
theorem LOk.nil:LOk 0 []:=⟨Nat.le_refl _,fun w hw=>by cases hw⟩
theorem LOk.snoc {n:Nat} {L:List (List (List UInt8))} {w:List (List UInt8)} (h:LOk n L) (hw:WsOk w):LOk (n+1) (L++[w]) :=
 ⟨by rw [List.length_append];have:=h.len;simp only [List.length_cons,List.length_nil];omega,fun v hv=>by
  rcases List.mem_append.1 hv with hv | hv
  ·exact h.all v hv
  ·rcases List.mem_singleton.1 hv with rfl;exact hw⟩
theorem LOk.app {n m:Nat} {L M:List (List (List UInt8))} (h:LOk n L) (hM:LOk m M):LOk (n+m) (L++M) :=
 ⟨by rw [List.length_append];have:=h.len;have:=hM.len;omega,fun v hv=>by
  rcases List.mem_append.1 hv with hv | hv
  ·exact h.all v hv
  ·exact hM.all v hv⟩
theorem txt_len:∀ {n:Nat} {L:List (List (List UInt8))},LOk n L→(txt L).length≤n*23200000003:=by
 intro n L
 induction L generalizing n with
 | nil=>intro _;simp [txt]
 | cons w L ih =>
  intro h
  have hl:=h.len
  rw [List.length_cons] at hl
  obtain ⟨k,rfl⟩:∃ k,n=k+1:=⟨n-1,by omega⟩
  have h1:=ih (n:=k) ⟨by omega,fun v hv=>h.all v (List.mem_cons_of_mem _ hv)⟩
  have h2:=(h.all w List.mem_cons_self).line
  have e:txt (w::L)=lineT w++txt L:=by unfold txt;simp
  rw [e,List.length_append,Nat.succ_mul]
  omega
theorem line1_ok (w:List (List UInt8)) (hw:WsOk w):RIO Tryz.prog 55 [.own 1,.ptr 0 0] [.cells 85 [.nilp,.nils],.lst 9 1 (strL w)] 1
  (fun vs bs es=>vs=[]∧bs=[.cells 85 [.ptr 0 0,.own 1]]∧es=[.lst 5 1 (strAVs (txt [w]))]):=by
 have h:=line_first w (by have:=hw.1;omega) (by have:=hw.join;omega)
 have e:txt [w]=lineT w:=by unfold txt;simp
 rw [e]
 exact h
theorem line_ok {n:Nat} {L:List (List (List UInt8))} (hL:LOk n L) (hn:n≤120) (w:List (List UInt8)) (hw:WsOk w) :
  RIO Tryz.prog 55 [.own 2,.ptr 0 0] [.cells 85 [.ptr 0 0,.own 1],.lst 5 1 (strAVs (txt L)),.lst 9 1 (strL w)] 1
   (fun vs bs es=>vs=[]∧bs=[.cells 85 [.ptr 0 0,.own 1]]∧es=[.lst 5 1 (strAVs (txt (L++[w])))]):=by
 have hl:=txt_len hL
 have hl2:n*23200000003≤120*23200000003:=Nat.mul_le_mul_right _ hn
 have h:=line_more (txt L) w (by have:=hw.1;omega) (by have:=hw.join;omega)
 rw [txt_snoc]
 exact h
theorem lrow_ok {n:Nat} {L:List (List (List UInt8))} (hL:LOk n L) (hn:n≤120) (w:List (List UInt8)) (hw:WsOk w) :
  RIO Tryz.prog 55 [.own 2,.ptr 0 0] [.cells 85 [.ptr 0 0,.own 1],.lst 5 1 (strAVs (txt L)),.row 9 1 encS [] w] 1
   (fun vs bs es=>vs=[]∧bs=[.cells 85 [.ptr 0 0,.own 1]]∧es=[.lst 5 1 (strAVs (txt (L++[w])))]):=by
 have hl:=txt_len hL
 have hl2:n*23200000003≤120*23200000003:=Nat.mul_le_mul_right _ hn
 have h:=line_row (txt L) w (by have:=hw.1;omega) (by have:=hw.join;omega)
 rw [txt_snoc]
 exact h
def letW (l:LetE):List (List UInt8):=[[108,101,116],l.name,[61],showT 12 l.body 0]
def covW (c:Cov):List (List UInt8):=[[99,111,118,101,110,97,110,116],c.name,[109,117,115,116],showT 12 c.must 0,[103,114,97,99,101],Lib.itoa c.grace]
def callW (c:CallE):List (List UInt8):=[[99,97,108,108],dayT c.a,[97,116],Lib.itoa c.b]
def headW (x:Ind):List (List (List UInt8)):=[[[105,115,115,117,101],x.name,[111,102],x.issuer],[[102,97,99,101],Lib.itoa x.face],
 [[102,114,111,109],dayT x.frm,[116,111],dayT x.to,[101,118,101,114,121],Lib.itoa x.every,[109,111,110,116,104,115]],
 [[99,111,117,110,116],cntW.getD x.count.toNat []],[[97,100,106,117,115,116],adjW.getD x.adjust.toNat []],
 [[114,101,99,111,114,100],Lib.itoa x.record],[[114,97,110,107],Lib.itoa x.rank]]
def midW (x:Ind):List (List (List UInt8)):=[[[99,111,117,112,111,110],showT 12 x.coupon 0],[[99,97,112],Lib.itoa x.cap]]
def favW (x:Ind):List (List (List UInt8)):=if 0<x.favour.length then [[102,97,118,111,117,114]::x.favour] else []
def croW (x:Ind):List (List (List UInt8)):=if 0≤x.cross then [[[99,114,111,115,115],Lib.itoa x.cross]] else []
def notW (x:Ind):List (List (List UInt8)):=if 0<x.notice then [[[110,111,116,105,99,101],Lib.itoa x.notice]] else []
def sinW (x:Ind):List (List (List UInt8)):=if 0<x.sink then [[[115,105,110,107],Lib.itoa x.sink]] else []
def endW (x:Ind):List (List (List UInt8)):=[[[109,97,106,111,114,105,116,121],Lib.itoa x.majority],[[102,97,115,116],Lib.itoa x.fast]]
def linesW (x:Ind):List (List (List UInt8)):=headW x++x.lets.map letW++midW x++x.cov.map covW++favW x++croW x++x.calls.map callW++notW x++sinW x++endW x
def printI (x:Ind):List UInt8×Int:=if rightI x=true then fitsT (txt (linesW x)) else ([],1)
theorem inB_one {a b n:Int} (h:inB a b [n]=true):a≤n∧n≤b:=by
 unfold inB at h
 simpa using h
structure Rt (x:Ind):Prop where
 frm:0≤x.frm∧x.frm≤200000
 to:0≤x.to∧x.to≤200000
 before:x.frm<x.to
 face:1≤x.face∧x.face≤1000000000000000
 every:1≤x.every∧x.every≤120
 count:0≤x.count∧x.count≤2
 adjust:0≤x.adjust∧x.adjust≤3
 record:0≤x.record∧x.record≤100
 rank:0≤x.rank∧x.rank≤9
 cap:0≤x.cap∧x.cap≤10000
 cross:-1≤x.cross∧x.cross≤1000000000000000
 notice:0≤x.notice∧x.notice≤1000
 sink:0≤x.sink∧x.sink≤1000
 majority:1≤x.majority∧x.majority≤1000
 fast:1≤x.fast∧x.fast≤1000
 name:nameB x.name=true
 issuer:nameB x.issuer=true
 ncalls:x.calls.length≤20
 fav:uniqB x.favour 20=true
 ulets:uniqB (x.lets.map LetE.name) 20=true
 ucov:uniqB (x.cov.map Cov.name) 20=true
 coupon:rightE x.coupon=true
 lets:∀ l∈x.lets,rightE l.body=true
 cov:∀ c∈x.cov,rightE c.must=true∧0≤c.grace∧c.grace≤1000
 calls:∀ c∈x.calls,(0≤c.a∧c.a≤200000)∧0≤c.b∧c.b≤10000
theorem right_iff (x:Ind):rightI x=true↔Rt x:=by
 have one:∀ a b n:Int,inB a b [n]=true↔a≤n∧n≤b:=fun a b n=>by unfold inB;simp
 have two:∀ a b n m:Int,inB a b [n,m]=true↔(a≤n∧n≤b)∧a≤m∧m≤b:=fun a b n m=>by unfold inB;simp
 unfold rightI headB restB datesB oneB twoB letR covR callR
 simp only [Bool.and_eq_true,decide_eq_true_eq,one,two,List.all_eq_true]
 constructor
 ·rintro ⟨⟨⟨⟨⟨⟨⟨⟨⟨a1,a2⟩,a3⟩,⟨⟨⟨⟨⟨b1,b2⟩,b3⟩,b4⟩,b5⟩,b6⟩⟩,⟨⟨⟨c1,c2⟩,c3,c4⟩,c5,c6⟩⟩,d1⟩,d2⟩,d3⟩,d4⟩,⟨⟨⟨⟨e1,e2⟩,e3⟩,e4⟩,e5⟩,e6⟩
  exact ⟨a1,a2,a3,b1,b2,b3,b4,b5,b6,c1,c2,c3,c4,c5,c6,d1,d2,by omega,d4,e1,e2,e3,e4,e5,e6⟩
 ·rintro ⟨a1,a2,a3,b1,b2,b3,b4,b5,b6,c1,c2,c3,c4,c5,c6,d1,d2,d3,d4,e1,e2,e3,e4,e5,e6⟩
  exact ⟨⟨⟨⟨⟨⟨⟨⟨⟨a1,a2⟩,a3⟩,⟨⟨⟨⟨⟨b1,b2⟩,b3⟩,b4⟩,b5⟩,b6⟩⟩,⟨⟨⟨c1,c2⟩,c3,c4⟩,c5,c6⟩⟩,d1⟩,d2⟩,om0⟩,d4⟩,⟨⟨⟨⟨e1,e2⟩,e3⟩,e4⟩,e5⟩,e6⟩
theorem uniq_name {l:List (List UInt8)} {most:Int} (h:uniqB l most=true) {s:List UInt8} (hs:s∈l):nameB s=true:=by
 unfold uniqB at h
 simp only [Bool.and_eq_true,List.all_eq_true,List.mem_range] at h
 obtain ⟨k,hk,rfl⟩:=List.getElem_of_mem hs
 have:=h.1 k hk
 unfold uqB at this
 simp only [Bool.and_eq_true] at this
 have h1:=this.1
 rw [List.getD_eq_getElem?_getD,List.getElem?_eq_getElem hk] at h1
 exact h1
theorem uniq_len {l:List (List UInt8)} {most:Int} (h:uniqB l most=true):(l.length:Int)≤most:=by
 unfold uniqB at h
 simp only [Bool.and_eq_true,decide_eq_true_eq] at h
 exact h.2
theorem itoa_len21 {n:Int} (h:in64 n):(Lib.itoa n).length≤1100000100:=by
 have:=Lib.itoa_length_le n h.1 h.2
 omega
theorem show12_len (e:Exp) (h:rightE e=true) (hok:OkE e):(showT 12 e 0).length≤1100000100:=by
 have h1:=show_len 12 e 0 h hok
 have h3:lenB 12=1073741824:=by decide
 omega
theorem wsOk_of {ws:List (List UInt8)} (h:ws.length≤21) (h2:∀ s∈ws,s.length≤1100000100):WsOk ws:=⟨h,h2⟩
end Go.Proofs.YtlmgomgpiideoaaGreatDoor
