import Derived.Test.YtohankpncipefaaGreatDoorCa
import Derived.Test.YtohankpncipefaaGreatDoorLc
import Derived.Lib.IndexBytes
import Derived.Lib.SplitLaws
import Derived.Lib.Strings
import Derived.Shelf.Strings.Builder1
import Derived.KernelRfl
import Derived.Test.YtohankpncipefaaGreatDoorProg
import Derived.Lib.ItoaLen
namespace Go.Proofs.YtohankpncipefaaGreatDoor
open Go.Own
set_option maxHeartbeats 40000000
set_option maxRecDepth 100000
def favL:Nat→List (List UInt8)→List Tok→Ps (List (List UInt8))
 | 0,ls,r=>.ok (ls,r)
 | f+1,ls,r =>
  if ls.length=0∨isT [59] r=false then
   if namedB r=false then errP 12 r
   else if ¬ (ls.length:Int)<20 then errP 6 r
   else match freshP ls r with
    | .error e=>.error e
    | .ok (s,r1)=>favL f (ls++[s]) r1
  else .ok (ls,r)
def favP (r:List Tok):Ps (List (List UInt8)) :=
 if isT [102,97,118,111,117,114] r=false then .ok ([],r)
 else match favL r.tail.length [] r.tail with
  | .error e=>.error e
  | .ok (ls,r1)=>match wantP [59] r1 with
   | .error e=>.error e
   | .ok r2=>.ok (ls,r2)
def callsP:Nat→List CallE→List Tok→Ps (List CallE)
 | 0,ls,r=>.ok (ls,r)
 | f+1,ls,r =>
  if isT [99,97,108,108] r=false then .ok (ls,r)
  else if ¬ (ls.length:Int)<20 then errP 6 r
  else match dateP (-1) r.tail with
   | .error e=>.error e
   | .ok (d,r1)=>match wantP [97,116] r1 with
    | .error e=>.error e
    | .ok r2=>match numP 0 10000 r2 with
     | .error e=>.error e
     | .ok (n,r3)=>match wantP [59] r3 with
      | .error e=>.error e
      | .ok r4=>callsP f (ls++[⟨d,n⟩]) r4
theorem dateP_suf {least d:Int} {r r':List Tok} (h:dateP least r=.ok (d,r')):Suf r r':=by
 unfold dateP at h
 split at h
 ·cases h
 rename_i e1
 split at h
 ·cases h
 rename_i e2
 split at h
 ·cases h
 rename_i e3
 split at h
 ·cases h
 rename_i e4
 split at h
 ·cases h
 rename_i hk
 split at h
 ·cases h
 split at h
 ·cases h
  exact ((((numP_suf e1).1.trans (wantP_suf e2)).trans (numP_suf e3).1).trans (wantP_suf e4)).trans (.tail om0)
 ·cases h
theorem calls_x {T r:List Tok} (h:PSt T r) (x:Ind):RX 104 [.ptr 0 0,.ptr 1 0] [pobj T r,.cells 31 (celN x (.lsl 5 (argsE x.coupon)) (.sl 6 encL l0 x.lets) (.sl 7 encC c0 x.cov) (.sl 1 encS [] x.favour) .nils)] 2 (callsP r.length [] r) (fun _=>[]) (fun v=>[pobj T v.2,.cells 31 (celN x (.lsl 5 (argsE x.coupon)) (.sl 6 encL l0 x.lets) (.sl 7 encC c0 x.cov) (.sl 1 encS [] x.favour) (.sl 2 encK k0 v.1))]) (fun _=>[]):=by
 refine xO (cxXOk (fun ch=>∃ er,callsP r.length [] r=.error er∧ch=stopC er) 2 44 [0,1,4,6]) Tryz.func104 ?_
 conv=>whnf
 refine loop_inv (cxXOk _ _ _ _) (fun s:Nat×(List CallE×List Tok)=>PSt T s.2.2∧s.2.2.length≤s.1∧s.2.1.length≤20∧callsP r.length [] r=callsP s.1 s.2.1 s.2.2) (fun s=>s.1) (fun s=>⟨[(0,.ptr 0 0),(1,.ptr 1 0)],[(0,.cells 132 (pcell T (s.2.2))),(1,.cells 31 (celN x (.lsl 5 (argsE x.coupon)) (.sl 6 encL l0 x.lets) (.sl 7 encC c0 x.cov) (.sl 1 encS [] x.favour) (.own 2))),(2,.row 87 2 encK k0 (s.2.1))],3⟩) (r.length,([],r)) ⟨h,Nat.le_refl _,by simp,rfl⟩ ((wk_of [(0,.id 0),(1,.id 1),(2,.nil)] rfl ⟨wc0,wc0,trivial⟩ ⟨wb0,wb0,⟨_,rfl,ah0⟩,trivial⟩)) ?_
 rintro ⟨f,ls,q⟩ ⟨hq,hqf,hls,hsp⟩
 dsimp only at hq hqf hls hsp ⊢
 obtain ⟨f,rfl⟩:∃ g,f=g+1:=⟨f-1,by have:=hq.pos;omega⟩
 have hi:=is_ok hq [99,97,108,108]
 cases hb:isT [99,97,108,108] q with
 | false =>
  rw [hb] at hi
  conv=>whnf
  refine cO (fun _=>hi) ?_
  conv=>whnf
  refine gF ?_
  conv=>whnf
  have hs:callsP r.length [] r=.ok (ls,q):=by rw [hsp,callsP,if_pos hb]
  refine ⟨⟨[(0,.ptr 0 0)],[(0,.cells 132 (pcell T q)),(1,.cells 31 (celN x (.lsl 5 (argsE x.coupon)) (.sl 6 encL l0 x.lets) (.sl 7 encC c0 x.cov) (.sl 1 encS [] x.favour) (.sl 2 encK k0 ls)))],2⟩,(wk_frz [2]).trans (wk_of [(0,.id 0),(1,.id 1)] rfl ⟨wc0,trivial⟩ ⟨wb0,wb0,trivial⟩),rfl,rfl,?_⟩
  conv=>whnf
  exact ⟨rfl,(ls,q),hs,rfl,rfl,rfl⟩
 | true =>
  rw [hb] at hi
  have q1:=hq.tail (isT_kind hb)
  have hat:=hq.at
  have hqp:=hq.pos
  have hqle:=hq.le
  have hbig:=hq.big
  conv=>whnf
  refine cO (fun _=>hi) ?_
  conv=>whnf
  refine gT ?_
  conv=>whnf
  cases h20:decide ((ls.length:Int)<20) with
  | false =>
   have hs:callsP r.length [] r=.error ((hdT q).pos,6):=by rw [hsp,callsP,if_neg (by simp [hb]),if_pos (of_decide_eq_false h20)];rfl
   exact CallG.stop rfl (riox_stop (chk_f hq 6) [0] rfl rfl rfl ac0) ((fun ch hc=>⟨_,hs,hc⟩))
  | true =>
   have h20':=of_decide_eq_true h20
   have hs:callsP r.length [] r=match dateP (-1) q.tail with
    | .error e=>.error e
    | .ok (d,r1)=>match wantP [97,116] r1 with
     | .error e=>.error e
     | .ok r2=>match numP 0 10000 r2 with
      | .error e=>.error e
      | .ok (n,r3)=>match wantP [59] r3 with
       | .error e=>.error e
       | .ok r4=>callsP f (ls++[⟨d,n⟩]) r4:=by rw [hsp,callsP,if_neg (by simp [hb]),if_neg (by omega)]
   refine cR ((chk_t hq 6)) [0] ?_
   conv=>whnf
   refine iO ?_
   conv=>whnf
   rw [hat]
   conv=>whnf
   rcases e1:dateP (-1) q.tail with e | ⟨d,r1⟩
   ·exact CallG.stop rfl (riox_stop (rx_er (date_x q1 (-1)) e1) [0] rfl rfl rfl ac0) (fun ch hc=>⟨e,by simp only [hs,e1],hc⟩)
   refine cR (rx_ok (date_x q1 (-1)) e1) [0] ?_
   conv=>whnf
   have q2:=q1.to (dateP_suf e1)
   rcases e2:wantP [97,116] r1 with e | r2
   ·exact CallG.stop rfl (riox_stop (rx_er (want1_x q2 [97,116]) e2) [0,4] rfl rfl rfl ac0) (fun ch hc=>⟨e,by simp only [hs,e1,e2],hc⟩)
   refine cR (rx_ok (want1_x q2 [97,116]) e2) [0,4] ?_
   conv=>whnf
   have q3:=q2.to (wantP_suf e2)
   rcases e3:numP 0 10000 r2 with e | ⟨n,r3⟩
   ·exact CallG.stop rfl (riox_stop (rx_er (num_x q3 0 10000) e3) [0] rfl rfl rfl ac0) (fun ch hc=>⟨e,by simp only [hs,e1,e2,e3],hc⟩)
   refine cR (rx_ok (num_x q3 0 10000) e3) [0] ?_
   conv=>whnf
   have q4:=q3.to (numP_suf e3).1
   rcases e4:wantP [59] r3 with e | r4
   ·exact CallG.stop rfl (riox_stop (rx_er (want1_x q4 [59]) e4) [0,5] rfl rfl rfl ac0) (fun ch hc=>⟨e,by simp only [hs,e1,e2,e3,e4],hc⟩)
   refine cR (rx_ok (want1_x q4 [59]) e4) [0,5] ?_
   conv=>whnf
   have q5:=q4.to (wantP_suf e4)
   refine .eff ag0 ?_;conv=>whnf
   refine And.intro rfl ?_;conv=>whnf
   refine And.intro ⟨rfl,rfl⟩ (And.intro (by show (ls.length+1)*16≤140737488355328;omega) ?_)
   conv=>whnf
   refine Exists.intro ⟨d,n⟩ (And.intro rfl ?_)
   conv=>whnf
   refine ⟨by kernel_rfl,?_⟩
   conv=>whnf
   conv=>whnf
   have hl4:r4.length≤f:=by
    have a:=(dateP_suf e1).le
    have b:=(wantP_suf e2).le
    have c:=(numP_suf e3).1.le
    have c4:=(wantP_suf e4).le
    have d:=hq.tl
    omega
   exact ⟨(f,(ls++[⟨d,n⟩],r4)),⟨q5,hl4,(by show (ls++[_]).length≤20;rw [List.length_append];show ls.length+1≤20;omega),(by simp only [hs,e1,e2,e3,e4])⟩,Nat.lt_succ_self f,(wk_of [(0,.id 0),(1,.id 1),(2,.id 7)] rfl ⟨wc0,wc0,trivial⟩ ⟨wb0,wb0,⟨_,rfl,ah0⟩,trivial⟩)⟩
theorem favL_go {f:Nat} {ls:List (List UInt8)} {r:List Tok} (hg:ls.length=0∨isT [59] r=false) (hn:namedB r=true) (h20:(ls.length:Int)<20):favL (f+1) ls r=match freshP ls r with
  | .error e=>.error e
  | .ok (s,r1)=>favL f (ls++[s]) r1:=by
 rw [favL,if_pos hg,if_neg (by simp [hn]),if_neg (by omega)]
theorem freshP_lt {T:List Tok} {names:List (List UInt8)} {r r':List Tok} {s:List UInt8} (hp:PSt T r) (h:freshP names r=.ok (s,r')):r'.length+1=r.length:=by
 unfold freshP at h
 split at h
 ·cases h
 ·split at h
  ·cases h
  ·cases h;exact hp.tl
def favK (s:Ps (List (List UInt8))):Ps (List (List UInt8)):=match s with
 | .error e=>.error e
 | .ok (ls,r1)=>match wantP [59] r1 with
  | .error e=>.error e
  | .ok r2=>.ok (ls,r2)
theorem fav_x {T r:List Tok} (h:PSt T r) (x:Ind):RX 102 [.ptr 0 0,.ptr 1 0] [pobj T r,.cells 31 (celN x (.lsl 5 (argsE x.coupon)) (.sl 6 encL l0 x.lets) (.sl 7 encC c0 x.cov) .nils .nils)] 2 (favP r) (fun _=>[]) (fun v=>[pobj T v.2,.cells 31 (celN x (.lsl 5 (argsE x.coupon)) (.sl 6 encL l0 x.lets) (.sl 7 encC c0 x.cov) (.sl 1 encS [] v.1) .nils)]) (fun _=>[]):=by
 cases hb:isT [102,97,118,111,117,114] r with
 | false =>
  have hs:favP r=.ok ([],r):=by rw [favP,if_pos hb]
  refine xO (cxXOk (fun ch=>∃ er,favP r=.error er∧ch=stopC er) 2 48 [0,1,6,17]) Tryz.func102 ?_
  conv=>whnf
  refine cR ((has_f h hb)) [0] ?_
  conv=>whnf
  refine gT ?_
  conv=>whnf
  refine ⟨⟨[(0,.ptr 0 0)],[(0,.cells 132 (pcell T r)),(1,.cells 31 (celN x (.lsl 5 (argsE x.coupon)) (.sl 6 encL l0 x.lets) (.sl 7 encC c0 x.cov) (.sl 1 encS [] (([]:List (List UInt8)))) .nils))],2⟩,(wk_of [(0,.id 0),(1,.id 1)] rfl ⟨wc0,trivial⟩ ⟨wb0,⟨_,rfl,.cells _ _ _ _ rfl (by repeat (first | exact .nil | refine .cons (by first | exact .base (.tree _ _ rfl rfl) | exact .base (.own _ _ rfl) | exact .base (.ptr _ _ _ rfl) | exact .base (.map _ _ rfl) | exact .base (.nilown _ rfl) | exact .fn _ _ _ _ _ .nil (by repeat (first | exact .nil | refine .cons (by exact .ptr _ _ _ rfl) ?_)) | exact .base (.tree _ _ (LeT.nils_sl 1 encS []) rfl) | exact .base (.leT _ _ (LeT.nils_sl 1 encS []) rfl)) ?_)) rfl⟩,trivial⟩),rfl,rfl,?_⟩
  conv=>whnf
  exact ⟨rfl,([],r),hs,rfl,rfl,rfl⟩
 | true =>
  have h1:=h.tail (isT_kind hb)
  have hs0:favP r=favK (favL r.tail.length [] r.tail):=by
   rw [favP,if_neg (by simp [hb])]
   unfold favK
   try (cases favL r.tail.length [] r.tail<;>rfl)
  refine xO (cxXOk (fun ch=>∃ er,favP r=.error er∧ch=stopC er) 2 48 [0,1,6,17]) Tryz.func102 ?_
  conv=>whnf
  refine cR ((has_t h hb)) [0] ?_
  conv=>whnf
  refine gF ?_
  conv=>whnf
  refine loop_inv (cxXOk _ _ _ _) (fun s:Nat×(List (List UInt8)×List Tok)=>PSt T s.2.2∧s.2.2.length≤s.1∧s.2.1.length≤20∧favP r=favK (favL s.1 s.2.1 s.2.2)) (fun s=>s.1) (fun s=>⟨[(0,.ptr 0 0),(1,.ptr 1 0)],[(0,.cells 132 (pcell T (s.2.2))),(1,.cells 31 (celN x (.lsl 5 (argsE x.coupon)) (.sl 6 encL l0 x.lets) (.sl 7 encC c0 x.cov) (.own 2) .nils)),(2,.row 9 1 encS [] (s.2.1))],3⟩) (r.tail.length,([],r.tail)) ⟨h1,Nat.le_refl _,by simp,hs0⟩ ((wk_of [(0,.id 0),(1,.id 1),(2,.nil)] rfl ⟨wc0,wc0,trivial⟩ ⟨wb0,wb0,⟨_,rfl,ah0⟩,trivial⟩)) ?_
  rintro ⟨f,ls,q⟩ ⟨hq,hqf,hls,hsp⟩
  dsimp only at hq hqf hls hsp ⊢
  obtain ⟨f,rfl⟩:∃ g,f=g+1:=⟨f-1,by have:=hq.pos;omega⟩
  cases h0:decide ((ls.length:Int)=0) with
  | true =>
   have hg:ls.length=0∨isT [59] q=false:=.inl (by have:=of_decide_eq_true h0;omega)
   conv=>whnf
   rw [h0]
   refine cF [.rop (pcell T q),.str [59]] [.val (.bool false)] ?_
   conv=>whnf
   refine gT ?_
   conv=>whnf
   cases hn:namedB q with
   | false =>
    have hs:favP r=.error ((hdT q).pos,12):=by rw [hsp,favL,if_pos hg,if_pos hn];rfl
    have hnm:=named_ok hq
    rw [hn] at hnm
    refine cO (fun _=>hnm) ?_
    conv=>whnf
    exact CallG.stop rfl (riox_stop (chk_f hq 12) [0] rfl rfl rfl ac0) ((fun ch hc=>⟨_,hs,hc⟩))
   | true =>
    have hnm:=named_ok hq
    rw [hn] at hnm
    refine cO (fun _=>hnm) ?_
    conv=>whnf
    refine cR ((chk_t hq 12)) [0] ?_
    conv=>whnf
    cases h20:decide ((ls.length:Int)<20) with
    | false =>
     have hs:favP r=.error ((hdT q).pos,6):=by rw [hsp,favL,if_pos hg,if_neg (by simp [hn]),if_pos (of_decide_eq_false h20)];rfl
     exact CallG.stop rfl (riox_stop (chk_f hq 6) [0] rfl rfl rfl ac0) ((fun ch hc=>⟨_,hs,hc⟩))
    | true =>
     have h20':=of_decide_eq_true h20
     have hs:favP r=favK (match freshP ls q with
      | .error e=>.error e
      | .ok (s,r1)=>favL f (ls++[s]) r1):=by rw [hsp,favL_go hg hn h20']
     refine cR ((chk_t hq 6)) [0] ?_
     conv=>whnf
     rcases e1:freshP ls q with e | ⟨s,r1⟩
     ·have hs':favP r=.error e:=by rw [hs,e1];rfl
      refine DrawG.effp ag0 10 ?_
      conv=>whnf
      exact .mk [0,2] _ (riox_stop ((rx_er (fresh_x hq ls om0) e1)) [0,2] rfl rfl rfl ac0) ((fun ch hc=>⟨e,hs',hc⟩)) ⟨by kernel_rfl,by kernel_rfl⟩
     have hs':favP r=favK (favL f (ls++[s]) r1):=by rw [hs,e1]
     have q2:=hq.to (freshP_suf e1)
     have hl2:=freshP_lt hq e1
     refine .eff ag0 ?_
     conv=>whnf
     refine cR ((rx_ok (fresh_x hq ls om0) e1)) [0,2] ?_
     conv=>whnf
     refine And.intro rfl ?_
     conv=>whnf
     refine And.intro ⟨rfl,rfl⟩ (And.intro (by show (ls.length+1)*16≤140737488355328;omega) ?_)
     conv=>whnf
     refine Exists.intro s (And.intro rfl ?_)
     conv=>whnf
     refine ⟨by kernel_rfl,?_⟩
     conv=>whnf
     conv=>whnf
     exact ⟨(f,(ls++[s],r1)),⟨q2,(by show r1.length≤f;omega),(by show (ls++[_]).length≤20;rw [List.length_append];show ls.length+1≤20;omega),hs'⟩,Nat.lt_succ_self f,(wk_of [(0,.id 0),(1,.id 1),(2,.id 4)] rfl ⟨wc0,wc0,trivial⟩ ⟨wb0,wb0,⟨_,rfl,ah0⟩,trivial⟩)⟩
  | false =>
   have h0':=of_decide_eq_false h0
   cases h59:isT [59] q with
   | false =>
    have hg:ls.length=0∨isT [59] q=false:=.inr h59
    conv=>whnf
    rw [h0]
    refine cO (fun _=>(is_f hq h59)) ?_
    conv=>whnf
    refine gT ?_
    conv=>whnf
    cases hn:namedB q with
    | false =>
     have hs:favP r=.error ((hdT q).pos,12):=by rw [hsp,favL,if_pos hg,if_pos hn];rfl
     have hnm:=named_ok hq
     rw [hn] at hnm
     refine cO (fun _=>hnm) ?_
     conv=>whnf
     exact CallG.stop rfl (riox_stop (chk_f hq 12) [0] rfl rfl rfl ac0) ((fun ch hc=>⟨_,hs,hc⟩))
    | true =>
     have hnm:=named_ok hq
     rw [hn] at hnm
     refine cO (fun _=>hnm) ?_
     conv=>whnf
     refine cR ((chk_t hq 12)) [0] ?_
     conv=>whnf
     cases h20:decide ((ls.length:Int)<20) with
     | false =>
      have hs:favP r=.error ((hdT q).pos,6):=by rw [hsp,favL,if_pos hg,if_neg (by simp [hn]),if_pos (of_decide_eq_false h20)];rfl
      exact CallG.stop rfl (riox_stop (chk_f hq 6) [0] rfl rfl rfl ac0) ((fun ch hc=>⟨_,hs,hc⟩))
     | true =>
      have h20':=of_decide_eq_true h20
      have hs:favP r=favK (match freshP ls q with
       | .error e=>.error e
       | .ok (s,r1)=>favL f (ls++[s]) r1):=by rw [hsp,favL_go hg hn h20']
      refine cR ((chk_t hq 6)) [0] ?_
      conv=>whnf
      rcases e1:freshP ls q with e | ⟨s,r1⟩
      ·have hs':favP r=.error e:=by rw [hs,e1];rfl
       refine DrawG.effp ag0 10 ?_
       conv=>whnf
       exact .mk [0,2] _ (riox_stop ((rx_er (fresh_x hq ls om0) e1)) [0,2] rfl rfl rfl ac0) ((fun ch hc=>⟨e,hs',hc⟩)) ⟨by kernel_rfl,by kernel_rfl⟩
      have hs':favP r=favK (favL f (ls++[s]) r1):=by rw [hs,e1]
      have q2:=hq.to (freshP_suf e1)
      have hl2:=freshP_lt hq e1
      refine .eff ag0 ?_
      conv=>whnf
      refine cR ((rx_ok (fresh_x hq ls om0) e1)) [0,2] ?_
      conv=>whnf
      refine And.intro rfl ?_
      conv=>whnf
      refine And.intro ⟨rfl,rfl⟩ (And.intro (by show (ls.length+1)*16≤140737488355328;omega) ?_)
      conv=>whnf
      refine Exists.intro s (And.intro rfl ?_)
      conv=>whnf
      refine ⟨by kernel_rfl,?_⟩
      conv=>whnf
      conv=>whnf
      exact ⟨(f,(ls++[s],r1)),⟨q2,(by show r1.length≤f;omega),(by show (ls++[_]).length≤20;rw [List.length_append];show ls.length+1≤20;omega),hs'⟩,Nat.lt_succ_self f,(wk_of [(0,.id 0),(1,.id 1),(2,.id 4)] rfl ⟨wc0,wc0,trivial⟩ ⟨wb0,wb0,⟨_,rfl,ah0⟩,trivial⟩)⟩
   | true =>
    have hs:favP r=favK (.ok (ls,q)):=by rw [hsp,favL,if_neg (fun hc=>hc.elim (fun h=>by omega) (fun h=>by rw [h59] at h;cases h))]
    conv=>whnf
    rw [h0]
    refine cO (fun _=>(is_t hq h59)) ?_
    conv=>whnf
    refine gF ?_
    conv=>whnf
    rcases e2:wantP [59] q with e | r2
    ·exact CallG.stop rfl (riox_stop (rx_er (want1_x hq [59]) e2) [0,3] rfl rfl rfl ac0) (fun ch hc=>⟨e,by simp only [hs,favK,e2],hc⟩)
    refine cR (rx_ok (want1_x hq [59]) e2) [0,3] ?_
    conv=>whnf
    refine ⟨⟨[(0,.ptr 0 0)],[(0,.cells 132 (pcell T r2)),(1,.cells 31 (celN x (.lsl 5 (argsE x.coupon)) (.sl 6 encL l0 x.lets) (.sl 7 encC c0 x.cov) (.sl 1 encS [] ls) .nils))],2⟩,(wk_frz [2]).trans (wk_of [(0,.id 0),(1,.id 1)] rfl ⟨wc0,trivial⟩ ⟨wb0,wb0,trivial⟩),rfl,rfl,?_⟩
    conv=>whnf
    exact ⟨rfl,(ls,r2),by simp only [hs,favK,e2],rfl,rfl,rfl⟩
theorem ok_bind {ε α β:Type} (a:α) (f:α→Except ε β):(Except.ok a >>= f)=f a:=rfl
theorem er_bind {ε α β:Type} (e:ε) (f:α→Except ε β):((Except.error e:Except ε α) >>= f)=.error e:=rfl
theorem partP_suf {s:List UInt8} {a b n:Int} {r r':List Tok} (h:partP s a b r=.ok (n,r')):Suf r r':=by
 unfold partP at h
 split at h
 ·cases h
 rename_i e1
 split at h
 ·cases h
 rename_i e2
 split at h
 ·cases h
 rename_i e3
 cases h
 exact ((wantP_suf e1).trans (numP_suf e2).1).trans (wantP_suf e3)
theorem maybeP_suf {s:List UInt8} {a n0 n:Int} {r r':List Tok} (h:maybeP s a n0 r=.ok (n,r')):Suf r r':=by
 unfold maybeP at h
 split at h
 ·exact partP_suf h
 ·cases h;exact .refl _
theorem oneP_suf {s:List UInt8} {ws:List (List UInt8)} {n:Int} {r r':List Tok} (h:oneP s ws r=.ok (n,r')):Suf r r':=by
 unfold oneP at h
 split at h
 ·cases h
 rename_i r1 e1
 split at h
 ·cases h
 rename_i hi
 split at h
 ·cases h
 rename_i e2
 cases h
 have hlt:=idxP_lt (fun w=>isT w r1) [] ws
 have hb:isT (ws.getD (idxP (fun w=>isT w r1) ws).toNat []) r1=true:=by
  rcases hlt with hlt | hlt
  ·exact (hi hlt).elim
  ·exact hlt.2
 exact ((wantP_suf e1).trans (.tail (isT_kind hb))).trans (wantP_suf e2)
theorem letsP_suf:∀ (f:Nat) {ls ls':List LetE} {r r':List Tok},letsP f ls r=.ok (ls',r')→Suf r r'
 | 0,ls,ls',r,r',h=>by cases h;exact .refl _
 | f+1,ls,ls',r,r',h=>by
  unfold letsP at h
  split at h
  ·cases h;exact .refl _
  rename_i hb
  split at h
  ·cases h
  split at h
  ·cases h
  rename_i e1
  split at h
  ·cases h
  rename_i e2
  split at h
  ·cases h
  rename_i e3
  exact ((((Suf.tail (isT_kind (by simpa using hb))).trans (freshP_suf e1)).trans (wantP_suf e2)).trans (wholeP_suf e3)).trans (letsP_suf f h)
theorem covsP_suf:∀ (f:Nat) {ls ls':List Cov} {r r':List Tok},covsP f ls r=.ok (ls',r')→Suf r r'
 | 0,ls,ls',r,r',h=>by cases h;exact .refl _
 | f+1,ls,ls',r,r',h=>by
  unfold covsP at h
  split at h
  ·cases h;exact .refl _
  rename_i hb
  split at h
  ·cases h
  split at h
  ·cases h
  rename_i e1
  split at h
  ·cases h
  rename_i e2
  split at h
  ·cases h
  rename_i e3
  split at h
  ·cases h
  rename_i e4
  split at h
  ·cases h
  rename_i e5
  exact ((((((Suf.tail (isT_kind (by simpa using hb))).trans (freshP_suf e1)).trans (wantP_suf e2)).trans (wholeP_suf e3)).trans (numP_suf e4).1).trans (wantP_suf e5)).trans (covsP_suf f h)
theorem callsP_suf:∀ (f:Nat) {ls ls':List CallE} {r r':List Tok},callsP f ls r=.ok (ls',r')→Suf r r'
 | 0,ls,ls',r,r',h=>by cases h;exact .refl _
 | f+1,ls,ls',r,r',h=>by
  unfold callsP at h
  split at h
  ·cases h;exact .refl _
  rename_i hb
  split at h
  ·cases h
  split at h
  ·cases h
  rename_i e1
  split at h
  ·cases h
  rename_i e2
  split at h
  ·cases h
  rename_i e3
  split at h
  ·cases h
  rename_i e4
  exact (((((Suf.tail (isT_kind (by simpa using hb))).trans (dateP_suf e1)).trans (wantP_suf e2)).trans (numP_suf e3).1).trans (wantP_suf e4)).trans (callsP_suf f h)
theorem favL_suf:∀ (f:Nat) {ls ls':List (List UInt8)} {r r':List Tok},favL f ls r=.ok (ls',r')→Suf r r'
 | 0,ls,ls',r,r',h=>by cases h;exact .refl _
 | f+1,ls,ls',r,r',h=>by
  unfold favL at h
  split at h
  ·split at h
   ·cases h
   split at h
   ·cases h
   split at h
   ·cases h
   rename_i e1
   exact (freshP_suf e1).trans (favL_suf f h)
  ·cases h;exact .refl _
theorem favP_suf {ls:List (List UInt8)} {r r':List Tok} (h:favP r=.ok (ls,r')):Suf r r':=by
 unfold favP at h
 split at h
 ·cases h;exact .refl _
 rename_i hb
 split at h
 ·cases h
 rename_i e1
 split at h
 ·cases h
 rename_i e2
 cases h
 exact ((Suf.tail (isT_kind (by simpa using hb))).trans (favL_suf _ e1)).trans (wantP_suf e2)
def indP (r:List Tok):Except Er (Ind×List Tok):=do
 let r ← wantP [105,115,115,117,101] r
 let (name,r) ← nameP r
 let r ← wantP [111,102] r
 let (issuer,r) ← nameP r
 let r ← wantP [59] r
 let (face,r) ← partP [102,97,99,101] 1 1000000000000000 r
 let r ← wantP [102,114,111,109] r
 let (frm,r) ← dateP (-1) r
 let r ← wantP [116,111] r
 let (to,r) ← dateP frm r
 let r ← wantP [101,118,101,114,121] r
 let (every,r) ← numP 1 120 r
 let r ← wantsP [[109,111,110,116,104,115],[59]] r
 let (count,r) ← oneP [99,111,117,110,116] cntW r
 let (adjust,r) ← oneP [97,100,106,117,115,116] adjW r
 let (record,r) ← partP [114,101,99,111,114,100] 0 100 r
 let (rank,r) ← partP [114,97,110,107] 0 9 r
 let (lets,r) ← letsP r.length [] r
 let r ← wantP [99,111,117,112,111,110] r
 let (coupon,r) ← wholeP [59] r
 let (cap,r) ← partP [99,97,112] 0 10000 r
 let (cov,r) ← covsP r.length [] r
 let (favour,r) ← favP r
 let (cross,r) ← maybeP [99,114,111,115,115] 1000000000000000 (-1) r
 let (calls,r) ← callsP r.length [] r
 let (notice,r) ← maybeP [110,111,116,105,99,101] 1000 0 r
 let (sink,r) ← maybeP [115,105,110,107] 1000 0 r
 let (majority,r) ← partP [109,97,106,111,114,105,116,121] 1 1000 r
 let (fast,r) ← partP [102,97,115,116] 1 1000 r
 if (hdT r).kind=3 then .ok (⟨name,issuer,face,frm,to,every,count,adjust,record,rank,lets,coupon,cap,cov,favour,cross,calls,notice,sink,majority,fast⟩,r) else errP 12 r
theorem ind_x {T r:List Tok} (h:PSt T r):RX 50 [.ptr 0 0] [pobj T r] 1 (indP r) (fun v=>[encX v.1]) (fun v=>[pobj T v.2]) (fun v=>[.cells 31 (celX v.1)]):=by
 refine xO (cxXOk (fun ch=>∃ er,indP r=.error er∧ch=stopC er) 1 98 [0,2,3]) Tryz.func50 ?_
 conv=>whnf
 rcases e1:wantP [105,115,115,117,101] r with e | r1
 ·exact CallG.stop rfl (riox_stop (rx_er (want1_x h [105,115,115,117,101]) e1) [0,3] rfl rfl rfl ac0) (fun ch hc=>⟨e,by simp only [indP,ok_bind,er_bind,e1],hc⟩)
 refine cR (rx_ok (want1_x h [105,115,115,117,101]) e1) [0,3] ?_
 conv=>whnf
 have q1:=PSt.to h (wantP_suf e1)
 rcases e2:nameP r1 with e | ⟨nm,r2⟩
 ·exact CallG.stop rfl (riox_stop (rx_er (name_x q1) e2) [0] rfl rfl rfl ac0) (fun ch hc=>⟨e,by simp only [indP,e1,ok_bind,er_bind,e2],hc⟩)
 refine cR (rx_ok (name_x q1) e2) [0] ?_
 conv=>whnf
 have q2:=PSt.to q1 (nameP_suf e2)
 rcases e3:wantP [111,102] r2 with e | r3
 ·exact CallG.stop rfl (riox_stop (rx_er (want1_x q2 [111,102]) e3) [0,4] rfl rfl rfl ac0) (fun ch hc=>⟨e,by simp only [indP,e1,e2,ok_bind,er_bind,e3],hc⟩)
 refine cR (rx_ok (want1_x q2 [111,102]) e3) [0,4] ?_
 conv=>whnf
 have q3:=PSt.to q2 (wantP_suf e3)
 rcases e4:nameP r3 with e | ⟨iss,r4⟩
 ·exact CallG.stop rfl (riox_stop (rx_er (name_x q3) e4) [0] rfl rfl rfl ac0) (fun ch hc=>⟨e,by simp only [indP,e1,e2,e3,ok_bind,er_bind,e4],hc⟩)
 refine cR (rx_ok (name_x q3) e4) [0] ?_
 conv=>whnf
 have q4:=PSt.to q3 (nameP_suf e4)
 rcases e5:wantP [59] r4 with e | r5
 ·exact CallG.stop rfl (riox_stop (rx_er (want1_x q4 [59]) e5) [0,5] rfl rfl rfl ac0) (fun ch hc=>⟨e,by simp only [indP,e1,e2,e3,e4,ok_bind,er_bind,e5],hc⟩)
 refine cR (rx_ok (want1_x q4 [59]) e5) [0,5] ?_
 conv=>whnf
 have q5:=PSt.to q4 (wantP_suf e5)
 rcases e6:partP [102,97,99,101] 1 1000000000000000 r5 with e | ⟨face,r6⟩
 ·exact CallG.stop rfl (riox_stop (rx_er (part_x q5 [102,97,99,101] 1 1000000000000000) e6) [0] rfl rfl rfl ac0) (fun ch hc=>⟨e,by simp only [indP,e1,e2,e3,e4,e5,ok_bind,er_bind,e6],hc⟩)
 refine cR (rx_ok (part_x q5 [102,97,99,101] 1 1000000000000000) e6) [0] ?_
 conv=>whnf
 have q6:=PSt.to q5 (partP_suf e6)
 rcases e7:wantP [102,114,111,109] r6 with e | r7
 ·exact CallG.stop rfl (riox_stop (rx_er (want1_x q6 [102,114,111,109]) e7) [0,6] rfl rfl rfl ac0) (fun ch hc=>⟨e,by simp only [indP,e1,e2,e3,e4,e5,e6,ok_bind,er_bind,e7],hc⟩)
 refine cR (rx_ok (want1_x q6 [102,114,111,109]) e7) [0,6] ?_
 conv=>whnf
 have q7:=PSt.to q6 (wantP_suf e7)
 rcases e8:dateP (-1) r7 with e | ⟨frm,r8⟩
 ·exact CallG.stop rfl (riox_stop (rx_er (date_x q7 (-1)) e8) [0] rfl rfl rfl ac0) (fun ch hc=>⟨e,by simp only [indP,e1,e2,e3,e4,e5,e6,e7,ok_bind,er_bind,e8],hc⟩)
 refine cR (rx_ok (date_x q7 (-1)) e8) [0] ?_
 conv=>whnf
 have q8:=PSt.to q7 (dateP_suf e8)
 rcases e9:wantP [116,111] r8 with e | r9
 ·exact CallG.stop rfl (riox_stop (rx_er (want1_x q8 [116,111]) e9) [0,7] rfl rfl rfl ac0) (fun ch hc=>⟨e,by simp only [indP,e1,e2,e3,e4,e5,e6,e7,e8,ok_bind,er_bind,e9],hc⟩)
 refine cR (rx_ok (want1_x q8 [116,111]) e9) [0,7] ?_
 conv=>whnf
 have q9:=PSt.to q8 (wantP_suf e9)
 rcases e10:dateP frm r9 with e | ⟨tto,r10⟩
 ·exact CallG.stop rfl (riox_stop (rx_er (date_x q9 frm) e10) [0] rfl rfl rfl ac0) (fun ch hc=>⟨e,by simp only [indP,e1,e2,e3,e4,e5,e6,e7,e8,e9,ok_bind,er_bind,e10],hc⟩)
 refine cR (rx_ok (date_x q9 frm) e10) [0] ?_
 conv=>whnf
 have q10:=PSt.to q9 (dateP_suf e10)
 rcases e11:wantP [101,118,101,114,121] r10 with e | r11
 ·exact CallG.stop rfl (riox_stop (rx_er (want1_x q10 [101,118,101,114,121]) e11) [0,8] rfl rfl rfl ac0) (fun ch hc=>⟨e,by simp only [indP,e1,e2,e3,e4,e5,e6,e7,e8,e9,e10,ok_bind,er_bind,e11],hc⟩)
 refine cR (rx_ok (want1_x q10 [101,118,101,114,121]) e11) [0,8] ?_
 conv=>whnf
 have q11:=PSt.to q10 (wantP_suf e11)
 rcases e12:numP 1 120 r11 with e | ⟨every,r12⟩
 ·exact CallG.stop rfl (riox_stop (rx_er (num_x q11 1 120) e12) [0] rfl rfl rfl ac0) (fun ch hc=>⟨e,by simp only [indP,e1,e2,e3,e4,e5,e6,e7,e8,e9,e10,e11,ok_bind,er_bind,e12],hc⟩)
 refine cR (rx_ok (num_x q11 1 120) e12) [0] ?_
 conv=>whnf
 have q12:=PSt.to q11 ((numP_suf e12).1)
 rcases e13:wantsP [[109,111,110,116,104,115],[59]] r12 with e | r13
 ·exact CallG.stop rfl (riox_stop (rx_er (want_x q12 [[109,111,110,116,104,115],[59]] (by simp)) e13) [0,9] rfl rfl rfl ac0) (fun ch hc=>⟨e,by simp only [indP,e1,e2,e3,e4,e5,e6,e7,e8,e9,e10,e11,e12,ok_bind,er_bind,e13],hc⟩)
 refine cR (rx_ok (want_x q12 [[109,111,110,116,104,115],[59]] (by simp)) e13) [0,9] ?_
 conv=>whnf
 have q13:=PSt.to q12 (wantsP_suf e13)
 refine cO (fun _=>cnt_ok) ?_
 conv=>whnf
 rcases e14:oneP [99,111,117,110,116] cntW r13 with e | ⟨count,r14⟩
 ·exact CallG.stop rfl (riox_stop (rx_er (one_x q13 [99,111,117,110,116] cntW (by decide)) e14) [0] rfl rfl rfl ac0) (fun ch hc=>⟨e,by simp only [indP,e1,e2,e3,e4,e5,e6,e7,e8,e9,e10,e11,e12,e13,ok_bind,er_bind,e14],hc⟩)
 refine cR (rx_ok (one_x q13 [99,111,117,110,116] cntW dd0) e14) [0] ?_
 conv=>whnf
 have q14:=PSt.to q13 (oneP_suf e14)
 refine cO (fun _=>adj_ok) ?_
 conv=>whnf
 rcases e15:oneP [97,100,106,117,115,116] adjW r14 with e | ⟨adjust,r15⟩
 ·exact CallG.stop rfl (riox_stop (rx_er (one_x q14 [97,100,106,117,115,116] adjW (by decide)) e15) [0] rfl rfl rfl ac0) (fun ch hc=>⟨e,by simp only [indP,e1,e2,e3,e4,e5,e6,e7,e8,e9,e10,e11,e12,e13,e14,ok_bind,er_bind,e15],hc⟩)
 refine cR (rx_ok (one_x q14 [97,100,106,117,115,116] adjW dd0) e15) [0] ?_
 conv=>whnf
 have q15:=PSt.to q14 (oneP_suf e15)
 rcases e16:partP [114,101,99,111,114,100] 0 100 r15 with e | ⟨record,r16⟩
 ·exact CallG.stop rfl (riox_stop (rx_er (part_x q15 [114,101,99,111,114,100] 0 100) e16) [0] rfl rfl rfl ac0) (fun ch hc=>⟨e,by simp only [indP,e1,e2,e3,e4,e5,e6,e7,e8,e9,e10,e11,e12,e13,e14,e15,ok_bind,er_bind,e16],hc⟩)
 refine cR (rx_ok (part_x q15 [114,101,99,111,114,100] 0 100) e16) [0] ?_
 conv=>whnf
 have q16:=PSt.to q15 (partP_suf e16)
 rcases e17:partP [114,97,110,107] 0 9 r16 with e | ⟨rank,r17⟩
 ·exact CallG.stop rfl (riox_stop (rx_er (part_x q16 [114,97,110,107] 0 9) e17) [0] rfl rfl rfl ac0) (fun ch hc=>⟨e,by simp only [indP,e1,e2,e3,e4,e5,e6,e7,e8,e9,e10,e11,e12,e13,e14,e15,e16,ok_bind,er_bind,e17],hc⟩)
 refine cR (rx_ok (part_x q16 [114,97,110,107] 0 9) e17) [0] ?_
 conv=>whnf
 have q17:=PSt.to q16 (partP_suf e17)
 rcases e18:letsP r17.length [] r17 with e | ⟨lets,r18⟩
 ·exact CallG.stop rfl (riox_stop (rx_er (lets_x q17 ⟨nm,iss,face,frm,tto,every,count,adjust,record,rank,[],ex0,0,[],[],0,[],0,0,0,0⟩) e18) [0,2] rfl rfl rfl ac0) (fun ch hc=>⟨e,by simp only [indP,e1,e2,e3,e4,e5,e6,e7,e8,e9,e10,e11,e12,e13,e14,e15,e16,e17,ok_bind,er_bind,e18],hc⟩)
 refine cR (rx_ok (lets_x q17 ⟨nm,iss,face,frm,tto,every,count,adjust,record,rank,[],ex0,0,[],[],0,[],0,0,0,0⟩) e18) [0,2] ?_
 conv=>whnf
 have q18:=PSt.to q17 (letsP_suf _ e18)
 rcases e19:wantP [99,111,117,112,111,110] r18 with e | r19
 ·exact CallG.stop rfl (riox_stop (rx_er (want1_x q18 [99,111,117,112,111,110]) e19) [0,10] rfl rfl rfl ac0) (fun ch hc=>⟨e,by simp only [indP,e1,e2,e3,e4,e5,e6,e7,e8,e9,e10,e11,e12,e13,e14,e15,e16,e17,e18,ok_bind,er_bind,e19],hc⟩)
 refine cR (rx_ok (want1_x q18 [99,111,117,112,111,110]) e19) [0,10] ?_
 conv=>whnf
 have q19:=PSt.to q18 (wantP_suf e19)
 rcases e20:wholeP [59] r19 with e | ⟨coupon,r20⟩
 ·exact CallG.stop rfl (riox_stop (rx_er (whole_x q19 [59]) e20) [0] rfl rfl rfl ac0) (fun ch hc=>⟨e,by simp only [indP,e1,e2,e3,e4,e5,e6,e7,e8,e9,e10,e11,e12,e13,e14,e15,e16,e17,e18,e19,ok_bind,er_bind,e20],hc⟩)
 refine cR (rx_ok (whole_x q19 [59]) e20) [0] ?_
 conv=>whnf
 have q20:=PSt.to q19 (wholeP_suf e20)
 rcases e21:partP [99,97,112] 0 10000 r20 with e | ⟨cap,r21⟩
 ·exact CallG.stop rfl (riox_stop (rx_er (part_x q20 [99,97,112] 0 10000) e21) [0] rfl rfl rfl ac0) (fun ch hc=>⟨e,by simp only [indP,e1,e2,e3,e4,e5,e6,e7,e8,e9,e10,e11,e12,e13,e14,e15,e16,e17,e18,e19,e20,ok_bind,er_bind,e21],hc⟩)
 refine cR (rx_ok (part_x q20 [99,97,112] 0 10000) e21) [0] ?_
 conv=>whnf
 have q21:=PSt.to q20 (partP_suf e21)
 rcases e22:covsP r21.length [] r21 with e | ⟨cov,r22⟩
 ·exact CallG.stop rfl (riox_stop (rx_er (covs_x q21 ⟨nm,iss,face,frm,tto,every,count,adjust,record,rank,lets,coupon,cap,[],[],0,[],0,0,0,0⟩) e22) [0,2] rfl rfl rfl ac0) (fun ch hc=>⟨e,by simp only [indP,e1,e2,e3,e4,e5,e6,e7,e8,e9,e10,e11,e12,e13,e14,e15,e16,e17,e18,e19,e20,e21,ok_bind,er_bind,e22],hc⟩)
 refine cR (rx_ok (covs_x q21 ⟨nm,iss,face,frm,tto,every,count,adjust,record,rank,lets,coupon,cap,[],[],0,[],0,0,0,0⟩) e22) [0,2] ?_
 conv=>whnf
 have q22:=PSt.to q21 (covsP_suf _ e22)
 rcases e23:favP r22 with e | ⟨favour,r23⟩
 ·exact CallG.stop rfl (riox_stop (rx_er (fav_x q22 ⟨nm,iss,face,frm,tto,every,count,adjust,record,rank,lets,coupon,cap,cov,[],0,[],0,0,0,0⟩) e23) [0,2] rfl rfl rfl ac0) (fun ch hc=>⟨e,by simp only [indP,e1,e2,e3,e4,e5,e6,e7,e8,e9,e10,e11,e12,e13,e14,e15,e16,e17,e18,e19,e20,e21,e22,ok_bind,er_bind,e23],hc⟩)
 refine cR (rx_ok (fav_x q22 ⟨nm,iss,face,frm,tto,every,count,adjust,record,rank,lets,coupon,cap,cov,[],0,[],0,0,0,0⟩) e23) [0,2] ?_
 conv=>whnf
 have q23:=PSt.to q22 (favP_suf e23)
 rcases e24:maybeP [99,114,111,115,115] 1000000000000000 (-1) r23 with e | ⟨cross,r24⟩
 ·exact CallG.stop rfl (riox_stop (rx_er (maybe_x q23 [99,114,111,115,115] 1000000000000000 (-1)) e24) [0] rfl rfl rfl ac0) (fun ch hc=>⟨e,by simp only [indP,e1,e2,e3,e4,e5,e6,e7,e8,e9,e10,e11,e12,e13,e14,e15,e16,e17,e18,e19,e20,e21,e22,e23,ok_bind,er_bind,e24],hc⟩)
 refine cR (rx_ok (maybe_x q23 [99,114,111,115,115] 1000000000000000 (-1)) e24) [0] ?_
 conv=>whnf
 have q24:=PSt.to q23 (maybeP_suf e24)
 rcases e25:callsP r24.length [] r24 with e | ⟨calls,r25⟩
 ·exact CallG.stop rfl (riox_stop (rx_er (calls_x q24 ⟨nm,iss,face,frm,tto,every,count,adjust,record,rank,lets,coupon,cap,cov,favour,cross,[],0,0,0,0⟩) e25) [0,2] rfl rfl rfl ac0) (fun ch hc=>⟨e,by simp only [indP,e1,e2,e3,e4,e5,e6,e7,e8,e9,e10,e11,e12,e13,e14,e15,e16,e17,e18,e19,e20,e21,e22,e23,e24,ok_bind,er_bind,e25],hc⟩)
 refine cR (rx_ok (calls_x q24 ⟨nm,iss,face,frm,tto,every,count,adjust,record,rank,lets,coupon,cap,cov,favour,cross,[],0,0,0,0⟩) e25) [0,2] ?_
 conv=>whnf
 have q25:=PSt.to q24 (callsP_suf _ e25)
 rcases e26:maybeP [110,111,116,105,99,101] 1000 0 r25 with e | ⟨notice,r26⟩
 ·exact CallG.stop rfl (riox_stop (rx_er (maybe_x q25 [110,111,116,105,99,101] 1000 0) e26) [0] rfl rfl rfl ac0) (fun ch hc=>⟨e,by simp only [indP,e1,e2,e3,e4,e5,e6,e7,e8,e9,e10,e11,e12,e13,e14,e15,e16,e17,e18,e19,e20,e21,e22,e23,e24,e25,ok_bind,er_bind,e26],hc⟩)
 refine cR (rx_ok (maybe_x q25 [110,111,116,105,99,101] 1000 0) e26) [0] ?_
 conv=>whnf
 have q26:=PSt.to q25 (maybeP_suf e26)
 rcases e27:maybeP [115,105,110,107] 1000 0 r26 with e | ⟨sink,r27⟩
 ·exact CallG.stop rfl (riox_stop (rx_er (maybe_x q26 [115,105,110,107] 1000 0) e27) [0] rfl rfl rfl ac0) (fun ch hc=>⟨e,by simp only [indP,e1,e2,e3,e4,e5,e6,e7,e8,e9,e10,e11,e12,e13,e14,e15,e16,e17,e18,e19,e20,e21,e22,e23,e24,e25,e26,ok_bind,er_bind,e27],hc⟩)
 refine cR (rx_ok (maybe_x q26 [115,105,110,107] 1000 0) e27) [0] ?_
 conv=>whnf
 have q27:=PSt.to q26 (maybeP_suf e27)
 rcases e28:partP [109,97,106,111,114,105,116,121] 1 1000 r27 with e | ⟨majority,r28⟩
 ·exact CallG.stop rfl (riox_stop (rx_er (part_x q27 [109,97,106,111,114,105,116,121] 1 1000) e28) [0] rfl rfl rfl ac0) (fun ch hc=>⟨e,by simp only [indP,e1,e2,e3,e4,e5,e6,e7,e8,e9,e10,e11,e12,e13,e14,e15,e16,e17,e18,e19,e20,e21,e22,e23,e24,e25,e26,e27,ok_bind,er_bind,e28],hc⟩)
 refine cR (rx_ok (part_x q27 [109,97,106,111,114,105,116,121] 1 1000) e28) [0] ?_
 conv=>whnf
 have q28:=PSt.to q27 (partP_suf e28)
 rcases e29:partP [102,97,115,116] 1 1000 r28 with e | ⟨fast,r29⟩
 ·exact CallG.stop rfl (riox_stop (rx_er (part_x q28 [102,97,115,116] 1 1000) e29) [0] rfl rfl rfl ac0) (fun ch hc=>⟨e,by simp only [indP,e1,e2,e3,e4,e5,e6,e7,e8,e9,e10,e11,e12,e13,e14,e15,e16,e17,e18,e19,e20,e21,e22,e23,e24,e25,e26,e27,e28,ok_bind,er_bind,e29],hc⟩)
 refine cR (rx_ok (part_x q28 [102,97,115,116] 1 1000) e29) [0] ?_
 conv=>whnf
 have q29:=PSt.to q28 (partP_suf e29)
 have hn:=next_ok q29
 refine cO (fun _=>hn) ?_
 conv=>whnf
 cases hk:decide ((hdT r29).kind=3) with
 | false =>
  have hs:indP r=.error ((hdT r29).pos,12):=by simp only [indP,e1,e2,e3,e4,e5,e6,e7,e8,e9,e10,e11,e12,e13,e14,e15,e16,e17,e18,e19,e20,e21,e22,e23,e24,e25,e26,e27,e28,e29,ok_bind,er_bind,of_decide_eq_false hk,if_false,errP]
  exact CallG.stop rfl (riox_stop (chk_f q29 12) [0] rfl rfl rfl ac0) ((fun ch hc=>⟨_,hs,hc⟩))
 | true =>
  have hs:indP r=.ok (⟨nm,iss,face,frm,tto,every,count,adjust,record,rank,lets,coupon,cap,cov,favour,cross,calls,notice,sink,majority,fast⟩,r29):=by simp only [indP,e1,e2,e3,e4,e5,e6,e7,e8,e9,e10,e11,e12,e13,e14,e15,e16,e17,e18,e19,e20,e21,e22,e23,e24,e25,e26,e27,e28,e29,ok_bind,er_bind,of_decide_eq_true hk,if_true]
  refine cR ((chk_t q29 12)) [0] ?_
  conv=>whnf
  refine ⟨⟨[(2,.ptr 1 0)],[(0,.cells 132 (pcell T r29)),(1,.cells 31 (celX ((⟨nm,iss,face,frm,tto,every,count,adjust,record,rank,lets,coupon,cap,cov,favour,cross,calls,notice,sink,majority,fast⟩:Ind))))],2⟩,(wk_of [(0,.id 0),(1,.id 1)] rfl ⟨wc0,trivial⟩ ⟨wb0,wb0,trivial⟩),rfl,rfl,?_⟩
  conv=>whnf
  exact ⟨rfl,(⟨nm,iss,face,frm,tto,every,count,adjust,record,rank,lets,coupon,cap,cov,favour,cross,calls,notice,sink,majority,fast⟩,r29),hs,rfl,rfl,rfl⟩
def hasP (s p:List UInt8):Bool:=decide (p.length≤s.length)&&decide (s.take p.length=p)
theorem prefix0_ok (s p:List UInt8) (hs:s.length≤9223372036854775807):APureV Tryz.prog 188 [.str s,.str p] (.bool (hasP s p)):=by
 unfold hasP
 cases hb:decide (p.length≤s.length) with
 | true =>
  have hle:=of_decide_eq_true hb
  have h1:decide (((p.length:Nat):Int)≤((s.length:Nat):Int))=true:=decide_eq_true (by omega)
  refine aO (cxOk 18 [0,1,4]) Tryz.func188 ?_
  conv=>whnf
  rw [h1]
  refine And.intro (fun _=>⟨by omega,by omega⟩) ?_;conv=>whnf
  have hc:cut none (some (.int .i64 p.length)) s 0 p.length=s.take p.length:=by
   unfold cut
   simp
  show [AR.val (AV.bool (true&&decide (cut none (some (.int .i64 p.length)) s 0 p.length=p)))]=_
  rw [hc]
 | false =>
  have hle:=of_decide_eq_false hb
  have h1:decide (((p.length:Nat):Int)≤((s.length:Nat):Int))=false:=decide_eq_false (by omega)
  refine aO (cxOk 18 [0,1,4]) Tryz.func188 ?_
  conv=>whnf
  rw [h1]
  refine And.intro (fun h=>(by cases h)) ?_
  conv=>whnf
  rfl
theorem prefix_ok (s p:List UInt8) (hs:s.length≤9223372036854775807):APureV Tryz.prog 171 [.str s,.str p] (.bool (hasP s p)):=by
 have h:=prefix0_ok s p hs
 refine aO (cxOk 8 [0,1,4]) Tryz.func171 ?_
 conv=>whnf
 refine cO (fun _=>h) ?_
 conv=>whnf
 rfl
def numV (s:List UInt8):Int:=s.foldl (fun n c=>10*n+((c.toNat:Int)-48)) 0
def numG (s:List UInt8):Bool:=decide (s≠[])&&decide (spanN digB s=s.length)&&!(decide ((s.getD 0 0).toNat=48)&&decide (s≠[48]))&&decide (s.length≤16)
def numR (s:List UInt8):Option Int:=if numG s=true∧numV s≤1000000000000000 then some (numV s) else none
def numA:Option Int→List AR
 | some n=>[.val (.int .i64 n),.val (.bool true)]
 | none=>[.val (.int .i64 0),.val (.bool false)]
theorem numV_snoc (l:List UInt8) (c:UInt8):numV (l++[c])=10*numV l+((c.toNat:Int)-48):=by simp [numV]
theorem numV_go:∀ (l:List UInt8) (a:Int),0≤a→(∀ c∈l,digB (c.toNat:Int)=true)→0≤l.foldl (fun n c=>10*n+((c.toNat:Int)-48)) a∧l.foldl (fun n c=>10*n+((c.toNat:Int)-48)) a<(a+1)*10 ^ l.length
 | [],a,ha,_=>by simp;omega
 | c::l,a,ha,h=>by
  have h2:=h c (by simp)
  unfold digB at h2
  simp only [Bool.and_eq_true,decide_eq_true_eq] at h2
  have h1:=numV_go l (10*a+((c.toNat:Int)-48)) (by omega) fun x hx=>h x (by simp [hx])
  rw [List.foldl_cons,List.length_cons,Int.pow_succ]
  refine ⟨h1.1,Int.lt_of_lt_of_le h1.2 ?_⟩
  have h3:(10*a+((c.toNat:Int)-48)+1)≤(a+1)*10:=by omega
  have h4:(0:Int)≤10 ^ l.length:=Int.pow_nonneg (by omega)
  have h5:=Int.mul_le_mul_of_nonneg_right h3 h4
  rw [Int.mul_assoc,Int.mul_comm 10 (10 ^ l.length)] at h5
  exact h5
theorem numV_bnd (l:List UInt8) (h:∀ c∈l,digB (c.toNat:Int)=true):0≤numV l∧numV l<10 ^ l.length:=by
 have:=numV_go l 0 (by omega) h
 simpa [numV] using this
theorem numb_ok (s:List UInt8) (hs:s.length≤9223372036854775807):APure Tryz.prog 170 [.str s] (fun rs=>rs=numA (numR s)):=by
 have hsp:=span_ok s 158 _ digit_ok hs
 have hpos:s≠[]→0<s.length:=fun h=>List.length_pos_iff.2 h
 have e4:decide (s=(⟨#[]⟩:ByteArray).data.toList)=decide (s=[]):=rfl
 have e5:decide (s=(⟨#[48]⟩:ByteArray).data.toList)=decide (s=[48]):=rfl
 have e3:decide ((spanN digB s:Int)=(s.length:Int))=decide (spanN digB s=s.length):=by
  by_cases h:spanN digB s=s.length
  ·simp [h]
  ·simp [h];omega
 have e6:decide (16<(s.length:Int))=!decide (s.length≤16):=by
  by_cases h:s.length≤16
  ·simp [h];omega
  ·simp [h];omega
 have e7:decide (((s.getD 0 0).toNat:Int)=48)=decide ((s.getD 0 0).toNat=48):=by
  generalize (s.getD 0 0).toNat=z
  by_cases h:z=48
  ·simp [h]
  ·simp [h];omega
 have hN:numG s=(!decide (s=[])&&decide (spanN digB s=s.length)&&!(decide ((s.getD 0 0).toNat=48)&&!decide (s=[48]))&&decide (s.length≤16)):=by
  unfold numG
  simp
 refine aO (cxOk 46 [0,2,3,4,5,28,30,31,32,44]) Tryz.func170 ?_
 conv=>whnf
 refine cO (fun _=>hsp) ?_
 conv=>whnf
 refine And.intro (fun h=>⟨by omega,by
  have h2:s≠[]:=fun e=>(by subst e;cases h)
  have:=hpos h2
  omega⟩) ?_
 conv=>whnf
 rw [e4,e3,e5,e6,show (Int.toNat 0)=0 from rfl,e7]
 have hcond:(decide (s=[])||!decide (spanN digB s=s.length)||decide ((s.getD 0 0).toNat=48)&&!decide (s=[48])||!decide (s.length≤16))=!numG s:=by
  rw [hN]
  generalize decide (s=[])=a
  generalize decide (spanN digB s=s.length)=b
  generalize decide ((s.getD 0 0).toNat=48)=c
  generalize decide (s=[48])=d
  generalize decide (s.length≤16)=f
  revert a b c d f
  decide
 rw [hcond]
 cases hg:numG s with
 | false =>
  have hr:numR s=none:=by unfold numR;rw [if_neg (by simp [hg])]
  rw [hr]
  refine gT ?_
  conv=>whnf
  rfl
 | true =>
  rw [hg] at hN
  have hN':=hN.symm
  simp only [Bool.and_eq_true,decide_eq_true_eq] at hN'
  have hspan:=hN'.1.1.2
  have h16:=hN'.2
  have hall:∀ k,k<s.length→digB ((s.getD k 0).toNat:Int)=true:=fun k hk=>spanN_lt (by rw [hspan];exact hk)
  have htk:∀ k,k≤s.length→0≤numV (s.take k)∧numV (s.take k)<10 ^ 16:=by
   intro k hk
   have h1:=numV_bnd (s.take k) (fun c hc=>by
    obtain ⟨i,hi,he⟩:=List.mem_iff_getElem.1 hc
    have hik:i<s.length:=by rw [List.length_take] at hi;omega
    have:=hall i hik
    rw [List.getD_eq_getElem?_getD,List.getElem?_eq_getElem hik] at this
    rw [← he,List.getElem_take]
    exact this)
   refine ⟨h1.1,Int.lt_of_lt_of_le h1.2 ?_⟩
   have h2:(10:Nat) ^ (s.take k).length≤10 ^ 16:=Nat.pow_le_pow_right (by omega) (by rw [List.length_take];omega)
   exact_mod_cast h2
  refine gF ?_
  conv=>whnf
  refine loop_up (cxOk _ _) s.length (fun _=>True) (fun k=>⟨[(0,.str s),(2,.int .i64 0),(3,.bool false),(4,.int .i64 (numV (s.take k))),(30,.int .i64 (s.length:Nat)),(31,.int .i64 (k:Nat))],[],0⟩) trivial ((wk_of [] rfl ⟨wa0,wa0,wa0,wa0,wa0,wa0,trivial⟩ trivial)) ?_
  intro k hk _
  have hv:=htk k hk
  conv=>whnf
  refine ⟨fun hd=>?_,fun hd=>?_⟩
  ·have hd:=of_decide_eq_true hd
   have hlt:k<s.length:=by omega
   have hek:(k:Int).toNat=k:=Int.toNat_natCast k
   have hdig:=hall k hlt
   unfold digB at hdig
   simp only [Bool.and_eq_true,decide_eq_true_eq] at hdig
   have hv2:=htk (k+1) hlt
   conv=>whnf
   refine iO ?_;conv=>whnf
   refine iO ?_;conv=>whnf
   rw [hek]
   have hw:IntKind.u8.wrap (((s.getD k 0).toNat:Int)-48)=((s.getD k 0).toNat:Int)-48:=IntWalk.u8_in _ (by omega)
   rw [hw]
   refine iO ?_
   conv=>whnf
   refine iO ?_
   conv=>whnf
   refine iO ?_
   conv=>whnf
   refine ⟨k+1,⟨hlt,trivial⟩,(by show s.length-(k+1)<s.length-k;omega),(wk_of [] rfl ⟨wa0,wa0,wa0,.base (.tree _ _ (congrArg (AV.int .i64) (by rw [take_getD (d:=0) hlt,numV_snoc])) rfl),wa0,wa0,trivial⟩ trivial)⟩
  ·have hd:=of_decide_eq_false hd
   have hke:k=s.length:=by omega
   rw [hke,List.take_length]
   rw [hke,List.take_length] at hv
   conv=>whnf
   refine ⟨fun hm=>?_,fun hm=>?_⟩
   ·have hm:=of_decide_eq_true hm
    have hr:numR s=none:=by unfold numR;rw [if_neg (by omega)]
    rw [hr]
    conv=>whnf
    rfl
   ·have hm:=of_decide_eq_false hm
    have hr:numR s=some (numV s):=by unfold numR;rw [if_pos ⟨hg,by omega⟩]
    rw [hr]
    conv=>whnf
    rfl
def wordT (s:List UInt8):List UInt8:=s.take (spanN (fun c=>letB c||digB c) s)
def digT (s:List UInt8):List UInt8:=s.take (spanN digB s)
def nextR (s:List UInt8):Except Int Tok :=
 if letB ((s.getD 0 0).toNat:Int)=true then
  if wordB (wordT s)=true then .ok ⟨0,wordT s,0,0⟩ else .error 11
 else if digB ((s.getD 0 0).toNat:Int)=true then
  match numR (digT s) with
  | some n=>.ok ⟨1,digT s,n,0⟩
  | none=>.error 3
 else match signs.find? (hasP s) with
  | some p=>.ok ⟨2,p,0,0⟩
  | none=>.error 10
def nextA:Except Int Tok→List AR
 | .ok t=>[.val (encTk t),.val (.int .i64 0)]
 | .error e=>[.val (encTk t0),.val (.int .i64 e)]
theorem find_at {α:Type _} {p:α→Bool} {d:α}:∀ {l:List α} {k:Nat},k<l.length→(∀ j,j<k→p (l.getD j d)=false)→p (l.getD k d)=true→l.find? p=some (l.getD k d)
 | [],k,h,_,_=>by simp at h
 | x::l,0,_,_,hp=>by
  have hp:p x=true:=hp
  rw [List.find?_cons_of_pos hp]
  rfl
 | x::l,k+1,h,hj,hp=>by
  have h0:p x=false:=hj 0 (by omega)
  rw [List.find?_cons_of_neg (by rw [h0];simp)]
  exact find_at (l:=l) (k:=k) (by simpa using h) (fun j hjk=>hj (j+1) (by omega)) hp
theorem find_no {α:Type _} {p:α→Bool} {d:α}:∀ {l:List α},(∀ j,j<l.length→p (l.getD j d)=false)→l.find? p=none
 | [],_=>rfl
 | x::l,h=>by
  have h0:p x=false:=h 0 (by simp)
  rw [List.find?_cons_of_neg (by rw [h0];simp)]
  exact find_no (l:=l) fun j hj=>h (j+1) (by simpa using hj)
theorem signs_rel (cs:Array Value) (h:cs=(signs.map fun s=>Value.string ⟨s.toArray⟩).toArray):cs.size=(signs.map fun s=>AV.str s).length∧∀ (S:Blocks) (w:World) (j:Nat) (c:Value) (a:AV),cs[j]?=some c→(signs.map fun s=>AV.str s)[j]?=some a→RelT S w c a:=by
 subst h
 refine ⟨by simp,fun S w j c a h1 h2=>?_⟩
 simp only [List.getElem?_toArray,List.getElem?_map,Option.map_eq_some_iff] at h1 h2
 obtain ⟨x,hx,rfl⟩:=h1
 obtain ⟨y,hy,rfl⟩:=h2
 rw [hx] at hy
 cases hy
 exact .str _ _ rfl
theorem next95 (s:List UInt8) (hne:s≠[]) (hs:s.length≤4000):APure Tryz.prog 136 [.str s] (fun rs=>rs=nextA (nextR s)):=by
 have hpos:0<s.length:=List.length_pos_iff.2 hne
 have hsp1:=span_ok s 169 _ wordd_ok (by omega)
 have hsp2:=span_ok s 158 _ digit_ok (by omega)
 have hle1:=spanN_le (fun c=>letB c||digB c) s
 have hle2:=spanN_le digB s
 have hw:=word_ok (wordT s) (by unfold wordT;rw [List.length_take];omega)
 have hn:=numb_ok (digT s) (by unfold digT;rw [List.length_take];omega)
 refine aO (cxOk 54 [0,2,3,4,5,6,7,9,10,20,24,38,43,44,45,49]) Tryz.func136 ?_
 conv=>whnf
 refine iO ?_
 conv=>whnf
 refine cO (fun _=>letter_ok ((s.getD 0 0).toNat:Int)) ?_
 conv=>whnf
 refine ⟨fun hl=>?_,fun hl=>?_⟩
 ·conv=>whnf
  refine cO (fun _=>hsp1) ?_
  conv=>whnf
  refine iO ?_;conv=>whnf
  refine cO (fun _=>hw) ?_
  conv=>whnf
  have hr:nextR s=if wordB (wordT s)=true then .ok ⟨0,wordT s,0,0⟩ else .error 11:=by unfold nextR;rw [if_pos hl]
  rw [hr]
  refine ⟨fun hb=>?_,fun hb=>?_⟩
  ·have hb':wordB (wordT s)=false:=by simpa using hb
   rw [hb',if_neg (by simp)]
   conv=>whnf
   rfl
  ·have hb':wordB (wordT s)=true:=by simpa using hb
   rw [hb',if_pos rfl]
   conv=>whnf
   rfl
 conv=>whnf
 refine iO ?_
 conv=>whnf
 refine cO (fun _=>digit_ok ((s.getD 0 0).toNat:Int)) ?_
 conv=>whnf
 refine ⟨fun hd=>?_,fun hd=>?_⟩
 ·conv=>whnf
  refine cO (fun _=>hsp2) ?_
  conv=>whnf
  refine iO ?_;conv=>whnf
  have hr:nextR s=match numR (digT s) with
   | some n=>.ok ⟨1,digT s,n,0⟩
   | none=>.error 3:=by unfold nextR;rw [if_neg (by rw [hl];simp),if_pos hd]
  cases hN:numR (digT s) with
  | none =>
   rw [hN] at hn hr
   unfold numA at hn
   rw [hr]
   refine cO (fun _=>hn) ?_
   conv=>whnf
   refine gT ?_
   conv=>whnf
   rfl
  | some n =>
   rw [hN] at hn hr
   unfold numA at hn
   rw [hr]
   refine cO (fun _=>hn) ?_
   conv=>whnf
   refine gF ?_
   conv=>whnf
   rfl
 have hr:nextR s=match signs.find? (hasP s) with
  | some p=>.ok ⟨2,p,0,0⟩
  | none=>.error 10:=by unfold nextR;rw [if_neg (by rw [hl];simp),if_neg (by rw [hd];simp)]
 rw [hr]
 conv=>whnf
 refine .arr _ (signs.map fun s=>AV.str s) _ rfl rfl rfl rfl signs_rel ?_
 conv=>whnf
 refine loop_up (cxOk _ _) 11 (fun k=>∀ j,j<k→hasP s (signs.getD j [])=false) (fun k=>⟨[(0,.str s),(2,.ptr 0 0),(3,.int .i64 0),(43,.agg (signs.map fun s=>AV.str s)),(44,.int .i64 (k:Nat))],[(0,.cells 145 [.int .i64 0,.str [],.int .i64 0,.int .i64 0])],1⟩) (by intro j hj;omega) ((wk_of [(0,.id 0)] rfl ⟨wa0,wc0,wa0,wa0,wa0,trivial⟩ ⟨wb0,trivial⟩)) ?_
 intro k hk hP
 have hlen:signs.length=11:=rfl
 conv=>whnf
 refine ⟨fun hd2=>?_,fun hd2=>?_⟩
 ·have hd2:=of_decide_eq_true hd2
  have hlt:k<signs.length:=by omega
  have hek:(k:Int).toNat=k:=Int.toNat_natCast k
  have hp:=prefix_ok s (signs.getD k []) (by omega)
  conv=>whnf
  refine iO ?_;conv=>whnf
  have hgk:(signs.map fun s=>AV.str s).getD (k:Int).toNat .undef=.str (signs.getD k []):=by rw [hek];exact wsL_get signs hlt
  rw [hgk]
  conv=>whnf
  refine cO (fun _=>hp) ?_
  conv=>whnf
  refine ⟨fun hq=>?_,fun hq=>?_⟩
  ·rw [find_at (d:=[]) hlt hP hq]
   conv=>whnf
   rfl
  ·conv=>whnf
   refine iO ?_
   conv=>whnf
   refine ⟨k+1,⟨hlt,fun j hj=>(by
    by_cases e:j=k
    ·rw [e];exact hq
    ·exact hP j (by omega))⟩,(by show 11-(k+1)<11-k;omega),(wk_of [(0,.id 0)] rfl ⟨wa0,wc0,wa0,wa0,wa0,trivial⟩ ⟨wb0,trivial⟩)⟩
 ·have hd2:=of_decide_eq_false hd2
  obtain rfl:k=11:=by omega
  rw [find_no (d:=[]) (fun j hj=>hP j (by omega))]
  conv=>whnf
  rfl
def skipN (s:List UInt8) (p:Nat):Nat:=p+spanN blkB (s.drop p)
def lexL (s:List UInt8):Nat→Nat→List Tok→Except Er (List Tok)
 | 0,_,l=>.ok l
 | f+1,p,l =>
  if skipN s p=s.length then .ok (l++[⟨3,[],0,(s.length:Nat)⟩])
  else match nextR (s.drop (skipN s p)) with
   | .error e=>.error ((skipN s p:Nat),e)
   | .ok t=>lexL s f (skipN s p+t.text.length) (l++[⟨t.kind,t.text,t.n,(skipN s p:Nat)⟩])
def lexR (s:List UInt8):Except Er (List Tok):=if 4000<s.length then .error (0,6) else lexL s (s.length+1) 0 []
def lexA:Except Er (List Tok)→List AR
 | .ok l=>[.val (encTks l),.val (.int .i64 0),.val (.int .i64 0)]
 | .error e=>[.val .nils,.val (.int .i64 e.1),.val (.int .i64 e.2)]
theorem signs_pos:∀ p∈signs,1≤p.length:=by decide
theorem spanN_pos {p:Int→Bool} {s:List UInt8} (hs:s≠[]) (h:p ((s.getD 0 0).toNat:Int)=true):1≤spanN p s:=by
 cases s with
 | nil=>exact (hs rfl).elim
 | cons c s =>
  have h:p (c.toNat:Int)=true:=h
  unfold spanN
  rw [List.takeWhile_cons,if_pos h]
  simp
theorem nextR_ok {s:List UInt8} (hs:s≠[]) {t:Tok} (h:nextR s=.ok t):1≤t.text.length∧t.text <+: s:=by
 unfold nextR at h
 split at h
 ·rename_i hl
  split at h
  ·cases h
   have:=spanN_pos (p:=fun c=>letB c||digB c) hs (by simp only [hl,Bool.true_or])
   have hle:=spanN_le (fun c=>letB c||digB c) s
   exact ⟨by show 1≤(wordT s).length;unfold wordT;rw [List.length_take];omega,List.take_prefix _ _⟩
  ·cases h
 split at h
 ·rename_i hd
  split at h
  ·cases h
   have:=spanN_pos hs hd
   have hle:=spanN_le digB s
   exact ⟨by show 1≤(digT s).length;unfold digT;rw [List.length_take];omega,List.take_prefix _ _⟩
  ·cases h
 split at h
 ·rename_i p hp
  cases h
  refine ⟨signs_pos _ (List.mem_of_find?_eq_some hp),?_⟩
  have:=List.find?_some hp
  unfold hasP at this
  simp only [Bool.and_eq_true,decide_eq_true_eq] at this
  show p <+: s
  rw [← this.2]
  exact List.take_prefix _ _
 ·cases h
theorem nextR_er {s:List UInt8} {e:Int} (h:nextR s=.error e):e=11∨e=3∨e=10:=by
 unfold nextR at h
 split at h
 ·split at h
  ·cases h
  ·cases h;omega
 split at h
 ·split at h
  ·cases h
  ·cases h;omega
 split at h
 ·cases h
 ·cases h;omega
theorem lex34 (s:List UInt8) (hs:s.length≤9223372036854775807):APure Tryz.prog 92 [.str s] (fun rs=>rs=lexA (lexR s)):=by
 cases h4:decide (4000<s.length) with
 | true =>
  have h4':=of_decide_eq_true h4
  have hr:lexR s=.error (0,6):=by unfold lexR;rw [if_pos h4']
  rw [hr]
  refine aW (cxOk 49 [0,2,3,4,5,6,7,8,11,21,35]) Tryz.func92 ?_
  conv=>whnf
  rw [decide_eq_true (show (4000:Int)<((s.length:Nat):Int) by omega)]
  refine gT ?_
  conv=>whnf
  refine ⟨_,Wk.refl _,?_⟩
  conv=>whnf
  rfl
 | false =>
  have h4':=of_decide_eq_false h4
  have hr:lexR s=lexL s (s.length+1) 0 []:=by unfold lexR;rw [if_neg h4']
  refine aW (cxOk 49 [0,2,3,4,5,6,7,8,11,21,35]) Tryz.func92 ?_
  conv=>whnf
  rw [decide_eq_false (show ¬ (4000:Int)<((s.length:Nat):Int) by omega)]
  refine gF ?_
  conv=>whnf
  refine loop_inv (cxOk _ _) (fun x:Nat×(Nat×List Tok)=>x.2.1≤s.length∧s.length<x.2.1+x.1∧x.2.2.length≤x.2.1∧lexR s=lexL s x.1 x.2.1 x.2.2) (fun x=>x.1) (fun x=>⟨[(0,.str s),(5,.own 0),(6,.int .i64 ((x.2.1):Nat))],[(0,.row 145 4 encTk t0 (x.2.2))],1⟩) (s.length+1,(0,[])) ⟨by show 0≤_;omega,by show _<0+(_+1);omega,by simp,hr⟩ ((wk_of [(0,.nil)] rfl ⟨wa0,af0,wa0,trivial⟩ ⟨⟨_,rfl,ah0⟩,trivial⟩)) ?_
  rintro ⟨f,p,l⟩ ⟨hp,hpf,hl,hsp⟩
  dsimp only at hp hpf hl hsp ⊢
  obtain ⟨f,rfl⟩:∃ g,f=g+1:=⟨f-1,by omega⟩
  have hbl:=span_ok (s.drop p) 135 _ blank_ok (by rw [List.length_drop];omega)
  have hbn:=spanN_le blkB (s.drop p)
  rw [List.length_drop] at hbn
  conv=>whnf
  refine iO ?_;conv=>whnf
  refine cO (fun _=>hbl) ?_
  conv=>whnf
  refine iO ?_
  conv=>whnf
  have hq:(p:Int)+(spanN blkB (s.drop p):Nat)=((skipN s p:Nat):Int):=(Int.natCast_add _ _).symm
  have hqle:skipN s p≤s.length:=by unfold skipN;omega
  have hqp:p≤skipN s p:=by unfold skipN;omega
  rw [hq]
  cases he:decide (skipN s p=s.length) with
  | true =>
   have he':=of_decide_eq_true he
   rw [decide_eq_true (show ((skipN s p:Nat):Int)=((s.length:Nat):Int) by omega)]
   have hs':lexR s=.ok (l++[⟨3,[],0,(s.length:Nat)⟩]):=by rw [hsp,lexL,if_pos he']
   rw [hs',he']
   refine gT ?_
   conv=>whnf
   refine And.intro rfl ?_
   conv=>whnf
   refine And.intro ⟨rfl,rfl⟩ (And.intro (by show (l.length+1)*40≤140737488355328;omega) ?_)
   conv=>whnf
   refine Exists.intro ⟨3,[],0,(s.length:Nat)⟩ (And.intro rfl ?_)
   conv=>whnf
   refine ⟨_,wk_frz [2],?_⟩
   conv=>whnf
   rfl
  | false =>
   have he':=of_decide_eq_false he
   rw [decide_eq_false (show ¬ ((skipN s p:Nat):Int)=((s.length:Nat):Int) by omega)]
   have hne:s.drop (skipN s p)≠[]:=fun h=>by
    have:=congrArg List.length h
    rw [List.length_drop] at this
    simp only [List.length_nil] at this
    omega
   have hnx:=next95 (s.drop (skipN s p)) hne (by rw [List.length_drop];omega)
   refine gF ?_
   conv=>whnf
   refine iO ?_
   conv=>whnf
   cases hN:nextR (s.drop (skipN s p)) with
   | error e =>
    rw [hN] at hnx
    have hs':lexR s=.error ((skipN s p:Nat),e):=by rw [hsp,lexL,if_neg he',hN]
    have hen:=nextR_er hN
    rw [hs']
    unfold nextA at hnx
    refine cO (fun _=>hnx) ?_
    conv=>whnf
    rw [decide_eq_false (show ¬ e=0 by omega)]
    refine gT ?_
    conv=>whnf
    refine ⟨_,Wk.refl _,?_⟩
    conv=>whnf
    rfl
   | ok t =>
    rw [hN] at hnx
    obtain ⟨ht1,htp⟩:=nextR_ok hne hN
    have htl:=htp.length_le
    rw [List.length_drop] at htl
    have hs':lexR s=lexL s f (skipN s p+t.text.length) (l++[⟨t.kind,t.text,t.n,(skipN s p:Nat)⟩]):=by rw [hsp,lexL,if_neg he',hN]
    unfold nextA at hnx
    refine cO (fun _=>hnx) ?_
    conv=>whnf
    refine gF ?_
    conv=>whnf
    refine And.intro rfl ?_
    conv=>whnf
    refine And.intro ⟨rfl,rfl⟩ (And.intro (by show (l.length+1)*40≤140737488355328;omega) ?_)
    conv=>whnf
    refine Exists.intro ⟨t.kind,t.text,t.n,(skipN s p:Nat)⟩ (And.intro rfl ?_)
    conv=>whnf
    refine iO ?_
    conv=>whnf
    exact ⟨(f,(skipN s p+t.text.length,l++[⟨t.kind,t.text,t.n,(skipN s p:Nat)⟩])),⟨(by show skipN s p+t.text.length≤s.length;omega),(by show s.length<skipN s p+t.text.length+f;omega),(by show (l++[_]).length≤skipN s p+t.text.length;rw [List.length_append];show l.length+1≤_;omega),hs'⟩,Nat.lt_succ_self f,(wk_of [(0,.id 3)] rfl ⟨wa0,af0,wa0,trivial⟩ ⟨⟨_,rfl,ah0⟩,trivial⟩)⟩
theorem digT_all (s:List UInt8):∀ c∈digT s,digB (c.toNat:Int)=true:=by
 intro c hc
 have h1:digT s=s.takeWhile fun b=>digB (b.toNat:Int):=by
  unfold digT spanN
  exact (List.prefix_iff_eq_take.1 (List.takeWhile_prefix _)).symm
 rw [h1] at hc
 exact (List.all_eq_true.1 (List.all_takeWhile (p:=fun b:UInt8=>digB (b.toNat:Int)) (l:=s))) _ hc
theorem nextR_mk {s:List UInt8} {t:Tok} (h:nextR s=.ok t):t.kind≠3∧0≤t.n∧t.n≤1000000000000000:=by
 unfold nextR at h
 split at h
 ·split at h
  ·cases h;exact ⟨by simp,by simp,by simp⟩
  ·cases h
 split at h
 ·split at h
  ·rename_i n hn
   cases h
   unfold numR at hn
   split at hn
   ·rename_i hc
    cases hn
    exact ⟨by simp,(numV_bnd _ (digT_all s)).1,hc.2⟩
   ·cases hn
  ·cases h
 split at h
 ·cases h;exact ⟨by simp,by simp,by simp⟩
 ·cases h
theorem fin1_snoc {l:List Tok} {t:Tok} (h:∀ x∈l,x.kind≠3) (ht:t.kind=3):Fin1 (l++[t]):=by
 induction l with
 | nil=>exact ht
 | cons x l ih =>
  have h1:=ih fun y hy=>h y (List.mem_cons_of_mem _ hy)
  have h2:=h x List.mem_cons_self
  cases l with
  | nil=>exact ⟨h2,h1⟩
  | cons y l=>exact ⟨h2,h1⟩
theorem lexL_ok {s:List UInt8}:∀ (f p:Nat) (l T:List Tok),(∀ t∈l,t.kind≠3∧t.text.length≤4000∧0≤t.n∧t.n≤1000000000000000)→s.length≤4000→p≤s.length→s.length<p+f→l.length≤p→lexL s f p l=.ok T→Fin1 T∧T.length≤s.length+1∧∀ t∈T,t.text.length≤4000∧0≤t.n∧t.n≤1000000000000000:=by
 intro f
 induction f with
 | zero=>intro p l T _ _ hp hf;omega
 | succ f ih =>
  intro p l T hl h4 hp hf hlp h
  unfold lexL at h
  split at h
  ·cases h
   refine ⟨fin1_snoc (fun x hx=>(hl x hx).1) rfl,by rw [List.length_append];simp;omega,fun t ht=>?_⟩
   rcases List.mem_append.1 ht with ht | ht
   ·exact (hl t ht).2
   ·have:t=_:=List.mem_singleton.1 ht
    subst this
    exact ⟨by simp,by simp,by simp⟩
  ·rename_i hne'
   split at h
   ·cases h
   ·rename_i t hN
    have hq:skipN s p≤s.length:=by
     have:=spanN_le blkB (s.drop p)
     rw [List.length_drop] at this
     unfold skipN;omega
    have hqp:p≤skipN s p:=by unfold skipN;omega
    have hne:s.drop (skipN s p)≠[]:=fun h=>by
     have:=congrArg List.length h
     rw [List.length_drop] at this
     simp only [List.length_nil] at this
     omega
    obtain ⟨t1,t2⟩:=nextR_ok hne hN
    obtain ⟨k1,k2,k3⟩:=nextR_mk hN
    have t3:=t2.length_le
    rw [List.length_drop] at t3
    refine ih _ _ T (fun x hx=>?_) h4 (by omega) (by omega) (by rw [List.length_append];simp;omega) h
    rcases List.mem_append.1 hx with hx | hx
    ·exact hl x hx
    ·have:x=_:=List.mem_singleton.1 hx
     subst this
     exact ⟨k1,by show t.text.length≤4000;omega,k2,k3⟩
theorem lexR_ok {s:List UInt8} {T:List Tok} (h:lexR s=.ok T):PSt T T:=by
 unfold lexR at h
 split at h
 ·cases h
 ·rename_i h4
  obtain ⟨a,b,c⟩:=lexL_ok _ _ _ T (fun t ht=>by cases ht) (by omega) (by omega) (by omega) (by simp) h
  exact ⟨List.suffix_refl _,a,by omega,c⟩
theorem open_ok (s:List UInt8) (hs:s.length≤9223372036854775807) {T:List Tok} (h:lexR s=.ok T):RIO Tryz.prog 47 [.str s] [] 0 (fun vs bs es=>vs=[.ptr 0 0,.int .i64 0,.int .i64 0]∧bs=[]∧es=[pobj T T]):=by
 have hl:=lex34 s hs
 rw [h] at hl
 unfold lexA at hl
 refine rO (cxPOk 0 19 [0,2,3,4,5,6,7]) Tryz.func47 ?_
 conv=>whnf
 refine cO (fun _=>hl) ?_
 conv=>whnf
 refine ⟨⟨[(2,.ptr 0 0),(3,.int .i64 0),(4,.int .i64 0)],[(0,.cells 132 (pcell T T))],1⟩,(wk_of [(0,.id 0)] rfl ⟨wc0,wa0,wa0,trivial⟩ ⟨⟨_,rfl,.cells _ _ _ _ rfl (by repeat (first | exact .nil | refine .cons (by first | exact .base (.tree _ _ rfl rfl) | exact .base (.own _ _ rfl) | exact .base (.ptr _ _ _ rfl) | exact .base (.map _ _ rfl) | exact .base (.nilown _ rfl) | exact .fn _ _ _ _ _ .nil (by repeat (first | exact .nil | refine .cons (by exact .ptr _ _ _ rfl) ?_)) | exact .base (.tree _ _ (congrArg (AV.int .i64) (by rw [Nat.sub_self];rfl)) rfl) | exact .base (.leT _ _ (congrArg (AV.int .i64) (by rw [Nat.sub_self];rfl)) rfl)) ?_)) rfl⟩,trivial⟩),rfl,rfl,?_⟩
 conv=>whnf
 exact ⟨rfl,rfl,rfl,rfl⟩
theorem caught_er (a b c d:Int):RIO Tryz.prog 49 [.ival 134 [.int .i64 a,.int .i64 b],.ptr 0 0,.ptr 1 0] [.cells 3 [.int .i64 c],.cells 35 [.int .i64 d]] 2
  (fun vs bs es=>vs=[.bool true]∧bs=[.cells 3 [.int .i64 a],.cells 35 [.int .i64 b]]∧es=[]):=by
 refine rO (cxPOk 2 31 [0,1,2,6,7,8,19,21]) Tryz.func49 ?_
 conv=>whnf
 refine gF ?_
 conv=>whnf
 refine gT ?_
 conv=>whnf
 refine .eff ag0 ?_
 conv=>whnf
 refine ⟨by kernel_rfl,?_⟩
 conv=>whnf
 conv=>whnf
 refine ⟨⟨[(6,.bool true)],[(0,.cells 3 [.int .i64 a]),(1,.cells 35 [.int .i64 b])],2⟩,(wk_of [(0,.id 0),(1,.id 1)] rfl ⟨wa0,trivial⟩ ⟨wb0,wb0,trivial⟩),rfl,rfl,?_⟩
 conv=>whnf
 exact ⟨rfl,rfl,rfl,rfl⟩
theorem caught_ok (c d:Int):RIO Tryz.prog 49 [.ifc true,.ptr 0 0,.ptr 1 0] [.cells 3 [.int .i64 c],.cells 35 [.int .i64 d]] 2
  (fun vs bs es=>vs=[.bool false]∧bs=[.cells 3 [.int .i64 c],.cells 35 [.int .i64 d]]∧es=[]):=by
 refine rO (cxPOk 2 31 [0,1,2,6,7,8,19,21]) Tryz.func49 ?_
 conv=>whnf
 refine gF ?_
 conv=>whnf
 refine gF ?_
 conv=>whnf
 refine ⟨⟨[(6,.bool false)],[(0,.cells 3 [.int .i64 c]),(1,.cells 35 [.int .i64 d])],2⟩,(wk_of [(0,.id 0),(1,.id 1)] rfl ⟨wa0,trivial⟩ ⟨wb0,wb0,trivial⟩),rfl,rfl,?_⟩
 conv=>whnf
 exact ⟨rfl,rfl,rfl,rfl⟩
def parseR (s:List UInt8):Except Er Ind:=match lexR s with
 | .error e=>.error e
 | .ok T=>match indP T with
  | .error e=>.error e
  | .ok (x,_)=>.ok x
def parA:Except Er Ind→List AR
 | .ok x=>[.val (encX x),.val (.int .i64 0),.val (.int .i64 0)]
 | .error e=>[.val (encX i0),.val (.int .i64 e.1),.val (.int .i64 e.2)]
abbrev zIX:List AV:=[.str [],.str [],.int .i64 0,.int .i64 0,.int .i64 0,.int .i64 0,.int .i64 0,.int .i64 0,.int .i64 0,.int .i64 0,.nils,.int .i64 0,.int .i64 0,.int .i64 0,.str [],.nils,.int .i64 0,.nils,.nils,.int .i64 0,.nils,.int .i64 0,.int .i64 0,.int .i64 0,.int .i64 0]
noncomputable abbrev cP:Cx:=cxP 3 20 [0,2,3,4,5,13]
theorem parse_go (s:List UInt8) (hs:s.length≤9223372036854775807) {T:List Tok} (h:lexR s=.ok T):APure Tryz.prog 19 [.str s] (fun rs=>rs=parA (parseR s)):=by
 have ho:=open_ok s hs h
 have hp:=lexR_ok h
 have hfit:∀ {F:Fr},F.pin=(fun _=>none)→F.fits 3:=fun {F} e i v hv=>by rw [e] at hv;cases hv
 refine apure_d (C:=cP) Tryz.func19 rfl dd0 rfl (by exact Nat.le_of_ble_eq_true rfl) ?_
 intro S w a hrel
 have hstart:=hrel
 refine wp_seq_ev (cxPOk _ _ _) (C:=cP) (hfit rfl) (st1:=⟨[(0,.str s),(2,.ptr 0 0),(3,.ptr 1 0),(4,.ptr 2 0)],[(0,.cells 31 zIX),(1,.cells 3 [.int .i64 0]),(2,.cells 35 [.int .i64 0])],3⟩) (Rr:=fun _=>False) ?_ (fun _ h=>h) ?_ (fun _ _ _ _ h=>h.elim) a w hrel
 ·conv=>whnf
  exact (wk_of [(0,.id 0),(1,.id 1),(2,.id 2)] rfl ⟨wa0,wc0,wc0,wc0,trivial⟩ ⟨wb0,wb0,wb0,trivial⟩)
 intro a w1 hrel
 refine wp_seq_ev (cxPOk _ _ _) (C:=cP) (hfit rfl) (st1:=⟨[(2,.ptr 0 0),(3,.ptr 1 0),(4,.ptr 2 0),(5,.ptr 3 0)],[(0,.cells 31 zIX),(1,.cells 3 [.int .i64 0]),(2,.cells 35 [.int .i64 0]),(3,.cells 132 (pcell T T))],4⟩) (Rr:=fun _=>False) ?_ (fun _ h=>h) ?_ (fun _ _ _ _ h=>h.elim) a w1 hrel
 ·conv=>whnf
  refine cR (ho) [] ?_
  conv=>whnf
  exact (wk_of [(0,.id 0),(1,.id 1),(2,.id 2),(3,.id 3)] rfl ⟨wc0,wc0,wc0,wc0,trivial⟩ ⟨wb0,wb0,wb0,wb0,trivial⟩)
 intro a w1 hrel
 refine wp_seq_ev (cxPOk _ _ _) (C:=cP) (hfit rfl) (st1:=⟨[(2,.ptr 0 0),(3,.ptr 1 0),(4,.ptr 2 0),(5,.ptr 3 0)],[(0,.cells 31 zIX),(1,.cells 3 [.int .i64 0]),(2,.cells 35 [.int .i64 0]),(3,.cells 132 (pcell T T))],4⟩) (Rr:=fun _=>False) ?_ (fun _ h=>h) ?_ (fun _ _ _ _ h=>h.elim) a w1 hrel
 ·conv=>whnf
  refine gF ?_
  conv=>whnf
  exact (wk_of [(0,.id 0),(1,.id 1),(2,.id 2),(3,.id 3)] rfl ⟨wc0,wc0,wc0,wc0,trivial⟩ ⟨wb0,wb0,wb0,wb0,trivial⟩)
 intro a w1 hrel
 obtain ⟨m,S1,hc,hsz,hds,hr⟩:=hrel
 have hsz20:a.tmps.size=20:=hsz
 have p2:RelV m S1 w1 (a.tmps.getD 2 undef) (.ptr 0 0):=hr 2
 have p3:RelV m S1 w1 (a.tmps.getD 3 undef) (.ptr 1 0):=hr 3
 have p4:RelV m S1 w1 (a.tmps.getD 4 undef) (.ptr 2 0):=hr 4
 have hR0:Rel (Fr.inner ⟨w,fun _=>False,S,fun _=>none,[]⟩ m 3) 20 (⟨[(2,.ptr 0 0),(3,.ptr 1 0),(4,.ptr 2 0),(5,.ptr 3 0)],[(0,.cells 31 zIX),(1,.cells 3 [.int .i64 0]),(2,.cells 35 [.int .i64 0]),(3,.cells 132 (pcell T T))],4⟩) a w1:=⟨m,S1,core_inner hc 3,hsz,hds,hr⟩
 have hlt17:17<a.tmps.size:=by omega
 refine wp_seq (wp_defer (t:=17) (g:=48) rfl rfl rfl rfl rfl rfl hlt17 ?_)
 have hR1:=rel_defer (t:=17) (v:=.func (.func 48) #[] (#[Operand.tmp 3,Operand.tmp 4,Operand.tmp 2].map a.eval)) (d:={ target:=.fn (.func 48) (#[Operand.tmp 3,Operand.tmp 4,Operand.tmp 2].map a.eval),args:=#[] }) hR0 rfl
 have hcap:#[Operand.tmp 3,Operand.tmp 4,Operand.tmp 2].map a.eval=#[a.tmps.getD 3 undef,a.tmps.getD 4 undef,a.tmps.getD 2 undef]:=by
  rw [List.map_toArray]
  rfl
 cases hi:indP T with
 | ok v =>
  obtain ⟨x,r⟩:=v
  have hs:parseR s=.ok x:=by unfold parseR;rw [h];simp only [hi]
  rw [hs]
  have hfit3:=Fr.inner_fits ⟨w,fun _=>False,S,fun _=>none,[]⟩ m 3
  refine wp_mono (evCode_sound (C:=cP) (cxPOk _ _ _) (F:=⟨w,fun _=>False,S,(Fr.inner ⟨w,fun _=>False,S,fun _=>none,[]⟩ m 3).pin,[_]⟩) hfit3 _ _ (fun e st'=>match e with
   | .ret=>Wk 3 20 st' (⟨[(2,.ptr 0 0),(3,.ptr 1 0),(4,.ptr 2 0)],[(0,.cells 31 (celX x)),(1,.cells 3 [.int .i64 0]),(2,.cells 35 [.int .i64 0])],3⟩)
   | _=>False) ?_ _ _ hR1) ?_
  ·conv=>whnf
   refine cR ((rx_ok (ind_x hp) hi)) [3] ?_
   conv=>whnf
   exact (wk_of [(0,.id 0),(1,.id 1),(2,.id 2)] rfl ⟨wc0,wc0,wc0,trivial⟩ ⟨wb0,wb0,wb0,trivial⟩)
  rintro e a' w' ⟨st',h1,h2⟩
  have h2:=orP_off (fun _ h=>h) h2
  cases e with
  | ret =>
   obtain ⟨m',S',hc',hsz',hd',hr'⟩:=h2 ⟨w,fun _=>False,S,(Fr.inner ⟨w,fun _=>False,S,fun _=>none,[]⟩ m 3).pin,[_]⟩ a' w' hfit3 h1
   have hmm:∀ i,i<3→∀ u,m i=some u→m' i=some u:=fun i hi u hu=>hc'.pins i u (by show (if i<3 then m i else none)=some u;rw [if_pos hi,hu])
   show Leaves Tryz.prog Tryz.f19 a'.tmps _ a'.defers .returning w'
   rw [hd']
   refine leaves_cons (u:=.returning) (fun h=>by cases h) (f:=48) (args:=#[a.tmps.getD 3 undef,a.tmps.getD 4 undef,a.tmps.getD 2 undef]) ?_ ?_
   ·rw [hcap]
    simp [invoke]
   have hc0:Core (Fr.mk w (fun _=>False) S (fun _=>none) []) m' S' w' (⟨[(2,.ptr 0 0),(3,.ptr 1 0),(4,.ptr 2 0)],[(0,.cells 31 (celX x)),(1,.cells 3 [.int .i64 0]),(2,.cells 35 [.int .i64 0])],3⟩:St).heap 3:=⟨hc'.good,hc'.free,hc'.far,hc'.owns,hc'.ro,hc'.ro0,fun i v (h:none=some v)=>nomatch h⟩
   refine (closure_runs (C:=cxP 3 6 [0,1,2,4]) (cxPOk _ _ _) Tryz.func48 rfl rfl rfl (t:=3) rfl rfl rfl dd0 (F:=Fr.inner (Fr.mk w (fun _=>False) S (fun _=>none) []) m' 3) (Fr.inner_fits _ _ _) rfl (env:=(⟨[(0,.ptr 1 0),(1,.ptr 2 0),(2,.ptr 0 0)],[(0,.cells 31 (celX x)),(1,.cells 3 [.int .i64 0]),(2,.cells 35 [.int .i64 0])],3⟩:St).env) (H:=(⟨[(0,.ptr 1 0),(1,.ptr 2 0),(2,.ptr 0 0)],[(0,.cells 31 (celX x)),(1,.cells 3 [.int .i64 0]),(2,.cells 35 [.int .i64 0])],3⟩:St).heap) (nx:=3) (rv:=.ifc true) (stE:=⟨[(2,.ptr 0 0)],[(0,.cells 31 (celX x)),(1,.cells 3 [.int .i64 0]),(2,.cells 35 [.int .i64 0])],3⟩) (fun _ h=>h) ?_ (core_inner hc0 3) (Nat.le_of_ble_eq_true rfl) (caps3 (ptr_move p3 (hmm 1 om0)) (ptr_move p4 (hmm 2 om0)) (ptr_move p2 (hmm 0 om0))) (u:=.returning) (u':=.returning) (v:=.nilIface) ?_ ?_).mono ?_
   ·conv=>whnf
    refine cR ((caught_ok 0 0)) [1,2] ?_
    conv=>whnf
    refine gF ?_
    conv=>whnf
    exact (wk_of [(0,.id 0),(1,.id 1),(2,.id 2)] rfl ⟨wc0,trivial⟩ ⟨wb0,wb0,wb0,trivial⟩)
   ·exact .t _ _ (by constructor<;>rfl)
   ·intro c₀ cs hu
    simp [recoverD,hu]
   ·rintro e u' w'' ⟨⟨r,rfl⟩,rfl,a'',hE⟩
    have hb:=rel_back (l:=[(2,0),(3,1),(4,2)]) (by decide) hsz' hr' hE
    have hb':Rel (Fr.mk w (fun _=>False) S (fun i=>if i<3 then m' i else none) []) 20 (⟨[(2,.ptr 0 0),(3,.ptr 1 0),(4,.ptr 2 0)],[(0,.cells 31 (celX x)),(1,.cells 3 [.int .i64 0]),(2,.cells 35 [.int .i64 0])],3⟩) { tmps:=a'.tmps,defers:=[] } w'':=hb
    have hq:resK tab Tryz.f19.results.toList (⟨[(2,.ptr 0 0),(3,.ptr 1 0),(4,.ptr 2 0)],[(0,.cells 31 (celX x)),(1,.cells 3 [.int .i64 0]),(2,.cells 35 [.int .i64 0])],3⟩) [] [] (fun rs=>rs=parA (.ok x)):=by
     conv=>whnf
     rfl
    exact ret_end (C:=cP) (fn:=Tryz.f19) (a':={ tmps:=a'.tmps,defers:=[] }) (cxPOk _ _ _) (Nat.le_of_ble_eq_true rfl) hb' hq
  | _=>exact h2.elim
 | error er =>
  have hs:parseR s=.error er:=by unfold parseR;rw [h];simp only [hi]
  rw [hs]
  obtain ⟨m0,S0,hc0,_,_,_⟩:=hstart
  have hS0:∀ g,S g→g<w.heap.size:=fun g hg=>(hc0.good.ro g (hc0.ro0 g hg)).1
  have hT0:TabAt S w:=fun g Q hg=>by
   obtain ⟨h1,h2⟩:=hc0.good.tab g Q hg
   rcases hc0.ro g h1 with h3 | h3 | h3
   ·exact ⟨h3,h2⟩
   ·exact h3.elim
   ·have h3:w.heap.size≤g:=h3
    have:=(hc0.good.ro g h1).1
    omega
  have ca:=core_aside hc [0,1,2] []
  have hA:Rel (Fr.aside S1 w1 m (deads [0,1,2] (⟨[(2,.ptr 0 0),(3,.ptr 1 0),(4,.ptr 2 0),(5,.ptr 3 0)],[(0,.cells 31 zIX),(1,.cells 3 [.int .i64 0]),(2,.cells 35 [.int .i64 0]),(3,.cells 132 (pcell T T))],4⟩:St).heap) []) 20 ⟨[(5,.ptr 3 0)],deads [0,1,2] (⟨[(2,.ptr 0 0),(3,.ptr 1 0),(4,.ptr 2 0),(5,.ptr 3 0)],[(0,.cells 31 zIX),(1,.cells 3 [.int .i64 0]),(2,.cells 35 [.int .i64 0]),(3,.cells 132 (pcell T T))],4⟩:St).heap,4⟩ a w1:=⟨m,S1,ca,hsz20,hds,fun s=>(by
   by_cases e5:s=5
   ·subst e5;exact hr 5
   ·have:lk [(5,AV.ptr 3 0)] s=.undef:=by
     unfold lk
     rw [show Nat.beq 5 s=false from by
      cases hb:Nat.beq 5 s with
      | false=>rfl
      | true=>exact (e5 (Nat.eq_of_beq_eq_true hb).symm).elim]
     rfl
    show RelV m S1 w1 _ (lk [(5,AV.ptr 3 0)] s)
    rw [this]
    exact .t _ _ (.undef _))⟩
  have hB:=rel_defer (t:=17) (v:=.func (.func 48) #[] (#[Operand.tmp 3,Operand.tmp 4,Operand.tmp 2].map a.eval)) (d:={ target:=.fn (.func 48) (#[Operand.tmp 3,Operand.tmp 4,Operand.tmp 2].map a.eval),args:=#[] }) hA rfl
  refine wp_seq (wp_mono (region_kept (C:=cxX (fun ch=>ch=stopC er) 0 20 [0,2,3,4,5,13]) tabOk (Q:=fun _=>False) ?_ (L:=[2,3,4]) dd0 hB) ?_)
  ·conv=>whnf
   exact CallG.stop rfl (riox_stop ((rx_er (ind_x hp) hi)) [3] rfl rfl rfl ac0) ((fun ch hc=>hc))
  rintro e a' w' ⟨⟨st',hR,hq⟩,hK⟩
  cases e with
  | panic ch =>
   have hq:ch=stopC er:=hq
   subst hq
   obtain ⟨m2,S2,hc2,hsz2,hd2,_⟩:=hR
   have hk2:a'.tmps.getD 2 undef=a.tmps.getD 2 undef:=(hK 2 (by decide)).trans (by show (a.tmps.setIfInBounds 17 _).getD 2 undef=_;rw [getD_set hlt17,if_neg (by decide)])
   have hk3:a'.tmps.getD 3 undef=a.tmps.getD 3 undef:=(hK 3 (by decide)).trans (by show (a.tmps.setIfInBounds 17 _).getD 3 undef=_;rw [getD_set hlt17,if_neg (by decide)])
   have hk4:a'.tmps.getD 4 undef=a.tmps.getD 4 undef:=(hK 4 (by decide)).trans (by show (a.tmps.setIfInBounds 17 _).getD 4 undef=_;rw [getD_set hlt17,if_neg (by decide)])
   have hkeep:=core_keep (F:=Fr.mk w (fun _=>False) S (fun _=>none) []) (fun _ h=>h) hT0 hS0 hc (K:=[0,1,2]) (H3:=(⟨[(0,.ptr 1 0),(1,.ptr 2 0),(2,.ptr 0 0)],[(0,.cells 31 zIX),(1,.cells 3 [.int .i64 0]),(2,.cells 35 [.int .i64 0])],4⟩:St).heap) (fun id=>(by
    match id with
    | 0=>rfl
    | 1=>rfl
    | 2=>rfl
    | n+3 =>
     rw [if_neg (by simp)]
     rfl)) (fun id hid=>(by
    simp only [List.mem_cons,List.not_mem_nil,or_false] at hid
    rcases hid with rfl | rfl | rfl
    ·exact ⟨_,_,rfl,by decide⟩
    ·exact ⟨_,_,rfl,by decide⟩
    ·exact ⟨_,_,rfl,by decide⟩)) hc2.far 3
   show Leaves Tryz.prog Tryz.f19 a'.tmps _ a'.defers (.panicking (stopC er)) w'
   rw [hd2]
   refine leaves_cons (u:=.panicking (stopC er)) (fun h=>by cases h) (f:=48) (args:=#[a.tmps.getD 3 undef,a.tmps.getD 4 undef,a.tmps.getD 2 undef]) ?_ ?_
   ·rw [hcap]
    simp [invoke]
   refine (closure_runs (C:=cxP 3 6 [0,1,2,4]) (cxPOk _ _ _) Tryz.func48 rfl rfl rfl (t:=3) rfl rfl rfl dd0 (F:=Fr.inner (Fr.mk w (fun _=>False) S (fun _=>none) []) m 3) (Fr.inner_fits _ _ _) rfl (env:=(⟨[(0,.ptr 1 0),(1,.ptr 2 0),(2,.ptr 0 0)],[(0,.cells 31 zIX),(1,.cells 3 [.int .i64 0]),(2,.cells 35 [.int .i64 0])],4⟩:St).env) (H:=(⟨[(0,.ptr 1 0),(1,.ptr 2 0),(2,.ptr 0 0)],[(0,.cells 31 zIX),(1,.cells 3 [.int .i64 0]),(2,.cells 35 [.int .i64 0])],4⟩:St).heap) (nx:=4) (rv:=.ival 134 [.int .i64 er.1,.int .i64 er.2]) (stE:=⟨[(2,.ptr 0 0)],[(0,.cells 31 (celX i0)),(1,.cells 3 [.int .i64 er.1]),(2,.cells 35 [.int .i64 er.2])],4⟩) (fun _ h=>h) ?_ hkeep (Nat.le_of_ble_eq_true rfl) (caps3 (ptr_move p3 (fun _ h=>h)) (ptr_move p4 (fun _ h=>h)) (ptr_move p2 (fun _ h=>h))) (u:=.panicking (stopC er)) (u':=.panicking [{ v:=.iface 134 (.agg #[.int .i64 er.1,.int .i64 er.2]),recovered:=true }]) (v:=.iface 134 (.agg #[.int .i64 er.1,.int .i64 er.2])) ?_ ?_).mono ?_
   ·conv=>whnf
    refine cR ((caught_er er.1 er.2 0 0)) [1,2] ?_
    conv=>whnf
    refine gT ?_
    conv=>whnf
    exact (wk_of [(0,.id 0),(1,.id 1),(2,.id 2)] rfl ⟨wc0,trivial⟩ ⟨⟨_,rfl,.cells _ _ _ _ rfl (by repeat (first | exact .nil | refine .cons (by first | exact .base (.tree _ _ rfl rfl) | exact .base (.own _ _ rfl) | exact .base (.ptr _ _ _ rfl) | exact .base (.map _ _ rfl) | exact .base (.nilown _ rfl) | exact .fn _ _ _ _ _ .nil (by repeat (first | exact .nil | refine .cons (by exact .ptr _ _ _ rfl) ?_)) | exact .base (.tree _ _ (by first | exact LeT.nils_lsl 5 rfl | exact LeT.nils_sl 6 encL l0 | exact LeT.nils_sl 7 encC c0 | exact LeT.nils_sl 1 encS [] | exact LeT.nils_sl 2 encK k0) rfl) | exact .base (.leT _ _ (by first | exact LeT.nils_lsl 5 rfl | exact LeT.nils_sl 6 encL l0 | exact LeT.nils_sl 7 encC c0 | exact LeT.nils_sl 1 encS [] | exact LeT.nils_sl 2 encK k0) rfl)) ?_)) rfl⟩,wb0,wb0,trivial⟩)
   ·refine .t _ _ (.ival 134 _ _ rfl fun j c a hj ha=>?_)
    match j with
    | 0=>cases hj;cases ha;exact .int _ _
    | 1=>cases hj;cases ha;exact .int _ _
    | n+2=>simp at ha
   ·intro c₀ cs hu
    simp [recoverD,hu,stopC]
   ·rintro e u' w'' ⟨⟨r,rfl⟩,rfl,a'',hE⟩
    have hb:=rel_back (m:=m) (S:=S) (w:=w') (a:=a') (l:=[(2,0),(3,1),(4,2)]) (by decide) hsz2 (fun s=>(by
     match s with
     | 0=>exact .t _ _ (.undef _)
     | 1=>exact .t _ _ (.undef _)
     | 2=>rw [hk2];exact ptr_move p2 (fun _ h=>h)
     | 3=>rw [hk3];exact ptr_move p3 (fun _ h=>h)
     | 4=>rw [hk4];exact ptr_move p4 (fun _ h=>h)
     | n+5=>exact .t _ _ (.undef _))) hE
    have hb':Rel (Fr.mk w (fun _=>False) S (fun i=>if i<3 then m i else none) []) 20 (⟨[(2,.ptr 0 0),(3,.ptr 1 0),(4,.ptr 2 0)],[(0,.cells 31 (celX i0)),(1,.cells 3 [.int .i64 er.1]),(2,.cells 35 [.int .i64 er.2])],4⟩) { tmps:=a'.tmps,defers:=[] } w'':=hb
    have hq:resK tab Tryz.f19.results.toList (⟨[(2,.ptr 0 0),(3,.ptr 1 0),(4,.ptr 2 0)],[(0,.cells 31 (celX i0)),(1,.cells 3 [.int .i64 er.1]),(2,.cells 35 [.int .i64 er.2])],4⟩) [] [] (fun rs=>rs=parA (.error er)):=by
     conv=>whnf
     rfl
    exact ret_end (C:=cP) (fn:=Tryz.f19) (a':={ tmps:=a'.tmps,defers:=[] }) (cxPOk _ _ _) (Nat.le_of_ble_eq_true rfl) hb' hq
  | _=>exact hq.elim
set_option maxHeartbeats 1000000
theorem take_succ_eq {α:Type} [DecidableEq α] {a b:List α} {k:Nat} (d:α) (h:k<a.length) (hl:a.length=b.length):(a.take (k+1)=b.take (k+1))↔(a.take k=b.take k∧a.getD k d=b.getD k d):=by
 rw [take_getD (d:=d) h,take_getD (d:=d) (by omega)]
 constructor
 ·intro h'
  have:=List.append_inj' h' rfl
  simpa using this
 ·rintro ⟨h1,h2⟩
  rw [h1,h2]
theorem texts_ok (a b:List (List UInt8)) (ha:a.length≤9223372036854775807) (hb:b.length≤9223372036854775807):APureV Tryz.prog 13 [encSs a,encSs b] (.bool (decide (a=b))):=by
 refine aO (cxOk 26 [0,1,4,5,10,14,25]) Tryz.func13 ?_
 conv=>whnf
 refine ⟨fun hc=>?_,fun hc=>?_⟩
 ·conv=>whnf
  have:decide (a=b)=false:=by
   simp only [Bool.not_eq_true',decide_eq_false_iff_not] at hc ⊢
   intro h
   subst h
   exact hc rfl
  rw [this]
  rfl
 conv=>whnf
 have hlen:a.length=b.length:=by
  simp only [Bool.not_eq_false',decide_eq_true_eq] at hc
  omega
 refine loop_up (cxOk _ _) a.length (fun k=>a.take k=b.take k) (fun k=>⟨[(0,encSs a),(1,encSs b),(5,.int .i64 k)],[],0⟩) (by simp) (wk_of [] rfl ⟨wa0,wa0,wa0,trivial⟩ trivial) ?_
 intro k hk hP
 conv=>whnf
 refine ⟨fun hc=>?_,fun hc=>?_⟩
 ·simp only [decide_eq_true_eq] at hc
  have hlt:k<a.length:=by omega
  conv=>whnf
  refine .quiet (by kernel_rfl) ?_;conv=>whnf
  refine iO ?_;conv=>whnf
  refine And.intro rfl ?_;conv=>whnf
  refine iO ?_;conv=>whnf
  refine And.intro rfl ?_;conv=>whnf
  refine ⟨fun hd=>?_,fun hd=>?_⟩
  ·conv=>whnf
   simp only [Int.toNat_natCast,Bool.not_eq_true',decide_eq_false_iff_not] at hd
   have:decide (a=b)=false:=by
    rw [decide_eq_false_iff_not]
    intro h
    rw [h] at hd
    exact hd rfl
   rw [this]
   rfl
  ·simp only [Int.toNat_natCast,Bool.not_eq_false',decide_eq_true_eq] at hd
   conv=>whnf
   refine iO ?_;conv=>whnf
   refine up hlt ((take_succ_eq [] hlt hlen).2 ⟨hP,hd⟩) (wk_of [] rfl ⟨wa0,wa0,wa0,trivial⟩ trivial)
 ·simp only [decide_eq_false_iff_not] at hc
  conv=>whnf
  rw [List.take_of_length_le (by omega),List.take_of_length_le (by omega)] at hP
  rw [decide_eq_true hP]
  rfl
def eqG (a b:Chg):Bool:=decide (a.o=b.o)&&(decide (a.n=b.n)&&true)
theorem eqG_iff {a b:Chg}:eqG a b=true↔a=b:=by
 cases a;cases b
 simp [eqG]
instance:DecidableEq Chg:=fun a b=>decidable_of_iff _ (eqG_iff (a:=a) (b:=b))
theorem sameG_ok (a b:List Chg) (ha:a.length≤9223372036854775807) (hb:b.length≤9223372036854775807):APureV Tryz.prog 10 [encGs a,encGs b] (.bool (decide (a=b))):=by
 refine aO (cxOk 26 [0,1,4,5,10,14,25]) Tryz.func10 ?_
 conv=>whnf
 refine ⟨fun hc=>?_,fun hc=>?_⟩
 ·conv=>whnf
  have:decide (a=b)=false:=by
   simp only [Bool.not_eq_true',decide_eq_false_iff_not] at hc ⊢
   intro h
   subst h
   exact hc rfl
  rw [this]
  rfl
 conv=>whnf
 have hlen:a.length=b.length:=by
  simp only [Bool.not_eq_false',decide_eq_true_eq] at hc
  omega
 refine loop_up (cxOk _ _) a.length (fun k=>a.take k=b.take k) (fun k=>⟨[(0,encGs a),(1,encGs b),(5,.int .i64 k)],[],0⟩) (by simp) (wk_of [] rfl ⟨wa0,wa0,wa0,trivial⟩ trivial) ?_
 intro k hk hP
 conv=>whnf
 refine ⟨fun hc=>?_,fun hc=>?_⟩
 ·simp only [decide_eq_true_eq] at hc
  have hlt:k<a.length:=by omega
  conv=>whnf
  refine .quiet (by kernel_rfl) ?_;conv=>whnf
  refine iO ?_;conv=>whnf
  refine And.intro rfl ?_;conv=>whnf
  refine iO ?_;conv=>whnf
  refine And.intro rfl ?_;conv=>whnf
  refine And.intro ⟨by kernel_rfl,by kernel_rfl⟩ ?_
  conv=>whnf
  refine ⟨fun hd=>?_,fun hd=>?_⟩
  ·conv=>whnf
   simp only [Int.toNat_natCast] at hd
   have hd':(!eqG (a.getD k g0) (b.getD k g0))=true:=hd
   have:decide (a=b)=false:=by
    rw [decide_eq_false_iff_not]
    intro h
    rw [h,eqG_iff.2 rfl] at hd'
    cases hd'
   rw [this]
   rfl
  ·simp only [Int.toNat_natCast] at hd
   have hd':(!eqG (a.getD k g0) (b.getD k g0))=false:=hd
   simp only [Bool.not_eq_false'] at hd'
   conv=>whnf
   refine iO ?_;conv=>whnf
   refine up hlt ((take_succ_eq g0 hlt hlen).2 ⟨hP,eqG_iff.1 hd'⟩) (wk_of [] rfl ⟨wa0,wa0,wa0,trivial⟩ trivial)
 ·simp only [decide_eq_false_iff_not] at hc
  conv=>whnf
  rw [List.take_of_length_le (by omega),List.take_of_length_le (by omega)] at hP
  rw [decide_eq_true hP]
  rfl
def chgB (c:Chg):Bool:=decide (c.o=-1)||decide (c.n=-1)
def changes (l:List Chg):Nat:=l.countP chgB
def fewT (l:List (List UInt8)) (n:Int):Bool:=decide ((l.length:Int)≤n)&&l.all fun s=>decide (s.length≤100)
def few2 (a b:List (List UInt8)):Bool:=fewT a 30&&fewT b 30
theorem clone_ok (l:List (List UInt8)) (hl:l.length≤1000000):APure Tryz.prog 25 [encSs l] (fun rs=>rs=[.new (.row 9 1 encS [] l)]):=by
 have h:APure Tryz.prog 25 [encSs l] (fun rs=>rs=[.new (.row 9 1 encS [] l)]∨l=[]∧rs=[.val .nils]):=by
  refine aO (cxOk 8 [0,2,4]) Tryz.func25 ?_
  conv=>whnf
  intro b hb
  conv=>whnf
  refine ⟨fun hc=>?_,fun hc=>?_⟩
  ·conv=>whnf
   exact .inr ⟨hb hc,rfl⟩
  ·conv=>whnf
   refine And.intro rfl ?_
   conv=>whnf
   refine ⟨⟨rfl,rfl⟩,(show (0+l.length)*16≤140737488355328 by omega),?_⟩
   conv=>whnf
   exact .inl rfl
 refine h.le fun rs hrs=>?_
 rcases hrs with rfl | ⟨rfl,rfl⟩
 ·exact ⟨_,rfl,rfl,fun j r r' h1 h2=>by
   cases j with
   | zero=>simp at h1 h2;subst h1;subst h2;exact .same _
   | succ j=>simp at h1⟩
 ·exact ⟨_,rfl,rfl,fun j r r' h1 h2=>by
   cases j with
   | zero=>simp at h1 h2;subst h1;subst h2;exact .nil _ _ _ _
   | succ j=>simp at h1⟩
abbrev Str:=List UInt8
def lcs:List Str→List Str→Nat
 | [],_=>0
 | _::_,[]=>0
 | x::a,y::b=>if x=y then lcs a b+1 else max (lcs a (y::b)) (lcs (x::a) b)
termination_by a b=>a.length+b.length
theorem lcs_nil_l (b:List Str):lcs [] b=0:=by rw [lcs]
theorem lcs_nil_r (a:List Str):lcs a []=0:=by cases a<;>rw [lcs]
theorem lcs_cons (x y:Str) (a b:List Str):lcs (x::a) (y::b)=if x=y then lcs a b+1 else max (lcs a (y::b)) (lcs (x::a) b):=by rw [lcs]
theorem lcs_le_left:∀ (a b:List Str),lcs a b≤a.length
 | [],b=>by rw [lcs_nil_l];exact Nat.zero_le _
 | x::a,[]=>by rw [lcs_nil_r];exact Nat.zero_le _
 | x::a,y::b=>by
  rw [lcs_cons]
  have h1:=lcs_le_left a b
  have h2:=lcs_le_left a (y::b)
  have h3:=lcs_le_left (x::a) b
  simp only [List.length_cons] at *
  split<;>omega
termination_by a b=>a.length+b.length
theorem drop_at {α:Type} {l:List α} {k:Nat} (d:α) (h:k<l.length):l.drop k=l.getD k d::l.drop (k+1):=by
 rw [List.drop_eq_getElem_cons h]
 simp [List.getD,List.getElem?_eq_getElem h]
def tabF (a b:List Str) (i k:Nat) (j:Nat):Int:=if i≤j / 201∨(j / 201+1=i∧k≤j % 201) then lcs (a.drop (j / 201)) (b.drop (j % 201)) else 0
theorem tabF_at {a b:List Str} {i k p q:Nat} (hq:q<201):tabF a b i k (p*201+q)=if i≤p∨(p+1=i∧k≤q) then (lcs (a.drop p) (b.drop q):Int) else 0:=by
 unfold tabF
 rw [show (p*201+q) / 201=p by omega,show (p*201+q) % 201=q by omega]
theorem tabF_full {a b:List Str} {j:Nat}:tabF a b a.length 201 j=0:=by
 unfold tabF
 split
 ·rename_i h
  rcases h with h | h
  ·rw [List.drop_eq_nil_of_le h,lcs_nil_l];rfl
  ·omega
 ·rfl
theorem tabF_row {a b:List Str} {i j:Nat} (hb:b.length≤200):tabF a b (i+1) (b.length) j=tabF a b (i+1) 201 j:=by
 unfold tabF
 by_cases h:i+1≤j / 201
 ·simp [h]
 ·by_cases h2:j / 201+1=i+1∧b.length≤j % 201
  ·have h3:¬ (i+1≤j / 201∨(j / 201+1=i+1∧201≤j % 201)):=by omega
   rw [if_pos (.inr h2),if_neg h3,List.drop_eq_nil_of_le h2.2,lcs_nil_r];rfl
  ·have h3:¬ (i+1≤j / 201∨(j / 201+1=i+1∧201≤j % 201)):=by omega
   rw [if_neg (by omega),if_neg h3]
theorem tabF_next {a b:List Str} {i j:Nat}:tabF a b (i+1) 0 j=tabF a b i 201 j:=by
 unfold tabF
 by_cases h:i≤j / 201
 ·rw [if_pos (by omega),if_pos (.inl h)]
 ·rw [if_neg (by omega),if_neg (by omega)]
theorem tabF_upd {a b:List Str} {p q j:Nat} (hq:q<201):updF (tabF a b (p+1) (q+1)) (p*201+q) (lcs (a.drop p) (b.drop q)) j=tabF a b (p+1) q j:=by
 unfold updF
 by_cases e:j=p*201+q
 ·subst e
  rw [if_pos rfl,tabF_at hq,if_pos (by omega)]
 ·rw [if_neg e]
  unfold tabF
  have:¬ (j / 201=p∧j % 201=q):=by omega
  by_cases h:p+1≤j / 201
  ·rw [if_pos (.inl h),if_pos (.inl h)]
  ·by_cases h2:j / 201+1=p+1∧q+1≤j % 201
   ·rw [if_pos (.inr h2),if_pos (by omega)]
   ·rw [if_neg (by omega),if_neg (by omega)]
theorem stays_ok (a b:List Str) (ha:a.length≤200) (hb:b.length≤200):APure Tryz.prog 26 [encSs a,encSs b] (fun rs=>∃ f,(∀ i k,k<201→f (i*201+k)=(lcs (a.drop i) (b.drop k):Int))∧rs=[.val (.iarr .i64 40401 f)]):=by
 refine aO (cxOk 61 [0,1,4,5,6,7,12,19,30]) Tryz.func26 ?_
 conv=>whnf
 refine And.intro rfl ?_
 conv=>whnf
 refine And.intro rfl ?_
 conv=>whnf
 refine iO ?_;conv=>whnf
 refine loop_inv (cxOk _ _) (σ:=Nat) (fun i=>i≤a.length) (fun i=>i) (fun i=>⟨[(0,encSs a),(1,encSs b),(4,.ptr 0 0),(5,.ptr 1 0),(6,.int .i64 ((i:Int)-1))],[(0,.arr 60 .i64 40401 (fun _=>0)),(1,.arr 60 .i64 40401 (tabF a b i 201))],2⟩) a.length (Nat.le_refl _) ((wk_of [(0,.id 0),(1,.id 1)] rfl ⟨wa0,wa0,wc0,wc0,wa0,trivial⟩ ⟨wd0,⟨_,rfl,.arr _ _ _ _ _ _ rfl (fun _ _=>tabF_full.symm)⟩,trivial⟩)) ?_
 intro i hi
 conv=>whnf
 refine ⟨fun hc=>?_,fun hc=>?_⟩
 ·simp only [decide_eq_true_eq] at hc
  conv=>whnf
  refine iO ?_;conv=>whnf
  obtain ⟨p,rfl⟩:∃ p,i=p+1:=⟨i-1,by omega⟩
  refine loop_inv (cxOk _ _) (σ:=Nat) (fun k=>k≤b.length) (fun k=>k) (fun k=>⟨[(0,encSs a),(1,encSs b),(4,.ptr 0 0),(5,.ptr 1 0),(6,.int .i64 (p:Int)),(7,.int .i64 ((k:Int)-1))],[(0,.arr 60 .i64 40401 (fun _=>0)),(1,.arr 60 .i64 40401 (tabF a b (p+1) k))],2⟩) b.length (Nat.le_refl _) ((wk_of [(0,.id 0),(1,.id 1)] rfl ⟨wa0,wa0,wc0,wc0,.base (.tree _ _ (by show AV.int .i64 (((p+1:Nat):Int)-1)=AV.int .i64 (p:Int);congr 1;omega) rfl),wa0,trivial⟩ ⟨wd0,⟨_,rfl,.arr _ _ _ _ _ _ rfl (fun _ _=>(tabF_row hb).symm)⟩,trivial⟩)) ?_
  intro k hk
  conv=>whnf
  refine ⟨fun hc=>?_,fun hc=>?_⟩
  ·simp only [decide_eq_true_eq] at hc
   obtain ⟨q,rfl⟩:∃ q,k=q+1:=⟨k-1,by omega⟩
   have e1:((q+1:Nat):Int)-1=q:=by omega
   rw [e1]
   have hA:a.drop p=a.getD p []::a.drop (p+1):=drop_at [] (by omega)
   have hB:b.drop q=b.getD q []::b.drop (q+1):=drop_at [] (by omega)
   have hL:=lcs_cons (a.getD p []) (b.getD q []) (a.drop (p+1)) (b.drop (q+1))
   rw [← hA,← hB] at hL
   conv=>whnf
   refine .quiet (by kernel_rfl) ?_;conv=>whnf
   refine iO ?_;conv=>whnf
   refine And.intro rfl ?_;conv=>whnf
   refine iO ?_;conv=>whnf
   refine And.intro rfl ?_;conv=>whnf
   have hp200:p<200:=by omega
   have hq200:q<200:=by omega
   have hl1:=lcs_le_left (a.drop (p+1)) (b.drop (q+1))
   have hl2:=lcs_le_left (a.drop (p+1)) (b.drop q)
   have hl3:=lcs_le_left (a.drop p) (b.drop (q+1))
   simp only [List.length_drop] at hl1 hl2 hl3
   have eo:0+(p:Int).toNat*201+(q:Int).toNat*1=p*201+q:=by omega
   refine ⟨fun hd=>?_,fun hd=>?_⟩
   ·simp only [Int.toNat_natCast,decide_eq_true_eq] at hd
    rw [if_pos hd] at hL
    have hv:tabF a b (p+1) (q+1) (0+((p:Int)+1).toNat*201+((q:Int)+1).toNat*1)=(lcs (a.drop (p+1)) (b.drop (q+1)):Int):=by
     rw [show 0+((p:Int)+1).toNat*201+((q:Int)+1).toNat*1=(p+1)*201+(q+1) by omega,tabF_at (by omega),if_pos (by omega)]
    conv=>whnf
    refine .eff (cxOk _ _) ?_
    conv=>whnf
    refine iO ?_;conv=>whnf
    refine iO ?_;conv=>whnf
    refine iO ?_;conv=>whnf
    refine iO ?_;conv=>whnf
    refine And.intro (show 0+((p:Int)+1).toNat*201+((q:Int)+1).toNat*1<40401 by omega) ?_
    conv=>whnf
    refine And.intro (show -9223372036854775808≤tabF a b (p+1) (q+1) (0+((p:Int)+1).toNat*201+((q:Int)+1).toNat*1)+1∧tabF a b (p+1) (q+1) (0+((p:Int)+1).toNat*201+((q:Int)+1).toNat*1)+1≤9223372036854775807 by rw [hv];constructor<;>omega) ?_
    conv=>whnf
    refine iO ?_;conv=>whnf
    refine iO ?_;conv=>whnf
    refine And.intro (show 0+(p:Int).toNat*201+(q:Int).toNat*1<40401 by omega) ?_
    conv=>whnf
    refine ⟨by kernel_rfl,?_⟩
    conv=>whnf
    refine iO ?_;conv=>whnf
    refine ⟨q,by omega,by show q<q+1;omega,(wk_of [(0,.id 0),(1,.id 1)] rfl ⟨wa0,wa0,wc0,wc0,wa0,wa0,trivial⟩ ⟨wd0,⟨_,rfl,.arr _ _ _ _ _ _ rfl (fun j _=>(show updF (tabF a b (p+1) (q+1)) (0+(p:Int).toNat*201+(q:Int).toNat*1) (tabF a b (p+1) (q+1) (0+((p:Int)+1).toNat*201+((q:Int)+1).toNat*1)+1) j=tabF a b (p+1) q j by rw [eo,hv,← tabF_upd (by omega),hL];rfl))⟩,trivial⟩)⟩
   ·simp only [Int.toNat_natCast,decide_eq_false_iff_not] at hd
    rw [if_neg hd] at hL
    have hv1:tabF a b (p+1) (q+1) (0+((p:Int)+1).toNat*201+(q:Int).toNat*1)=(lcs (a.drop (p+1)) (b.drop q):Int):=by
     rw [show 0+((p:Int)+1).toNat*201+(q:Int).toNat*1=(p+1)*201+q by omega,tabF_at (by omega),if_pos (by omega)]
    have hv2:tabF a b (p+1) (q+1) (0+(p:Int).toNat*201+((q:Int)+1).toNat*1)=(lcs (a.drop p) (b.drop (q+1)):Int):=by
     rw [show 0+(p:Int).toNat*201+((q:Int)+1).toNat*1=p*201+(q+1) by omega,tabF_at (by omega),if_pos (by omega)]
    conv=>whnf
    refine .eff (cxOk _ _) ?_
    conv=>whnf
    refine iO ?_;conv=>whnf
    refine iO ?_;conv=>whnf
    refine iO ?_;conv=>whnf
    refine And.intro (show 0+((p:Int)+1).toNat*201+(q:Int).toNat*1<40401 by omega) ?_
    conv=>whnf
    refine iO ?_;conv=>whnf
    refine iO ?_;conv=>whnf
    refine iO ?_;conv=>whnf
    refine And.intro (show 0+(p:Int).toNat*201+((q:Int)+1).toNat*1<40401 by omega) ?_
    conv=>whnf
    refine iO ?_;conv=>whnf
    refine iO ?_;conv=>whnf
    refine And.intro (show 0+(p:Int).toNat*201+(q:Int).toNat*1<40401 by omega) ?_
    conv=>whnf
    refine ⟨by kernel_rfl,?_⟩
    conv=>whnf
    refine iO ?_;conv=>whnf
    refine ⟨q,by omega,by show q<q+1;omega,(wk_of [(0,.id 0),(1,.id 1)] rfl ⟨wa0,wa0,wc0,wc0,wa0,wa0,trivial⟩ ⟨wd0,⟨_,rfl,.arr _ _ _ _ _ _ rfl (fun j _=>(show updF (tabF a b (p+1) (q+1)) (0+(p:Int).toNat*201+(q:Int).toNat*1) (max (tabF a b (p+1) (q+1) (0+((p:Int)+1).toNat*201+(q:Int).toNat*1)) (tabF a b (p+1) (q+1) (0+(p:Int).toNat*201+((q:Int)+1).toNat*1))) j=tabF a b (p+1) q j by rw [eo,hv1,hv2,← tabF_upd (by omega),hL];congr 1;omega))⟩,trivial⟩)⟩
  ·conv=>whnf
   simp only [decide_eq_false_iff_not] at hc
   have hk0:k=0:=by omega
   subst hk0
   refine iO ?_;conv=>whnf
   refine ⟨p,by omega,by show p<p+1;omega,(wk_of [(0,.id 0),(1,.id 1)] rfl ⟨wa0,wa0,wc0,wc0,wa0,trivial⟩ ⟨wd0,⟨_,rfl,.arr _ _ _ _ _ _ rfl (fun _ _=>tabF_next)⟩,trivial⟩)⟩
 ·conv=>whnf
  simp only [decide_eq_false_iff_not] at hc
  have hi0:i=0:=by omega
  subst hi0
  refine ⟨_,fun i k hk=>?_,rfl⟩
  rw [tabF_at hk,if_pos (by omega)]
def cmp:List Str→List Str→Int→Int→List Chg
 | [],[],_,_=>[]
 | _::a,[],i,k=>⟨i,-1⟩::cmp a [] (i+1) k
 | [],_::b,i,k=>⟨-1,k⟩::cmp [] b i (k+1)
 | x::a,y::b,i,k=>if x=y then ⟨i,k⟩::cmp a b (i+1) (k+1)
  else if lcs (x::a) b≤lcs a (y::b) then ⟨i,-1⟩::cmp a (y::b) (i+1) k else ⟨-1,k⟩::cmp (x::a) b i (k+1)
termination_by a b=>a.length+b.length
theorem cmp_nil (i k:Int):cmp [] [] i k=[]:=by rw [cmp]
theorem cmp_left (x:Str) (a:List Str) (i k:Int):cmp (x::a) [] i k=⟨i,-1⟩::cmp a [] (i+1) k:=by rw [cmp]
theorem cmp_right (y:Str) (b:List Str) (i k:Int):cmp [] (y::b) i k=⟨-1,k⟩::cmp [] b i (k+1):=by rw [cmp]
theorem cmp_both (x y:Str) (a b:List Str) (i k:Int):cmp (x::a) (y::b) i k=if x=y then ⟨i,k⟩::cmp a b (i+1) (k+1)
  else if lcs (x::a) b≤lcs a (y::b) then ⟨i,-1⟩::cmp a (y::b) (i+1) k else ⟨-1,k⟩::cmp (x::a) b i (k+1):=by rw [cmp]
theorem cmp_len:∀ (a b:List Str) (i k:Int),(cmp a b i k).length≤a.length+b.length
 | [],[],i,k=>by rw [cmp_nil];simp
 | x::a,[],i,k=>by
  have:=cmp_len a [] (i+1) k
  rw [cmp_left]
  simp at this ⊢
  omega
 | [],y::b,i,k=>by
  have:=cmp_len [] b i (k+1)
  rw [cmp_right]
  simp at this ⊢
  omega
 | x::a,y::b,i,k=>by
  have h1:=cmp_len a b (i+1) (k+1)
  have h2:=cmp_len a (y::b) (i+1) k
  have h3:=cmp_len (x::a) b i (k+1)
  rw [cmp_both]
  simp only [List.length_cons] at h1 h2 h3 ⊢
  split
  ·simp;omega
  ·split<;>simp<;>omega
termination_by a b=>a.length+b.length
def compareL (a b:List Str):List Chg:=cmp a b 0 0
theorem compare_ok (a b:List Str) (ha:a.length≤200) (hb:b.length≤200):APure Tryz.prog 11 [encSs a,encSs b] (fun rs=>rs=[.new (.row 50 2 encG g0 (compareL a b))]):=by
 refine aO (cxOk 99 [0,1,4,5,6,7,8,14,27,35,55,79,90]) Tryz.func11 ?_
 conv=>whnf
 refine ⟨fun hc=>?_,fun hc=>?_⟩
 ·exfalso
  simp only [decide_eq_true_eq] at hc
  omega
 conv=>whnf
 refine .any _ _ _ ⟨rfl,rfl⟩ (stays_ok a b ha hb) ai0 al0 ?_
 rintro rs ⟨f,hf,rfl⟩
 conv=>whnf
 refine And.intro rfl ?_;conv=>whnf
 have stepA:∀ {xs:List Chg} {c:Chg} {i k i' k':Nat} {t:List Chg},xs++cmp (a.drop i) (b.drop k) i k=compareL a b→cmp (a.drop i) (b.drop k) i k=c::t→t=cmp (a.drop i') (b.drop k') i' k'→(xs++[c])++cmp (a.drop i') (b.drop k') i' k'=compareL a b:=by
  intro xs c i k i' k' t h h1 h2
  rw [← h,h1,← h2]
  simp
 refine loop_inv (cxOk _ _) (σ:=Nat×Nat×List Chg) (fun s=>(s.1≤a.length∧s.2.1≤b.length)∧s.2.2.length≤s.1+s.2.1∧s.2.2++cmp (a.drop s.1) (b.drop s.2.1) s.1 s.2.1=compareL a b) (fun s=>a.length+b.length-s.1-s.2.1) (fun s=>⟨[(0,encSs a),(1,encSs b),(5,.ptr 0 0),(6,.own 1),(7,.int .i64 ((s.1):Nat)),(8,.int .i64 ((s.2.1):Nat))],[(0,.arr 60 .i64 40401 f),(1,.row 50 2 encG g0 (s.2.2))],2⟩) (0,0,[]) ⟨⟨Nat.zero_le _,Nat.zero_le _⟩,by simp,by simp [compareL]⟩ ((wk_of [(0,.id 0),(1,.nil)] rfl ⟨wa0,wa0,wc0,af0,wa0,wa0,trivial⟩ ⟨wd0,⟨_,rfl,ah0⟩,trivial⟩)) ?_
 rintro ⟨i,k,xs⟩ ⟨⟨hi,hk⟩,hlen,hxs⟩
 simp only at hi hk hlen hxs
 show evCode _ _ (⟨[(0,encSs a),(1,encSs b),(5,.ptr 0 0),(6,.own 1),(7,.int .i64 (i:Nat)),(8,.int .i64 (k:Nat))],[(0,.arr 60 .i64 40401 f),(1,.row 50 2 encG g0 xs)],2⟩) _
 conv=>whnf
 refine ⟨fun hc=>?_,fun hc=>?_⟩
 ·simp only [Bool.and_eq_true,decide_eq_true_eq] at hc
  have hlt:i<a.length:=by omega
  have hlk:k<b.length:=by omega
  have hA:a.drop i=a.getD i []::a.drop (i+1):=drop_at [] hlt
  have hB:b.drop k=b.getD k []::b.drop (k+1):=drop_at [] hlk
  have hstep:=cmp_both (a.getD i []) (b.getD k []) (a.drop (i+1)) (b.drop (k+1)) i k
  rw [← hA,← hB] at hstep
  conv=>whnf
  refine .quiet (by kernel_rfl) ?_;conv=>whnf
  refine iO ?_;conv=>whnf
  refine And.intro rfl ?_;conv=>whnf
  refine iO ?_;conv=>whnf
  refine And.intro rfl ?_;conv=>whnf
  refine ⟨fun hd=>?_,fun hd=>?_⟩
  ·simp only [Int.toNat_natCast,decide_eq_true_eq] at hd
   rw [if_pos hd] at hstep
   conv=>whnf
   refine And.intro rfl ?_;conv=>whnf
   refine And.intro ⟨rfl,rfl⟩ (And.intro (show (xs.length+1)*16≤140737488355328 by omega) ?_)
   conv=>whnf
   refine ⟨⟨i,k⟩,rfl,?_⟩
   conv=>whnf
   refine iO ?_;conv=>whnf
   refine iO ?_;conv=>whnf
   refine ⟨(i+1,k+1,xs++[⟨i,k⟩]),⟨⟨hlt,hlk⟩,by simp;omega,?_⟩,by show a.length+b.length-(i+1)-(k+1)<a.length+b.length-i-k;omega,(wk_of [(0,.id 0),(1,.id 3)] rfl ⟨wa0,wa0,wc0,af0,wa0,wa0,trivial⟩ ⟨wd0,⟨_,rfl,ah0⟩,trivial⟩)⟩
   exact stepA hxs hstep rfl
  ·simp only [Int.toNat_natCast,decide_eq_false_iff_not] at hd
   rw [if_neg hd] at hstep
   have hv1:f (0+((i:Int)+1).toNat*201+(k:Int).toNat*1)=(lcs (a.drop (i+1)) (b.drop k):Int):=by
    rw [show 0+((i:Int)+1).toNat*201+(k:Int).toNat*1=(i+1)*201+k by omega,hf _ _ (by omega)]
   have hv2:f (0+(i:Int).toNat*201+((k:Int)+1).toNat*1)=(lcs (a.drop i) (b.drop (k+1)):Int):=by
    rw [show 0+(i:Int).toNat*201+((k:Int)+1).toNat*1=i*201+(k+1) by omega,hf _ _ (by omega)]
   conv=>whnf
   refine .quiet (by kernel_rfl) ?_;conv=>whnf
   refine iO ?_;conv=>whnf
   refine iO ?_;conv=>whnf
   refine iO ?_;conv=>whnf
   refine And.intro (show 0+((i:Int)+1).toNat*201+(k:Int).toNat*1<40401 by omega) ?_
   conv=>whnf
   refine iO ?_;conv=>whnf
   refine iO ?_;conv=>whnf
   refine iO ?_;conv=>whnf
   refine And.intro (show 0+(i:Int).toNat*201+((k:Int)+1).toNat*1<40401 by omega) ?_
   conv=>whnf
   refine ⟨fun he=>?_,fun he=>?_⟩
   ·have he':decide (f (0+(i:Int).toNat*201+((k:Int)+1).toNat*1)≤f (0+((i:Int)+1).toNat*201+(k:Int).toNat*1))=true:=he
    rw [hv1,hv2,decide_eq_true_eq] at he'
    rw [if_pos (by omega)] at hstep
    conv=>whnf
    refine And.intro rfl ?_;conv=>whnf
    refine And.intro ⟨rfl,rfl⟩ (And.intro (show (xs.length+1)*16≤140737488355328 by omega) ?_)
    conv=>whnf
    refine ⟨⟨i,-1⟩,rfl,?_⟩
    conv=>whnf
    refine iO ?_;conv=>whnf
    refine ⟨(i+1,k,xs++[⟨i,-1⟩]),⟨⟨hlt,hk⟩,by simp;omega,?_⟩,by show a.length+b.length-(i+1)-k<a.length+b.length-i-k;omega,(wk_of [(0,.id 0),(1,.id 3)] rfl ⟨wa0,wa0,wc0,af0,wa0,wa0,trivial⟩ ⟨wd0,⟨_,rfl,ah0⟩,trivial⟩)⟩
    exact stepA hxs hstep (by rw [hB];rfl)
   ·have he':decide (f (0+(i:Int).toNat*201+((k:Int)+1).toNat*1)≤f (0+((i:Int)+1).toNat*201+(k:Int).toNat*1))=false:=he
    rw [hv1,hv2,decide_eq_false_iff_not] at he'
    rw [if_neg (by omega)] at hstep
    conv=>whnf
    refine And.intro rfl ?_;conv=>whnf
    refine And.intro ⟨rfl,rfl⟩ (And.intro (show (xs.length+1)*16≤140737488355328 by omega) ?_)
    conv=>whnf
    refine ⟨⟨-1,k⟩,rfl,?_⟩
    conv=>whnf
    refine iO ?_;conv=>whnf
    refine ⟨(i,k+1,xs++[⟨-1,k⟩]),⟨⟨hi,hlk⟩,by simp;omega,?_⟩,by show a.length+b.length-i-(k+1)<a.length+b.length-i-k;omega,(wk_of [(0,.id 0),(1,.id 3)] rfl ⟨wa0,wa0,wc0,af0,wa0,wa0,trivial⟩ ⟨wd0,⟨_,rfl,ah0⟩,trivial⟩)⟩
    exact stepA hxs hstep (by rw [hA];rfl)
 ·simp only [Bool.and_eq_false_iff,decide_eq_false_iff_not] at hc
  have hend:a.length=i∨b.length=k:=by omega
  conv=>whnf
  clear hc
  refine loop_inv (cxOk _ _) (σ:=Nat×List Chg) (fun s=>s.1≤a.length∧(s.1<a.length→k=b.length)∧s.2.length≤s.1+k∧s.2++cmp (a.drop s.1) (b.drop k) s.1 k=compareL a b) (fun s=>a.length-s.1) (fun s=>⟨[(0,encSs a),(1,encSs b),(5,.ptr 0 0),(6,.own 1),(7,.int .i64 ((s.1):Nat)),(8,.int .i64 (k:Nat))],[(0,.arr 60 .i64 40401 f),(1,.row 50 2 encG g0 (s.2))],2⟩) (i,xs) ⟨hi,by omega,hlen,hxs⟩ ((wk_of [(0,.id 0),(1,.id 1)] rfl ⟨wa0,wa0,wc0,af0,wa0,wa0,trivial⟩ ⟨wd0,⟨_,rfl,ah0⟩,trivial⟩)) ?_
  rintro ⟨i,xs⟩ ⟨hi,hik,hlen,hxs⟩
  simp only at hi hik hlen hxs
  show evCode _ _ (⟨[(0,encSs a),(1,encSs b),(5,.ptr 0 0),(6,.own 1),(7,.int .i64 (i:Nat)),(8,.int .i64 (k:Nat))],[(0,.arr 60 .i64 40401 f),(1,.row 50 2 encG g0 xs)],2⟩) _
  conv=>whnf
  refine ⟨fun hc=>?_,fun hc=>?_⟩
  ·simp only [decide_eq_true_eq] at hc
   have hlt:i<a.length:=by omega
   have hkb:=hik hlt
   have hA:a.drop i=a.getD i []::a.drop (i+1):=drop_at [] hlt
   have hB:b.drop k=[]:=List.drop_eq_nil_of_le (by omega)
   have hstep:=cmp_left (a.getD i []) (a.drop (i+1)) i k
   rw [← hA,← hB] at hstep
   conv=>whnf
   refine And.intro rfl ?_;conv=>whnf
   refine And.intro ⟨rfl,rfl⟩ (And.intro (show (xs.length+1)*16≤140737488355328 by omega) ?_)
   conv=>whnf
   refine ⟨⟨i,-1⟩,rfl,?_⟩
   conv=>whnf
   refine iO ?_;conv=>whnf
   refine ⟨(i+1,xs++[⟨i,-1⟩]),⟨hlt,fun _=>hkb,by simp;omega,?_⟩,by show a.length-(i+1)<a.length-i;omega,(wk_of [(0,.id 0),(1,.id 3)] rfl ⟨wa0,wa0,wc0,af0,wa0,wa0,trivial⟩ ⟨wd0,⟨_,rfl,ah0⟩,trivial⟩)⟩
   exact stepA hxs hstep rfl
  ·simp only [decide_eq_false_iff_not] at hc
   have hia:i=a.length:=by omega
   conv=>whnf
   clear hc hik hend
   refine loop_inv (cxOk _ _) (σ:=Nat×List Chg) (fun s=>s.1≤b.length∧s.2.length≤i+s.1∧s.2++cmp (a.drop i) (b.drop s.1) i s.1=compareL a b) (fun s=>b.length-s.1) (fun s=>⟨[(0,encSs a),(1,encSs b),(5,.ptr 0 0),(6,.own 1),(7,.int .i64 (i:Nat)),(8,.int .i64 ((s.1):Nat))],[(0,.arr 60 .i64 40401 f),(1,.row 50 2 encG g0 (s.2))],2⟩) (k,xs) ⟨hk,hlen,hxs⟩ ((wk_of [(0,.id 0),(1,.id 1)] rfl ⟨wa0,wa0,wc0,af0,wa0,wa0,trivial⟩ ⟨wd0,⟨_,rfl,ah0⟩,trivial⟩)) ?_
   rintro ⟨k,xs⟩ ⟨hk,hlen,hxs⟩
   simp only at hk hlen hxs
   show evCode _ _ (⟨[(0,encSs a),(1,encSs b),(5,.ptr 0 0),(6,.own 1),(7,.int .i64 (i:Nat)),(8,.int .i64 (k:Nat))],[(0,.arr 60 .i64 40401 f),(1,.row 50 2 encG g0 xs)],2⟩) _
   have hA:a.drop i=[]:=List.drop_eq_nil_of_le (by omega)
   conv=>whnf
   refine ⟨fun hc=>?_,fun hc=>?_⟩
   ·simp only [decide_eq_true_eq] at hc
    have hlk:k<b.length:=by omega
    have hB:b.drop k=b.getD k []::b.drop (k+1):=drop_at [] hlk
    have hstep:=cmp_right (b.getD k []) (b.drop (k+1)) i k
    rw [← hB,← hA] at hstep
    conv=>whnf
    refine And.intro rfl ?_;conv=>whnf
    refine And.intro ⟨rfl,rfl⟩ (And.intro (show (xs.length+1)*16≤140737488355328 by omega) ?_)
    conv=>whnf
    refine ⟨⟨-1,k⟩,rfl,?_⟩
    conv=>whnf
    refine iO ?_;conv=>whnf
    refine ⟨(k+1,xs++[⟨-1,k⟩]),⟨hlk,by simp;omega,?_⟩,by show b.length-(k+1)<b.length-k;omega,(wk_of [(0,.id 0),(1,.id 3)] rfl ⟨wa0,wa0,wc0,af0,wa0,wa0,trivial⟩ ⟨wd0,⟨_,rfl,ah0⟩,trivial⟩)⟩
    exact stepA hxs hstep rfl
   ·simp only [decide_eq_false_iff_not] at hc
    have hB:b.drop k=[]:=List.drop_eq_nil_of_le (by omega)
    rw [hA,hB,cmp_nil,List.append_nil] at hxs
    conv=>whnf
    rw [hxs]
    rfl
def bad1 (c:Chg) (i k la lb:Int):Bool :=
 ((decide (c.o=-1)&&decide (c.n=-1))||(!decide (c.o=-1)&&(!decide (c.o=i)||decide (i=la))))||(!decide (c.n=-1)&&(!decide (c.n=k)||decide (k=lb)))
def bad2 (c:Chg) (x y:Str):Bool:=(!decide (c.o=-1)&&!decide (c.n=-1))&&!decide (x=y)
def mv (n:Int) (i:Nat):Nat:=if n=-1 then i else i+1
theorem mv_move {n:Int} {i:Nat} (h:¬ n=-1):i+1=mv n i:=by rw [mv,if_neg h]
theorem mv_stay {n:Int} {i:Nat} (h:n=-1):i=mv n i:=by rw [mv,if_pos h]
def okL (a b:List Str):Nat→Nat→List Chg→Bool
 | i,k,[]=>decide (i=a.length)&&decide (k=b.length)
 | i,k,c::l=>!bad1 c i k a.length b.length&&!bad2 c (a.getD i []) (b.getD k [])&&okL a b (mv c.o i) (mv c.n k) l
def applyRs (a b:List Str) (l:List Chg):List AR:=if okL a b 0 0 l=true then [.new (.row 9 1 encS [] b),.val (.int .i64 0)] else [.val .nils,.val (.int .i64 24)]
theorem bad1_false {c:Chg} {i k la lb:Int} (h:bad1 c i k la lb=false):(c.o≠-1→i≠la)∧(c.n≠-1→k≠lb):=by
 simp only [bad1,Bool.or_eq_false_iff,Bool.and_eq_false_iff,Bool.not_eq_false',decide_eq_true_eq,decide_eq_false_iff_not] at h
 exact ⟨fun ho=>by rcases h.1.2 with h | h;exact (ho h).elim;exact h.2,fun ho=>by rcases h.2 with h | h;exact (ho h).elim;exact h.2⟩
theorem apply_ok (a b:List Str) (l:List Chg) (ha:a.length≤1000) (hb:b.length≤1000) (hl:l.length≤9223372036854775807):APure Tryz.prog 8 [encSs a,encSs b,encGs l] (fun rs=>rs=applyRs a b l):=by
 refine aO (cxOk 102 [0,1,2,6,7,8,9,11,12,13,14,15,59,78,81,86,99]) Tryz.func8 ?_
 conv=>whnf
 refine loop_inv (cxOk _ _) (σ:=Nat×Nat×Nat) (fun s=>s.1≤a.length∧s.2.1≤b.length∧s.2.2≤l.length∧okL a b 0 0 l=okL a b s.1 s.2.1 (l.drop s.2.2)) (fun s=>l.length-s.2.2) (fun s=>⟨[(0,encSs a),(1,encSs b),(8,.int .i64 ((s.1):Nat)),(9,.int .i64 ((s.2.1):Nat)),(12,encGs l),(13,.int .i64 l.length),(14,.int .i64 ((s.2.2):Nat))],[],0⟩) (0,0,0) ⟨Nat.zero_le _,Nat.zero_le _,Nat.zero_le _,by simp⟩ (wk_of [] rfl ⟨wa0,wa0,wa0,wa0,wa0,wa0,wa0,trivial⟩ trivial) ?_
 rintro ⟨i,k,j⟩ ⟨hi,hk,hj,hP⟩
 simp only at hi hk hj hP
 show evCode _ _ (⟨[(0,encSs a),(1,encSs b),(8,.int .i64 (i:Nat)),(9,.int .i64 (k:Nat)),(12,encGs l),(13,.int .i64 l.length),(14,.int .i64 (j:Nat))],[],0⟩) _
 conv=>whnf
 refine ⟨fun hc=>?_,fun hc=>?_⟩
 ·simp only [decide_eq_true_eq] at hc
  have hlt:j<l.length:=by omega
  rw [drop_at g0 hlt,okL] at hP
  conv=>whnf
  refine iO ?_;conv=>whnf
  refine And.intro rfl ?_;conv=>whnf
  refine ⟨fun hd=>?_,fun hd=>?_⟩
  ·simp only [Int.toNat_natCast] at hd
   have hd':bad1 (l.getD j g0) i k a.length b.length=true:=hd
   rw [hd'] at hP
   conv=>whnf
   rw [applyRs,if_neg (by rw [hP];simp)]
   rfl
  simp only [Int.toNat_natCast] at hd
  have hd':bad1 (l.getD j g0) i k a.length b.length=false:=hd
  obtain ⟨hb1,hb2⟩:=bad1_false hd'
  rw [hd'] at hP
  conv=>whnf
  refine .quiet (by kernel_rfl) ?_
  conv=>whnf
  refine And.intro (fun hg=>?_) ?_
  ·have:=guard_true hg
   simp only [Int.toNat_natCast,Bool.and_eq_true,Bool.not_eq_true',decide_eq_false_iff_not] at this
   have:=hb1 this.1
   constructor<;>omega
  conv=>whnf
  refine And.intro rfl ?_;conv=>whnf
  refine And.intro (fun hg=>?_) ?_
  ·have:=guard_true hg
   simp only [Int.toNat_natCast,Bool.and_eq_true,Bool.not_eq_true',decide_eq_false_iff_not] at this
   have:=hb2 this.2
   constructor<;>omega
  conv=>whnf
  refine And.intro rfl ?_;conv=>whnf
  refine ⟨fun he=>?_,fun he=>?_⟩
  ·simp only [Int.toNat_natCast] at he
   have he':bad2 (l.getD j g0) (a.getD i []) (b.getD k [])=true:=he
   rw [he'] at hP
   conv=>whnf
   rw [applyRs,if_neg (by rw [hP];simp)]
   rfl
  simp only [Int.toNat_natCast] at he
  have he':bad2 (l.getD j g0) (a.getD i []) (b.getD k [])=false:=he
  rw [he'] at hP
  conv=>whnf
  have fin:∀ (i' k':Nat),i'=mv (l.getD j g0).o i→k'=mv (l.getD j g0).n k→okL a b 0 0 l=okL a b i' k' (l.drop (j+1)):=by
   intro i' k' e1 e2
   rw [hP,e1,e2]
   rfl
  refine ⟨fun h1=>?_,fun h1=>?_⟩
  ·simp only [Int.toNat_natCast,Bool.not_eq_true',decide_eq_false_iff_not] at h1
   have:=hb1 h1
   conv=>whnf
   refine iO ?_;conv=>whnf
   refine ⟨fun h2=>?_,fun h2=>?_⟩
   ·simp only [Int.toNat_natCast,Bool.not_eq_true',decide_eq_false_iff_not] at h2
    have:=hb2 h2
    conv=>whnf
    refine iO ?_;conv=>whnf
    refine iO ?_;conv=>whnf
    refine ⟨(i+1,k+1,j+1),⟨by show i+1≤a.length;omega,by show k+1≤b.length;omega,hlt,fin _ _ (mv_move h1) (mv_move h2)⟩,by show l.length-(j+1)<l.length-j;omega,(wk_of [] rfl ⟨wa0,wa0,wa0,wa0,wa0,wa0,wa0,trivial⟩ trivial)⟩
   ·simp only [Int.toNat_natCast,Bool.not_eq_false',decide_eq_true_eq] at h2
    conv=>whnf
    refine iO ?_;conv=>whnf
    refine ⟨(i+1,k,j+1),⟨by show i+1≤a.length;omega,hk,hlt,fin _ _ (mv_move h1) (mv_stay h2)⟩,by show l.length-(j+1)<l.length-j;omega,(wk_of [] rfl ⟨wa0,wa0,wa0,wa0,wa0,wa0,wa0,trivial⟩ trivial)⟩
  ·simp only [Int.toNat_natCast,Bool.not_eq_false',decide_eq_true_eq] at h1
   conv=>whnf
   refine ⟨fun h2=>?_,fun h2=>?_⟩
   ·simp only [Int.toNat_natCast,Bool.not_eq_true',decide_eq_false_iff_not] at h2
    have:=hb2 h2
    conv=>whnf
    refine iO ?_;conv=>whnf
    refine iO ?_;conv=>whnf
    refine ⟨(i,k+1,j+1),⟨hi,by show k+1≤b.length;omega,hlt,fin _ _ (mv_stay h1) (mv_move h2)⟩,by show l.length-(j+1)<l.length-j;omega,(wk_of [] rfl ⟨wa0,wa0,wa0,wa0,wa0,wa0,wa0,trivial⟩ trivial)⟩
   ·simp only [Int.toNat_natCast,Bool.not_eq_false',decide_eq_true_eq] at h2
    conv=>whnf
    refine iO ?_;conv=>whnf
    refine ⟨(i,k,j+1),⟨hi,hk,hlt,fin _ _ (mv_stay h1) (mv_stay h2)⟩,by show l.length-(j+1)<l.length-j;omega,(wk_of [] rfl ⟨wa0,wa0,wa0,wa0,wa0,wa0,wa0,trivial⟩ trivial)⟩
 ·simp only [decide_eq_false_iff_not] at hc
  rw [List.drop_eq_nil_of_le (by omega),okL] at hP
  conv=>whnf
  refine ⟨fun hd=>?_,fun hd=>?_⟩
  ·simp only [Bool.or_eq_true,decide_eq_true_eq] at hd
   conv=>whnf
   rw [applyRs,if_neg (by rw [hP];simp;omega)]
   rfl
  ·simp only [Bool.or_eq_false_iff,decide_eq_false_iff_not] at hd
   conv=>whnf
   refine cO (fun _=>clone_ok b om0) ?_
   conv=>whnf
   rw [applyRs,if_pos (by rw [hP];simp;omega)]
   rfl
def dist:List Str→List Str→Nat
 | [],b=>b.length
 | _::a,[]=>a.length+1
 | x::a,y::b=>if x=y then dist a b else 1+min (dist a (y::b)) (dist (x::a) b)
termination_by a b=>a.length+b.length
def rowF (a b:List Str) (i k:Nat):List Int:=(List.range (b.length+1)).map fun j=>if k≤j then (dist (a.drop i) (b.drop j):Int) else 0
def cutL:List UInt8→List UInt8→List (List UInt8)
 | [],_=>[]
 | c::s,acc=>if c=10 then acc::cutL s [] else cutL s (acc++[c])
def onHead (a:List UInt8):List (List UInt8)→List (List UInt8)
 | []=>[]
 | p::ps=>(a++p)::ps
theorem onHead_nil (l:List (List UInt8)):onHead [] l=l:=by cases l<;>simp [onHead]
theorem onHead_app (a b:List UInt8) (l:List (List UInt8)):onHead a (onHead b l)=onHead (a++b) l:=by cases l<;>simp [onHead]
def splitC (s:List UInt8):List (List UInt8):=Lib.splitK [10] 0 (Lib.count s [10]) s
theorem splitC_nil:splitC []=[[]]:=by rfl
theorem index_at (l:List UInt8):Lib.index (10::l) [10]=0:=by simp [Lib.index]
theorem splitC_at (l:List UInt8):splitC (10::l)=[]::splitC l:=by
 unfold splitC
 rw [Lib.count_cons_eq,Nat.add_comm 1,Lib.splitK,index_at]
 rfl
theorem index_ne (b:UInt8) (l:List UInt8) (h:b≠10):Lib.index (b::l) [10]=if Lib.index l [10] == -1 then -1 else Lib.index l [10]+1:=by
 rw [Lib.index,if_neg]
 simp [List.isPrefixOf]
 exact fun e=>h e.symm
theorem splitC_ne (b:UInt8) (l:List UInt8) (h:b≠10):splitC (b::l)=onHead [b] (splitC l):=by
 unfold splitC
 rw [Lib.count_cons_ne b 10 l h]
 cases hk:Lib.count l [10] with
 | zero=>rfl
 | succ k =>
  have hi:¬ Lib.index l [10]=-1:=fun e=>by rw [Lib.count_miss e] at hk;cases hk
  have hg:=Lib.index_ge l [10]
  have h1:¬ (Lib.index l [10] == -1)=true:=fun e=>hi (beq_iff_eq.1 e)
  have h2:¬ (Lib.index (b::l) [10] == -1)=true:=fun e=>by
   have:=beq_iff_eq.1 e
   rw [index_ne b l h,if_neg h1] at this
   omega
  rw [Lib.splitK,Lib.splitK,if_neg h1,if_neg h2,index_ne b l h,if_neg h1]
  obtain ⟨n,hn⟩:∃ n:Nat,Lib.index l [10]=n:=⟨(Lib.index l [10]).toNat,by omega⟩
  rw [hn]
  have e1:((n:Int)+1).toNat=n+1:=by omega
  have e2:(n:Int).toNat=n:=by omega
  rw [e1,e2]
  show _=([b]++_)::_
  rw [Nat.add_zero,Nat.add_zero]
  rfl
theorem cut_split:∀ (s acc:List UInt8),cutL (s++[10]) acc=onHead acc (splitC s)
 | [],acc=>by simp [cutL,splitC_nil,onHead]
 | c::s,acc=>by
  rw [List.cons_append,cutL]
  by_cases h:c=10
  ·subst h
   rw [if_pos rfl,cut_split s [],splitC_at,onHead_nil]
   simp [onHead]
  ·rw [if_neg h,cut_split s (acc++[c]),splitC_ne c s h,onHead_app]
theorem trim_end (s:List UInt8):Lib.trimSuffix (s++[10]) [10]=s:=by
 unfold Lib.trimSuffix
 rw [if_pos (by simp [Lib.hasSuffix])]
 simp
theorem clauses_same (s:List UInt8):splitC (Lib.trimSuffix (s++[10]) [10])=cutL (s++[10]) []:=by
 rw [trim_end,cut_split,onHead_nil]
set_option maxHeartbeats 4000000
theorem flat_one {l:List AV} (h:∀ a∈l,a.cells=[a]):flat l=l:=by
 induction l with
 | nil=>rfl
 | cons a l ih =>
  unfold flat at ih ⊢
  rw [List.flatMap_cons,h a (by simp),ih fun b hb=>h b (by simp [hb])]
  rfl
def dT (a b:List Str) (i k:Nat):Int:=(dist (a.drop i) (b.drop k):Int)
def rowK (a b:List Str) (i k:Nat):List Int:=(List.range (b.length+1)).map fun j=>if k≤j then dT a b i j else 0
def tabD (a b:List Str) (i:Nat):List (List Int):=(List.range (a.length+1)).map fun j=>if i≤j then rowK a b j 0 else []
def dashT:List UInt8:=[32,45,32]
def dayT (n:Int):List UInt8:=Lib.itoa (partY n)++[32,45,32]++Lib.itoa (partM n)++[32,45,32]++Lib.itoa (partD n)
theorem dayT_len {n:Int} (h:0≤n) (h2:n≤200000):(dayT n).length≤70:=by
 obtain ⟨a,b,c,d,e,f⟩:=parts_bounds h h2
 have h1:=Lib.itoa_length_le (partY n) (by omega) (by omega)
 have h2:=Lib.itoa_length_le (partM n) (by omega) (by omega)
 have h3:=Lib.itoa_length_le (partD n) (by omega) (by omega)
 unfold dayT
 simp only [List.length_append,List.length_cons,List.length_nil]
 omega
theorem day_ok (n:Int) (h:0≤n) (h2:n≤200000):APureV Tryz.prog 41 [.int .i64 n] (.str (dayT n)):=by
 have hp:=parts_ok n
 unfold partsR at hp
 rw [if_pos ⟨h,h2⟩] at hp
 obtain ⟨a,b,c,d,e,f⟩:=parts_bounds h h2
 have i1:=itoa_c (partY n) (by omega) (by omega)
 have i2:=itoa_c (partM n) (by omega) (by omega)
 have i3:=itoa_c (partD n) (by omega) (by omega)
 have l1:=Lib.itoa_length_le (partY n) (by omega) (by omega)
 have l2:=Lib.itoa_length_le (partM n) (by omega) (by omega)
 have l3:=Lib.itoa_length_le (partD n) (by omega) (by omega)
 unfold dayT
 generalize partY n=y at *
 generalize partM n=m at *
 generalize partD n=dd at *
 refine aO (cxOk 24 [0,2,3,4,5]) Tryz.func41 ?_
 conv=>whnf
 refine cO (fun _=>hp) ?_
 conv=>whnf
 refine cO (fun _=>i1) ?_
 conv=>whnf
 refine And.intro aa0 ?_
 conv=>whnf
 refine cO (fun _=>i2) ?_
 conv=>whnf
 refine And.intro aa0 ?_
 conv=>whnf
 refine And.intro aa0 ?_
 conv=>whnf
 refine cO (fun _=>i3) ?_
 conv=>whnf
 refine And.intro aa0 ?_
 conv=>whnf
 rfl
def uqB (l:List (List UInt8)) (k:Nat):Bool:=nameB (l.getD k [])&&!decide (l.getD k []∈l.take k)
def uniqB (l:List (List UInt8)) (most:Int):Bool:=((List.range l.length).all fun k=>uqB l k)&&decide ((l.length:Int)≤most)
theorem uniq_ok (l:List (List UInt8)) (most:Int) (hl:l.length≤9223372036854775807) (hs:∀ s∈l,s.length≤9223372036854775807):APureV Tryz.prog 72 [encSs l,.int .i64 most] (.bool (uniqB l most)):=by
 refine aO (cxOk 29 [0,1,4,5,6,7,8,9,10,23]) Tryz.func72 ?_
 conv=>whnf
 refine loop_up (cxOk _ _) l.length (fun k=>∀ j,j<k→uqB l j=true) (fun k=>⟨[(0,encSs l),(1,.int .i64 most),(4,.bool false),(7,encSs l),(8,.int .i64 (l.length:Nat)),(9,.int .i64 (k:Nat))],[],0⟩) (by intro j hj;omega) ((wk_of [] rfl ⟨wa0,wa0,wa0,wa0,wa0,wa0,trivial⟩ trivial)) ?_
 intro k hk hP
 conv=>whnf
 refine ⟨fun hd=>?_,fun hd=>?_⟩
 ·have hd:=of_decide_eq_true hd
  have hlt:k<l.length:=by omega
  have hek:(k:Int).toNat=k:=Int.toNat_natCast k
  have hm:l.getD k []∈l:=getD_mem hlt
  have hn:=name_ok (l.getD k []) (hs _ hm)
  have hc:=contains_ok (l.take k) (l.getD k []) (by simp;omega)
  conv=>whnf
  refine iO ?_;conv=>whnf
  refine And.intro rfl ?_;conv=>whnf
  rw [hek]
  conv=>whnf
  refine cO (fun _=>hn) ?_
  conv=>whnf
  refine And.intro (fun _=>⟨by omega,by omega,by omega⟩) ?_
  conv=>whnf
  refine And.intro rfl ?_
  conv=>whnf
  refine .one _ _ _ (fun _=>hc) (.cons (show Lend _ _ (encSs (l.take k)) [] from lS rfl) (.cons (lS rfl) .nil)) (.inl rfl) (.inr rfl) ?_
  conv=>whnf
  refine ⟨fun hb=>?_,fun hb=>?_⟩
  ·have hq:uniqB l most=false:=by
    have h1:uqB l k=false:=by
     unfold uqB
     simp only [Bool.or_eq_true,Bool.not_eq_true'] at hb
     rcases hb with hb | hb<;>rw [hb]<;>simp
    unfold uniqB
    rw [show ((List.range l.length).all fun k=>uqB l k)=false by
     rw [List.all_eq_false]
     exact ⟨k,List.mem_range.2 hlt,by rw [h1];decide⟩]
    rfl
   conv=>whnf
   rw [hq]
   rfl
  ·have h1:uqB l k=true:=by
    unfold uqB
    simp only [Bool.or_eq_false_iff,Bool.not_eq_false'] at hb
    rw [hb.1,hb.2]
    rfl
   conv=>whnf
   refine iO ?_;conv=>whnf
   refine up hlt (fun j hj=>?_) ((wk_of [] rfl ⟨wa0,wa0,wa0,wa0,wa0,wa0,trivial⟩ trivial))
   by_cases e:j=k
   ·subst e;exact h1
   ·exact hP j om0
 ·have hd:=of_decide_eq_false hd
  obtain rfl:k=l.length:=by omega
  conv=>whnf
  have he:uniqB l most=decide ((l.length:Int)≤most):=by
   unfold uniqB
   rw [show ((List.range l.length).all fun k=>uqB l k)=true by rw [List.all_eq_true];intro j hj;exact hP j (List.mem_range.1 hj)]
   rfl
  rw [he]
  rfl
def letR (l:LetE):Bool:=rightE l.body
def covR (c:Cov):Bool:=rightE c.must&&inB 0 1000 [c.grace]
def callR (c:CallE):Bool:=inB 0 200000 [c.a]&&inB 0 10000 [c.b]
theorem letr_ok (l:LetE) (h:OkE l.body):APureV Tryz.prog 75 [encL l] (.bool (!letR l)):=by
 have hr:=rightexp_ok l.body h
 unfold letR
 refine aO (cxOk 7 [0,1,2]) Tryz.func75 ?_
 conv=>whnf
 refine cO (fun _=>hr) ?_
 conv=>whnf
 rfl
theorem covr_ok (c:Cov) (h:OkE c.must):APureV Tryz.prog 77 [encC c] (.bool (!covR c)):=by
 have hr:=rightexp_ok c.must h
 unfold covR
 cases hb:rightE c.must with
 | false =>
  rw [hb] at hr
  refine aO (cxOk 14 [0,1,2]) Tryz.func77 ?_
  conv=>whnf
  refine cO (fun _=>hr) ?_
  conv=>whnf
  refine gF ?_
  conv=>whnf
  refine cF [.int .i64 0,.int .i64 1000,.undef] [.val (.bool false)] ?_
  conv=>whnf
  rfl
 | true =>
  rw [hb] at hr
  refine aO (cxOk 14 [0,1,2]) Tryz.func77 ?_
  conv=>whnf
  refine cO (fun _=>hr) ?_
  conv=>whnf
  refine gT ?_
  conv=>whnf
  refine cO (fun _=>in1_ok 0 1000 c.grace) ?_
  conv=>whnf
  rfl
theorem callr_ok (c:CallE):APureV Tryz.prog 79 [encK c] (.bool (!callR c)):=by
 unfold callR
 refine aO (cxOk 15 [0,1,2]) Tryz.func79 ?_
 conv=>whnf
 refine cO (fun _=>in1_ok 0 200000 c.a) ?_
 conv=>whnf
 cases hb:inB 0 200000 [c.a] with
 | false =>
  refine gF ?_
  conv=>whnf
  refine cF [.int .i64 0,.int .i64 10000,.undef] [.val (.bool false)] ?_
  conv=>whnf
  rfl
 | true =>
  refine gT ?_
  conv=>whnf
  refine cO (fun _=>in1_ok 0 10000 c.b) ?_
  conv=>whnf
  rfl
theorem in2_ok (a b n m:Int):APureV Tryz.prog 70 [.int .i64 a,.int .i64 b,.sl 1 encI 0 [n,m]] (.bool (inB a b [n,m])):=in_ok a b [n,m] (by simp)
structure OkX (x:Ind):Prop where
 name:x.name.length≤9223372036854775807
 issuer:x.issuer.length≤9223372036854775807
 coupon:OkE x.coupon
 lets:x.lets.length≤1000000000
 let1:∀ l∈x.lets,l.name.length≤9223372036854775807∧OkE l.body
 cov:x.cov.length≤1000000000
 cov1:∀ c∈x.cov,c.name.length≤9223372036854775807∧OkE c.must∧in64 c.grace
 favour:x.favour.length≤9223372036854775807
 fav1:∀ s∈x.favour,s.length≤9223372036854775807
 calls:x.calls.length≤9223372036854775807
 call1:∀ c∈x.calls,in64 c.a∧in64 c.b
 nums:in64 x.face∧in64 x.frm∧in64 x.to∧in64 x.every∧in64 x.count∧in64 x.adjust∧in64 x.record∧in64 x.rank∧in64 x.cap∧in64 x.cross∧in64 x.notice∧in64 x.sink∧in64 x.majority∧in64 x.fast
def datesB (x:Ind):Bool:=inB 0 200000 [x.frm,x.to]&&decide (x.frm<x.to)
def oneB (x:Ind):Bool:=inB 1 1000000000000000 [x.face]&&inB 1 120 [x.every]&&inB 0 2 [x.count]&&inB 0 3 [x.adjust]&&inB 0 100 [x.record]&&inB 0 9 [x.rank]
def twoB (x:Ind):Bool:=inB 0 10000 [x.cap]&&inB (-1) 1000000000000000 [x.cross]&&inB 0 1000 [x.notice,x.sink]&&inB 1 1000 [x.majority,x.fast]
def headB (x:Ind):Bool:=datesB x&&oneB x&&twoB x&&nameB x.name&&nameB x.issuer&&decide ((x.calls.length:Int)≤20)&&uniqB x.favour 20
def restB (x:Ind):Bool:=uniqB (x.lets.map LetE.name) 20&&uniqB (x.cov.map Cov.name) 20&&rightE x.coupon&&x.lets.all letR&&x.cov.all covR&&x.calls.all callR
def rightI (x:Ind):Bool:=headB x&&restB x
theorem rightfn_ok (x:Ind) (hx:OkX x):APureV Tryz.prog 36 [encX x] (.bool (rightI x)):=by
 have hn1:=name_ok x.name hx.name
 have hn2:=name_ok x.issuer hx.issuer
 have hu:=uniq_ok x.favour 20 hx.favour hx.fav1
 refine aO (cxOk 177 [0,1,2,3,4,5,6,7,9,11,12,119,121,122,123,124,134,135,136,137,159]) Tryz.func36 ?_
 conv=>whnf
 refine cO (fun _=>in2_ok 0 200000 x.frm x.to) ?_
 conv=>whnf
 refine cO (fun _=>in1_ok 1 1000000000000000 x.face) ?_
 conv=>whnf
 cases ha0:inB 1 1000000000000000 [x.face] with
 | false =>
  refine gF ?_
  conv=>whnf
  refine cF [.int .i64 1,.int .i64 120,.undef] [.val (.bool false)] ?_
  conv=>whnf
  refine gF ?_
  conv=>whnf
  refine cF [.int .i64 0,.int .i64 2,.undef] [.val (.bool false)] ?_
  conv=>whnf
  refine gF ?_
  conv=>whnf
  refine cF [.int .i64 0,.int .i64 3,.undef] [.val (.bool false)] ?_
  conv=>whnf
  refine gF ?_
  conv=>whnf
  refine cF [.int .i64 0,.int .i64 100,.undef] [.val (.bool false)] ?_
  conv=>whnf
  refine gF ?_
  conv=>whnf
  refine cF [.int .i64 0,.int .i64 9,.undef] [.val (.bool false)] ?_
  conv=>whnf
  refine cO (fun _=>in1_ok 0 10000 x.cap) ?_
  conv=>whnf
  cases hb0:inB 0 10000 [x.cap] with
  | false =>
   refine gF ?_
   conv=>whnf
   refine cF [.int .i64 (-1),.int .i64 1000000000000000,.undef] [.val (.bool false)] ?_
   conv=>whnf
   refine gF ?_
   conv=>whnf
   refine cF [.int .i64 0,.int .i64 1000,.undef] [.val (.bool false)] ?_
   conv=>whnf
   refine gF ?_
   conv=>whnf
   refine cF [.int .i64 1,.int .i64 1000,.undef] [.val (.bool false)] ?_
   conv=>whnf
   refine cO (fun _=>hn1) ?_
   conv=>whnf
   refine cO (fun _=>hn2) ?_
   conv=>whnf
   refine cO (fun _=>hu) ?_
   conv=>whnf
   refine ⟨fun _=>?_,fun hx=>absurd hx (by simp)⟩
   conv=>whnf
   rw [show rightI x=false by simp only [rightI,headB,oneB,twoB,hb0,Bool.and_false,Bool.false_and]]
   rfl
  | true =>
   refine gT ?_
   conv=>whnf
   refine cO (fun _=>in1_ok (-1) 1000000000000000 x.cross) ?_
   conv=>whnf
   cases hb1:inB (-1) 1000000000000000 [x.cross] with
   | false =>
    refine gF ?_
    conv=>whnf
    refine cF [.int .i64 0,.int .i64 1000,.undef] [.val (.bool false)] ?_
    conv=>whnf
    refine gF ?_
    conv=>whnf
    refine cF [.int .i64 1,.int .i64 1000,.undef] [.val (.bool false)] ?_
    conv=>whnf
    refine cO (fun _=>hn1) ?_
    conv=>whnf
    refine cO (fun _=>hn2) ?_
    conv=>whnf
    refine cO (fun _=>hu) ?_
    conv=>whnf
    refine ⟨fun _=>?_,fun hx=>absurd hx (by simp)⟩
    conv=>whnf
    rw [show rightI x=false by simp only [rightI,headB,oneB,twoB,hb1,Bool.and_false,Bool.false_and]]
    rfl
   | true =>
    refine gT ?_
    conv=>whnf
    refine cO (fun _=>in2_ok 0 1000 x.notice x.sink) ?_
    conv=>whnf
    cases hb2:inB 0 1000 [x.notice,x.sink] with
    | false =>
     refine gF ?_
     conv=>whnf
     refine cF [.int .i64 1,.int .i64 1000,.undef] [.val (.bool false)] ?_
     conv=>whnf
     refine cO (fun _=>hn1) ?_
     conv=>whnf
     refine cO (fun _=>hn2) ?_
     conv=>whnf
     refine cO (fun _=>hu) ?_
     conv=>whnf
     refine ⟨fun _=>?_,fun hx=>absurd hx (by simp)⟩
     conv=>whnf
     rw [show rightI x=false by simp only [rightI,headB,oneB,twoB,hb2,Bool.and_false,Bool.false_and]]
     rfl
    | true =>
     refine gT ?_
     conv=>whnf
     refine cO (fun _=>in2_ok 1 1000 x.majority x.fast) ?_
     conv=>whnf
     refine cO (fun _=>hn1) ?_
     conv=>whnf
     refine cO (fun _=>hn2) ?_
     conv=>whnf
     refine cO (fun _=>hu) ?_
     conv=>whnf
     refine ⟨fun _=>?_,fun hx=>absurd hx (by simp)⟩
     conv=>whnf
     rw [show rightI x=false by simp only [rightI,headB,oneB,twoB,ha0,Bool.and_false,Bool.false_and]]
     rfl
 | true =>
  refine gT ?_
  conv=>whnf
  refine cO (fun _=>in1_ok 1 120 x.every) ?_
  conv=>whnf
  cases ha1:inB 1 120 [x.every] with
  | false =>
   refine gF ?_
   conv=>whnf
   refine cF [.int .i64 0,.int .i64 2,.undef] [.val (.bool false)] ?_
   conv=>whnf
   refine gF ?_
   conv=>whnf
   refine cF [.int .i64 0,.int .i64 3,.undef] [.val (.bool false)] ?_
   conv=>whnf
   refine gF ?_
   conv=>whnf
   refine cF [.int .i64 0,.int .i64 100,.undef] [.val (.bool false)] ?_
   conv=>whnf
   refine gF ?_
   conv=>whnf
   refine cF [.int .i64 0,.int .i64 9,.undef] [.val (.bool false)] ?_
   conv=>whnf
   refine cO (fun _=>in1_ok 0 10000 x.cap) ?_
   conv=>whnf
   cases hb0:inB 0 10000 [x.cap] with
   | false =>
    refine gF ?_
    conv=>whnf
    refine cF [.int .i64 (-1),.int .i64 1000000000000000,.undef] [.val (.bool false)] ?_
    conv=>whnf
    refine gF ?_
    conv=>whnf
    refine cF [.int .i64 0,.int .i64 1000,.undef] [.val (.bool false)] ?_
    conv=>whnf
    refine gF ?_
    conv=>whnf
    refine cF [.int .i64 1,.int .i64 1000,.undef] [.val (.bool false)] ?_
    conv=>whnf
    refine cO (fun _=>hn1) ?_
    conv=>whnf
    refine cO (fun _=>hn2) ?_
    conv=>whnf
    refine cO (fun _=>hu) ?_
    conv=>whnf
    refine ⟨fun _=>?_,fun hx=>absurd hx (by simp)⟩
    conv=>whnf
    rw [show rightI x=false by simp only [rightI,headB,oneB,twoB,hb0,Bool.and_false,Bool.false_and]]
    rfl
   | true =>
    refine gT ?_
    conv=>whnf
    refine cO (fun _=>in1_ok (-1) 1000000000000000 x.cross) ?_
    conv=>whnf
    cases hb1:inB (-1) 1000000000000000 [x.cross] with
    | false =>
     refine gF ?_
     conv=>whnf
     refine cF [.int .i64 0,.int .i64 1000,.undef] [.val (.bool false)] ?_
     conv=>whnf
     refine gF ?_
     conv=>whnf
     refine cF [.int .i64 1,.int .i64 1000,.undef] [.val (.bool false)] ?_
     conv=>whnf
     refine cO (fun _=>hn1) ?_
     conv=>whnf
     refine cO (fun _=>hn2) ?_
     conv=>whnf
     refine cO (fun _=>hu) ?_
     conv=>whnf
     refine ⟨fun _=>?_,fun hx=>absurd hx (by simp)⟩
     conv=>whnf
     rw [show rightI x=false by simp only [rightI,headB,oneB,twoB,hb1,Bool.and_false,Bool.false_and]]
     rfl
    | true =>
     refine gT ?_
     conv=>whnf
     refine cO (fun _=>in2_ok 0 1000 x.notice x.sink) ?_
     conv=>whnf
     cases hb2:inB 0 1000 [x.notice,x.sink] with
     | false =>
      refine gF ?_
      conv=>whnf
      refine cF [.int .i64 1,.int .i64 1000,.undef] [.val (.bool false)] ?_
      conv=>whnf
      refine cO (fun _=>hn1) ?_
      conv=>whnf
      refine cO (fun _=>hn2) ?_
      conv=>whnf
      refine cO (fun _=>hu) ?_
      conv=>whnf
      refine ⟨fun _=>?_,fun hx=>absurd hx (by simp)⟩
      conv=>whnf
      rw [show rightI x=false by simp only [rightI,headB,oneB,twoB,hb2,Bool.and_false,Bool.false_and]]
      rfl
     | true =>
      refine gT ?_
      conv=>whnf
      refine cO (fun _=>in2_ok 1 1000 x.majority x.fast) ?_
      conv=>whnf
      refine cO (fun _=>hn1) ?_
      conv=>whnf
      refine cO (fun _=>hn2) ?_
      conv=>whnf
      refine cO (fun _=>hu) ?_
      conv=>whnf
      refine ⟨fun _=>?_,fun hx=>absurd hx (by simp)⟩
      conv=>whnf
      rw [show rightI x=false by simp only [rightI,headB,oneB,twoB,ha1,Bool.and_false,Bool.false_and]]
      rfl
  | true =>
   refine gT ?_
   conv=>whnf
   refine cO (fun _=>in1_ok 0 2 x.count) ?_
   conv=>whnf
   cases ha2:inB 0 2 [x.count] with
   | false =>
    refine gF ?_
    conv=>whnf
    refine cF [.int .i64 0,.int .i64 3,.undef] [.val (.bool false)] ?_
    conv=>whnf
    refine gF ?_
    conv=>whnf
    refine cF [.int .i64 0,.int .i64 100,.undef] [.val (.bool false)] ?_
    conv=>whnf
    refine gF ?_
    conv=>whnf
    refine cF [.int .i64 0,.int .i64 9,.undef] [.val (.bool false)] ?_
    conv=>whnf
    refine cO (fun _=>in1_ok 0 10000 x.cap) ?_
    conv=>whnf
    cases hb0:inB 0 10000 [x.cap] with
    | false =>
     refine gF ?_
     conv=>whnf
     refine cF [.int .i64 (-1),.int .i64 1000000000000000,.undef] [.val (.bool false)] ?_
     conv=>whnf
     refine gF ?_
     conv=>whnf
     refine cF [.int .i64 0,.int .i64 1000,.undef] [.val (.bool false)] ?_
     conv=>whnf
     refine gF ?_
     conv=>whnf
     refine cF [.int .i64 1,.int .i64 1000,.undef] [.val (.bool false)] ?_
     conv=>whnf
     refine cO (fun _=>hn1) ?_
     conv=>whnf
     refine cO (fun _=>hn2) ?_
     conv=>whnf
     refine cO (fun _=>hu) ?_
     conv=>whnf
     refine ⟨fun _=>?_,fun hx=>absurd hx (by simp)⟩
     conv=>whnf
     rw [show rightI x=false by simp only [rightI,headB,oneB,twoB,hb0,Bool.and_false,Bool.false_and]]
     rfl
    | true =>
     refine gT ?_
     conv=>whnf
     refine cO (fun _=>in1_ok (-1) 1000000000000000 x.cross) ?_
     conv=>whnf
     cases hb1:inB (-1) 1000000000000000 [x.cross] with
     | false =>
      refine gF ?_
      conv=>whnf
      refine cF [.int .i64 0,.int .i64 1000,.undef] [.val (.bool false)] ?_
      conv=>whnf
      refine gF ?_
      conv=>whnf
      refine cF [.int .i64 1,.int .i64 1000,.undef] [.val (.bool false)] ?_
      conv=>whnf
      refine cO (fun _=>hn1) ?_
      conv=>whnf
      refine cO (fun _=>hn2) ?_
      conv=>whnf
      refine cO (fun _=>hu) ?_
      conv=>whnf
      refine ⟨fun _=>?_,fun hx=>absurd hx (by simp)⟩
      conv=>whnf
      rw [show rightI x=false by simp only [rightI,headB,oneB,twoB,hb1,Bool.and_false,Bool.false_and]]
      rfl
     | true =>
      refine gT ?_
      conv=>whnf
      refine cO (fun _=>in2_ok 0 1000 x.notice x.sink) ?_
      conv=>whnf
      cases hb2:inB 0 1000 [x.notice,x.sink] with
      | false =>
       refine gF ?_
       conv=>whnf
       refine cF [.int .i64 1,.int .i64 1000,.undef] [.val (.bool false)] ?_
       conv=>whnf
       refine cO (fun _=>hn1) ?_
       conv=>whnf
       refine cO (fun _=>hn2) ?_
       conv=>whnf
       refine cO (fun _=>hu) ?_
       conv=>whnf
       refine ⟨fun _=>?_,fun hx=>absurd hx (by simp)⟩
       conv=>whnf
       rw [show rightI x=false by simp only [rightI,headB,oneB,twoB,hb2,Bool.and_false,Bool.false_and]]
       rfl
      | true =>
       refine gT ?_
       conv=>whnf
       refine cO (fun _=>in2_ok 1 1000 x.majority x.fast) ?_
       conv=>whnf
       refine cO (fun _=>hn1) ?_
       conv=>whnf
       refine cO (fun _=>hn2) ?_
       conv=>whnf
       refine cO (fun _=>hu) ?_
       conv=>whnf
       refine ⟨fun _=>?_,fun hx=>absurd hx (by simp)⟩
       conv=>whnf
       rw [show rightI x=false by simp only [rightI,headB,oneB,twoB,ha2,Bool.and_false,Bool.false_and]]
       rfl
   | true =>
    refine gT ?_
    conv=>whnf
    refine cO (fun _=>in1_ok 0 3 x.adjust) ?_
    conv=>whnf
    cases ha3:inB 0 3 [x.adjust] with
    | false =>
     refine gF ?_
     conv=>whnf
     refine cF [.int .i64 0,.int .i64 100,.undef] [.val (.bool false)] ?_
     conv=>whnf
     refine gF ?_
     conv=>whnf
     refine cF [.int .i64 0,.int .i64 9,.undef] [.val (.bool false)] ?_
     conv=>whnf
     refine cO (fun _=>in1_ok 0 10000 x.cap) ?_
     conv=>whnf
     cases hb0:inB 0 10000 [x.cap] with
     | false =>
      refine gF ?_
      conv=>whnf
      refine cF [.int .i64 (-1),.int .i64 1000000000000000,.undef] [.val (.bool false)] ?_
      conv=>whnf
      refine gF ?_
      conv=>whnf
      refine cF [.int .i64 0,.int .i64 1000,.undef] [.val (.bool false)] ?_
      conv=>whnf
      refine gF ?_
      conv=>whnf
      refine cF [.int .i64 1,.int .i64 1000,.undef] [.val (.bool false)] ?_
      conv=>whnf
      refine cO (fun _=>hn1) ?_
      conv=>whnf
      refine cO (fun _=>hn2) ?_
      conv=>whnf
      refine cO (fun _=>hu) ?_
      conv=>whnf
      refine ⟨fun _=>?_,fun hx=>absurd hx (by simp)⟩
      conv=>whnf
      rw [show rightI x=false by simp only [rightI,headB,oneB,twoB,hb0,Bool.and_false,Bool.false_and]]
      rfl
     | true =>
      refine gT ?_
      conv=>whnf
      refine cO (fun _=>in1_ok (-1) 1000000000000000 x.cross) ?_
      conv=>whnf
      cases hb1:inB (-1) 1000000000000000 [x.cross] with
      | false =>
       refine gF ?_
       conv=>whnf
       refine cF [.int .i64 0,.int .i64 1000,.undef] [.val (.bool false)] ?_
       conv=>whnf
       refine gF ?_
       conv=>whnf
       refine cF [.int .i64 1,.int .i64 1000,.undef] [.val (.bool false)] ?_
       conv=>whnf
       refine cO (fun _=>hn1) ?_
       conv=>whnf
       refine cO (fun _=>hn2) ?_
       conv=>whnf
       refine cO (fun _=>hu) ?_
       conv=>whnf
       refine ⟨fun _=>?_,fun hx=>absurd hx (by simp)⟩
       conv=>whnf
       rw [show rightI x=false by simp only [rightI,headB,oneB,twoB,hb1,Bool.and_false,Bool.false_and]]
       rfl
      | true =>
       refine gT ?_
       conv=>whnf
       refine cO (fun _=>in2_ok 0 1000 x.notice x.sink) ?_
       conv=>whnf
       cases hb2:inB 0 1000 [x.notice,x.sink] with
       | false =>
        refine gF ?_
        conv=>whnf
        refine cF [.int .i64 1,.int .i64 1000,.undef] [.val (.bool false)] ?_
        conv=>whnf
        refine cO (fun _=>hn1) ?_
        conv=>whnf
        refine cO (fun _=>hn2) ?_
        conv=>whnf
        refine cO (fun _=>hu) ?_
        conv=>whnf
        refine ⟨fun _=>?_,fun hx=>absurd hx (by simp)⟩
        conv=>whnf
        rw [show rightI x=false by simp only [rightI,headB,oneB,twoB,hb2,Bool.and_false,Bool.false_and]]
        rfl
       | true =>
        refine gT ?_
        conv=>whnf
        refine cO (fun _=>in2_ok 1 1000 x.majority x.fast) ?_
        conv=>whnf
        refine cO (fun _=>hn1) ?_
        conv=>whnf
        refine cO (fun _=>hn2) ?_
        conv=>whnf
        refine cO (fun _=>hu) ?_
        conv=>whnf
        refine ⟨fun _=>?_,fun hx=>absurd hx (by simp)⟩
        conv=>whnf
        rw [show rightI x=false by simp only [rightI,headB,oneB,twoB,ha3,Bool.and_false,Bool.false_and]]
        rfl
    | true =>
     refine gT ?_
     conv=>whnf
     refine cO (fun _=>in1_ok 0 100 x.record) ?_
     conv=>whnf
     cases ha4:inB 0 100 [x.record] with
     | false =>
      refine gF ?_
      conv=>whnf
      refine cF [.int .i64 0,.int .i64 9,.undef] [.val (.bool false)] ?_
      conv=>whnf
      refine cO (fun _=>in1_ok 0 10000 x.cap) ?_
      conv=>whnf
      cases hb0:inB 0 10000 [x.cap] with
      | false =>
       refine gF ?_
       conv=>whnf
       refine cF [.int .i64 (-1),.int .i64 1000000000000000,.undef] [.val (.bool false)] ?_
       conv=>whnf
       refine gF ?_
       conv=>whnf
       refine cF [.int .i64 0,.int .i64 1000,.undef] [.val (.bool false)] ?_
       conv=>whnf
       refine gF ?_
       conv=>whnf
       refine cF [.int .i64 1,.int .i64 1000,.undef] [.val (.bool false)] ?_
       conv=>whnf
       refine cO (fun _=>hn1) ?_
       conv=>whnf
       refine cO (fun _=>hn2) ?_
       conv=>whnf
       refine cO (fun _=>hu) ?_
       conv=>whnf
       refine ⟨fun _=>?_,fun hx=>absurd hx (by simp)⟩
       conv=>whnf
       rw [show rightI x=false by simp only [rightI,headB,oneB,twoB,hb0,Bool.and_false,Bool.false_and]]
       rfl
      | true =>
       refine gT ?_
       conv=>whnf
       refine cO (fun _=>in1_ok (-1) 1000000000000000 x.cross) ?_
       conv=>whnf
       cases hb1:inB (-1) 1000000000000000 [x.cross] with
       | false =>
        refine gF ?_
        conv=>whnf
        refine cF [.int .i64 0,.int .i64 1000,.undef] [.val (.bool false)] ?_
        conv=>whnf
        refine gF ?_
        conv=>whnf
        refine cF [.int .i64 1,.int .i64 1000,.undef] [.val (.bool false)] ?_
        conv=>whnf
        refine cO (fun _=>hn1) ?_
        conv=>whnf
        refine cO (fun _=>hn2) ?_
        conv=>whnf
        refine cO (fun _=>hu) ?_
        conv=>whnf
        refine ⟨fun _=>?_,fun hx=>absurd hx (by simp)⟩
        conv=>whnf
        rw [show rightI x=false by simp only [rightI,headB,oneB,twoB,hb1,Bool.and_false,Bool.false_and]]
        rfl
       | true =>
        refine gT ?_
        conv=>whnf
        refine cO (fun _=>in2_ok 0 1000 x.notice x.sink) ?_
        conv=>whnf
        cases hb2:inB 0 1000 [x.notice,x.sink] with
        | false =>
         refine gF ?_
         conv=>whnf
         refine cF [.int .i64 1,.int .i64 1000,.undef] [.val (.bool false)] ?_
         conv=>whnf
         refine cO (fun _=>hn1) ?_
         conv=>whnf
         refine cO (fun _=>hn2) ?_
         conv=>whnf
         refine cO (fun _=>hu) ?_
         conv=>whnf
         refine ⟨fun _=>?_,fun hx=>absurd hx (by simp)⟩
         conv=>whnf
         rw [show rightI x=false by simp only [rightI,headB,oneB,twoB,hb2,Bool.and_false,Bool.false_and]]
         rfl
        | true =>
         refine gT ?_
         conv=>whnf
         refine cO (fun _=>in2_ok 1 1000 x.majority x.fast) ?_
         conv=>whnf
         refine cO (fun _=>hn1) ?_
         conv=>whnf
         refine cO (fun _=>hn2) ?_
         conv=>whnf
         refine cO (fun _=>hu) ?_
         conv=>whnf
         refine ⟨fun _=>?_,fun hx=>absurd hx (by simp)⟩
         conv=>whnf
         rw [show rightI x=false by simp only [rightI,headB,oneB,twoB,ha4,Bool.and_false,Bool.false_and]]
         rfl
     | true =>
      refine gT ?_
      conv=>whnf
      refine cO (fun _=>in1_ok 0 9 x.rank) ?_
      conv=>whnf
      refine cO (fun _=>in1_ok 0 10000 x.cap) ?_
      conv=>whnf
      cases hb0:inB 0 10000 [x.cap] with
      | false =>
       refine gF ?_
       conv=>whnf
       refine cF [.int .i64 (-1),.int .i64 1000000000000000,.undef] [.val (.bool false)] ?_
       conv=>whnf
       refine gF ?_
       conv=>whnf
       refine cF [.int .i64 0,.int .i64 1000,.undef] [.val (.bool false)] ?_
       conv=>whnf
       refine gF ?_
       conv=>whnf
       refine cF [.int .i64 1,.int .i64 1000,.undef] [.val (.bool false)] ?_
       conv=>whnf
       refine cO (fun _=>hn1) ?_
       conv=>whnf
       refine cO (fun _=>hn2) ?_
       conv=>whnf
       refine cO (fun _=>hu) ?_
       conv=>whnf
       refine ⟨fun _=>?_,fun hx=>absurd hx (by simp)⟩
       conv=>whnf
       rw [show rightI x=false by simp only [rightI,headB,oneB,twoB,hb0,Bool.and_false,Bool.false_and]]
       rfl
      | true =>
       refine gT ?_
       conv=>whnf
       refine cO (fun _=>in1_ok (-1) 1000000000000000 x.cross) ?_
       conv=>whnf
       cases hb1:inB (-1) 1000000000000000 [x.cross] with
       | false =>
        refine gF ?_
        conv=>whnf
        refine cF [.int .i64 0,.int .i64 1000,.undef] [.val (.bool false)] ?_
        conv=>whnf
        refine gF ?_
        conv=>whnf
        refine cF [.int .i64 1,.int .i64 1000,.undef] [.val (.bool false)] ?_
        conv=>whnf
        refine cO (fun _=>hn1) ?_
        conv=>whnf
        refine cO (fun _=>hn2) ?_
        conv=>whnf
        refine cO (fun _=>hu) ?_
        conv=>whnf
        refine ⟨fun _=>?_,fun hx=>absurd hx (by simp)⟩
        conv=>whnf
        rw [show rightI x=false by simp only [rightI,headB,oneB,twoB,hb1,Bool.and_false,Bool.false_and]]
        rfl
       | true =>
        refine gT ?_
        conv=>whnf
        refine cO (fun _=>in2_ok 0 1000 x.notice x.sink) ?_
        conv=>whnf
        cases hb2:inB 0 1000 [x.notice,x.sink] with
        | false =>
         refine gF ?_
         conv=>whnf
         refine cF [.int .i64 1,.int .i64 1000,.undef] [.val (.bool false)] ?_
         conv=>whnf
         refine cO (fun _=>hn1) ?_
         conv=>whnf
         refine cO (fun _=>hn2) ?_
         conv=>whnf
         refine cO (fun _=>hu) ?_
         conv=>whnf
         refine ⟨fun _=>?_,fun hx=>absurd hx (by simp)⟩
         conv=>whnf
         rw [show rightI x=false by simp only [rightI,headB,oneB,twoB,hb2,Bool.and_false,Bool.false_and]]
         rfl
        | true =>
         refine gT ?_
         conv=>whnf
         refine cO (fun _=>in2_ok 1 1000 x.majority x.fast) ?_
         conv=>whnf
         refine cO (fun _=>hn1) ?_
         conv=>whnf
         refine cO (fun _=>hn2) ?_
         conv=>whnf
         refine cO (fun _=>hu) ?_
         conv=>whnf
         refine ⟨fun hh=>?_,fun hh=>?_⟩
         ·have hB:headB x=false:=by
           cases hB:headB x with
           | false=>rfl
           | true =>
            simp only [headB,datesB,oneB,twoB,Bool.and_eq_true,decide_eq_true_eq] at hB
            obtain ⟨⟨⟨⟨⟨⟨⟨d1,d2⟩,o1⟩,t1⟩,n1⟩,n2⟩,c1⟩,f1⟩:=hB
            rw [d1,o1.2,t1.2,n1,n2,f1] at hh
            simp at hh
            omega
          conv=>whnf
          rw [show rightI x=false by simp only [rightI,hB,Bool.false_and]]
          rfl
         have hB:headB x=true:=by
          simp only [Bool.or_eq_false_iff,Bool.not_eq_false',Bool.and_eq_true,decide_eq_true_eq,decide_eq_false_iff_not] at hh
          obtain ⟨⟨⟨⟨⟨⟨⟨d1,d2⟩,o1⟩,t1⟩,n1⟩,n2⟩,c1⟩,f1⟩:=hh
          simp only [headB,datesB,oneB,twoB,ha0,ha1,ha2,ha3,ha4,hb0,hb1,hb2,d1,o1.2,t1.2,n1,n2,f1,Bool.and_true,decide_eq_true_eq,Bool.and_eq_true]
          exact ⟨⟨trivial,d2⟩,by omega⟩
         conv=>whnf
         have hlets:=hx.lets
         refine loop_up (cxOk _ _) x.lets.length (fun _=>True) (fun k=>⟨[(1,.ptr 0 0),(2,.bool false),(6,.own 1),(7,.nils),(121,.sl 6 encL l0 x.lets),(122,.int .i64 (x.lets.length:Nat)),(123,.int .i64 (k:Nat))],[(0,.cells 31 (celX x)),(1,.row 9 1 encS [] ((x.lets.take k).map LetE.name))],2⟩) trivial ((wk_of [(0,.id 0),(1,.nil)] rfl ⟨wc0,wa0,af0,wa0,wa0,wa0,wa0,trivial⟩ ⟨wb0,⟨_,rfl,ah0⟩,trivial⟩)) ?_
         intro k hk _
         conv=>whnf
         refine ⟨fun hd=>?_,fun hd=>?_⟩
         ·have hd:=of_decide_eq_true hd
          have hlt:k<x.lets.length:=by omega
          have hek:(k:Int).toNat=k:=Int.toNat_natCast k
          conv=>whnf
          refine iO ?_;conv=>whnf
          refine And.intro rfl ?_;conv=>whnf
          refine And.intro rfl ?_;conv=>whnf
          rw [hek]
          conv=>whnf
          refine And.intro ⟨rfl,rfl⟩ (And.intro (by show ((List.map LetE.name (List.take k x.lets)).length+1)*16≤140737488355328;rw [List.length_map,List.length_take];omega) ?_)
          conv=>whnf
          refine Exists.intro _ (And.intro rfl ?_);conv=>whnf
          refine iO ?_;conv=>whnf
          refine up hlt trivial ((wk_of [(0,.id 0),(1,.id 4)] rfl ⟨wc0,wa0,af0,wa0,wa0,wa0,wa0,trivial⟩ ⟨wb0,⟨_,rfl,(by first | exact .row _ _ _ _ _ _ _ rfl (by rw [take_getD (d:=l0) hlt,List.map_append];rfl) | exact .lstrow _ _ _ _ _ _ _ rfl (by rw [take_getD (d:=l0) hlt,List.map_append];rfl) | exact .nilrow _ _ _ _ _ (by rw [take_getD (d:=l0) hlt,List.map_append];rfl) | exact .truncrow _ _ _ _ _ _ _ _ rfl (by omega) (by rw [take_getD (d:=l0) hlt,List.map_append];rfl))⟩,trivial⟩))
         have hd:=of_decide_eq_false hd
         obtain rfl:k=x.lets.length:=by omega
         conv=>whnf
         have hcov:=hx.cov
         rw [List.take_length]
         refine loop_up (cxOk _ _) x.cov.length (fun _=>True) (fun k=>⟨[(1,.ptr 0 0),(2,.bool false),(6,.own 1),(7,.own 2),(134,.sl 7 encC c0 x.cov),(135,.int .i64 (x.cov.length:Nat)),(136,.int .i64 (k:Nat))],[(0,.cells 31 (celX x)),(1,.row 9 1 encS [] (x.lets.map LetE.name)),(2,.row 9 1 encS [] ((x.cov.take k).map Cov.name))],3⟩) trivial ((wk_of [(0,.id 0),(1,.id 1),(2,.nil)] rfl ⟨wc0,wa0,af0,af0,wa0,wa0,wa0,trivial⟩ ⟨wb0,⟨_,rfl,ah0⟩,⟨_,rfl,ah0⟩,trivial⟩)) ?_
         intro k hk _
         conv=>whnf
         refine ⟨fun hd=>?_,fun hd=>?_⟩
         ·have hd:=of_decide_eq_true hd
          have hlt:k<x.cov.length:=by omega
          have hek:(k:Int).toNat=k:=Int.toNat_natCast k
          conv=>whnf
          refine iO ?_;conv=>whnf
          refine And.intro rfl ?_;conv=>whnf
          refine And.intro rfl ?_;conv=>whnf
          rw [hek]
          conv=>whnf
          refine And.intro ⟨rfl,rfl⟩ (And.intro (by show ((List.map Cov.name (List.take k x.cov)).length+1)*16≤140737488355328;rw [List.length_map,List.length_take];omega) ?_)
          conv=>whnf
          refine Exists.intro _ (And.intro rfl ?_);conv=>whnf
          refine iO ?_;conv=>whnf
          refine up hlt trivial ((wk_of [(0,.id 0),(1,.id 1),(2,.id 5)] rfl ⟨wc0,wa0,af0,af0,wa0,wa0,wa0,trivial⟩ ⟨wb0,⟨_,rfl,ah0⟩,⟨_,rfl,(by first | exact .row _ _ _ _ _ _ _ rfl (by rw [take_getD (d:=c0) hlt,List.map_append];rfl) | exact .lstrow _ _ _ _ _ _ _ rfl (by rw [take_getD (d:=c0) hlt,List.map_append];rfl) | exact .nilrow _ _ _ _ _ (by rw [take_getD (d:=c0) hlt,List.map_append];rfl) | exact .truncrow _ _ _ _ _ _ _ _ rfl (by omega) (by rw [take_getD (d:=c0) hlt,List.map_append];rfl))⟩,trivial⟩))
         have hd:=of_decide_eq_false hd
         obtain rfl:k=x.cov.length:=by omega
         conv=>whnf
         rw [List.take_length]
         have u1:=uniq_ok (x.lets.map LetE.name) 20 (by rw [List.length_map];omega) (by
          intro s hs
          obtain ⟨l,hl,rfl⟩:=List.mem_map.1 hs
          exact (hx.let1 l hl).1)
         have u2:=uniq_ok (x.cov.map Cov.name) 20 (by rw [List.length_map];omega) (by
          intro s hs
          obtain ⟨l,hl,rfl⟩:=List.mem_map.1 hs
          exact (hx.cov1 l hl).1)
         have re:=rightexp_ok x.coupon hx.coupon
         have a1:=anyL_ok x.lets 75 (fun l=>!letR l) (fun l hl=>letr_ok l (hx.let1 l hl).2) (by omega)
         have a2:=anyC_ok x.cov 77 (fun l=>!covR l) (fun l hl=>covr_ok l (hx.cov1 l hl).2.1) (by omega)
         have a3:=anyK_ok x.calls 79 (fun l=>!callR l) (fun l _=>callr_ok l) hx.calls
         refine cO (fun _=>u1) ?_
         conv=>whnf
         refine cO (fun _=>u2) ?_
         conv=>whnf
         refine cO (fun _=>re) ?_
         conv=>whnf
         refine ⟨fun hr=>?_,fun hr=>?_⟩
         ·have hR:restB x=false:=by
           simp only [Bool.or_eq_true,Bool.not_eq_true'] at hr
           unfold restB
           rcases hr with (hr | hr) | hr<;>rw [hr]<;>simp
          conv=>whnf
          rw [show rightI x=false by simp only [rightI,hR,Bool.and_false]]
          rfl
         ·have hR:rightI x=(!((x.lets.any fun l=>!letR l)||(x.cov.any fun l=>!covR l))&&!(x.calls.any fun l=>!callR l)):=by
           simp only [Bool.or_eq_false_iff,Bool.not_eq_false'] at hr
           simp only [rightI,restB,hB,hr.1.1,hr.1.2,hr.2,Bool.true_and,List.all_eq_not_any_not,Bool.not_or]
          rw [hR]
          conv=>whnf
          refine cO (fun _=>a1) ?_
          conv=>whnf
          refine cO (fun _=>a2) ?_
          conv=>whnf
          refine cO (fun _=>a3) ?_
          conv=>whnf
          rfl
open Go.Proofs Go.Shelf Go.RowKit
theorem Tryz.sizeB:(Tryz.prog.info? 76).map (·.size)=some 2:=by kernel_rfl
theorem Tryz.liesB:liesAt Tryz.prog Tryz.prog.depth 76 (2 / Tryz.prog.cellsOf 76) 0 76 1=true:=by kernel_rfl
theorem Tryz.mixedO:Tryz.prog.follows .mixedOrders=true:=by kernel_rfl
set_option maxHeartbeats 1000000 in
set_option maxRecDepth 100000 in
theorem Tryz.copy_used_calls (b:Nat) (w:World) (h0:w.cell? ⟨b,0,none⟩=some (.pointer (some ⟨b,0,none⟩))) :
  Calls Tryz.prog 80 #[.pointer (some ⟨b,0,none⟩)] w fun e w'=>e=.returned (.tuple #[])∧w'=w:=by
 obtain ⟨j,hj,_⟩:=Option.map_eq_some_iff.1 Tryz.sizeB
 have mixed:=Tryz.mixedO
 go_enter Tryz.func80,Tryz.ntmps80
 go_wp2
 rw [Lib.run_neq_ptr_same w _ Tryz.underlying73 hj]
 go_wp2
 go_end0
 exact ⟨rfl,rfl⟩
set_option maxHeartbeats 1000000 in
set_option maxRecDepth 100000 in
theorem Tryz.copy_fresh_calls (b:Nat) (w:World) (h0:w.cell? ⟨b,0,none⟩=some (.pointer none)) (hsh:w.shape? b=some (76,2)) (hfz:w.frozen? ⟨b,0,none⟩=false) :
  Calls Tryz.prog 80 #[.pointer (some ⟨b,0,none⟩)] w fun e w'=>e=.returned (.tuple #[])∧w'=w.setCell ⟨b,0,none⟩ (.pointer (some ⟨b,0,none⟩)):=by
 obtain ⟨j,hj,hjs⟩:=Option.map_eq_some_iff.1 Tryz.sizeB
 have mixed:=Tryz.mixedO
 go_enter Tryz.func80,Tryz.ntmps80
 go_wp2
 rw [Lib.run_to_unsafe w ⟨b,0,none⟩ Tryz.underlying73 Tryz.underlying159 hj (by rw [hjs];decide) hsh (Nat.zero_lt_succ 1)]
 simp only [Result.andThen]
 rw [Oper.upon_value]
 go_wp2
 rw [run_callFunc_extern Tryz.func128 (by kernel_rfl) (by kernel_rfl) (by kernel_rfl) (e:=Extern.AbiNoEscape.same) (by kernel_rfl)]
 rw [Lib.run_noEscape]
 simp only [Result.andThen]
 rw [Oper.upon_value]
 go_wp2
 rw [Lib.run_from_unsafe w ⟨b,0,none⟩ Tryz.underlying159 Tryz.underlying73 hj hsh Tryz.liesB]
 simp only [Result.andThen]
 rw [Oper.upon_value]
 go_wp2
 go_end0
 exact ⟨rfl,rfl⟩
theorem fnOk80:FnOk Tryz.prog 80:=⟨_,Tryz.func80,rfl,by decide⟩
theorem write_first (s:List UInt8) (hs:s.length≤140737488355328) :
  RIO Tryz.prog 38 [.ptr 0 0,.str s] [.cells 76 [.nilp,.nils]] 1 (fun vs bs es=>vs=[.int .i64 s.length,.ifc true]∧bs=[.cells 76 [.ptr 0 0,.own 1]]∧es=[.lst 5 1 (strAVs s)]):=by
 refine rO (cxPOk 1 19 [0,1,4,5]) Tryz.func38 ?_
 conv=>whnf
 refine .raw _ _ rfl (fun h=>by cases h) (copy_fresh (e:=76) (x:=.nils) Tryz.copy_fresh_calls fnOk80 rfl) ?_
 rintro r rfl
 refine ⟨Nat.le_refl _,?_⟩
 conv=>whnf
 refine ⟨hs,?_⟩
 conv=>whnf
 refine ⟨_,Wk.refl _,rfl,rfl,?_⟩
 conv=>whnf
 exact ⟨rfl,rfl,rfl,rfl⟩
theorem write_more (b s:List UInt8) (hs:b.length+s.length≤140737488355328) :
  RIO Tryz.prog 38 [.ptr 0 0,.str s] [.cells 76 [.ptr 0 0,.own 1],.lst 5 1 (strAVs b)] 1 (fun vs bs es=>vs=[.int .i64 s.length,.ifc true]∧bs=[.cells 76 [.ptr 0 0,.own 1]]∧es=[.lst 5 1 (strAVs (b++s))]):=by
 refine rO (cxPOk 1 19 [0,1,4,5]) Tryz.func38 ?_
 conv=>whnf
 refine .raw _ _ rfl (fun h=>by cases h) (copy_used (e:=76) (x:=.own 1) Tryz.copy_used_calls fnOk80 rfl) ?_
 rintro r rfl
 refine ⟨Nat.le_refl _,?_⟩
 conv=>whnf
 refine ⟨⟨rfl,rfl⟩,by rw [strAVs_len];exact hs,?_⟩
 conv=>whnf
 refine ⟨⟨[(4,.int .i64 s.length),(5,.ifc true)],[(0,.cells 76 [.ptr 0 0,.own 1]),(1,.lst 5 1 (strAVs (b++s)))],2⟩,(wk_of [(0,.id 0),(1,.id 2)] rfl ⟨wa0,wa0,trivial⟩ ⟨wb0,⟨_,rfl,.lst _ _ _ _ _ rfl ((strAVs_append b s).symm)⟩,trivial⟩),rfl,rfl,?_⟩
 conv=>whnf
 exact ⟨rfl,rfl,rfl,rfl⟩
theorem string_of (b:List UInt8) (hb:b≠[]):RIO Tryz.prog 46 [.ptr 0 0] [.cells 76 [.ptr 0 0,.own 1],.lst 5 1 (strAVs b)] 0 (fun vs bs es=>vs=[.str b]∧bs=[]∧es=[]):=by
 have hb1:0<(strAVs b).length:=by rw [strAVs_len];exact List.length_pos_iff.2 hb
 refine rO (cxPOk 0 14 [0,2]) Tryz.func46 ?_
 conv=>whnf
 refine .eff ag0 ?_
 conv=>whnf
 refine ⟨hb1,?_⟩
 conv=>whnf
 refine ⟨⟨rfl,rfl⟩,hb1,rfl,b,rfl,?_⟩
 conv=>whnf
 refine ⟨by kernel_rfl,?_⟩
 conv=>whnf
 refine ⟨⟨[(2,.str b)],[],0⟩,(wk_of [] rfl ⟨wa0,trivial⟩ trivial),rfl,rfl,?_⟩
 conv=>whnf
 exact ⟨rfl,rfl,rfl,rfl⟩
def lineT (ws:List (List UInt8)):List UInt8:=Lib.join ws [32]++[32,59,10]
abbrev strL (ws:List (List UInt8)):List AV:=ws.map fun s=>AV.str s
theorem line_first (ws:List (List UInt8)) (hN:ws.length≤140737488355328) (hlen:(Lib.join ws [32]).length≤100000000000000) :
  RIO Tryz.prog 37 [.own 1,.ptr 0 0] [.cells 76 [.nilp,.nils],.lst 9 1 (strL ws)] 1
   (fun vs bs es=>vs=[]∧bs=[.cells 76 [.ptr 0 0,.own 1]]∧es=[.lst 5 1 (strAVs (lineT ws))]):=by
 have hj:=join_c ws [32] hN (by omega)
 unfold lineT
 generalize Lib.join ws [32]=J at *
 refine rO (cxPOk 1 7 [0,1]) Tryz.func37 ?_
 conv=>whnf
 refine cO (fun _=>hj) ?_
 conv=>whnf
 refine And.intro aa0 ?_
 conv=>whnf
 refine .raw _ _ rfl (fun h=>by cases h) (rio_at (write_first (J++[32,59,10]) (by simp;omega)) [0] rfl rfl rfl ac0) ?_
 rintro _ ⟨_,_,_,⟨rfl,rfl,rfl⟩,-,rfl⟩
 refine ⟨Nat.le_add_right _ _,?_⟩
 conv=>whnf
 refine ⟨⟨[(1,.ptr 0 0)],[(0,.cells 76 [.ptr 0 0,.own 1]),(1,.lst 5 1 (strAVs (J++[32,59,10])))],2⟩,(wk_of [(0,.id 0),(1,.id 2)] rfl ⟨wc0,trivial⟩ ⟨wb0,wf0,trivial⟩),rfl,rfl,?_⟩
 conv=>whnf
 exact ⟨rfl,rfl,rfl,rfl⟩
theorem line_more (b:List UInt8) (ws:List (List UInt8)) (hN:ws.length≤140737488355328) (hlen:b.length+(Lib.join ws [32]).length≤100000000000000) :
  RIO Tryz.prog 37 [.own 2,.ptr 0 0] [.cells 76 [.ptr 0 0,.own 1],.lst 5 1 (strAVs b),.lst 9 1 (strL ws)] 1
   (fun vs bs es=>vs=[]∧bs=[.cells 76 [.ptr 0 0,.own 1]]∧es=[.lst 5 1 (strAVs (b++lineT ws))]):=by
 have hj:=join_c ws [32] hN (by omega)
 unfold lineT
 generalize Lib.join ws [32]=J at *
 refine rO (cxPOk 1 7 [0,1]) Tryz.func37 ?_
 conv=>whnf
 refine cO (fun _=>hj) ?_
 conv=>whnf
 refine And.intro aa0 ?_
 conv=>whnf
 refine .raw _ _ rfl (fun h=>by cases h) (rio_at (write_more b (J++[32,59,10]) (by simp;omega)) [0,1] rfl rfl rfl ac0) ?_
 rintro _ ⟨_,_,_,⟨rfl,rfl,rfl⟩,-,rfl⟩
 refine ⟨Nat.le_add_right _ _,?_⟩
 conv=>whnf
 refine ⟨⟨[(1,.ptr 0 0)],[(0,.cells 76 [.ptr 0 0,.own 1]),(1,.lst 5 1 (strAVs (b++(J++[32,59,10]))))],2⟩,(wk_of [(0,.id 0),(1,.id 3)] rfl ⟨wc0,trivial⟩ ⟨wb0,wf0,trivial⟩),rfl,rfl,?_⟩
 conv=>whnf
 exact ⟨rfl,rfl,rfl,rfl⟩
theorem line_row (b:List UInt8) (ws:List (List UInt8)) (hN:ws.length≤140737488355328) (hlen:b.length+(Lib.join ws [32]).length≤100000000000000) :
  RIO Tryz.prog 37 [.own 2,.ptr 0 0] [.cells 76 [.ptr 0 0,.own 1],.lst 5 1 (strAVs b),.row 9 1 encS [] ws] 1
   (fun vs bs es=>vs=[]∧bs=[.cells 76 [.ptr 0 0,.own 1]]∧es=[.lst 5 1 (strAVs (b++lineT ws))]):=by
 have hj:APureV Tryz.prog 39 [.sl 1 encS [] ws,.str [32]] (.str (Lib.join ws [32])):=apure_args (join_c ws [32] hN (by omega)) (.cons LeT.sl_lsl (.cons (.refl _) .nil))
 unfold lineT
 generalize Lib.join ws [32]=J at *
 refine rO (cxPOk 1 7 [0,1]) Tryz.func37 ?_
 conv=>whnf
 refine cO (fun _=>hj) ?_
 conv=>whnf
 refine And.intro aa0 ?_
 conv=>whnf
 refine .raw _ _ rfl (fun h=>by cases h) (rio_at (write_more b (J++[32,59,10]) (by simp;omega)) [0,1] rfl rfl rfl ac0) ?_
 rintro _ ⟨_,_,_,⟨rfl,rfl,rfl⟩,-,rfl⟩
 refine ⟨Nat.le_add_right _ _,?_⟩
 conv=>whnf
 refine ⟨⟨[(1,.ptr 0 0)],[(0,.cells 76 [.ptr 0 0,.own 1]),(1,.lst 5 1 (strAVs (b++(J++[32,59,10]))))],2⟩,(wk_of [(0,.id 0),(1,.id 3)] rfl ⟨wc0,trivial⟩ ⟨wb0,wf0,trivial⟩),rfl,rfl,?_⟩
 conv=>whnf
 exact ⟨rfl,rfl,rfl,rfl⟩
def txt (L:List (List (List UInt8))):List UInt8:=(L.map lineT).flatten
theorem txt_snoc (L:List (List (List UInt8))) (w:List (List UInt8)):txt (L++[w])=txt L++lineT w:=by unfold txt;simp
def WsOk (ws:List (List UInt8)):Prop:=ws.length≤21∧∀ s∈ws,s.length≤1100000100
theorem join_len (M:Nat):∀ (ws:List (List UInt8)),(∀ s∈ws,s.length≤M)→(Lib.join ws [32]).length≤ws.length*(M+1):=by
 have tail:∀ (r:List (List UInt8)),(∀ s∈r,s.length≤M)→(Lib.joinTail [32] r).length≤r.length*(M+1):=by
  intro r
  induction r with
  | nil=>intro _;simp [Lib.joinTail]
  | cons x r ih =>
   intro h
   have h1:=ih fun s hs=>h s (List.mem_cons_of_mem _ hs)
   have h2:=h x List.mem_cons_self
   have e:Lib.joinTail [32] (x::r)=([32]++x)++Lib.joinTail [32] r:=by simp [Lib.joinTail]
   rw [e,List.length_append,List.length_append,show (x::r).length=r.length+1 from rfl,Nat.succ_mul,show ([32]:List UInt8).length=1 from rfl]
   omega
 intro ws
 cases ws with
 | nil=>intro _;simp [Lib.join_nil]
 | cons x r =>
  intro h
  have h1:=tail r fun s hs=>h s (List.mem_cons_of_mem _ hs)
  have h2:=h x List.mem_cons_self
  rw [Lib.join_cons,List.length_append,List.length_cons,Nat.succ_mul]
  omega
theorem WsOk.join {ws:List (List UInt8)} (h:WsOk ws):(Lib.join ws [32]).length≤23200000000:=by
 have h1:=join_len 1100000100 ws h.2
 have h2:ws.length*(1100000100+1)≤21*(1100000100+1):=Nat.mul_le_mul_right _ h.1
 omega
theorem WsOk.line {ws:List (List UInt8)} (h:WsOk ws):(lineT ws).length≤23200000003:=by
 have:=h.join
 unfold lineT
 rw [List.length_append]
 simp only [List.length_cons,List.length_nil]
 omega
structure LOk (n:Nat) (L:List (List (List UInt8))):Prop where
 len:L.length≤n
 all:∀ w∈L,WsOk w
theorem LOk.nil:LOk 0 []:=⟨Nat.le_refl _,fun w hw=>by cases hw⟩
theorem LOk.snoc {n:Nat} {L:List (List (List UInt8))} {w:List (List UInt8)} (h:LOk n L) (hw:WsOk w):LOk (n+1) (L++[w]) :=
 ⟨by rw [List.length_append];have:=h.len;simp only [List.length_cons,List.length_nil];omega,fun v hv=>by
  rcases List.mem_append.1 hv with hv | hv
  ·exact h.all v hv
  ·rcases List.mem_singleton.1 hv with rfl;exact hw⟩
theorem LOk.app {n m:Nat} {L M:List (List (List UInt8))} (h:LOk n L) (hM:LOk m M):LOk (n+m) (L++M) :=
 ⟨by rw [List.length_append];have:=h.len;have:=hM.len;omega,fun v hv=>by
  rcases List.mem_append.1 hv with hv | hv
  ·exact h.all v hv
  ·exact hM.all v hv⟩
theorem txt_len:∀ {n:Nat} {L:List (List (List UInt8))},LOk n L→(txt L).length≤n*23200000003:=by
 intro n L
 induction L generalizing n with
 | nil=>intro _;simp [txt]
 | cons w L ih =>
  intro h
  have hl:=h.len
  rw [List.length_cons] at hl
  obtain ⟨k,rfl⟩:∃ k,n=k+1:=⟨n-1,by omega⟩
  have h1:=ih (n:=k) ⟨by omega,fun v hv=>h.all v (List.mem_cons_of_mem _ hv)⟩
  have h2:=(h.all w List.mem_cons_self).line
  have e:txt (w::L)=lineT w++txt L:=by unfold txt;simp
  rw [e,List.length_append,Nat.succ_mul]
  omega
theorem line1_ok (w:List (List UInt8)) (hw:WsOk w):RIO Tryz.prog 37 [.own 1,.ptr 0 0] [.cells 76 [.nilp,.nils],.lst 9 1 (strL w)] 1
  (fun vs bs es=>vs=[]∧bs=[.cells 76 [.ptr 0 0,.own 1]]∧es=[.lst 5 1 (strAVs (txt [w]))]):=by
 have h:=line_first w (by have:=hw.1;omega) (by have:=hw.join;omega)
 have e:txt [w]=lineT w:=by unfold txt;simp
 rw [e]
 exact h
theorem line_ok {n:Nat} {L:List (List (List UInt8))} (hL:LOk n L) (hn:n≤120) (w:List (List UInt8)) (hw:WsOk w) :
  RIO Tryz.prog 37 [.own 2,.ptr 0 0] [.cells 76 [.ptr 0 0,.own 1],.lst 5 1 (strAVs (txt L)),.lst 9 1 (strL w)] 1
   (fun vs bs es=>vs=[]∧bs=[.cells 76 [.ptr 0 0,.own 1]]∧es=[.lst 5 1 (strAVs (txt (L++[w])))]):=by
 have hl:=txt_len hL
 have hl2:n*23200000003≤120*23200000003:=Nat.mul_le_mul_right _ hn
 have h:=line_more (txt L) w (by have:=hw.1;omega) (by have:=hw.join;omega)
 rw [txt_snoc]
 exact h
theorem lrow_ok {n:Nat} {L:List (List (List UInt8))} (hL:LOk n L) (hn:n≤120) (w:List (List UInt8)) (hw:WsOk w) :
  RIO Tryz.prog 37 [.own 2,.ptr 0 0] [.cells 76 [.ptr 0 0,.own 1],.lst 5 1 (strAVs (txt L)),.row 9 1 encS [] w] 1
   (fun vs bs es=>vs=[]∧bs=[.cells 76 [.ptr 0 0,.own 1]]∧es=[.lst 5 1 (strAVs (txt (L++[w])))]):=by
 have hl:=txt_len hL
 have hl2:n*23200000003≤120*23200000003:=Nat.mul_le_mul_right _ hn
 have h:=line_row (txt L) w (by have:=hw.1;omega) (by have:=hw.join;omega)
 rw [txt_snoc]
 exact h
def letW (l:LetE):List (List UInt8):=[[108,101,116],l.name,[61],showT 12 l.body 0]
def covW (c:Cov):List (List UInt8):=[[99,111,118,101,110,97,110,116],c.name,[109,117,115,116],showT 12 c.must 0,[103,114,97,99,101],Lib.itoa c.grace]
def callW (c:CallE):List (List UInt8):=[[99,97,108,108],dayT c.a,[97,116],Lib.itoa c.b]
def headW (x:Ind):List (List (List UInt8)):=[[[105,115,115,117,101],x.name,[111,102],x.issuer],[[102,97,99,101],Lib.itoa x.face],
 [[102,114,111,109],dayT x.frm,[116,111],dayT x.to,[101,118,101,114,121],Lib.itoa x.every,[109,111,110,116,104,115]],
 [[99,111,117,110,116],cntW.getD x.count.toNat []],[[97,100,106,117,115,116],adjW.getD x.adjust.toNat []],
 [[114,101,99,111,114,100],Lib.itoa x.record],[[114,97,110,107],Lib.itoa x.rank]]
def midW (x:Ind):List (List (List UInt8)):=[[[99,111,117,112,111,110],showT 12 x.coupon 0],[[99,97,112],Lib.itoa x.cap]]
def favW (x:Ind):List (List (List UInt8)):=if 0<x.favour.length then [[102,97,118,111,117,114]::x.favour] else []
def croW (x:Ind):List (List (List UInt8)):=if 0≤x.cross then [[[99,114,111,115,115],Lib.itoa x.cross]] else []
def notW (x:Ind):List (List (List UInt8)):=if 0<x.notice then [[[110,111,116,105,99,101],Lib.itoa x.notice]] else []
def sinW (x:Ind):List (List (List UInt8)):=if 0<x.sink then [[[115,105,110,107],Lib.itoa x.sink]] else []
def endW (x:Ind):List (List (List UInt8)):=[[[109,97,106,111,114,105,116,121],Lib.itoa x.majority],[[102,97,115,116],Lib.itoa x.fast]]
def linesW (x:Ind):List (List (List UInt8)):=headW x++x.lets.map letW++midW x++x.cov.map covW++favW x++croW x++x.calls.map callW++notW x++sinW x++endW x
def printI (x:Ind):List UInt8×Int:=if rightI x=true then fitsT (txt (linesW x)) else ([],1)
theorem inB_one {a b n:Int} (h:inB a b [n]=true):a≤n∧n≤b:=by
 unfold inB at h
 simpa using h
structure Rt (x:Ind):Prop where
 frm:0≤x.frm∧x.frm≤200000
 to:0≤x.to∧x.to≤200000
 before:x.frm<x.to
 face:1≤x.face∧x.face≤1000000000000000
 every:1≤x.every∧x.every≤120
 count:0≤x.count∧x.count≤2
 adjust:0≤x.adjust∧x.adjust≤3
 record:0≤x.record∧x.record≤100
 rank:0≤x.rank∧x.rank≤9
 cap:0≤x.cap∧x.cap≤10000
 cross:-1≤x.cross∧x.cross≤1000000000000000
 notice:0≤x.notice∧x.notice≤1000
 sink:0≤x.sink∧x.sink≤1000
 majority:1≤x.majority∧x.majority≤1000
 fast:1≤x.fast∧x.fast≤1000
 name:nameB x.name=true
 issuer:nameB x.issuer=true
 ncalls:x.calls.length≤20
 fav:uniqB x.favour 20=true
 ulets:uniqB (x.lets.map LetE.name) 20=true
 ucov:uniqB (x.cov.map Cov.name) 20=true
 coupon:rightE x.coupon=true
 lets:∀ l∈x.lets,rightE l.body=true
 cov:∀ c∈x.cov,rightE c.must=true∧0≤c.grace∧c.grace≤1000
 calls:∀ c∈x.calls,(0≤c.a∧c.a≤200000)∧0≤c.b∧c.b≤10000
theorem right_iff (x:Ind):rightI x=true↔Rt x:=by
 have one:∀ a b n:Int,inB a b [n]=true↔a≤n∧n≤b:=fun a b n=>by unfold inB;simp
 have two:∀ a b n m:Int,inB a b [n,m]=true↔(a≤n∧n≤b)∧a≤m∧m≤b:=fun a b n m=>by unfold inB;simp
 unfold rightI headB restB datesB oneB twoB letR covR callR
 simp only [Bool.and_eq_true,decide_eq_true_eq,one,two,List.all_eq_true]
 constructor
 ·rintro ⟨⟨⟨⟨⟨⟨⟨⟨⟨a1,a2⟩,a3⟩,⟨⟨⟨⟨⟨b1,b2⟩,b3⟩,b4⟩,b5⟩,b6⟩⟩,⟨⟨⟨c1,c2⟩,c3,c4⟩,c5,c6⟩⟩,d1⟩,d2⟩,d3⟩,d4⟩,⟨⟨⟨⟨e1,e2⟩,e3⟩,e4⟩,e5⟩,e6⟩
  exact ⟨a1,a2,a3,b1,b2,b3,b4,b5,b6,c1,c2,c3,c4,c5,c6,d1,d2,by omega,d4,e1,e2,e3,e4,e5,e6⟩
 ·rintro ⟨a1,a2,a3,b1,b2,b3,b4,b5,b6,c1,c2,c3,c4,c5,c6,d1,d2,d3,d4,e1,e2,e3,e4,e5,e6⟩
  exact ⟨⟨⟨⟨⟨⟨⟨⟨⟨a1,a2⟩,a3⟩,⟨⟨⟨⟨⟨b1,b2⟩,b3⟩,b4⟩,b5⟩,b6⟩⟩,⟨⟨⟨c1,c2⟩,c3,c4⟩,c5,c6⟩⟩,d1⟩,d2⟩,om0⟩,d4⟩,⟨⟨⟨⟨e1,e2⟩,e3⟩,e4⟩,e5⟩,e6⟩
theorem uniq_name {l:List (List UInt8)} {most:Int} (h:uniqB l most=true) {s:List UInt8} (hs:s∈l):nameB s=true:=by
 unfold uniqB at h
 simp only [Bool.and_eq_true,List.all_eq_true,List.mem_range] at h
 obtain ⟨k,hk,rfl⟩:=List.getElem_of_mem hs
 have:=h.1 k hk
 unfold uqB at this
 simp only [Bool.and_eq_true] at this
 have h1:=this.1
 rw [List.getD_eq_getElem?_getD,List.getElem?_eq_getElem hk] at h1
 exact h1
theorem uniq_len {l:List (List UInt8)} {most:Int} (h:uniqB l most=true):(l.length:Int)≤most:=by
 unfold uniqB at h
 simp only [Bool.and_eq_true,decide_eq_true_eq] at h
 exact h.2
theorem itoa_len21 {n:Int} (h:in64 n):(Lib.itoa n).length≤1100000100:=by
 have:=Lib.itoa_length_le n h.1 h.2
 omega
theorem show12_len (e:Exp) (h:rightE e=true) (hok:OkE e):(showT 12 e 0).length≤1100000100:=by
 have h1:=show_len 12 e 0 h hok
 have h3:lenB 12=1073741824:=by decide
 omega
theorem wsOk_of {ws:List (List UInt8)} (h:ws.length≤21) (h2:∀ s∈ws,s.length≤1100000100):WsOk ws:=⟨h,h2⟩
theorem ws2 {a b:List UInt8} (ha:a.length≤1100000100) (hb:b.length≤1100000100):WsOk [a,b]:=wsOk_of (by simp) (by simp;omega)
theorem ws4 {a b c d:List UInt8} (ha:a.length≤1100000100) (hb:b.length≤1100000100) (hc:c.length≤1100000100) (hd:d.length≤1100000100):WsOk [a,b,c,d]:=wsOk_of (by simp) (by simp;omega)
theorem cnt_len (i:Nat):(cntW.getD i []).length≤20:=by
 match i with
 | 0 | 1 | 2=>decide
 | n+3=>simp [cntW]
theorem adj_len (i:Nat):(adjW.getD i []).length≤20:=by
 match i with
 | 0 | 1 | 2 | 3=>decide
 | n+4=>simp [adjW]
theorem int_len {n:Int} (h1:-1≤n) (h2:n≤1000000000000000):(Lib.itoa n).length≤1100000100:=itoa_len21 ⟨by omega,by omega⟩
theorem nam_len {s:List UInt8} (h:nameB s=true):s.length≤1100000100:=by have:=name_len h;omega
theorem day_len {n:Int} (h:0≤n∧n≤200000):(dayT n).length≤1100000100:=by have:=dayT_len h.1 h.2;omega
theorem letW_ok {l:LetE} (hn:nameB l.name=true) (hr:rightE l.body=true) (hok:OkE l.body):WsOk (letW l) :=
 ws4 (by simp) (nam_len hn) (by simp) (show12_len _ hr hok)
theorem covW_ok {c:Cov} (hn:nameB c.name=true) (hr:rightE c.must=true) (hok:OkE c.must) (h1:0≤c.grace) (h2:c.grace≤1000):WsOk (covW c):=by
 have a1:=nam_len hn
 have a2:=show12_len _ hr hok
 have a3:=int_len (n:=c.grace) (by omega) (by omega)
 refine wsOk_of (by simp [covW]) ?_
 unfold covW
 simp
 omega
theorem callW_ok {c:CallE} (h:(0≤c.a∧c.a≤200000)∧0≤c.b∧c.b≤10000):WsOk (callW c) :=
 ws4 (by simp) (day_len h.1) (by simp) (int_len (by omega) (by omega))
theorem favW_ok {l:List (List UInt8)} (h:uniqB l 20=true):WsOk ([102,97,118,111,117,114]::l):=by
 have h1:=uniq_len h
 refine wsOk_of (by rw [List.length_cons];omega) fun s hs=>?_
 rcases List.mem_cons.1 hs with rfl | hs
 ·simp
 ·exact nam_len (uniq_name h hs)
theorem txt_ne {L:List (List (List UInt8))} (h:L≠[]):txt L≠[]:=by
 cases L with
 | nil=>exact (h rfl).elim
 | cons w L =>
  unfold txt lineT
  simp
theorem string_txt {n:Nat} {L:List (List (List UInt8))} (_:LOk n L) (h:L≠[]):RIO Tryz.prog 46 [.ptr 0 0] [.cells 76 [.ptr 0 0,.own 1],.lst 5 1 (strAVs (txt L))] 0 (fun vs bs es=>vs=[.str (txt L)]∧bs=[]∧es=[]):=string_of (txt L) (txt_ne h)
theorem fits_txt {n:Nat} {L:List (List (List UInt8))} (hL:LOk n L) (hn:n≤120):APure Tryz.prog 45 [.str (txt L)] (fun rs=>rs=[.val (.str (fitsT (txt L)).1),.val (.int .i64 (fitsT (txt L)).2)]):=by
 have hl:=txt_len hL
 have hl2:n*23200000003≤120*23200000003:=Nat.mul_le_mul_right _ hn
 exact fits_ok (txt L) om0
theorem print_ok (x:Ind) (hx:OkX x):APure Tryz.prog 18 [encX x] (fun rs=>rs=[.val (.str (printI x).1),.val (.int .i64 (printI x).2)]):=by
 have h:=rightfn_ok x hx
 unfold printI
 cases hr:rightI x with
 | false =>
  rw [hr] at h
  refine aO (cxOk 199 [0,1,2,3,4,5,6,8,10,12,15,75,76,77,78,104,105,106,107,126,135,144,145,146,147,163,173]) Tryz.func18 ?_
  conv=>whnf
  refine cO (fun _=>h) ?_
  conv=>whnf
  refine gT ?_
  conv=>whnf
  rfl
 | true =>
  rw [hr] at h
  rw [if_pos rfl]
  have R:=(right_iff x).1 hr
  have it:∀ (n:Int),-1≤n→n≤1000000000000000→APureV Tryz.prog 40 [.int .i64 n] (.str (Lib.itoa n)):=fun n h1 h2=>itoa_c n (by omega) (by omega)
  have r1:=R.frm
  have r2:=R.to
  have r3:=R.face
  have r4:=R.every
  have r5:=R.count
  have r6:=R.adjust
  have r7:=R.record
  have r8:=R.rank
  have r9:=R.cap
  have r10:=R.cross
  have r11:=R.notice
  have r12:=R.sink
  have r13:=R.majority
  have r14:=R.fast
  have ll:=uniq_len R.ulets
  have lc:=uniq_len R.ucov
  have lf:=uniq_len R.fav
  have lk:=R.ncalls
  rw [List.length_map] at ll lc
  have d1:=day_ok x.frm r1.1 r1.2
  have d2:=day_ok x.to r2.1 r2.2
  have w1:WsOk [[105,115,115,117,101],x.name,[111,102],x.issuer]:=ws4 (by simp) (nam_len R.name) (by simp) (nam_len R.issuer)
  have w2:WsOk [[102,97,99,101],Lib.itoa x.face]:=ws2 (by simp) (int_len (by omega) (by omega))
  have w3:WsOk [[102,114,111,109],dayT x.frm,[116,111],dayT x.to,[101,118,101,114,121],Lib.itoa x.every,[109,111,110,116,104,115]]:=by
   have a1:=day_len r1
   have a2:=day_len r2
   have a3:=int_len (n:=x.every) (by omega) (by omega)
   refine wsOk_of (by simp) ?_
   simp
   omega
  have w4:WsOk [[99,111,117,110,116],cntW.getD x.count.toNat []]:=ws2 (by simp) (by have:=cnt_len x.count.toNat;omega)
  have w5:WsOk [[97,100,106,117,115,116],adjW.getD x.adjust.toNat []]:=ws2 (by simp) (by have:=adj_len x.adjust.toNat;omega)
  have w6:WsOk [[114,101,99,111,114,100],Lib.itoa x.record]:=ws2 (by simp) (int_len (by omega) (by omega))
  have w7:WsOk [[114,97,110,107],Lib.itoa x.rank]:=ws2 (by simp) (int_len (by omega) (by omega))
  have w8:WsOk [[99,111,117,112,111,110],showT 12 x.coupon 0]:=ws2 (by simp) (show12_len _ R.coupon hx.coupon)
  have w9:WsOk [[99,97,112],Lib.itoa x.cap]:=ws2 (by simp) (int_len (by omega) (by omega))
  have w10:=favW_ok R.fav
  have w11:WsOk [[99,114,111,115,115],Lib.itoa x.cross]:=ws2 (by simp) (int_len (by omega) (by omega))
  have w12:WsOk [[110,111,116,105,99,101],Lib.itoa x.notice]:=ws2 (by simp) (int_len (by omega) (by omega))
  have w13:WsOk [[115,105,110,107],Lib.itoa x.sink]:=ws2 (by simp) (int_len (by omega) (by omega))
  have w14:WsOk [[109,97,106,111,114,105,116,121],Lib.itoa x.majority]:=ws2 (by simp) (int_len (by omega) (by omega))
  have w15:WsOk [[102,97,115,116],Lib.itoa x.fast]:=ws2 (by simp) (int_len (by omega) (by omega))
  have hcou:=show_ok 12 x.coupon 0 (by decide) R.coupon hx.coupon
  refine aO (cxOk 199 [0,1,2,3,4,5,6,8,10,12,15,75,76,77,78,104,105,106,107,126,135,144,145,146,147,163,173]) Tryz.func18 ?_
  conv=>whnf
  refine cO (fun _=>h) ?_
  conv=>whnf
  refine gF ?_
  conv=>whnf
  refine cR (line1_ok _ w1) [1,2] ?_
  conv=>whnf
  have L1:=LOk.snoc LOk.nil w1
  refine cO (fun _=>it x.face om0 om0) ?_
  conv=>whnf
  refine cR (line_ok L1 om0 _ w2) [1,3,4] ?_
  conv=>whnf
  have L2:=LOk.snoc L1 w2
  refine .eff ag0 ?_
  conv=>whnf
  refine cO (fun _=>d1) ?_
  conv=>whnf
  refine cO (fun _=>d2) ?_
  conv=>whnf
  refine cO (fun _=>it x.every om0 om0) ?_
  conv=>whnf
  refine cR (line_ok L2 om0 _ w3) [1,5,6] ?_
  conv=>whnf
  have L3:=LOk.snoc L2 w3
  refine ⟨by kernel_rfl,?_⟩
  conv=>whnf
  have e3:cntW.length=3:=rfl
  have e4:adjW.length=4:=rfl
  refine .eff ag0 ?_
  conv=>whnf
  refine cO (fun _=>cnt_ok) ?_
  conv=>whnf
  refine iO ?_;conv=>whnf
  refine And.intro rfl ?_;conv=>whnf
  refine cR (line_ok L3 om0 _ w4) [1,7,8] ?_
  conv=>whnf
  have L4:=LOk.snoc L3 w4
  refine ⟨by kernel_rfl,?_⟩
  conv=>whnf
  refine .eff ag0 ?_
  conv=>whnf
  refine cO (fun _=>adj_ok) ?_
  conv=>whnf
  refine iO ?_;conv=>whnf
  refine And.intro rfl ?_;conv=>whnf
  refine cR (line_ok L4 om0 _ w5) [1,9,10] ?_
  conv=>whnf
  have L5:=LOk.snoc L4 w5
  refine ⟨by kernel_rfl,?_⟩
  conv=>whnf
  refine cO (fun _=>it x.record om0 om0) ?_
  conv=>whnf
  refine cR (line_ok L5 om0 _ w6) [1,11,12] ?_
  conv=>whnf
  have L6:=LOk.snoc L5 w6
  refine cO (fun _=>it x.rank om0 om0) ?_
  conv=>whnf
  refine cR (line_ok L6 om0 _ w7) [1,13,14] ?_
  conv=>whnf
  have L7:=LOk.snoc L6 w7
  have eH:[]++[[[105,115,115,117,101],x.name,[111,102],x.issuer]]=[[[105,115,115,117,101],x.name,[111,102],x.issuer]]:=rfl
  have LH:LOk 7 (headW x):=L7
  have Llet:∀ k,LOk 20 ((x.lets.take k).map letW):=fun k=>⟨by rw [List.length_map,List.length_take];omega,fun w hw=>by
   obtain ⟨l,hl,rfl⟩:=List.mem_map.1 hw
   have hm:=List.mem_of_mem_take hl
   exact letW_ok (uniq_name R.ulets (List.mem_map_of_mem hm)) (R.lets l hm) (hx.let1 l hm).2⟩
  refine loop_up (cxOk _ _) x.lets.length (fun _=>True) (fun k=>⟨[(1,.ptr 0 0),(2,.str []),(3,.int .i64 0),(4,.ptr 1 0),(5,.fn (.func 37) [] [.ptr 1 0]),(6,.fn (.func 40) [] []),(75,.sl 6 encL l0 x.lets),(76,.int .i64 (x.lets.length:Nat)),(77,.int .i64 (k:Nat))],[(0,.cells 31 (celX x)),(1,.cells 76 [.ptr 1 0,.own 2]),(2,.lst 5 1 (strAVs (txt (headW x++(x.lets.take k).map letW))))],3⟩) trivial ((wk_of [(0,.id 0),(1,.id 1),(2,.id 15)] rfl ⟨wc0,wa0,wa0,wc0,.fn _ _ _ _ _ ae0 ae0,.fn _ _ _ _ _ ae0 ae0,wa0,wa0,wa0,trivial⟩ ⟨wb0,wb0,⟨_,rfl,.lst _ _ _ _ _ rfl (rfl)⟩,trivial⟩)) ?_
  intro k hk _
  conv=>whnf
  refine ⟨fun hd=>?_,fun hd=>?_⟩
  ·have hd:=of_decide_eq_true hd
   have hlt:k<x.lets.length:=by omega
   have hek:(k:Int).toNat=k:=Int.toNat_natCast k
   have hm:x.lets.getD k l0∈x.lets:=getD_mem hlt
   have hsh:=show_ok 12 (x.lets.getD k l0).body 0 (by decide) (R.lets _ hm) (hx.let1 _ hm).2
   have hw:=letW_ok (uniq_name R.ulets (List.mem_map_of_mem hm)) (R.lets _ hm) (hx.let1 _ hm).2
   conv=>whnf
   refine iO ?_;conv=>whnf
   refine And.intro rfl ?_;conv=>whnf
   rw [hek]
   conv=>whnf
   refine .eff ag0 ?_
   conv=>whnf
   refine cO (fun _=>hsh) ?_
   conv=>whnf
   refine cR (line_ok (LH.app (Llet k)) om0 _ hw) [1,2,4] ?_
   conv=>whnf
   refine ⟨by kernel_rfl,?_⟩
   conv=>whnf
   refine iO ?_;conv=>whnf
   refine up hlt trivial ((wk_of [(0,.id 0),(1,.id 1),(2,.id 5)] rfl ⟨wc0,wa0,wa0,wc0,.fn _ _ _ _ _ ae0 ae0,.fn _ _ _ _ _ ae0 ae0,wa0,wa0,wa0,trivial⟩ ⟨wb0,wb0,⟨_,rfl,.lst _ _ _ _ _ rfl (by rw [take_getD (d:=l0) hlt,List.map_append,← List.append_assoc];rfl)⟩,trivial⟩))
  have hd:=of_decide_eq_false hd
  obtain rfl:k=x.lets.length:=by omega
  conv=>whnf
  rw [List.take_length]
  have LA:LOk 27 (headW x++x.lets.map letW):=by have:=LH.app (Llet x.lets.length);rw [List.take_length] at this;exact this
  have L100:=LA
  refine cO (fun _=>hcou) ?_
  conv=>whnf
  refine cR (line_ok L100 om0 _ w8) [1,2,3] ?_
  conv=>whnf
  have L101:=LOk.snoc L100 w8
  refine cO (fun _=>it x.cap om0 om0) ?_
  conv=>whnf
  refine cR (line_ok L101 om0 _ w9) [1,4,5] ?_
  conv=>whnf
  have L102:=LOk.snoc L101 w9
  have Lcov:∀ k,LOk 20 ((x.cov.take k).map covW):=fun k=>⟨by rw [List.length_map,List.length_take];omega,fun w hw=>by
   obtain ⟨l,hl,rfl⟩:=List.mem_map.1 hw
   have hm:=List.mem_of_mem_take hl
   exact covW_ok (uniq_name R.ucov (List.mem_map_of_mem hm)) (R.cov l hm).1 (hx.cov1 l hm).2.1 (R.cov l hm).2.1 (R.cov l hm).2.2⟩
  have LB:LOk 29 (headW x++x.lets.map letW++midW x):=by have h:=L102;rw [List.append_assoc] at h;exact h
  refine loop_up (cxOk _ _) x.cov.length (fun _=>True) (fun k=>⟨[(1,.ptr 0 0),(2,.str []),(3,.int .i64 0),(4,.ptr 1 0),(5,.fn (.func 37) [] [.ptr 1 0]),(6,.fn (.func 40) [] []),(104,.sl 7 encC c0 x.cov),(105,.int .i64 (x.cov.length:Nat)),(106,.int .i64 (k:Nat))],[(0,.cells 31 (celX x)),(1,.cells 76 [.ptr 1 0,.own 2]),(2,.lst 5 1 (strAVs (txt (headW x++x.lets.map letW++midW x++(x.cov.take k).map covW))))],3⟩) trivial ((wk_of [(0,.id 0),(1,.id 1),(2,.id 6)] rfl ⟨wc0,wa0,wa0,wc0,.fn _ _ _ _ _ ae0 ae0,.fn _ _ _ _ _ ae0 ae0,wa0,wa0,wa0,trivial⟩ ⟨wb0,wb0,⟨_,rfl,.lst _ _ _ _ _ rfl (by rw [List.append_assoc (headW x++x.lets.map letW)];rw [List.take_zero,List.map_nil,List.append_nil];rfl)⟩,trivial⟩)) ?_
  intro k hk _
  conv=>whnf
  refine ⟨fun hd=>?_,fun hd=>?_⟩
  ·have hd:=of_decide_eq_true hd
   have hlt:k<x.cov.length:=by omega
   have hek:(k:Int).toNat=k:=Int.toNat_natCast k
   have hm:x.cov.getD k c0∈x.cov:=getD_mem hlt
   have hsh:=show_ok 12 (x.cov.getD k c0).must 0 (by decide) (R.cov _ hm).1 (hx.cov1 _ hm).2.1
   have hg:=(R.cov _ hm).2
   have hw:=covW_ok (uniq_name R.ucov (List.mem_map_of_mem hm)) (R.cov _ hm).1 (hx.cov1 _ hm).2.1 hg.1 hg.2
   conv=>whnf
   refine iO ?_;conv=>whnf
   refine And.intro rfl ?_;conv=>whnf
   rw [hek]
   conv=>whnf
   refine .eff ag0 ?_
   conv=>whnf
   refine cO (fun _=>hsh) ?_
   conv=>whnf
   refine cO (fun _=>it (x.cov.getD k c0).grace om0 om0) ?_
   conv=>whnf
   refine cR (line_ok (LB.app (Lcov k)) om0 _ hw) [1,2,4] ?_
   conv=>whnf
   refine ⟨by kernel_rfl,?_⟩
   conv=>whnf
   refine iO ?_;conv=>whnf
   refine up hlt trivial ((wk_of [(0,.id 0),(1,.id 1),(2,.id 5)] rfl ⟨wc0,wa0,wa0,wc0,.fn _ _ _ _ _ ae0 ae0,.fn _ _ _ _ _ ae0 ae0,wa0,wa0,wa0,trivial⟩ ⟨wb0,wb0,⟨_,rfl,.lst _ _ _ _ _ rfl (by rw [take_getD (d:=c0) hlt,List.map_append,← List.append_assoc];rfl)⟩,trivial⟩))
  have hd:=of_decide_eq_false hd
  obtain rfl:k=x.cov.length:=by omega
  conv=>whnf
  rw [List.take_length]
  have LC:LOk 49 (headW x++x.lets.map letW++midW x++x.cov.map covW):=by have:=LB.app (Lcov x.cov.length);rw [List.take_length] at this;exact this
  have Lcal:∀ k,LOk 20 ((x.calls.take k).map callW):=fun k=>⟨by rw [List.length_map,List.length_take];omega,fun w hw=>by
   obtain ⟨c,hc,rfl⟩:=List.mem_map.1 hw
   exact callW_ok (R.calls c (List.mem_of_mem_take hc))⟩
  have fin:∀ {n:Nat} {L:List (List (List UInt8))},LOk n L→L=linesW x→[AR.val (.str (fitsT (txt L)).1),AR.val (.int .i64 (fitsT (txt L)).2)]=[AR.val (.str (fitsT (txt (linesW x))).1),AR.val (.int .i64 (fitsT (txt (linesW x))).2)]:=fun _ h=>by rw [h]
  refine ⟨fun hf=>?_,fun hf=>?_⟩
  ·have hf:=of_decide_eq_true hf
   have qf:favW x=[[102,97,118,111,117,114]::x.favour]:=by unfold favW;rw [if_pos (by omega)]
   conv=>whnf
   refine And.intro rfl ?_
   conv=>whnf
   refine And.intro ⟨rfl,rfl⟩ (And.intro (show (1+x.favour.length)*16≤140737488355328 by omega) ?_)
   conv=>whnf
   refine ⟨[[102,97,118,111,117,114]],rfl,?_⟩
   conv=>whnf
   refine cR (lrow_ok LC om0 _ w10) [1,2,4] ?_
   conv=>whnf
   have L103:=LOk.snoc LC w10
   refine ⟨fun hc=>?_,fun hc=>?_⟩
   ·have hc:=of_decide_eq_true hc
    have qc:croW x=[[[99,114,111,115,115],Lib.itoa x.cross]]:=by unfold croW;rw [if_pos (by omega)]
    conv=>whnf
    refine cO (fun _=>it x.cross om0 om0) ?_
    conv=>whnf
    refine cR (line_ok L103 om0 _ w11) [1,5,6] ?_
    conv=>whnf
    have LD:LOk 51 (headW x++x.lets.map letW++midW x++x.cov.map covW++favW x++croW x):=by
     have a:LOk 1 (favW x):=by rw [qf];first | exact LOk.snoc LOk.nil w10 | exact ⟨by simp,fun w hw=>by cases hw⟩
     have b:LOk 1 (croW x):=by rw [qc];first | exact LOk.snoc LOk.nil w11 | exact ⟨by simp,fun w hw=>by cases hw⟩
     exact (LC.app a).app b
    refine loop_up (cxOk _ _) x.calls.length (fun _=>True) (fun k=>⟨[(1,.ptr 0 0),(2,.str []),(3,.int .i64 0),(4,.ptr 1 0),(5,.fn (.func 37) [] [.ptr 1 0]),(6,.fn (.func 40) [] []),(144,.sl 2 encK k0 x.calls),(145,.int .i64 (x.calls.length:Nat)),(146,.int .i64 (k:Nat))],[(0,.cells 31 (celX x)),(1,.cells 76 [.ptr 1 0,.own 2]),(2,.lst 5 1 (strAVs (txt (headW x++x.lets.map letW++midW x++x.cov.map covW++favW x++croW x++(x.calls.take k).map callW))))],3⟩) trivial ((wk_of [(0,.id 0),(1,.id 1),(2,.id 7)] rfl ⟨wc0,wa0,wa0,wc0,.fn _ _ _ _ _ ae0 ae0,.fn _ _ _ _ _ ae0 ae0,wa0,wa0,wa0,trivial⟩ ⟨wb0,wb0,⟨_,rfl,.lst _ _ _ _ _ rfl (by rw [List.take_zero,List.map_nil,List.append_nil,qf,qc];try simp only [List.append_assoc,List.append_nil])⟩,trivial⟩)) ?_
    intro k hk _
    conv=>whnf
    refine ⟨fun hd=>?_,fun hd=>?_⟩
    ·have hd:=of_decide_eq_true hd
     have hlt:k<x.calls.length:=by omega
     have hek:(k:Int).toNat=k:=Int.toNat_natCast k
     have hm:x.calls.getD k k0∈x.calls:=getD_mem hlt
     have hcr:=R.calls _ hm
     have hw:=callW_ok hcr
     have hda:=day_ok _ hcr.1.1 hcr.1.2
     conv=>whnf
     refine iO ?_;conv=>whnf
     refine And.intro rfl ?_;conv=>whnf
     rw [hek]
     conv=>whnf
     refine .eff ag0 ?_
     conv=>whnf
     refine cO (fun _=>hda) ?_
     conv=>whnf
     refine cO (fun _=>it (x.calls.getD k k0).b om0 om0) ?_
     conv=>whnf
     refine cR (line_ok (LD.app (Lcal k)) om0 _ hw) [1,2,4] ?_
     conv=>whnf
     refine ⟨by kernel_rfl,?_⟩
     conv=>whnf
     refine iO ?_;conv=>whnf
     refine up hlt trivial ((wk_of [(0,.id 0),(1,.id 1),(2,.id 5)] rfl ⟨wc0,wa0,wa0,wc0,.fn _ _ _ _ _ ae0 ae0,.fn _ _ _ _ _ ae0 ae0,wa0,wa0,wa0,trivial⟩ ⟨wb0,wb0,⟨_,rfl,.lst _ _ _ _ _ rfl (by rw [take_getD (d:=k0) hlt,List.map_append,← List.append_assoc];rfl)⟩,trivial⟩))
    have hd:=of_decide_eq_false hd
    obtain rfl:k=x.calls.length:=by omega
    conv=>whnf
    rw [List.take_length]
    have LE:LOk 71 (headW x++x.lets.map letW++midW x++x.cov.map covW++favW x++croW x++x.calls.map callW):=by have:=LD.app (Lcal x.calls.length);rw [List.take_length] at this;exact this
    refine ⟨fun hn=>?_,fun hn=>?_⟩
    ·have hn:=of_decide_eq_true hn
     have qn:notW x=[[[110,111,116,105,99,101],Lib.itoa x.notice]]:=by unfold notW;rw [if_pos (by omega)]
     conv=>whnf
     refine cO (fun _=>it x.notice om0 om0) ?_
     conv=>whnf
     refine cR (line_ok LE om0 _ w12) [1,2,3] ?_
     conv=>whnf
     have L104:=LOk.snoc LE w12
     refine ⟨fun hs=>?_,fun hs=>?_⟩
     ·have hs:=of_decide_eq_true hs
      have qs:sinW x=[[[115,105,110,107],Lib.itoa x.sink]]:=by unfold sinW;rw [if_pos (by omega)]
      conv=>whnf
      refine cO (fun _=>it x.sink om0 om0) ?_
      conv=>whnf
      refine cR (line_ok L104 om0 _ w13) [1,4,5] ?_
      conv=>whnf
      have L105:=LOk.snoc L104 w13
      refine cO (fun _=>it x.majority om0 om0) ?_
      conv=>whnf
      refine cR (line_ok L105 om0 _ w14) [1,6,7] ?_
      conv=>whnf
      have L106:=LOk.snoc L105 w14
      refine cO (fun _=>it x.fast om0 om0) ?_
      conv=>whnf
      refine cR (line_ok L106 om0 _ w15) [1,8,9] ?_
      conv=>whnf
      have L107:=LOk.snoc L106 w15
      refine .raw _ _ rfl (fun h=>by cases h) (rio_at (string_txt L107 (by simp)) [1,10] rfl rfl rfl ac0) ?_
      rintro _ ⟨_,_,_,⟨rfl,rfl,rfl⟩,-,rfl⟩
      refine ⟨Nat.le_add_right _ _,?_⟩
      conv=>whnf
      refine cO (fun _=>fits_txt L107 om0) ?_
      conv=>whnf
      exact fin L107 (by simp only [linesW,endW,qn,qs,List.append_assoc,List.append_nil,List.cons_append,List.nil_append])
     ·have hs:=of_decide_eq_false hs
      have qs:sinW x=[]:=by unfold sinW;rw [if_neg (by omega)]
      conv=>whnf
      refine cO (fun _=>it x.majority om0 om0) ?_
      conv=>whnf
      refine cR (line_ok L104 om0 _ w14) [1,4,5] ?_
      conv=>whnf
      have L108:=LOk.snoc L104 w14
      refine cO (fun _=>it x.fast om0 om0) ?_
      conv=>whnf
      refine cR (line_ok L108 om0 _ w15) [1,6,7] ?_
      conv=>whnf
      have L109:=LOk.snoc L108 w15
      refine .raw _ _ rfl (fun h=>by cases h) (rio_at (string_txt L109 (by simp)) [1,8] rfl rfl rfl ac0) ?_
      rintro _ ⟨_,_,_,⟨rfl,rfl,rfl⟩,-,rfl⟩
      refine ⟨Nat.le_add_right _ _,?_⟩
      conv=>whnf
      refine cO (fun _=>fits_txt L109 om0) ?_
      conv=>whnf
      exact fin L109 (by simp only [linesW,endW,qn,qs,List.append_assoc,List.append_nil,List.cons_append,List.nil_append])
    ·have hn:=of_decide_eq_false hn
     have qn:notW x=[]:=by unfold notW;rw [if_neg (by omega)]
     conv=>whnf
     refine ⟨fun hs=>?_,fun hs=>?_⟩
     ·have hs:=of_decide_eq_true hs
      have qs:sinW x=[[[115,105,110,107],Lib.itoa x.sink]]:=by unfold sinW;rw [if_pos (by omega)]
      conv=>whnf
      refine cO (fun _=>it x.sink om0 om0) ?_
      conv=>whnf
      refine cR (line_ok LE om0 _ w13) [1,2,3] ?_
      conv=>whnf
      have L110:=LOk.snoc LE w13
      refine cO (fun _=>it x.majority om0 om0) ?_
      conv=>whnf
      refine cR (line_ok L110 om0 _ w14) [1,4,5] ?_
      conv=>whnf
      have L111:=LOk.snoc L110 w14
      refine cO (fun _=>it x.fast om0 om0) ?_
      conv=>whnf
      refine cR (line_ok L111 om0 _ w15) [1,6,7] ?_
      conv=>whnf
      have L112:=LOk.snoc L111 w15
      refine .raw _ _ rfl (fun h=>by cases h) (rio_at (string_txt L112 (by simp)) [1,8] rfl rfl rfl ac0) ?_
      rintro _ ⟨_,_,_,⟨rfl,rfl,rfl⟩,-,rfl⟩
      refine ⟨Nat.le_add_right _ _,?_⟩
      conv=>whnf
      refine cO (fun _=>fits_txt L112 om0) ?_
      conv=>whnf
      exact fin L112 (by simp only [linesW,endW,qn,qs,List.append_assoc,List.append_nil,List.cons_append,List.nil_append])
     ·have hs:=of_decide_eq_false hs
      have qs:sinW x=[]:=by unfold sinW;rw [if_neg (by omega)]
      conv=>whnf
      refine cO (fun _=>it x.majority om0 om0) ?_
      conv=>whnf
      refine cR (line_ok LE om0 _ w14) [1,2,3] ?_
      conv=>whnf
      have L113:=LOk.snoc LE w14
      refine cO (fun _=>it x.fast om0 om0) ?_
      conv=>whnf
      refine cR (line_ok L113 om0 _ w15) [1,4,5] ?_
      conv=>whnf
      have L114:=LOk.snoc L113 w15
      refine .raw _ _ rfl (fun h=>by cases h) (rio_at (string_txt L114 (by simp)) [1,6] rfl rfl rfl ac0) ?_
      rintro _ ⟨_,_,_,⟨rfl,rfl,rfl⟩,-,rfl⟩
      refine ⟨Nat.le_add_right _ _,?_⟩
      conv=>whnf
      refine cO (fun _=>fits_txt L114 om0) ?_
      conv=>whnf
      exact fin L114 (by simp only [linesW,endW,qn,qs,List.append_assoc,List.append_nil,List.cons_append,List.nil_append])
   ·have hc:=of_decide_eq_false hc
    have qc:croW x=[]:=by unfold croW;rw [if_neg (by omega)]
    conv=>whnf
    have LD:LOk 51 (headW x++x.lets.map letW++midW x++x.cov.map covW++favW x++croW x):=by
     have a:LOk 1 (favW x):=by rw [qf];first | exact LOk.snoc LOk.nil w10 | exact ⟨by simp,fun w hw=>by cases hw⟩
     have b:LOk 1 (croW x):=by rw [qc];first | exact LOk.snoc LOk.nil w11 | exact ⟨by simp,fun w hw=>by cases hw⟩
     exact (LC.app a).app b
    refine loop_up (cxOk _ _) x.calls.length (fun _=>True) (fun k=>⟨[(1,.ptr 0 0),(2,.str []),(3,.int .i64 0),(4,.ptr 1 0),(5,.fn (.func 37) [] [.ptr 1 0]),(6,.fn (.func 40) [] []),(144,.sl 2 encK k0 x.calls),(145,.int .i64 (x.calls.length:Nat)),(146,.int .i64 (k:Nat))],[(0,.cells 31 (celX x)),(1,.cells 76 [.ptr 1 0,.own 2]),(2,.lst 5 1 (strAVs (txt (headW x++x.lets.map letW++midW x++x.cov.map covW++favW x++croW x++(x.calls.take k).map callW))))],3⟩) trivial ((wk_of [(0,.id 0),(1,.id 1),(2,.id 5)] rfl ⟨wc0,wa0,wa0,wc0,.fn _ _ _ _ _ ae0 ae0,.fn _ _ _ _ _ ae0 ae0,wa0,wa0,wa0,trivial⟩ ⟨wb0,wb0,⟨_,rfl,.lst _ _ _ _ _ rfl (by rw [List.take_zero,List.map_nil,List.append_nil,qf,qc];try simp only [List.append_assoc,List.append_nil])⟩,trivial⟩)) ?_
    intro k hk _
    conv=>whnf
    refine ⟨fun hd=>?_,fun hd=>?_⟩
    ·have hd:=of_decide_eq_true hd
     have hlt:k<x.calls.length:=by omega
     have hek:(k:Int).toNat=k:=Int.toNat_natCast k
     have hm:x.calls.getD k k0∈x.calls:=getD_mem hlt
     have hcr:=R.calls _ hm
     have hw:=callW_ok hcr
     have hda:=day_ok _ hcr.1.1 hcr.1.2
     conv=>whnf
     refine iO ?_;conv=>whnf
     refine And.intro rfl ?_;conv=>whnf
     rw [hek]
     conv=>whnf
     refine .eff ag0 ?_
     conv=>whnf
     refine cO (fun _=>hda) ?_
     conv=>whnf
     refine cO (fun _=>it (x.calls.getD k k0).b om0 om0) ?_
     conv=>whnf
     refine cR (line_ok (LD.app (Lcal k)) om0 _ hw) [1,2,4] ?_
     conv=>whnf
     refine ⟨by kernel_rfl,?_⟩
     conv=>whnf
     refine iO ?_;conv=>whnf
     refine up hlt trivial ((wk_of [(0,.id 0),(1,.id 1),(2,.id 5)] rfl ⟨wc0,wa0,wa0,wc0,.fn _ _ _ _ _ ae0 ae0,.fn _ _ _ _ _ ae0 ae0,wa0,wa0,wa0,trivial⟩ ⟨wb0,wb0,⟨_,rfl,.lst _ _ _ _ _ rfl (by rw [take_getD (d:=k0) hlt,List.map_append,← List.append_assoc];rfl)⟩,trivial⟩))
    have hd:=of_decide_eq_false hd
    obtain rfl:k=x.calls.length:=by omega
    conv=>whnf
    rw [List.take_length]
    have LE:LOk 71 (headW x++x.lets.map letW++midW x++x.cov.map covW++favW x++croW x++x.calls.map callW):=by have:=LD.app (Lcal x.calls.length);rw [List.take_length] at this;exact this
    refine ⟨fun hn=>?_,fun hn=>?_⟩
    ·have hn:=of_decide_eq_true hn
     have qn:notW x=[[[110,111,116,105,99,101],Lib.itoa x.notice]]:=by unfold notW;rw [if_pos (by omega)]
     conv=>whnf
     refine cO (fun _=>it x.notice om0 om0) ?_
     conv=>whnf
     refine cR (line_ok LE om0 _ w12) [1,2,3] ?_
     conv=>whnf
     have L115:=LOk.snoc LE w12
     refine ⟨fun hs=>?_,fun hs=>?_⟩
     ·have hs:=of_decide_eq_true hs
      have qs:sinW x=[[[115,105,110,107],Lib.itoa x.sink]]:=by unfold sinW;rw [if_pos (by omega)]
      conv=>whnf
      refine cO (fun _=>it x.sink om0 om0) ?_
      conv=>whnf
      refine cR (line_ok L115 om0 _ w13) [1,4,5] ?_
      conv=>whnf
      have L116:=LOk.snoc L115 w13
      refine cO (fun _=>it x.majority om0 om0) ?_
      conv=>whnf
      refine cR (line_ok L116 om0 _ w14) [1,6,7] ?_
      conv=>whnf
      have L117:=LOk.snoc L116 w14
      refine cO (fun _=>it x.fast om0 om0) ?_
      conv=>whnf
      refine cR (line_ok L117 om0 _ w15) [1,8,9] ?_
      conv=>whnf
      have L118:=LOk.snoc L117 w15
      refine .raw _ _ rfl (fun h=>by cases h) (rio_at (string_txt L118 (by simp)) [1,10] rfl rfl rfl ac0) ?_
      rintro _ ⟨_,_,_,⟨rfl,rfl,rfl⟩,-,rfl⟩
      refine ⟨Nat.le_add_right _ _,?_⟩
      conv=>whnf
      refine cO (fun _=>fits_txt L118 om0) ?_
      conv=>whnf
      exact fin L118 (by simp only [linesW,endW,qn,qs,List.append_assoc,List.append_nil,List.cons_append,List.nil_append])
     ·have hs:=of_decide_eq_false hs
      have qs:sinW x=[]:=by unfold sinW;rw [if_neg (by omega)]
      conv=>whnf
      refine cO (fun _=>it x.majority om0 om0) ?_
      conv=>whnf
      refine cR (line_ok L115 om0 _ w14) [1,4,5] ?_
      conv=>whnf
      have L119:=LOk.snoc L115 w14
      refine cO (fun _=>it x.fast om0 om0) ?_
      conv=>whnf
      refine cR (line_ok L119 om0 _ w15) [1,6,7] ?_
      conv=>whnf
      have L120:=LOk.snoc L119 w15
      refine .raw _ _ rfl (fun h=>by cases h) (rio_at (string_txt L120 (by simp)) [1,8] rfl rfl rfl ac0) ?_
      rintro _ ⟨_,_,_,⟨rfl,rfl,rfl⟩,-,rfl⟩
      refine ⟨Nat.le_add_right _ _,?_⟩
      conv=>whnf
      refine cO (fun _=>fits_txt L120 om0) ?_
      conv=>whnf
      exact fin L120 (by simp only [linesW,endW,qn,qs,List.append_assoc,List.append_nil,List.cons_append,List.nil_append])
    ·have hn:=of_decide_eq_false hn
     have qn:notW x=[]:=by unfold notW;rw [if_neg (by omega)]
     conv=>whnf
     refine ⟨fun hs=>?_,fun hs=>?_⟩
     ·have hs:=of_decide_eq_true hs
      have qs:sinW x=[[[115,105,110,107],Lib.itoa x.sink]]:=by unfold sinW;rw [if_pos (by omega)]
      conv=>whnf
      refine cO (fun _=>it x.sink om0 om0) ?_
      conv=>whnf
      refine cR (line_ok LE om0 _ w13) [1,2,3] ?_
      conv=>whnf
      have L121:=LOk.snoc LE w13
      refine cO (fun _=>it x.majority om0 om0) ?_
      conv=>whnf
      refine cR (line_ok L121 om0 _ w14) [1,4,5] ?_
      conv=>whnf
      have L122:=LOk.snoc L121 w14
      refine cO (fun _=>it x.fast om0 om0) ?_
      conv=>whnf
      refine cR (line_ok L122 om0 _ w15) [1,6,7] ?_
      conv=>whnf
      have L123:=LOk.snoc L122 w15
      refine .raw _ _ rfl (fun h=>by cases h) (rio_at (string_txt L123 (by simp)) [1,8] rfl rfl rfl ac0) ?_
      rintro _ ⟨_,_,_,⟨rfl,rfl,rfl⟩,-,rfl⟩
      refine ⟨Nat.le_add_right _ _,?_⟩
      conv=>whnf
      refine cO (fun _=>fits_txt L123 om0) ?_
      conv=>whnf
      exact fin L123 (by simp only [linesW,endW,qn,qs,List.append_assoc,List.append_nil,List.cons_append,List.nil_append])
     ·have hs:=of_decide_eq_false hs
      have qs:sinW x=[]:=by unfold sinW;rw [if_neg (by omega)]
      conv=>whnf
      refine cO (fun _=>it x.majority om0 om0) ?_
      conv=>whnf
      refine cR (line_ok LE om0 _ w14) [1,2,3] ?_
      conv=>whnf
      have L124:=LOk.snoc LE w14
      refine cO (fun _=>it x.fast om0 om0) ?_
      conv=>whnf
      refine cR (line_ok L124 om0 _ w15) [1,4,5] ?_
      conv=>whnf
      have L125:=LOk.snoc L124 w15
      refine .raw _ _ rfl (fun h=>by cases h) (rio_at (string_txt L125 (by simp)) [1,6] rfl rfl rfl ac0) ?_
      rintro _ ⟨_,_,_,⟨rfl,rfl,rfl⟩,-,rfl⟩
      refine ⟨Nat.le_add_right _ _,?_⟩
      conv=>whnf
      refine cO (fun _=>fits_txt L125 om0) ?_
      conv=>whnf
      exact fin L125 (by simp only [linesW,endW,qn,qs,List.append_assoc,List.append_nil,List.cons_append,List.nil_append])
  ·have hf:=of_decide_eq_false hf
   have qf:favW x=[]:=by unfold favW;rw [if_neg (by omega)]
   conv=>whnf
   refine ⟨fun hc=>?_,fun hc=>?_⟩
   ·have hc:=of_decide_eq_true hc
    have qc:croW x=[[[99,114,111,115,115],Lib.itoa x.cross]]:=by unfold croW;rw [if_pos (by omega)]
    conv=>whnf
    refine cO (fun _=>it x.cross om0 om0) ?_
    conv=>whnf
    refine cR (line_ok LC om0 _ w11) [1,2,3] ?_
    conv=>whnf
    have LD:LOk 51 (headW x++x.lets.map letW++midW x++x.cov.map covW++favW x++croW x):=by
     have a:LOk 1 (favW x):=by rw [qf];first | exact LOk.snoc LOk.nil w10 | exact ⟨by simp,fun w hw=>by cases hw⟩
     have b:LOk 1 (croW x):=by rw [qc];first | exact LOk.snoc LOk.nil w11 | exact ⟨by simp,fun w hw=>by cases hw⟩
     exact (LC.app a).app b
    refine loop_up (cxOk _ _) x.calls.length (fun _=>True) (fun k=>⟨[(1,.ptr 0 0),(2,.str []),(3,.int .i64 0),(4,.ptr 1 0),(5,.fn (.func 37) [] [.ptr 1 0]),(6,.fn (.func 40) [] []),(144,.sl 2 encK k0 x.calls),(145,.int .i64 (x.calls.length:Nat)),(146,.int .i64 (k:Nat))],[(0,.cells 31 (celX x)),(1,.cells 76 [.ptr 1 0,.own 2]),(2,.lst 5 1 (strAVs (txt (headW x++x.lets.map letW++midW x++x.cov.map covW++favW x++croW x++(x.calls.take k).map callW))))],3⟩) trivial ((wk_of [(0,.id 0),(1,.id 1),(2,.id 4)] rfl ⟨wc0,wa0,wa0,wc0,.fn _ _ _ _ _ ae0 ae0,.fn _ _ _ _ _ ae0 ae0,wa0,wa0,wa0,trivial⟩ ⟨wb0,wb0,⟨_,rfl,.lst _ _ _ _ _ rfl (by rw [List.take_zero,List.map_nil,List.append_nil,qf,qc];try simp only [List.append_assoc,List.append_nil])⟩,trivial⟩)) ?_
    intro k hk _
    conv=>whnf
    refine ⟨fun hd=>?_,fun hd=>?_⟩
    ·have hd:=of_decide_eq_true hd
     have hlt:k<x.calls.length:=by omega
     have hek:(k:Int).toNat=k:=Int.toNat_natCast k
     have hm:x.calls.getD k k0∈x.calls:=getD_mem hlt
     have hcr:=R.calls _ hm
     have hw:=callW_ok hcr
     have hda:=day_ok _ hcr.1.1 hcr.1.2
     conv=>whnf
     refine iO ?_;conv=>whnf
     refine And.intro rfl ?_;conv=>whnf
     rw [hek]
     conv=>whnf
     refine .eff ag0 ?_
     conv=>whnf
     refine cO (fun _=>hda) ?_
     conv=>whnf
     refine cO (fun _=>it (x.calls.getD k k0).b om0 om0) ?_
     conv=>whnf
     refine cR (line_ok (LD.app (Lcal k)) om0 _ hw) [1,2,4] ?_
     conv=>whnf
     refine ⟨by kernel_rfl,?_⟩
     conv=>whnf
     refine iO ?_;conv=>whnf
     refine up hlt trivial ((wk_of [(0,.id 0),(1,.id 1),(2,.id 5)] rfl ⟨wc0,wa0,wa0,wc0,.fn _ _ _ _ _ ae0 ae0,.fn _ _ _ _ _ ae0 ae0,wa0,wa0,wa0,trivial⟩ ⟨wb0,wb0,⟨_,rfl,.lst _ _ _ _ _ rfl (by rw [take_getD (d:=k0) hlt,List.map_append,← List.append_assoc];rfl)⟩,trivial⟩))
    have hd:=of_decide_eq_false hd
    obtain rfl:k=x.calls.length:=by omega
    conv=>whnf
    rw [List.take_length]
    have LE:LOk 71 (headW x++x.lets.map letW++midW x++x.cov.map covW++favW x++croW x++x.calls.map callW):=by have:=LD.app (Lcal x.calls.length);rw [List.take_length] at this;exact this
    refine ⟨fun hn=>?_,fun hn=>?_⟩
    ·have hn:=of_decide_eq_true hn
     have qn:notW x=[[[110,111,116,105,99,101],Lib.itoa x.notice]]:=by unfold notW;rw [if_pos (by omega)]
     conv=>whnf
     refine cO (fun _=>it x.notice om0 om0) ?_
     conv=>whnf
     refine cR (line_ok LE om0 _ w12) [1,2,3] ?_
     conv=>whnf
     have L126:=LOk.snoc LE w12
     refine ⟨fun hs=>?_,fun hs=>?_⟩
     ·have hs:=of_decide_eq_true hs
      have qs:sinW x=[[[115,105,110,107],Lib.itoa x.sink]]:=by unfold sinW;rw [if_pos (by omega)]
      conv=>whnf
      refine cO (fun _=>it x.sink om0 om0) ?_
      conv=>whnf
      refine cR (line_ok L126 om0 _ w13) [1,4,5] ?_
      conv=>whnf
      have L127:=LOk.snoc L126 w13
      refine cO (fun _=>it x.majority om0 om0) ?_
      conv=>whnf
      refine cR (line_ok L127 om0 _ w14) [1,6,7] ?_
      conv=>whnf
      have L128:=LOk.snoc L127 w14
      refine cO (fun _=>it x.fast om0 om0) ?_
      conv=>whnf
      refine cR (line_ok L128 om0 _ w15) [1,8,9] ?_
      conv=>whnf
      have L129:=LOk.snoc L128 w15
      refine .raw _ _ rfl (fun h=>by cases h) (rio_at (string_txt L129 (by simp)) [1,10] rfl rfl rfl ac0) ?_
      rintro _ ⟨_,_,_,⟨rfl,rfl,rfl⟩,-,rfl⟩
      refine ⟨Nat.le_add_right _ _,?_⟩
      conv=>whnf
      refine cO (fun _=>fits_txt L129 om0) ?_
      conv=>whnf
      exact fin L129 (by simp only [linesW,endW,qn,qs,List.append_assoc,List.append_nil,List.cons_append,List.nil_append])
     ·have hs:=of_decide_eq_false hs
      have qs:sinW x=[]:=by unfold sinW;rw [if_neg (by omega)]
      conv=>whnf
      refine cO (fun _=>it x.majority om0 om0) ?_
      conv=>whnf
      refine cR (line_ok L126 om0 _ w14) [1,4,5] ?_
      conv=>whnf
      have L130:=LOk.snoc L126 w14
      refine cO (fun _=>it x.fast om0 om0) ?_
      conv=>whnf
      refine cR (line_ok L130 om0 _ w15) [1,6,7] ?_
      conv=>whnf
      have L131:=LOk.snoc L130 w15
      refine .raw _ _ rfl (fun h=>by cases h) (rio_at (string_txt L131 (by simp)) [1,8] rfl rfl rfl ac0) ?_
      rintro _ ⟨_,_,_,⟨rfl,rfl,rfl⟩,-,rfl⟩
      refine ⟨Nat.le_add_right _ _,?_⟩
      conv=>whnf
      refine cO (fun _=>fits_txt L131 om0) ?_
      conv=>whnf
      exact fin L131 (by simp only [linesW,endW,qn,qs,List.append_assoc,List.append_nil,List.cons_append,List.nil_append])
    ·have hn:=of_decide_eq_false hn
     have qn:notW x=[]:=by unfold notW;rw [if_neg (by omega)]
     conv=>whnf
     refine ⟨fun hs=>?_,fun hs=>?_⟩
     ·have hs:=of_decide_eq_true hs
      have qs:sinW x=[[[115,105,110,107],Lib.itoa x.sink]]:=by unfold sinW;rw [if_pos (by omega)]
      conv=>whnf
      refine cO (fun _=>it x.sink om0 om0) ?_
      conv=>whnf
      refine cR (line_ok LE om0 _ w13) [1,2,3] ?_
      conv=>whnf
      have L132:=LOk.snoc LE w13
      refine cO (fun _=>it x.majority om0 om0) ?_
      conv=>whnf
      refine cR (line_ok L132 om0 _ w14) [1,4,5] ?_
      conv=>whnf
      have L133:=LOk.snoc L132 w14
      refine cO (fun _=>it x.fast om0 om0) ?_
      conv=>whnf
      refine cR (line_ok L133 om0 _ w15) [1,6,7] ?_
      conv=>whnf
      have L134:=LOk.snoc L133 w15
      refine .raw _ _ rfl (fun h=>by cases h) (rio_at (string_txt L134 (by simp)) [1,8] rfl rfl rfl ac0) ?_
      rintro _ ⟨_,_,_,⟨rfl,rfl,rfl⟩,-,rfl⟩
      refine ⟨Nat.le_add_right _ _,?_⟩
      conv=>whnf
      refine cO (fun _=>fits_txt L134 om0) ?_
      conv=>whnf
      exact fin L134 (by simp only [linesW,endW,qn,qs,List.append_assoc,List.append_nil,List.cons_append,List.nil_append])
     ·have hs:=of_decide_eq_false hs
      have qs:sinW x=[]:=by unfold sinW;rw [if_neg (by omega)]
      conv=>whnf
      refine cO (fun _=>it x.majority om0 om0) ?_
      conv=>whnf
      refine cR (line_ok LE om0 _ w14) [1,2,3] ?_
      conv=>whnf
      have L135:=LOk.snoc LE w14
      refine cO (fun _=>it x.fast om0 om0) ?_
      conv=>whnf
      refine cR (line_ok L135 om0 _ w15) [1,4,5] ?_
      conv=>whnf
      have L136:=LOk.snoc L135 w15
      refine .raw _ _ rfl (fun h=>by cases h) (rio_at (string_txt L136 (by simp)) [1,6] rfl rfl rfl ac0) ?_
      rintro _ ⟨_,_,_,⟨rfl,rfl,rfl⟩,-,rfl⟩
      refine ⟨Nat.le_add_right _ _,?_⟩
      conv=>whnf
      refine cO (fun _=>fits_txt L136 om0) ?_
      conv=>whnf
      exact fin L136 (by simp only [linesW,endW,qn,qs,List.append_assoc,List.append_nil,List.cons_append,List.nil_append])
   ·have hc:=of_decide_eq_false hc
    have qc:croW x=[]:=by unfold croW;rw [if_neg (by omega)]
    conv=>whnf
    have LD:LOk 51 (headW x++x.lets.map letW++midW x++x.cov.map covW++favW x++croW x):=by
     have a:LOk 1 (favW x):=by rw [qf];first | exact LOk.snoc LOk.nil w10 | exact ⟨by simp,fun w hw=>by cases hw⟩
     have b:LOk 1 (croW x):=by rw [qc];first | exact LOk.snoc LOk.nil w11 | exact ⟨by simp,fun w hw=>by cases hw⟩
     exact (LC.app a).app b
    refine loop_up (cxOk _ _) x.calls.length (fun _=>True) (fun k=>⟨[(1,.ptr 0 0),(2,.str []),(3,.int .i64 0),(4,.ptr 1 0),(5,.fn (.func 37) [] [.ptr 1 0]),(6,.fn (.func 40) [] []),(144,.sl 2 encK k0 x.calls),(145,.int .i64 (x.calls.length:Nat)),(146,.int .i64 (k:Nat))],[(0,.cells 31 (celX x)),(1,.cells 76 [.ptr 1 0,.own 2]),(2,.lst 5 1 (strAVs (txt (headW x++x.lets.map letW++midW x++x.cov.map covW++favW x++croW x++(x.calls.take k).map callW))))],3⟩) trivial ((wk_of [(0,.id 0),(1,.id 1),(2,.id 2)] rfl ⟨wc0,wa0,wa0,wc0,.fn _ _ _ _ _ ae0 ae0,.fn _ _ _ _ _ ae0 ae0,wa0,wa0,wa0,trivial⟩ ⟨wb0,wb0,⟨_,rfl,.lst _ _ _ _ _ rfl (by rw [List.take_zero,List.map_nil,List.append_nil,qf,qc];try simp only [List.append_assoc,List.append_nil])⟩,trivial⟩)) ?_
    intro k hk _
    conv=>whnf
    refine ⟨fun hd=>?_,fun hd=>?_⟩
    ·have hd:=of_decide_eq_true hd
     have hlt:k<x.calls.length:=by omega
     have hek:(k:Int).toNat=k:=Int.toNat_natCast k
     have hm:x.calls.getD k k0∈x.calls:=getD_mem hlt
     have hcr:=R.calls _ hm
     have hw:=callW_ok hcr
     have hda:=day_ok _ hcr.1.1 hcr.1.2
     conv=>whnf
     refine iO ?_;conv=>whnf
     refine And.intro rfl ?_;conv=>whnf
     rw [hek]
     conv=>whnf
     refine .eff ag0 ?_
     conv=>whnf
     refine cO (fun _=>hda) ?_
     conv=>whnf
     refine cO (fun _=>it (x.calls.getD k k0).b om0 om0) ?_
     conv=>whnf
     refine cR (line_ok (LD.app (Lcal k)) om0 _ hw) [1,2,4] ?_
     conv=>whnf
     refine ⟨by kernel_rfl,?_⟩
     conv=>whnf
     refine iO ?_;conv=>whnf
     refine up hlt trivial ((wk_of [(0,.id 0),(1,.id 1),(2,.id 5)] rfl ⟨wc0,wa0,wa0,wc0,.fn _ _ _ _ _ ae0 ae0,.fn _ _ _ _ _ ae0 ae0,wa0,wa0,wa0,trivial⟩ ⟨wb0,wb0,⟨_,rfl,.lst _ _ _ _ _ rfl (by rw [take_getD (d:=k0) hlt,List.map_append,← List.append_assoc];rfl)⟩,trivial⟩))
    have hd:=of_decide_eq_false hd
    obtain rfl:k=x.calls.length:=by omega
    conv=>whnf
    rw [List.take_length]
    have LE:LOk 71 (headW x++x.lets.map letW++midW x++x.cov.map covW++favW x++croW x++x.calls.map callW):=by have:=LD.app (Lcal x.calls.length);rw [List.take_length] at this;exact this
    refine ⟨fun hn=>?_,fun hn=>?_⟩
    ·have hn:=of_decide_eq_true hn
     have qn:notW x=[[[110,111,116,105,99,101],Lib.itoa x.notice]]:=by unfold notW;rw [if_pos (by omega)]
     conv=>whnf
     refine cO (fun _=>it x.notice om0 om0) ?_
     conv=>whnf
     refine cR (line_ok LE om0 _ w12) [1,2,3] ?_
     conv=>whnf
     have L137:=LOk.snoc LE w12
     refine ⟨fun hs=>?_,fun hs=>?_⟩
     ·have hs:=of_decide_eq_true hs
      have qs:sinW x=[[[115,105,110,107],Lib.itoa x.sink]]:=by unfold sinW;rw [if_pos (by omega)]
      conv=>whnf
      refine cO (fun _=>it x.sink om0 om0) ?_
      conv=>whnf
      refine cR (line_ok L137 om0 _ w13) [1,4,5] ?_
      conv=>whnf
      have L138:=LOk.snoc L137 w13
      refine cO (fun _=>it x.majority om0 om0) ?_
      conv=>whnf
      refine cR (line_ok L138 om0 _ w14) [1,6,7] ?_
      conv=>whnf
      have L139:=LOk.snoc L138 w14
      refine cO (fun _=>it x.fast om0 om0) ?_
      conv=>whnf
      refine cR (line_ok L139 om0 _ w15) [1,8,9] ?_
      conv=>whnf
      have L140:=LOk.snoc L139 w15
      refine .raw _ _ rfl (fun h=>by cases h) (rio_at (string_txt L140 (by simp)) [1,10] rfl rfl rfl ac0) ?_
      rintro _ ⟨_,_,_,⟨rfl,rfl,rfl⟩,-,rfl⟩
      refine ⟨Nat.le_add_right _ _,?_⟩
      conv=>whnf
      refine cO (fun _=>fits_txt L140 om0) ?_
      conv=>whnf
      exact fin L140 (by simp only [linesW,endW,qn,qs,List.append_assoc,List.append_nil,List.cons_append,List.nil_append])
     ·have hs:=of_decide_eq_false hs
      have qs:sinW x=[]:=by unfold sinW;rw [if_neg (by omega)]
      conv=>whnf
      refine cO (fun _=>it x.majority om0 om0) ?_
      conv=>whnf
      refine cR (line_ok L137 om0 _ w14) [1,4,5] ?_
      conv=>whnf
      have L141:=LOk.snoc L137 w14
      refine cO (fun _=>it x.fast om0 om0) ?_
      conv=>whnf
      refine cR (line_ok L141 om0 _ w15) [1,6,7] ?_
      conv=>whnf
      have L142:=LOk.snoc L141 w15
      refine .raw _ _ rfl (fun h=>by cases h) (rio_at (string_txt L142 (by simp)) [1,8] rfl rfl rfl ac0) ?_
      rintro _ ⟨_,_,_,⟨rfl,rfl,rfl⟩,-,rfl⟩
      refine ⟨Nat.le_add_right _ _,?_⟩
      conv=>whnf
      refine cO (fun _=>fits_txt L142 om0) ?_
      conv=>whnf
      exact fin L142 (by simp only [linesW,endW,qn,qs,List.append_assoc,List.append_nil,List.cons_append,List.nil_append])
    ·have hn:=of_decide_eq_false hn
     have qn:notW x=[]:=by unfold notW;rw [if_neg (by omega)]
     conv=>whnf
     refine ⟨fun hs=>?_,fun hs=>?_⟩
     ·have hs:=of_decide_eq_true hs
      have qs:sinW x=[[[115,105,110,107],Lib.itoa x.sink]]:=by unfold sinW;rw [if_pos (by omega)]
      conv=>whnf
      refine cO (fun _=>it x.sink om0 om0) ?_
      conv=>whnf
      refine cR (line_ok LE om0 _ w13) [1,2,3] ?_
      conv=>whnf
      have L143:=LOk.snoc LE w13
      refine cO (fun _=>it x.majority om0 om0) ?_
      conv=>whnf
      refine cR (line_ok L143 om0 _ w14) [1,4,5] ?_
      conv=>whnf
      have L144:=LOk.snoc L143 w14
      refine cO (fun _=>it x.fast om0 om0) ?_
      conv=>whnf
      refine cR (line_ok L144 om0 _ w15) [1,6,7] ?_
      conv=>whnf
      have L145:=LOk.snoc L144 w15
      refine .raw _ _ rfl (fun h=>by cases h) (rio_at (string_txt L145 (by simp)) [1,8] rfl rfl rfl ac0) ?_
      rintro _ ⟨_,_,_,⟨rfl,rfl,rfl⟩,-,rfl⟩
      refine ⟨Nat.le_add_right _ _,?_⟩
      conv=>whnf
      refine cO (fun _=>fits_txt L145 om0) ?_
      conv=>whnf
      exact fin L145 (by simp only [linesW,endW,qn,qs,List.append_assoc,List.append_nil,List.cons_append,List.nil_append])
     ·have hs:=of_decide_eq_false hs
      have qs:sinW x=[]:=by unfold sinW;rw [if_neg (by omega)]
      conv=>whnf
      refine cO (fun _=>it x.majority om0 om0) ?_
      conv=>whnf
      refine cR (line_ok LE om0 _ w14) [1,2,3] ?_
      conv=>whnf
      have L146:=LOk.snoc LE w14
      refine cO (fun _=>it x.fast om0 om0) ?_
      conv=>whnf
      refine cR (line_ok L146 om0 _ w15) [1,4,5] ?_
      conv=>whnf
      have L147:=LOk.snoc L146 w15
      refine .raw _ _ rfl (fun h=>by cases h) (rio_at (string_txt L147 (by simp)) [1,6] rfl rfl rfl ac0) ?_
      rintro _ ⟨_,_,_,⟨rfl,rfl,rfl⟩,-,rfl⟩
      refine ⟨Nat.le_add_right _ _,?_⟩
      conv=>whnf
      refine cO (fun _=>fits_txt L147 om0) ?_
      conv=>whnf
      exact fin L147 (by simp only [linesW,endW,qn,qs,List.append_assoc,List.append_nil,List.cons_append,List.nil_append])
def badB (e:Exp):Bool:=(decide ((e.args.length:Int)≠opsN e.op)||(decide (e.op≠0)&&decide (e.unit≠0))||(decide (e.op≠0)&&!(decide (e.op=16)||decide (e.op=17)||decide (e.op=18))&&decide (e.n≠0)) ||
 ((decide (e.op=16)||decide (e.op=17)||decide (e.op=18))&&!inB 1 1000 [e.n]))
def formT (op:Int):List UInt8 :=
 if op=15 then [105,102] else if op=14 then [111,114] else if op=13 then [97,110,100] else if op=12 then [110,111,116] else if op=11 then [61,61] else if op=10 then [60]
 else if op=4 then [43] else if op=5 then [45] else if op=6 then [42] else if op=7 then [47] else if op=8 then [109,105,110] else if op=9 then [109,97,120]
 else if op=16 then [101,118,101,114] else if op=17 then [108,111,110,103] else if op=18 then [115,111,111,110] else []
def formN (op:Int):Int :=
 if op=15 then 0 else if op=14 then 1 else if op=13 then 2 else if op=12 then 3 else if op=11∨op=10 then 4 else if op=4∨op=5 then 5 else if op=6∨op=7 then 6
 else if op=8∨op=9 then 7 else if op=16∨op=17∨op=18 then 8 else 7
def leafT (e:Exp):List UInt8:=if e.op=1 then e.s else if e.op=2 then [102,97,99,116,32]++e.s else if e.op=3 then [114,97,116,101,32]++e.s else numT e.n e.unit
def tailT (l:List (List UInt8)):List UInt8:=Lib.joinTail [32] l
theorem LOk.txt {n:Nat} {L:List (List (List UInt8))} (h:LOk n L) (hn:n≤120):(txt L).length≤2784000000360:=by
 have h1:=txt_len h
 have h2:n*23200000003≤120*23200000003:=Nat.mul_le_mul_right _ hn
 omega
noncomputable instance:DecidableEq Exp:=fun _ _=>Classical.propDecidable _
noncomputable instance:DecidableEq LetE:=fun _ _=>Classical.propDecidable _
noncomputable instance:DecidableEq Cov:=fun _ _=>Classical.propDecidable _
noncomputable instance:DecidableEq CallE:=fun _ _=>Classical.propDecidable _
noncomputable instance:DecidableEq Ind:=fun _ _=>Classical.propDecidable _
theorem list_eq {α:Type} {d:α}:∀ {l r:List α},l.length=r.length→(∀ j,j<l.length→l.getD j d=r.getD j d)→l=r
 | [],[],_,_=>rfl
 | [],_::_,h,_=>by cases h
 | _::_,[],h,_=>by cases h
 | a::l,b::r,h,hj=>by
  have h0:a=b:=hj 0 (by simp)
  have h1:l=r:=list_eq (by simpa using h) fun j hl=>hj (j+1) (by simp;omega)
  rw [h0,h1]
theorem Exp.ext_iff' (a b:Exp):a=b↔a.op=b.op∧a.n=b.n∧a.unit=b.unit∧a.s=b.s∧a.args=b.args:=by
 cases a;cases b
 simp [Exp.op,Exp.n,Exp.unit,Exp.s,Exp.args]
theorem eqE_dec (a b:Exp):decide (a=b)=(decide (a.op=b.op)&&decide (a.n=b.n)&&decide (a.unit=b.unit)&&decide (a.s=b.s)&&decide (a.args=b.args)):=by
 rw [Bool.eq_iff_iff]
 simp only [Bool.and_eq_true,decide_eq_true_eq,Exp.ext_iff' a b]
 constructor
 ·rintro ⟨h1,h2,h3,h4,h5⟩;exact ⟨⟨⟨⟨h1,h2⟩,h3⟩,h4⟩,h5⟩
 ·rintro ⟨⟨⟨⟨h1,h2⟩,h3⟩,h4⟩,h5⟩;exact ⟨h1,h2,h3,h4,h5⟩
theorem eqL_dec (a b:LetE):decide (a=b)=(decide (a.name=b.name)&&decide (a.body=b.body)):=by
 rw [Bool.eq_iff_iff]
 cases a;cases b
 simp
theorem eqC_dec (a b:Cov):decide (a=b)=(decide (a.name=b.name)&&decide (a.grace=b.grace)&&decide (a.must=b.must)):=by
 rw [Bool.eq_iff_iff]
 cases a;cases b
 simp only [Bool.and_eq_true,decide_eq_true_eq,Cov.mk.injEq]
 constructor
 ·rintro ⟨h1,h2,h3⟩;exact ⟨⟨h1,h3⟩,h2⟩
 ·rintro ⟨⟨h1,h3⟩,h2⟩;exact ⟨h1,h2,h3⟩
theorem eqK_dec (a b:CallE):decide (a=b)=(decide (a.a=b.a)&&decide (a.b=b.b)):=by
 rw [Bool.eq_iff_iff]
 cases a;cases b
 simp
theorem eqfE_ok (l r:List Exp) (hl:l.length≤9223372036854775807) (hr:r.length≤9223372036854775807) (hc:∀ x∈l,∀ y∈r,APureV Tryz.prog 33 [encE x,encE y] (.bool (decide (x=y)))) :
  APureV Tryz.prog 69 [.sl 5 encE ex0 l,.sl 5 encE ex0 r,.fn (.func 33) [] []] (.bool (decide (l=r))):=by
 refine aO (cxOk 32 [0,1,2,6,7,8,9,14,15,16,17,18,30]) Tryz.func69 ?_
 conv=>whnf
 refine ⟨fun hlen=>?_,fun hlen=>?_⟩
 ·have hne:¬ l=r:=by
   intro h
   rw [h] at hlen
   simp at hlen
  rw [decide_eq_false hne]
  conv=>whnf
  rfl
 have hlen:l.length=r.length:=by simp at hlen;omega
 conv=>whnf
 refine loop_up (cxOk _ _) l.length (fun k=>∀ j,j<k→l.getD j ex0=r.getD j ex0) (fun k=>⟨[(0,.sl 5 encE ex0 l),(1,.sl 5 encE ex0 r),(2,.fn (.func 33) [] []),(6,.bool false),(15,.sl 5 encE ex0 l),(16,.int .i64 (l.length:Nat)),(17,.int .i64 (k:Nat))],[],0⟩) (by intro j hj;omega) ((wk_of [] rfl ⟨wa0,wa0,.fn _ _ _ _ _ ae0 ae0,wa0,wa0,wa0,wa0,trivial⟩ trivial)) ?_
 intro k hk hP
 conv=>whnf
 refine ⟨fun hd=>?_,fun hd=>?_⟩
 ·have hd:=of_decide_eq_true hd
  have hlt:k<l.length:=by omega
  have hek:(k:Int).toNat=k:=Int.toNat_natCast k
  have h:=hc _ (getD_mem (d:=ex0) hlt) _ (getD_mem (d:=ex0) (show k<r.length by omega))
  conv=>whnf
  refine iO ?_;conv=>whnf
  refine And.intro rfl ?_;conv=>whnf
  refine iO ?_;conv=>whnf
  refine And.intro rfl ?_;conv=>whnf
  rw [hek]
  conv=>whnf
  refine cO (fun _=>h) ?_
  conv=>whnf
  refine ⟨fun he=>?_,fun he=>?_⟩
  ·have hne:¬ l=r:=by
    intro h
    rw [h] at he
    simp at he
   rw [decide_eq_false hne]
   conv=>whnf
   rfl
  ·have he:l.getD k ex0=r.getD k ex0:=by simpa using he
   conv=>whnf
   refine iO ?_;conv=>whnf
   refine up hlt (fun j hj=>?_) ((wk_of [] rfl ⟨wa0,wa0,.fn _ _ _ _ _ ae0 ae0,wa0,wa0,wa0,wa0,trivial⟩ trivial))
   by_cases e:j=k
   ·subst e;exact he
   ·exact hP j om0
 ·have hd:=of_decide_eq_false hd
  have he:l=r:=list_eq (d:=ex0) hlen fun j hj=>hP j (by omega)
  rw [decide_eq_true he]
  conv=>whnf
  rfl
theorem eqfL_ok (l r:List LetE) (hl:l.length≤9223372036854775807) (hr:r.length≤9223372036854775807) (hc:∀ x∈l,∀ y∈r,APureV Tryz.prog 53 [encL x,encL y] (.bool (decide (x=y)))) :
  APureV Tryz.prog 31 [.sl 6 encL l0 l,.sl 6 encL l0 r,.fn (.func 53) [] []] (.bool (decide (l=r))):=by
 refine aO (cxOk 32 [0,1,2,6,7,8,9,14,15,16,17,18,30]) Tryz.func31 ?_
 conv=>whnf
 refine ⟨fun hlen=>?_,fun hlen=>?_⟩
 ·have hne:¬ l=r:=by
   intro h
   rw [h] at hlen
   simp at hlen
  rw [decide_eq_false hne]
  conv=>whnf
  rfl
 have hlen:l.length=r.length:=by simp at hlen;omega
 conv=>whnf
 refine loop_up (cxOk _ _) l.length (fun k=>∀ j,j<k→l.getD j l0=r.getD j l0) (fun k=>⟨[(0,.sl 6 encL l0 l),(1,.sl 6 encL l0 r),(2,.fn (.func 53) [] []),(6,.bool false),(15,.sl 6 encL l0 l),(16,.int .i64 (l.length:Nat)),(17,.int .i64 (k:Nat))],[],0⟩) (by intro j hj;omega) ((wk_of [] rfl ⟨wa0,wa0,.fn _ _ _ _ _ ae0 ae0,wa0,wa0,wa0,wa0,trivial⟩ trivial)) ?_
 intro k hk hP
 conv=>whnf
 refine ⟨fun hd=>?_,fun hd=>?_⟩
 ·have hd:=of_decide_eq_true hd
  have hlt:k<l.length:=by omega
  have hek:(k:Int).toNat=k:=Int.toNat_natCast k
  have h:=hc _ (getD_mem (d:=l0) hlt) _ (getD_mem (d:=l0) (show k<r.length by omega))
  conv=>whnf
  refine iO ?_;conv=>whnf
  refine And.intro rfl ?_;conv=>whnf
  refine iO ?_;conv=>whnf
  refine And.intro rfl ?_;conv=>whnf
  rw [hek]
  conv=>whnf
  refine cO (fun _=>h) ?_
  conv=>whnf
  refine ⟨fun he=>?_,fun he=>?_⟩
  ·have hne:¬ l=r:=by
    intro h
    rw [h] at he
    simp at he
   rw [decide_eq_false hne]
   conv=>whnf
   rfl
  ·have he:l.getD k l0=r.getD k l0:=by simpa using he
   conv=>whnf
   refine iO ?_;conv=>whnf
   refine up hlt (fun j hj=>?_) ((wk_of [] rfl ⟨wa0,wa0,.fn _ _ _ _ _ ae0 ae0,wa0,wa0,wa0,wa0,trivial⟩ trivial))
   by_cases e:j=k
   ·subst e;exact he
   ·exact hP j om0
 ·have hd:=of_decide_eq_false hd
  have he:l=r:=list_eq (d:=l0) hlen fun j hj=>hP j (by omega)
  rw [decide_eq_true he]
  conv=>whnf
  rfl
theorem eqfC_ok (l r:List Cov) (hl:l.length≤9223372036854775807) (hr:r.length≤9223372036854775807) (hc:∀ x∈l,∀ y∈r,APureV Tryz.prog 55 [encC x,encC y] (.bool (decide (x=y)))) :
  APureV Tryz.prog 54 [.sl 7 encC c0 l,.sl 7 encC c0 r,.fn (.func 55) [] []] (.bool (decide (l=r))):=by
 refine aO (cxOk 32 [0,1,2,6,7,8,9,14,15,16,17,18,30]) Tryz.func54 ?_
 conv=>whnf
 refine ⟨fun hlen=>?_,fun hlen=>?_⟩
 ·have hne:¬ l=r:=by
   intro h
   rw [h] at hlen
   simp at hlen
  rw [decide_eq_false hne]
  conv=>whnf
  rfl
 have hlen:l.length=r.length:=by simp at hlen;omega
 conv=>whnf
 refine loop_up (cxOk _ _) l.length (fun k=>∀ j,j<k→l.getD j c0=r.getD j c0) (fun k=>⟨[(0,.sl 7 encC c0 l),(1,.sl 7 encC c0 r),(2,.fn (.func 55) [] []),(6,.bool false),(15,.sl 7 encC c0 l),(16,.int .i64 (l.length:Nat)),(17,.int .i64 (k:Nat))],[],0⟩) (by intro j hj;omega) ((wk_of [] rfl ⟨wa0,wa0,.fn _ _ _ _ _ ae0 ae0,wa0,wa0,wa0,wa0,trivial⟩ trivial)) ?_
 intro k hk hP
 conv=>whnf
 refine ⟨fun hd=>?_,fun hd=>?_⟩
 ·have hd:=of_decide_eq_true hd
  have hlt:k<l.length:=by omega
  have hek:(k:Int).toNat=k:=Int.toNat_natCast k
  have h:=hc _ (getD_mem (d:=c0) hlt) _ (getD_mem (d:=c0) (show k<r.length by omega))
  conv=>whnf
  refine iO ?_;conv=>whnf
  refine And.intro rfl ?_;conv=>whnf
  refine iO ?_;conv=>whnf
  refine And.intro rfl ?_;conv=>whnf
  rw [hek]
  conv=>whnf
  refine cO (fun _=>h) ?_
  conv=>whnf
  refine ⟨fun he=>?_,fun he=>?_⟩
  ·have hne:¬ l=r:=by
    intro h
    rw [h] at he
    simp at he
   rw [decide_eq_false hne]
   conv=>whnf
   rfl
  ·have he:l.getD k c0=r.getD k c0:=by simpa using he
   conv=>whnf
   refine iO ?_;conv=>whnf
   refine up hlt (fun j hj=>?_) ((wk_of [] rfl ⟨wa0,wa0,.fn _ _ _ _ _ ae0 ae0,wa0,wa0,wa0,wa0,trivial⟩ trivial))
   by_cases e:j=k
   ·subst e;exact he
   ·exact hP j om0
 ·have hd:=of_decide_eq_false hd
  have he:l=r:=list_eq (d:=c0) hlen fun j hj=>hP j (by omega)
  rw [decide_eq_true he]
  conv=>whnf
  rfl
theorem eqsS_ok (l r:List (List UInt8)) (hl:l.length≤9223372036854775807) (hr:r.length≤9223372036854775807) :
  APureV Tryz.prog 51 [.sl 1 encS [] l,.sl 1 encS [] r] (.bool (decide (l=r))):=by
 refine aO (cxOk 26 [0,1,4,5,10,12,13,14,24]) Tryz.func51 ?_
 conv=>whnf
 refine ⟨fun hlen=>?_,fun hlen=>?_⟩
 ·have hne:¬ l=r:=by
   intro h
   rw [h] at hlen
   simp at hlen
  rw [decide_eq_false hne]
  conv=>whnf
  rfl
 have hlen:l.length=r.length:=by simp at hlen;omega
 conv=>whnf
 refine loop_up (cxOk _ _) l.length (fun k=>∀ j,j<k→l.getD j []=r.getD j []) (fun k=>⟨[(0,.sl 1 encS [] l),(1,.sl 1 encS [] r),(4,.bool false),(12,.int .i64 (l.length:Nat)),(13,.int .i64 (k:Nat))],[],0⟩) (by intro j hj;omega) ((wk_of [] rfl ⟨wa0,wa0,wa0,wa0,wa0,trivial⟩ trivial)) ?_
 intro k hk hP
 conv=>whnf
 refine ⟨fun hd=>?_,fun hd=>?_⟩
 ·have hd:=of_decide_eq_true hd
  have hlt:k<l.length:=by omega
  have hek:(k:Int).toNat=k:=Int.toNat_natCast k
  conv=>whnf
  refine .quiet (by kernel_rfl) ?_;conv=>whnf
  refine iO ?_;conv=>whnf
  refine And.intro rfl ?_;conv=>whnf
  refine iO ?_;conv=>whnf
  refine And.intro rfl ?_;conv=>whnf
  rw [hek]
  conv=>whnf
  try (rw [hek];conv=>whnf)
  refine ⟨fun he=>?_,fun he=>?_⟩
  ·have hne:¬ l=r:=by
    intro h
    rw [h] at he
    simp at he
   rw [decide_eq_false hne]
   conv=>whnf
   rfl
  ·have he:l.getD k []=r.getD k []:=by simpa using he
   conv=>whnf
   refine iO ?_;conv=>whnf
   refine up hlt (fun j hj=>?_) ((wk_of [] rfl ⟨wa0,wa0,wa0,wa0,wa0,trivial⟩ trivial))
   by_cases e:j=k
   ·subst e;exact he
   ·exact hP j om0
 ·have hd:=of_decide_eq_false hd
  have he:l=r:=list_eq (d:=[]) hlen fun j hj=>hP j (by omega)
  rw [decide_eq_true he]
  conv=>whnf
  rfl
theorem eqsK_ok (l r:List CallE) (hl:l.length≤9223372036854775807) (hr:r.length≤9223372036854775807) :
  APureV Tryz.prog 52 [.sl 2 encK k0 l,.sl 2 encK k0 r] (.bool (decide (l=r))):=by
 refine aO (cxOk 26 [0,1,4,5,10,12,13,14,24]) Tryz.func52 ?_
 conv=>whnf
 refine ⟨fun hlen=>?_,fun hlen=>?_⟩
 ·have hne:¬ l=r:=by
   intro h
   rw [h] at hlen
   simp at hlen
  rw [decide_eq_false hne]
  conv=>whnf
  rfl
 have hlen:l.length=r.length:=by simp at hlen;omega
 conv=>whnf
 refine loop_up (cxOk _ _) l.length (fun k=>∀ j,j<k→l.getD j k0=r.getD j k0) (fun k=>⟨[(0,.sl 2 encK k0 l),(1,.sl 2 encK k0 r),(4,.bool false),(12,.int .i64 (l.length:Nat)),(13,.int .i64 (k:Nat))],[],0⟩) (by intro j hj;omega) ((wk_of [] rfl ⟨wa0,wa0,wa0,wa0,wa0,trivial⟩ trivial)) ?_
 intro k hk hP
 conv=>whnf
 refine ⟨fun hd=>?_,fun hd=>?_⟩
 ·have hd:=of_decide_eq_true hd
  have hlt:k<l.length:=by omega
  have hek:(k:Int).toNat=k:=Int.toNat_natCast k
  conv=>whnf
  refine .quiet (by kernel_rfl) ?_;conv=>whnf
  refine iO ?_;conv=>whnf
  refine And.intro rfl ?_;conv=>whnf
  refine iO ?_;conv=>whnf
  refine And.intro rfl ?_;conv=>whnf
  rw [hek]
  conv=>whnf
  try (rw [hek];conv=>whnf)
  refine And.intro ⟨by kernel_rfl,by kernel_rfl⟩ ?_
  conv=>whnf
  rw [show (decide ((l.getD k k0).a=(r.getD k k0).a)&&(decide ((l.getD k k0).b=(r.getD k k0).b)&&true))=decide (l.getD k k0=r.getD k k0) by rw [Bool.and_true];exact (eqK_dec _ _).symm]
  refine ⟨fun he=>?_,fun he=>?_⟩
  ·have hne:¬ l=r:=by
    intro h
    rw [h] at he
    simp at he
   rw [decide_eq_false hne]
   conv=>whnf
   rfl
  ·have he:l.getD k k0=r.getD k k0:=by simpa using he
   conv=>whnf
   refine iO ?_;conv=>whnf
   refine up hlt (fun j hj=>?_) ((wk_of [] rfl ⟨wa0,wa0,wa0,wa0,wa0,trivial⟩ trivial))
   by_cases e:j=k
   ·subst e;exact he
   ·exact hP j om0
 ·have hd:=of_decide_eq_false hd
  have he:l=r:=list_eq (d:=k0) hlen fun j hj=>hP j (by omega)
  rw [decide_eq_true he]
  conv=>whnf
  rfl
theorem sameexp_ok:∀ (k:Nat) (a b:Exp),SizeOf.sizeOf a≤k→OkE a→OkE b→APureV Tryz.prog 33 [encE a,encE b] (.bool (decide (a=b))):=by
 intro k
 induction k with
 | zero=>intro a b h;cases a;simp at h
 | succ k ih =>
  intro a b hk ha hb
  have hq:=eqfE_ok a.args b.args ha.alen hb.alen (fun x hx y hy=>ih x y (by have:=args_lt a hx;omega) (ha.arg x hx) (hb.arg y hy))
  rw [eqE_dec]
  refine aO (cxOk 38 [0,1,2,3,4]) Tryz.func33 ?_
  conv=>whnf
  refine .one _ _ _ (fun _=>hq) (.cons (lX (argsE_eq a)) (.cons (lX (argsE_eq b)) (.cons (lS rfl) .nil))) (.inl rfl) (.inr rfl) ?_
  conv=>whnf
  rfl
theorem same_ok (a b:Exp) (ha:OkE a) (hb:OkE b):APureV Tryz.prog 33 [encE a,encE b] (.bool (decide (a=b))):=sameexp_ok _ a b (Nat.le_refl _) ha hb
theorem samel_ok (a b:LetE) (ha:OkE a.body) (hb:OkE b.body):APureV Tryz.prog 53 [encL a,encL b] (.bool (decide (a=b))):=by
 have h:=same_ok a.body b.body ha hb
 rw [eqL_dec]
 refine aO (cxOk 17 [0,1,2,3,4]) Tryz.func53 ?_
 conv=>whnf
 refine cO (fun _=>h) ?_
 conv=>whnf
 rfl
theorem samec_ok (a b:Cov) (ha:OkE a.must) (hb:OkE b.must):APureV Tryz.prog 55 [encC a,encC b] (.bool (decide (a=b))):=by
 have h:=same_ok a.must b.must ha hb
 rw [eqC_dec]
 refine aO (cxOk 24 [0,1,2,3,4]) Tryz.func55 ?_
 conv=>whnf
 refine cO (fun _=>h) ?_
 conv=>whnf
 rfl
theorem ind_eq {a b:Ind} (h_name:a.name=b.name) (h_issuer:a.issuer=b.issuer) (h_face:a.face=b.face) (h_frm:a.frm=b.frm) (h_to:a.to=b.to) (h_every:a.every=b.every) (h_count:a.count=b.count) (h_adjust:a.adjust=b.adjust) (h_record:a.record=b.record) (h_rank:a.rank=b.rank) (h_lets:a.lets=b.lets) (h_coupon:a.coupon=b.coupon) (h_cap:a.cap=b.cap) (h_cov:a.cov=b.cov) (h_favour:a.favour=b.favour) (h_cross:a.cross=b.cross) (h_calls:a.calls=b.calls) (h_notice:a.notice=b.notice) (h_sink:a.sink=b.sink) (h_majority:a.majority=b.majority) (h_fast:a.fast=b.fast):a=b:=by
 cases a;cases b
 simp only at *
 subst h_name
 subst h_issuer
 subst h_face
 subst h_frm
 subst h_to
 subst h_every
 subst h_count
 subst h_adjust
 subst h_record
 subst h_rank
 subst h_lets
 subst h_coupon
 subst h_cap
 subst h_cov
 subst h_favour
 subst h_cross
 subst h_calls
 subst h_notice
 subst h_sink
 subst h_majority
 subst h_fast
 rfl
theorem eqI_dec (a b:Ind):decide (a=b)=((decide (a.name=b.name)&&decide (a.issuer=b.issuer)&&decide (a.face=b.face)&&decide (a.frm=b.frm)&&decide (a.to=b.to)&&decide (a.every=b.every)&&decide (a.count=b.count)&&decide (a.adjust=b.adjust)&&decide (a.record=b.record)&&decide (a.rank=b.rank))&&(decide (a.cap=b.cap)&&decide (a.cross=b.cross)&&decide (a.notice=b.notice)&&decide (a.sink=b.sink)&&decide (a.majority=b.majority)&&decide (a.fast=b.fast)&&decide (a.favour=b.favour)&&decide (a.calls=b.calls))&&decide (a.lets=b.lets)&&decide (a.cov=b.cov)&&decide (a.coupon=b.coupon)):=by
 rw [Bool.eq_iff_iff]
 simp only [Bool.and_eq_true,decide_eq_true_eq]
 constructor
 ·intro h
  rw [h]
  simp
 ·rintro ⟨⟨⟨⟨⟨⟨⟨⟨⟨⟨⟨⟨⟨h_name,h_issuer⟩,h_face⟩,h_frm⟩,h_to⟩,h_every⟩,h_count⟩,h_adjust⟩,h_record⟩,h_rank⟩,⟨⟨⟨⟨⟨⟨⟨h_cap,h_cross⟩,h_notice⟩,h_sink⟩,h_majority⟩,h_fast⟩,h_favour⟩,h_calls⟩⟩,h_lets⟩,h_cov⟩,h_coupon⟩
  exact ind_eq h_name h_issuer h_face h_frm h_to h_every h_count h_adjust h_record h_rank h_lets h_coupon h_cap h_cov h_favour h_cross h_calls h_notice h_sink h_majority h_fast
theorem samefn_ok (a b:Ind) (ha:OkX a) (hb:OkX b):APureV Tryz.prog 21 [encX a,encX b] (.bool (decide (a=b))):=by
 have q1:=eqsS_ok a.favour b.favour ha.favour hb.favour
 have q2:=eqsK_ok a.calls b.calls ha.calls hb.calls
 have q3:=eqfL_ok a.lets b.lets (by have:=ha.lets;omega) (by have:=hb.lets;omega) (fun x hx y hy=>samel_ok x y (ha.let1 x hx).2 (hb.let1 y hy).2)
 have q4:=eqfC_ok a.cov b.cov (by have:=ha.cov;omega) (by have:=hb.cov;omega) (fun x hx y hy=>samec_ok x y (ha.cov1 x hx).2.1 (hb.cov1 y hy).2.1)
 have q5:=same_ok a.coupon b.coupon ha.coupon hb.coupon
 rw [eqI_dec]
 refine aO (cxOk 158 [0,1,2,3,4,5,6,7,8]) Tryz.func21 ?_
 conv=>whnf
 refine cO (fun _=>q1) ?_
 conv=>whnf
 refine cO (fun _=>q2) ?_
 conv=>whnf
 refine cO (fun _=>q3) ?_
 conv=>whnf
 refine cO (fun _=>q4) ?_
 conv=>whnf
 refine cO (fun _=>q5) ?_
 conv=>whnf
 rfl
mutual
def nodesM:Exp→Int→Int
 | .mk _ _ _ s args,m=>nodesW m args (1+((s.length / 40:Nat):Int))
def nodesW:Int→List Exp→Int→Int
 | _,[],n=>n
 | m,x::l,n=>if n≤m then nodesW m l (n+nodesM x (m-n)) else n
end
theorem nodesM_eq (e:Exp) (m:Int):nodesM e m=nodesW m e.args (1+((e.s.length / 40:Nat):Int)):=by cases e;rw [nodesM];rfl
theorem nodesW_bnd (B:Int) (m:Int):∀ (l:List Exp),(∀ x∈l,∀ k:Int,0≤k→1≤nodesM x k∧nodesM x k≤k+B)→∀ n:Int,0≤m→1≤n→n≤m+B→n≤nodesW m l n∧nodesW m l n≤m+B:=by
 intro l
 induction l with
 | nil=>intro _ n h0 h1 h2;rw [nodesW];omega
 | cons x l ih =>
  intro h n h0 h1 h2
  rw [nodesW]
  split
  ·rename_i hn
   have:=h x List.mem_cons_self (m-n) (by omega)
   have:=ih (fun y hy=>h y (List.mem_cons_of_mem _ hy)) (n+nodesM x (m-n)) h0 (by omega) (by omega)
   omega
  ·omega
def bigB:Int:=230584300921369396
theorem nodesM_bnd:∀ (k:Nat) (e:Exp),SizeOf.sizeOf e≤k→OkE e→∀ m:Int,0≤m→1≤nodesM e m∧nodesM e m≤m+bigB:=by
 intro k
 induction k with
 | zero=>intro e h;cases e;simp at h
 | succ k ih =>
  intro e hk hok m hm
  have hs:=hok.slen
  have:=nodesW_bnd bigB m e.args (fun x hx j hj=>ih x (by have:=args_lt e hx;omega) (hok.arg x hx) j hj) (1+((e.s.length / 40:Nat):Int)) hm (by omega) (by unfold bigB;omega)
  rw [nodesM_eq]
  omega
theorem nodesW_stop {m n:Int} (h:m<n):∀ (l:List Exp),nodesW m l n=n
 | []=>by rw [nodesW]
 | x::l=>by rw [nodesW,if_neg (by omega)]
theorem nodesW_cons (m:Int) (x:Exp) (l:List Exp) (n:Int):nodesW m (x::l) n=if n≤m then nodesW m l (n+nodesM x (m-n)) else n:=by rw [nodesW]
theorem nodesW_nil (m n:Int):nodesW m [] n=n:=by rw [nodesW]
theorem nodesW_snoc {m:Int} {x:Exp}:∀ (l:List Exp) (n:Int),nodesW m (l++[x]) n=if nodesW m l n≤m then nodesW m l n+nodesM x (m-nodesW m l n) else nodesW m l n
 | [],n=>by rw [List.nil_append,nodesW_cons,nodesW_nil,nodesW_nil]
 | y::l,n=>by
  rw [List.cons_append]
  by_cases h:n≤m
  ·have e1:nodesW m (y::l) n=nodesW m l (n+nodesM y (m-n)):=by rw [nodesW_cons,if_pos h]
   rw [e1,nodesW_cons,if_pos h,nodesW_snoc l]
  ·have e1:nodesW m (y::l) n=n:=by rw [nodesW_cons,if_neg h]
   rw [e1,nodesW_cons,if_neg h,if_neg h]
theorem nodesW_over {m:Int}:∀ (l r:List Exp) (n:Int),m<nodesW m l n→nodesW m (l++r) n=nodesW m l n:=by
 intro l
 induction l with
 | nil=>intro r n h;simp only [nodesW] at h;rw [List.nil_append,nodesW_stop h];simp only [nodesW]
 | cons y l ih =>
  intro r n h
  rw [List.cons_append]
  simp only [nodesW] at h ⊢
  by_cases hn:n≤m
  ·rw [if_pos hn] at h ⊢
   rw [if_pos hn]
   exact ih r _ h
  ·rw [if_neg hn,if_neg hn]
theorem nodes34_ok:∀ (k:Nat) (e:Exp) (m:Int),SizeOf.sizeOf e≤k→0≤m→m≤1000→OkE e→APureV Tryz.prog 24 [encE e,.int .i64 m] (.int .i64 (nodesM e m)):=by
 intro k
 induction k with
 | zero=>intro e m h;cases e;simp at h
 | succ k ih =>
  intro e m hk h0 h1 hok
  have hal:=argsE_len e
  have hal2:=hok.alen
  have hsl:=hok.slen
  rw [nodesM_eq]
  refine aO (cxOk 36 [0,1,2,4,5,6,21]) Tryz.func24 ?_
  conv=>whnf
  have hq:((e.s.length:Int)).tdiv 40=((e.s.length / 40:Nat):Int):=by rw [Int.tdiv_eq_ediv_of_nonneg (by omega)];rfl
  rw [hq]
  refine And.intro dd0 ?_
  conv=>whnf
  refine iO ?_;conv=>whnf
  refine iO ?_;conv=>whnf
  generalize hN0:1+((e.s.length / 40:Nat):Int)=n0 at *
  have hn0:1≤n0∧n0≤m+bigB:=by unfold bigB;omega
  refine loop_inv (cxOk _ _) (fun k:Nat=>k≤e.args.length) (fun k=>e.args.length-k) (fun k=>⟨[(1,.int .i64 m),(2,.ptr 0 0),(5,.int .i64 (nodesW m (e.args.take k) n0)),(6,.int .i64 (k:Nat))],[(0,.cells 27 (cellsE e))],1⟩) 0 (by show 0≤_;omega) ((wk_of [(0,.id 0)] rfl ⟨wa0,wc0,.base (.tree _ _ (congrArg (AV.int .i64) (by rw [List.take_zero,nodesW])) rfl),wa0,trivial⟩ ⟨wb0,trivial⟩)) ?_
  intro k hk
  have hk:k≤e.args.length:=hk
  have hb:=nodesW_bnd bigB m (e.args.take k) (fun x hx j hj=>nodesM_bnd _ x (Nat.le_refl _) (hok.arg x (List.mem_of_mem_take hx)) j hj) n0 h0 hn0.1 hn0.2
  conv=>whnf
  by_cases hgo:k<e.args.length∧nodesW m (e.args.take k) n0≤m
  ·obtain ⟨hlt,hle⟩:=hgo
   have hek:(k:Int).toNat=k:=Int.toNat_natCast k
   have hin:=hok.arg _ (getD_argOf hlt)
   have hrec:=ih (argOf e k) (m-nodesW m (e.args.take k) n0) (by have:=args_lt e (getD_argOf hlt);omega) (by omega) (by omega) hin
   have hb2:=nodesM_bnd _ (argOf e k) (Nat.le_refl _) hin (m-nodesW m (e.args.take k) n0) (by omega)
   refine ⟨fun _=>?_,fun hx=>(by simp at hx;omega)⟩
   conv=>whnf
   refine iO ?_;conv=>whnf
   refine And.intro rfl ?_;conv=>whnf
   rw [hek,argsE_get e hlt]
   conv=>whnf
   refine iO ?_;conv=>whnf
   refine cO (fun _=>hrec) ?_
   conv=>whnf
   unfold bigB at *
   refine iO ?_;conv=>whnf
   refine iO ?_;conv=>whnf
   exact ⟨k+1,hlt,(by show e.args.length-(k+1)<e.args.length-k;omega),(wk_of [(0,.id 0)] rfl ⟨wa0,wc0,.base (.tree _ _ (congrArg (AV.int .i64) (by rw [take_getD (d:=ex0) hlt,nodesW_snoc,if_pos hle];rfl)) rfl),wa0,trivial⟩ ⟨wb0,trivial⟩)⟩
  ·refine ⟨fun hx=>(by simp at hx;omega),fun _=>?_⟩
   conv=>whnf
   have he:nodesW m e.args n0=nodesW m (e.args.take k) n0:=by
    by_cases hke:k=e.args.length
    ·rw [hke,List.take_length]
    ·have hlt2:m<nodesW m (e.args.take k) n0:=by omega
     have h2:=nodesW_over (e.args.take k) (e.args.drop k) n0 hlt2
     rw [List.take_append_drop] at h2
     exact h2
   rw [he]
   rfl
def few0 (x:Ind):Bool:=!(decide (4<(x.lets.length:Int))||decide (4<(x.cov.length:Int))||decide (4<(x.calls.length:Int))||decide (4<(x.favour.length:Int))||decide (40<(x.name.length:Int))||decide (40<(x.issuer.length:Int))||decide (20<nodesM x.coupon 20))
def fewL (l:LetE):Bool:=!(decide (40<(l.name.length:Int))||decide (20<nodesM l.body 20))
def fewC (c:Cov):Bool:=!(decide (40<(c.name.length:Int))||decide (20<nodesM c.must 20))
def fewF (s:List UInt8):Bool:=!decide (40<(s.length:Int))
def fewX (x:Ind):Bool:=few0 x&&x.lets.all fewL&&x.cov.all fewC&&x.favour.all fewF
theorem all_false {α:Type} {p:α→Bool} {l:List α} {x:α} (hm:x∈l) (h:p x=false):l.all p=false:=by
 rw [List.all_eq_false]
 exact ⟨x,hm,by rw [h];decide⟩
theorem all_true {α:Type} {p:α→Bool} {l:List α} {d:α} (h:∀ j,j<l.length→p (l.getD j d)=true):l.all p=true:=by
 rw [List.all_eq_true]
 intro x hx
 obtain ⟨j,hj,e⟩:=mem_getD (d:=d) hx
 have:=h j hj
 rw [e] at this
 exact this
theorem fewterms_ok (x:Ind) (h1:∀ l∈x.lets,OkE l.body) (h2:∀ c∈x.cov,OkE c.must) (h3:OkE x.coupon) (b1:x.name.length≤9223372036854775807) (b2:x.issuer.length≤9223372036854775807) (b3:x.lets.length≤9223372036854775807) (b4:x.cov.length≤9223372036854775807)
  (b5:x.favour.length≤9223372036854775807) (b6:x.calls.length≤9223372036854775807) (b7:∀ l∈x.lets,l.name.length≤9223372036854775807) (b8:∀ c∈x.cov,c.name.length≤9223372036854775807) (b9:∀ s∈x.favour,s.length≤9223372036854775807) :
  APureV Tryz.prog 7 [encX x] (.bool (fewX x)):=by
 have hc:=nodes34_ok _ x.coupon 20 (Nat.le_refl _) (by decide) (by decide) h3
 refine aO (cxOk 110 [0,1,2,3,4,5,45,50,70,75,95,100,109]) Tryz.func7 ?_
 conv=>whnf
 refine cO (fun _=>hc) ?_
 conv=>whnf
 refine ⟨fun hb=>?_,fun hb=>?_⟩
 ·rw [show fewX x=false by unfold fewX few0;rw [hb];rfl]
  conv=>whnf
  rfl
 have hf0:few0 x=true:=by unfold few0;rw [hb];rfl
 conv=>whnf
 refine loop_up (cxOk _ _) x.lets.length (fun k=>∀ j,j<k→fewL (x.lets.getD j l0)=true) (fun k=>⟨[(1,.ptr 0 0),(2,.bool false),(3,.int .i64 (k:Nat))],[(0,.cells 31 (celX x))],1⟩) (by intro j hj;omega) ((wk_of [(0,.id 0)] rfl ⟨wc0,wa0,wa0,trivial⟩ ⟨wb0,trivial⟩)) ?_
 intro k hk hP
 conv=>whnf
 refine ⟨fun hd=>?_,fun hd=>?_⟩
 ·have hd:=of_decide_eq_true hd
  have hlt:k<x.lets.length:=by omega
  have hek:(k:Int).toNat=k:=Int.toNat_natCast k
  have hm:x.lets.getD k l0∈x.lets:=getD_mem hlt
  have hn:=b7 _ hm
  have hq:=nodes34_ok _ _ 20 (Nat.le_refl _) (by decide) (by decide) (h1 _ hm)
  conv=>whnf
  refine iO ?_;conv=>whnf
  refine And.intro rfl ?_;conv=>whnf
  refine And.intro om0 (And.intro rfl ?_);conv=>whnf
  rw [hek]
  conv=>whnf
  refine cO (fun _=>hq) ?_
  conv=>whnf
  refine ⟨fun he=>?_,fun he=>?_⟩
  ·have hf:fewL (x.lets.getD k l0)=false:=by unfold fewL;rw [he];rfl
   rw [show fewX x=false by unfold fewX;rw [all_false hm hf];simp]
   conv=>whnf
   rfl
  ·have he:fewL (x.lets.getD k l0)=true:=by unfold fewL;rw [he];rfl
   conv=>whnf
   refine iO ?_;conv=>whnf
   refine up hlt (fun j hj=>?_) ((wk_of [(0,.id 0)] rfl ⟨wc0,wa0,wa0,trivial⟩ ⟨wb0,trivial⟩))
   by_cases e:j=k
   ·subst e;exact he
   ·exact hP j om0
 have hd:=of_decide_eq_false hd
 obtain rfl:k=x.lets.length:=by omega
 have hall_lets:x.lets.all fewL=true:=all_true hP
 conv=>whnf
 refine loop_up (cxOk _ _) x.cov.length (fun k=>∀ j,j<k→fewC (x.cov.getD j c0)=true) (fun k=>⟨[(1,.ptr 0 0),(2,.bool false),(4,.int .i64 (k:Nat))],[(0,.cells 31 (celX x))],1⟩) (by intro j hj;omega) ((wk_of [(0,.id 0)] rfl ⟨wc0,wa0,wa0,trivial⟩ ⟨wb0,trivial⟩)) ?_
 intro k hk hP
 conv=>whnf
 refine ⟨fun hd=>?_,fun hd=>?_⟩
 ·have hd:=of_decide_eq_true hd
  have hlt:k<x.cov.length:=by omega
  have hek:(k:Int).toNat=k:=Int.toNat_natCast k
  have hm:x.cov.getD k c0∈x.cov:=getD_mem hlt
  have hn:=b8 _ hm
  have hq:=nodes34_ok _ _ 20 (Nat.le_refl _) (by decide) (by decide) (h2 _ hm)
  conv=>whnf
  refine iO ?_;conv=>whnf
  refine And.intro rfl ?_;conv=>whnf
  refine And.intro om0 (And.intro rfl ?_);conv=>whnf
  rw [hek]
  conv=>whnf
  refine cO (fun _=>hq) ?_
  conv=>whnf
  refine ⟨fun he=>?_,fun he=>?_⟩
  ·have hf:fewC (x.cov.getD k c0)=false:=by unfold fewC;rw [he];rfl
   rw [show fewX x=false by unfold fewX;rw [all_false hm hf];simp]
   conv=>whnf
   rfl
  ·have he:fewC (x.cov.getD k c0)=true:=by unfold fewC;rw [he];rfl
   conv=>whnf
   refine iO ?_;conv=>whnf
   refine up hlt (fun j hj=>?_) ((wk_of [(0,.id 0)] rfl ⟨wc0,wa0,wa0,trivial⟩ ⟨wb0,trivial⟩))
   by_cases e:j=k
   ·subst e;exact he
   ·exact hP j om0
 have hd:=of_decide_eq_false hd
 obtain rfl:k=x.cov.length:=by omega
 have hall_cov:x.cov.all fewC=true:=all_true hP
 conv=>whnf
 refine loop_up (cxOk _ _) x.favour.length (fun k=>∀ j,j<k→fewF (x.favour.getD j [])=true) (fun k=>⟨[(1,.ptr 0 0),(2,.bool false),(5,.int .i64 (k:Nat))],[(0,.cells 31 (celX x))],1⟩) (by intro j hj;omega) ((wk_of [(0,.id 0)] rfl ⟨wc0,wa0,wa0,trivial⟩ ⟨wb0,trivial⟩)) ?_
 intro k hk hP
 conv=>whnf
 refine ⟨fun hd=>?_,fun hd=>?_⟩
 ·have hd:=of_decide_eq_true hd
  have hlt:k<x.favour.length:=by omega
  have hek:(k:Int).toNat=k:=Int.toNat_natCast k
  have hm:x.favour.getD k []∈x.favour:=getD_mem hlt
  have hn:=b9 _ hm
  conv=>whnf
  refine iO ?_;conv=>whnf
  refine And.intro rfl ?_;conv=>whnf
  rw [hek]
  conv=>whnf
  refine ⟨fun he=>?_,fun he=>?_⟩
  ·have hf:fewF (x.favour.getD k [])=false:=by unfold fewF;rw [he];rfl
   rw [show fewX x=false by unfold fewX;rw [all_false hm hf];simp]
   conv=>whnf
   rfl
  ·have he:fewF (x.favour.getD k [])=true:=by unfold fewF;rw [he];rfl
   conv=>whnf
   refine iO ?_;conv=>whnf
   refine up hlt (fun j hj=>?_) ((wk_of [(0,.id 0)] rfl ⟨wc0,wa0,wa0,trivial⟩ ⟨wb0,trivial⟩))
   by_cases e:j=k
   ·subst e;exact he
   ·exact hP j om0
 have hd:=of_decide_eq_false hd
 obtain rfl:k=x.favour.length:=by omega
 have hall_favour:x.favour.all fewF=true:=all_true hP
 conv=>whnf
 rw [show fewX x=true by unfold fewX;rw [hf0,hall_lets,hall_cov,hall_favour];rfl]
 rfl
theorem eqfR_ok (l r:List LetE) (hl:l.length≤9223372036854775807) (hr:r.length≤9223372036854775807) (hc:∀ x∈l,∀ y∈r,APureV Tryz.prog 32 [encL x,encL y] (.bool (decide (x=y)))) :
  APureV Tryz.prog 31 [.sl 6 encL l0 l,.sl 6 encL l0 r,.fn (.func 32) [] []] (.bool (decide (l=r))):=by
 refine aO (cxOk 32 [0,1,2,6,7,8,9,14,15,16,17,18,30]) Tryz.func31 ?_
 conv=>whnf
 refine ⟨fun hlen=>?_,fun hlen=>?_⟩
 ·have hne:¬ l=r:=by
   intro h
   rw [h] at hlen
   simp at hlen
  rw [decide_eq_false hne]
  conv=>whnf
  rfl
 have hlen:l.length=r.length:=by simp at hlen;omega
 conv=>whnf
 refine loop_up (cxOk _ _) l.length (fun k=>∀ j,j<k→l.getD j l0=r.getD j l0) (fun k=>⟨[(0,.sl 6 encL l0 l),(1,.sl 6 encL l0 r),(2,.fn (.func 32) [] []),(6,.bool false),(15,.sl 6 encL l0 l),(16,.int .i64 (l.length:Nat)),(17,.int .i64 (k:Nat))],[],0⟩) (by intro j hj;omega) ((wk_of [] rfl ⟨wa0,wa0,.fn _ _ _ _ _ ae0 ae0,wa0,wa0,wa0,wa0,trivial⟩ trivial)) ?_
 intro k hk hP
 conv=>whnf
 refine ⟨fun hd=>?_,fun hd=>?_⟩
 ·have hd:=of_decide_eq_true hd
  have hlt:k<l.length:=by omega
  have hek:(k:Int).toNat=k:=Int.toNat_natCast k
  have h:=hc _ (getD_mem (d:=l0) hlt) _ (getD_mem (d:=l0) (show k<r.length by omega))
  conv=>whnf
  refine iO ?_;conv=>whnf
  refine And.intro rfl ?_;conv=>whnf
  refine iO ?_;conv=>whnf
  refine And.intro rfl ?_;conv=>whnf
  rw [hek]
  conv=>whnf
  refine cO (fun _=>h) ?_
  conv=>whnf
  refine ⟨fun he=>?_,fun he=>?_⟩
  ·have hne:¬ l=r:=by
    intro h
    rw [h] at he
    simp at he
   rw [decide_eq_false hne]
   conv=>whnf
   rfl
  ·have he:l.getD k l0=r.getD k l0:=by simpa using he
   conv=>whnf
   refine iO ?_;conv=>whnf
   refine up hlt (fun j hj=>?_) ((wk_of [] rfl ⟨wa0,wa0,.fn _ _ _ _ _ ae0 ae0,wa0,wa0,wa0,wa0,trivial⟩ trivial))
   by_cases e:j=k
   ·subst e;exact he
   ·exact hP j om0
 ·have hd:=of_decide_eq_false hd
  have he:l=r:=list_eq (d:=l0) hlen fun j hj=>hP j (by omega)
  rw [decide_eq_true he]
  conv=>whnf
  rfl
theorem resc_ok (a b:LetE) (ha:OkE a.body) (hb:OkE b.body):APureV Tryz.prog 32 [encL a,encL b] (.bool (decide (a=b))):=by
 have h:=same_ok a.body b.body ha hb
 rw [eqL_dec]
 refine aO (cxOk 17 [0,1,2,3,4]) Tryz.func32 ?_
 conv=>whnf
 refine cO (fun _=>h) ?_
 conv=>whnf
 rfl
end Go.Proofs.YtohankpncipefaaGreatDoor
