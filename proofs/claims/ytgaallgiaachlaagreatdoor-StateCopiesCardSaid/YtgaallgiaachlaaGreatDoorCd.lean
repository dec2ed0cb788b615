import Derived.Test.YtgaallgiaachlaaGreatDoorCc
namespace Go.Proofs.YtgaallgiaachlaaGreatDoor
open Go.Own
set_option maxHeartbeats 8000000
set_option maxRecDepth 100000
abbrev tabK (N:Nat):Tabs:=⟨fun g=>if g=N then some (fun _=>True) else tab0.held g⟩
theorem own_at {m:Ids} {S:Blocks} {w:World} {id:Nat} {v:Value} {e E:Nat} {X:Type} {enc:X→AV} {d:X} {xs:List X} (hr:RelV m S w v (.own id)) (hb:RelB m S w id (.row e E enc d xs)) :
  ∃ (a:Option Addr) (c:Nat) (vs:List Value),v=.slice a xs.length c∧m id=some v∧RowRel S w e E (xs.map enc) v vs:=by
 obtain ⟨u,vs,hm,hrow⟩:=hb
 cases hr with
 | t _ _ h=>cases h
 | own _ n cap a h =>
  rw [hm] at h
  cases h
  obtain ⟨hlen,ho⟩:=hrow.owns
  rw [List.length_map] at ho
  rcases ho with ⟨h1,h0⟩ | ⟨g,cap',cur,h1,_⟩
  ·cases h1
   rw [h0]
   exact ⟨_,_,vs,rfl,by rw [hm],hrow⟩
  ·cases h1
   exact ⟨_,_,vs,rfl,by rw [hm],hrow⟩
abbrev objsH {X Y:Type} (el:X→AV) (dl:X) (ls:List X) (ep:Y→AV) (dp:Y) (ps:List Y) (s:Sta):Heap:=[(0,.cells 28 (celOwn s)),(1,.row 3 1 encI 0 s.cash),(2,.row 3 1 encI 0 s.purses),(3,.row 41 5 encFa fa0 s.facts),(4,.row 43 6 encPa pa0 s.payments),(5,.row 47 10 el dl ls),(6,.row 64 6 ep dp ps)]
theorem copy_open {T:Tabs} {f:FuncId} {X Y:Type} {el:X→AV} {dl:X} {ls:List X} {ep:Y→AV} {dp:Y} {ps:List Y} {s:Sta}
  (hc:@RIO T Tryz.prog f [encSt s] [] 0 (fun vs bs es=>vs=[.agg (celOwn s)]∧bs=[]∧es=[.cells 28 (celOwn s),.row 3 1 encI 0 s.cash,.row 3 1 encI 0 s.purses,.row 41 5 encFa fa0 s.facts,.row 43 6 encPa pa0 s.payments,.row 47 10 el dl ls,.row 64 6 ep dp ps]))
  {S:Blocks} {w:World} {va:Value} (hS:∀ g,S g→g<w.heap.size) (htab:@TabAt T S w) (hv:RelT S w va (encSt s)) :
  Calls Tryz.prog f #[va] w fun e w'=>∃ (v:Value) (m:Ids) (S':Blocks),e=.returned v∧@Go.Own.Good T m S' w' (objsH el dl ls ep dp ps s)∧(∀ g,S g→S' g)∧(∀ g,S' g→S g∨w.heap.size≤g)∧(∀ g,own m (objsH el dl ls ep dp ps s) g→w.heap.size≤g) ∧
   RowKit.Below w.heap.size w w'∧RelV m S' w' v (.agg [.int .i64 s.day,.own 1,.own 2,.int .i64 s.outside,.own 5,.own 3,.own 4,.own 6]):=by
 have hc:=hc [] 0 [] rfl List.nodup_nil (by simp) (by simp)
 have hno:∀ g,¬ own (fun _=>none) ([]:Heap) g:=fun g ⟨i,v,_,h,_⟩=>by cases h
 have hG:@Go.Own.Good T (fun _=>none) S w []:=⟨fun id=>trivial,fun i j vi vj k _ _ h=>(by cases h),fun g hg=>⟨hS g hg,fun i v _ h=>by cases h⟩,htab⟩
 refine (hc.2 (fun _=>none) S w [] [va] hG (by simp) (fun i _ _=>rfl) rfl (fun j v a h1 h2=>?_)).mono ?_
 ·cases j with
  | zero =>
   simp only [List.getElem?_cons_zero,Option.some.injEq] at h1
   subst h1
   have h2:some (encSt s)=some a:=h2
   cases h2
   exact .t _ _ hv
  | succ j=>simp at h1
 ·rintro e w' ⟨v,r,m',S',rfl,⟨vs,bs,es,⟨rfl,rfl,rfl⟩,_,rfl⟩,hE,hr⟩
  exact ⟨v,m',S',rfl,hE.good,hE.ros,fun g hg=>(hE.fresh g hg).imp id fun h=>h.resolve_left (hno g),fun g hg=>(hE.owns g hg).resolve_left (hno g),hE.far.below fun k _=>hno k,hr⟩
theorem copy_tree {T:Tabs} {X Y:Type} {el:X→AV} {dl:X} {ls:List X} {ep:Y→AV} {dp:Y} {ps:List Y} {s:Sta} {m:Ids} {S':Blocks} {w':World} {v:Value} (hG:@Go.Own.Good T m S' w' (objsH el dl ls ep dp ps s))
  (hl:LeT (.sl 10 el dl ls) (.sl 10 encLi li0 s.lines)) (hp:LeT (.sl 6 ep dp ps) (.sl 6 encPr pr0 s.proposals))
  (hr:RelV m S' w' v (.agg [.int .i64 s.day,.own 1,.own 2,.int .i64 s.outside,.own 5,.own 3,.own 4,.own 6])):RelT (fun g=>S' g∨own m (objsH el dl ls ep dp ps s) g) w' v (encSt s):=by
 have hlend:∃ t,Lend (objsH el dl ls ep dp ps s) (.agg [.int .i64 s.day,.own 1,.own 2,.int .i64 s.outside,.own 5,.own 3,.own 4,.own 6])
   (.agg [.int .i64 s.day,.sl 1 encI 0 s.cash,.sl 1 encI 0 s.purses,.int .i64 s.outside,.sl 10 el dl ls,.sl 5 encFa fa0 s.facts,.sl 6 encPa pa0 s.payments,.sl 6 ep dp ps]) t :=
  ⟨_,.agg _ _ _ (.cons (.base (.base (.same _ rfl))) (.cons (.base (.base (.row _ _ _ _ _ _ rfl))) (.cons (.base (.base (.row _ _ _ _ _ _ rfl))) (.cons (.base (.base (.same _ rfl))) (.cons (.base (.base (.row _ _ _ _ _ _ rfl))) (.cons (.base (.base (.row _ _ _ _ _ _ rfl)))
   (.cons (.base (.base (.row _ _ _ _ _ _ rfl))) (.cons (.base (.base (.row _ _ _ _ _ _ rfl))) .nil))))))))⟩
 obtain ⟨t,hlend⟩:=hlend
 have ht:=lend_ok (objsH el dl ls ep dp ps s) _ _ _ hlend m S' w' (objsH el dl ls ep dp ps s) (fun g=>S' g∨own m (objsH el dl ls ep dp ps s) g) v hG (fun _ _=>rfl) (fun g hg=>.inl hg) (fun g ⟨i,u,_,h1,h2,h3⟩=>.inr ⟨i,u,h1,h2,h3⟩) hr
 cases ht with
 | agg cs l hl' h =>
  refine .agg _ _ hl' fun j c a hj ha=>?_
  match j,ha with
  | 0,ha=>exact h 0 c a hj ha
  | 1,ha=>exact h 1 c a hj ha
  | 2,ha=>exact h 2 c a hj ha
  | 3,ha=>exact h 3 c a hj ha
  | 4,ha=>cases ha;exact hl _ _ _ (h 4 c _ hj rfl)
  | 5,ha=>exact h 5 c a hj ha
  | 6,ha=>exact h 6 c a hj ha
  | 7,ha=>cases ha;exact hp _ _ _ (h 7 c _ hj rfl)
  | j+8,ha=>simp at ha
theorem st_cells {S:Blocks} {w:World} {v:Value} {s:Sta} (h:RelT S w v (encSt s)):∃ (d0 d3:Int) (a1 a2 a4 a5 a6 a7:Option Addr) (n1 n2 n4 n5 n6 n7 p1 p2 p4 p5 p6 p7:Nat),
  v=.agg #[.int .i64 d0,.slice a1 n1 p1,.slice a2 n2 p2,.int .i64 d3,.slice a4 n4 p4,.slice a5 n5 p5,.slice a6 n6 p6,.slice a7 n7 p7]:=by
 have hs:∀ {X:Type} {E:Nat} {enc:X→AV} {d:X} {xs:List X} {c:Value},RelT S w c (.sl E enc d xs)→∃ a n p,c=.slice a n p:=by
  intro X E enc d xs c h
  cases h with
  | sl _ _ _ _ _ h =>
   generalize xs.map enc=l at h
   cases h with
   | lslnil=>exact ⟨_,_,_,rfl⟩
   | lslz=>exact ⟨_,_,_,rfl⟩
   | lsl=>exact ⟨_,_,_,rfl⟩
 cases h with
 | agg cs l hl h =>
  obtain ⟨cs⟩:=cs
  match cs,hl,h with
  | [c0,c1,c2,c3,c4,c5,c6,c7],_,h =>
   have h0:=h 0 c0 _ rfl rfl
   obtain ⟨a1,n1,p1,rfl⟩:=hs (h 1 c1 _ rfl rfl)
   obtain ⟨a2,n2,p2,rfl⟩:=hs (h 2 c2 _ rfl rfl)
   have h3:=h 3 c3 _ rfl rfl
   obtain ⟨a4,n4,p4,rfl⟩:=hs (h 4 c4 _ rfl rfl)
   obtain ⟨a5,n5,p5,rfl⟩:=hs (h 5 c5 _ rfl rfl)
   obtain ⟨a6,n6,p6,rfl⟩:=hs (h 6 c6 _ rfl rfl)
   obtain ⟨a7,n7,p7,rfl⟩:=hs (h 7 c7 _ rfl rfl)
   cases h0
   cases h3
   exact ⟨_,_,_,_,_,_,_,_,_,_,_,_,_,_,_,_,_,_,_,_,rfl⟩
theorem zt122 {p:Prop}(h:p:=by
 rw [List.getElem?_map,List.getElem?_map,List.getElem?_eq_getElem hi,List.getD_eq_getElem?_getD,List.getElem?_eq_getElem hi]
 rfl):p:=h
theorem copy_kit (s:Sta) (h:OkC s) {S:Blocks} {w:World} {va:Value} {N:Nat} (hS:∀ g,S g→g<w.heap.size) (hSN:S N) (hNc:∃ cs e fz,w.heap[N]?=some (.cells cs e fz)) (htab:@TabAt tab0 S w) (hn:tab0.held N=none) (hv:RelT S w va (encSt s)) :
  Calls Tryz.prog 18 #[va] w fun e w'=>∃ (d0 d3:Int) (a1 a2 a4 a5 a6 a7:Option Addr) (n1 n2 n4 n5 n6 n7 p1 p2 p4 p5 p6 p7:Nat),
   e=.returned (.agg #[.int .i64 d0,.slice a1 n1 p1,.slice a2 n2 p2,.int .i64 d3,.slice a4 n4 p4,.slice a5 n5 p5,.slice a6 n6 p6,.slice a7 n7 p7])∧RowKit.Below w.heap.size w w' ∧
   (∃ Sb:Blocks,RelT Sb w' (.agg #[.int .i64 d0,.slice a1 n1 p1,.slice a2 n2 p2,.int .i64 d3,.slice a4 n4 p4,.slice a5 n5 p5,.slice a6 n6 p6,.slice a7 n7 p7]) (encSt s)∧(∀ g,Sb g→g<w'.heap.size)∧∀ g,S g→Sb g) ∧
   ∃ Wr,CopyF N Wr s w' (.slice a1 n1 p1) (.slice a4 n4 p4) (.slice a6 n6 p6) (.slice a7 n7 p7):=by
 have hK:(tabK N).held N=some (fun _=>True):=by
  show (if N=N then _ else _)=_
  rw [if_pos rfl]
 have hT:∀ g Q,tab0.held g=some Q→(tabK N).held g=some Q:=fun g Q hg=>by
  show (if g=N then _ else _)=_
  rw [if_neg (fun e=>by subst e;rw [hn] at hg;cases hg)]
  exact hg
 have hta:@TabAt (tabK N) S w:=fun g Q hg=>by
  have hg:(if g=N then some (fun _=>True) else tab0.held g)=some Q:=hg
  by_cases e:g=N
  ·rw [if_pos e] at hg
   cases hg
   subst e
   obtain ⟨cs,e,fz,hc⟩:=hNc
   exact ⟨hSN,cs,e,fz,hc,trivial⟩
  ·rw [if_neg e] at hg
   exact htab g Q hg
 refine (copy_open (@copy_low (tabK N) N hK hT s h) hS hta hv).mono ?_
 rintro e w' ⟨v,m,S',rfl,hG,hSS,hfr,hown,hb,hr⟩
 clear hK hT hta
 generalize tabK N=T at hG
 have ht:=copy_tree hG (leT_lines N s.lines) (leT_pros N s.proposals) hr
 obtain ⟨d0,d3,a1,a2,a4,a5,a6,a7,n1,n2,n4,n5,n6,n7,p1,p2,p4,p5,p6,p7,rfl⟩:=st_cells ht
 have hsz:N<w.heap.size:=hS N hSN
 have hlt:∀ g,own m (objsH (encLiB N) lb0 (s.lines.map fun x=>((true,true,true),x)) (encPrB N) pb0 (s.proposals.map fun x=>((true,true),x)) s) g→g<w'.heap.size:=fun g ⟨i,u,h1,h2,h3⟩=>(hG.rel i).blk_lt h1 h2 h3
 refine ⟨d0,d3,a1,a2,a4,a5,a6,a7,n1,n2,n4,n5,n6,n7,p1,p2,p4,p5,p6,p7,rfl,hb,⟨_,ht,fun g hg=>hg.elim (fun h=>(hG.ro g h).1) (hlt g),fun g hg=>.inl (hSS g hg)⟩,?_⟩
 obtain ⟨cs,he,hcsz,hcs⟩:=relV_agg hr
 cases he
 have k1:=hcs 1 _ _ rfl rfl
 have k4:=hcs 4 _ _ rfl rfl
 have k6:=hcs 6 _ _ rfl rfl
 have k7:=hcs 7 _ _ rfl rfl
 obtain ⟨b1,c1,vs1,e1,m1,w1⟩:=own_at k1 (hG.rel 1)
 obtain ⟨b4,c4,vs4,e4,m4,w4⟩:=own_at k4 (hG.rel 5)
 obtain ⟨b6,c6,vs6,e6,m6,w6⟩:=own_at k6 (hG.rel 4)
 obtain ⟨b7,c7,vs7,e7,m7,w7⟩:=own_at k7 (hG.rel 6)
 cases e1
 cases e4
 cases e6
 cases e7
 have o1:∀ g,blk (.slice a1 s.cash.length p1)=some g→N<g∧g<w'.heap.size:=fun g hg=>by
  have:=hown g ⟨1,_,rfl,m1,hg⟩
  have:=hlt g ⟨1,_,rfl,m1,hg⟩
  omega
 have o6:∀ g,blk (.slice a6 s.payments.length p6)=some g→N<g∧g<w'.heap.size:=fun g hg=>by
  have:=hown g ⟨4,_,rfl,m6,hg⟩
  have:=hlt g ⟨4,_,rfl,m6,hg⟩
  omega
 refine ⟨fun g=>blk (.slice a1 s.cash.length p1)=some g∨blk (.slice a6 s.payments.length p6)=some g∨(S' g∧N<g),?_,?_,?_,?_,?_⟩
 ·rintro g (hg | hg | hg)
  ·exact o1 g hg
  ·exact o6 g hg
  ·exact ⟨hg.2,(hG.ro g hg.1).1⟩
 ·have:=leaf_row (Wr:=fun g=>blk (.slice a1 s.cash.length p1)=some g∨blk (.slice a6 s.payments.length p6)=some g∨(S' g∧N<g)) w1 fun g hg=>.inl hg
  rwa [List.length_map] at this
 ·have:=leaf_row (Wr:=fun g=>blk (.slice a1 s.cash.length p1)=some g∨blk (.slice a6 s.payments.length p6)=some g∨(S' g∧N<g)) w6 fun g hg=>.inr (.inl hg)
  rwa [List.length_map] at this
 ·refine ⟨a4,p4,by rw [List.length_map],fun i hi=>?_⟩
  obtain ⟨hlen,ho⟩:=w4.owns
  rcases ho with ⟨_,h0⟩ | ⟨g,cap,cur,h1,_,hh,hnc,hcm,hcs',htake⟩
  ·simp only [List.length_map] at h0
   omega
  ·simp only [List.length_map] at h1
   cases h1
   refine ⟨g,rfl,?_,(Array.getElem?_eq_some_iff.1 hh).1,?_⟩
   ·rintro (hg | hg | hg)
    ·exact absurd (hG.sep 5 1 _ _ g rfl rfl m4 m1 rfl hg) dd0
    ·exact absurd (hG.sep 5 4 _ _ g rfl rfl m4 m6 rfl hg) dd0
    ·exact (hG.ro g hg.1).2 5 _ rfl m4 rfl
   ·have hx:((s.lines.map fun x=>((true,true,true),x)).map (encLiB N))[i]?=some (encLiB N ((true,true,true),s.lines.getD i li0)):=by
     exact zt122
    have key:∀ j,j<10→∀ a,(encLiB N ((true,true,true),s.lines.getD i li0)).cells[j]?=some a→∃ u,w'.cell? ⟨g,i*10+j,none⟩=some u∧RelT S' w' u a:=by
     intro j hj a ha
     have hf:(flat ((s.lines.map fun x=>((true,true,true),x)).map (encLiB N)))[i*10+j]?=some a:=by rw [flat_get _ w4.size i j _ hx hj];exact ha
     have hjl:i*10+j<vs4.length:=by
      rw [hlen]
      simp only [List.length_map]
      omega
     have hu:vs4[i*10+j]?=some vs4[i*10+j]:=List.getElem?_eq_getElem hjl
     refine ⟨_,?_,w4.rel _ _ _ hu hf⟩
     have:=w4.owns.cells (g:=g) rfl _ _ hu
     rwa [Addr.add_mid,Nat.zero_add] at this
    obtain ⟨u1,x1,y1⟩:=key 1 (by omega) _ rfl
    obtain ⟨u2,x2,y2⟩:=key 2 (by omega) _ rfl
    obtain ⟨u3,x3,y3⟩:=key 4 (by omega) _ rfl
    exact ⟨u1,u2,u3,x1,x2,x3,leaf_sem om0 y1 fun g h1 h2=>.inr (.inr ⟨h1,h2⟩),leaf_sem om0 y2 fun g h1 h2=>.inr (.inr ⟨h1,h2⟩),leaf_sem om0 y3 fun g h1 h2=>.inr (.inr ⟨h1,h2⟩)⟩
 ·refine ⟨a7,p7,by rw [List.length_map],fun i hi=>?_⟩
  obtain ⟨hlen,ho⟩:=w7.owns
  rcases ho with ⟨_,h0⟩ | ⟨g,cap,cur,h1,_,hh,hnc,hcm,hcs',htake⟩
  ·simp only [List.length_map] at h0
   omega
  ·simp only [List.length_map] at h1
   cases h1
   refine ⟨g,rfl,?_,(Array.getElem?_eq_some_iff.1 hh).1,?_⟩
   ·rintro (hg | hg | hg)
    ·exact absurd (hG.sep 6 1 _ _ g rfl rfl m7 m1 rfl hg) dd0
    ·exact absurd (hG.sep 6 4 _ _ g rfl rfl m7 m6 rfl hg) dd0
    ·exact (hG.ro g hg.1).2 6 _ rfl m7 rfl
   ·have hx:((s.proposals.map fun x=>((true,true),x)).map (encPrB N))[i]?=some (encPrB N ((true,true),s.proposals.getD i pr0)):=by
     exact zt122
    have key:∀ j,j<6→∀ a,(encPrB N ((true,true),s.proposals.getD i pr0)).cells[j]?=some a→∃ u,w'.cell? ⟨g,i*6+j,none⟩=some u∧RelT S' w' u a:=by
     intro j hj a ha
     have hf:(flat ((s.proposals.map fun x=>((true,true),x)).map (encPrB N)))[i*6+j]?=some a:=by rw [flat_get _ w7.size i j _ hx hj];exact ha
     have hjl:i*6+j<vs7.length:=by
      rw [hlen]
      simp only [List.length_map]
      omega
     have hu:vs7[i*6+j]?=some vs7[i*6+j]:=List.getElem?_eq_getElem hjl
     refine ⟨_,?_,w7.rel _ _ _ hu hf⟩
     have:=w7.owns.cells (g:=g) rfl _ _ hu
     rwa [Addr.add_mid,Nat.zero_add] at this
    obtain ⟨u1,x1,y1⟩:=key 3 (by omega) _ rfl
    obtain ⟨u2,x2,y2⟩:=key 4 (by omega) _ rfl
    exact ⟨u1,u2,x1,x2,leaf_sem om0 y1 fun g h1 h2=>.inr (.inr ⟨h1,h2⟩),leaf_sem om0 y2 fun g h1 h2=>.inr (.inr ⟨h1,h2⟩)⟩
def StAt (S:Blocks) (s:Sta) (W:World) (v:Value):Prop:=∃ Sb:Blocks,RelT Sb W v (encSt s)∧(∀ g,Sb g→g<W.heap.size)∧∀ g,S g→Sb g
theorem StAt.below {S:Blocks} {s:Sta} {W W':World} {v:Value} (h:StAt S s W v) (hb:RowKit.Below W.heap.size W W'):StAt S s W' v:=by
 obtain ⟨Sb,h1,h2,h3⟩:=h
 exact ⟨Sb,h1.mono (fun _ h=>h) fun g hg=>hb.block g (h2 g hg),fun g hg=>Nat.lt_of_lt_of_le (h2 g hg) hb.size,h3⟩
theorem StAt.both {S:Blocks} {s:Sta} {W:World} {u v:Value} (h:StAt S s W u) (k:StAt S s W v):∃ Sb:Blocks,RelT Sb W u (encSt s)∧RelT Sb W v (encSt s)∧(∀ g,Sb g→g<W.heap.size)∧∀ g,S g→Sb g:=by
 obtain ⟨Sb,h1,h2,h3⟩:=h
 obtain ⟨Sc,k1,k2,_⟩:=k
 exact ⟨fun g=>Sb g∨Sc g,h1.more fun _=>.inl,k1.more fun _=>.inr,fun g hg=>hg.elim (h2 g) (k2 g),fun g hg=>.inl (h3 g hg)⟩
theorem same_kit (s:Sta) (o:OkS s) {S:Blocks} {W:World} {u v:Value} (htab:@TabAt tab0 S W) (h:StAt S s W u) (k:StAt S s W v) :
  Calls Tryz.prog 12 #[u,v] W fun e w'=>e=.returned (.bool true)∧RowKit.Below W.heap.size W w':=by
 obtain ⟨Sb,h1,h2,h3,h4⟩:=h.both k
 have g:=same12 s s o o
 rw [decide_eq_true rfl] at g
 refine (g.2 Sb W [u,v] h3 (htab.mono h4 fun _ _=>rfl) ⟨rfl,fun j x a hx ha=>?_⟩).mono ?_
 ·match j,hx,ha with
  | 0,hx,ha=>cases hx;cases ha;exact h1
  | 1,hx,ha=>cases hx;cases ha;exact h2
  | j+2,hx,ha=>simp at hx
 ·rintro e w' ⟨us,rs,S',rfl,rfl,hL⟩
  have hl:=hL.len
  match us,hl with
  | [u],_ =>
   have hr:RelT S' w' u (.bool true):=hL.rel 0 u _ rfl rfl
   cases hr
   exact ⟨rfl,hL.below⟩
theorem bool_kit {f:FuncId} {args:List AV} {b:Bool} (g:APureV Tryz.prog f args (.bool b)) {S:Blocks} {W:World} {us:List Value} (htab:@TabAt tab0 S W) (hS:∀ g,S g→g<W.heap.size) (h:RelTs S W us args) :
  Calls Tryz.prog f us.toArray W fun e w'=>e=.returned (.bool b)∧RowKit.Below W.heap.size W w':=by
 refine (g.2 S W us hS htab h).mono ?_
 rintro e w' ⟨us,rs,S',rfl,rfl,hL⟩
 have hl:=hL.len
 match us,hl with
 | [u],_ =>
  have hr:RelT S' w' u (.bool b):=hL.rel 0 u _ rfl rfl
  cases hr
  exact ⟨rfl,hL.below⟩
theorem stay_kit {S S':Blocks} {s:Sta} {w w1 w':World} {v:Value} (hS:∀ g,S g→g<w.heap.size) (hw:RowKit.Below w.heap.size w w1) (hb:RowKit.Below w1.heap.size w1 w') (ht:RelT S' w' v (encSt s)) (hlt:∀ g,S' g→g<w'.heap.size)
  (hfr:∀ g,S' g→S g∨w1.heap.size≤g) (hSS:∀ g,S g→S' g) (W:World) (hW:RowKit.Below w.heap.size w W) (hk:∀ g,w1.heap.size≤g→g<w'.heap.size→W.heap[g]?=w'.heap[g]?):StAt S s W v:=by
 refine ⟨S',ht.mono (fun _ h=>h) fun g hg=>?_,fun g hg=>?_,hSS⟩
 rotate_left
 ·rcases hfr g hg with h | h
  ·exact Nat.lt_of_lt_of_le (hS g h) hW.size
  ·have:=hk g h (hlt g hg)
   rw [Array.getElem?_eq_getElem (hlt g hg)] at this
   exact (Array.getElem?_eq_some_iff.1 this).1
 rcases hfr g hg with h | h
 ·rw [hW.block g (hS g h),hb.block g (Nat.lt_of_lt_of_le (hS g h) hw.size),hw.block g (hS g h)]
 ·exact hk g h (hlt g hg)
theorem copies_no (s:Sta) (o:OkS s) (hf:fewS s=false):APureV Tryz.prog 7 [encSt s] (.bool true):=by
 have g0:=small_ok
 have g1:=few9 s o
 rw [hf] at g1
 refine aW (cxOk 182 [0,1,2,3,4,5,6,7,8,9,10,11,12,13,14,15,19,36,41,52,63,82,101,117,129,140,159]) Tryz.func7 ?_
 conv=>whnf
 refine cO (fun _=>g0) (cW ?_)
 refine cO (fun _=>g1) (cW ?_)
 refine nE (cW ?_)
 exact zt146
theorem law_copies (s:Sta) (o:OkS s):APureV Tryz.prog 7 [encSt s] (.bool true):=by
 cases hf:fewS s with
 | false=>exact copies_no s o hf
 | true =>
  have hok:OkC s:=(few_of hf).okC
  refine ⟨⟨Tryz.f7,Tryz.func7,rfl,by decide⟩,fun S w vs hS hT hv=>?_⟩
  match vs,hv with
  | [va],⟨_,hv⟩ =>
   have h0:RelT S w va (encSt s):=hv 0 va _ rfl rfl
   obtain ⟨d0,d3,a1,a2,a4,a5,a6,a7,n1,n2,n4,n5,n6,n7,p1,p2,p4,p5,p6,p7,rfl⟩:=st_cells h0
   have hn:tab0.held w.heap.size=none:=by
    cases h:tab0.held w.heap.size with
    | none=>rfl
    | some Q=>exact absurd (hS _ (hT _ Q h).1) (Nat.lt_irrefl _)
   -- the state,in any later world
   have hA:∀ W,RowKit.Below w.heap.size w W→@TabAt tab0 S W∧(∀ g,S g→g<W.heap.size)∧RelT S W (.agg #[.int .i64 d0,.slice a1 n1 p1,.slice a2 n2 p2,.int .i64 d3,.slice a4 n4 p4,.slice a5 n5 p5,.slice a6 n6 p6,.slice a7 n7 p7]) (encSt s):=fun W hb =>
    ⟨hT.mono (fun _ h=>h) fun g hg=>hb.block g (hS g hg),fun g hg=>Nat.lt_of_lt_of_le (hS g hg) hb.size,h0.mono (fun _ h=>h) fun g hg=>hb.block g (hS g hg)⟩
   have hSt:∀ W,RowKit.Below w.heap.size w W→StAt S s W (.agg #[.int .i64 d0,.slice a1 n1 p1,.slice a2 n2 p2,.int .i64 d3,.slice a4 n4 p4,.slice a5 n5 p5,.slice a6 n6 p6,.slice a7 n7 p7]):=fun W hb =>
    ⟨S,(hA W hb).2.2,(hA W hb).2.1,fun _ h=>h⟩
   refine (law7_walk s hok w _ _ _ _ _ _ _ _ (StAt S s) (StAt S s) (StAt S s) ?_ ?_ ?_ ?_ ?_ ?_ ?_ ?_).mono ?_
   ·intro w1 hb
    exact bool_kit small_ok (hA w1 hb).1 (hA w1 hb).2.1 ⟨rfl,fun j x a hx ha=>by simp at hx⟩
   ·intro w1 hb
    have g:=few9 s o
    rw [hf] at g
    exact bool_kit (us:=[_]) g (hA w1 hb).1 (hA w1 hb).2.1 ⟨rfl,fun j x a hx ha=>by
     match j,hx,ha with
     | 0,hx,ha=>cases hx;cases ha;exact (hA w1 hb).2.2
     | j+1,hx,ha=>simp at hx⟩
   ·intro w1 hb hbx
    have hlt:w.heap.size<w1.heap.size:=(Array.getElem?_eq_some_iff.1 hbx).1
    refine (copy_kit s hok (S:=fun g=>S g∨g=w.heap.size) (N:=w.heap.size) (fun g hg=>?_) (.inr rfl) ⟨_,_,_,hbx⟩ ((hA w1 hb).1.mono (fun _=>.inl) fun _ _=>rfl) hn ((hA w1 hb).2.2.more fun _=>.inl)).mono ?_
    ·rcases hg with hg | rfl
     ·exact (hA w1 hb).2.1 g hg
     ·exact hlt
    ·rintro e w' ⟨b0,b3,x1,x2,x4,x5,x6,x7,m1,m2,m4,m5,m6,m7,q1,q2,q4,q5,q6,q7,rfl,hb',⟨Sb,h1,h2,h3⟩,hC⟩
     exact ⟨b0,b3,x1,x2,x4,x5,x6,x7,m1,m2,m4,m5,m6,m7,q1,q2,q4,q5,q6,q7,rfl,hb',⟨Sb,h1,h2,fun g hg=>h3 g (.inl hg)⟩,hC⟩
   ·intro w1 hb
    refine ((copy_ok s hok).2 S w1 [_] (hA w1 hb).2.1 (hA w1 hb).1 ⟨rfl,fun j x a hx ha=>?_⟩).mono ?_
    ·match j,hx,ha with
     | 0,hx,ha=>cases hx;cases ha;exact (hA w1 hb).2.2
     | j+1,hx,ha=>simp at hx
    ·rintro e w' ⟨us,rs,S',rfl,rfl,hL⟩
     have hl:=hL.len
     match us,hl with
     | [u],_ =>
      have hr:RelT S' w' u (encSt s):=hL.rel 0 u _ rfl rfl
      obtain ⟨b0,b3,x1,x2,x4,x5,x6,x7,m1,m2,m4,m5,m6,m7,q1,q2,q4,q5,q6,q7,rfl⟩:=st_cells hr
      exact ⟨b0,b3,x1,x2,x4,x5,x6,x7,m1,m2,m4,m5,m6,m7,q1,q2,q4,q5,q6,q7,rfl,hL.below,fun W hW hk=>stay_kit hS hb hL.below hr hL.lt hL.fresh hL.ros W hW hk⟩
   ·intro w1 hb
    refine (copy_open (copied_r s hok) (hA w1 hb).2.1 (hA w1 hb).1 (hA w1 hb).2.2).mono ?_
    rintro e w' ⟨v,m,S',rfl,hG,hSS,hfr,hown,hb',hr⟩
    have ht:=copy_tree hG (leT_refl _) (leT_refl _) hr
    obtain ⟨b0,b3,x1,x2,x4,x5,x6,x7,m1,m2,m4,m5,m6,m7,q1,q2,q4,q5,q6,q7,rfl⟩:=st_cells ht
    exact ⟨b0,b3,x1,x2,x4,x5,x6,x7,m1,m2,m4,m5,m6,m7,q1,q2,q4,q5,q6,q7,rfl,hb',fun W hW hk=>stay_kit hS hb hb' ht (fun g hg=>hg.elim (fun h=>(hG.ro g h).1) fun ⟨i,u,h1,h2,h3⟩=>(hG.rel i).blk_lt h1 h2 h3)
     (fun g hg=>hg.elim (hfr g) fun h=>.inr (hown g h)) (fun g hg=>.inl (hSS g hg)) W hW hk⟩
   ·intro w4 vb w1 hb hP hb4
    exact same_kit s o (hA w1 hb).1 (hSt w1 hb) (hP.below hb4)
   ·intro w4 vb vc w1 hb hP hb4 hC
    exact same_kit s o (hA w1 hb).1 (hP.below hb4) hC
   ·intro vc w1 hb hC
    exact same_kit s o (hA w1 hb).1 (hSt w1 hb) hC
   ·rintro e w' ⟨rfl,hb⟩
    refine ⟨[.bool true],_,S,rfl,rfl,⟨rfl,fun j u r hj hr=>?_,hb,fun _ h=>h,fun _ h=>.inl h,(hA w' hb).2.1,fun i u b k h1 h2=>?_⟩⟩
    ·cases j with
     | zero=>cases hj;cases hr;exact .bool true
     | succ j=>simp at hj
    ·cases i with
     | zero=>cases h2
     | succ i=>simp at h2
end Go.Proofs.YtgaallgiaachlaaGreatDoor
