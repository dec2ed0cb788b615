import Derived.Test.YtlmgomgpiideoaaGreatDoorCb
import Derived.Lib.ItoaLen
import Derived.Test.YtlmgomgpiideoaaGreatDoorLd
import Derived.Lay
import Derived.Lib.LaidTab
import Derived.LaidLaws
import Derived.KernelRfl
import Derived.Test.YtlmgomgpiideoaaGreatDoorRows
namespace Go.Proofs.YtlmgomgpiideoaaGreatDoor
open Go.Own
set_option maxHeartbeats 40000000
set_option maxRecDepth 100000
theorem rightexp2_ok (e:Exp) (hok:OkE e):APureV Tryz.prog 26 [encE e] (.bool (rightE e)):=by
 have h:=right2_ok 12 e (by decide) hok
 refine aO (cxOk 5 [0,1,2]) Tryz.func26 ?_
 conv=>whnf
 refine cO (fun _=>h) ?_
 conv=>whnf
 rfl
theorem fits2_ok (s:List UInt8) (hs:s.length≤9223372036854775807):APure Tryz.prog 71 [.str s] (fun rs=>rs=[.val (.str (fitsT s).1),.val (.int .i64 (fitsT s).2)]):=by
 unfold fitsT
 refine aO (cxOk 8 [0,2,3,6]) Tryz.func71 ?_
 conv=>whnf
 refine ⟨fun h=>?_,fun h=>?_⟩
 ·have h:=of_decide_eq_true h
  rw [if_pos (by omega)]
  conv=>whnf
  rfl
 ·have h:=of_decide_eq_false h
  rw [if_neg (by omega)]
  conv=>whnf
  rfl
theorem names_ok (l:List (List UInt8)) (most:Int) (hm0:0≤most) (hl:l.length≤9223372036854775807) (hs:∀ s∈l,s.length≤9223372036854775807):APureV Tryz.prog 81 [encSs l,.int .i64 most] (.bool (uniqB l most)):=by
 refine aO (cxOk 42 [0,1,4,5,6,15,23,26,37]) Tryz.func81 ?_
 conv=>whnf
 refine loop_inv (cxOk _ _) (fun k:Nat=>k≤l.length∧∀ j,j<k→uqB l j=true) (fun k=>l.length-k) (fun k=>⟨[(0,encSs l),(1,.int .i64 most),(4,.bool false),(5,.int .i64 (k:Nat))],[],0⟩) 0 ⟨by omega,by intro j hj;omega⟩ ((wk_of [] rfl ⟨wa0,wa0,wa0,wa0,trivial⟩ trivial)) ?_
 intro k ⟨hk,hP⟩
 conv=>whnf
 by_cases hgo:k<l.length∧(k:Int)≤most
 ·obtain ⟨hlt,hkm⟩:=hgo
  refine ⟨fun _=>?_,fun hx=>(by simp at hx;omega)⟩
  have hek:(k:Int).toNat=k:=Int.toNat_natCast k
  have hm:l.getD k []∈l:=getD_mem hlt
  have hn:=name2_ok (l.getD k []) (hs _ hm)
  conv=>whnf
  refine iO ?_;conv=>whnf
  refine And.intro rfl ?_;conv=>whnf
  rw [hek]
  conv=>whnf
  refine cO (fun _=>hn) ?_
  conv=>whnf
  refine ⟨fun hb=>?_,fun hb=>?_⟩
  ·have h1:uqB l k=false:=by
    unfold uqB
    rw [show nameB (l.getD k [])=false by simpa using hb]
    rfl
   have hq:uniqB l most=false:=by
    unfold uniqB
    rw [show ((List.range l.length).all fun k=>uqB l k)=false by
     rw [List.all_eq_false]
     exact ⟨k,List.mem_range.2 hlt,by rw [h1];decide⟩]
    rfl
   rw [hq]
   conv=>whnf
   rfl
  have hb:nameB (l.getD k [])=true:=by simpa using hb
  conv=>whnf
  refine loop_up (cxOk _ _) k (fun j=>∀ i,i<j→l.getD i []≠l.getD k []) (fun j=>⟨[(0,encSs l),(1,.int .i64 most),(4,.bool false),(5,.int .i64 (k:Nat)),(6,.int .i64 (j:Nat))],[],0⟩) (by intro j hj;omega) ((wk_of [] rfl ⟨wa0,wa0,wa0,wa0,wa0,trivial⟩ trivial)) ?_
  intro j hj hQ
  conv=>whnf
  refine ⟨fun hd=>?_,fun hd=>?_⟩
  ·have hd:=of_decide_eq_true hd
   have hjt:j<k:=by omega
   have hej:(j:Int).toNat=j:=Int.toNat_natCast j
   conv=>whnf
   refine .eff ae0 ?_;conv=>whnf
   refine iO ?_;conv=>whnf
   refine And.intro rfl ?_;conv=>whnf
   refine iO ?_;conv=>whnf
   refine And.intro rfl ?_;conv=>whnf
   refine And.intro rfl ?_;conv=>whnf
   rw [hek,hej]
   refine ⟨fun he=>?_,fun he=>?_⟩
   ·have he:=of_decide_eq_true he
    have h1:uqB l k=false:=by
     have:l.getD k []∈l.take k:=by
      rw [← he]
      have hjl:j<(l.take k).length:=by rw [List.length_take];omega
      have:(l.take k).getD j []=l.getD j []:=by
       rw [List.getD_eq_getElem?_getD,List.getD_eq_getElem?_getD,List.getElem?_take,if_pos hjt]
      rw [← this]
      exact getD_mem hjl
     unfold uqB
     rw [decide_eq_true this]
     simp
    have hq:uniqB l most=false:=by
     unfold uniqB
     rw [show ((List.range l.length).all fun k=>uqB l k)=false by
      rw [List.all_eq_false]
      exact ⟨k,List.mem_range.2 hlt,by rw [h1];decide⟩]
     rfl
    rw [hq]
    conv=>whnf
    rfl
   ·have he:=of_decide_eq_false he
    conv=>whnf
    refine iO ?_;conv=>whnf
    refine up hjt (fun i hi=>?_) ((wk_of [] rfl ⟨wa0,wa0,wa0,wa0,wa0,trivial⟩ trivial))
    by_cases e:i=j
    ·subst e;exact he
    ·exact hQ i om0
  ·have hd:=of_decide_eq_false hd
   obtain rfl:j=k:=by omega
   have h1:uqB l j=true:=by
    have:¬ l.getD j []∈l.take j:=by
     intro hmem
     obtain ⟨i,hi,e⟩:=mem_getD (d:=[]) hmem
     rw [List.length_take] at hi
     have e2:(l.take j).getD i []=l.getD i []:=by
      rw [List.getD_eq_getElem?_getD,List.getD_eq_getElem?_getD,List.getElem?_take,if_pos (by omega)]
     rw [e2] at e
     exact hQ i om0 e
    unfold uqB
    rw [hb,decide_eq_false this]
    rfl
   conv=>whnf
   refine iO ?_
   conv=>whnf
   exact ⟨j+1,⟨by omega,fun i hi=>by
    by_cases e:i=j
    ·subst e;exact h1
    ·exact hP i (by omega)⟩,(by show l.length-(j+1)<l.length-j;omega),(wk_of [] rfl ⟨wa0,wa0,wa0,wa0,trivial⟩ trivial)⟩
 ·refine ⟨fun hx=>(by simp at hx;omega),fun _=>?_⟩
  have he:uniqB l most=decide ((l.length:Int)≤most):=by
   unfold uniqB
   by_cases hc:(l.length:Int)≤most
   ·have hke:k=l.length:=by omega
    subst hke
    rw [show ((List.range l.length).all fun k=>uqB l k)=true by rw [List.all_eq_true];intro j hj;exact hP j (List.mem_range.1 hj)]
    rfl
   ·rw [decide_eq_false hc,Bool.and_false]
  rw [he]
  conv=>whnf
  rfl
theorem inB_of {a b n:Int} (h:a≤n∧n≤b):inB a b [n]=true:=by
 rw [inB_eq,decide_eq_true h.1,decide_eq_true h.2]
 rfl
theorem inB_iff {a b n:Int}:inB a b [n]=true↔a≤n∧n≤b:=by
 rw [inB_eq]
 simp
theorem rightfn2_ok (x:Ind) (hx:OkX x):APureV Tryz.prog 24 [encX x] (.bool (rightI x)):=by
 have hn1:=name2_ok x.name hx.name
 have hn2:=name2_ok x.issuer hx.issuer
 have hu:=names_ok x.favour 20 (by omega) hx.favour hx.fav1
 have hre:=rightexp2_ok x.coupon hx.coupon
 have hlets:=hx.lets
 have hcov:=hx.cov
 have hcalls:=hx.calls
 refine aO (cxOk 207 [0,1,2,3,4,5,6,7,8,9,10,117,122,141,146,175,180,200]) Tryz.func24 ?_
 conv=>whnf
 refine cO (fun _=>hn1) ?_
 conv=>whnf
 refine cO (fun _=>hn2) ?_
 conv=>whnf
 refine cO (fun _=>within_ok x.face 1 1000000000000000) ?_
 conv=>whnf
 refine cO (fun _=>within_ok x.frm 0 200000) ?_
 conv=>whnf
 refine cO (fun _=>within_ok x.to 0 200000) ?_
 conv=>whnf
 refine cO (fun _=>within_ok x.every 1 120) ?_
 conv=>whnf
 refine cO (fun _=>within_ok x.count 0 2) ?_
 conv=>whnf
 refine cO (fun _=>within_ok x.adjust 0 3) ?_
 conv=>whnf
 refine cO (fun _=>within_ok x.record 0 100) ?_
 conv=>whnf
 refine cO (fun _=>within_ok x.rank 0 9) ?_
 conv=>whnf
 refine cO (fun _=>hre) ?_
 conv=>whnf
 refine cO (fun _=>within_ok x.cap 0 10000) ?_
 conv=>whnf
 refine cO (fun _=>within_ok x.cross (-1) 1000000000000000) ?_
 conv=>whnf
 refine cO (fun _=>within_ok x.notice 0 1000) ?_
 conv=>whnf
 refine cO (fun _=>within_ok x.sink 0 1000) ?_
 conv=>whnf
 refine cO (fun _=>within_ok x.majority 1 1000) ?_
 conv=>whnf
 refine cO (fun _=>within_ok x.fast 1 1000) ?_
 conv=>whnf
 refine cO (fun _=>hu) ?_
 conv=>whnf
 refine ⟨fun hb=>?_,fun hb=>?_⟩
 ·have hf:rightI x=false:=by
   cases hr:rightI x with
   | false=>rfl
   | true =>
    have R:=(right_iff x).1 hr
    rw [R.name,R.issuer,inB_of R.face,inB_of R.frm,inB_of R.to,inB_of R.every,inB_of R.count,inB_of R.adjust,inB_of R.record,inB_of R.rank,R.coupon,inB_of R.cap,inB_of R.cross,inB_of R.notice,inB_of R.sink,inB_of R.majority,inB_of R.fast,R.fav] at hb
    have h1:=R.before
    have h2:=R.ncalls
    simp at hb
    omega
  rw [hf]
  conv=>whnf
  rfl
 simp only [Bool.or_eq_false_iff,Bool.not_eq_false',Bool.and_eq_true,decide_eq_true_eq,inB_iff] at hb
 obtain ⟨⟨⟨⟨⟨⟨⟨⟨b1,b2⟩,b3⟩,b4⟩,b5⟩,b6⟩,b7⟩,⟨⟨⟨⟨b8,b9⟩,b10⟩,b11⟩,b12⟩,b13⟩,⟨⟨⟨⟨⟨b14,b15⟩,b16⟩,b17⟩,b18⟩,b19⟩,b20⟩:=hb
 conv=>whnf
 refine loop_up (cxOk _ _) x.lets.length (fun k=>∀ j,j<k→rightE (x.lets.getD j l0).body=true) (fun k=>⟨[(1,.ptr 0 0),(2,.bool false),(6,.own 1),(7,.int .i64 (k:Nat))],[(0,.cells 31 (celX x)),(1,.row 9 1 encS [] ((x.lets.take k).map LetE.name))],2⟩) (by intro j hj;omega) ((wk_of [(0,.id 0),(1,.nil)] rfl ⟨wc0,wa0,ah0,wa0,trivial⟩ ⟨wb0,⟨_,rfl,ag0⟩,trivial⟩)) ?_
 intro k hk hP
 conv=>whnf
 refine ⟨fun hd=>?_,fun hd=>?_⟩
 ·have hd:=of_decide_eq_true hd
  have hlt:k<x.lets.length:=by omega
  have hek:(k:Int).toNat=k:=Int.toNat_natCast k
  have hm:x.lets.getD k l0∈x.lets:=getD_mem hlt
  have hr1:=rightexp2_ok _ (hx.let1 _ hm).2
  conv=>whnf
  refine iO ?_;conv=>whnf
  refine And.intro rfl ?_;conv=>whnf
  refine And.intro rfl ?_;conv=>whnf
  rw [hek]
  conv=>whnf
  refine And.intro ⟨rfl,rfl⟩ (And.intro (by show ((List.map LetE.name (List.take k x.lets)).length+1)*16≤140737488355328;rw [List.length_map,List.length_take];omega) ?_)
  conv=>whnf
  refine Exists.intro _ (And.intro rfl ?_);conv=>whnf
  refine iO ?_;conv=>whnf
  refine And.intro rfl ?_;conv=>whnf
  rw [hek]
  conv=>whnf
  refine cO (fun _=>hr1) ?_
  conv=>whnf
  refine ⟨fun hq=>?_,fun hq=>?_⟩
  ·have hf:rightI x=false:=by
    cases hr:rightI x with
    | false=>rfl
    | true =>
     have:=((right_iff x).1 hr).lets _ hm
     rw [this] at hq
     cases hq
   rw [hf]
   conv=>whnf
   rfl
  ·have hq:rightE (x.lets.getD k l0).body=true:=by simpa using hq
   conv=>whnf
   refine iO ?_;conv=>whnf
   refine up hlt (fun j hj=>?_) ((wk_of [(0,.id 0),(1,.id 3)] rfl ⟨wc0,wa0,ah0,wa0,trivial⟩ ⟨wb0,⟨_,rfl,(by first | exact .row _ _ _ _ _ _ _ rfl (by rw [take_getD (d:=l0) hlt,List.map_append];rfl) | exact .lstrow _ _ _ _ _ _ _ rfl (by rw [take_getD (d:=l0) hlt,List.map_append];rfl) | exact .nilrow _ _ _ _ _ (by rw [take_getD (d:=l0) hlt,List.map_append];rfl) | exact .truncrow _ _ _ _ _ _ _ _ rfl (by omega) (by rw [take_getD (d:=l0) hlt,List.map_append];rfl))⟩,trivial⟩))
   by_cases e:j=k
   ·subst e;exact hq
   ·exact hP j om0
 have hd:=of_decide_eq_false hd
 obtain rfl:k=x.lets.length:=by omega
 conv=>whnf
 rw [List.take_length]
 have hLets:∀ l∈x.lets,rightE l.body=true:=by
  intro l hl
  obtain ⟨j,hj,e⟩:=mem_getD (d:=l0) hl
  have:=hP j hj
  rw [e] at this
  exact this
 refine loop_up (cxOk _ _) x.cov.length (fun k=>∀ j,j<k→rightE (x.cov.getD j c0).must=true∧inB 0 1000 [(x.cov.getD j c0).grace]=true) (fun k=>⟨[(1,.ptr 0 0),(2,.bool false),(6,.own 1),(8,.own 2),(9,.int .i64 (k:Nat))],[(0,.cells 31 (celX x)),(1,.row 9 1 encS [] (x.lets.map LetE.name)),(2,.row 9 1 encS [] ((x.cov.take k).map Cov.name))],3⟩) (by intro j hj;omega) ((wk_of [(0,.id 0),(1,.id 1),(2,.nil)] rfl ⟨wc0,wa0,ah0,ah0,wa0,trivial⟩ ⟨wb0,⟨_,rfl,ag0⟩,⟨_,rfl,ag0⟩,trivial⟩)) ?_
 intro k hk hP
 conv=>whnf
 refine ⟨fun hd=>?_,fun hd=>?_⟩
 ·have hd:=of_decide_eq_true hd
  have hlt:k<x.cov.length:=by omega
  have hek:(k:Int).toNat=k:=Int.toNat_natCast k
  have hm:x.cov.getD k c0∈x.cov:=getD_mem hlt
  have hr1:=rightexp2_ok _ (hx.cov1 _ hm).2.1
  conv=>whnf
  refine iO ?_;conv=>whnf
  refine And.intro rfl ?_;conv=>whnf
  refine And.intro rfl ?_;conv=>whnf
  rw [hek]
  conv=>whnf
  refine And.intro ⟨rfl,rfl⟩ (And.intro (by show ((List.map Cov.name (List.take k x.cov)).length+1)*16≤140737488355328;rw [List.length_map,List.length_take];omega) ?_)
  conv=>whnf
  refine Exists.intro _ (And.intro rfl ?_);conv=>whnf
  refine iO ?_;conv=>whnf
  refine And.intro rfl ?_;conv=>whnf
  rw [hek]
  conv=>whnf
  refine cO (fun _=>hr1) ?_
  conv=>whnf
  refine And.intro (fun _=>⟨by omega,by omega⟩) ?_
  conv=>whnf
  refine And.intro rfl ?_
  conv=>whnf
  rw [hek]
  conv=>whnf
  refine cO (fun _=>within_ok (x.cov.getD k c0).grace 0 1000) ?_
  conv=>whnf
  refine ⟨fun hq=>?_,fun hq=>?_⟩
  ·have hf:rightI x=false:=by
    cases hr:rightI x with
    | false=>rfl
    | true =>
     have:=((right_iff x).1 hr).cov _ hm
     rw [this.1,inB_of this.2] at hq
     cases hq
   rw [hf]
   conv=>whnf
   rfl
  ·have hq:rightE (x.cov.getD k c0).must=true∧inB 0 1000 [(x.cov.getD k c0).grace]=true:=by simpa using hq
   conv=>whnf
   refine iO ?_;conv=>whnf
   refine up hlt (fun j hj=>?_) ((wk_of [(0,.id 0),(1,.id 1),(2,.id 4)] rfl ⟨wc0,wa0,ah0,ah0,wa0,trivial⟩ ⟨wb0,⟨_,rfl,ag0⟩,⟨_,rfl,(by first | exact .row _ _ _ _ _ _ _ rfl (by rw [take_getD (d:=c0) hlt,List.map_append];rfl) | exact .lstrow _ _ _ _ _ _ _ rfl (by rw [take_getD (d:=c0) hlt,List.map_append];rfl) | exact .nilrow _ _ _ _ _ (by rw [take_getD (d:=c0) hlt,List.map_append];rfl) | exact .truncrow _ _ _ _ _ _ _ _ rfl (by omega) (by rw [take_getD (d:=c0) hlt,List.map_append];rfl))⟩,trivial⟩))
   by_cases e:j=k
   ·subst e;exact hq
   ·exact hP j om0
 have hd:=of_decide_eq_false hd
 obtain rfl:k=x.cov.length:=by omega
 conv=>whnf
 rw [List.take_length]
 have hCov:∀ c∈x.cov,rightE c.must=true∧0≤c.grace∧c.grace≤1000:=by
  intro c hc
  obtain ⟨j,hj,e⟩:=mem_getD (d:=c0) hc
  have:=hP j hj
  rw [e] at this
  exact ⟨this.1,inB_iff.1 this.2⟩
 refine loop_up (cxOk _ _) x.calls.length (fun k=>∀ j,j<k→inB 0 200000 [(x.calls.getD j k0).a]=true∧inB 0 10000 [(x.calls.getD j k0).b]=true) (fun k=>⟨[(1,.ptr 0 0),(2,.bool false),(6,.own 1),(8,.own 2),(10,.int .i64 (k:Nat))],[(0,.cells 31 (celX x)),(1,.row 9 1 encS [] (x.lets.map LetE.name)),(2,.row 9 1 encS [] (x.cov.map Cov.name))],3⟩) (by intro j hj;omega) ((wk_of [(0,.id 0),(1,.id 1),(2,.id 2)] rfl ⟨wc0,wa0,ah0,ah0,wa0,trivial⟩ ⟨wb0,⟨_,rfl,ag0⟩,⟨_,rfl,ag0⟩,trivial⟩)) ?_
 intro k hk hP
 conv=>whnf
 refine ⟨fun hd=>?_,fun hd=>?_⟩
 ·have hd:=of_decide_eq_true hd
  have hlt:k<x.calls.length:=by omega
  have hek:(k:Int).toNat=k:=Int.toNat_natCast k
  have hm:x.calls.getD k k0∈x.calls:=getD_mem hlt
  conv=>whnf
  refine iO ?_;conv=>whnf
  refine And.intro rfl ?_;conv=>whnf
  rw [hek]
  conv=>whnf
  refine cO (fun _=>within_ok (x.calls.getD k k0).a 0 200000) ?_
  conv=>whnf
  refine And.intro (fun _=>⟨by omega,by omega⟩) ?_
  conv=>whnf
  refine And.intro rfl ?_
  conv=>whnf
  rw [hek]
  conv=>whnf
  refine cO (fun _=>within_ok (x.calls.getD k k0).b 0 10000) ?_
  conv=>whnf
  refine ⟨fun hq=>?_,fun hq=>?_⟩
  ·have hf:rightI x=false:=by
    cases hr:rightI x with
    | false=>rfl
    | true =>
     have:=((right_iff x).1 hr).calls _ hm
     rw [inB_of this.1,inB_of this.2] at hq
     cases hq
   rw [hf]
   conv=>whnf
   rfl
  ·have hq:inB 0 200000 [(x.calls.getD k k0).a]=true∧inB 0 10000 [(x.calls.getD k k0).b]=true:=by simpa using hq
   conv=>whnf
   refine iO ?_;conv=>whnf
   refine up hlt (fun j hj=>?_) ((wk_of [(0,.id 0),(1,.id 1),(2,.id 2)] rfl ⟨wc0,wa0,ah0,ah0,wa0,trivial⟩ ⟨wb0,⟨_,rfl,ag0⟩,⟨_,rfl,ag0⟩,trivial⟩))
   by_cases e:j=k
   ·subst e;exact hq
   ·exact hP j om0
 have hd:=of_decide_eq_false hd
 obtain rfl:k=x.calls.length:=by omega
 have hCal:∀ c∈x.calls,(0≤c.a∧c.a≤200000)∧0≤c.b∧c.b≤10000:=by
  intro c hc
  obtain ⟨j,hj,e⟩:=mem_getD (d:=k0) hc
  have:=hP j hj
  rw [e] at this
  exact ⟨inB_iff.1 this.1,inB_iff.1 this.2⟩
 have u1:=names_ok (x.lets.map LetE.name) 20 (by omega) (by rw [List.length_map];omega) (by
  intro s hs
  obtain ⟨l,hl,rfl⟩:=List.mem_map.1 hs
  exact (hx.let1 l hl).1)
 have u2:=names_ok (x.cov.map Cov.name) 20 (by omega) (by rw [List.length_map];omega) (by
  intro s hs
  obtain ⟨l,hl,rfl⟩:=List.mem_map.1 hs
  exact (hx.cov1 l hl).1)
 have hfin:rightI x=(uniqB (x.lets.map LetE.name) 20&&uniqB (x.cov.map Cov.name) 20):=by
  cases hu1:(uniqB (x.lets.map LetE.name) 20&&uniqB (x.cov.map Cov.name) 20) with
  | true =>
   rw [Bool.and_eq_true] at hu1
   exact (right_iff x).2 ⟨b4,b5,b6,b3,b7,b8,b9,b10,b11,b13,b14,b15,b16,b17,b18,b1,b2,by omega,b19,hu1.1,hu1.2,b12,hLets,hCov,hCal⟩
  | false =>
   cases hr:rightI x with
   | false=>rfl
   | true =>
    have R:=(right_iff x).1 hr
    rw [R.ulets,R.ucov] at hu1
    cases hu1
 rw [hfin]
 conv=>whnf
 refine cO (fun _=>u1) ?_
 conv=>whnf
 refine cO (fun _=>u2) ?_
 conv=>whnf
 rfl
theorem nDigits_le:∀ (k u:Nat),1≤k→u<10 ^ k→Lib.nDigits u≤k
 | 0,_,h,_=>absurd h (by decide)
 | k+1,u,_,h=>by
  by_cases hu:u<10
  ·rw [Lib.nDigits_small hu];omega
  ·have hk:1≤k:=by
    rcases Nat.eq_zero_or_pos k with rfl | h'
    ·rw [Nat.zero_add,Nat.pow_one] at h;omega
    ·exact h'
   rw [Lib.nDigits_big hu]
   rw [Nat.pow_succ] at h
   have:=nDigits_le k (u / 10) hk (by omega)
   omega
theorem itoa_len20 (n:Int) (h:in64 n):(Lib.itoa n).length≤20:=by
 obtain ⟨h0,h1⟩:=h
 by_cases hneg:n<0
 ·obtain ⟨u,rfl⟩:∃ u:Nat,n=-(u:Int):=⟨n.natAbs,by omega⟩
  rw [Lib.itoa_neg u (by omega),List.length_cons,Lib.decDigits_length]
  have:=nDigits_le 19 u (by omega) (by omega)
  omega
 ·obtain ⟨u,rfl⟩:∃ u:Nat,n=u:=⟨n.toNat,by omega⟩
  rw [Lib.itoa_nonneg,Lib.decDigits_length]
  have:=nDigits_le 19 u (by omega) (by omega)
  omega
theorem decDigits_rec (u:Nat):Lib.decDigits u=if u<10 then [UInt8.ofNat (48+u)] else Lib.decDigits (u / 10)++[UInt8.ofNat (48+u % 10)]:=by
 rw [Lib.decDigits]
 split<;>rfl
theorem dig_nat (d:Nat) (h:d<10):(UInt8.ofNat (48+d)).toNat=48+d:=by
 rw [UInt8.toNat_ofNat']
 omega
theorem digits_ok (u:Nat):u≤9223372036854775808→APureV Tryz.prog 158 [.int .i64 (-(u:Int))] (.str (Lib.decDigits u)):=by
 induction u using Nat.strongRecOn with
 | _ u ih =>
  intro hu
  have hm:(-(u:Int)).tmod 10=-((u % 10:Nat):Int):=by
   rw [Int.neg_tmod,Int.tmod_eq_emod_of_nonneg (by omega)]
   omega
  have hq:(-(u:Int)).tdiv 10=-((u / 10:Nat):Int):=by
   rw [Int.neg_tdiv,Int.tdiv_eq_ediv_of_nonneg (by omega)]
   omega
  have hlt:u % 10<10:=Nat.mod_lt _ (by decide)
  have hrec:=decDigits_rec u
  have hlen:(Lib.decDigits (u / 10)).length≤20:=by
   rw [Lib.decDigits_length]
   have:=nDigits_le 19 (u / 10) (by omega) (by omega)
   omega
  refine aO (cxOk 18 [0,2,3,11]) Tryz.func158 ?_
  conv=>whnf
  refine And.intro dd0 ?_
  conv=>whnf
  rw [hm]
  refine iO ?_;conv=>whnf
  refine And.intro rfl ?_;conv=>whnf
  refine ⟨[UInt8.ofNat (48+u % 10)],?_,?_⟩
  ·show [AV.int .u8 (IntKind.u8.wrap (48 - -((u % 10:Nat):Int)))]=[AV.int .u8 ((UInt8.ofNat (48+u % 10)).toNat:Int)]
   rw [dig_nat _ hlt,IntWalk.u8_in _ (by omega)]
   congr 2
   omega
  conv=>whnf
  refine ⟨fun hc=>?_,fun hc=>?_⟩
  ·have hc:=of_decide_eq_true hc
   rw [if_pos (by omega)] at hrec
   conv=>whnf
   rw [hrec,show u % 10=u by omega]
   rfl
  ·have hc:=of_decide_eq_false hc
   rw [if_neg (by omega)] at hrec
   have h1:=ih (u / 10) (by omega) (by omega)
   rw [← hq] at h1
   conv=>whnf
   refine And.intro dd0 ?_
   conv=>whnf
   refine iO ?_;conv=>whnf
   refine cO (fun _=>h1) ?_
   conv=>whnf
   refine And.intro (show (((Lib.decDigits (u / 10)).length+1:Nat):Int)≤9223372036854775807 by omega) ?_
   conv=>whnf
   rw [hrec]
   rfl
theorem digits_neg (u:Nat) (h:u≤9223372036854775808):APureV Tryz.prog 158 [.int .i64 (0-(u:Int))] (.str (Lib.decDigits u)):=by
 have:=digits_ok u h
 rw [show -(u:Int)=0-u by omega] at this
 exact this
theorem rint_enc (n:Int) (hn:in64 n):APureV Tryz.prog 91 [.int .i64 n] (.str (Lib.itoa n++[59])):=by
 have hl:=itoa_len20 n hn
 obtain ⟨h0,h1⟩:=hn
 by_cases hneg:n<0
 ·obtain ⟨u,rfl⟩:∃ u:Nat,n=-(u:Int):=⟨n.natAbs,by omega⟩
  rw [Lib.itoa_neg u (by omega)] at hl ⊢
  rw [List.length_cons] at hl
  have hd:=digits_ok u (by omega)
  refine aO (cxOk 13 [0,2,4]) Tryz.func91 ?_
  conv=>whnf
  refine ⟨fun hc=>?_,fun hc=>?_⟩
  ·conv=>whnf
   refine cO (fun _=>hd) ?_
   conv=>whnf
   refine And.intro (show ((1+(Lib.decDigits u).length:Nat):Int)≤9223372036854775807 by omega) ?_
   conv=>whnf
   refine And.intro (show ((((45::Lib.decDigits u).length+1:Nat)):Int)≤9223372036854775807 by rw [List.length_cons];omega) ?_
   conv=>whnf
   rfl
  ·have:=of_decide_eq_false hc
   omega
 ·obtain ⟨u,rfl⟩:∃ u:Nat,n=u:=⟨n.toNat,by omega⟩
  rw [Lib.itoa_nonneg] at hl ⊢
  have hd:=digits_neg u (by omega)
  refine aO (cxOk 13 [0,2,4]) Tryz.func91 ?_
  conv=>whnf
  refine ⟨fun hc=>?_,fun hc=>?_⟩
  ·have:=of_decide_eq_true hc
   omega
  ·conv=>whnf
   refine iO ?_;conv=>whnf
   refine cO (fun _=>hd) ?_
   conv=>whnf
   refine And.intro (show (((Lib.decDigits u).length+1:Nat):Int)≤9223372036854775807 by omega) ?_
   conv=>whnf
   rfl
theorem decimal_ok (n:Int) (hn:in64 n):APureV Tryz.prog 31 [.int .i64 n] (.str (Lib.itoa n)):=by
 have h:=rint_enc n hn
 have hl:=itoa_len20 n hn
 refine aO (cxOk 11 [0,2,3]) Tryz.func31 ?_
 conv=>whnf
 refine cO (fun _=>h) ?_
 conv=>whnf
 have e:((Lib.itoa n++[59]).length:Int)-1=(Lib.itoa n).length:=by rw [List.length_append];simp only [List.length_cons,List.length_nil];omega
 have e2:((Lib.itoa n++[59]).length:Int)=(Lib.itoa n).length+1:=by omega
 refine iO ?_
 conv=>whnf
 rw [e]
 refine And.intro ⟨by omega,by omega,by omega⟩ ?_
 conv=>whnf
 have e3:(Lib.itoa n++[59]).take (((Lib.itoa n).length:Nat):Int).toNat=Lib.itoa n:=by
  rw [Int.toNat_natCast]
  simp
 show [AR.val (AV.str ((Lib.itoa n++[59]).take (((Lib.itoa n).length:Nat):Int).toNat))]=_
 rw [e3]
def formT (op:Int):List UInt8 :=
 if op=15 then [105,102] else if op=14 then [111,114] else if op=13 then [97,110,100] else if op=12 then [110,111,116] else if op=11 then [61,61] else if op=10 then [60]
 else if op=4 then [43] else if op=5 then [45] else if op=6 then [42] else if op=7 then [47] else if op=8 then [109,105,110] else if op=9 then [109,97,120]
 else if op=16 then [101,118,101,114] else if op=17 then [108,111,110,103] else if op=18 then [115,111,111,110] else []
def formN (op:Int):Int :=
 if op=15 then 0 else if op=14 then 1 else if op=13 then 2 else if op=12 then 3 else if op=11∨op=10 then 4 else if op=4∨op=5 then 5 else if op=6∨op=7 then 6
 else if op=8∨op=9 then 7 else if op=16∨op=17∨op=18 then 8 else 7
theorem form2_ok (e:Exp):APure Tryz.prog 148 [encE e] (fun rs=>rs=[.val (.int .i64 (formN e.op)),.val (.str (formT e.op))]):=by
 have key:(e.op<4∨18<e.op)∨e.op=4∨e.op=5∨e.op=6∨e.op=7∨e.op=8∨e.op=9∨e.op=10∨e.op=11∨e.op=12∨e.op=13∨e.op=14∨e.op=15∨e.op=16∨e.op=17∨e.op=18:=by omega
 rcases key with h | h | h | h | h | h | h | h | h | h | h | h | h | h | h | h
 case inl =>
  have e1:formN e.op=7:=by
   unfold formN
   rw [if_neg (by omega),if_neg (by omega),if_neg (by omega),if_neg (by omega),if_neg (by omega),if_neg (by omega),if_neg (by omega),if_neg (by omega),if_neg (by omega)]
  have e2:formT e.op=[]:=by
   unfold formT
   rw [if_neg (by omega),if_neg (by omega),if_neg (by omega),if_neg (by omega),if_neg (by omega),if_neg (by omega),if_neg (by omega),if_neg (by omega),if_neg (by omega),if_neg (by omega),if_neg (by omega),if_neg (by omega),if_neg (by omega),if_neg (by omega),if_neg (by omega)]
  rw [e1,e2]
  refine aO (cxOk 36 [0,1,2,3,5,6,8,10,12,14,16,18,20,22,24,26,28,30,32,34]) Tryz.func148 ?_
  conv=>whnf
  repeat (first | (refine ⟨fun _=>?_,fun hx=>(by simp at hx;omega)⟩;conv=>whnf) | (refine ⟨fun hx=>(by simp at hx;omega),fun _=>?_⟩;conv=>whnf))
  rfl
 all_goals
  rw [show formN e.op=formN _ from congrArg formN h,show formT e.op=formT _ from congrArg formT h]
  refine aO (cxOk 36 [0,1,2,3,5,6,8,10,12,14,16,18,20,22,24,26,28,30,32,34]) Tryz.func148 ?_
  conv=>whnf
  repeat (first | (refine ⟨fun _=>?_,fun hx=>(by simp at hx;omega)⟩;conv=>whnf) | (refine ⟨fun hx=>(by simp at hx;omega),fun _=>?_⟩;conv=>whnf))
  rfl
def leafT (e:Exp):List UInt8:=if e.op=1 then e.s else if e.op=2 then [102,97,99,116,32]++e.s else if e.op=3 then [114,97,116,101,32]++e.s else numT e.n e.unit
theorem leaf_ok (e:Exp) (hn:in64 e.n) (hs:e.s.length≤1000000000000):APureV Tryz.prog 149 [encE e] (.str (leafT e)):=by
 have hi:=decimal_ok e.n hn
 have hl:=Lib.itoa_length_le e.n hn.1 hn.2
 have hv:numT e.n e.unit=if e.unit=4 then (if e.n=1 then [116,114,117,101] else [102,97,108,115,101]) else if e.unit=1 then Lib.itoa e.n++[32,99,111,105,110,115]
   else if e.unit=3 then Lib.itoa e.n++[32,100,97,121,115] else if e.unit=2 then Lib.itoa e.n++[32,109,105,108,108,101] else Lib.itoa e.n:=rfl
 unfold leafT
 refine aO (cxOk 47 [0,1,2,4,5,9,14,20,21,25,26,32,38]) Tryz.func149 ?_
 conv=>whnf
 refine ⟨fun h1=>?_,fun h1=>?_⟩
 ·rw [if_pos (of_decide_eq_true h1)]
  conv=>whnf
  rfl
 rw [if_neg (of_decide_eq_false h1)]
 conv=>whnf
 refine ⟨fun h2=>?_,fun h2=>?_⟩
 ·rw [if_pos (of_decide_eq_true h2)]
  conv=>whnf
  refine And.intro ab0 ?_
  conv=>whnf
  rfl
 rw [if_neg (of_decide_eq_false h2)]
 conv=>whnf
 refine ⟨fun h3=>?_,fun h3=>?_⟩
 ·rw [if_pos (of_decide_eq_true h3)]
  conv=>whnf
  refine And.intro ab0 ?_
  conv=>whnf
  rfl
 rw [if_neg (of_decide_eq_false h3),hv]
 conv=>whnf
 refine ⟨fun u4=>?_,fun u4=>?_⟩
 ·rw [if_pos (of_decide_eq_true u4)]
  conv=>whnf
  refine ⟨fun n1=>?_,fun n1=>?_⟩
  ·rw [if_pos (of_decide_eq_true n1)]
   conv=>whnf
   rfl
  ·rw [if_neg (of_decide_eq_false n1)]
   conv=>whnf
   rfl
 rw [if_neg (of_decide_eq_false u4)]
 conv=>whnf
 refine ⟨fun u1=>?_,fun u1=>?_⟩
 ·rw [if_pos (of_decide_eq_true u1)]
  conv=>whnf
  refine cO (fun _=>hi) ?_
  conv=>whnf
  refine And.intro ab0 ?_
  conv=>whnf
  rfl
 rw [if_neg (of_decide_eq_false u1)]
 conv=>whnf
 refine ⟨fun u3=>?_,fun u3=>?_⟩
 ·rw [if_pos (of_decide_eq_true u3)]
  conv=>whnf
  refine cO (fun _=>hi) ?_
  conv=>whnf
  refine And.intro ab0 ?_
  conv=>whnf
  rfl
 rw [if_neg (of_decide_eq_false u3)]
 conv=>whnf
 refine ⟨fun u2=>?_,fun u2=>?_⟩
 ·rw [if_pos (of_decide_eq_true u2)]
  conv=>whnf
  refine cO (fun _=>hi) ?_
  conv=>whnf
  refine And.intro ab0 ?_
  conv=>whnf
  rfl
 rw [if_neg (of_decide_eq_false u2)]
 conv=>whnf
 refine cO (fun _=>hi) ?_
 conv=>whnf
 rfl
theorem form_bin {op:Int} (h:op=4∨op=5∨op=6∨op=7∨op=10∨op=11∨op=13∨op=14):formN op=(opE op).form∧formT op=(opE op).text∧formT op≠[]:=by
 rcases h with h | h | h | h | h | h | h | h
 all_goals
  subst h
  decide
theorem form_lt (op least:Int) (hl:least≤7):formN op<least↔formO op<least:=by
 have key:(op<4∨18<op)∨op=4∨op=5∨op=6∨op=7∨op=8∨op=9∨op=10∨op=11∨op=12∨op=13∨op=14∨op=15∨op=16∨op=17∨op=18:=by omega
 rcases key with h | h | h | h | h | h | h | h | h | h | h | h | h | h | h | h
 case inl =>
  have e1:formN op=7:=by
   unfold formN
   rw [if_neg (by omega),if_neg (by omega),if_neg (by omega),if_neg (by omega),if_neg (by omega),if_neg (by omega),if_neg (by omega),if_neg (by omega),if_neg (by omega)]
  have e2:formO op=7:=by
   unfold formO oprI
   rw [if_neg (by omega),if_neg (by omega),if_pos]
   have:idxP (fun o:Opr=>decide (o.op=op)) oprL=-1:=by
    refine idxP_none (d:=o0) ?_
    intro j hj
    have hj8:j<8:=hj
    have:(oprL.getD j o0).op=14∨(oprL.getD j o0).op=13∨(oprL.getD j o0).op=11∨(oprL.getD j o0).op=10∨(oprL.getD j o0).op=4∨(oprL.getD j o0).op=5∨(oprL.getD j o0).op=6∨(oprL.getD j o0).op=7:=by
     match j,hj8 with
     | 0,_ | 1,_ | 2,_ | 3,_ | 4,_ | 5,_ | 6,_ | 7,_=>decide
    rw [decide_eq_false_iff_not]
    omega
   rw [this]
   decide
  rw [e1,e2]
 all_goals
  first
   | (have e:formN op=formO op:=(by rw [h];decide)
      rw [e])
   | (have e1:formN op=8:=(by rw [h];decide)
      have e2:formO op=7:=(by rw [h];decide)
      omega)
theorem show2_body (d:Nat) (e:Exp) (least:Int) (hle:¬ formN e.op<least) (hr:rightB (d+1) e=true) (hok:OkE e) (hd:d≤12)
  (ih:∀ (i:Nat) (l:Int),i<e.args.length→l≤7→APureV Tryz.prog 69 [encE (argOf e i),.int .i64 l] (.str (showT d (argOf e i) l))) :
  APureV Tryz.prog 69 [encE e,.int .i64 least] (.str (bodyT (d+1) e)):=by
 have hs:∀ (i:Nat) (l:Int),i<e.args.length→(showT d (argOf e i) l).length≤1100000000:=by
  intro i l hi
  have h1:=show_len d (argOf e i) l (right_arg hr (getD_argOf hi)) (hok.arg _ (getD_argOf hi))
  have h2:lenB d≤lenB 12:=by unfold lenB;exact Nat.mul_le_mul_left _ (Nat.pow_le_pow_right (by decide) hd)
  have h3:lenB 12=1073741824:=by decide
  omega
 have hal:=argsE_len e
 have hargs:=right_len hr
 have hf:=form2_ok e
 have hop:=right_op hr
 have hid:=decimal_ok e.n hok.n64
 have hil:=Lib.itoa_length_le e.n hok.n64.1 hok.n64.2
 rw [body_succ]
 by_cases hleaf:e.op=0∨e.op=1∨e.op=2∨e.op=3
 ·have hsl:e.s.length≤1000000000000:=by
   by_cases h:e.op=0
   ·rw [right_succ] at hr
    split at hr
    ·cases hr
    ·simp only [Bool.and_eq_true,decide_eq_true_eq] at hr
     rw [hr.1.1]
     simp
   ·have:=name_len (right_name hr (by omega))
    omega
  have hlf:=leaf_ok e hok.n64 hsl
  have e1:(formN e.op=7):=by rcases hleaf with h | h | h | h<;>rw [h]<;>rfl
  have e2:(formT e.op=[]):=by rcases hleaf with h | h | h | h<;>rw [h]<;>rfl
  rw [e1] at hle
  rw [e1,e2] at hf
  have hv:leafT e=if e.op=0 then numT e.n e.unit else if e.op=1 then e.s else if e.op=2 then [102,97,99,116,32]++e.s else [114,97,116,101,32]++e.s:=by
   unfold leafT
   rcases hleaf with h | h | h | h
   ·rw [if_neg (by omega),if_neg (by omega),if_neg (by omega),if_pos h]
   ·rw [if_pos h,if_neg (by omega),if_pos h]
   ·rw [if_neg (by omega),if_pos h,if_neg (by omega),if_neg (by omega),if_pos h]
   ·rw [if_neg (by omega),if_neg (by omega),if_pos h,if_neg (by omega),if_neg (by omega),if_neg (by omega)]
  rw [hv] at hlf
  have hgoal:∀ A B C D:List UInt8,∀ R:List UInt8,(if e.op=0 then A else if e.op=1 then B else if e.op=2 then C else if e.op=3 then D else R)=if e.op=0 then A else if e.op=1 then B else if e.op=2 then C else D:=by
   intro A B C D R
   rcases hleaf with h | h | h | h<;>simp [h]
  rw [hgoal]
  generalize (if e.op=0 then numT e.n e.unit else if e.op=1 then e.s else if e.op=2 then [102,97,99,116,32]++e.s else [114,97,116,101,32]++e.s)=z at *
  refine aO (cxOk 109 [0,1,2,4,5,6,7,15,21,25,41,59,81,90]) Tryz.func69 ?_
  conv=>whnf
  refine cO (fun _=>hf) ?_
  conv=>whnf
  refine ⟨fun hx=>absurd (of_decide_eq_true hx) hle,fun _=>?_⟩
  conv=>whnf
  refine ⟨fun _=>?_,fun hx=>(by simp at hx)⟩
  conv=>whnf
  refine cO (fun _=>hlf) ?_
  conv=>whnf
  rfl
 rw [if_neg (by omega),if_neg (by omega),if_neg (by omega),if_neg (by omega)]
 by_cases h15:e.op=15
 ·have e1:formN e.op=0:=by rw [h15];rfl
  have e2:formT e.op=[105,102]:=by rw [h15];rfl
  rw [e1] at hle
  rw [e1,e2] at hf
  rw [if_pos h15]
  have hl:e.args.length=3:=by rw [h15] at hargs;exact Int.ofNat.inj hargs
  have a0:=ih 0 0 (by omega) (by omega)
  have a1:=ih 1 0 (by omega) (by omega)
  have a2:=ih 2 0 (by omega) (by omega)
  have b0:=hs 0 0 (by omega)
  have b1:=hs 1 0 (by omega)
  have b2:=hs 2 0 (by omega)
  have g0:(argsE e).getD (Int.toNat 0) .undef=encE (argOf e 0):=argsE_get e (by omega)
  have g1:(argsE e).getD (Int.toNat 1) .undef=encE (argOf e 1):=argsE_get e (by omega)
  have g2:(argsE e).getD (Int.toNat 2) .undef=encE (argOf e 2):=argsE_get e (by omega)
  generalize showT d (argOf e 0) 0=s0 at *
  generalize showT d (argOf e 1) 0=s1 at *
  generalize showT d (argOf e 2) 0=s2 at *
  refine aO (cxOk 109 [0,1,2,4,5,6,7,15,21,25,41,59,81,90]) Tryz.func69 ?_
  conv=>whnf
  refine cO (fun _=>hf) ?_
  conv=>whnf
  refine ⟨fun hx=>absurd (of_decide_eq_true hx) hle,fun _=>?_⟩
  conv=>whnf
  refine ⟨fun hx=>(by simp at hx),fun _=>?_⟩
  conv=>whnf
  refine ⟨fun hx=>(by simp at hx),fun _=>?_⟩
  conv=>whnf
  refine ⟨fun hx=>(by simp at hx),fun _=>?_⟩
  conv=>whnf
  refine ⟨fun _=>?_,fun hx=>(by simp at hx)⟩
  conv=>whnf
  refine .quiet (by kernel_rfl) ?_;conv=>whnf
  refine iO ?_;conv=>whnf
  refine And.intro rfl ?_;conv=>whnf
  rw [g0]
  conv=>whnf
  refine .mk _ _ _ _ (fun _=>a0) af0 rfl ?_
  conv=>whnf
  refine And.intro ab0 ?_
  conv=>whnf
  refine And.intro ab0 ?_
  conv=>whnf
  refine iO ?_;conv=>whnf
  refine And.intro rfl ?_;conv=>whnf
  rw [g1]
  conv=>whnf
  refine .mk _ _ _ _ (fun _=>a1) af0 rfl ?_
  conv=>whnf
  refine And.intro ab0 ?_
  conv=>whnf
  refine And.intro ab0 ?_
  conv=>whnf
  refine iO ?_;conv=>whnf
  refine And.intro rfl ?_;conv=>whnf
  rw [g2]
  conv=>whnf
  refine .mk _ _ _ _ (fun _=>a2) af0 rfl ?_
  conv=>whnf
  refine And.intro ab0 ?_
  conv=>whnf
  rfl
 rw [if_neg h15]
 by_cases h12:e.op=12
 ·have e1:formN e.op=3:=by rw [h12];rfl
  have e2:formT e.op=[110,111,116]:=by rw [h12];rfl
  rw [e1] at hle
  rw [e1,e2] at hf
  rw [if_pos h12]
  have hl:e.args.length=1:=by rw [h12] at hargs;exact Int.ofNat.inj hargs
  have a0:=ih 0 3 (by omega) (by omega)
  have b0:=hs 0 3 (by omega)
  have g0:(argsE e).getD (Int.toNat 0) .undef=encE (argOf e 0):=argsE_get e (by omega)
  generalize showT d (argOf e 0) 3=s0 at *
  refine aO (cxOk 109 [0,1,2,4,5,6,7,15,21,25,41,59,81,90]) Tryz.func69 ?_
  conv=>whnf
  refine cO (fun _=>hf) ?_
  conv=>whnf
  refine ⟨fun hx=>absurd (of_decide_eq_true hx) hle,fun _=>?_⟩
  conv=>whnf
  refine ⟨fun hx=>(by simp at hx),fun _=>?_⟩
  conv=>whnf
  refine ⟨fun hx=>(by simp at hx),fun _=>?_⟩
  conv=>whnf
  refine ⟨fun hx=>(by simp at hx),fun _=>?_⟩
  conv=>whnf
  refine ⟨fun hx=>(by simp at hx),fun _=>?_⟩
  conv=>whnf
  refine ⟨fun _=>?_,fun hx=>(by simp at hx)⟩
  conv=>whnf
  refine iO ?_;conv=>whnf
  refine And.intro rfl ?_;conv=>whnf
  rw [g0]
  conv=>whnf
  refine cO (fun _=>a0) ?_
  conv=>whnf
  refine And.intro ab0 ?_
  conv=>whnf
  rfl
 rw [if_neg h12]
 by_cases h8:e.op=8
 ·have e1:formN e.op=7:=by rw [h8];rfl
  have e2:formT e.op=[109,105,110]:=by rw [h8];rfl
  rw [e1] at hle
  rw [e1,e2] at hf
  rw [if_pos h8]
  have hl:e.args.length=2:=by rw [h8] at hargs;exact Int.ofNat.inj hargs
  have a0:=ih 0 0 (by omega) (by omega)
  have a1:=ih 1 0 (by omega) (by omega)
  have b0:=hs 0 0 (by omega)
  have b1:=hs 1 0 (by omega)
  have g0:(argsE e).getD (Int.toNat 0) .undef=encE (argOf e 0):=argsE_get e (by omega)
  have g1:(argsE e).getD (Int.toNat 1) .undef=encE (argOf e 1):=argsE_get e (by omega)
  generalize showT d (argOf e 0) 0=s0 at *
  generalize showT d (argOf e 1) 0=s1 at *
  refine aO (cxOk 109 [0,1,2,4,5,6,7,15,21,25,41,59,81,90]) Tryz.func69 ?_
  conv=>whnf
  refine cO (fun _=>hf) ?_
  conv=>whnf
  refine ⟨fun hx=>absurd (of_decide_eq_true hx) hle,fun _=>?_⟩
  conv=>whnf
  refine ⟨fun hx=>(by simp at hx),fun _=>?_⟩
  conv=>whnf
  refine ⟨fun hx=>(by simp at hx),fun _=>?_⟩
  conv=>whnf
  refine ⟨fun _=>?_,fun hx=>(by simp at hx)⟩
  conv=>whnf
  refine .quiet (by kernel_rfl) ?_
  conv=>whnf
  refine And.intro ab0 ?_
  conv=>whnf
  refine iO ?_;conv=>whnf
  refine And.intro rfl ?_;conv=>whnf
  rw [g0]
  conv=>whnf
  refine .mk _ _ _ _ (fun _=>a0) af0 rfl ?_
  conv=>whnf
  refine And.intro ab0 ?_
  conv=>whnf
  refine And.intro ab0 ?_
  conv=>whnf
  refine iO ?_;conv=>whnf
  refine And.intro rfl ?_;conv=>whnf
  rw [g1]
  conv=>whnf
  refine .mk _ _ _ _ (fun _=>a1) af0 rfl ?_
  conv=>whnf
  refine And.intro ab0 ?_
  conv=>whnf
  refine And.intro ab0 ?_
  conv=>whnf
  rfl
 rw [if_neg h8]
 by_cases h9:e.op=9
 ·have e1:formN e.op=7:=by rw [h9];rfl
  have e2:formT e.op=[109,97,120]:=by rw [h9];rfl
  rw [e1] at hle
  rw [e1,e2] at hf
  rw [if_pos h9]
  have hl:e.args.length=2:=by rw [h9] at hargs;exact Int.ofNat.inj hargs
  have a0:=ih 0 0 (by omega) (by omega)
  have a1:=ih 1 0 (by omega) (by omega)
  have b0:=hs 0 0 (by omega)
  have b1:=hs 1 0 (by omega)
  have g0:(argsE e).getD (Int.toNat 0) .undef=encE (argOf e 0):=argsE_get e (by omega)
  have g1:(argsE e).getD (Int.toNat 1) .undef=encE (argOf e 1):=argsE_get e (by omega)
  generalize showT d (argOf e 0) 0=s0 at *
  generalize showT d (argOf e 1) 0=s1 at *
  refine aO (cxOk 109 [0,1,2,4,5,6,7,15,21,25,41,59,81,90]) Tryz.func69 ?_
  conv=>whnf
  refine cO (fun _=>hf) ?_
  conv=>whnf
  refine ⟨fun hx=>absurd (of_decide_eq_true hx) hle,fun _=>?_⟩
  conv=>whnf
  refine ⟨fun hx=>(by simp at hx),fun _=>?_⟩
  conv=>whnf
  refine ⟨fun hx=>(by simp at hx),fun _=>?_⟩
  conv=>whnf
  refine ⟨fun _=>?_,fun hx=>(by simp at hx)⟩
  conv=>whnf
  refine .quiet (by kernel_rfl) ?_
  conv=>whnf
  refine And.intro ab0 ?_
  conv=>whnf
  refine iO ?_;conv=>whnf
  refine And.intro rfl ?_;conv=>whnf
  rw [g0]
  conv=>whnf
  refine .mk _ _ _ _ (fun _=>a0) af0 rfl ?_
  conv=>whnf
  refine And.intro ab0 ?_
  conv=>whnf
  refine And.intro ab0 ?_
  conv=>whnf
  refine iO ?_;conv=>whnf
  refine And.intro rfl ?_;conv=>whnf
  rw [g1]
  conv=>whnf
  refine .mk _ _ _ _ (fun _=>a1) af0 rfl ?_
  conv=>whnf
  refine And.intro ab0 ?_
  conv=>whnf
  refine And.intro ab0 ?_
  conv=>whnf
  rfl
 rw [if_neg h9]
 by_cases h16:e.op=16
 ·have e1:formN e.op=8:=by rw [h16];rfl
  have e2:formT e.op=[101,118,101,114]:=by rw [h16];rfl
  rw [e1] at hle
  rw [e1,e2] at hf
  rw [if_pos h16]
  have hl:e.args.length=1:=by rw [h16] at hargs;exact Int.ofNat.inj hargs
  have a0:=ih 0 0 (by omega) (by omega)
  have b0:=hs 0 0 (by omega)
  have g0:(argsE e).getD (Int.toNat 0) .undef=encE (argOf e 0):=argsE_get e (by omega)
  generalize showT d (argOf e 0) 0=s0 at *
  refine aO (cxOk 109 [0,1,2,4,5,6,7,15,21,25,41,59,81,90]) Tryz.func69 ?_
  conv=>whnf
  refine cO (fun _=>hf) ?_
  conv=>whnf
  refine ⟨fun hx=>absurd (of_decide_eq_true hx) hle,fun _=>?_⟩
  conv=>whnf
  refine ⟨fun hx=>(by simp at hx),fun _=>?_⟩
  conv=>whnf
  refine ⟨fun _=>?_,fun hx=>(by simp at hx)⟩
  conv=>whnf
  refine .quiet (by kernel_rfl) ?_
  conv=>whnf
  refine And.intro ab0 ?_
  conv=>whnf
  refine .mk _ _ _ _ (fun _=>hid) af0 rfl ?_
  conv=>whnf
  refine And.intro ab0 ?_
  conv=>whnf
  refine And.intro ab0 ?_
  conv=>whnf
  refine iO ?_;conv=>whnf
  refine And.intro rfl ?_;conv=>whnf
  rw [g0]
  conv=>whnf
  refine .mk _ _ _ _ (fun _=>a0) af0 rfl ?_
  conv=>whnf
  refine And.intro ab0 ?_
  conv=>whnf
  refine And.intro ab0 ?_
  conv=>whnf
  rfl
 rw [if_neg h16]
 by_cases h17:e.op=17
 ·have e1:formN e.op=8:=by rw [h17];rfl
  have e2:formT e.op=[108,111,110,103]:=by rw [h17];rfl
  rw [e1] at hle
  rw [e1,e2] at hf
  rw [if_pos h17]
  have hl:e.args.length=1:=by rw [h17] at hargs;exact Int.ofNat.inj hargs
  have a0:=ih 0 0 (by omega) (by omega)
  have b0:=hs 0 0 (by omega)
  have g0:(argsE e).getD (Int.toNat 0) .undef=encE (argOf e 0):=argsE_get e (by omega)
  generalize showT d (argOf e 0) 0=s0 at *
  refine aO (cxOk 109 [0,1,2,4,5,6,7,15,21,25,41,59,81,90]) Tryz.func69 ?_
  conv=>whnf
  refine cO (fun _=>hf) ?_
  conv=>whnf
  refine ⟨fun hx=>absurd (of_decide_eq_true hx) hle,fun _=>?_⟩
  conv=>whnf
  refine ⟨fun hx=>(by simp at hx),fun _=>?_⟩
  conv=>whnf
  refine ⟨fun _=>?_,fun hx=>(by simp at hx)⟩
  conv=>whnf
  refine .quiet (by kernel_rfl) ?_
  conv=>whnf
  refine And.intro ab0 ?_
  conv=>whnf
  refine .mk _ _ _ _ (fun _=>hid) af0 rfl ?_
  conv=>whnf
  refine And.intro ab0 ?_
  conv=>whnf
  refine And.intro ab0 ?_
  conv=>whnf
  refine iO ?_;conv=>whnf
  refine And.intro rfl ?_;conv=>whnf
  rw [g0]
  conv=>whnf
  refine .mk _ _ _ _ (fun _=>a0) af0 rfl ?_
  conv=>whnf
  refine And.intro ab0 ?_
  conv=>whnf
  refine And.intro ab0 ?_
  conv=>whnf
  rfl
 rw [if_neg h17]
 by_cases h18:e.op=18
 ·have e1:formN e.op=8:=by rw [h18];rfl
  have e2:formT e.op=[115,111,111,110]:=by rw [h18];rfl
  rw [e1] at hle
  rw [e1,e2] at hf
  rw [if_pos h18]
  have hl:e.args.length=1:=by rw [h18] at hargs;exact Int.ofNat.inj hargs
  have a0:=ih 0 0 (by omega) (by omega)
  have b0:=hs 0 0 (by omega)
  have g0:(argsE e).getD (Int.toNat 0) .undef=encE (argOf e 0):=argsE_get e (by omega)
  generalize showT d (argOf e 0) 0=s0 at *
  refine aO (cxOk 109 [0,1,2,4,5,6,7,15,21,25,41,59,81,90]) Tryz.func69 ?_
  conv=>whnf
  refine cO (fun _=>hf) ?_
  conv=>whnf
  refine ⟨fun hx=>absurd (of_decide_eq_true hx) hle,fun _=>?_⟩
  conv=>whnf
  refine ⟨fun hx=>(by simp at hx),fun _=>?_⟩
  conv=>whnf
  refine ⟨fun _=>?_,fun hx=>(by simp at hx)⟩
  conv=>whnf
  refine .quiet (by kernel_rfl) ?_
  conv=>whnf
  refine And.intro ab0 ?_
  conv=>whnf
  refine .mk _ _ _ _ (fun _=>hid) af0 rfl ?_
  conv=>whnf
  refine And.intro ab0 ?_
  conv=>whnf
  refine And.intro ab0 ?_
  conv=>whnf
  refine iO ?_;conv=>whnf
  refine And.intro rfl ?_;conv=>whnf
  rw [g0]
  conv=>whnf
  refine .mk _ _ _ _ (fun _=>a0) af0 rfl ?_
  conv=>whnf
  refine And.intro ab0 ?_
  conv=>whnf
  refine And.intro ab0 ?_
  conv=>whnf
  rfl
 rw [if_neg h18]
 have key:e.op=4∨e.op=5∨e.op=6∨e.op=7∨e.op=10∨e.op=11∨e.op=13∨e.op=14:=by omega
 have hl:e.args.length=2:=by
  have:opsN e.op=2:=by unfold opsN;rw [if_neg (by omega),if_neg (by omega),if_neg (by omega),if_neg (by omega)]
  omega
 obtain ⟨e1,e2,e3⟩:=form_bin key
 have hb:=opr_find key
 have htx:(opE e.op).text.length≤3:=opr_text (oprI e.op).toNat
 have hf1:=hb.2.2.1
 have hf2:=hb.2.2.2.1
 rw [e2] at e3
 rw [e1] at hle
 rw [e1,e2] at hf
 have g0:(argsE e).getD (Int.toNat 0) .undef=encE (argOf e 0):=argsE_get e (by omega)
 have g1:(argsE e).getD (Int.toNat 1) .undef=encE (argOf e 1):=argsE_get e (by omega)
 have a1:=ih 1 ((opE e.op).form+1) (by omega) (by omega)
 have b1:=hs 1 ((opE e.op).form+1) (by omega)
 have a0:=ih 0 (if (opE e.op).form=4 then 5 else (opE e.op).form) (by omega) (by split<;>omega)
 have b0:=hs 0 (if (opE e.op).form=4 then 5 else (opE e.op).form) (by omega)
 generalize showT d (argOf e 1) ((opE e.op).form+1)=s1 at *
 generalize hs0:showT d (argOf e 0) (if (opE e.op).form=4 then 5 else (opE e.op).form)=s0 at *
 have hf3:(opE e.op).form≠3:=by
  rcases key with h | h | h | h | h | h | h | h<;>rw [h]<;>decide
 generalize (opE e.op).form=f at *
 generalize (opE e.op).text=w at *
 refine aO (cxOk 109 [0,1,2,4,5,6,7,15,21,25,41,59,81,90]) Tryz.func69 ?_
 conv=>whnf
 refine cO (fun _=>hf) ?_
 conv=>whnf
 refine ⟨fun hx=>absurd (of_decide_eq_true hx) hle,fun _=>?_⟩
 conv=>whnf
 refine ⟨fun hx=>absurd (of_decide_eq_true hx) e3,fun _=>?_⟩
 conv=>whnf
 refine ⟨fun hx=>absurd (of_decide_eq_true hx) om0,fun _=>?_⟩
 conv=>whnf
 refine ⟨fun hx=>absurd (of_decide_eq_true hx) om0,fun _=>?_⟩
 conv=>whnf
 refine ⟨fun hx=>absurd (of_decide_eq_true hx) om0,fun _=>?_⟩
 conv=>whnf
 refine ⟨fun hx=>absurd (of_decide_eq_true hx) om0,fun _=>?_⟩
 conv=>whnf
 refine ⟨fun h4=>?_,fun h4=>?_⟩
 ·rw [if_pos (of_decide_eq_true h4)] at a0
  conv=>whnf
  refine .quiet (by kernel_rfl) ?_;conv=>whnf
  refine iO ?_;conv=>whnf
  refine And.intro rfl ?_;conv=>whnf
  rw [g0]
  conv=>whnf
  refine .mk _ _ _ _ (fun _=>a0) af0 rfl ?_
  conv=>whnf
  refine And.intro ab0 ?_
  conv=>whnf
  refine And.intro ab0 ?_
  conv=>whnf
  refine And.intro ab0 ?_
  conv=>whnf
  refine iO ?_;conv=>whnf
  refine And.intro rfl ?_;conv=>whnf
  rw [g1]
  conv=>whnf
  refine iO ?_;conv=>whnf
  refine .mk _ _ _ _ (fun _=>a1) af0 rfl ?_
  conv=>whnf
  refine And.intro ab0 ?_
  conv=>whnf
  rfl
 ·rw [if_neg (of_decide_eq_false h4)] at a0
  conv=>whnf
  refine .quiet (by kernel_rfl) ?_;conv=>whnf
  refine iO ?_;conv=>whnf
  refine And.intro rfl ?_;conv=>whnf
  rw [g0]
  conv=>whnf
  refine .mk _ _ _ _ (fun _=>a0) af0 rfl ?_
  conv=>whnf
  refine And.intro ab0 ?_
  conv=>whnf
  refine And.intro ab0 ?_
  conv=>whnf
  refine And.intro ab0 ?_
  conv=>whnf
  refine iO ?_;conv=>whnf
  refine And.intro rfl ?_;conv=>whnf
  rw [g1]
  conv=>whnf
  refine iO ?_;conv=>whnf
  refine .mk _ _ _ _ (fun _=>a1) af0 rfl ?_
  conv=>whnf
  refine And.intro ab0 ?_
  conv=>whnf
  rfl
theorem show2_ok:∀ (d:Nat) (e:Exp) (least:Int),d≤13→least≤7→rightB d e=true→OkE e→APureV Tryz.prog 69 [encE e,.int .i64 least] (.str (showT d e least)):=by
 intro d
 induction d with
 | zero=>intro e least _ _ h;simp [rightB] at h
 | succ d ih =>
  intro e least hd hl7 hr hok
  have hargs:∀ (i:Nat) (l:Int),i<e.args.length→l≤7→APureV Tryz.prog 69 [encE (argOf e i),.int .i64 l] (.str (showT d (argOf e i) l)) :=
   fun i l hi hl=>ih _ l (by omega) hl (right_arg hr (getD_argOf hi)) (hok.arg _ (getD_argOf hi))
  have hiff:=form_lt e.op least hl7
  unfold showT
  by_cases hlt:formO e.op<least
  ·rw [if_pos hlt]
   have h0:=show2_body d e 0 (by rw [form_lt e.op 0 (by omega)];have:=formO_nn e.op;omega) hr hok (by omega) hargs
   have hf:=form2_ok e
   have hlen:=body_len (d+1) e hr hok
   have h2:lenB (d+1)≤lenB 13:=by unfold lenB;exact Nat.mul_le_mul_left _ (Nat.pow_le_pow_right (by decide) hd)
   have h3:lenB 13=4294967296:=by decide
   have hlt2:=hiff.2 hlt
   generalize bodyT (d+1) e=s at *
   refine aO (cxOk 109 [0,1,2,4,5,6,7,15,21,25,41,59,81,90]) Tryz.func69 ?_
   conv=>whnf
   refine cO (fun _=>hf) ?_
   conv=>whnf
   refine ⟨fun _=>?_,fun hx=>absurd hlt2 (of_decide_eq_false hx)⟩
   conv=>whnf
   refine cO (fun _=>h0) ?_
   conv=>whnf
   refine And.intro ab0 ?_
   conv=>whnf
   refine And.intro ab0 ?_
   conv=>whnf
   rfl
  ·rw [if_neg hlt]
   exact show2_body d e least (fun h=>hlt (hiff.1 h)) hr hok om0 hargs
theorem printexp2_ok (e:Exp) (hok:OkE e):APure Tryz.prog 22 [encE e] (fun rs=>rs=[.val (.str (printE e).1),.val (.int .i64 (printE e).2)]):=by
 have h:=rightexp2_ok e hok
 unfold printE
 cases hr:rightE e with
 | false =>
  rw [hr] at h
  refine aO (cxOk 12 [0,1,2,3,6]) Tryz.func22 ?_
  conv=>whnf
  refine cO (fun _=>h) ?_
  conv=>whnf
  refine gT ?_
  conv=>whnf
  rfl
 | true =>
  rw [hr] at h
  have hs:=show2_ok 12 e 0 (by decide) (by decide) hr hok
  have hlen:=show_len 12 e 0 hr hok
  have h3:lenB 12=1073741824:=by decide
  have hf:=fits2_ok (showT 12 e 0) (by omega)
  rw [if_pos rfl]
  generalize fitsT (showT 12 e 0)=q at *
  generalize showT 12 e 0=s at *
  refine aO (cxOk 12 [0,1,2,3,6]) Tryz.func22 ?_
  conv=>whnf
  refine cO (fun _=>h) ?_
  conv=>whnf
  refine gF ?_
  conv=>whnf
  refine cO (fun _=>hs) ?_
  conv=>whnf
  refine cO (fun _=>hf) ?_
  conv=>whnf
  rfl
theorem lsEq {H:Heap} {s t:List UInt8} (h:s=t):Lend H (.str s) (.str t) []:=by subst h;exact lS rfl
theorem day2_ok (n:Int) (h:0≤n) (h2:n≤200000):APureV Tryz.prog 65 [.int .i64 n] (.str (dayT n)):=by
 have hp:=parts2_ok n
 unfold partsR at hp
 rw [if_pos ⟨h,h2⟩] at hp
 obtain ⟨a,b,c,d,e,f⟩:=parts_bounds h h2
 have i1:=decimal_ok (partY n) ⟨by omega,by omega⟩
 have i2:=decimal_ok (partM n) ⟨by omega,by omega⟩
 have i3:=decimal_ok (partD n) ⟨by omega,by omega⟩
 have l1:=Lib.itoa_length_le (partY n) (by omega) (by omega)
 have l2:=Lib.itoa_length_le (partM n) (by omega) (by omega)
 have l3:=Lib.itoa_length_le (partD n) (by omega) (by omega)
 unfold dayT
 generalize partY n=y at *
 generalize partM n=m at *
 generalize partD n=dd at *
 refine aO (cxOk 24 [0,2,3,4,5]) Tryz.func65 ?_
 conv=>whnf
 refine cO (fun _=>hp) ?_
 conv=>whnf
 refine cO (fun _=>i1) ?_
 conv=>whnf
 refine And.intro ab0 ?_
 conv=>whnf
 refine cO (fun _=>i2) ?_
 conv=>whnf
 refine And.intro ab0 ?_
 conv=>whnf
 refine And.intro ab0 ?_
 conv=>whnf
 refine cO (fun _=>i3) ?_
 conv=>whnf
 refine And.intro ab0 ?_
 conv=>whnf
 rfl
theorem join2 (a b:List UInt8):Lib.join [a,b] [32]=a++32::b:=by rw [Lib.join_cons];simp [Lib.joinTail]
theorem join4 (a b c d:List UInt8):Lib.join [a,b,c,d] [32]=a++32::(b++32::(c++32::d)):=by rw [Lib.join_cons];simp [Lib.joinTail]
theorem join6 (a b c d e f:List UInt8):Lib.join [a,b,c,d,e,f] [32]=a++32::(b++32::(c++32::(d++32::(e++32::f)))):=by rw [Lib.join_cons];simp [Lib.joinTail]
theorem join7 (a b c d e f g:List UInt8):Lib.join [a,b,c,d,e,f,g] [32]=a++32::(b++32::(c++32::(d++32::(e++32::(f++32::g))))):=by rw [Lib.join_cons];simp [Lib.joinTail]
theorem letfn_ok (l:LetE) (hn:nameB l.name=true) (hr:rightE l.body=true) (hok:OkE l.body):APureV Tryz.prog 68 [encL l] (.str (lineT (letW l))):=by
 have h1:=show2_ok 12 l.body 0 (by decide) (by decide) hr hok
 have h2:=show12_len _ hr hok
 have h3:=name_len hn
 have he:lineT (letW l)=[108,101,116,32]++l.name++[32,61,32]++showT 12 l.body 0++[32,59,10]:=by
  unfold lineT letW
  rw [join4]
  simp only [List.append_assoc,List.cons_append,List.nil_append]
 rw [he]
 generalize showT 12 l.body 0=s at *
 refine aO (cxOk 12 [0,1,2]) Tryz.func68 ?_
 conv=>whnf
 refine .quiet (by kernel_rfl) ?_
 conv=>whnf
 refine And.intro ab0 ?_
 conv=>whnf
 refine And.intro ab0 ?_
 conv=>whnf
 refine .mk _ _ _ _ (fun _=>h1) af0 rfl ?_
 conv=>whnf
 refine And.intro ab0 ?_
 conv=>whnf
 refine And.intro ab0 ?_
 conv=>whnf
 rfl
theorem covfn_ok (c:Cov) (hn:nameB c.name=true) (hr:rightE c.must=true) (hok:OkE c.must) (hg:in64 c.grace):APureV Tryz.prog 70 [encC c] (.str (lineT (covW c))):=by
 have h1:=show2_ok 12 c.must 0 (by decide) (by decide) hr hok
 have h2:=show12_len _ hr hok
 have h3:=name_len hn
 have h4:=decimal_ok c.grace hg
 have h5:=itoa_len21 hg
 have he:lineT (covW c)=[99,111,118,101,110,97,110,116,32]++c.name++[32,109,117,115,116,32]++showT 12 c.must 0++[32,103,114,97,99,101,32]++Lib.itoa c.grace++[32,59,10]:=by
  unfold lineT covW
  rw [join6]
  simp only [List.append_assoc,List.cons_append,List.nil_append]
 rw [he]
 generalize showT 12 c.must 0=s at *
 refine aO (cxOk 17 [0,1,2]) Tryz.func70 ?_
 conv=>whnf
 refine .quiet (by kernel_rfl) ?_
 conv=>whnf
 refine And.intro ab0 ?_
 conv=>whnf
 refine And.intro ab0 ?_
 conv=>whnf
 refine .mk _ _ _ _ (fun _=>h1) af0 rfl ?_
 conv=>whnf
 refine And.intro ab0 ?_
 conv=>whnf
 refine And.intro ab0 ?_
 conv=>whnf
 refine .mk _ _ _ _ (fun _=>h4) af0 rfl ?_
 conv=>whnf
 refine And.intro ab0 ?_
 conv=>whnf
 refine And.intro ab0 ?_
 conv=>whnf
 rfl
theorem callfn_ok (c:CallE) (h:(0≤c.a∧c.a≤200000)∧0≤c.b∧c.b≤10000):APureV Tryz.prog 32 [encK c] (.str (lineT (callW c))):=by
 have h1:=day2_ok c.a h.1.1 h.1.2
 have h2:=dayT_len h.1.1 h.1.2
 have h4:=decimal_ok c.b ⟨by omega,by omega⟩
 have h5:=itoa_len21 (n:=c.b) ⟨by omega,by omega⟩
 have he:lineT (callW c)=[99,97,108,108,32]++dayT c.a++[32,97,116,32]++Lib.itoa c.b++[32,59,10]:=by
  unfold lineT callW
  rw [join4]
  simp only [List.append_assoc,List.cons_append,List.nil_append]
 rw [he]
 generalize dayT c.a=s at *
 refine aO (cxOk 13 [0,1,2]) Tryz.func32 ?_
 conv=>whnf
 refine .quiet (by kernel_rfl) ?_
 conv=>whnf
 refine .mk _ _ _ _ (fun _=>h1) af0 rfl ?_
 conv=>whnf
 refine And.intro ab0 ?_
 conv=>whnf
 refine And.intro ab0 ?_
 conv=>whnf
 refine .mk _ _ _ _ (fun _=>h4) af0 rfl ?_
 conv=>whnf
 refine And.intro ab0 ?_
 conv=>whnf
 refine And.intro ab0 ?_
 conv=>whnf
 rfl
theorem txt_cons (w:List (List UInt8)) (L:List (List (List UInt8))):txt (w::L)=lineT w++txt L:=by unfold txt;simp
theorem txt_nil:txt []=[]:=rfl
theorem line2 (a b:List UInt8):lineT [a,b]=a++32::(b++[32,59,10]):=by unfold lineT;rw [join2];simp only [List.append_assoc,List.cons_append]
theorem line4 (a b c d:List UInt8):lineT [a,b,c,d]=a++32::(b++32::(c++32::(d++[32,59,10]))):=by unfold lineT;rw [join4];simp only [List.append_assoc,List.cons_append]
theorem line7 (a b c d e f g:List UInt8):lineT [a,b,c,d,e,f,g]=a++32::(b++32::(c++32::(d++32::(e++32::(f++32::(g++[32,59,10])))))):=by unfold lineT;rw [join7];simp only [List.append_assoc,List.cons_append]
def tailT (l:List (List UInt8)):List UInt8:=Lib.joinTail [32] l
theorem tail_snoc (l:List (List UInt8)) (s:List UInt8):tailT (l++[s])=tailT l++(32::s):=by unfold tailT Lib.joinTail;simp
theorem lineF (l:List (List UInt8)):lineT ([102,97,118,111,117,114]::l)=[102,97,118,111,117,114]++tailT l++[32,59,10]:=by unfold lineT tailT;rw [Lib.join_cons]
theorem tail_len:∀ (l:List (List UInt8)),(∀ s∈l,s.length≤20)→(tailT l).length≤l.length*21:=by
 intro l
 induction l with
 | nil=>intro _;simp [tailT,Lib.joinTail]
 | cons x l ih =>
  intro h
  have h1:=ih fun s hs=>h s (List.mem_cons_of_mem _ hs)
  have h2:=h x List.mem_cons_self
  have e:tailT (x::l)=32::(x++tailT l):=by unfold tailT Lib.joinTail;simp
  rw [e,List.length_cons,List.length_append,List.length_cons,Nat.succ_mul]
  omega
theorem LOk.txt {n:Nat} {L:List (List (List UInt8))} (h:LOk n L) (hn:n≤120):(txt L).length≤2784000000360:=by
 have h1:=txt_len h
 have h2:n*23200000003≤120*23200000003:=Nat.mul_le_mul_right _ hn
 omega
theorem print2_ok (x:Ind) (hx:OkX x):APure Tryz.prog 20 [encX x] (fun rs=>rs=[.val (.str (printI x).1),.val (.int .i64 (printI x).2)]):=by
 have h:=rightfn2_ok x hx
 unfold printI
 cases hr:rightI x with
 | false =>
  rw [hr] at h
  refine aO (cxOk 191 [0,1,2,3,4,5,6,7,8,11,70,97,111,118,133,145,158,168]) Tryz.func20 ?_
  conv=>whnf
  refine cO (fun _=>h) ?_
  conv=>whnf
  refine gT ?_
  conv=>whnf
  rfl
 | true =>
  rw [hr] at h
  rw [if_pos rfl]
  have R:=(right_iff x).1 hr
  have it:∀ (n:Int),-1≤n→n≤1000000000000000→APureV Tryz.prog 31 [.int .i64 n] (.str (Lib.itoa n)):=fun n h1 h2=>decimal_ok n ⟨by omega,by omega⟩
  have il:∀ (n:Int),-1≤n→n≤1000000000000000→(Lib.itoa n).length≤21:=fun n h1 h2=>Lib.itoa_length_le n (by omega) (by omega)
  have r1:=R.frm
  have r2:=R.to
  have r3:=R.face
  have r4:=R.every
  have r5:=R.count
  have r6:=R.adjust
  have r7:=R.record
  have r8:=R.rank
  have r9:=R.cap
  have r10:=R.cross
  have r11:=R.notice
  have r12:=R.sink
  have r13:=R.majority
  have r14:=R.fast
  have ll:=uniq_len R.ulets
  have lc:=uniq_len R.ucov
  have lf:=uniq_len R.fav
  have lk:=R.ncalls
  rw [List.length_map] at ll lc
  have d1:=day2_ok x.frm r1.1 r1.2
  have d2:=day2_ok x.to r2.1 r2.2
  have w1:WsOk [[105,115,115,117,101],x.name,[111,102],x.issuer]:=ws4 (by simp) (nam_len R.name) (by simp) (nam_len R.issuer)
  have w2:WsOk [[102,97,99,101],Lib.itoa x.face]:=ws2 (by simp) (int_len (by omega) (by omega))
  have w3:WsOk [[102,114,111,109],dayT x.frm,[116,111],dayT x.to,[101,118,101,114,121],Lib.itoa x.every,[109,111,110,116,104,115]]:=by
   have a1:=day_len r1
   have a2:=day_len r2
   have a3:=int_len (n:=x.every) (by omega) (by omega)
   refine wsOk_of (by simp) ?_
   simp
   omega
  have w4:WsOk [[99,111,117,110,116],cntW.getD x.count.toNat []]:=ws2 (by simp) (by have:=cnt_len x.count.toNat;omega)
  have w5:WsOk [[97,100,106,117,115,116],adjW.getD x.adjust.toNat []]:=ws2 (by simp) (by have:=adj_len x.adjust.toNat;omega)
  have w6:WsOk [[114,101,99,111,114,100],Lib.itoa x.record]:=ws2 (by simp) (int_len (by omega) (by omega))
  have w7:WsOk [[114,97,110,107],Lib.itoa x.rank]:=ws2 (by simp) (int_len (by omega) (by omega))
  have w8:WsOk [[99,111,117,112,111,110],showT 12 x.coupon 0]:=ws2 (by simp) (show12_len _ R.coupon hx.coupon)
  have w9:WsOk [[99,97,112],Lib.itoa x.cap]:=ws2 (by simp) (int_len (by omega) (by omega))
  have w10:=favW_ok R.fav
  have w11:WsOk [[99,114,111,115,115],Lib.itoa x.cross]:=ws2 (by simp) (int_len (by omega) (by omega))
  have w12:WsOk [[110,111,116,105,99,101],Lib.itoa x.notice]:=ws2 (by simp) (int_len (by omega) (by omega))
  have w13:WsOk [[115,105,110,107],Lib.itoa x.sink]:=ws2 (by simp) (int_len (by omega) (by omega))
  have w14:WsOk [[109,97,106,111,114,105,116,121],Lib.itoa x.majority]:=ws2 (by simp) (int_len (by omega) (by omega))
  have w15:WsOk [[102,97,115,116],Lib.itoa x.fast]:=ws2 (by simp) (int_len (by omega) (by omega))
  have c_face:=it x.face (by omega) (by omega)
  have c_every:=it x.every (by omega) (by omega)
  have c_record:=it x.record (by omega) (by omega)
  have c_rank:=it x.rank (by omega) (by omega)
  have c_cap:=it x.cap (by omega) (by omega)
  have c_cross:=it x.cross (by omega) (by omega)
  have c_notice:=it x.notice (by omega) (by omega)
  have c_sink:=it x.sink (by omega) (by omega)
  have c_majority:=it x.majority (by omega) (by omega)
  have c_fast:=it x.fast (by omega) (by omega)
  have hcou:=show2_ok 12 x.coupon 0 (by decide) (by decide) R.coupon hx.coupon
  have hcl:=show12_len _ R.coupon hx.coupon
  have n1:=name_len R.name
  have n2:=name_len R.issuer
  have dl1:=dayT_len r1.1 r1.2
  have dl2:=dayT_len r2.1 r2.2
  have i1:=il x.face (by omega) (by omega)
  have i2:=il x.every (by omega) (by omega)
  have i3:=il x.record (by omega) (by omega)
  have i4:=il x.rank (by omega) (by omega)
  have i5:=il x.cap (by omega) (by omega)
  have i6:=il x.cross (by omega) (by omega)
  have i7:=il x.notice (by omega) (by omega)
  have i8:=il x.sink (by omega) (by omega)
  have i9:=il x.majority (by omega) (by omega)
  have i10:=il x.fast (by omega) (by omega)
  have cl:=cnt_len x.count.toNat
  have al:=adj_len x.adjust.toNat
  have e3:cntW.length=3:=rfl
  have e4:adjW.length=4:=rfl
  have LH:LOk 7 (headW x):=LOk.snoc (LOk.snoc (LOk.snoc (LOk.snoc (LOk.snoc (LOk.snoc (LOk.snoc LOk.nil w1) w2) w3) w4) w5) w6) w7
  have LM:LOk 2 (midW x):=LOk.snoc (LOk.snoc LOk.nil w8) w9
  have LF:LOk 1 (favW x):=by unfold favW;split;exact LOk.snoc LOk.nil w10;exact ⟨by simp,fun w hw=>by cases hw⟩
  have LX:LOk 1 (croW x):=by unfold croW;split;exact LOk.snoc LOk.nil w11;exact ⟨by simp,fun w hw=>by cases hw⟩
  have LN:LOk 1 (notW x):=by unfold notW;split;exact LOk.snoc LOk.nil w12;exact ⟨by simp,fun w hw=>by cases hw⟩
  have LS:LOk 1 (sinW x):=by unfold sinW;split;exact LOk.snoc LOk.nil w13;exact ⟨by simp,fun w hw=>by cases hw⟩
  have LE:LOk 2 (endW x):=LOk.snoc (LOk.snoc LOk.nil w14) w15
  have Llet:∀ k,LOk 20 ((x.lets.take k).map letW):=fun k=>⟨by rw [List.length_map,List.length_take];omega,fun w hw=>by
   obtain ⟨l,hl,rfl⟩:=List.mem_map.1 hw
   have hm:=List.mem_of_mem_take hl
   exact letW_ok (uniq_name R.ulets (List.mem_map_of_mem hm)) (R.lets l hm) (hx.let1 l hm).2⟩
  have Lcov:∀ k,LOk 20 ((x.cov.take k).map covW):=fun k=>⟨by rw [List.length_map,List.length_take];omega,fun w hw=>by
   obtain ⟨l,hl,rfl⟩:=List.mem_map.1 hw
   have hm:=List.mem_of_mem_take hl
   exact covW_ok (uniq_name R.ucov (List.mem_map_of_mem hm)) (R.cov l hm).1 (hx.cov1 l hm).2.1 (R.cov l hm).2.1 (R.cov l hm).2.2⟩
  have Lcal:∀ k,LOk 20 ((x.calls.take k).map callW):=fun k=>⟨by rw [List.length_map,List.length_take];omega,fun w hw=>by
   obtain ⟨c,hc,rfl⟩:=List.mem_map.1 hw
   exact callW_ok (R.calls c (List.mem_of_mem_take hc))⟩
  have LA:LOk 27 (headW x++x.lets.map letW):=by have:=LH.app (Llet x.lets.length);rw [List.take_length] at this;exact this
  have LB:=LA.app LM
  have LC:LOk 49 (headW x++x.lets.map letW++midW x++x.cov.map covW):=by have:=LB.app (Lcov x.cov.length);rw [List.take_length] at this;exact this
  have LD:=(LC.app LF).app LX
  have LG:LOk 71 (headW x++x.lets.map letW++midW x++x.cov.map covW++favW x++croW x++x.calls.map callW):=by have:=LD.app (Lcal x.calls.length);rw [List.take_length] at this;exact this
  have LZ:LOk 75 (linesW x):=((LG.app LN).app LS).app LE
  have hfit:=fits2_ok (txt (linesW x)) (by have:=LZ.txt (by omega);omega)
  have ta:=LA.txt (by omega)
  have tb:=LB.txt (by omega)
  have tc:=LC.txt (by omega)
  have td:=LD.txt (by omega)
  have tg:=LG.txt (by omega)
  have rc:=r5
  have ra:=r6
  have z1:x.lets.length≤20:=by omega
  have z2:x.cov.length≤20:=by omega
  have z3:x.calls.length≤20:=by omega
  have z4:x.favour.length≤20:=by omega
  clear r1 r2 r3 r4 r5 r6 r7 r8 r9 r10 r11 r12 r13 r14 ll lc lf lk it il
  refine aO (cxOk 191 [0,1,2,3,4,5,6,7,8,11,70,97,111,118,133,145,158,168]) Tryz.func20 ?_
  conv=>whnf
  refine cO (fun _=>h) ?_
  conv=>whnf
  refine gF ?_
  conv=>whnf
  refine .quiet (by kernel_rfl) ?_
  conv=>whnf
  refine And.intro ab0 ?_
  conv=>whnf
  refine And.intro ab0 ?_
  conv=>whnf
  refine And.intro ab0 ?_
  conv=>whnf
  refine And.intro ab0 ?_
  conv=>whnf
  refine .mk _ _ _ _ (fun _=>c_face) af0 rfl ?_
  conv=>whnf
  refine And.intro ab0 ?_
  conv=>whnf
  refine And.intro ab0 ?_
  conv=>whnf
  refine .mk _ _ _ _ (fun _=>d1) af0 rfl ?_
  conv=>whnf
  refine And.intro ab0 ?_
  conv=>whnf
  refine And.intro ab0 ?_
  conv=>whnf
  refine .mk _ _ _ _ (fun _=>d2) af0 rfl ?_
  conv=>whnf
  refine And.intro ab0 ?_
  conv=>whnf
  refine And.intro ab0 ?_
  conv=>whnf
  refine .mk _ _ _ _ (fun _=>c_every) af0 rfl ?_
  conv=>whnf
  refine And.intro ab0 ?_
  conv=>whnf
  refine And.intro ab0 ?_
  conv=>whnf
  refine .eff ae0 ?_
  conv=>whnf
  refine And.intro ab0 ?_
  conv=>whnf
  refine cO (fun _=>cnt2_ok) ?_
  conv=>whnf
  refine iO ?_;conv=>whnf
  refine And.intro rfl ?_;conv=>whnf
  refine And.intro ab0 ?_
  conv=>whnf
  refine And.intro ab0 ?_
  conv=>whnf
  refine cO (fun _=>adj2_ok) ?_
  conv=>whnf
  refine iO ?_;conv=>whnf
  refine And.intro rfl ?_;conv=>whnf
  refine And.intro ab0 ?_
  conv=>whnf
  refine And.intro ab0 ?_
  conv=>whnf
  refine cO (fun _=>c_record) ?_
  conv=>whnf
  refine And.intro ab0 ?_
  conv=>whnf
  refine And.intro ab0 ?_
  conv=>whnf
  refine cO (fun _=>c_rank) ?_
  conv=>whnf
  refine And.intro ab0 ?_
  conv=>whnf
  refine And.intro ab0 ?_
  conv=>whnf
  refine ⟨by kernel_rfl,?_⟩
  conv=>whnf
  refine loop_up (cxOk _ _) x.lets.length (fun _=>True) (fun k=>⟨[(1,.ptr 0 0),(2,.str []),(3,.int .i64 0),(4,.str (txt (headW x++(x.lets.take k).map letW))),(5,.int .i64 (k:Nat))],[(0,.cells 31 (celX x))],1⟩) trivial ((wk_of [(0,.id 0)] rfl ⟨wc0,wa0,wa0,.base (.tree _ _ (congrArg AV.str (by simp only [headW,List.take_zero,List.map_nil,txt_cons,txt_nil,line2,line4,line7,List.append_assoc,List.cons_append,List.nil_append,List.append_nil])) rfl),wa0,trivial⟩ ⟨wb0,trivial⟩)) ?_
  intro k hk _
  conv=>whnf
  refine ⟨fun hd=>?_,fun hd=>?_⟩
  ·have hd:=of_decide_eq_true hd
   have hlt:k<x.lets.length:=by omega
   have hek:(k:Int).toNat=k:=Int.toNat_natCast k
   have hm:x.lets.getD k l0∈x.lets:=getD_mem hlt
   have hfn:=letfn_ok _ (uniq_name R.ulets (List.mem_map_of_mem hm)) (R.lets _ hm) (hx.let1 _ hm).2
   have hwl:=(letW_ok (uniq_name R.ulets (List.mem_map_of_mem hm)) (R.lets _ hm) (hx.let1 _ hm).2).line
   have htl:=(LH.app (Llet k)).txt (by omega)
   conv=>whnf
   refine iO ?_;conv=>whnf
   refine And.intro rfl ?_;conv=>whnf
   rw [hek]
   conv=>whnf
   refine cO (fun _=>hfn) ?_
   conv=>whnf
   refine And.intro ab0 ?_
   conv=>whnf
   refine iO ?_
   conv=>whnf
   refine up hlt trivial ((wk_of [(0,.id 0)] rfl ⟨wc0,wa0,wa0,.base (.tree _ _ (congrArg AV.str (by rw [take_getD (d:=l0) hlt,List.map_append,← List.append_assoc];exact (txt_snoc _ _).symm)) rfl),wa0,trivial⟩ ⟨wb0,trivial⟩))
  have hd:=of_decide_eq_false hd
  obtain rfl:k=x.lets.length:=by omega
  conv=>whnf
  rw [List.take_length]
  refine .quiet (by kernel_rfl) ?_
  conv=>whnf
  refine And.intro ab0 ?_
  conv=>whnf
  refine .mk _ _ _ _ (fun _=>hcou) af0 rfl ?_
  conv=>whnf
  refine And.intro ab0 ?_
  conv=>whnf
  refine And.intro ab0 ?_
  conv=>whnf
  refine .mk _ _ _ _ (fun _=>c_cap) af0 rfl ?_
  conv=>whnf
  refine And.intro ab0 ?_
  conv=>whnf
  refine And.intro ab0 ?_
  conv=>whnf
  refine loop_up (cxOk _ _) x.cov.length (fun _=>True) (fun k=>⟨[(1,.ptr 0 0),(2,.str []),(3,.int .i64 0),(4,.str (txt (headW x++x.lets.map letW++midW x++(x.cov.take k).map covW))),(6,.int .i64 (k:Nat))],[(0,.cells 31 (celX x))],1⟩) trivial ((wk_of [(0,.id 0)] rfl ⟨wc0,wa0,wa0,.base (.tree _ _ (congrArg AV.str (by rw [List.take_zero,List.map_nil,List.append_nil,txt_app (headW x++x.lets.map letW) (midW x)];simp only [midW,txt_cons,txt_nil,line2,List.append_assoc,List.cons_append,List.nil_append,List.append_nil])) rfl),wa0,trivial⟩ ⟨wb0,trivial⟩)) ?_
  intro k hk _
  conv=>whnf
  refine ⟨fun hd=>?_,fun hd=>?_⟩
  ·have hd:=of_decide_eq_true hd
   have hlt:k<x.cov.length:=by omega
   have hek:(k:Int).toNat=k:=Int.toNat_natCast k
   have hm:x.cov.getD k c0∈x.cov:=getD_mem hlt
   have hg:=(R.cov _ hm).2
   have hfn:=covfn_ok _ (uniq_name R.ucov (List.mem_map_of_mem hm)) (R.cov _ hm).1 (hx.cov1 _ hm).2.1 ⟨by omega,by omega⟩
   have hwl:=(covW_ok (uniq_name R.ucov (List.mem_map_of_mem hm)) (R.cov _ hm).1 (hx.cov1 _ hm).2.1 hg.1 hg.2).line
   have htl:=(LB.app (Lcov k)).txt (by omega)
   conv=>whnf
   refine iO ?_;conv=>whnf
   refine And.intro rfl ?_;conv=>whnf
   rw [hek]
   conv=>whnf
   refine cO (fun _=>hfn) ?_
   conv=>whnf
   refine And.intro ab0 ?_
   conv=>whnf
   refine iO ?_
   conv=>whnf
   refine up hlt trivial ((wk_of [(0,.id 0)] rfl ⟨wc0,wa0,wa0,.base (.tree _ _ (congrArg AV.str (by rw [take_getD (d:=c0) hlt,List.map_append,← List.append_assoc];exact (txt_snoc _ _).symm)) rfl),wa0,trivial⟩ ⟨wb0,trivial⟩))
  have hd:=of_decide_eq_false hd
  obtain rfl:k=x.cov.length:=by omega
  conv=>whnf
  rw [List.take_length]
  have E1:txt (headW x++x.lets.map letW++midW x++x.cov.map covW++favW x++croW x)=txt (headW x++x.lets.map letW++midW x++x.cov.map covW)++txt (favW x)++txt (croW x):=by rw [txt_app,txt_app]
  have E2:txt (linesW x)=txt (headW x++x.lets.map letW++midW x++x.cov.map covW++favW x++croW x++x.calls.map callW)++txt (notW x)++txt (sinW x)++txt (endW x):=by unfold linesW;rw [txt_app,txt_app,txt_app]
  generalize hgC:txt (headW x++x.lets.map letW++midW x++x.cov.map covW)=tC at *
  have fvl:(tailT x.favour).length≤420:=by have h1:=tail_len x.favour (fun s hs=>name_len (uniq_name R.fav hs));have:x.favour.length*21≤20*21:=Nat.mul_le_mul_right _ (by omega);omega
  refine ⟨fun hf=>?_,fun hf=>?_⟩
  ·have hf:=of_decide_eq_true hf
   have qf:favW x=[[102,97,118,111,117,114]::x.favour]:=by unfold favW;rw [if_pos (by omega)]
   conv=>whnf
   refine And.intro ab0 ?_
   conv=>whnf
   refine loop_up (cxOk _ _) x.favour.length (fun _=>True) (fun k=>⟨[(1,.ptr 0 0),(2,.str []),(3,.int .i64 0),(4,.str (tC++[102,97,118,111,117,114]++tailT (x.favour.take k))),(7,.int .i64 (k:Nat))],[(0,.cells 31 (celX x))],1⟩) trivial ((wk_of [(0,.id 0)] rfl ⟨wc0,wa0,wa0,.base (.tree _ _ (congrArg AV.str (by simp [tailT,Lib.joinTail])) rfl),wa0,trivial⟩ ⟨wb0,trivial⟩)) ?_
   intro k hk _
   conv=>whnf
   refine ⟨fun hd=>?_,fun hd=>?_⟩
   ·have hd:=of_decide_eq_true hd
    have hlt:k<x.favour.length:=by omega
    have hek:(k:Int).toNat=k:=Int.toNat_natCast k
    have hm:x.favour.getD k []∈x.favour:=getD_mem hlt
    have hsl:=name_len (uniq_name R.fav hm)
    have htl:(tailT (x.favour.take k)).length≤420:=by have h1:=tail_len (x.favour.take k) (fun s hs=>name_len (uniq_name R.fav (List.mem_of_mem_take hs)));have:(x.favour.take k).length*21≤20*21:=Nat.mul_le_mul_right _ (by rw [List.length_take];omega);omega
    conv=>whnf
    refine And.intro ab0 ?_
    conv=>whnf
    refine iO ?_;conv=>whnf
    refine And.intro rfl ?_;conv=>whnf
    rw [hek]
    conv=>whnf
    refine And.intro ab0 ?_
    conv=>whnf
    refine iO ?_
    conv=>whnf
    refine up hlt trivial ((wk_of [(0,.id 0)] rfl ⟨wc0,wa0,wa0,.base (.tree _ _ (congrArg AV.str (by rw [take_getD (d:=[]) hlt,tail_snoc];simp only [List.append_assoc,List.cons_append,List.nil_append])) rfl),wa0,trivial⟩ ⟨wb0,trivial⟩))
   have hd:=of_decide_eq_false hd
   obtain rfl:k=x.favour.length:=by omega
   conv=>whnf
   rw [List.take_length]
   refine And.intro ab0 ?_
   conv=>whnf
   refine ⟨fun hc=>?_,fun hc=>?_⟩
   ·have hc:=of_decide_eq_true hc
    have qc:croW x=[[[99,114,111,115,115],Lib.itoa x.cross]]:=by unfold croW;rw [if_pos (by omega)]
    conv=>whnf
    refine And.intro ab0 ?_
    conv=>whnf
    refine cO (fun _=>c_cross) ?_
    conv=>whnf
    refine And.intro ab0 ?_
    conv=>whnf
    refine And.intro ab0 ?_
    conv=>whnf
    refine loop_up (cxOk _ _) x.calls.length (fun _=>True) (fun k=>⟨[(1,.ptr 0 0),(2,.str []),(3,.int .i64 0),(4,.str (txt (headW x++x.lets.map letW++midW x++x.cov.map covW++favW x++croW x++(x.calls.take k).map callW))),(8,.int .i64 (k:Nat))],[(0,.cells 31 (celX x))],1⟩) trivial ((wk_of [(0,.id 0)] rfl ⟨wc0,wa0,wa0,.base (.tree _ _ (congrArg AV.str (by rw [List.take_zero,List.map_nil,List.append_nil,E1,qf,qc];simp only [txt_cons,txt_nil,line2,lineF,List.append_assoc,List.cons_append,List.nil_append,List.append_nil])) rfl),wa0,trivial⟩ ⟨wb0,trivial⟩)) ?_
    intro k hk _
    conv=>whnf
    refine ⟨fun hd=>?_,fun hd=>?_⟩
    ·have hd:=of_decide_eq_true hd
     have hlt:k<x.calls.length:=by omega
     have hek:(k:Int).toNat=k:=Int.toNat_natCast k
     have hm:x.calls.getD k k0∈x.calls:=getD_mem hlt
     have hfn:=callfn_ok _ (R.calls _ hm)
     have hwl:=(callW_ok (R.calls _ hm)).line
     have htl:=(LD.app (Lcal k)).txt (by omega)
     conv=>whnf
     refine iO ?_;conv=>whnf
     refine And.intro rfl ?_;conv=>whnf
     rw [hek]
     conv=>whnf
     refine cO (fun _=>hfn) ?_
     conv=>whnf
     refine And.intro ab0 ?_
     conv=>whnf
     refine iO ?_
     conv=>whnf
     refine up hlt trivial ((wk_of [(0,.id 0)] rfl ⟨wc0,wa0,wa0,.base (.tree _ _ (congrArg AV.str (by rw [take_getD (d:=k0) hlt,List.map_append,← List.append_assoc];exact (txt_snoc _ _).symm)) rfl),wa0,trivial⟩ ⟨wb0,trivial⟩))
    have hd:=of_decide_eq_false hd
    obtain rfl:k=x.calls.length:=by omega
    conv=>whnf
    rw [List.take_length]
    refine ⟨fun hn=>?_,fun hn=>?_⟩
    ·have hn:=of_decide_eq_true hn
     have qn:notW x=[[[110,111,116,105,99,101],Lib.itoa x.notice]]:=by unfold notW;rw [if_pos (by omega)]
     conv=>whnf
     refine And.intro ab0 ?_
     conv=>whnf
     refine cO (fun _=>c_notice) ?_
     conv=>whnf
     refine And.intro ab0 ?_
     conv=>whnf
     refine And.intro ab0 ?_
     conv=>whnf
     refine ⟨fun hs=>?_,fun hs=>?_⟩
     ·have hs:=of_decide_eq_true hs
      have qs:sinW x=[[[115,105,110,107],Lib.itoa x.sink]]:=by unfold sinW;rw [if_pos (by omega)]
      conv=>whnf
      refine And.intro ab0 ?_
      conv=>whnf
      refine cO (fun _=>c_sink) ?_
      conv=>whnf
      refine And.intro ab0 ?_
      conv=>whnf
      refine And.intro ab0 ?_
      conv=>whnf
      refine .eff ae0 ?_
      conv=>whnf
      refine And.intro ab0 ?_
      conv=>whnf
      refine cO (fun _=>c_majority) ?_
      conv=>whnf
      refine And.intro ab0 ?_
      conv=>whnf
      refine And.intro ab0 ?_
      conv=>whnf
      refine cO (fun _=>c_fast) ?_
      conv=>whnf
      refine And.intro ab0 ?_
      conv=>whnf
      refine And.intro ab0 ?_
      conv=>whnf
      refine .one _ _ _ (fun _=>hfit) (.cons (lsEq (t:=txt (linesW x)) (by rw [E2,qn,qs];simp only [endW,txt_cons,txt_nil,line2,List.append_assoc,List.cons_append,List.nil_append,List.append_nil])) .nil) (.inl rfl) (.inl rfl) ?_
      conv=>whnf
      refine ⟨by kernel_rfl,?_⟩
      conv=>whnf
      rfl
     ·have hs:=of_decide_eq_false hs
      have qs:sinW x=[]:=by unfold sinW;rw [if_neg (by omega)]
      conv=>whnf
      refine .eff ae0 ?_
      conv=>whnf
      refine And.intro ab0 ?_
      conv=>whnf
      refine cO (fun _=>c_majority) ?_
      conv=>whnf
      refine And.intro ab0 ?_
      conv=>whnf
      refine And.intro ab0 ?_
      conv=>whnf
      refine cO (fun _=>c_fast) ?_
      conv=>whnf
      refine And.intro ab0 ?_
      conv=>whnf
      refine And.intro ab0 ?_
      conv=>whnf
      refine .one _ _ _ (fun _=>hfit) (.cons (lsEq (t:=txt (linesW x)) (by rw [E2,qn,qs];simp only [endW,txt_cons,txt_nil,line2,List.append_assoc,List.cons_append,List.nil_append,List.append_nil])) .nil) (.inl rfl) (.inl rfl) ?_
      conv=>whnf
      refine ⟨by kernel_rfl,?_⟩
      conv=>whnf
      rfl
    ·have hn:=of_decide_eq_false hn
     have qn:notW x=[]:=by unfold notW;rw [if_neg (by omega)]
     conv=>whnf
     refine ⟨fun hs=>?_,fun hs=>?_⟩
     ·have hs:=of_decide_eq_true hs
      have qs:sinW x=[[[115,105,110,107],Lib.itoa x.sink]]:=by unfold sinW;rw [if_pos (by omega)]
      conv=>whnf
      refine And.intro ab0 ?_
      conv=>whnf
      refine cO (fun _=>c_sink) ?_
      conv=>whnf
      refine And.intro ab0 ?_
      conv=>whnf
      refine And.intro ab0 ?_
      conv=>whnf
      refine .eff ae0 ?_
      conv=>whnf
      refine And.intro ab0 ?_
      conv=>whnf
      refine cO (fun _=>c_majority) ?_
      conv=>whnf
      refine And.intro ab0 ?_
      conv=>whnf
      refine And.intro ab0 ?_
      conv=>whnf
      refine cO (fun _=>c_fast) ?_
      conv=>whnf
      refine And.intro ab0 ?_
      conv=>whnf
      refine And.intro ab0 ?_
      conv=>whnf
      refine .one _ _ _ (fun _=>hfit) (.cons (lsEq (t:=txt (linesW x)) (by rw [E2,qn,qs];simp only [endW,txt_cons,txt_nil,line2,List.append_assoc,List.cons_append,List.nil_append,List.append_nil])) .nil) (.inl rfl) (.inl rfl) ?_
      conv=>whnf
      refine ⟨by kernel_rfl,?_⟩
      conv=>whnf
      rfl
     ·have hs:=of_decide_eq_false hs
      have qs:sinW x=[]:=by unfold sinW;rw [if_neg (by omega)]
      conv=>whnf
      refine .eff ae0 ?_
      conv=>whnf
      refine And.intro ab0 ?_
      conv=>whnf
      refine cO (fun _=>c_majority) ?_
      conv=>whnf
      refine And.intro ab0 ?_
      conv=>whnf
      refine And.intro ab0 ?_
      conv=>whnf
      refine cO (fun _=>c_fast) ?_
      conv=>whnf
      refine And.intro ab0 ?_
      conv=>whnf
      refine And.intro ab0 ?_
      conv=>whnf
      refine .one _ _ _ (fun _=>hfit) (.cons (lsEq (t:=txt (linesW x)) (by rw [E2,qn,qs];simp only [endW,txt_cons,txt_nil,line2,List.append_assoc,List.cons_append,List.nil_append,List.append_nil])) .nil) (.inl rfl) (.inl rfl) ?_
      conv=>whnf
      refine ⟨by kernel_rfl,?_⟩
      conv=>whnf
      rfl
   ·have hc:=of_decide_eq_false hc
    have qc:croW x=[]:=by unfold croW;rw [if_neg (by omega)]
    conv=>whnf
    refine loop_up (cxOk _ _) x.calls.length (fun _=>True) (fun k=>⟨[(1,.ptr 0 0),(2,.str []),(3,.int .i64 0),(4,.str (txt (headW x++x.lets.map letW++midW x++x.cov.map covW++favW x++croW x++(x.calls.take k).map callW))),(8,.int .i64 (k:Nat))],[(0,.cells 31 (celX x))],1⟩) trivial ((wk_of [(0,.id 0)] rfl ⟨wc0,wa0,wa0,.base (.tree _ _ (congrArg AV.str (by rw [List.take_zero,List.map_nil,List.append_nil,E1,qf,qc];simp only [txt_cons,txt_nil,line2,lineF,List.append_assoc,List.cons_append,List.nil_append,List.append_nil])) rfl),wa0,trivial⟩ ⟨wb0,trivial⟩)) ?_
    intro k hk _
    conv=>whnf
    refine ⟨fun hd=>?_,fun hd=>?_⟩
    ·have hd:=of_decide_eq_true hd
     have hlt:k<x.calls.length:=by omega
     have hek:(k:Int).toNat=k:=Int.toNat_natCast k
     have hm:x.calls.getD k k0∈x.calls:=getD_mem hlt
     have hfn:=callfn_ok _ (R.calls _ hm)
     have hwl:=(callW_ok (R.calls _ hm)).line
     have htl:=(LD.app (Lcal k)).txt (by omega)
     conv=>whnf
     refine iO ?_;conv=>whnf
     refine And.intro rfl ?_;conv=>whnf
     rw [hek]
     conv=>whnf
     refine cO (fun _=>hfn) ?_
     conv=>whnf
     refine And.intro ab0 ?_
     conv=>whnf
     refine iO ?_
     conv=>whnf
     refine up hlt trivial ((wk_of [(0,.id 0)] rfl ⟨wc0,wa0,wa0,.base (.tree _ _ (congrArg AV.str (by rw [take_getD (d:=k0) hlt,List.map_append,← List.append_assoc];exact (txt_snoc _ _).symm)) rfl),wa0,trivial⟩ ⟨wb0,trivial⟩))
    have hd:=of_decide_eq_false hd
    obtain rfl:k=x.calls.length:=by omega
    conv=>whnf
    rw [List.take_length]
    refine ⟨fun hn=>?_,fun hn=>?_⟩
    ·have hn:=of_decide_eq_true hn
     have qn:notW x=[[[110,111,116,105,99,101],Lib.itoa x.notice]]:=by unfold notW;rw [if_pos (by omega)]
     conv=>whnf
     refine And.intro ab0 ?_
     conv=>whnf
     refine cO (fun _=>c_notice) ?_
     conv=>whnf
     refine And.intro ab0 ?_
     conv=>whnf
     refine And.intro ab0 ?_
     conv=>whnf
     refine ⟨fun hs=>?_,fun hs=>?_⟩
     ·have hs:=of_decide_eq_true hs
      have qs:sinW x=[[[115,105,110,107],Lib.itoa x.sink]]:=by unfold sinW;rw [if_pos (by omega)]
      conv=>whnf
      refine And.intro ab0 ?_
      conv=>whnf
      refine cO (fun _=>c_sink) ?_
      conv=>whnf
      refine And.intro ab0 ?_
      conv=>whnf
      refine And.intro ab0 ?_
      conv=>whnf
      refine .eff ae0 ?_
      conv=>whnf
      refine And.intro ab0 ?_
      conv=>whnf
      refine cO (fun _=>c_majority) ?_
      conv=>whnf
      refine And.intro ab0 ?_
      conv=>whnf
      refine And.intro ab0 ?_
      conv=>whnf
      refine cO (fun _=>c_fast) ?_
      conv=>whnf
      refine And.intro ab0 ?_
      conv=>whnf
      refine And.intro ab0 ?_
      conv=>whnf
      refine .one _ _ _ (fun _=>hfit) (.cons (lsEq (t:=txt (linesW x)) (by rw [E2,qn,qs];simp only [endW,txt_cons,txt_nil,line2,List.append_assoc,List.cons_append,List.nil_append,List.append_nil])) .nil) (.inl rfl) (.inl rfl) ?_
      conv=>whnf
      refine ⟨by kernel_rfl,?_⟩
      conv=>whnf
      rfl
     ·have hs:=of_decide_eq_false hs
      have qs:sinW x=[]:=by unfold sinW;rw [if_neg (by omega)]
      conv=>whnf
      refine .eff ae0 ?_
      conv=>whnf
      refine And.intro ab0 ?_
      conv=>whnf
      refine cO (fun _=>c_majority) ?_
      conv=>whnf
      refine And.intro ab0 ?_
      conv=>whnf
      refine And.intro ab0 ?_
      conv=>whnf
      refine cO (fun _=>c_fast) ?_
      conv=>whnf
      refine And.intro ab0 ?_
      conv=>whnf
      refine And.intro ab0 ?_
      conv=>whnf
      refine .one _ _ _ (fun _=>hfit) (.cons (lsEq (t:=txt (linesW x)) (by rw [E2,qn,qs];simp only [endW,txt_cons,txt_nil,line2,List.append_assoc,List.cons_append,List.nil_append,List.append_nil])) .nil) (.inl rfl) (.inl rfl) ?_
      conv=>whnf
      refine ⟨by kernel_rfl,?_⟩
      conv=>whnf
      rfl
    ·have hn:=of_decide_eq_false hn
     have qn:notW x=[]:=by unfold notW;rw [if_neg (by omega)]
     conv=>whnf
     refine ⟨fun hs=>?_,fun hs=>?_⟩
     ·have hs:=of_decide_eq_true hs
      have qs:sinW x=[[[115,105,110,107],Lib.itoa x.sink]]:=by unfold sinW;rw [if_pos (by omega)]
      conv=>whnf
      refine And.intro ab0 ?_
      conv=>whnf
      refine cO (fun _=>c_sink) ?_
      conv=>whnf
      refine And.intro ab0 ?_
      conv=>whnf
      refine And.intro ab0 ?_
      conv=>whnf
      refine .eff ae0 ?_
      conv=>whnf
      refine And.intro ab0 ?_
      conv=>whnf
      refine cO (fun _=>c_majority) ?_
      conv=>whnf
      refine And.intro ab0 ?_
      conv=>whnf
      refine And.intro ab0 ?_
      conv=>whnf
      refine cO (fun _=>c_fast) ?_
      conv=>whnf
      refine And.intro ab0 ?_
      conv=>whnf
      refine And.intro ab0 ?_
      conv=>whnf
      refine .one _ _ _ (fun _=>hfit) (.cons (lsEq (t:=txt (linesW x)) (by rw [E2,qn,qs];simp only [endW,txt_cons,txt_nil,line2,List.append_assoc,List.cons_append,List.nil_append,List.append_nil])) .nil) (.inl rfl) (.inl rfl) ?_
      conv=>whnf
      refine ⟨by kernel_rfl,?_⟩
      conv=>whnf
      rfl
     ·have hs:=of_decide_eq_false hs
      have qs:sinW x=[]:=by unfold sinW;rw [if_neg (by omega)]
      conv=>whnf
      refine .eff ae0 ?_
      conv=>whnf
      refine And.intro ab0 ?_
      conv=>whnf
      refine cO (fun _=>c_majority) ?_
      conv=>whnf
      refine And.intro ab0 ?_
      conv=>whnf
      refine And.intro ab0 ?_
      conv=>whnf
      refine cO (fun _=>c_fast) ?_
      conv=>whnf
      refine And.intro ab0 ?_
      conv=>whnf
      refine And.intro ab0 ?_
      conv=>whnf
      refine .one _ _ _ (fun _=>hfit) (.cons (lsEq (t:=txt (linesW x)) (by rw [E2,qn,qs];simp only [endW,txt_cons,txt_nil,line2,List.append_assoc,List.cons_append,List.nil_append,List.append_nil])) .nil) (.inl rfl) (.inl rfl) ?_
      conv=>whnf
      refine ⟨by kernel_rfl,?_⟩
      conv=>whnf
      rfl
  ·have hf:=of_decide_eq_false hf
   have qf:favW x=[]:=by unfold favW;rw [if_neg (by omega)]
   conv=>whnf
   refine ⟨fun hc=>?_,fun hc=>?_⟩
   ·have hc:=of_decide_eq_true hc
    have qc:croW x=[[[99,114,111,115,115],Lib.itoa x.cross]]:=by unfold croW;rw [if_pos (by omega)]
    conv=>whnf
    refine And.intro ab0 ?_
    conv=>whnf
    refine cO (fun _=>c_cross) ?_
    conv=>whnf
    refine And.intro ab0 ?_
    conv=>whnf
    refine And.intro ab0 ?_
    conv=>whnf
    refine loop_up (cxOk _ _) x.calls.length (fun _=>True) (fun k=>⟨[(1,.ptr 0 0),(2,.str []),(3,.int .i64 0),(4,.str (txt (headW x++x.lets.map letW++midW x++x.cov.map covW++favW x++croW x++(x.calls.take k).map callW))),(8,.int .i64 (k:Nat))],[(0,.cells 31 (celX x))],1⟩) trivial ((wk_of [(0,.id 0)] rfl ⟨wc0,wa0,wa0,.base (.tree _ _ (congrArg AV.str (by rw [List.take_zero,List.map_nil,List.append_nil,E1,qf,qc];simp only [txt_cons,txt_nil,line2,lineF,List.append_assoc,List.cons_append,List.nil_append,List.append_nil])) rfl),wa0,trivial⟩ ⟨wb0,trivial⟩)) ?_
    intro k hk _
    conv=>whnf
    refine ⟨fun hd=>?_,fun hd=>?_⟩
    ·have hd:=of_decide_eq_true hd
     have hlt:k<x.calls.length:=by omega
     have hek:(k:Int).toNat=k:=Int.toNat_natCast k
     have hm:x.calls.getD k k0∈x.calls:=getD_mem hlt
     have hfn:=callfn_ok _ (R.calls _ hm)
     have hwl:=(callW_ok (R.calls _ hm)).line
     have htl:=(LD.app (Lcal k)).txt (by omega)
     conv=>whnf
     refine iO ?_;conv=>whnf
     refine And.intro rfl ?_;conv=>whnf
     rw [hek]
     conv=>whnf
     refine cO (fun _=>hfn) ?_
     conv=>whnf
     refine And.intro ab0 ?_
     conv=>whnf
     refine iO ?_
     conv=>whnf
     refine up hlt trivial ((wk_of [(0,.id 0)] rfl ⟨wc0,wa0,wa0,.base (.tree _ _ (congrArg AV.str (by rw [take_getD (d:=k0) hlt,List.map_append,← List.append_assoc];exact (txt_snoc _ _).symm)) rfl),wa0,trivial⟩ ⟨wb0,trivial⟩))
    have hd:=of_decide_eq_false hd
    obtain rfl:k=x.calls.length:=by omega
    conv=>whnf
    rw [List.take_length]
    refine ⟨fun hn=>?_,fun hn=>?_⟩
    ·have hn:=of_decide_eq_true hn
     have qn:notW x=[[[110,111,116,105,99,101],Lib.itoa x.notice]]:=by unfold notW;rw [if_pos (by omega)]
     conv=>whnf
     refine And.intro ab0 ?_
     conv=>whnf
     refine cO (fun _=>c_notice) ?_
     conv=>whnf
     refine And.intro ab0 ?_
     conv=>whnf
     refine And.intro ab0 ?_
     conv=>whnf
     refine ⟨fun hs=>?_,fun hs=>?_⟩
     ·have hs:=of_decide_eq_true hs
      have qs:sinW x=[[[115,105,110,107],Lib.itoa x.sink]]:=by unfold sinW;rw [if_pos (by omega)]
      conv=>whnf
      refine And.intro ab0 ?_
      conv=>whnf
      refine cO (fun _=>c_sink) ?_
      conv=>whnf
      refine And.intro ab0 ?_
      conv=>whnf
      refine And.intro ab0 ?_
      conv=>whnf
      refine .eff ae0 ?_
      conv=>whnf
      refine And.intro ab0 ?_
      conv=>whnf
      refine cO (fun _=>c_majority) ?_
      conv=>whnf
      refine And.intro ab0 ?_
      conv=>whnf
      refine And.intro ab0 ?_
      conv=>whnf
      refine cO (fun _=>c_fast) ?_
      conv=>whnf
      refine And.intro ab0 ?_
      conv=>whnf
      refine And.intro ab0 ?_
      conv=>whnf
      refine .one _ _ _ (fun _=>hfit) (.cons (lsEq (t:=txt (linesW x)) (by rw [E2,qn,qs];simp only [endW,txt_cons,txt_nil,line2,List.append_assoc,List.cons_append,List.nil_append,List.append_nil])) .nil) (.inl rfl) (.inl rfl) ?_
      conv=>whnf
      refine ⟨by kernel_rfl,?_⟩
      conv=>whnf
      rfl
     ·have hs:=of_decide_eq_false hs
      have qs:sinW x=[]:=by unfold sinW;rw [if_neg (by omega)]
      conv=>whnf
      refine .eff ae0 ?_
      conv=>whnf
      refine And.intro ab0 ?_
      conv=>whnf
      refine cO (fun _=>c_majority) ?_
      conv=>whnf
      refine And.intro ab0 ?_
      conv=>whnf
      refine And.intro ab0 ?_
      conv=>whnf
      refine cO (fun _=>c_fast) ?_
      conv=>whnf
      refine And.intro ab0 ?_
      conv=>whnf
      refine And.intro ab0 ?_
      conv=>whnf
      refine .one _ _ _ (fun _=>hfit) (.cons (lsEq (t:=txt (linesW x)) (by rw [E2,qn,qs];simp only [endW,txt_cons,txt_nil,line2,List.append_assoc,List.cons_append,List.nil_append,List.append_nil])) .nil) (.inl rfl) (.inl rfl) ?_
      conv=>whnf
      refine ⟨by kernel_rfl,?_⟩
      conv=>whnf
      rfl
    ·have hn:=of_decide_eq_false hn
     have qn:notW x=[]:=by unfold notW;rw [if_neg (by omega)]
     conv=>whnf
     refine ⟨fun hs=>?_,fun hs=>?_⟩
     ·have hs:=of_decide_eq_true hs
      have qs:sinW x=[[[115,105,110,107],Lib.itoa x.sink]]:=by unfold sinW;rw [if_pos (by omega)]
      conv=>whnf
      refine And.intro ab0 ?_
      conv=>whnf
      refine cO (fun _=>c_sink) ?_
      conv=>whnf
      refine And.intro ab0 ?_
      conv=>whnf
      refine And.intro ab0 ?_
      conv=>whnf
      refine .eff ae0 ?_
      conv=>whnf
      refine And.intro ab0 ?_
      conv=>whnf
      refine cO (fun _=>c_majority) ?_
      conv=>whnf
      refine And.intro ab0 ?_
      conv=>whnf
      refine And.intro ab0 ?_
      conv=>whnf
      refine cO (fun _=>c_fast) ?_
      conv=>whnf
      refine And.intro ab0 ?_
      conv=>whnf
      refine And.intro ab0 ?_
      conv=>whnf
      refine .one _ _ _ (fun _=>hfit) (.cons (lsEq (t:=txt (linesW x)) (by rw [E2,qn,qs];simp only [endW,txt_cons,txt_nil,line2,List.append_assoc,List.cons_append,List.nil_append,List.append_nil])) .nil) (.inl rfl) (.inl rfl) ?_
      conv=>whnf
      refine ⟨by kernel_rfl,?_⟩
      conv=>whnf
      rfl
     ·have hs:=of_decide_eq_false hs
      have qs:sinW x=[]:=by unfold sinW;rw [if_neg (by omega)]
      conv=>whnf
      refine .eff ae0 ?_
      conv=>whnf
      refine And.intro ab0 ?_
      conv=>whnf
      refine cO (fun _=>c_majority) ?_
      conv=>whnf
      refine And.intro ab0 ?_
      conv=>whnf
      refine And.intro ab0 ?_
      conv=>whnf
      refine cO (fun _=>c_fast) ?_
      conv=>whnf
      refine And.intro ab0 ?_
      conv=>whnf
      refine And.intro ab0 ?_
      conv=>whnf
      refine .one _ _ _ (fun _=>hfit) (.cons (lsEq (t:=txt (linesW x)) (by rw [E2,qn,qs];simp only [endW,txt_cons,txt_nil,line2,List.append_assoc,List.cons_append,List.nil_append,List.append_nil])) .nil) (.inl rfl) (.inl rfl) ?_
      conv=>whnf
      refine ⟨by kernel_rfl,?_⟩
      conv=>whnf
      rfl
   ·have hc:=of_decide_eq_false hc
    have qc:croW x=[]:=by unfold croW;rw [if_neg (by omega)]
    conv=>whnf
    refine loop_up (cxOk _ _) x.calls.length (fun _=>True) (fun k=>⟨[(1,.ptr 0 0),(2,.str []),(3,.int .i64 0),(4,.str (txt (headW x++x.lets.map letW++midW x++x.cov.map covW++favW x++croW x++(x.calls.take k).map callW))),(8,.int .i64 (k:Nat))],[(0,.cells 31 (celX x))],1⟩) trivial ((wk_of [(0,.id 0)] rfl ⟨wc0,wa0,wa0,.base (.tree _ _ (congrArg AV.str (by rw [List.take_zero,List.map_nil,List.append_nil,E1,qf,qc];simp only [txt_cons,txt_nil,line2,lineF,List.append_assoc,List.cons_append,List.nil_append,List.append_nil])) rfl),wa0,trivial⟩ ⟨wb0,trivial⟩)) ?_
    intro k hk _
    conv=>whnf
    refine ⟨fun hd=>?_,fun hd=>?_⟩
    ·have hd:=of_decide_eq_true hd
     have hlt:k<x.calls.length:=by omega
     have hek:(k:Int).toNat=k:=Int.toNat_natCast k
     have hm:x.calls.getD k k0∈x.calls:=getD_mem hlt
     have hfn:=callfn_ok _ (R.calls _ hm)
     have hwl:=(callW_ok (R.calls _ hm)).line
     have htl:=(LD.app (Lcal k)).txt (by omega)
     conv=>whnf
     refine iO ?_;conv=>whnf
     refine And.intro rfl ?_;conv=>whnf
     rw [hek]
     conv=>whnf
     refine cO (fun _=>hfn) ?_
     conv=>whnf
     refine And.intro ab0 ?_
     conv=>whnf
     refine iO ?_
     conv=>whnf
     refine up hlt trivial ((wk_of [(0,.id 0)] rfl ⟨wc0,wa0,wa0,.base (.tree _ _ (congrArg AV.str (by rw [take_getD (d:=k0) hlt,List.map_append,← List.append_assoc];exact (txt_snoc _ _).symm)) rfl),wa0,trivial⟩ ⟨wb0,trivial⟩))
    have hd:=of_decide_eq_false hd
    obtain rfl:k=x.calls.length:=by omega
    conv=>whnf
    rw [List.take_length]
    refine ⟨fun hn=>?_,fun hn=>?_⟩
    ·have hn:=of_decide_eq_true hn
     have qn:notW x=[[[110,111,116,105,99,101],Lib.itoa x.notice]]:=by unfold notW;rw [if_pos (by omega)]
     conv=>whnf
     refine And.intro ab0 ?_
     conv=>whnf
     refine cO (fun _=>c_notice) ?_
     conv=>whnf
     refine And.intro ab0 ?_
     conv=>whnf
     refine And.intro ab0 ?_
     conv=>whnf
     refine ⟨fun hs=>?_,fun hs=>?_⟩
     ·have hs:=of_decide_eq_true hs
      have qs:sinW x=[[[115,105,110,107],Lib.itoa x.sink]]:=by unfold sinW;rw [if_pos (by omega)]
      conv=>whnf
      refine And.intro ab0 ?_
      conv=>whnf
      refine cO (fun _=>c_sink) ?_
      conv=>whnf
      refine And.intro ab0 ?_
      conv=>whnf
      refine And.intro ab0 ?_
      conv=>whnf
      refine .eff ae0 ?_
      conv=>whnf
      refine And.intro ab0 ?_
      conv=>whnf
      refine cO (fun _=>c_majority) ?_
      conv=>whnf
      refine And.intro ab0 ?_
      conv=>whnf
      refine And.intro ab0 ?_
      conv=>whnf
      refine cO (fun _=>c_fast) ?_
      conv=>whnf
      refine And.intro ab0 ?_
      conv=>whnf
      refine And.intro ab0 ?_
      conv=>whnf
      refine .one _ _ _ (fun _=>hfit) (.cons (lsEq (t:=txt (linesW x)) (by rw [E2,qn,qs];simp only [endW,txt_cons,txt_nil,line2,List.append_assoc,List.cons_append,List.nil_append,List.append_nil])) .nil) (.inl rfl) (.inl rfl) ?_
      conv=>whnf
      refine ⟨by kernel_rfl,?_⟩
      conv=>whnf
      rfl
     ·have hs:=of_decide_eq_false hs
      have qs:sinW x=[]:=by unfold sinW;rw [if_neg (by omega)]
      conv=>whnf
      refine .eff ae0 ?_
      conv=>whnf
      refine And.intro ab0 ?_
      conv=>whnf
      refine cO (fun _=>c_majority) ?_
      conv=>whnf
      refine And.intro ab0 ?_
      conv=>whnf
      refine And.intro ab0 ?_
      conv=>whnf
      refine cO (fun _=>c_fast) ?_
      conv=>whnf
      refine And.intro ab0 ?_
      conv=>whnf
      refine And.intro ab0 ?_
      conv=>whnf
      refine .one _ _ _ (fun _=>hfit) (.cons (lsEq (t:=txt (linesW x)) (by rw [E2,qn,qs];simp only [endW,txt_cons,txt_nil,line2,List.append_assoc,List.cons_append,List.nil_append,List.append_nil])) .nil) (.inl rfl) (.inl rfl) ?_
      conv=>whnf
      refine ⟨by kernel_rfl,?_⟩
      conv=>whnf
      rfl
    ·have hn:=of_decide_eq_false hn
     have qn:notW x=[]:=by unfold notW;rw [if_neg (by omega)]
     conv=>whnf
     refine ⟨fun hs=>?_,fun hs=>?_⟩
     ·have hs:=of_decide_eq_true hs
      have qs:sinW x=[[[115,105,110,107],Lib.itoa x.sink]]:=by unfold sinW;rw [if_pos (by omega)]
      conv=>whnf
      refine And.intro ab0 ?_
      conv=>whnf
      refine cO (fun _=>c_sink) ?_
      conv=>whnf
      refine And.intro ab0 ?_
      conv=>whnf
      refine And.intro ab0 ?_
      conv=>whnf
      refine .eff ae0 ?_
      conv=>whnf
      refine And.intro ab0 ?_
      conv=>whnf
      refine cO (fun _=>c_majority) ?_
      conv=>whnf
      refine And.intro ab0 ?_
      conv=>whnf
      refine And.intro ab0 ?_
      conv=>whnf
      refine cO (fun _=>c_fast) ?_
      conv=>whnf
      refine And.intro ab0 ?_
      conv=>whnf
      refine And.intro ab0 ?_
      conv=>whnf
      refine .one _ _ _ (fun _=>hfit) (.cons (lsEq (t:=txt (linesW x)) (by rw [E2,qn,qs];simp only [endW,txt_cons,txt_nil,line2,List.append_assoc,List.cons_append,List.nil_append,List.append_nil])) .nil) (.inl rfl) (.inl rfl) ?_
      conv=>whnf
      refine ⟨by kernel_rfl,?_⟩
      conv=>whnf
      rfl
     ·have hs:=of_decide_eq_false hs
      have qs:sinW x=[]:=by unfold sinW;rw [if_neg (by omega)]
      conv=>whnf
      refine .eff ae0 ?_
      conv=>whnf
      refine And.intro ab0 ?_
      conv=>whnf
      refine cO (fun _=>c_majority) ?_
      conv=>whnf
      refine And.intro ab0 ?_
      conv=>whnf
      refine And.intro ab0 ?_
      conv=>whnf
      refine cO (fun _=>c_fast) ?_
      conv=>whnf
      refine And.intro ab0 ?_
      conv=>whnf
      refine And.intro ab0 ?_
      conv=>whnf
      refine .one _ _ _ (fun _=>hfit) (.cons (lsEq (t:=txt (linesW x)) (by rw [E2,qn,qs];simp only [endW,txt_cons,txt_nil,line2,List.append_assoc,List.cons_append,List.nil_append,List.append_nil])) .nil) (.inl rfl) (.inl rfl) ?_
      conv=>whnf
      refine ⟨by kernel_rfl,?_⟩
      conv=>whnf
      rfl
noncomputable instance:DecidableEq Exp:=fun _ _=>Classical.propDecidable _
noncomputable instance:DecidableEq LetE:=fun _ _=>Classical.propDecidable _
noncomputable instance:DecidableEq Cov:=fun _ _=>Classical.propDecidable _
noncomputable instance:DecidableEq CallE:=fun _ _=>Classical.propDecidable _
noncomputable instance:DecidableEq Ind:=fun _ _=>Classical.propDecidable _
theorem list_eq {α:Type} {d:α}:∀ {l r:List α},l.length=r.length→(∀ j,j<l.length→l.getD j d=r.getD j d)→l=r
 | [],[],_,_=>rfl
 | [],_::_,h,_=>by cases h
 | _::_,[],h,_=>by cases h
 | a::l,b::r,h,hj=>by
  have h0:a=b:=hj 0 (by simp)
  have h1:l=r:=list_eq (by simpa using h) fun j hl=>hj (j+1) (by simp;omega)
  rw [h0,h1]
theorem Exp.ext_iff' (a b:Exp):a=b↔a.op=b.op∧a.n=b.n∧a.unit=b.unit∧a.s=b.s∧a.args=b.args:=by
 cases a;cases b
 simp [Exp.op,Exp.n,Exp.unit,Exp.s,Exp.args]
theorem eqE_dec (a b:Exp):decide (a=b)=(decide (a.op=b.op)&&decide (a.n=b.n)&&decide (a.unit=b.unit)&&decide (a.s=b.s)&&decide (a.args=b.args)):=by
 rw [Bool.eq_iff_iff]
 simp only [Bool.and_eq_true,decide_eq_true_eq,Exp.ext_iff' a b]
 constructor
 ·rintro ⟨h1,h2,h3,h4,h5⟩;exact ⟨⟨⟨⟨h1,h2⟩,h3⟩,h4⟩,h5⟩
 ·rintro ⟨⟨⟨⟨h1,h2⟩,h3⟩,h4⟩,h5⟩;exact ⟨h1,h2,h3,h4,h5⟩
theorem eqL_dec (a b:LetE):decide (a=b)=(decide (a.name=b.name)&&decide (a.body=b.body)):=by
 rw [Bool.eq_iff_iff]
 cases a;cases b
 simp
theorem eqC_dec (a b:Cov):decide (a=b)=(decide (a.name=b.name)&&decide (a.grace=b.grace)&&decide (a.must=b.must)):=by
 rw [Bool.eq_iff_iff]
 cases a;cases b
 simp only [Bool.and_eq_true,decide_eq_true_eq,Cov.mk.injEq]
 constructor
 ·rintro ⟨h1,h2,h3⟩;exact ⟨⟨h1,h3⟩,h2⟩
 ·rintro ⟨⟨h1,h3⟩,h2⟩;exact ⟨h1,h2,h3⟩
theorem eqK_dec (a b:CallE):decide (a=b)=(decide (a.a=b.a)&&decide (a.b=b.b)):=by
 rw [Bool.eq_iff_iff]
 cases a;cases b
 simp
theorem eqfE_ok (l r:List Exp) (hl:l.length≤9223372036854775807) (hr:r.length≤9223372036854775807) (hc:∀ x∈l,∀ y∈r,APureV Tryz.prog 28 [encE x,encE y] (.bool (decide (x=y)))) :
  APureV Tryz.prog 90 [.sl 5 encE ex0 l,.sl 5 encE ex0 r,.fn (.func 28) [] []] (.bool (decide (l=r))):=by
 refine aO (cxOk 32 [0,1,2,6,7,8,9,14,15,16,17,18,30]) Tryz.func90 ?_
 conv=>whnf
 refine ⟨fun hlen=>?_,fun hlen=>?_⟩
 ·have hne:¬ l=r:=by
   intro h
   rw [h] at hlen
   simp at hlen
  rw [decide_eq_false hne]
  conv=>whnf
  rfl
 have hlen:l.length=r.length:=by simp at hlen;omega
 conv=>whnf
 refine loop_up (cxOk _ _) l.length (fun k=>∀ j,j<k→l.getD j ex0=r.getD j ex0) (fun k=>⟨[(0,.sl 5 encE ex0 l),(1,.sl 5 encE ex0 r),(2,.fn (.func 28) [] []),(6,.bool false),(15,.sl 5 encE ex0 l),(16,.int .i64 (l.length:Nat)),(17,.int .i64 (k:Nat))],[],0⟩) (by intro j hj;omega) ((wk_of [] rfl ⟨wa0,wa0,.fn _ _ _ _ _ ad0 ad0,wa0,wa0,wa0,wa0,trivial⟩ trivial)) ?_
 intro k hk hP
 conv=>whnf
 refine ⟨fun hd=>?_,fun hd=>?_⟩
 ·have hd:=of_decide_eq_true hd
  have hlt:k<l.length:=by omega
  have hek:(k:Int).toNat=k:=Int.toNat_natCast k
  have h:=hc _ (getD_mem (d:=ex0) hlt) _ (getD_mem (d:=ex0) (show k<r.length by omega))
  conv=>whnf
  refine iO ?_;conv=>whnf
  refine And.intro rfl ?_;conv=>whnf
  refine iO ?_;conv=>whnf
  refine And.intro rfl ?_;conv=>whnf
  rw [hek]
  conv=>whnf
  refine cO (fun _=>h) ?_
  conv=>whnf
  refine ⟨fun he=>?_,fun he=>?_⟩
  ·have hne:¬ l=r:=by
    intro h
    rw [h] at he
    simp at he
   rw [decide_eq_false hne]
   conv=>whnf
   rfl
  ·have he:l.getD k ex0=r.getD k ex0:=by simpa using he
   conv=>whnf
   refine iO ?_;conv=>whnf
   refine up hlt (fun j hj=>?_) ((wk_of [] rfl ⟨wa0,wa0,.fn _ _ _ _ _ ad0 ad0,wa0,wa0,wa0,wa0,trivial⟩ trivial))
   by_cases e:j=k
   ·subst e;exact he
   ·exact hP j om0
 ·have hd:=of_decide_eq_false hd
  have he:l=r:=list_eq (d:=ex0) hlen fun j hj=>hP j (by omega)
  rw [decide_eq_true he]
  conv=>whnf
  rfl
theorem eqfL_ok (l r:List LetE) (hl:l.length≤9223372036854775807) (hr:r.length≤9223372036854775807) (hc:∀ x∈l,∀ y∈r,APureV Tryz.prog 87 [encL x,encL y] (.bool (decide (x=y)))) :
  APureV Tryz.prog 86 [.sl 6 encL l0 l,.sl 6 encL l0 r,.fn (.func 87) [] []] (.bool (decide (l=r))):=by
 refine aO (cxOk 32 [0,1,2,6,7,8,9,14,15,16,17,18,30]) Tryz.func86 ?_
 conv=>whnf
 refine ⟨fun hlen=>?_,fun hlen=>?_⟩
 ·have hne:¬ l=r:=by
   intro h
   rw [h] at hlen
   simp at hlen
  rw [decide_eq_false hne]
  conv=>whnf
  rfl
 have hlen:l.length=r.length:=by simp at hlen;omega
 conv=>whnf
 refine loop_up (cxOk _ _) l.length (fun k=>∀ j,j<k→l.getD j l0=r.getD j l0) (fun k=>⟨[(0,.sl 6 encL l0 l),(1,.sl 6 encL l0 r),(2,.fn (.func 87) [] []),(6,.bool false),(15,.sl 6 encL l0 l),(16,.int .i64 (l.length:Nat)),(17,.int .i64 (k:Nat))],[],0⟩) (by intro j hj;omega) ((wk_of [] rfl ⟨wa0,wa0,.fn _ _ _ _ _ ad0 ad0,wa0,wa0,wa0,wa0,trivial⟩ trivial)) ?_
 intro k hk hP
 conv=>whnf
 refine ⟨fun hd=>?_,fun hd=>?_⟩
 ·have hd:=of_decide_eq_true hd
  have hlt:k<l.length:=by omega
  have hek:(k:Int).toNat=k:=Int.toNat_natCast k
  have h:=hc _ (getD_mem (d:=l0) hlt) _ (getD_mem (d:=l0) (show k<r.length by omega))
  conv=>whnf
  refine iO ?_;conv=>whnf
  refine And.intro rfl ?_;conv=>whnf
  refine iO ?_;conv=>whnf
  refine And.intro rfl ?_;conv=>whnf
  rw [hek]
  conv=>whnf
  refine cO (fun _=>h) ?_
  conv=>whnf
  refine ⟨fun he=>?_,fun he=>?_⟩
  ·have hne:¬ l=r:=by
    intro h
    rw [h] at he
    simp at he
   rw [decide_eq_false hne]
   conv=>whnf
   rfl
  ·have he:l.getD k l0=r.getD k l0:=by simpa using he
   conv=>whnf
   refine iO ?_;conv=>whnf
   refine up hlt (fun j hj=>?_) ((wk_of [] rfl ⟨wa0,wa0,.fn _ _ _ _ _ ad0 ad0,wa0,wa0,wa0,wa0,trivial⟩ trivial))
   by_cases e:j=k
   ·subst e;exact he
   ·exact hP j om0
 ·have hd:=of_decide_eq_false hd
  have he:l=r:=list_eq (d:=l0) hlen fun j hj=>hP j (by omega)
  rw [decide_eq_true he]
  conv=>whnf
  rfl
theorem eqfC_ok (l r:List Cov) (hl:l.length≤9223372036854775807) (hr:r.length≤9223372036854775807) (hc:∀ x∈l,∀ y∈r,APureV Tryz.prog 89 [encC x,encC y] (.bool (decide (x=y)))) :
  APureV Tryz.prog 88 [.sl 7 encC c0 l,.sl 7 encC c0 r,.fn (.func 89) [] []] (.bool (decide (l=r))):=by
 refine aO (cxOk 32 [0,1,2,6,7,8,9,14,15,16,17,18,30]) Tryz.func88 ?_
 conv=>whnf
 refine ⟨fun hlen=>?_,fun hlen=>?_⟩
 ·have hne:¬ l=r:=by
   intro h
   rw [h] at hlen
   simp at hlen
  rw [decide_eq_false hne]
  conv=>whnf
  rfl
 have hlen:l.length=r.length:=by simp at hlen;omega
 conv=>whnf
 refine loop_up (cxOk _ _) l.length (fun k=>∀ j,j<k→l.getD j c0=r.getD j c0) (fun k=>⟨[(0,.sl 7 encC c0 l),(1,.sl 7 encC c0 r),(2,.fn (.func 89) [] []),(6,.bool false),(15,.sl 7 encC c0 l),(16,.int .i64 (l.length:Nat)),(17,.int .i64 (k:Nat))],[],0⟩) (by intro j hj;omega) ((wk_of [] rfl ⟨wa0,wa0,.fn _ _ _ _ _ ad0 ad0,wa0,wa0,wa0,wa0,trivial⟩ trivial)) ?_
 intro k hk hP
 conv=>whnf
 refine ⟨fun hd=>?_,fun hd=>?_⟩
 ·have hd:=of_decide_eq_true hd
  have hlt:k<l.length:=by omega
  have hek:(k:Int).toNat=k:=Int.toNat_natCast k
  have h:=hc _ (getD_mem (d:=c0) hlt) _ (getD_mem (d:=c0) (show k<r.length by omega))
  conv=>whnf
  refine iO ?_;conv=>whnf
  refine And.intro rfl ?_;conv=>whnf
  refine iO ?_;conv=>whnf
  refine And.intro rfl ?_;conv=>whnf
  rw [hek]
  conv=>whnf
  refine cO (fun _=>h) ?_
  conv=>whnf
  refine ⟨fun he=>?_,fun he=>?_⟩
  ·have hne:¬ l=r:=by
    intro h
    rw [h] at he
    simp at he
   rw [decide_eq_false hne]
   conv=>whnf
   rfl
  ·have he:l.getD k c0=r.getD k c0:=by simpa using he
   conv=>whnf
   refine iO ?_;conv=>whnf
   refine up hlt (fun j hj=>?_) ((wk_of [] rfl ⟨wa0,wa0,.fn _ _ _ _ _ ad0 ad0,wa0,wa0,wa0,wa0,trivial⟩ trivial))
   by_cases e:j=k
   ·subst e;exact he
   ·exact hP j om0
 ·have hd:=of_decide_eq_false hd
  have he:l=r:=list_eq (d:=c0) hlen fun j hj=>hP j (by omega)
  rw [decide_eq_true he]
  conv=>whnf
  rfl
theorem eqsS_ok (l r:List (List UInt8)) (hl:l.length≤9223372036854775807) (hr:r.length≤9223372036854775807) :
  APureV Tryz.prog 84 [.sl 1 encS [] l,.sl 1 encS [] r] (.bool (decide (l=r))):=by
 refine aO (cxOk 26 [0,1,4,5,10,12,13,14,24]) Tryz.func84 ?_
 conv=>whnf
 refine ⟨fun hlen=>?_,fun hlen=>?_⟩
 ·have hne:¬ l=r:=by
   intro h
   rw [h] at hlen
   simp at hlen
  rw [decide_eq_false hne]
  conv=>whnf
  rfl
 have hlen:l.length=r.length:=by simp at hlen;omega
 conv=>whnf
 refine loop_up (cxOk _ _) l.length (fun k=>∀ j,j<k→l.getD j []=r.getD j []) (fun k=>⟨[(0,.sl 1 encS [] l),(1,.sl 1 encS [] r),(4,.bool false),(12,.int .i64 (l.length:Nat)),(13,.int .i64 (k:Nat))],[],0⟩) (by intro j hj;omega) ((wk_of [] rfl ⟨wa0,wa0,wa0,wa0,wa0,trivial⟩ trivial)) ?_
 intro k hk hP
 conv=>whnf
 refine ⟨fun hd=>?_,fun hd=>?_⟩
 ·have hd:=of_decide_eq_true hd
  have hlt:k<l.length:=by omega
  have hek:(k:Int).toNat=k:=Int.toNat_natCast k
  conv=>whnf
  refine .quiet (by kernel_rfl) ?_;conv=>whnf
  refine iO ?_;conv=>whnf
  refine And.intro rfl ?_;conv=>whnf
  refine iO ?_;conv=>whnf
  refine And.intro rfl ?_;conv=>whnf
  rw [hek]
  conv=>whnf
  try (rw [hek];conv=>whnf)
  refine ⟨fun he=>?_,fun he=>?_⟩
  ·have hne:¬ l=r:=by
    intro h
    rw [h] at he
    simp at he
   rw [decide_eq_false hne]
   conv=>whnf
   rfl
  ·have he:l.getD k []=r.getD k []:=by simpa using he
   conv=>whnf
   refine iO ?_;conv=>whnf
   refine up hlt (fun j hj=>?_) ((wk_of [] rfl ⟨wa0,wa0,wa0,wa0,wa0,trivial⟩ trivial))
   by_cases e:j=k
   ·subst e;exact he
   ·exact hP j om0
 ·have hd:=of_decide_eq_false hd
  have he:l=r:=list_eq (d:=[]) hlen fun j hj=>hP j (by omega)
  rw [decide_eq_true he]
  conv=>whnf
  rfl
theorem eqsK_ok (l r:List CallE) (hl:l.length≤9223372036854775807) (hr:r.length≤9223372036854775807) :
  APureV Tryz.prog 85 [.sl 2 encK k0 l,.sl 2 encK k0 r] (.bool (decide (l=r))):=by
 refine aO (cxOk 26 [0,1,4,5,10,12,13,14,24]) Tryz.func85 ?_
 conv=>whnf
 refine ⟨fun hlen=>?_,fun hlen=>?_⟩
 ·have hne:¬ l=r:=by
   intro h
   rw [h] at hlen
   simp at hlen
  rw [decide_eq_false hne]
  conv=>whnf
  rfl
 have hlen:l.length=r.length:=by simp at hlen;omega
 conv=>whnf
 refine loop_up (cxOk _ _) l.length (fun k=>∀ j,j<k→l.getD j k0=r.getD j k0) (fun k=>⟨[(0,.sl 2 encK k0 l),(1,.sl 2 encK k0 r),(4,.bool false),(12,.int .i64 (l.length:Nat)),(13,.int .i64 (k:Nat))],[],0⟩) (by intro j hj;omega) ((wk_of [] rfl ⟨wa0,wa0,wa0,wa0,wa0,trivial⟩ trivial)) ?_
 intro k hk hP
 conv=>whnf
 refine ⟨fun hd=>?_,fun hd=>?_⟩
 ·have hd:=of_decide_eq_true hd
  have hlt:k<l.length:=by omega
  have hek:(k:Int).toNat=k:=Int.toNat_natCast k
  conv=>whnf
  refine .quiet (by kernel_rfl) ?_;conv=>whnf
  refine iO ?_;conv=>whnf
  refine And.intro rfl ?_;conv=>whnf
  refine iO ?_;conv=>whnf
  refine And.intro rfl ?_;conv=>whnf
  rw [hek]
  conv=>whnf
  try (rw [hek];conv=>whnf)
  refine And.intro ⟨by kernel_rfl,by kernel_rfl⟩ ?_
  conv=>whnf
  rw [show (decide ((l.getD k k0).a=(r.getD k k0).a)&&(decide ((l.getD k k0).b=(r.getD k k0).b)&&true))=decide (l.getD k k0=r.getD k k0) by rw [Bool.and_true];exact (eqK_dec _ _).symm]
  refine ⟨fun he=>?_,fun he=>?_⟩
  ·have hne:¬ l=r:=by
    intro h
    rw [h] at he
    simp at he
   rw [decide_eq_false hne]
   conv=>whnf
   rfl
  ·have he:l.getD k k0=r.getD k k0:=by simpa using he
   conv=>whnf
   refine iO ?_;conv=>whnf
   refine up hlt (fun j hj=>?_) ((wk_of [] rfl ⟨wa0,wa0,wa0,wa0,wa0,trivial⟩ trivial))
   by_cases e:j=k
   ·subst e;exact he
   ·exact hP j om0
 ·have hd:=of_decide_eq_false hd
  have he:l=r:=list_eq (d:=k0) hlen fun j hj=>hP j (by omega)
  rw [decide_eq_true he]
  conv=>whnf
  rfl
theorem sameexp_ok:∀ (k:Nat) (a b:Exp),SizeOf.sizeOf a≤k→OkE a→OkE b→APureV Tryz.prog 28 [encE a,encE b] (.bool (decide (a=b))):=by
 intro k
 induction k with
 | zero=>intro a b h;cases a;simp at h
 | succ k ih =>
  intro a b hk ha hb
  have hq:=eqfE_ok a.args b.args ha.alen hb.alen (fun x hx y hy=>ih x y (by have:=args_lt a hx;omega) (ha.arg x hx) (hb.arg y hy))
  rw [eqE_dec]
  refine aO (cxOk 38 [0,1,2,3,4]) Tryz.func28 ?_
  conv=>whnf
  refine .one _ _ _ (fun _=>hq) (.cons (lX (argsE_eq a)) (.cons (lX (argsE_eq b)) (.cons (lS rfl) .nil))) (.inl rfl) (.inr rfl) ?_
  conv=>whnf
  rfl
theorem same_ok (a b:Exp) (ha:OkE a) (hb:OkE b):APureV Tryz.prog 28 [encE a,encE b] (.bool (decide (a=b))):=sameexp_ok _ a b (Nat.le_refl _) ha hb
theorem samel_ok (a b:LetE) (ha:OkE a.body) (hb:OkE b.body):APureV Tryz.prog 87 [encL a,encL b] (.bool (decide (a=b))):=by
 have h:=same_ok a.body b.body ha hb
 rw [eqL_dec]
 refine aO (cxOk 17 [0,1,2,3,4]) Tryz.func87 ?_
 conv=>whnf
 refine cO (fun _=>h) ?_
 conv=>whnf
 rfl
theorem samec_ok (a b:Cov) (ha:OkE a.must) (hb:OkE b.must):APureV Tryz.prog 89 [encC a,encC b] (.bool (decide (a=b))):=by
 have h:=same_ok a.must b.must ha hb
 rw [eqC_dec]
 refine aO (cxOk 24 [0,1,2,3,4]) Tryz.func89 ?_
 conv=>whnf
 refine cO (fun _=>h) ?_
 conv=>whnf
 rfl
theorem sameexp2_ok:∀ (k:Nat) (a b:Exp),SizeOf.sizeOf a≤k→OkE a→OkE b→APureV Tryz.prog 15 [encE a,encE b] (.bool (decide (a=b))):=by
 intro k
 induction k with
 | zero=>intro a b h;cases a;simp at h
 | succ k ih =>
  intro a b hk ha hb
  have hla:=argsE_len a
  have hlb:=argsE_len b
  have ha2:=ha.alen
  have hb2:=hb.alen
  refine aO (cxOk 60 [0,1,2,3,4,5,40,45,59]) Tryz.func15 ?_
  conv=>whnf
  refine ⟨fun hne=>?_,fun hne=>?_⟩
  ·have hf:¬ a=b:=by
    intro h
    rw [h] at hne
    simp at hne
   rw [decide_eq_false hf]
   conv=>whnf
   rfl
  simp only [Bool.or_eq_false_iff,Bool.not_eq_false',decide_eq_true_eq] at hne
  obtain ⟨⟨⟨⟨e1,e2⟩,e3⟩,e4⟩,e5⟩:=hne
  conv=>whnf
  refine loop_up (cxOk _ _) a.args.length (fun k=>∀ j,j<k→a.args.getD j ex0=b.args.getD j ex0) (fun k=>⟨[(2,.ptr 0 0),(3,.ptr 1 0),(4,.bool false),(5,.int .i64 (k:Nat))],[(0,.cells 26 (cellsE a)),(1,.cells 26 (cellsE b))],2⟩) (by intro j hj;omega) ((wk_of [(0,.id 0),(1,.id 1)] rfl ⟨wc0,wc0,wa0,wa0,trivial⟩ ⟨wb0,wb0,trivial⟩)) ?_
  intro k hk2 hP
  conv=>whnf
  refine ⟨fun hd=>?_,fun hd=>?_⟩
  ·have hd:=of_decide_eq_true hd
   have hlt:k<a.args.length:=by omega
   have hlt2:k<b.args.length:=by omega
   have hek:(k:Int).toNat=k:=Int.toNat_natCast k
   have h:=ih (argOf a k) (argOf b k) (by have:=args_lt a (getD_argOf hlt);omega) (ha.arg _ (getD_argOf hlt)) (hb.arg _ (getD_argOf hlt2))
   conv=>whnf
   refine .quiet (by kernel_rfl) ?_
   conv=>whnf
   refine iO ?_;conv=>whnf
   refine And.intro rfl ?_;conv=>whnf
   rw [hek,argsE_get a hlt]
   conv=>whnf
   refine iO ?_;conv=>whnf
   refine And.intro rfl ?_;conv=>whnf
   rw [hek,argsE_get b hlt2]
   conv=>whnf
   refine .mk _ _ _ _ (fun _=>h) af0 rfl ?_
   conv=>whnf
   refine ⟨fun he=>?_,fun he=>?_⟩
   ·have hne2:¬ a=b:=by
     intro h
     rw [h] at he
     simp [argOf] at he
    rw [decide_eq_false hne2]
    conv=>whnf
    rfl
   ·have he:argOf a k=argOf b k:=by simpa using he
    conv=>whnf
    refine iO ?_;conv=>whnf
    refine up hlt (fun j hj=>?_) ((wk_of [(0,.id 0),(1,.id 1)] rfl ⟨wc0,wc0,wa0,wa0,trivial⟩ ⟨wb0,wb0,trivial⟩))
    by_cases e:j=k
    ·subst e;exact he
    ·exact hP j om0
  ·have hd:=of_decide_eq_false hd
   have he:a=b:=(Exp.ext_iff' a b).2 ⟨e1,e2,e3,e4,list_eq (d:=ex0) (by omega) fun j hj=>hP j (by omega)⟩
   rw [decide_eq_true he]
   conv=>whnf
   rfl
theorem same2_ok (a b:Exp) (ha:OkE a) (hb:OkE b):APureV Tryz.prog 15 [encE a,encE b] (.bool (decide (a=b))):=sameexp2_ok _ a b (Nat.le_refl _) ha hb
theorem ind_eq {a b:Ind} (h_name:a.name=b.name) (h_issuer:a.issuer=b.issuer) (h_face:a.face=b.face) (h_frm:a.frm=b.frm) (h_to:a.to=b.to) (h_every:a.every=b.every) (h_count:a.count=b.count) (h_adjust:a.adjust=b.adjust) (h_record:a.record=b.record) (h_rank:a.rank=b.rank) (h_lets:a.lets=b.lets) (h_coupon:a.coupon=b.coupon) (h_cap:a.cap=b.cap) (h_cov:a.cov=b.cov) (h_favour:a.favour=b.favour) (h_cross:a.cross=b.cross) (h_calls:a.calls=b.calls) (h_notice:a.notice=b.notice) (h_sink:a.sink=b.sink) (h_majority:a.majority=b.majority) (h_fast:a.fast=b.fast):a=b:=by
 cases a;cases b
 simp only at *
 subst h_name
 subst h_issuer
 subst h_face
 subst h_frm
 subst h_to
 subst h_every
 subst h_count
 subst h_adjust
 subst h_record
 subst h_rank
 subst h_lets
 subst h_coupon
 subst h_cap
 subst h_cov
 subst h_favour
 subst h_cross
 subst h_calls
 subst h_notice
 subst h_sink
 subst h_majority
 subst h_fast
 rfl
theorem eqI_dec (a b:Ind):decide (a=b)=((decide (a.name=b.name)&&decide (a.issuer=b.issuer)&&decide (a.face=b.face)&&decide (a.frm=b.frm)&&decide (a.to=b.to)&&decide (a.every=b.every)&&decide (a.count=b.count)&&decide (a.adjust=b.adjust)&&decide (a.record=b.record)&&decide (a.rank=b.rank))&&(decide (a.cap=b.cap)&&decide (a.cross=b.cross)&&decide (a.notice=b.notice)&&decide (a.sink=b.sink)&&decide (a.majority=b.majority)&&decide (a.fast=b.fast)&&decide (a.favour=b.favour)&&decide (a.calls=b.calls))&&decide (a.lets=b.lets)&&decide (a.cov=b.cov)&&decide (a.coupon=b.coupon)):=by
 rw [Bool.eq_iff_iff]
 simp only [Bool.and_eq_true,decide_eq_true_eq]
 constructor
 ·intro h
  rw [h]
  simp
 ·rintro ⟨⟨⟨⟨⟨⟨⟨⟨⟨⟨⟨⟨⟨h_name,h_issuer⟩,h_face⟩,h_frm⟩,h_to⟩,h_every⟩,h_count⟩,h_adjust⟩,h_record⟩,h_rank⟩,⟨⟨⟨⟨⟨⟨⟨h_cap,h_cross⟩,h_notice⟩,h_sink⟩,h_majority⟩,h_fast⟩,h_favour⟩,h_calls⟩⟩,h_lets⟩,h_cov⟩,h_coupon⟩
  exact ind_eq h_name h_issuer h_face h_frm h_to h_every h_count h_adjust h_record h_rank h_lets h_coupon h_cap h_cov h_favour h_cross h_calls h_notice h_sink h_majority h_fast
theorem samefn_ok (a b:Ind) (ha:OkX a) (hb:OkX b):APureV Tryz.prog 27 [encX a,encX b] (.bool (decide (a=b))):=by
 have q1:=eqsS_ok a.favour b.favour ha.favour hb.favour
 have q2:=eqsK_ok a.calls b.calls ha.calls hb.calls
 have q3:=eqfL_ok a.lets b.lets (by have:=ha.lets;omega) (by have:=hb.lets;omega) (fun x hx y hy=>samel_ok x y (ha.let1 x hx).2 (hb.let1 y hy).2)
 have q4:=eqfC_ok a.cov b.cov (by have:=ha.cov;omega) (by have:=hb.cov;omega) (fun x hx y hy=>samec_ok x y (ha.cov1 x hx).2.1 (hb.cov1 y hy).2.1)
 have q5:=same_ok a.coupon b.coupon ha.coupon hb.coupon
 rw [eqI_dec]
 refine aO (cxOk 158 [0,1,2,3,4,5,6,7,8]) Tryz.func27 ?_
 conv=>whnf
 refine cO (fun _=>q1) ?_
 conv=>whnf
 refine cO (fun _=>q2) ?_
 conv=>whnf
 refine cO (fun _=>q3) ?_
 conv=>whnf
 refine cO (fun _=>q4) ?_
 conv=>whnf
 refine cO (fun _=>q5) ?_
 conv=>whnf
 rfl
theorem samefn2_ok (a b:Ind) (ha:OkX a) (hb:OkX b):APureV Tryz.prog 14 [encX a,encX b] (.bool (decide (a=b))):=by
 have q5:=same2_ok a.coupon b.coupon ha.coupon hb.coupon
 have hal:=ha.lets
 have hbl:=hb.lets
 have hac:=ha.cov
 have hbc:=hb.cov
 have haf:=ha.favour
 have hbf:=hb.favour
 have hak:=ha.calls
 have hbk:=hb.calls
 refine aO (cxOk 291 [0,1,2,3,4,5,6,7,8,9,10,167,172,203,208,254,259,272,277,290]) Tryz.func14 ?_
 conv=>whnf
 refine cO (fun _=>q5) ?_
 conv=>whnf
 refine ⟨fun hne=>?_,fun hne=>?_⟩
 ·have hf:¬ a=b:=by
   intro h
   rw [h] at hne
   simp at hne
  rw [decide_eq_false hf]
  conv=>whnf
  rfl
 simp only [Bool.or_eq_false_iff,Bool.not_eq_false',decide_eq_true_eq,Bool.and_eq_true] at hne
 obtain ⟨⟨⟨⟨⟨⟨⟨⟨⟨⟨⟨⟨⟨⟨h_name,h_issuer⟩,h_face⟩,h_frm⟩,h_to⟩,h_every⟩,h_count⟩,h_adjust⟩,h_record⟩,h_rank⟩,⟨⟨⟨⟨⟨⟨h_cap,h_cross⟩,h_notice⟩,h_sink⟩,h_majority⟩,h_fast⟩,h_coupon⟩⟩,l1⟩,l2⟩,l3⟩,l4⟩:=hne
 conv=>whnf
 refine loop_up (cxOk _ _) a.lets.length (fun k=>∀ j,j<k→a.lets.getD j l0=b.lets.getD j l0) (fun k=>⟨[(2,.ptr 0 0),(3,.ptr 1 0),(4,.bool false),(7,.int .i64 (k:Nat))],[(0,.cells 31 (celX a)),(1,.cells 31 (celX b))],2⟩) (by intro j hj;omega) ((wk_of [(0,.id 0),(1,.id 1)] rfl ⟨wc0,wc0,wa0,wa0,trivial⟩ ⟨wb0,wb0,trivial⟩)) ?_
 intro k hk hP
 conv=>whnf
 refine ⟨fun hd=>?_,fun hd=>?_⟩
 ·have hd:=of_decide_eq_true hd
  have hlt:k<a.lets.length:=by omega
  have hlt2:k<b.lets.length:=by omega
  have hek:(k:Int).toNat=k:=Int.toNat_natCast k
  have hb1:=same2_ok _ _ (ha.let1 _ (getD_mem (d:=l0) hlt)).2 (hb.let1 _ (getD_mem (d:=l0) hlt2)).2
  conv=>whnf
  refine .quiet (by kernel_rfl) ?_
  conv=>whnf
  refine iO ?_;conv=>whnf
  refine And.intro rfl ?_;conv=>whnf
  refine iO ?_;conv=>whnf
  refine And.intro rfl ?_;conv=>whnf
  refine And.intro om0 (And.intro rfl ?_);conv=>whnf
  refine And.intro om0 (And.intro rfl ?_);conv=>whnf
  rw [hek]
  conv=>whnf
  refine .mk _ _ _ _ (fun _=>hb1) af0 rfl ?_
  conv=>whnf
  refine ⟨fun he=>?_,fun he=>?_⟩
  ·have hf:¬ a=b:=by
    intro h
    rw [h] at he
    simp at he
   rw [decide_eq_false hf]
   conv=>whnf
   rfl
  ·have he:a.lets.getD k l0=b.lets.getD k l0:=by
    simp only [Bool.or_eq_false_iff,Bool.not_eq_false'] at he
    exact of_decide_eq_true (by rw [eqL_dec,he.1,he.2];rfl)
   conv=>whnf
   refine iO ?_;conv=>whnf
   refine up hlt (fun j hj=>?_) ((wk_of [(0,.id 0),(1,.id 1)] rfl ⟨wc0,wc0,wa0,wa0,trivial⟩ ⟨wb0,wb0,trivial⟩))
   by_cases e:j=k
   ·subst e;exact he
   ·exact hP j om0
 have hd:=of_decide_eq_false hd
 have h_lets:a.lets=b.lets:=list_eq (d:=l0) (by omega) fun j hj=>hP j (by omega)
 conv=>whnf
 refine loop_up (cxOk _ _) a.cov.length (fun k=>∀ j,j<k→a.cov.getD j c0=b.cov.getD j c0) (fun k=>⟨[(2,.ptr 0 0),(3,.ptr 1 0),(4,.bool false),(8,.int .i64 (k:Nat))],[(0,.cells 31 (celX a)),(1,.cells 31 (celX b))],2⟩) (by intro j hj;omega) ((wk_of [(0,.id 0),(1,.id 1)] rfl ⟨wc0,wc0,wa0,wa0,trivial⟩ ⟨wb0,wb0,trivial⟩)) ?_
 intro k hk hP
 conv=>whnf
 refine ⟨fun hd=>?_,fun hd=>?_⟩
 ·have hd:=of_decide_eq_true hd
  have hlt:k<a.cov.length:=by omega
  have hlt2:k<b.cov.length:=by omega
  have hek:(k:Int).toNat=k:=Int.toNat_natCast k
  have hb1:=same2_ok _ _ (ha.cov1 _ (getD_mem (d:=c0) hlt)).2.1 (hb.cov1 _ (getD_mem (d:=c0) hlt2)).2.1
  conv=>whnf
  refine .quiet (by kernel_rfl) ?_
  conv=>whnf
  refine iO ?_;conv=>whnf
  refine And.intro rfl ?_;conv=>whnf
  refine iO ?_;conv=>whnf
  refine And.intro rfl ?_;conv=>whnf
  refine And.intro om0 (And.intro rfl ?_);conv=>whnf
  refine And.intro om0 (And.intro rfl ?_);conv=>whnf
  refine And.intro om0 (And.intro rfl ?_);conv=>whnf
  refine And.intro om0 (And.intro rfl ?_);conv=>whnf
  rw [hek]
  conv=>whnf
  refine .mk _ _ _ _ (fun _=>hb1) af0 rfl ?_
  conv=>whnf
  refine ⟨fun he=>?_,fun he=>?_⟩
  ·have hf:¬ a=b:=by
    intro h
    rw [h] at he
    simp at he
   rw [decide_eq_false hf]
   conv=>whnf
   rfl
  ·have he:a.cov.getD k c0=b.cov.getD k c0:=by
    simp only [Bool.or_eq_false_iff,Bool.not_eq_false'] at he
    exact of_decide_eq_true (by rw [eqC_dec,he.1.1,he.1.2,he.2];rfl)
   conv=>whnf
   refine iO ?_;conv=>whnf
   refine up hlt (fun j hj=>?_) ((wk_of [(0,.id 0),(1,.id 1)] rfl ⟨wc0,wc0,wa0,wa0,trivial⟩ ⟨wb0,wb0,trivial⟩))
   by_cases e:j=k
   ·subst e;exact he
   ·exact hP j om0
 have hd:=of_decide_eq_false hd
 have h_cov:a.cov=b.cov:=list_eq (d:=c0) (by omega) fun j hj=>hP j (by omega)
 conv=>whnf
 refine loop_up (cxOk _ _) a.favour.length (fun k=>∀ j,j<k→a.favour.getD j []=b.favour.getD j []) (fun k=>⟨[(2,.ptr 0 0),(3,.ptr 1 0),(4,.bool false),(9,.int .i64 (k:Nat))],[(0,.cells 31 (celX a)),(1,.cells 31 (celX b))],2⟩) (by intro j hj;omega) ((wk_of [(0,.id 0),(1,.id 1)] rfl ⟨wc0,wc0,wa0,wa0,trivial⟩ ⟨wb0,wb0,trivial⟩)) ?_
 intro k hk hP
 conv=>whnf
 refine ⟨fun hd=>?_,fun hd=>?_⟩
 ·have hd:=of_decide_eq_true hd
  have hlt:k<a.favour.length:=by omega
  have hlt2:k<b.favour.length:=by omega
  have hek:(k:Int).toNat=k:=Int.toNat_natCast k
  conv=>whnf
  refine .quiet (by kernel_rfl) ?_
  conv=>whnf
  refine iO ?_;conv=>whnf
  refine And.intro rfl ?_;conv=>whnf
  refine iO ?_;conv=>whnf
  refine And.intro rfl ?_;conv=>whnf
  rw [hek]
  conv=>whnf
  refine ⟨fun he=>?_,fun he=>?_⟩
  ·have hf:¬ a=b:=by
    intro h
    rw [h] at he
    simp at he
   rw [decide_eq_false hf]
   conv=>whnf
   rfl
  ·have he:a.favour.getD k []=b.favour.getD k []:=by
    simpa using he
   conv=>whnf
   refine iO ?_;conv=>whnf
   refine up hlt (fun j hj=>?_) ((wk_of [(0,.id 0),(1,.id 1)] rfl ⟨wc0,wc0,wa0,wa0,trivial⟩ ⟨wb0,wb0,trivial⟩))
   by_cases e:j=k
   ·subst e;exact he
   ·exact hP j om0
 have hd:=of_decide_eq_false hd
 have h_favour:a.favour=b.favour:=list_eq (d:=[]) (by omega) fun j hj=>hP j (by omega)
 conv=>whnf
 refine loop_up (cxOk _ _) a.calls.length (fun k=>∀ j,j<k→a.calls.getD j k0=b.calls.getD j k0) (fun k=>⟨[(2,.ptr 0 0),(3,.ptr 1 0),(4,.bool false),(10,.int .i64 (k:Nat))],[(0,.cells 31 (celX a)),(1,.cells 31 (celX b))],2⟩) (by intro j hj;omega) ((wk_of [(0,.id 0),(1,.id 1)] rfl ⟨wc0,wc0,wa0,wa0,trivial⟩ ⟨wb0,wb0,trivial⟩)) ?_
 intro k hk hP
 conv=>whnf
 refine ⟨fun hd=>?_,fun hd=>?_⟩
 ·have hd:=of_decide_eq_true hd
  have hlt:k<a.calls.length:=by omega
  have hlt2:k<b.calls.length:=by omega
  have hek:(k:Int).toNat=k:=Int.toNat_natCast k
  conv=>whnf
  refine .quiet (by kernel_rfl) ?_
  conv=>whnf
  refine iO ?_;conv=>whnf
  refine And.intro rfl ?_;conv=>whnf
  refine iO ?_;conv=>whnf
  refine And.intro rfl ?_;conv=>whnf
  rw [hek]
  conv=>whnf
  refine And.intro ⟨by kernel_rfl,by kernel_rfl⟩ ?_
  conv=>whnf
  rw [show (decide ((a.calls.getD k k0).a=(b.calls.getD k k0).a)&&(decide ((a.calls.getD k k0).b=(b.calls.getD k k0).b)&&true))=decide (a.calls.getD k k0=b.calls.getD k k0) by rw [Bool.and_true];exact (eqK_dec _ _).symm]
  refine ⟨fun he=>?_,fun he=>?_⟩
  ·have hf:¬ a=b:=by
    intro h
    rw [h] at he
    simp at he
   rw [decide_eq_false hf]
   conv=>whnf
   rfl
  ·have he:a.calls.getD k k0=b.calls.getD k k0:=by
    simpa using he
   conv=>whnf
   refine iO ?_;conv=>whnf
   refine up hlt (fun j hj=>?_) ((wk_of [(0,.id 0),(1,.id 1)] rfl ⟨wc0,wc0,wa0,wa0,trivial⟩ ⟨wb0,wb0,trivial⟩))
   by_cases e:j=k
   ·subst e;exact he
   ·exact hP j om0
 have hd:=of_decide_eq_false hd
 have h_calls:a.calls=b.calls:=list_eq (d:=k0) (by omega) fun j hj=>hP j (by omega)
 conv=>whnf
 have he:a=b:=ind_eq h_name h_issuer h_face h_frm h_to h_every h_count h_adjust h_record h_rank h_lets h_coupon h_cap h_cov h_favour h_cross h_calls h_notice h_sink h_majority h_fast
 rw [decide_eq_true he]
 rfl
mutual
def nodesN:Nat→Exp→Int→Int
 | 0,_,m=>m+1
 | d+1,e,m=>if 40<e.s.length then m+1 else nodesL d m e.args 1
def nodesL:Nat→Int→List Exp→Int→Int
 | _,_,[],n=>n
 | d,m,x::l,n=>if n≤m then nodesL d m l (n+nodesN d x (m-n)) else n
end
theorem nodes_bnd:∀ (d:Nat),(∀ (e:Exp) (m:Int),0≤m→1≤nodesN d e m∧nodesN d e m≤m+1)∧(∀ (l:List Exp) (m n:Int),0≤m→1≤n→n≤m+1→n≤nodesL d m l n∧nodesL d m l n≤m+1):=by
 have step:∀ d,(∀ (e:Exp) (m:Int),0≤m→1≤nodesN d e m∧nodesN d e m≤m+1)→(∀ (l:List Exp) (m n:Int),0≤m→1≤n→n≤m+1→n≤nodesL d m l n∧nodesL d m l n≤m+1):=by
  intro d h l
  induction l with
  | nil=>intro m n h0 h1 h2;simp only [nodesL];omega
  | cons x l ih =>
   intro m n h0 h1 h2
   simp only [nodesL]
   split
   ·have:=h x (m-n) (by omega)
    have:=ih m (n+nodesN d x (m-n)) h0 (by omega) (by omega)
    omega
   ·omega
 intro d
 induction d with
 | zero =>
  have h0:∀ (e:Exp) (m:Int),0≤m→1≤nodesN 0 e m∧nodesN 0 e m≤m+1:=fun e m h=>by simp only [nodesN];omega
  exact ⟨h0,step 0 h0⟩
 | succ d ih =>
  have h0:∀ (e:Exp) (m:Int),0≤m→1≤nodesN (d+1) e m∧nodesN (d+1) e m≤m+1:=by
   intro e m h
   simp only [nodesN]
   split
   ·omega
   ·have:=ih.2 e.args m 1 h (by omega) (by omega)
    omega
  exact ⟨h0,step (d+1) h0⟩
theorem nodesL_stop {d:Nat} {m n:Int} (h:m<n):∀ (l:List Exp),nodesL d m l n=n
 | []=>by simp only [nodesL]
 | x::l=>by simp only [nodesL];rw [if_neg (by omega)]
theorem nodesL_snoc {d:Nat} {m:Int} {x:Exp}:∀ (l:List Exp) (n:Int),nodesL d m (l++[x]) n=if nodesL d m l n≤m then nodesL d m l n+nodesN d x (m-nodesL d m l n) else nodesL d m l n
 | [],n=>by simp only [List.nil_append,nodesL]
 | y::l,n=>by
  rw [List.cons_append]
  simp only [nodesL]
  by_cases h:n≤m
  ·rw [if_pos h,if_pos h,nodesL_snoc l]
  ·rw [if_neg h,if_neg h,if_neg h]
theorem nodes_ok:∀ (d:Nat) (e:Exp) (m:Int),d≤100→0≤m→m≤1000→OkE e→APureV Tryz.prog 92 [encE e,.int .i64 m,.int .i64 (d:Nat)] (.int .i64 (nodesN d e m)):=by
 intro d
 induction d with
 | zero =>
  intro e m _ h0 h1 hok
  have hsl:=hok.slen
  rw [show nodesN 0 e m=m+1 by simp only [nodesN]]
  refine aO (cxOk 45 [0,1,2,3,6,7,8,16,28]) Tryz.func92 ?_
  conv=>whnf
  refine ⟨fun _=>?_,fun hx=>(by simp at hx)⟩
  conv=>whnf
  refine iO ?_;conv=>whnf
  rfl
 | succ d ih =>
  intro e m hd h0 h1 hok
  have hal:=argsE_len e
  have hal2:=hok.alen
  have hsl:=hok.slen
  rw [show nodesN (d+1) e m=if 40<e.s.length then m+1 else nodesL d m e.args 1 by simp only [nodesN]]
  by_cases h40:40<e.s.length
  ·rw [if_pos h40]
   refine aO (cxOk 45 [0,1,2,3,6,7,8,16,28]) Tryz.func92 ?_
   conv=>whnf
   refine ⟨fun _=>?_,fun hx=>(by simp at hx;omega)⟩
   conv=>whnf
   refine iO ?_;conv=>whnf
   rfl
  rw [if_neg h40]
  refine aO (cxOk 45 [0,1,2,3,6,7,8,16,28]) Tryz.func92 ?_
  conv=>whnf
  refine ⟨fun hx=>(by simp at hx;omega),fun _=>?_⟩
  conv=>whnf
  refine loop_inv (cxOk _ _) (fun k:Nat=>k≤e.args.length) (fun k=>e.args.length-k) (fun k=>⟨[(0,encE e),(1,.int .i64 m),(2,.int .i64 ((d+1:Nat):Int)),(3,.ptr 0 0),(6,.int .i64 0),(7,.int .i64 (nodesL d m (e.args.take k) 1)),(8,.int .i64 (k:Nat))],[(0,.cells 26 (cellsE e))],1⟩) 0 (by show 0≤_;omega) ((wk_of [(0,.id 0)] rfl ⟨wa0,wa0,wa0,wc0,wa0,.base (.tree _ _ (congrArg (AV.int .i64) (by simp only [List.take_zero,nodesL])) rfl),wa0,trivial⟩ ⟨wb0,trivial⟩)) ?_
  intro k hk
  have hk:k≤e.args.length:=hk
  have hb:=(nodes_bnd d).2 (e.args.take k) m 1 h0 (by omega) (by omega)
  conv=>whnf
  by_cases hgo:k<e.args.length∧nodesL d m (e.args.take k) 1≤m
  ·obtain ⟨hlt,hle⟩:=hgo
   have hek:(k:Int).toNat=k:=Int.toNat_natCast k
   have hrec:=ih (argOf e k) (m-nodesL d m (e.args.take k) 1) (by omega) (by omega) (by omega) (hok.arg _ (getD_argOf hlt))
   have hb2:=(nodes_bnd d).1 (argOf e k) (m-nodesL d m (e.args.take k) 1) (by omega)
   refine ⟨fun _=>?_,fun hx=>(by simp at hx;omega)⟩
   conv=>whnf
   refine iO ?_;conv=>whnf
   refine And.intro rfl ?_;conv=>whnf
   rw [hek,argsE_get e hlt]
   conv=>whnf
   refine iO ?_;conv=>whnf
   refine iO ?_;conv=>whnf
   rw [show (((d+1:Nat):Int)-1)=(d:Int) by omega]
   refine cO (fun _=>hrec) ?_
   conv=>whnf
   refine iO ?_
   conv=>whnf
   refine iO ?_
   conv=>whnf
   exact ⟨k+1,hlt,(by show e.args.length-(k+1)<e.args.length-k;omega),(wk_of [(0,.id 0)] rfl ⟨wa0,wa0,wa0,wc0,wa0,.base (.tree _ _ (congrArg (AV.int .i64) (by rw [take_getD (d:=ex0) hlt,nodesL_snoc,if_pos hle];rfl)) rfl),wa0,trivial⟩ ⟨wb0,trivial⟩)⟩
  ·refine ⟨fun hx=>(by simp at hx;omega),fun _=>?_⟩
   conv=>whnf
   have he:nodesL d m e.args 1=nodesL d m (e.args.take k) 1:=by
    by_cases hke:k=e.args.length
    ·rw [hke,List.take_length]
    ·have hlt2:m<nodesL d m (e.args.take k) 1:=by omega
     have:∀ (l r:List Exp) (n:Int),m<nodesL d m l n→nodesL d m (l++r) n=nodesL d m l n:=by
      intro l
      induction l with
      | nil=>intro r n h;simp only [nodesL] at h;rw [List.nil_append,nodesL_stop h];simp only [nodesL]
      | cons y l ih =>
       intro r n h
       rw [List.cons_append]
       simp only [nodesL] at h ⊢
       by_cases hn:n≤m
       ·rw [if_pos hn] at h ⊢
        rw [if_pos hn]
        exact ih r _ h
       ·rw [if_neg hn,if_neg hn]
     have h2:=this (e.args.take k) (e.args.drop k) 1 hlt2
     rw [List.take_append_drop] at h2
     exact h2
   rw [he]
   rfl
def fewE (e:Exp):Bool:=decide (nodesN 16 e 60≤60)
theorem fewexp_ok (e:Exp) (hok:OkE e):APureV Tryz.prog 33 [encE e] (.bool (fewE e)):=by
 have h:=nodes_ok 16 e 60 (by decide) (by decide) (by decide) hok
 refine aO (cxOk 6 [0,1,2]) Tryz.func33 ?_
 conv=>whnf
 refine cO (fun _=>h) ?_
 conv=>whnf
 rfl
def few0 (x:Ind):Bool:=!(decide (22<(x.lets.length:Int))||decide (22<(x.cov.length:Int))||decide (22<(x.favour.length:Int))||decide (22<(x.calls.length:Int))||decide (40<(x.name.length:Int))||decide (40<(x.issuer.length:Int))||!fewE x.coupon)
def fewL (l:LetE):Bool:=!(decide (40<(l.name.length:Int))||!fewE l.body)
def fewC (c:Cov):Bool:=!(decide (40<(c.name.length:Int))||!fewE c.must)
def fewS (s:List UInt8):Bool:=!decide (40<(s.length:Int))
def fewX (x:Ind):Bool:=few0 x&&x.lets.all fewL&&x.cov.all fewC&&x.favour.all fewS
theorem all_false {α:Type} {p:α→Bool} {l:List α} {x:α} (hm:x∈l) (h:p x=false):l.all p=false:=by
 rw [List.all_eq_false]
 exact ⟨x,hm,by rw [h];decide⟩
theorem all_true {α:Type} {p:α→Bool} {l:List α} {d:α} (h:∀ j,j<l.length→p (l.getD j d)=true):l.all p=true:=by
 rw [List.all_eq_true]
 intro x hx
 obtain ⟨j,hj,e⟩:=mem_getD (d:=d) hx
 have:=h j hj
 rw [e] at this
 exact this
theorem few_ok (x:Ind) (h1:∀ l∈x.lets,OkE l.body) (h2:∀ c∈x.cov,OkE c.must) (h3:OkE x.coupon) (b1:x.name.length≤9223372036854775807) (b2:x.issuer.length≤9223372036854775807) (b3:x.lets.length≤9223372036854775807) (b4:x.cov.length≤9223372036854775807)
  (b5:x.favour.length≤9223372036854775807) (b6:x.calls.length≤9223372036854775807) (b7:∀ l∈x.lets,l.name.length≤9223372036854775807) (b8:∀ c∈x.cov,c.name.length≤9223372036854775807) (b9:∀ s∈x.favour,s.length≤9223372036854775807) :
  APureV Tryz.prog 18 [encX x] (.bool (fewX x)):=by
 have hc:=fewexp_ok x.coupon h3
 refine aO (cxOk 110 [0,1,2,3,4,5,45,50,70,75,95,100,109]) Tryz.func18 ?_
 conv=>whnf
 refine cO (fun _=>hc) ?_
 conv=>whnf
 refine ⟨fun hb=>?_,fun hb=>?_⟩
 ·rw [show fewX x=false by unfold fewX few0;rw [hb];rfl]
  conv=>whnf
  rfl
 have hf0:few0 x=true:=by unfold few0;rw [hb];rfl
 conv=>whnf
 refine loop_up (cxOk _ _) x.lets.length (fun k=>∀ j,j<k→fewL (x.lets.getD j l0)=true) (fun k=>⟨[(1,.ptr 0 0),(2,.bool false),(3,.int .i64 (k:Nat))],[(0,.cells 31 (celX x))],1⟩) (by intro j hj;omega) ((wk_of [(0,.id 0)] rfl ⟨wc0,wa0,wa0,trivial⟩ ⟨wb0,trivial⟩)) ?_
 intro k hk hP
 conv=>whnf
 refine ⟨fun hd=>?_,fun hd=>?_⟩
 ·have hd:=of_decide_eq_true hd
  have hlt:k<x.lets.length:=by omega
  have hek:(k:Int).toNat=k:=Int.toNat_natCast k
  have hm:x.lets.getD k l0∈x.lets:=getD_mem hlt
  have hn:=b7 _ hm
  have hq:=fewexp_ok _ (h1 _ hm)
  conv=>whnf
  refine iO ?_;conv=>whnf
  refine And.intro rfl ?_;conv=>whnf
  refine And.intro om0 (And.intro rfl ?_);conv=>whnf
  rw [hek]
  conv=>whnf
  refine cO (fun _=>hq) ?_
  conv=>whnf
  refine ⟨fun he=>?_,fun he=>?_⟩
  ·have hf:fewL (x.lets.getD k l0)=false:=by unfold fewL;rw [he];rfl
   rw [show fewX x=false by unfold fewX;rw [all_false hm hf];simp]
   conv=>whnf
   rfl
  ·have he:fewL (x.lets.getD k l0)=true:=by unfold fewL;rw [he];rfl
   conv=>whnf
   refine iO ?_;conv=>whnf
   refine up hlt (fun j hj=>?_) ((wk_of [(0,.id 0)] rfl ⟨wc0,wa0,wa0,trivial⟩ ⟨wb0,trivial⟩))
   by_cases e:j=k
   ·subst e;exact he
   ·exact hP j om0
 have hd:=of_decide_eq_false hd
 obtain rfl:k=x.lets.length:=by omega
 have hall_lets:x.lets.all fewL=true:=all_true hP
 conv=>whnf
 refine loop_up (cxOk _ _) x.cov.length (fun k=>∀ j,j<k→fewC (x.cov.getD j c0)=true) (fun k=>⟨[(1,.ptr 0 0),(2,.bool false),(4,.int .i64 (k:Nat))],[(0,.cells 31 (celX x))],1⟩) (by intro j hj;omega) ((wk_of [(0,.id 0)] rfl ⟨wc0,wa0,wa0,trivial⟩ ⟨wb0,trivial⟩)) ?_
 intro k hk hP
 conv=>whnf
 refine ⟨fun hd=>?_,fun hd=>?_⟩
 ·have hd:=of_decide_eq_true hd
  have hlt:k<x.cov.length:=by omega
  have hek:(k:Int).toNat=k:=Int.toNat_natCast k
  have hm:x.cov.getD k c0∈x.cov:=getD_mem hlt
  have hn:=b8 _ hm
  have hq:=fewexp_ok _ (h2 _ hm)
  conv=>whnf
  refine iO ?_;conv=>whnf
  refine And.intro rfl ?_;conv=>whnf
  refine And.intro om0 (And.intro rfl ?_);conv=>whnf
  rw [hek]
  conv=>whnf
  refine cO (fun _=>hq) ?_
  conv=>whnf
  refine ⟨fun he=>?_,fun he=>?_⟩
  ·have hf:fewC (x.cov.getD k c0)=false:=by unfold fewC;rw [he];rfl
   rw [show fewX x=false by unfold fewX;rw [all_false hm hf];simp]
   conv=>whnf
   rfl
  ·have he:fewC (x.cov.getD k c0)=true:=by unfold fewC;rw [he];rfl
   conv=>whnf
   refine iO ?_;conv=>whnf
   refine up hlt (fun j hj=>?_) ((wk_of [(0,.id 0)] rfl ⟨wc0,wa0,wa0,trivial⟩ ⟨wb0,trivial⟩))
   by_cases e:j=k
   ·subst e;exact he
   ·exact hP j om0
 have hd:=of_decide_eq_false hd
 obtain rfl:k=x.cov.length:=by omega
 have hall_cov:x.cov.all fewC=true:=all_true hP
 conv=>whnf
 refine loop_up (cxOk _ _) x.favour.length (fun k=>∀ j,j<k→fewS (x.favour.getD j [])=true) (fun k=>⟨[(1,.ptr 0 0),(2,.bool false),(5,.int .i64 (k:Nat))],[(0,.cells 31 (celX x))],1⟩) (by intro j hj;omega) ((wk_of [(0,.id 0)] rfl ⟨wc0,wa0,wa0,trivial⟩ ⟨wb0,trivial⟩)) ?_
 intro k hk hP
 conv=>whnf
 refine ⟨fun hd=>?_,fun hd=>?_⟩
 ·have hd:=of_decide_eq_true hd
  have hlt:k<x.favour.length:=by omega
  have hek:(k:Int).toNat=k:=Int.toNat_natCast k
  have hm:x.favour.getD k []∈x.favour:=getD_mem hlt
  have hn:=b9 _ hm
  conv=>whnf
  refine iO ?_;conv=>whnf
  refine And.intro rfl ?_;conv=>whnf
  rw [hek]
  conv=>whnf
  refine ⟨fun he=>?_,fun he=>?_⟩
  ·have hf:fewS (x.favour.getD k [])=false:=by unfold fewS;rw [he];rfl
   rw [show fewX x=false by unfold fewX;rw [all_false hm hf];simp]
   conv=>whnf
   rfl
  ·have he:fewS (x.favour.getD k [])=true:=by unfold fewS;rw [he];rfl
   conv=>whnf
   refine iO ?_;conv=>whnf
   refine up hlt (fun j hj=>?_) ((wk_of [(0,.id 0)] rfl ⟨wc0,wa0,wa0,trivial⟩ ⟨wb0,trivial⟩))
   by_cases e:j=k
   ·subst e;exact he
   ·exact hP j om0
 have hd:=of_decide_eq_false hd
 obtain rfl:k=x.favour.length:=by omega
 have hall_favour:x.favour.all fewS=true:=all_true hP
 conv=>whnf
 rw [show fewX x=true by unfold fewX;rw [hf0,hall_lets,hall_cov,hall_favour];rfl]
 rfl
theorem args_0 {e:Exp} (h:(e.args.length:Int)=0):e.args=[]:=List.length_eq_zero_iff.1 (by omega)
theorem args_1 {e:Exp} (h:(e.args.length:Int)=1):∃ x,e.args=[x]:=List.length_eq_one_iff.1 (by omega)
theorem args_2 {e:Exp} (h:(e.args.length:Int)=2):∃ x y,e.args=[x,y]:=by
 match hl:e.args,(show e.args.length=2 by omega) with
 | [x,y],_=>exact ⟨x,y,rfl⟩
theorem args_3 {e:Exp} (h:(e.args.length:Int)=3):∃ x y z,e.args=[x,y,z]:=by
 match hl:e.args,(show e.args.length=3 by omega) with
 | [x,y,z],_=>exact ⟨x,y,z,rfl⟩
theorem name_len20 {s:List UInt8} (h:nameB s=true):s.length≤20:=by
 unfold nameB wordB at h
 simp only [Bool.and_eq_true,decide_eq_true_eq] at h
 exact h.1.1.2
theorem right_mk (d:Nat) (op n u:Int) (s:List UInt8) (args:List Exp):rightB (d+1) (.mk op n u s args) =
  if (args.length:Int)≠opsN op then false
  else if op=0 then decide (s=[])&&inB 0 4 [u]&&inB 0 (if u=4 then 1 else 1000000000000000) [n]
  else if op=1∨op=2∨op=3 then decide (n=0)&&decide (u=0)&&nameB s
  else if op=16∨op=17∨op=18 then decide (u=0)&&decide (s=[])&&inB 1 1000 [n]&&rightB d (args.getD 0 ex0)
  else decide (n=0)&&decide (u=0)&&decide (s=[])&&!(args.any fun x=>!rightB d x):=rfl
theorem right_wf:∀ (d:Nat) (e:Exp),rightB d e=true→WfE e∧lev e≤d
 | 0,e,h=>by cases h
 | d+1,⟨op,n,u,s,args⟩,h=>by
  rw [right_mk] at h
  by_cases hl:(args.length:Int)≠opsN op
  ·rw [if_pos hl] at h;cases h
  rw [if_neg hl] at h
  have hl:=Decidable.of_not_not hl
  unfold opsN at hl
  have lv:∀ l:List Exp,lev (.mk op n u s l)=levs l+1:=fun l=>by rw [lev]
  by_cases h0:op=0
  ·rw [if_pos h0] at h
   subst h0
   simp only [Bool.and_eq_true,decide_eq_true_eq] at h
   obtain ⟨⟨hs,hu⟩,hn⟩:=h
   have hu:=inB_one hu
   have hn:=inB_one hn
   have ha:=args_0 (e:=.mk 0 n u s args) (by simpa [Exp.args] using hl)
   have ha:args=[]:=ha
   subst ha hs
   refine ⟨?_,by rw [lv];simp [levs]⟩
   by_cases h4:u=4
   ·subst h4
    rw [if_pos rfl] at hn
    exact .boo n om0
   ·rw [if_neg h4] at hn
    exact .num n u hn.1 hn.2 om0
  rw [if_neg h0] at h
  by_cases h1:op=1∨op=2∨op=3
  ·rw [if_pos h1] at h
   simp only [Bool.and_eq_true,decide_eq_true_eq] at h
   obtain ⟨⟨hn,hu⟩,hs⟩:=h
   rw [if_pos (by omega)] at hl
   have ha:args=[]:=args_0 (e:=.mk op n u s args) hl
   subst ha hn hu
   exact ⟨.name op s h1 hs (by have:=name_len20 hs;omega),by rw [lv];simp [levs]⟩
  rw [if_neg h1] at h
  rw [if_neg (by omega)] at hl
  by_cases h2:op=16∨op=17∨op=18
  ·rw [if_pos h2] at h
   simp only [Bool.and_eq_true,decide_eq_true_eq] at h
   obtain ⟨⟨⟨hu,hs⟩,hn⟩,hx⟩:=h
   rw [if_pos (by omega)] at hl
   obtain ⟨x,ha⟩:=args_1 (e:=.mk op n u s args) hl
   have ha:args=[x]:=ha
   subst ha hu hs
   have ih:=right_wf d x hx
   refine ⟨.within op n x h2 (inB_one hn) ih.1,?_⟩
   rw [lv];simp only [levs];omega
  rw [if_neg h2] at h
  simp only [Bool.and_eq_true,decide_eq_true_eq,Bool.not_eq_true',List.any_eq_false,Bool.not_eq_true] at h
  obtain ⟨⟨⟨hn,hu⟩,hs⟩,hx⟩:=h
  subst hn hu hs
  have hx':∀ a∈args,WfE a∧lev a≤d:=fun a ha=>right_wf d a (by simpa using hx a ha)
  by_cases h12:op=12
  ·subst h12
   rw [if_pos (by omega)] at hl
   obtain ⟨x,ha⟩:=args_1 (e:=.mk 12 0 0 [] args) hl
   have ha:args=[x]:=ha
   subst ha
   have ih:=hx' x (by simp)
   refine ⟨.not x ih.1,?_⟩
   rw [lv];simp only [levs];omega
  rw [if_neg (by omega)] at hl
  by_cases h15:op=15
  ·subst h15
   rw [if_pos rfl] at hl
   obtain ⟨x,y,z,ha⟩:=args_3 (e:=.mk 15 0 0 [] args) hl
   have ha:args=[x,y,z]:=ha
   subst ha
   have i1:=hx' x (by simp)
   have i2:=hx' y (by simp)
   have i3:=hx' z (by simp)
   refine ⟨.cond x y z i1.1 i2.1 i3.1,?_⟩
   rw [lv];simp only [levs];omega
  rw [if_neg h15] at hl
  split at hl
  ·omega
  rename_i ho
  obtain ⟨x,y,ha⟩:=args_2 (e:=.mk op 0 0 [] args) hl
  have ha:args=[x,y]:=ha
  subst ha
  have i1:=hx' x (by simp)
  have i2:=hx' y (by simp)
  refine ⟨.pair op x y om0 i1.1 i2.1,?_⟩
  rw [lv];simp only [levs];omega
theorem wf_right {e:Exp} (h:WfE e):∀ d:Nat,lev e≤d→rightB d e=true:=by
 have i1:∀ a b n:Int,a≤n∧n≤b→inB a b [n]=true:=fun a b n h=>by unfold inB;simp [h.1,h.2]
 induction h with
 | num n u h0 h1 hu =>
  intro d hd
  obtain ⟨d,rfl⟩:∃ g,d=g+1:=⟨d-1,by simp only [lev] at hd;omega⟩
  rw [right_mk]
  have h4:¬ u=4:=by omega
  simp [Exp.op,Exp.n,Exp.unit,Exp.s,Exp.args,opsN,h4,i1 0 4 u (by omega),i1 0 1000000000000000 n ⟨h0,h1⟩]
 | boo n h =>
  intro d hd
  obtain ⟨d,rfl⟩:∃ g,d=g+1:=⟨d-1,by simp only [lev] at hd;omega⟩
  rw [right_mk]
  simp [Exp.op,Exp.n,Exp.unit,Exp.s,Exp.args,opsN,i1 0 4 4 (by omega),i1 0 1 n (by omega)]
 | name op s ho hn hl =>
  intro d hd
  obtain ⟨d,rfl⟩:∃ g,d=g+1:=⟨d-1,by simp only [lev] at hd;omega⟩
  rw [right_mk]
  rcases ho with rfl | rfl | rfl<;>simp [Exp.op,Exp.n,Exp.unit,Exp.s,Exp.args,opsN,hn]
 | within op n x ho hn hx ih =>
  intro d hd
  obtain ⟨d,rfl⟩:∃ g,d=g+1:=⟨d-1,by simp only [lev] at hd;omega⟩
  have hx:=ih d (by simp only [lev,levs] at hd;omega)
  rw [right_mk]
  rcases ho with rfl | rfl | rfl<;>simp [Exp.op,Exp.n,Exp.unit,Exp.s,Exp.args,argOf,opsN,hx,i1 1 1000 n hn]
 | not x hx ih =>
  intro d hd
  obtain ⟨d,rfl⟩:∃ g,d=g+1:=⟨d-1,by simp only [lev] at hd;omega⟩
  have hx:=ih d (by simp only [lev,levs] at hd;omega)
  rw [right_mk]
  simp [Exp.op,Exp.n,Exp.unit,Exp.s,Exp.args,opsN,hx]
 | pair op x y ho hx hy ihx ihy =>
  intro d hd
  obtain ⟨d,rfl⟩:∃ g,d=g+1:=⟨d-1,by simp only [lev] at hd;omega⟩
  have h1:=ihx d (by simp only [lev,levs] at hd;omega)
  have h2:=ihy d (by simp only [lev,levs] at hd;omega)
  have ho':opsN op=2:=by unfold opsN;rw [if_neg (by omega),if_neg (by omega),if_neg (by omega),if_neg (by omega)]
  rw [right_mk]
  rw [ho']
  rw [if_neg (by simp),if_neg (by omega),if_neg (by omega),if_neg (by omega)]
  simp [h1,h2]
 | cond x y z hx hy hz ihx ihy ihz =>
  intro d hd
  obtain ⟨d,rfl⟩:∃ g,d=g+1:=⟨d-1,by simp only [lev] at hd;omega⟩
  have h1:=ihx d (by simp only [lev,levs] at hd;omega)
  have h2:=ihy d (by simp only [lev,levs] at hd;omega)
  have h3:=ihz d (by simp only [lev,levs] at hd;omega)
  rw [right_mk]
  simp [Exp.op,Exp.n,Exp.unit,Exp.s,Exp.args,opsN,h1,h2,h3]
theorem rightE_iff (e:Exp):rightE e=true↔WfE e∧lev e≤12:=⟨right_wf 12 e,fun h=>wf_right h.1 12 h.2⟩
theorem uniq_iff (l:List (List UInt8)) (m:Int):uniqB l m=true↔(∀ s∈l,nameB s=true)∧l.Nodup∧(l.length:Int)≤m:=by
 unfold uniqB uqB
 simp only [Bool.and_eq_true,List.all_eq_true,List.mem_range,Bool.not_eq_true',decide_eq_false_iff_not,decide_eq_true_eq]
 have hg:∀ k,(h:k<l.length)→l.getD k []=l[k]:=fun k h=>by rw [List.getD_eq_getElem?_getD,List.getElem?_eq_getElem h];rfl
 constructor
 ·rintro ⟨h,hl⟩
  refine ⟨fun s hs=>?_,?_,hl⟩
  ·obtain ⟨k,hk,rfl⟩:=List.getElem_of_mem hs
   rw [← hg k hk]
   exact (h k hk).1
  ·rw [List.nodup_iff_pairwise_ne,List.pairwise_iff_getElem]
   intro i j hi hj hij he
   refine (h j hj).2 ?_
   rw [hg j hj,← he]
   rw [List.mem_iff_getElem]
   exact ⟨i,by rw [List.length_take];omega,by rw [List.getElem_take]⟩
 ·rintro ⟨h1,h2,hl⟩
  refine ⟨fun k hk=>⟨by rw [hg k hk];exact h1 _ (List.getElem_mem _),?_⟩,hl⟩
  rw [hg k hk,List.mem_iff_getElem]
  rintro ⟨i,hi,he⟩
  rw [List.length_take] at hi
  rw [List.getElem_take] at he
  rw [List.nodup_iff_pairwise_ne,List.pairwise_iff_getElem] at h2
  exact h2 i k om0 hk om0 he
def Uq (l:List (List UInt8)):Prop:=(∀ s∈l,nameB s=true)∧l.Nodup
set_option maxHeartbeats 4000000
theorem rightE_okE {e:Exp} (h:rightE e=true):OkE e:=((rightE_iff e).1 h).1.okE
theorem Rt.okX {x:Ind} (h:Rt x):OkX x:=by
 have n1:∀ l:List (List UInt8),uniqB l 20=true→l.length≤20∧∀ s∈l,s.length≤20:=fun l hl=>by
  obtain ⟨a,b,c⟩:=(uniq_iff l 20).1 hl
  exact ⟨by omega,fun s hs=>name_len20 (a s hs)⟩
 obtain ⟨l1,l2⟩:=n1 _ h.ulets
 obtain ⟨c1,c2⟩:=n1 _ h.ucov
 obtain ⟨f1,f2⟩:=n1 _ h.fav
 rw [List.length_map] at l1 c1
 have:=name_len20 h.name
 have:=name_len20 h.issuer
 have:=h.ncalls
 have i:∀ n a b:Int,a≤n∧n≤b→-9223372036854775808≤a→b≤9223372036854775807→in64 n:=fun n a b h1 h2 h3=>⟨by omega,by omega⟩
 exact ⟨by omega,by omega,rightE_okE h.coupon,by omega,fun l hl=>⟨by have:=l2 l.name (List.mem_map_of_mem hl);omega,rightE_okE (h.lets l hl)⟩,by omega,
  fun c hc=>⟨by have:=c2 c.name (List.mem_map_of_mem hc);omega,rightE_okE (h.cov c hc).1,i _ _ _ (h.cov c hc).2 (by omega) (by omega)⟩,
  by omega,fun s hs=>by have:=f2 s hs;omega,by omega,fun c hc=>⟨i _ _ _ (h.calls c hc).1 (by omega) (by omega),i _ _ _ (h.calls c hc).2 (by omega) (by omega)⟩,
  i _ _ _ h.face (by omega) (by omega),i _ _ _ h.frm (by omega) (by omega),i _ _ _ h.to (by omega) (by omega),i _ _ _ h.every (by omega) (by omega),i _ _ _ h.count (by omega) (by omega),i _ _ _ h.adjust (by omega) (by omega),i _ _ _ h.record (by omega) (by omega),i _ _ _ h.rank (by omega) (by omega),i _ _ _ h.cap (by omega) (by omega),i _ _ _ h.cross (by omega) (by omega),i _ _ _ h.notice (by omega) (by omega),i _ _ _ h.sink (by omega) (by omega),i _ _ _ h.majority (by omega) (by omega),i _ _ _ h.fast (by omega) (by omega)⟩
def decF:Nat→Nat→List UInt8
 | 0,_=>[]
 | k+1,u=>if u<10 then [UInt8.ofNat (48+u)] else decF k (u / 10)++[UInt8.ofNat (48+u % 10)]
theorem dec_F:∀ (k u:Nat),u<10 ^ k→1≤k→Lib.decDigits u=decF k u
 | 0,_,_,h=>absurd h (by decide)
 | k+1,u,h,_=>by
  rw [Lib.decDigits,decF]
  split
  ·rfl
  ·rename_i hu
   have hk:1≤k:=by
    rcases Nat.eq_zero_or_pos k with rfl | h'
    ·rw [Nat.zero_add,Nat.pow_one] at h;omega
    ·exact h'
   rw [dec_F k (u / 10) (by rw [Nat.pow_succ] at h;omega) hk]
theorem itoa_F (u:Nat) (h:u<10 ^ 4):Lib.itoa (u:Int)=decF 4 u:=by rw [Lib.itoa_nonneg,dec_F 4 u h (by decide)]
theorem it1:Lib.itoa 1=[49]:=(itoa_F 1 (by decide)).trans (by decide)
theorem it2:Lib.itoa 2=[50]:=(itoa_F 2 (by decide)).trans (by decide)
theorem it3:Lib.itoa 3=[51]:=(itoa_F 3 (by decide)).trans (by decide)
theorem it5:Lib.itoa 5=[53]:=(itoa_F 5 (by decide)).trans (by decide)
theorem it6:Lib.itoa 6=[54]:=(itoa_F 6 (by decide)).trans (by decide)
theorem it15:Lib.itoa 15=[49,53]:=(itoa_F 15 (by decide)).trans (by decide)
theorem it20:Lib.itoa 20=[50,48]:=(itoa_F 20 (by decide)).trans (by decide)
theorem it30:Lib.itoa 30=[51,48]:=(itoa_F 30 (by decide)).trans (by decide)
theorem it100:Lib.itoa 100=[49,48,48]:=(itoa_F 100 (by decide)).trans (by decide)
theorem it250:Lib.itoa 250=[50,53,48]:=(itoa_F 250 (by decide)).trans (by decide)
theorem it667:Lib.itoa 667=[54,54,55]:=(itoa_F 667 (by decide)).trans (by decide)
theorem it1000:Lib.itoa 1000=[49,48,48,48]:=(itoa_F 1000 (by decide)).trans (by decide)
theorem it1010:Lib.itoa 1010=[49,48,49,48]:=(itoa_F 1010 (by decide)).trans (by decide)
theorem it2000:Lib.itoa 2000=[50,48,48,48]:=(itoa_F 2000 (by decide)).trans (by decide)
theorem it2005:Lib.itoa 2005=[50,48,48,53]:=(itoa_F 2005 (by decide)).trans (by decide)
theorem it2010:Lib.itoa 2010=[50,48,49,48]:=(itoa_F 2010 (by decide)).trans (by decide)
theorem it5000:Lib.itoa 5000=[53,48,48,48]:=(itoa_F 5000 (by decide)).trans (by decide)
theorem fo0:formO 0=7:=by kernel_rfl
theorem fo1:formO 1=7:=by kernel_rfl
theorem fo2:formO 2=7:=by kernel_rfl
theorem fo3:formO 3=7:=by kernel_rfl
theorem fo4:formO 4=5:=by kernel_rfl
theorem fo6:formO 6=6:=by kernel_rfl
theorem fo7:formO 7=6:=by kernel_rfl
theorem fo10:formO 10=4:=by kernel_rfl
theorem fo17:formO 17=7:=by kernel_rfl
theorem op4:oprL[(oprI 4).toNat]?.getD o0=⟨[43],4,5⟩:=by kernel_rfl
theorem op6:oprL[(oprI 6).toNat]?.getD o0=⟨[42],6,6⟩:=by kernel_rfl
theorem op7:oprL[(oprI 7).toNat]?.getD o0=⟨[47],7,6⟩:=by kernel_rfl
theorem op10:oprL[(oprI 10).toNat]?.getD o0=⟨[60],10,4⟩:=by kernel_rfl
def docT:List UInt8:=[105,115,115,117,101,32,97,32,111,102,32,98,32,59,32,102,97,99,101,32,49,48,48,48,32,59,32,102,114,111,109,32,50,48,48,48,32,45,32,49,32,45,32,49,53,32,116,111,32,50,48,49,48,32,45,32,49,32,45,32,49,53,32,101,118,101,114,121,32,54,32,109,111,110,116,104,115,32,59,32,99,111,117,110,116,32,116,104,105,114,116,121,32,59,32,97,100,106,117,115,116,32,110,101,120,116,32,59,32,114,101,99,111,114,100,32,50,32,59,32,114,97,110,107,32,49,32,59,32,108,101,116,32,98,97,115,101,32,61,32,50,48,32,109,105,108,108,101,32,59,32,99,111,117,112,111,110,32,98,97,115,101,32,43,32,114,97,116,101,32,99,32,47,32,50,32,59,32,99,97,112,32,49,48,48,32,59,32,99,111,118,101,110,97,110,116,32,99,111,118,101,114,32,109,117,115,116,32,102,97,99,116,32,100,101,98,116,32,60,32,51,32,42,32,102,97,99,116,32,101,98,105,116,32,103,114,97,99,101,32,51,48,32,59,32,102,97,118,111,117,114,32,99,32,59,32,99,114,111,115,115,32,53,48,48,48,32,59,32,99,97,108,108,32,50,48,48,53,32,45,32,49,32,45,32,49,53,32,97,116,32,49,48,49,48,32,59,32,109,97,106,111,114,105,116,121,32,54,54,55,32,59,32,102,97,115,116,32,50,53,48,32,59]
def exT:List UInt8:=[108,111,110,103,32,51,48,40,102,97,99,116,32,100,101,98,116,60,50,42,102,97,99,116,32,99,97,115,104,41]
def exE:Exp:=.mk 17 30 0 [] [.mk 10 0 0 [] [.mk 2 0 0 [100,101,98,116] [],.mk 6 0 0 [] [.mk 0 2 0 [] [],.mk 2 0 0 [99,97,115,104] []]]]
theorem ex1:parseER exT=.ok exE:=by kernel_rfl
theorem sh1:showT 12 exE 0=[108,111,110,103]++[32]++Lib.itoa 30++[32,40,32]++([102,97,99,116,32,100,101,98,116]++[32]++[60]++[32]++(Lib.itoa 2++[32]++[42]++[32]++[102,97,99,116,32,99,97,115,104]))++[32,41]:=by simp [showT,bodyT,exE,argOf,Exp.op,Exp.n,Exp.unit,Exp.s,Exp.args,numT,fo0,fo1,fo2,fo3,fo4,fo6,fo7,fo10,fo17,op4,op6,op7,op10]
theorem ri1:rightE exE=true:=by kernel_rfl
theorem ex2:printE exE=([108,111,110,103,32,51,48,32,40,32,102,97,99,116,32,100,101,98,116,32,60,32,50,32,42,32,102,97,99,116,32,99,97,115,104,32,41],0):=by
 unfold printE
 rw [if_pos ri1,sh1,it30,it2]
 kernel_rfl
def sumE:Exp:=.mk 4 0 0 [] [.mk 3 0 0 [97] [],.mk 0 5 2 [] []]
def mulE:Exp:=.mk 6 0 0 [] [.mk 0 3 0 [] [],sumE]
theorem sh2:showT 12 mulE 0=Lib.itoa 3++[32]++[42]++[32]++([40,32]++([114,97,116,101,32,97]++[32]++[43]++[32]++(Lib.itoa 5++[32,109,105,108,108,101]))++[32,41]):=by simp [showT,bodyT,sumE,mulE,argOf,Exp.op,Exp.n,Exp.unit,Exp.s,Exp.args,numT,fo0,fo1,fo2,fo3,fo4,fo6,fo7,fo10,fo17,op4,op6,op7,op10]
theorem ri2:rightE mulE=true:=by kernel_rfl
theorem ex3:printE mulE=([51,32,42,32,40,32,114,97,116,101,32,97,32,43,32,53,32,109,105,108,108,101,32,41],0):=by
 unfold printE
 rw [if_pos ri2,sh2,it3,it5]
 kernel_rfl
theorem ex4:parseR [105,115,115,117,101,32,97,32,111,102,32,98,32,59,32,102,97,99,101,32,48,32,59]=.error (20,3):=by kernel_rfl
theorem ex5:parseR [105,115,115,117,101,32,97,32,111,102,32,98,32,59,32,102,97,99,101,32,49,32,59,32,102,114,111,109,32,50,48,48,49,32,45,32,50,32,45,32,50,57,32,116,111]=.error (40,23):=by kernel_rfl
theorem ex6:parseER [49,32,99,111,105,110,115,32,50]=.error (8,12):=by kernel_rfl
def cpnE:Exp:=.mk 4 0 0 [] [.mk 1 0 0 [98,97,115,101] [],.mk 7 0 0 [] [.mk 3 0 0 [99] [],.mk 0 2 0 [] []]]
def mustE:Exp:=.mk 10 0 0 [] [.mk 2 0 0 [100,101,98,116] [],.mk 6 0 0 [] [.mk 0 3 0 [] [],.mk 2 0 0 [101,98,105,116] []]]
def docX:Ind:=⟨[97],[98],1000,36538,40191,6,0,1,2,1,[⟨[98,97,115,101],.mk 0 20 2 [] []⟩],cpnE,100,[⟨[99,111,118,101,114],mustE,30⟩],[[99]],5000,[⟨38365,1010⟩],0,0,667,250⟩
theorem doc2:parseR docT=.ok docX:=by kernel_rfl
theorem sh3:showT 12 (.mk 0 20 2 [] []) 0=Lib.itoa 20++[32,109,105,108,108,101]:=by simp [showT,bodyT,cpnE,mustE,argOf,Exp.op,Exp.n,Exp.unit,Exp.s,Exp.args,numT,fo0,fo1,fo2,fo3,fo4,fo6,fo7,fo10,fo17,op4,op6,op7,op10]
theorem sh4:showT 12 cpnE 0=[98,97,115,101]++[32]++[43]++[32]++([114,97,116,101,32,99]++[32]++[47]++[32]++Lib.itoa 2):=by simp [showT,bodyT,cpnE,mustE,argOf,Exp.op,Exp.n,Exp.unit,Exp.s,Exp.args,numT,fo0,fo1,fo2,fo3,fo4,fo6,fo7,fo10,fo17,op4,op6,op7,op10]
theorem sh5:showT 12 mustE 0=[102,97,99,116,32,100,101,98,116]++[32]++[60]++[32]++(Lib.itoa 3++[32]++[42]++[32]++[102,97,99,116,32,101,98,105,116]):=by simp [showT,bodyT,cpnE,mustE,argOf,Exp.op,Exp.n,Exp.unit,Exp.s,Exp.args,numT,fo0,fo1,fo2,fo3,fo4,fo6,fo7,fo10,fo17,op4,op6,op7,op10]
theorem da1:dayT 36538=Lib.itoa 2000++[32,45,32]++Lib.itoa 1++[32,45,32]++Lib.itoa 15:=by kernel_rfl
theorem da2:dayT 40191=Lib.itoa 2010++[32,45,32]++Lib.itoa 1++[32,45,32]++Lib.itoa 15:=by kernel_rfl
theorem da3:dayT 38365=Lib.itoa 2005++[32,45,32]++Lib.itoa 1++[32,45,32]++Lib.itoa 15:=by kernel_rfl
theorem li1:linesW docX=[[[105,115,115,117,101],[97],[111,102],[98]],[[102,97,99,101],Lib.itoa 1000],
 [[102,114,111,109],dayT 36538,[116,111],dayT 40191,[101,118,101,114,121],Lib.itoa 6,[109,111,110,116,104,115]],[[99,111,117,110,116],[116,104,105,114,116,121]],[[97,100,106,117,115,116],[110,101,120,116]],[[114,101,99,111,114,100],Lib.itoa 2],[[114,97,110,107],Lib.itoa 1],
 [[108,101,116],[98,97,115,101],[61],showT 12 (.mk 0 20 2 [] []) 0],[[99,111,117,112,111,110],showT 12 cpnE 0],[[99,97,112],Lib.itoa 100],[[99,111,118,101,110,97,110,116],[99,111,118,101,114],[109,117,115,116],showT 12 mustE 0,[103,114,97,99,101],Lib.itoa 30],
 [[102,97,118,111,117,114],[99]],[[99,114,111,115,115],Lib.itoa 5000],[[99,97,108,108],dayT 38365,[97,116],Lib.itoa 1010],[[109,97,106,111,114,105,116,121],Lib.itoa 667],[[102,97,115,116],Lib.itoa 250]]:=by kernel_rfl
theorem ri3:rightI docX=true:=by kernel_rfl
theorem doc3:(printI docX).2=0∧(printI docX).1.length=docT.length+1:=by
 have h:printI docX=fitsT (txt (linesW docX)):=by unfold printI;rw [if_pos ri3]
 rw [h,li1,da1,da2,da3,sh3,sh4,sh5,it1,it2,it3,it6,it15,it20,it30,it100,it250,it667,it1000,it1010,it2000,it2005,it2010,it5000]
 constructor<;>kernel_rfl
theorem parse_ok (s:List UInt8) (hs:s.length≤9223372036854775807):APure Tryz.prog 10 [.str s] (fun rs=>rs=parA (parseR s)):=by
 cases h:lexR s with
 | error e =>
  have hp:parseR s=.error e:=by unfold parseR;rw [h]
  rw [hp]
  exact parse_lex s hs h
 | ok T=>exact parse_go s hs h
theorem parseE_ok (s:List UInt8) (hs:s.length≤9223372036854775807):APure Tryz.prog 12 [.str s] (fun rs=>rs=parEA (parseER s)):=by
 cases h:lexR s with
 | error e =>
  have hp:parseER s=.error e:=by unfold parseER;rw [h]
  rw [hp]
  exact parseE_lex s hs h
 | ok T=>exact parseE_go s hs h
theorem text37:APureV Tryz.prog 37 [] (.str docT):=by
 refine aO (cxOk 1 [0]) Tryz.func37 ?_
 conv=>whnf
 rfl
theorem okE_sum:OkE sumE:=rightE_okE (by kernel_rfl)
theorem okE_mul:OkE mulE:=rightE_okE ri2
theorem rt_doc:Rt docX:=(right_iff _).1 ri3
theorem right_bad:rightI i0=false:=by kernel_rfl
theorem rightE_bad:rightE (.mk 1 0 0 [] [])=false:=by kernel_rfl
theorem rightE_sum:rightE sumE=true:=by kernel_rfl
theorem name_per:nameB [112,101,114,105,111,100]=true:=by kernel_rfl
theorem name_coi:nameB [99,111,105,110,115]=false:=by kernel_rfl
theorem okX_0:OkX i0:=by
 have i:in64 0:=⟨by omega,by omega⟩
 have e:OkE ex0:=.mk i i i (by show ([]:List UInt8).length≤_;simp) (by show ([]:List Exp).length≤_;simp) (fun a ha=>by cases ha)
 exact ⟨by decide,by decide,e,by decide,(fun l hl=>by cases hl),by decide,(fun l hl=>by cases hl),by decide,(fun l hl=>by cases hl),by decide,(fun l hl=>by cases hl),i,i,i,i,i,i,i,i,i,i,i,i,i,i⟩
theorem okE_name:OkE (.mk 1 0 0 [] []):=by
 have i:in64 0:=⟨by omega,by omega⟩
 exact .mk ⟨by show -9223372036854775808≤(1:Int);omega,by show (1:Int)≤9223372036854775807;omega⟩ i i (by show ([]:List UInt8).length≤_;simp) (by show ([]:List Exp).length≤_;simp) (fun a ha=>by cases ha)
theorem LeT.agg {l r:List AV} (h:LeTs l r):LeT (.agg l) (.agg r):=fun S w v hr=>by
 cases hr with
 | agg cs l hl hh =>
  refine .agg cs r (by rw [hl,h.len]) fun j c b hc hb=>?_
  obtain ⟨a,ha,hab⟩:=h.get hb
  exact hab S w c (hh j c a hc ha)
def rawE (o n u:Int) (s:List UInt8):AV:=.agg [.int .i64 o,.int .i64 n,.int .i64 u,.str s,.nils]
theorem rawE_le (o n u:Int) (s:List UInt8):LeT (rawE o n u s) (encE (.mk o n u s [])):=LeT.agg (.cons (.refl _) (.cons (.refl _) (.cons (.refl _) (.cons (.refl _) (.cons (LeT.nils_lsl 5 rfl) .nil)))))
def rawSum:AV:=.agg [.int .i64 4,.int .i64 0,.int .i64 0,.str [],.lsl 5 [rawE 3 0 0 [97],rawE 0 5 2 []]]
def rawMul:AV:=.agg [.int .i64 6,.int .i64 0,.int .i64 0,.str [],.lsl 5 [rawE 0 3 0 [],encE sumE]]
theorem ones_E (x:Exp):∀ a∈(encE x).cells,a.one=true:=by
 intro a ha
 simp [encE,AV.cells] at ha
 rcases ha with rfl | rfl | rfl | rfl | rfl<;>rfl
theorem args_le {x y:Exp} {a b:AV} (h:LeTs (a.cells++b.cells) ((encE x).cells++(encE y).cells)) (o n u:Int) (s:List UInt8) :
  LeT (.lsl 5 [a,b]) (.lsl 5 (argsE (.mk o n u s [x,y]))):=by
 have e:argsE (.mk o n u s [x,y])=[encE x,encE y]:=argsE_eq _
 rw [e]
 have f:∀ c d:AV,flat [c,d]=c.cells++d.cells:=fun c d=>by unfold flat;simp
 refine LeT.lsl rfl (fun z hz=>?_) (fun z hz=>?_) (by rw [f,f];exact h)
 ·simp only [List.mem_cons,List.not_mem_nil,or_false] at hz
  rcases hz with rfl | rfl<;>rfl
 ·rw [f] at hz
  rcases List.mem_append.1 hz with hz | hz
  ·exact ones_E x z hz
  ·exact ones_E y z hz
theorem rawC_le (o n u:Int) (s:List UInt8):LeTs (rawE o n u s).cells (encE (.mk o n u s [])).cells:=.cons (.refl _) (.cons (.refl _) (.cons (.refl _) (.cons (.refl _) (.cons (LeT.nils_lsl 5 rfl) .nil))))
theorem LeTs_app {a b c d:List AV} (h:LeTs a b) (k:LeTs c d):LeTs (a++c) (b++d):=by
 induction h with
 | nil=>exact k
 | cons h _ ih=>exact .cons h ih
theorem LeTs_refl:∀ l:List AV,LeTs l l
 | []=>.nil
 | _::l=>.cons (.refl _) (LeTs_refl l)
theorem rawMulC:LeTs rawMul.cells (encE mulE).cells:=.cons (.refl _) (.cons (.refl _) (.cons (.refl _) (.cons (.refl _) (.cons (args_le (LeTs_app (rawC_le _ _ _ _) (LeTs_refl _)) 6 0 0 []) .nil))))
theorem rawMul_le:LeT rawMul (encE mulE):=LeT.agg rawMulC
def rawX0:AV:=.agg [.str [],.str [],.int .i64 0,.int .i64 0,.int .i64 0,.int .i64 0,.int .i64 0,.int .i64 0,.int .i64 0,.int .i64 0,.nils,.int .i64 0,.int .i64 0,.int .i64 0,.str [],.nils,.int .i64 0,.nils,.nils,.int .i64 0,.nils,.int .i64 0,.int .i64 0,.int .i64 0,.int .i64 0]
theorem rawX0_le:LeT rawX0 (encX i0):=by
 refine LeT.agg ?_
 repeat (first | exact .nil | refine .cons (by first | exact LeT.refl _ | exact LeT.nils_lsl 5 rfl | exact LeT.nils_sl 6 encL l0 | exact LeT.nils_sl 7 encC c0 | exact LeT.nils_sl 1 encS [] | exact LeT.nils_sl 2 encK k0) ?_)
noncomputable abbrev cS:Cx:=cx 168 [0,1,3,4,5,6,7,8,9,11,12,13,15,16,18,19,21,22,23,24]
theorem small_ok:APureV Tryz.prog 9 [] (.bool true):=by
 have c1:=parseE_ok exT (by decide)
 rw [ex1] at c1
 unfold parEA at c1
 have c2:=printexp_ok exE (rightE_okE ri1)
 rw [ex2] at c2
 have c3:=printexp_ok mulE okE_mul
 rw [ex3] at c3
 have c3:=apure_args (args':=[rawMul]) c3 (.cons rawMul_le .nil)
 have c4:=parse_ok docT (by decide)
 rw [doc2] at c4
 unfold parA at c4
 have c5:=print_ok docX rt_doc.okX
 rw [doc3.1] at c5
 have c6:=parse_ok _ (by decide:([105,115,115,117,101,32,97,32,111,102,32,98,32,59,32,102,97,99,101,32,48,32,59]:List UInt8).length≤9223372036854775807)
 rw [ex4] at c6
 unfold parA at c6
 have c7:=parse_ok _ (by decide:([105,115,115,117,101,32,97,32,111,102,32,98,32,59,32,102,97,99,101,32,49,32,59,32,102,114,111,109,32,50,48,48,49,32,45,32,50,32,45,32,50,57,32,116,111]:List UInt8).length≤9223372036854775807)
 rw [ex5] at c7
 unfold parA at c7
 have c8:=parseE_ok _ (by decide:([49,32,99,111,105,110,115,32,50]:List UInt8).length≤9223372036854775807)
 rw [ex6] at c8
 unfold parEA at c8
 have r1:=rightfn_ok docX rt_doc.okX
 rw [ri3] at r1
 have r2:=rightfn_ok i0 okX_0
 rw [right_bad] at r2
 have r2:=apure_args (args':=[rawX0]) r2 (.cons rawX0_le .nil)
 have r3:=rightexp_ok sumE okE_sum
 rw [rightE_sum] at r3
 have r4:=rightexp_ok _ okE_name
 rw [rightE_bad] at r4
 have r4:=apure_args (args':=[rawE 1 0 0 []]) r4 (.cons (rawE_le 1 0 0 []) .nil)
 have r5:=name_ok _ (by decide:([112,101,114,105,111,100]:List UInt8).length≤9223372036854775807)
 rw [name_per] at r5
 have r6:=name_ok _ (by decide:([99,111,105,110,115]:List UInt8).length≤9223372036854775807)
 rw [name_coi] at r6
 have r7:=samefn_ok docX docX rt_doc.okX rt_doc.okX
 rw [decide_eq_true (rfl:docX=docX)] at r7
 have r8:=same_ok sumE sumE okE_sum okE_sum
 rw [decide_eq_true (rfl:sumE=sumE)] at r8
 have hl:=doc3.2
 have hdl:docT.length=323:=by kernel_rfl
 have hde:decide (((printI docX).1.length:Nat)=((docT.length:Nat):Int)+1)=true:=by
  rw [hl,hdl]
  decide
 refine apure_of0 (C:=cS) (cxOk _ _) Tryz.func9 rfl dd0 rfl (by exact Nat.le_of_ble_eq_true rfl) dd0 ?_
 intro F a w hF hrel
 refine wp_seq_ev (cxOk _ _) (C:=cS) hF (st1:=⟨[(0,.bool false)],[],0⟩) (Rr:=fun _=>False) ?_ (fun _ h=>h) ?_ (fun _ _ _ _ h=>h.elim) a w hrel
 ·conv=>whnf
  exact (wk_of [] rfl ⟨wa0,trivial⟩ trivial)
 intro a w hrel
 refine wp_seq_ev (cxOk _ _) (C:=cS) hF (st1:=⟨[(0,.bool false),(1,.ptr 0 0),(3,.int .i64 0)],[(0,.cells 26 (cellsE exE))],1⟩) (Rr:=fun _=>False) ?_ (fun _ h=>h) ?_ (fun _ _ _ _ h=>h.elim) a w hrel
 ·conv=>whnf
  refine cO (fun _=>c1) ?_
  conv=>whnf
  exact (wk_of [(0,.id 0)] rfl ⟨wa0,wc0,wa0,trivial⟩ ⟨wb0,trivial⟩)
 intro a w hrel
 refine wp_seq_ev (cxOk _ _) (C:=cS) hF (st1:=⟨[(0,.bool false),(3,.int .i64 0),(4,.str [108,111,110,103,32,51,48,32,40,32,102,97,99,116,32,100,101,98,116,32,60,32,50,32,42,32,102,97,99,116,32,99,97,115,104,32,41]),(5,.int .i64 0)],[],0⟩) (Rr:=fun _=>False) ?_ (fun _ h=>h) ?_ (fun _ _ _ _ h=>h.elim) a w hrel
 ·conv=>whnf
  refine cO (fun _=>c2) ?_
  conv=>whnf
  exact (wk_of [] rfl ⟨wa0,wa0,wa0,wa0,trivial⟩ trivial)
 intro a w hrel
 refine wp_seq_ev (cxOk _ _) (C:=cS) hF (st1:=⟨[(0,.bool false),(3,.int .i64 0),(4,.str [108,111,110,103,32,51,48,32,40,32,102,97,99,116,32,100,101,98,116,32,60,32,50,32,42,32,102,97,99,116,32,99,97,115,104,32,41]),(5,.int .i64 0),(6,.ptr 0 0)],[(0,.cells 26 (cellsE sumE))],1⟩) (Rr:=fun _=>False) ?_ (fun _ h=>h) ?_ (fun _ _ _ _ h=>h.elim) a w hrel
 ·conv=>whnf
  exact (wk_frz [0]).trans (wk_of [(0,.id 1)] rfl ⟨wa0,wa0,wa0,wa0,wc0,trivial⟩ ⟨⟨_,rfl,.cells _ _ _ _ rfl (by repeat (first | exact .nil | refine .cons (by first | exact .base (.tree _ _ rfl rfl) | exact .base (.own _ _ rfl) | exact .base (.ptr _ _ _ rfl) | exact .base (.map _ _ rfl) | exact .base (.nilown _ rfl) | exact .fn _ _ _ _ _ .nil (by repeat (first | exact .nil | refine .cons (by exact .ptr _ _ _ rfl) ?_)) | exact .base (.tree _ _ (args_le (LeTs_app (rawC_le _ _ _ _) (rawC_le _ _ _ _)) 4 0 0 []) rfl) | exact .base (.leT _ _ (args_le (LeTs_app (rawC_le _ _ _ _) (rawC_le _ _ _ _)) 4 0 0 []) rfl)) ?_)) rfl⟩,trivial⟩)
 intro a w hrel
 refine wp_mono (evCode_sound (C:=cS) (cxOk _ _) hF _ ⟨[(0,.bool false),(3,.int .i64 0),(4,.str [108,111,110,103,32,51,48,32,40,32,102,97,99,116,32,100,101,98,116,32,60,32,50,32,42,32,102,97,99,116,32,99,97,115,104,32,41]),(5,.int .i64 0),(6,.ptr 0 0)],[(0,.cells 26 (cellsE sumE))],1⟩ (retQ cS.T _ (fun rs=>rs=[.val (.bool true)])) ?_ a w hrel) fun _ _ _ ⟨st',h1,h2⟩=>⟨st',h1,orP_off (fun _ h=>h) h2⟩
 conv=>whnf
 refine .one _ _ _ (fun _=>c3) (.cons (.agg _ _ _ (.cons (.base (.base (.same _ rfl))) (.cons (.base (.base (.same _ rfl))) (.cons (.base (.base (.same _ rfl))) (.cons (.base (.base (.same _ rfl))) (.cons (.base (.base (.lst _ 26 5 [rawE 0 3 0 [],encE sumE] (by kernel_rfl)))) .nil))))))  .nil) (by first | exact .inl rfl | exact .inr (by repeat (first | exact flats_nil | refine flats_cons (by first | exact flat_val _ rfl | exact flat_row (fun _=>rfl) | exact flat_lst (fun _=>rfl)) ?_))) (by first | exact .inr rfl | exact .inl rfl) ?_
 conv=>whnf
 refine cO (fun _=>text37) ?_
 conv=>whnf
 refine cO (fun _=>c4) ?_
 conv=>whnf
 refine cO (fun _=>c5) ?_
 conv=>whnf
 refine cO (fun _=>c6) ?_
 conv=>whnf
 refine cO (fun _=>c7) ?_
 conv=>whnf
 refine cO (fun _=>c8) ?_
 conv=>whnf
 refine cO (fun _=>text37) ?_
 conv=>whnf
 refine And.intro (fun _=>⟨by omega,by omega⟩) ?_
 conv=>whnf
 rw [hde]
 refine cO (fun _=>r1) ?_
 conv=>whnf
 refine cO (fun _=>r2) ?_
 conv=>whnf
 refine cO (fun _=>r3) ?_
 conv=>whnf
 refine cO (fun _=>r4) ?_
 conv=>whnf
 refine cO (fun _=>r5) ?_
 conv=>whnf
 refine cO (fun _=>r6) ?_
 conv=>whnf
 refine cO (fun _=>r7) ?_
 conv=>whnf
 refine cO (fun _=>r8) ?_
 conv=>whnf
 kernel_rfl
structure PI where
 x:Ind
 p:Int
 e:Int
def resI:Except Er Ind→PI
 | .ok x=>⟨x,0,0⟩
 | .error e=>⟨i0,e.1,e.2⟩
structure PE where
 x:Exp
 p:Int
 e:Int
def resE:Except Er Exp→PE
 | .ok x=>⟨x,0,0⟩
 | .error e=>⟨ex0,e.1,e.2⟩
structure InX (x:Ind):Prop where
 name:x.name.length≤9223372036854775807
 issuer:x.issuer.length≤9223372036854775807
 coupon:OkE x.coupon
 lets:x.lets.length≤9223372036854775807
 let1:∀ l∈x.lets,l.name.length≤9223372036854775807∧OkE l.body
 cov:x.cov.length≤9223372036854775807
 cov1:∀ c∈x.cov,c.name.length≤9223372036854775807∧OkE c.must∧in64 c.grace
 favour:x.favour.length≤9223372036854775807
 fav1:∀ s∈x.favour,s.length≤9223372036854775807
 calls:x.calls.length≤9223372036854775807
 call1:∀ c∈x.calls,in64 c.a∧in64 c.b
 nums:in64 x.face∧in64 x.frm∧in64 x.to∧in64 x.every∧in64 x.count∧in64 x.adjust∧in64 x.record∧in64 x.rank∧in64 x.cap∧in64 x.cross∧in64 x.notice∧in64 x.sink∧in64 x.majority∧in64 x.fast
theorem fewx_ok {x:Ind} (h:InX x):APureV Tryz.prog 18 [encX x] (.bool (fewX x)) :=
 few_ok x (fun l hl=>(h.let1 l hl).2) (fun c hc=>(h.cov1 c hc).2.1) h.coupon h.name h.issuer h.lets h.cov h.favour h.calls (fun l hl=>(h.let1 l hl).1) (fun c hc=>(h.cov1 c hc).1) h.fav1
theorem few_okX {x:Ind} (h:InX x) (hf:fewX x=true):OkX x:=by
 unfold fewX few0 at hf
 simp only [Bool.and_eq_true,Bool.not_eq_true',Bool.or_eq_false_iff,decide_eq_false_iff_not] at hf
 have h1:¬ 22<(x.lets.length:Int):=hf.1.1.1.1.1.1.1.1.1
 have h2:¬ 22<(x.cov.length:Int):=hf.1.1.1.1.1.1.1.1.2
 exact ⟨h.name,h.issuer,h.coupon,by omega,h.let1,by omega,h.cov1,h.favour,h.fav1,h.calls,h.call1,h.nums⟩
theorem law_prints (a b:Ind) (ia:InX a) (ib:InX b):APureV Tryz.prog 4 [encX a,encX b] (.bool true):=by
 have f1:=fewx_ok ia
 have f2:=fewx_ok ib
 cases hf1:fewX a with
 | false =>
  rw [hf1] at f1
  refine aO (cxOk 112 [0,1,2,3,4,5,6,7,8,9,10,11,12,13,14,23]) Tryz.func4 ?_
  conv=>whnf
  refine cO (fun _=>small_ok) ?_
  conv=>whnf
  refine cO (fun _=>f1) ?_
  conv=>whnf
  refine cO (fun _=>f2) ?_
  conv=>whnf
  refine gT ?_
  conv=>whnf
  rfl
 | true =>
 rw [hf1] at f1
 cases hf2:fewX b with
 | false =>
  rw [hf2] at f2
  refine aO (cxOk 112 [0,1,2,3,4,5,6,7,8,9,10,11,12,13,14,23]) Tryz.func4 ?_
  conv=>whnf
  refine cO (fun _=>small_ok) ?_
  conv=>whnf
  refine cO (fun _=>f1) ?_
  conv=>whnf
  refine cO (fun _=>f2) ?_
  conv=>whnf
  refine gT ?_
  conv=>whnf
  rfl
 | true =>
 rw [hf2] at f2
 have ha:=few_okX ia hf1
 have hb:=few_okX ib hf2
 have c1:=print_ok a ha
 have c2:=print2_ok a ha
 have c3:=printexp_ok a.coupon ha.coupon
 have c4:=printexp2_ok a.coupon ha.coupon
 have r1:=rightfn_ok a ha
 have r2:=rightfn2_ok a ha
 have r3:=rightexp_ok a.coupon ha.coupon
 have r4:=rightexp2_ok a.coupon ha.coupon
 have q1:=samefn_ok a b ha hb
 have q2:=samefn2_ok a b ha hb
 have q3:=samefn_ok a a ha ha
 rw [decide_eq_true (rfl:a=a)] at q3
 have q5:=same_ok a.coupon b.coupon ha.coupon hb.coupon
 have q6:=same2_ok a.coupon b.coupon ha.coupon hb.coupon
 refine aO (cxOk 112 [0,1,2,3,4,5,6,7,8,9,10,11,12,13,14,23]) Tryz.func4 ?_
 conv=>whnf
 refine cO (fun _=>small_ok) ?_
 conv=>whnf
 refine cO (fun _=>f1) ?_
 conv=>whnf
 refine cO (fun _=>f2) ?_
 conv=>whnf
 refine gF ?_
 conv=>whnf
 refine cO (fun _=>c1) ?_
 conv=>whnf
 refine cO (fun _=>c2) ?_
 conv=>whnf
 refine cO (fun _=>c3) ?_
 conv=>whnf
 refine cO (fun _=>c4) ?_
 conv=>whnf
 refine .quiet (by kernel_rfl) ?_
 conv=>whnf
 refine .mk _ _ _ _ (fun _=>r1) af0 rfl ?_
 conv=>whnf
 refine .mk _ _ _ _ (fun _=>r2) af0 rfl ?_
 conv=>whnf
 refine .mk _ _ _ _ (fun _=>r3) af0 rfl ?_
 conv=>whnf
 refine .mk _ _ _ _ (fun _=>r4) af0 rfl ?_
 conv=>whnf
 conv=>whnf
 refine .quiet (by kernel_rfl) ?_
 conv=>whnf
 refine .mk _ _ _ _ (fun _=>q1) af0 rfl ?_
 conv=>whnf
 refine .mk _ _ _ _ (fun _=>q2) af0 rfl ?_
 conv=>whnf
 refine .mk _ _ _ _ (fun _=>q3) af0 rfl ?_
 conv=>whnf
 refine .mk _ _ _ _ (fun _=>q5) af0 rfl ?_
 conv=>whnf
 refine .mk _ _ _ _ (fun _=>q6) af0 rfl ?_
 conv=>whnf
 simp
open Go.ChangeShapes Go.WideShapes Go.RowKit Go.Own
theorem Tryz.own:ownKnob Tryz.prog.godebug=none:=by kernel_rfl
theorem Tryz.laidOut:laidOutB Tryz.prog=true:=by kernel_rfl
theorem undBool:Tryz.prog.underlying 4=some .bool:=by kernel_rfl
theorem und3':Tryz.prog.underlying 3=some (.int .i64):=by kernel_rfl
theorem und9':Tryz.prog.underlying 9=some .string:=by kernel_rfl
theorem und23':Tryz.prog.underlying 23=some (.slice 47):=by kernel_rfl
theorem und24':Tryz.prog.underlying 24=some (.slice 26):=by kernel_rfl
theorem und27':Tryz.prog.underlying 27=some (.slice 50):=by kernel_rfl
theorem und28':Tryz.prog.underlying 28=some (.slice 9):=by kernel_rfl
theorem und29':Tryz.prog.underlying 29=some (.slice 54):=by kernel_rfl
def fields26 : Array Field := #[{ name := "Op", type := 3, offset := 0, embedded := false, tag := "", pkgPath := "", byteOffset := 0 }, { name := "N", type := 3, offset := 1, embedded := false, tag := "", pkgPath := "", byteOffset := 8 }, { name := "Unit", type := 3, offset := 2, embedded := false, tag := "", pkgPath := "", byteOffset := 16 }, { name := "S", type := 9, offset := 3, embedded := false, tag := "", pkgPath := "", byteOffset := 24 }, { name := "Args", type := 24, offset := 4, embedded := false, tag := "", pkgPath := "", byteOffset := 40 }]
theorem und26':Tryz.prog.underlying 26=some (.struct fields26):=by kernel_rfl
def fields47 : Array Field := #[{ name := "Name", type := 9, offset := 0, embedded := false, tag := "", pkgPath := "", byteOffset := 0 }, { name := "Body", type := 26, offset := 1, embedded := false, tag := "", pkgPath := "", byteOffset := 16 }]
theorem und47':Tryz.prog.underlying 47=some (.struct fields47):=by kernel_rfl
def fields50 : Array Field := #[{ name := "Name", type := 9, offset := 0, embedded := false, tag := "", pkgPath := "", byteOffset := 0 }, { name := "Must", type := 26, offset := 1, embedded := false, tag := "", pkgPath := "", byteOffset := 16 }, { name := "Grace", type := 3, offset := 6, embedded := false, tag := "", pkgPath := "", byteOffset := 80 }]
theorem und50':Tryz.prog.underlying 50=some (.struct fields50):=by kernel_rfl
def fields54 : Array Field := #[{ name := "From", type := 3, offset := 0, embedded := false, tag := "", pkgPath := "", byteOffset := 0 }, { name := "Price", type := 3, offset := 1, embedded := false, tag := "", pkgPath := "", byteOffset := 8 }]
theorem und54':Tryz.prog.underlying 54=some (.struct fields54):=by kernel_rfl
def fields31 : Array Field := #[{ name := "Name", type := 9, offset := 0, embedded := false, tag := "", pkgPath := "", byteOffset := 0 }, { name := "Issuer", type := 9, offset := 1, embedded := false, tag := "", pkgPath := "", byteOffset := 16 }, { name := "Face", type := 3, offset := 2, embedded := false, tag := "", pkgPath := "", byteOffset := 32 }, { name := "From", type := 3, offset := 3, embedded := false, tag := "", pkgPath := "", byteOffset := 40 }, { name := "To", type := 3, offset := 4, embedded := false, tag := "", pkgPath := "", byteOffset := 48 }, { name := "Every", type := 3, offset := 5, embedded := false, tag := "", pkgPath := "", byteOffset := 56 }, { name := "Count", type := 3, offset := 6, embedded := false, tag := "", pkgPath := "", byteOffset := 64 }, { name := "Adjust", type := 3, offset := 7, embedded := false, tag := "", pkgPath := "", byteOffset := 72 }, { name := "Record", type := 3, offset := 8, embedded := false, tag := "", pkgPath := "", byteOffset := 80 }, { name := "Rank", type := 3, offset := 9, embedded := false, tag := "", pkgPath := "", byteOffset := 88 }, { name := "Lets", type := 23, offset := 10, embedded := false, tag := "", pkgPath := "", byteOffset := 96 }, { name := "Coupon", type := 26, offset := 11, embedded := false, tag := "", pkgPath := "", byteOffset := 120 }, { name := "Cap", type := 3, offset := 16, embedded := false, tag := "", pkgPath := "", byteOffset := 184 }, { name := "Covenants", type := 27, offset := 17, embedded := false, tag := "", pkgPath := "", byteOffset := 192 }, { name := "Favour", type := 28, offset := 18, embedded := false, tag := "", pkgPath := "", byteOffset := 216 }, { name := "Cross", type := 3, offset := 19, embedded := false, tag := "", pkgPath := "", byteOffset := 240 }, { name := "Calls", type := 29, offset := 20, embedded := false, tag := "", pkgPath := "", byteOffset := 248 }, { name := "Notice", type := 3, offset := 21, embedded := false, tag := "", pkgPath := "", byteOffset := 272 }, { name := "Sink", type := 3, offset := 22, embedded := false, tag := "", pkgPath := "", byteOffset := 280 }, { name := "Majority", type := 3, offset := 23, embedded := false, tag := "", pkgPath := "", byteOffset := 288 }, { name := "Fast", type := 3, offset := 24, embedded := false, tag := "", pkgPath := "", byteOffset := 296 }]
theorem und31':Tryz.prog.underlying 31=some (.struct fields31):=by kernel_rfl
theorem in64_of {n:Int} (h:IntKind.i64.min≤n∧n≤IntKind.i64.max):in64 n:=by
 have e1:IntKind.i64.min=-9223372036854775808:=by rfl
 have e2:IntKind.i64.max=9223372036854775807:=by rfl
 rw [e1,e2] at h
 exact h
abbrev rInt:List AV→Prop:=fun l=>∃ n,(IntKind.i64.min≤n∧n≤IntKind.i64.max)∧l=[.int .i64 n]
abbrev rStr:List AV→Prop:=fun l=>∃ s:List UInt8,s.length≤9223372036854775807∧l=[.str s]
theorem oInt:OpensR Tryz.prog 3 1 rInt:=opensR_int und3' (by kernel_rfl)
theorem oStr:OpensR Tryz.prog 9 1 rStr:=opensR_str und9' (by kernel_rfl)
abbrev rExp:List AV→Prop:=fun l=>∃ e:Exp,OkE e∧l=(encE e).cells
theorem oExpS:∀ N,OpensS Tryz.prog 26 5 rExp N
 | 0=>opensS_zero (by kernel_rfl)
 | N+1=>by
  have hargs:OpensS Tryz.prog 24 1 (fun l=>∃ xs:List Exp,(∀ a∈xs,OkE a)∧xs.length≤9223372036854775807∧l=[.lsl 5 (xs.map encE)]) N :=
   match N with
   | 0=>opensS_zero (by kernel_rfl)
   | M+1=>opensS_slice und24' (by kernel_rfl) (oExpS M |>.le (by omega)) (by decide) (fun l ⟨e,h1,h2⟩=>⟨e,h1,h2.symm⟩) (fun e=>rfl)
  refine (opensS_struct und26' (by kernel_rfl) (Rs:=[(1,rInt),(1,rInt),(1,rInt),(1,rStr),(1,_)]) ⟨rfl,oInt.at N,rfl,oInt.at N,rfl,oInt.at N,rfl,oStr.at N,rfl,hargs,rfl⟩).mono fun l hl=>?_
  obtain ⟨_,_,⟨n0,h0,rfl⟩,⟨_,_,⟨n1,h1,rfl⟩,⟨_,_,⟨n2,h2,rfl⟩,⟨_,_,⟨s3,h3,rfl⟩,⟨_,_,⟨xs,h4,h5,rfl⟩,rfl,rfl⟩,rfl⟩,rfl⟩,rfl⟩,rfl⟩:=hl
  refine ⟨.mk n0 n1 n2 s3 xs,.mk (in64_of h0) (in64_of h1) (in64_of h2) h3 h5 h4,?_⟩
  show _=[AV.int .i64 n0,.int .i64 n1,.int .i64 n2,.str s3,.lsl 5 (argsE (.mk n0 n1 n2 s3 xs))]
  rw [argsE_eq]
  rfl
theorem oExp:OpensR Tryz.prog 26 5 rExp:=opensR_all oExpS
theorem oLets:OpensR Tryz.prog 23 1 (fun l=>∃ xs:List LetE,(∀ a∈xs,a.name.length≤9223372036854775807∧OkE a.body)∧xs.length≤9223372036854775807∧l=[.sl 6 encL l0 xs]) :=
 opensR_slice l0 und23' (by kernel_rfl) (opensR_struct und47' (by kernel_rfl) (Rs:=[(1,rStr),(5,rExp)]) ⟨rfl,oStr,rfl,oExp,rfl⟩) (by decide) (fun l hl=>by
  obtain ⟨_,_,⟨s,h1,rfl⟩,⟨_,_,⟨e,h2,rfl⟩,rfl,rfl⟩,rfl⟩:=hl
  exact ⟨⟨s,e⟩,⟨h1,h2⟩,rfl⟩) (fun _=>rfl)
theorem oCovs:OpensR Tryz.prog 27 1 (fun l=>∃ xs:List Cov,(∀ a∈xs,a.name.length≤9223372036854775807∧OkE a.must∧in64 a.grace)∧xs.length≤9223372036854775807∧l=[.sl 7 encC c0 xs]) :=
 opensR_slice c0 und27' (by kernel_rfl) (opensR_struct und50' (by kernel_rfl) (Rs:=[(1,rStr),(5,rExp),(1,rInt)]) ⟨rfl,oStr,rfl,oExp,rfl,oInt,rfl⟩) (by decide) (fun l hl=>by
  obtain ⟨_,_,⟨s,h1,rfl⟩,⟨_,_,⟨e,h2,rfl⟩,⟨_,_,⟨n,h3,rfl⟩,rfl,rfl⟩,rfl⟩,rfl⟩:=hl
  exact ⟨⟨s,e,n⟩,⟨h1,h2,in64_of h3⟩,rfl⟩) (fun _=>rfl)
theorem oStrs:OpensR Tryz.prog 28 1 (fun l=>∃ xs:List (List UInt8),(∀ a∈xs,a.length≤9223372036854775807)∧xs.length≤9223372036854775807∧l=[.sl 1 encS [] xs]) :=
 opensR_slice [] und28' (by kernel_rfl) oStr (by decide) (fun l hl=>by obtain ⟨s,h,rfl⟩:=hl;exact ⟨s,h,rfl⟩) (fun _=>rfl)
theorem oCalls:OpensR Tryz.prog 29 1 (fun l=>∃ xs:List CallE,(∀ a∈xs,in64 a.a∧in64 a.b)∧xs.length≤9223372036854775807∧l=[.sl 2 encK k0 xs]) :=
 opensR_slice k0 und29' (by kernel_rfl) (opensR_struct und54' (by kernel_rfl) (Rs:=[(1,rInt),(1,rInt)]) ⟨rfl,oInt,rfl,oInt,rfl⟩) (by decide) (fun l hl=>by
  obtain ⟨_,_,⟨a,h1,rfl⟩,⟨_,_,⟨b,h2,rfl⟩,rfl,rfl⟩,rfl⟩:=hl
  exact ⟨⟨a,b⟩,⟨in64_of h1,in64_of h2⟩,rfl⟩) (fun _=>rfl)
abbrev rInd:List AV→Prop:=fun l=>∃ x:Ind,InX x∧l=(encX x).cells
theorem oInd:OpensR Tryz.prog 31 25 rInd:=by
 refine (opensR_struct und31' (by kernel_rfl) (Rs:=[(1,rStr),(1,rStr),(1,rInt),(1,rInt),(1,rInt),(1,rInt),(1,rInt),(1,rInt),(1,rInt),(1,rInt),(1,_),(5,rExp),(1,rInt),(1,_),(1,_),(1,rInt),(1,_),(1,rInt),(1,rInt),(1,rInt),(1,rInt)])
  ⟨rfl,oStr,rfl,oStr,rfl,oInt,rfl,oInt,rfl,oInt,rfl,oInt,rfl,oInt,rfl,oInt,rfl,oInt,rfl,oInt,rfl,oLets,rfl,oExp,rfl,oInt,rfl,oCovs,rfl,oStrs,rfl,oInt,rfl,oCalls,rfl,oInt,rfl,oInt,rfl,oInt,rfl,oInt,rfl⟩).mono fun l hl=>?_
 obtain ⟨_,_,⟨s0,h0,rfl⟩,⟨_,_,⟨s1,h1,rfl⟩,⟨_,_,⟨n2,i2,rfl⟩,⟨_,_,⟨n3,i3,rfl⟩,⟨_,_,⟨n4,i4,rfl⟩,⟨_,_,⟨n5,i5,rfl⟩,⟨_,_,⟨n6,i6,rfl⟩,⟨_,_,⟨n7,i7,rfl⟩,⟨_,_,⟨n8,i8,rfl⟩,⟨_,_,⟨n9,i9,rfl⟩,hl⟩,rfl⟩,rfl⟩,rfl⟩,rfl⟩,rfl⟩,rfl⟩,rfl⟩,rfl⟩,rfl⟩:=hl
 obtain ⟨⟨_,_,⟨xs,hx1,hx2,rfl⟩,⟨_,_,⟨e,he,rfl⟩,⟨_,_,⟨n12,i12,rfl⟩,⟨_,_,⟨cv,c1,c2,rfl⟩,⟨_,_,⟨fv,f1,f2,rfl⟩,⟨_,_,⟨n15,i15,rfl⟩,⟨_,_,⟨cl,k1,k2,rfl⟩,⟨_,_,⟨n17,i17,rfl⟩,⟨_,_,⟨n18,i18,rfl⟩,⟨_,_,⟨n19,i19,rfl⟩,⟨_,_,⟨n20,i20,rfl⟩,rfl,rfl⟩,rfl⟩,rfl⟩,rfl⟩,rfl⟩,rfl⟩,rfl⟩,rfl⟩,rfl⟩,rfl⟩,rfl⟩,rfl⟩:=hl
 exact ⟨⟨s0,s1,n2,n3,n4,n5,n6,n7,n8,n9,xs,e,n12,cv,fv,n15,cl,n17,n18,n19,n20⟩,⟨h0,h1,he,hx2,hx1,c2,c1,f2,f1,k2,k1,in64_of i2,in64_of i3,in64_of i4,in64_of i5,in64_of i6,in64_of i7,in64_of i8,in64_of i9,in64_of i12,in64_of i15,in64_of i17,in64_of i18,in64_of i19,in64_of i20⟩,rfl⟩
theorem vInd:OpV Tryz.prog 31 (fun a=>∃ x:Ind,InX x∧a=encX x) :=
 OpV.mono (opV_struct und31' oInd) fun a ⟨l,⟨x,h,hl⟩,ha⟩=>⟨x,h,by rw [ha,hl];rfl⟩
abbrev laidL:List (String×DataW Unit):=Rows.syntaxTellsRow.laid
noncomputable def laidWorld (os:Os):World:=World.laidAll Tryz.prog os laidL
theorem laid_met (os:Os) (args:Array Value):laidMet Tryz.prog laidL ((laidWorld os).forCall (fun _ _=>0) ⟨#[],args,[]⟩).memory :=
 laidMet_laidAll args (by kernel_rfl) (by kernel_rfl)
theorem var_block {P:Program} {w:World} {n:String} {g:Nat} {cs:Array Value} (hg:P.globalNamed n=some g) (h:w.var? P n=some cs):∃ e fz,w.heap[g]?=some (.cells cs e fz):=by
 unfold World.var? at h
 rw [hg] at h
 simp only [Option.bind_some] at h
 split at h
 ·rename_i c e fz hh
  cases h
  exact ⟨_,_,hh⟩
 ·cases h
theorem trod_one {P:Program} {w:World} {base:Nat} {sp:Nat→Bool} {held:Bool} {fuel:Nat} {e:TypeId} {c:List Value} {s:List UInt8} {q:List MemPlace} (he:P.underlying e=some .string)
  (h:DataW.trod (fun _=>()) P w base sp held fuel e c=some (.lit (.string s),q)):c=[.string ⟨s.toArray⟩]:=by
 cases fuel with
 | zero=>simp [DataW.trod] at h
 | succ fuel =>
  simp only [DataW.trod,he] at h
  split at h<;>simp_all
  rename_i x hx
  rw [← h.2.1]
theorem cells_of_strs {P:Program} {w:World} {base:Nat} {sp:Nat→Bool} {held:Bool} {fuel:Nat} {t e:TypeId} {n:Nat} {cs:List Value} {ss:List (List UInt8)} {p:List MemPlace}
  (ht:P.underlying t=some (.array n e)) (he:P.underlying e=some .string) (hce:P.cellsOf e=1) (hct:P.cellsOf t=n)
  (h:DataW.trod (fun _=>()) P w base sp held fuel t cs=some (.agg (ss.map fun s=>.lit (.string s)),p)):cs=ss.map fun s=>Value.string ⟨s.toArray⟩:=by
 cases fuel with
 | zero=>simp [DataW.trod] at h
 | succ fuel =>
  simp only [DataW.trod,ht,hce,hct,Nat.mul_one] at h
  split at h
  ·rename_i hl
   obtain ⟨xs,hm,hx⟩:=Option.map_eq_some_iff.1 h
   have hxs:xs.map (·.1)=ss.map fun s=>(DataW.lit (.string s):DataW Unit):=by
    have:=congrArg Prod.fst hx
    simpa using this
   have hxl:xs.length=n:=by simpa using Lib.mapM_length hm
   have hzl:ss.length=n:=by
    have:=congrArg List.length hxs
    simp at this
    omega
   apply List.ext_getElem?
   intro i
   by_cases hi:i<n
   ·obtain ⟨b,hb,hf⟩:=Lib.mapM_at hm i i (by simp [hi])
    have h2:(xs.map (·.1))[i]?=some b.1:=by simp [hb]
    rw [hxs] at h2
    simp only [List.getElem?_map,Option.map_eq_some_iff] at h2
    obtain ⟨s,hs,hsb⟩:=h2
    have hc:=trod_one he (show _=some (DataW.lit (.string s),b.2) by rw [hsb];exact hf)
    have h1:cs[i]?=some (.string ⟨s.toArray⟩):=by
     have:=congrArg (·[0]?) hc
     simpa [List.getElem?_take,List.getElem?_drop] using this
    simp [h1,hs]
   ·rw [List.getElem?_eq_none (by omega),List.getElem?_eq_none (by simp;omega)]
  ·cases h
theorem laid_tabs (W:World) (h:laidMet Tryz.prog laidL W):TabAt (All W) W:=by
 obtain ⟨ps,⟨g1,t1,c1,f1,p1,q1,hg1,ht1,hv1,hd1,⟨g2,t2,c2,f2,p2,q2,hg2,ht2,hv2,hd2,⟨g3,t3,c3,f3,p3,q3,hg3,ht3,hv3,hd3,⟨g4,t4,c4,f4,p4,q4,hg4,ht4,hv4,hd4,hnil,e4⟩,e3⟩,e2⟩,e1⟩,_,_⟩:=h
 have k3 : Tryz.prog.globalNamed "internal/strconv.uint64pow10" = some 2 := by kernel_rfl
 have k4 : Tryz.prog.globalNamed "consol/lex.signs" = some 0 := by kernel_rfl
 obtain ⟨b3,z3,h3⟩:=var_block k3 hv3
 obtain ⟨b4,z4,h4⟩:=var_block k4 hv4
 obtain rfl:=Option.some.inj (k3.symm.trans hg3)
 obtain rfl:=Option.some.inj (k4.symm.trans hg4)
 have T3:(Tryz.prog.globals[2]?).map (·.type)=some t3:=ht3
 have T4:(Tryz.prog.globals[0]?).map (·.type)=some t4:=ht4
 have lt:∀ {g:Nat} {o:Obj},W.heap[g]?=some o→g<W.heap.size:=fun h=>(Array.getElem?_eq_some_iff.1 h).1
 intro g Q hQ
 match g,hQ with
 | 0,hQ =>
  cases hQ
  refine ⟨lt h4,c4,b4,z4,h4,?_⟩
  obtain rfl:=Option.some.inj ((show (Tryz.prog.globals[0]?).map (·.type)=some 161 by kernel_rfl).symm.trans T4)
  have:=cells_of_strs (ss:=signs) (n:=11) (e:=9) (by kernel_rfl) (by kernel_rfl) (by kernel_rfl) (by kernel_rfl) (show _=some (DataW.agg (signs.map fun s=>DataW.lit (.string s)),p4) from hd4)
  show c4=_
  rw [← this]
 | 2,hQ =>
  cases hQ
  refine ⟨lt h3,c3,b3,z3,h3,?_⟩
  obtain rfl:=Option.some.inj ((show (Tryz.prog.globals[2]?).map (·.type)=some 185 by kernel_rfl).symm.trans T3)
  have:=Lib.cells_of_tab (k:=.u64) (zs:=Lib.pow10Tab) (n:=20) (e:=179) (by kernel_rfl) (by kernel_rfl) (by kernel_rfl) (by kernel_rfl) (show _=some (Lib.tabData .u64 Lib.pow10Tab,p3) from hd3)
  show c3=_
  rw [← this]
end Go.Proofs.YtlmgomgpiideoaaGreatDoor
