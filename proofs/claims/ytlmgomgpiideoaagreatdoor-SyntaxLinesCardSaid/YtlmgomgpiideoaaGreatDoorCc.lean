import Derived.Test.YtlmgomgpiideoaaGreatDoorCb
import Derived.Test.YtlmgomgpiideoaaGreatDoorLd
import Derived.Lay
import Derived.Lib.LaidTab
import Derived.LaidLaws
import Derived.KernelRfl
import Derived.Test.YtlmgomgpiideoaaGreatDoorRows
namespace Go.Proofs.YtlmgomgpiideoaaGreatDoor
open Go.Own
set_option maxHeartbeats 40000000
set_option maxRecDepth 100000
mutual
def nodesN:Nat→Exp→Int→Int
 | 0,_,m=>m+1
 | d+1,e,m=>if 40<e.s.length then m+1 else nodesL d m e.args 1
def nodesL:Nat→Int→List Exp→Int→Int
 | _,_,[],n=>n
 | d,m,x::l,n=>if n≤m then nodesL d m l (n+nodesN d x (m-n)) else n
end
theorem nodes_bnd:∀ (d:Nat),(∀ (e:Exp) (m:Int),0≤m→1≤nodesN d e m∧nodesN d e m≤m+1)∧(∀ (l:List Exp) (m n:Int),0≤m→1≤n→n≤m+1→n≤nodesL d m l n∧nodesL d m l n≤m+1):=by
 have step:∀ d,(∀ (e:Exp) (m:Int),0≤m→1≤nodesN d e m∧nodesN d e m≤m+1)→(∀ (l:List Exp) (m n:Int),0≤m→1≤n→n≤m+1→n≤nodesL d m l n∧nodesL d m l n≤m+1):=by
  intro d h l
  induction l with
  | nil=>intro m n h0 h1 h2;simp only [nodesL];omega
  | cons x l ih =>
   intro m n h0 h1 h2
   simp only [nodesL]
   split
   ·have:=h x (m-n) (by omega)
    have:=ih m (n+nodesN d x (m-n)) h0 (by omega) (by omega)
    omega
   ·omega
 intro d
 induction d with
 | zero =>
  have h0:∀ (e:Exp) (m:Int),0≤m→1≤nodesN 0 e m∧nodesN 0 e m≤m+1:=fun e m h=>by simp only [nodesN];omega
  exact ⟨h0,step 0 h0⟩
 | succ d ih =>
  have h0:∀ (e:Exp) (m:Int),0≤m→1≤nodesN (d+1) e m∧nodesN (d+1) e m≤m+1:=by
   intro e m h
   simp only [nodesN]
   split
   ·omega
   ·have:=ih.2 e.args m 1 h (by omega) (by omega)
    omega
  exact ⟨h0,step (d+1) h0⟩
theorem nodesL_stop {d:Nat} {m n:Int} (h:m<n):∀ (l:List Exp),nodesL d m l n=n
 | []=>by simp only [nodesL]
 | x::l=>by simp only [nodesL];rw [if_neg (by omega)]
theorem nodesL_snoc {d:Nat} {m:Int} {x:Exp}:∀ (l:List Exp) (n:Int),nodesL d m (l++[x]) n=if nodesL d m l n≤m then nodesL d m l n+nodesN d x (m-nodesL d m l n) else nodesL d m l n
 | [],n=>by simp only [List.nil_append,nodesL]
 | y::l,n=>by
  rw [List.cons_append]
  simp only [nodesL]
  by_cases h:n≤m
  ·rw [if_pos h,if_pos h,nodesL_snoc l]
  ·rw [if_neg h,if_neg h,if_neg h]
theorem nodes_ok:∀ (d:Nat) (e:Exp) (m:Int),d≤100→0≤m→m≤1000→OkE e→APureV Tryz.prog 92 [encE e,.int .i64 m,.int .i64 (d:Nat)] (.int .i64 (nodesN d e m)):=by
 intro d
 induction d with
 | zero =>
  intro e m _ h0 h1 hok
  have hsl:=hok.slen
  rw [show nodesN 0 e m=m+1 by simp only [nodesN]]
  refine aO (cxOk 45 [0,1,2,3,6,7,8,16,28]) Tryz.func92 ?_
  conv=>whnf
  refine ⟨fun _=>?_,fun hx=>(by simp at hx)⟩
  conv=>whnf
  refine iO ?_;conv=>whnf
  rfl
 | succ d ih =>
  intro e m hd h0 h1 hok
  have hal:=argsE_len e
  have hal2:=hok.alen
  have hsl:=hok.slen
  rw [show nodesN (d+1) e m=if 40<e.s.length then m+1 else nodesL d m e.args 1 by simp only [nodesN]]
  by_cases h40:40<e.s.length
  ·rw [if_pos h40]
   refine aO (cxOk 45 [0,1,2,3,6,7,8,16,28]) Tryz.func92 ?_
   conv=>whnf
   refine ⟨fun _=>?_,fun hx=>(by simp at hx;omega)⟩
   conv=>whnf
   refine iO ?_;conv=>whnf
   rfl
  rw [if_neg h40]
  refine aO (cxOk 45 [0,1,2,3,6,7,8,16,28]) Tryz.func92 ?_
  conv=>whnf
  refine ⟨fun hx=>(by simp at hx;omega),fun _=>?_⟩
  conv=>whnf
  refine loop_inv (cxOk _ _) (fun k:Nat=>k≤e.args.length) (fun k=>e.args.length-k) (fun k=>⟨[(0,encE e),(1,.int .i64 m),(2,.int .i64 ((d+1:Nat):Int)),(3,.ptr 0 0),(6,.int .i64 0),(7,.int .i64 (nodesL d m (e.args.take k) 1)),(8,.int .i64 (k:Nat))],[(0,.cells 26 (cellsE e))],1⟩) 0 (by show 0≤_;omega) ((wk_of [(0,.id 0)] rfl ⟨wa0,wa0,wa0,wc0,wa0,.base (.tree _ _ (congrArg (AV.int .i64) (by simp only [List.take_zero,nodesL])) rfl),wa0,trivial⟩ ⟨wb0,trivial⟩)) ?_
  intro k hk
  have hk:k≤e.args.length:=hk
  have hb:=(nodes_bnd d).2 (e.args.take k) m 1 h0 (by omega) (by omega)
  conv=>whnf
  by_cases hgo:k<e.args.length∧nodesL d m (e.args.take k) 1≤m
  ·obtain ⟨hlt,hle⟩:=hgo
   have hek:(k:Int).toNat=k:=Int.toNat_natCast k
   have hrec:=ih (argOf e k) (m-nodesL d m (e.args.take k) 1) (by omega) (by omega) (by omega) (hok.arg _ (getD_argOf hlt))
   have hb2:=(nodes_bnd d).1 (argOf e k) (m-nodesL d m (e.args.take k) 1) (by omega)
   refine ⟨fun _=>?_,fun hx=>(by simp at hx;omega)⟩
   conv=>whnf
   refine iO ?_;conv=>whnf
   refine And.intro rfl ?_;conv=>whnf
   rw [hek,argsE_get e hlt]
   conv=>whnf
   refine iO ?_;conv=>whnf
   refine iO ?_;conv=>whnf
   rw [show (((d+1:Nat):Int)-1)=(d:Int) by omega]
   refine cO (fun _=>hrec) ?_
   conv=>whnf
   refine iO ?_
   conv=>whnf
   refine iO ?_
   conv=>whnf
   exact ⟨k+1,hlt,(by show e.args.length-(k+1)<e.args.length-k;omega),(wk_of [(0,.id 0)] rfl ⟨wa0,wa0,wa0,wc0,wa0,.base (.tree _ _ (congrArg (AV.int .i64) (by rw [take_getD (d:=ex0) hlt,nodesL_snoc,if_pos hle];rfl)) rfl),wa0,trivial⟩ ⟨wb0,trivial⟩)⟩
  ·refine ⟨fun hx=>(by simp at hx;omega),fun _=>?_⟩
   conv=>whnf
   have he:nodesL d m e.args 1=nodesL d m (e.args.take k) 1:=by
    by_cases hke:k=e.args.length
    ·rw [hke,List.take_length]
    ·have hlt2:m<nodesL d m (e.args.take k) 1:=by omega
     have:∀ (l r:List Exp) (n:Int),m<nodesL d m l n→nodesL d m (l++r) n=nodesL d m l n:=by
      intro l
      induction l with
      | nil=>intro r n h;simp only [nodesL] at h;rw [List.nil_append,nodesL_stop h];simp only [nodesL]
      | cons y l ih =>
       intro r n h
       rw [List.cons_append]
       simp only [nodesL] at h ⊢
       by_cases hn:n≤m
       ·rw [if_pos hn] at h ⊢
        rw [if_pos hn]
        exact ih r _ h
       ·rw [if_neg hn,if_neg hn]
     have h2:=this (e.args.take k) (e.args.drop k) 1 hlt2
     rw [List.take_append_drop] at h2
     exact h2
   rw [he]
   rfl
def fewE (e:Exp):Bool:=decide (nodesN 16 e 60≤60)
theorem fewexp_ok (e:Exp) (hok:OkE e):APureV Tryz.prog 33 [encE e] (.bool (fewE e)):=by
 have h:=nodes_ok 16 e 60 (by decide) (by decide) (by decide) hok
 refine aO (cxOk 6 [0,1,2]) Tryz.func33 ?_
 conv=>whnf
 refine cO (fun _=>h) ?_
 conv=>whnf
 rfl
def few0 (x:Ind):Bool:=!(decide (22<(x.lets.length:Int))||decide (22<(x.cov.length:Int))||decide (22<(x.favour.length:Int))||decide (22<(x.calls.length:Int))||decide (40<(x.name.length:Int))||decide (40<(x.issuer.length:Int))||!fewE x.coupon)
def fewL (l:LetE):Bool:=!(decide (40<(l.name.length:Int))||!fewE l.body)
def fewC (c:Cov):Bool:=!(decide (40<(c.name.length:Int))||!fewE c.must)
def fewS (s:List UInt8):Bool:=!decide (40<(s.length:Int))
def fewX (x:Ind):Bool:=few0 x&&x.lets.all fewL&&x.cov.all fewC&&x.favour.all fewS
theorem all_false {α:Type} {p:α→Bool} {l:List α} {x:α} (hm:x∈l) (h:p x=false):l.all p=false:=by
 rw [List.all_eq_false]
 exact ⟨x,hm,by rw [h];decide⟩
theorem all_true {α:Type} {p:α→Bool} {l:List α} {d:α} (h:∀ j,j<l.length→p (l.getD j d)=true):l.all p=true:=by
 rw [List.all_eq_true]
 intro x hx
 obtain ⟨j,hj,e⟩:=mem_getD (d:=d) hx
 have:=h j hj
 rw [e] at this
 exact this
theorem few_ok (x:Ind) (h1:∀ l∈x.lets,OkE l.body) (h2:∀ c∈x.cov,OkE c.must) (h3:OkE x.coupon) (b1:x.name.length≤9223372036854775807) (b2:x.issuer.length≤9223372036854775807) (b3:x.lets.length≤9223372036854775807) (b4:x.cov.length≤9223372036854775807)
  (b5:x.favour.length≤9223372036854775807) (b6:x.calls.length≤9223372036854775807) (b7:∀ l∈x.lets,l.name.length≤9223372036854775807) (b8:∀ c∈x.cov,c.name.length≤9223372036854775807) (b9:∀ s∈x.favour,s.length≤9223372036854775807) :
  APureV Tryz.prog 18 [encX x] (.bool (fewX x)):=by
 have hc:=fewexp_ok x.coupon h3
 refine aO (cxOk 110 [0,1,2,3,4,5,45,50,70,75,95,100,109]) Tryz.func18 ?_
 conv=>whnf
 refine cO (fun _=>hc) ?_
 conv=>whnf
 refine ⟨fun hb=>?_,fun hb=>?_⟩
 ·rw [show fewX x=false by unfold fewX few0;rw [hb];rfl]
  conv=>whnf
  rfl
 have hf0:few0 x=true:=by unfold few0;rw [hb];rfl
 conv=>whnf
 refine loop_up (cxOk _ _) x.lets.length (fun k=>∀ j,j<k→fewL (x.lets.getD j l0)=true) (fun k=>⟨[(1,.ptr 0 0),(2,.bool false),(3,.int .i64 (k:Nat))],[(0,.cells 31 (celX x))],1⟩) (by intro j hj;omega) ((wk_of [(0,.id 0)] rfl ⟨wc0,wa0,wa0,trivial⟩ ⟨wb0,trivial⟩)) ?_
 intro k hk hP
 conv=>whnf
 refine ⟨fun hd=>?_,fun hd=>?_⟩
 ·have hd:=of_decide_eq_true hd
  have hlt:k<x.lets.length:=by omega
  have hek:(k:Int).toNat=k:=Int.toNat_natCast k
  have hm:x.lets.getD k l0∈x.lets:=getD_mem hlt
  have hn:=b7 _ hm
  have hq:=fewexp_ok _ (h1 _ hm)
  conv=>whnf
  refine iO ?_;conv=>whnf
  refine And.intro rfl ?_;conv=>whnf
  refine And.intro om0 (And.intro rfl ?_);conv=>whnf
  rw [hek]
  conv=>whnf
  refine cO (fun _=>hq) ?_
  conv=>whnf
  refine ⟨fun he=>?_,fun he=>?_⟩
  ·have hf:fewL (x.lets.getD k l0)=false:=by unfold fewL;rw [he];rfl
   rw [show fewX x=false by unfold fewX;rw [all_false hm hf];simp]
   conv=>whnf
   rfl
  ·have he:fewL (x.lets.getD k l0)=true:=by unfold fewL;rw [he];rfl
   conv=>whnf
   refine iO ?_;conv=>whnf
   refine up hlt (fun j hj=>?_) ((wk_of [(0,.id 0)] rfl ⟨wc0,wa0,wa0,trivial⟩ ⟨wb0,trivial⟩))
   by_cases e:j=k
   ·subst e;exact he
   ·exact hP j om0
 have hd:=of_decide_eq_false hd
 obtain rfl:k=x.lets.length:=by omega
 have hall_lets:x.lets.all fewL=true:=all_true hP
 conv=>whnf
 refine loop_up (cxOk _ _) x.cov.length (fun k=>∀ j,j<k→fewC (x.cov.getD j c0)=true) (fun k=>⟨[(1,.ptr 0 0),(2,.bool false),(4,.int .i64 (k:Nat))],[(0,.cells 31 (celX x))],1⟩) (by intro j hj;omega) ((wk_of [(0,.id 0)] rfl ⟨wc0,wa0,wa0,trivial⟩ ⟨wb0,trivial⟩)) ?_
 intro k hk hP
 conv=>whnf
 refine ⟨fun hd=>?_,fun hd=>?_⟩
 ·have hd:=of_decide_eq_true hd
  have hlt:k<x.cov.length:=by omega
  have hek:(k:Int).toNat=k:=Int.toNat_natCast k
  have hm:x.cov.getD k c0∈x.cov:=getD_mem hlt
  have hn:=b8 _ hm
  have hq:=fewexp_ok _ (h2 _ hm)
  conv=>whnf
  refine iO ?_;conv=>whnf
  refine And.intro rfl ?_;conv=>whnf
  refine And.intro om0 (And.intro rfl ?_);conv=>whnf
  rw [hek]
  conv=>whnf
  refine cO (fun _=>hq) ?_
  conv=>whnf
  refine ⟨fun he=>?_,fun he=>?_⟩
  ·have hf:fewC (x.cov.getD k c0)=false:=by unfold fewC;rw [he];rfl
   rw [show fewX x=false by unfold fewX;rw [all_false hm hf];simp]
   conv=>whnf
   rfl
  ·have he:fewC (x.cov.getD k c0)=true:=by unfold fewC;rw [he];rfl
   conv=>whnf
   refine iO ?_;conv=>whnf
   refine up hlt (fun j hj=>?_) ((wk_of [(0,.id 0)] rfl ⟨wc0,wa0,wa0,trivial⟩ ⟨wb0,trivial⟩))
   by_cases e:j=k
   ·subst e;exact he
   ·exact hP j om0
 have hd:=of_decide_eq_false hd
 obtain rfl:k=x.cov.length:=by omega
 have hall_cov:x.cov.all fewC=true:=all_true hP
 conv=>whnf
 refine loop_up (cxOk _ _) x.favour.length (fun k=>∀ j,j<k→fewS (x.favour.getD j [])=true) (fun k=>⟨[(1,.ptr 0 0),(2,.bool false),(5,.int .i64 (k:Nat))],[(0,.cells 31 (celX x))],1⟩) (by intro j hj;omega) ((wk_of [(0,.id 0)] rfl ⟨wc0,wa0,wa0,trivial⟩ ⟨wb0,trivial⟩)) ?_
 intro k hk hP
 conv=>whnf
 refine ⟨fun hd=>?_,fun hd=>?_⟩
 ·have hd:=of_decide_eq_true hd
  have hlt:k<x.favour.length:=by omega
  have hek:(k:Int).toNat=k:=Int.toNat_natCast k
  have hm:x.favour.getD k []∈x.favour:=getD_mem hlt
  have hn:=b9 _ hm
  conv=>whnf
  refine iO ?_;conv=>whnf
  refine And.intro rfl ?_;conv=>whnf
  rw [hek]
  conv=>whnf
  refine ⟨fun he=>?_,fun he=>?_⟩
  ·have hf:fewS (x.favour.getD k [])=false:=by unfold fewS;rw [he];rfl
   rw [show fewX x=false by unfold fewX;rw [all_false hm hf];simp]
   conv=>whnf
   rfl
  ·have he:fewS (x.favour.getD k [])=true:=by unfold fewS;rw [he];rfl
   conv=>whnf
   refine iO ?_;conv=>whnf
   refine up hlt (fun j hj=>?_) ((wk_of [(0,.id 0)] rfl ⟨wc0,wa0,wa0,trivial⟩ ⟨wb0,trivial⟩))
   by_cases e:j=k
   ·subst e;exact he
   ·exact hP j om0
 have hd:=of_decide_eq_false hd
 obtain rfl:k=x.favour.length:=by omega
 have hall_favour:x.favour.all fewS=true:=all_true hP
 conv=>whnf
 rw [show fewX x=true by unfold fewX;rw [hf0,hall_lets,hall_cov,hall_favour];rfl]
 rfl
theorem args_0 {e:Exp} (h:(e.args.length:Int)=0):e.args=[]:=List.length_eq_zero_iff.1 (by omega)
theorem args_1 {e:Exp} (h:(e.args.length:Int)=1):∃ x,e.args=[x]:=List.length_eq_one_iff.1 (by omega)
theorem args_2 {e:Exp} (h:(e.args.length:Int)=2):∃ x y,e.args=[x,y]:=by
 match hl:e.args,(show e.args.length=2 by omega) with
 | [x,y],_=>exact ⟨x,y,rfl⟩
theorem args_3 {e:Exp} (h:(e.args.length:Int)=3):∃ x y z,e.args=[x,y,z]:=by
 match hl:e.args,(show e.args.length=3 by omega) with
 | [x,y,z],_=>exact ⟨x,y,z,rfl⟩
theorem name_len20 {s:List UInt8} (h:nameB s=true):s.length≤20:=by
 unfold nameB wordB at h
 simp only [Bool.and_eq_true,decide_eq_true_eq] at h
 exact h.1.1.2
theorem right_mk (d:Nat) (op n u:Int) (s:List UInt8) (args:List Exp):rightB (d+1) (.mk op n u s args) =
  if (args.length:Int)≠opsN op then false
  else if op=0 then decide (s=[])&&inB 0 4 [u]&&inB 0 (if u=4 then 1 else 1000000000000000) [n]
  else if op=1∨op=2∨op=3 then decide (n=0)&&decide (u=0)&&nameB s
  else if op=16∨op=17∨op=18 then decide (u=0)&&decide (s=[])&&inB 1 1000 [n]&&rightB d (args.getD 0 ex0)
  else decide (n=0)&&decide (u=0)&&decide (s=[])&&!(args.any fun x=>!rightB d x):=rfl
theorem right_wf:∀ (d:Nat) (e:Exp),rightB d e=true→WfE e∧lev e≤d
 | 0,e,h=>by cases h
 | d+1,⟨op,n,u,s,args⟩,h=>by
  rw [right_mk] at h
  by_cases hl:(args.length:Int)≠opsN op
  ·rw [if_pos hl] at h;cases h
  rw [if_neg hl] at h
  have hl:=Decidable.of_not_not hl
  unfold opsN at hl
  have lv:∀ l:List Exp,lev (.mk op n u s l)=levs l+1:=fun l=>by rw [lev]
  by_cases h0:op=0
  ·rw [if_pos h0] at h
   subst h0
   simp only [Bool.and_eq_true,decide_eq_true_eq] at h
   obtain ⟨⟨hs,hu⟩,hn⟩:=h
   have hu:=inB_one hu
   have hn:=inB_one hn
   have ha:=args_0 (e:=.mk 0 n u s args) (by simpa [Exp.args] using hl)
   have ha:args=[]:=ha
   subst ha hs
   refine ⟨?_,by rw [lv];simp [levs]⟩
   by_cases h4:u=4
   ·subst h4
    rw [if_pos rfl] at hn
    exact .boo n om0
   ·rw [if_neg h4] at hn
    exact .num n u hn.1 hn.2 om0
  rw [if_neg h0] at h
  by_cases h1:op=1∨op=2∨op=3
  ·rw [if_pos h1] at h
   simp only [Bool.and_eq_true,decide_eq_true_eq] at h
   obtain ⟨⟨hn,hu⟩,hs⟩:=h
   rw [if_pos (by omega)] at hl
   have ha:args=[]:=args_0 (e:=.mk op n u s args) hl
   subst ha hn hu
   exact ⟨.name op s h1 hs (by have:=name_len20 hs;omega),by rw [lv];simp [levs]⟩
  rw [if_neg h1] at h
  rw [if_neg (by omega)] at hl
  by_cases h2:op=16∨op=17∨op=18
  ·rw [if_pos h2] at h
   simp only [Bool.and_eq_true,decide_eq_true_eq] at h
   obtain ⟨⟨⟨hu,hs⟩,hn⟩,hx⟩:=h
   rw [if_pos (by omega)] at hl
   obtain ⟨x,ha⟩:=args_1 (e:=.mk op n u s args) hl
   have ha:args=[x]:=ha
   subst ha hu hs
   have ih:=right_wf d x hx
   refine ⟨.within op n x h2 (inB_one hn) ih.1,?_⟩
   rw [lv];simp only [levs];omega
  rw [if_neg h2] at h
  simp only [Bool.and_eq_true,decide_eq_true_eq,Bool.not_eq_true',List.any_eq_false,Bool.not_eq_true] at h
  obtain ⟨⟨⟨hn,hu⟩,hs⟩,hx⟩:=h
  subst hn hu hs
  have hx':∀ a∈args,WfE a∧lev a≤d:=fun a ha=>right_wf d a (by simpa using hx a ha)
  by_cases h12:op=12
  ·subst h12
   rw [if_pos (by omega)] at hl
   obtain ⟨x,ha⟩:=args_1 (e:=.mk 12 0 0 [] args) hl
   have ha:args=[x]:=ha
   subst ha
   have ih:=hx' x (by simp)
   refine ⟨.not x ih.1,?_⟩
   rw [lv];simp only [levs];omega
  rw [if_neg (by omega)] at hl
  by_cases h15:op=15
  ·subst h15
   rw [if_pos rfl] at hl
   obtain ⟨x,y,z,ha⟩:=args_3 (e:=.mk 15 0 0 [] args) hl
   have ha:args=[x,y,z]:=ha
   subst ha
   have i1:=hx' x (by simp)
   have i2:=hx' y (by simp)
   have i3:=hx' z (by simp)
   refine ⟨.cond x y z i1.1 i2.1 i3.1,?_⟩
   rw [lv];simp only [levs];omega
  rw [if_neg h15] at hl
  split at hl
  ·omega
  rename_i ho
  obtain ⟨x,y,ha⟩:=args_2 (e:=.mk op 0 0 [] args) hl
  have ha:args=[x,y]:=ha
  subst ha
  have i1:=hx' x (by simp)
  have i2:=hx' y (by simp)
  refine ⟨.pair op x y om0 i1.1 i2.1,?_⟩
  rw [lv];simp only [levs];omega
theorem wf_right {e:Exp} (h:WfE e):∀ d:Nat,lev e≤d→rightB d e=true:=by
 have i1:∀ a b n:Int,a≤n∧n≤b→inB a b [n]=true:=fun a b n h=>by unfold inB;simp [h.1,h.2]
 induction h with
 | num n u h0 h1 hu =>
  intro d hd
  obtain ⟨d,rfl⟩:∃ g,d=g+1:=⟨d-1,by simp only [lev] at hd;omega⟩
  rw [right_mk]
  have h4:¬ u=4:=by omega
  simp [Exp.op,Exp.n,Exp.unit,Exp.s,Exp.args,opsN,h4,i1 0 4 u (by omega),i1 0 1000000000000000 n ⟨h0,h1⟩]
 | boo n h =>
  intro d hd
  obtain ⟨d,rfl⟩:∃ g,d=g+1:=⟨d-1,by simp only [lev] at hd;omega⟩
  rw [right_mk]
  simp [Exp.op,Exp.n,Exp.unit,Exp.s,Exp.args,opsN,i1 0 4 4 (by omega),i1 0 1 n (by omega)]
 | name op s ho hn hl =>
  intro d hd
  obtain ⟨d,rfl⟩:∃ g,d=g+1:=⟨d-1,by simp only [lev] at hd;omega⟩
  rw [right_mk]
  rcases ho with rfl | rfl | rfl<;>simp [Exp.op,Exp.n,Exp.unit,Exp.s,Exp.args,opsN,hn]
 | within op n x ho hn hx ih =>
  intro d hd
  obtain ⟨d,rfl⟩:∃ g,d=g+1:=⟨d-1,by simp only [lev] at hd;omega⟩
  have hx:=ih d (by simp only [lev,levs] at hd;omega)
  rw [right_mk]
  rcases ho with rfl | rfl | rfl<;>simp [Exp.op,Exp.n,Exp.unit,Exp.s,Exp.args,argOf,opsN,hx,i1 1 1000 n hn]
 | not x hx ih =>
  intro d hd
  obtain ⟨d,rfl⟩:∃ g,d=g+1:=⟨d-1,by simp only [lev] at hd;omega⟩
  have hx:=ih d (by simp only [lev,levs] at hd;omega)
  rw [right_mk]
  simp [Exp.op,Exp.n,Exp.unit,Exp.s,Exp.args,opsN,hx]
 | pair op x y ho hx hy ihx ihy =>
  intro d hd
  obtain ⟨d,rfl⟩:∃ g,d=g+1:=⟨d-1,by simp only [lev] at hd;omega⟩
  have h1:=ihx d (by simp only [lev,levs] at hd;omega)
  have h2:=ihy d (by simp only [lev,levs] at hd;omega)
  have ho':opsN op=2:=by unfold opsN;rw [if_neg (by omega),if_neg (by omega),if_neg (by omega),if_neg (by omega)]
  rw [right_mk]
  rw [ho']
  rw [if_neg (by simp),if_neg (by omega),if_neg (by omega),if_neg (by omega)]
  simp [h1,h2]
 | cond x y z hx hy hz ihx ihy ihz =>
  intro d hd
  obtain ⟨d,rfl⟩:∃ g,d=g+1:=⟨d-1,by simp only [lev] at hd;omega⟩
  have h1:=ihx d (by simp only [lev,levs] at hd;omega)
  have h2:=ihy d (by simp only [lev,levs] at hd;omega)
  have h3:=ihz d (by simp only [lev,levs] at hd;omega)
  rw [right_mk]
  simp [Exp.op,Exp.n,Exp.unit,Exp.s,Exp.args,opsN,h1,h2,h3]
theorem rightE_iff (e:Exp):rightE e=true↔WfE e∧lev e≤12:=⟨right_wf 12 e,fun h=>wf_right h.1 12 h.2⟩
theorem uniq_iff (l:List (List UInt8)) (m:Int):uniqB l m=true↔(∀ s∈l,nameB s=true)∧l.Nodup∧(l.length:Int)≤m:=by
 unfold uniqB uqB
 simp only [Bool.and_eq_true,List.all_eq_true,List.mem_range,Bool.not_eq_true',decide_eq_false_iff_not,decide_eq_true_eq]
 have hg:∀ k,(h:k<l.length)→l.getD k []=l[k]:=fun k h=>by rw [List.getD_eq_getElem?_getD,List.getElem?_eq_getElem h];rfl
 constructor
 ·rintro ⟨h,hl⟩
  refine ⟨fun s hs=>?_,?_,hl⟩
  ·obtain ⟨k,hk,rfl⟩:=List.getElem_of_mem hs
   rw [← hg k hk]
   exact (h k hk).1
  ·rw [List.nodup_iff_pairwise_ne,List.pairwise_iff_getElem]
   intro i j hi hj hij he
   refine (h j hj).2 ?_
   rw [hg j hj,← he]
   rw [List.mem_iff_getElem]
   exact ⟨i,by rw [List.length_take];omega,by rw [List.getElem_take]⟩
 ·rintro ⟨h1,h2,hl⟩
  refine ⟨fun k hk=>⟨by rw [hg k hk];exact h1 _ (List.getElem_mem _),?_⟩,hl⟩
  rw [hg k hk,List.mem_iff_getElem]
  rintro ⟨i,hi,he⟩
  rw [List.length_take] at hi
  rw [List.getElem_take] at he
  rw [List.nodup_iff_pairwise_ne,List.pairwise_iff_getElem] at h2
  exact h2 i k om0 hk om0 he
def Uq (l:List (List UInt8)):Prop:=(∀ s∈l,nameB s=true)∧l.Nodup
set_option maxHeartbeats 4000000
theorem rightE_okE {e:Exp} (h:rightE e=true):OkE e:=((rightE_iff e).1 h).1.okE
theorem Rt.okX {x:Ind} (h:Rt x):OkX x:=by
 have n1:∀ l:List (List UInt8),uniqB l 20=true→l.length≤20∧∀ s∈l,s.length≤20:=fun l hl=>by
  obtain ⟨a,b,c⟩:=(uniq_iff l 20).1 hl
  exact ⟨by omega,fun s hs=>name_len20 (a s hs)⟩
 obtain ⟨l1,l2⟩:=n1 _ h.ulets
 obtain ⟨c1,c2⟩:=n1 _ h.ucov
 obtain ⟨f1,f2⟩:=n1 _ h.fav
 rw [List.length_map] at l1 c1
 have:=name_len20 h.name
 have:=name_len20 h.issuer
 have:=h.ncalls
 have i:∀ n a b:Int,a≤n∧n≤b→-9223372036854775808≤a→b≤9223372036854775807→in64 n:=fun n a b h1 h2 h3=>⟨by omega,by omega⟩
 exact ⟨by omega,by omega,rightE_okE h.coupon,by omega,fun l hl=>⟨by have:=l2 l.name (List.mem_map_of_mem hl);omega,rightE_okE (h.lets l hl)⟩,by omega,
  fun c hc=>⟨by have:=c2 c.name (List.mem_map_of_mem hc);omega,rightE_okE (h.cov c hc).1,i _ _ _ (h.cov c hc).2 (by omega) (by omega)⟩,
  by omega,fun s hs=>by have:=f2 s hs;omega,by omega,fun c hc=>⟨i _ _ _ (h.calls c hc).1 (by omega) (by omega),i _ _ _ (h.calls c hc).2 (by omega) (by omega)⟩,
  i _ _ _ h.face (by omega) (by omega),i _ _ _ h.frm (by omega) (by omega),i _ _ _ h.to (by omega) (by omega),i _ _ _ h.every (by omega) (by omega),i _ _ _ h.count (by omega) (by omega),i _ _ _ h.adjust (by omega) (by omega),i _ _ _ h.record (by omega) (by omega),i _ _ _ h.rank (by omega) (by omega),i _ _ _ h.cap (by omega) (by omega),i _ _ _ h.cross (by omega) (by omega),i _ _ _ h.notice (by omega) (by omega),i _ _ _ h.sink (by omega) (by omega),i _ _ _ h.majority (by omega) (by omega),i _ _ _ h.fast (by omega) (by omega)⟩
def decF:Nat→Nat→List UInt8
 | 0,_=>[]
 | k+1,u=>if u<10 then [UInt8.ofNat (48+u)] else decF k (u / 10)++[UInt8.ofNat (48+u % 10)]
theorem dec_F:∀ (k u:Nat),u<10 ^ k→1≤k→Lib.decDigits u=decF k u
 | 0,_,_,h=>absurd h (by decide)
 | k+1,u,h,_=>by
  rw [Lib.decDigits,decF]
  split
  ·rfl
  ·rename_i hu
   have hk:1≤k:=by
    rcases Nat.eq_zero_or_pos k with rfl | h'
    ·rw [Nat.zero_add,Nat.pow_one] at h;omega
    ·exact h'
   rw [dec_F k (u / 10) (by rw [Nat.pow_succ] at h;omega) hk]
theorem itoa_F (u:Nat) (h:u<10 ^ 4):Lib.itoa (u:Int)=decF 4 u:=by rw [Lib.itoa_nonneg,dec_F 4 u h (by decide)]
theorem it1:Lib.itoa 1=[49]:=(itoa_F 1 (by decide)).trans (by decide)
theorem it2:Lib.itoa 2=[50]:=(itoa_F 2 (by decide)).trans (by decide)
theorem it3:Lib.itoa 3=[51]:=(itoa_F 3 (by decide)).trans (by decide)
theorem it5:Lib.itoa 5=[53]:=(itoa_F 5 (by decide)).trans (by decide)
theorem it6:Lib.itoa 6=[54]:=(itoa_F 6 (by decide)).trans (by decide)
theorem it15:Lib.itoa 15=[49,53]:=(itoa_F 15 (by decide)).trans (by decide)
theorem it20:Lib.itoa 20=[50,48]:=(itoa_F 20 (by decide)).trans (by decide)
theorem it30:Lib.itoa 30=[51,48]:=(itoa_F 30 (by decide)).trans (by decide)
theorem it100:Lib.itoa 100=[49,48,48]:=(itoa_F 100 (by decide)).trans (by decide)
theorem it250:Lib.itoa 250=[50,53,48]:=(itoa_F 250 (by decide)).trans (by decide)
theorem it667:Lib.itoa 667=[54,54,55]:=(itoa_F 667 (by decide)).trans (by decide)
theorem it1000:Lib.itoa 1000=[49,48,48,48]:=(itoa_F 1000 (by decide)).trans (by decide)
theorem it1010:Lib.itoa 1010=[49,48,49,48]:=(itoa_F 1010 (by decide)).trans (by decide)
theorem it2000:Lib.itoa 2000=[50,48,48,48]:=(itoa_F 2000 (by decide)).trans (by decide)
theorem it2005:Lib.itoa 2005=[50,48,48,53]:=(itoa_F 2005 (by decide)).trans (by decide)
theorem it2010:Lib.itoa 2010=[50,48,49,48]:=(itoa_F 2010 (by decide)).trans (by decide)
theorem it5000:Lib.itoa 5000=[53,48,48,48]:=(itoa_F 5000 (by decide)).trans (by decide)
theorem fo0:formO 0=7:=by kernel_rfl
theorem fo1:formO 1=7:=by kernel_rfl
theorem fo2:formO 2=7:=by kernel_rfl
theorem fo3:formO 3=7:=by kernel_rfl
theorem fo4:formO 4=5:=by kernel_rfl
theorem fo6:formO 6=6:=by kernel_rfl
theorem fo7:formO 7=6:=by kernel_rfl
theorem fo10:formO 10=4:=by kernel_rfl
theorem fo17:formO 17=7:=by kernel_rfl
theorem op4:oprL[(oprI 4).toNat]?.getD o0=⟨[43],4,5⟩:=by kernel_rfl
theorem op6:oprL[(oprI 6).toNat]?.getD o0=⟨[42],6,6⟩:=by kernel_rfl
theorem op7:oprL[(oprI 7).toNat]?.getD o0=⟨[47],7,6⟩:=by kernel_rfl
theorem op10:oprL[(oprI 10).toNat]?.getD o0=⟨[60],10,4⟩:=by kernel_rfl
def docT:List UInt8:=[105,115,115,117,101,32,97,32,111,102,32,98,32,59,32,102,97,99,101,32,49,48,48,48,32,59,32,102,114,111,109,32,50,48,48,48,32,45,32,49,32,45,32,49,53,32,116,111,32,50,48,49,48,32,45,32,49,32,45,32,49,53,32,101,118,101,114,121,32,54,32,109,111,110,116,104,115,32,59,32,99,111,117,110,116,32,116,104,105,114,116,121,32,59,32,97,100,106,117,115,116,32,110,101,120,116,32,59,32,114,101,99,111,114,100,32,50,32,59,32,114,97,110,107,32,49,32,59,32,108,101,116,32,98,97,115,101,32,61,32,50,48,32,109,105,108,108,101,32,59,32,99,111,117,112,111,110,32,98,97,115,101,32,43,32,114,97,116,101,32,99,32,47,32,50,32,59,32,99,97,112,32,49,48,48,32,59,32,99,111,118,101,110,97,110,116,32,99,111,118,101,114,32,109,117,115,116,32,102,97,99,116,32,100,101,98,116,32,60,32,51,32,42,32,102,97,99,116,32,101,98,105,116,32,103,114,97,99,101,32,51,48,32,59,32,102,97,118,111,117,114,32,99,32,59,32,99,114,111,115,115,32,53,48,48,48,32,59,32,99,97,108,108,32,50,48,48,53,32,45,32,49,32,45,32,49,53,32,97,116,32,49,48,49,48,32,59,32,109,97,106,111,114,105,116,121,32,54,54,55,32,59,32,102,97,115,116,32,50,53,48,32,59]
def exT:List UInt8:=[108,111,110,103,32,51,48,40,102,97,99,116,32,100,101,98,116,60,50,42,102,97,99,116,32,99,97,115,104,41]
def exE:Exp:=.mk 17 30 0 [] [.mk 10 0 0 [] [.mk 2 0 0 [100,101,98,116] [],.mk 6 0 0 [] [.mk 0 2 0 [] [],.mk 2 0 0 [99,97,115,104] []]]]
theorem ex1:parseER exT=.ok exE:=by kernel_rfl
theorem sh1:showT 12 exE 0=[108,111,110,103]++[32]++Lib.itoa 30++[32,40,32]++([102,97,99,116,32,100,101,98,116]++[32]++[60]++[32]++(Lib.itoa 2++[32]++[42]++[32]++[102,97,99,116,32,99,97,115,104]))++[32,41]:=by simp [showT,bodyT,exE,argOf,Exp.op,Exp.n,Exp.unit,Exp.s,Exp.args,numT,fo0,fo1,fo2,fo3,fo4,fo6,fo7,fo10,fo17,op4,op6,op7,op10]
theorem ri1:rightE exE=true:=by kernel_rfl
theorem ex2:printE exE=([108,111,110,103,32,51,48,32,40,32,102,97,99,116,32,100,101,98,116,32,60,32,50,32,42,32,102,97,99,116,32,99,97,115,104,32,41],0):=by
 unfold printE
 rw [if_pos ri1,sh1,it30,it2]
 kernel_rfl
def sumE:Exp:=.mk 4 0 0 [] [.mk 3 0 0 [97] [],.mk 0 5 2 [] []]
def mulE:Exp:=.mk 6 0 0 [] [.mk 0 3 0 [] [],sumE]
theorem sh2:showT 12 mulE 0=Lib.itoa 3++[32]++[42]++[32]++([40,32]++([114,97,116,101,32,97]++[32]++[43]++[32]++(Lib.itoa 5++[32,109,105,108,108,101]))++[32,41]):=by simp [showT,bodyT,sumE,mulE,argOf,Exp.op,Exp.n,Exp.unit,Exp.s,Exp.args,numT,fo0,fo1,fo2,fo3,fo4,fo6,fo7,fo10,fo17,op4,op6,op7,op10]
theorem ri2:rightE mulE=true:=by kernel_rfl
theorem ex3:printE mulE=([51,32,42,32,40,32,114,97,116,101,32,97,32,43,32,53,32,109,105,108,108,101,32,41],0):=by
 unfold printE
 rw [if_pos ri2,sh2,it3,it5]
 kernel_rfl
theorem ex4:parseR [105,115,115,117,101,32,97,32,111,102,32,98,32,59,32,102,97,99,101,32,48,32,59]=.error (20,3):=by kernel_rfl
theorem ex5:parseR [105,115,115,117,101,32,97,32,111,102,32,98,32,59,32,102,97,99,101,32,49,32,59,32,102,114,111,109,32,50,48,48,49,32,45,32,50,32,45,32,50,57,32,116,111]=.error (40,23):=by kernel_rfl
theorem ex6:parseER [49,32,99,111,105,110,115,32,50]=.error (8,12):=by kernel_rfl
def cpnE:Exp:=.mk 4 0 0 [] [.mk 1 0 0 [98,97,115,101] [],.mk 7 0 0 [] [.mk 3 0 0 [99] [],.mk 0 2 0 [] []]]
def mustE:Exp:=.mk 10 0 0 [] [.mk 2 0 0 [100,101,98,116] [],.mk 6 0 0 [] [.mk 0 3 0 [] [],.mk 2 0 0 [101,98,105,116] []]]
def docX:Ind:=⟨[97],[98],1000,36538,40191,6,0,1,2,1,[⟨[98,97,115,101],.mk 0 20 2 [] []⟩],cpnE,100,[⟨[99,111,118,101,114],mustE,30⟩],[[99]],5000,[⟨38365,1010⟩],0,0,667,250⟩
theorem doc2:parseR docT=.ok docX:=by kernel_rfl
theorem sh3:showT 12 (.mk 0 20 2 [] []) 0=Lib.itoa 20++[32,109,105,108,108,101]:=by simp [showT,bodyT,cpnE,mustE,argOf,Exp.op,Exp.n,Exp.unit,Exp.s,Exp.args,numT,fo0,fo1,fo2,fo3,fo4,fo6,fo7,fo10,fo17,op4,op6,op7,op10]
theorem sh4:showT 12 cpnE 0=[98,97,115,101]++[32]++[43]++[32]++([114,97,116,101,32,99]++[32]++[47]++[32]++Lib.itoa 2):=by simp [showT,bodyT,cpnE,mustE,argOf,Exp.op,Exp.n,Exp.unit,Exp.s,Exp.args,numT,fo0,fo1,fo2,fo3,fo4,fo6,fo7,fo10,fo17,op4,op6,op7,op10]
theorem sh5:showT 12 mustE 0=[102,97,99,116,32,100,101,98,116]++[32]++[60]++[32]++(Lib.itoa 3++[32]++[42]++[32]++[102,97,99,116,32,101,98,105,116]):=by simp [showT,bodyT,cpnE,mustE,argOf,Exp.op,Exp.n,Exp.unit,Exp.s,Exp.args,numT,fo0,fo1,fo2,fo3,fo4,fo6,fo7,fo10,fo17,op4,op6,op7,op10]
theorem da1:dayT 36538=Lib.itoa 2000++[32,45,32]++Lib.itoa 1++[32,45,32]++Lib.itoa 15:=by kernel_rfl
theorem da2:dayT 40191=Lib.itoa 2010++[32,45,32]++Lib.itoa 1++[32,45,32]++Lib.itoa 15:=by kernel_rfl
theorem da3:dayT 38365=Lib.itoa 2005++[32,45,32]++Lib.itoa 1++[32,45,32]++Lib.itoa 15:=by kernel_rfl
theorem li1:linesW docX=[[[105,115,115,117,101],[97],[111,102],[98]],[[102,97,99,101],Lib.itoa 1000],
 [[102,114,111,109],dayT 36538,[116,111],dayT 40191,[101,118,101,114,121],Lib.itoa 6,[109,111,110,116,104,115]],[[99,111,117,110,116],[116,104,105,114,116,121]],[[97,100,106,117,115,116],[110,101,120,116]],[[114,101,99,111,114,100],Lib.itoa 2],[[114,97,110,107],Lib.itoa 1],
 [[108,101,116],[98,97,115,101],[61],showT 12 (.mk 0 20 2 [] []) 0],[[99,111,117,112,111,110],showT 12 cpnE 0],[[99,97,112],Lib.itoa 100],[[99,111,118,101,110,97,110,116],[99,111,118,101,114],[109,117,115,116],showT 12 mustE 0,[103,114,97,99,101],Lib.itoa 30],
 [[102,97,118,111,117,114],[99]],[[99,114,111,115,115],Lib.itoa 5000],[[99,97,108,108],dayT 38365,[97,116],Lib.itoa 1010],[[109,97,106,111,114,105,116,121],Lib.itoa 667],[[102,97,115,116],Lib.itoa 250]]:=by kernel_rfl
theorem ri3:rightI docX=true:=by kernel_rfl
theorem doc3:(printI docX).2=0∧(printI docX).1.length=docT.length+1:=by
 have h:printI docX=fitsT (txt (linesW docX)):=by unfold printI;rw [if_pos ri3]
 rw [h,li1,da1,da2,da3,sh3,sh4,sh5,it1,it2,it3,it6,it15,it20,it30,it100,it250,it667,it1000,it1010,it2000,it2005,it2010,it5000]
 constructor<;>kernel_rfl
theorem parse_ok (s:List UInt8) (hs:s.length≤9223372036854775807):APure Tryz.prog 10 [.str s] (fun rs=>rs=parA (parseR s)):=by
 cases h:lexR s with
 | error e =>
  have hp:parseR s=.error e:=by unfold parseR;rw [h]
  rw [hp]
  exact parse_lex s hs h
 | ok T=>exact parse_go s hs h
theorem parseE_ok (s:List UInt8) (hs:s.length≤9223372036854775807):APure Tryz.prog 12 [.str s] (fun rs=>rs=parEA (parseER s)):=by
 cases h:lexR s with
 | error e =>
  have hp:parseER s=.error e:=by unfold parseER;rw [h]
  rw [hp]
  exact parseE_lex s hs h
 | ok T=>exact parseE_go s hs h
theorem text37:APureV Tryz.prog 37 [] (.str docT):=by
 refine aO (cxOk 1 [0]) Tryz.func37 ?_
 conv=>whnf
 rfl
theorem okE_sum:OkE sumE:=rightE_okE (by kernel_rfl)
theorem okE_mul:OkE mulE:=rightE_okE ri2
theorem rt_doc:Rt docX:=(right_iff _).1 ri3
theorem right_bad:rightI i0=false:=by kernel_rfl
theorem rightE_bad:rightE (.mk 1 0 0 [] [])=false:=by kernel_rfl
theorem rightE_sum:rightE sumE=true:=by kernel_rfl
theorem name_per:nameB [112,101,114,105,111,100]=true:=by kernel_rfl
theorem name_coi:nameB [99,111,105,110,115]=false:=by kernel_rfl
theorem okX_0:OkX i0:=by
 have i:in64 0:=⟨by omega,by omega⟩
 have e:OkE ex0:=.mk i i i (by show ([]:List UInt8).length≤_;simp) (by show ([]:List Exp).length≤_;simp) (fun a ha=>by cases ha)
 exact ⟨by decide,by decide,e,by decide,(fun l hl=>by cases hl),by decide,(fun l hl=>by cases hl),by decide,(fun l hl=>by cases hl),by decide,(fun l hl=>by cases hl),i,i,i,i,i,i,i,i,i,i,i,i,i,i⟩
theorem okE_name:OkE (.mk 1 0 0 [] []):=by
 have i:in64 0:=⟨by omega,by omega⟩
 exact .mk ⟨by show -9223372036854775808≤(1:Int);omega,by show (1:Int)≤9223372036854775807;omega⟩ i i (by show ([]:List UInt8).length≤_;simp) (by show ([]:List Exp).length≤_;simp) (fun a ha=>by cases ha)
theorem LeT.agg {l r:List AV} (h:LeTs l r):LeT (.agg l) (.agg r):=fun S w v hr=>by
 cases hr with
 | agg cs l hl hh =>
  refine .agg cs r (by rw [hl,h.len]) fun j c b hc hb=>?_
  obtain ⟨a,ha,hab⟩:=h.get hb
  exact hab S w c (hh j c a hc ha)
def rawE (o n u:Int) (s:List UInt8):AV:=.agg [.int .i64 o,.int .i64 n,.int .i64 u,.str s,.nils]
theorem rawE_le (o n u:Int) (s:List UInt8):LeT (rawE o n u s) (encE (.mk o n u s [])):=LeT.agg (.cons (.refl _) (.cons (.refl _) (.cons (.refl _) (.cons (.refl _) (.cons (LeT.nils_lsl 5 rfl) .nil)))))
def rawSum:AV:=.agg [.int .i64 4,.int .i64 0,.int .i64 0,.str [],.lsl 5 [rawE 3 0 0 [97],rawE 0 5 2 []]]
def rawMul:AV:=.agg [.int .i64 6,.int .i64 0,.int .i64 0,.str [],.lsl 5 [rawE 0 3 0 [],encE sumE]]
theorem ones_E (x:Exp):∀ a∈(encE x).cells,a.one=true:=by
 intro a ha
 simp [encE,AV.cells] at ha
 rcases ha with rfl | rfl | rfl | rfl | rfl<;>rfl
theorem args_le {x y:Exp} {a b:AV} (h:LeTs (a.cells++b.cells) ((encE x).cells++(encE y).cells)) (o n u:Int) (s:List UInt8) :
  LeT (.lsl 5 [a,b]) (.lsl 5 (argsE (.mk o n u s [x,y]))):=by
 have e:argsE (.mk o n u s [x,y])=[encE x,encE y]:=argsE_eq _
 rw [e]
 have f:∀ c d:AV,flat [c,d]=c.cells++d.cells:=fun c d=>by unfold flat;simp
 refine LeT.lsl rfl (fun z hz=>?_) (fun z hz=>?_) (by rw [f,f];exact h)
 ·simp only [List.mem_cons,List.not_mem_nil,or_false] at hz
  rcases hz with rfl | rfl<;>rfl
 ·rw [f] at hz
  rcases List.mem_append.1 hz with hz | hz
  ·exact ones_E x z hz
  ·exact ones_E y z hz
theorem rawC_le (o n u:Int) (s:List UInt8):LeTs (rawE o n u s).cells (encE (.mk o n u s [])).cells:=.cons (.refl _) (.cons (.refl _) (.cons (.refl _) (.cons (.refl _) (.cons (LeT.nils_lsl 5 rfl) .nil))))
theorem LeTs_app {a b c d:List AV} (h:LeTs a b) (k:LeTs c d):LeTs (a++c) (b++d):=by
 induction h with
 | nil=>exact k
 | cons h _ ih=>exact .cons h ih
theorem LeTs_refl:∀ l:List AV,LeTs l l
 | []=>.nil
 | _::l=>.cons (.refl _) (LeTs_refl l)
theorem rawMulC:LeTs rawMul.cells (encE mulE).cells:=.cons (.refl _) (.cons (.refl _) (.cons (.refl _) (.cons (.refl _) (.cons (args_le (LeTs_app (rawC_le _ _ _ _) (LeTs_refl _)) 6 0 0 []) .nil))))
theorem rawMul_le:LeT rawMul (encE mulE):=LeT.agg rawMulC
def rawX0:AV:=.agg [.str [],.str [],.int .i64 0,.int .i64 0,.int .i64 0,.int .i64 0,.int .i64 0,.int .i64 0,.int .i64 0,.int .i64 0,.nils,.int .i64 0,.int .i64 0,.int .i64 0,.str [],.nils,.int .i64 0,.nils,.nils,.int .i64 0,.nils,.int .i64 0,.int .i64 0,.int .i64 0,.int .i64 0]
theorem rawX0_le:LeT rawX0 (encX i0):=by
 refine LeT.agg ?_
 repeat (first | exact .nil | refine .cons (by first | exact LeT.refl _ | exact LeT.nils_lsl 5 rfl | exact LeT.nils_sl 6 encL l0 | exact LeT.nils_sl 7 encC c0 | exact LeT.nils_sl 1 encS [] | exact LeT.nils_sl 2 encK k0) ?_)
noncomputable abbrev cS:Cx:=cx 168 [0,1,3,4,5,6,7,8,9,11,12,13,15,16,18,19,21,22,23,24]
theorem small_ok:APureV Tryz.prog 9 [] (.bool true):=by
 have c1:=parseE_ok exT (by decide)
 rw [ex1] at c1
 unfold parEA at c1
 have c2:=printexp_ok exE (rightE_okE ri1)
 rw [ex2] at c2
 have c3:=printexp_ok mulE okE_mul
 rw [ex3] at c3
 have c3:=apure_args (args':=[rawMul]) c3 (.cons rawMul_le .nil)
 have c4:=parse_ok docT (by decide)
 rw [doc2] at c4
 unfold parA at c4
 have c5:=print_ok docX rt_doc.okX
 rw [doc3.1] at c5
 have c6:=parse_ok _ (by decide:([105,115,115,117,101,32,97,32,111,102,32,98,32,59,32,102,97,99,101,32,48,32,59]:List UInt8).length≤9223372036854775807)
 rw [ex4] at c6
 unfold parA at c6
 have c7:=parse_ok _ (by decide:([105,115,115,117,101,32,97,32,111,102,32,98,32,59,32,102,97,99,101,32,49,32,59,32,102,114,111,109,32,50,48,48,49,32,45,32,50,32,45,32,50,57,32,116,111]:List UInt8).length≤9223372036854775807)
 rw [ex5] at c7
 unfold parA at c7
 have c8:=parseE_ok _ (by decide:([49,32,99,111,105,110,115,32,50]:List UInt8).length≤9223372036854775807)
 rw [ex6] at c8
 unfold parEA at c8
 have r1:=rightfn_ok docX rt_doc.okX
 rw [ri3] at r1
 have r2:=rightfn_ok i0 okX_0
 rw [right_bad] at r2
 have r2:=apure_args (args':=[rawX0]) r2 (.cons rawX0_le .nil)
 have r3:=rightexp_ok sumE okE_sum
 rw [rightE_sum] at r3
 have r4:=rightexp_ok _ okE_name
 rw [rightE_bad] at r4
 have r4:=apure_args (args':=[rawE 1 0 0 []]) r4 (.cons (rawE_le 1 0 0 []) .nil)
 have r5:=name_ok _ (by decide:([112,101,114,105,111,100]:List UInt8).length≤9223372036854775807)
 rw [name_per] at r5
 have r6:=name_ok _ (by decide:([99,111,105,110,115]:List UInt8).length≤9223372036854775807)
 rw [name_coi] at r6
 have r7:=samefn_ok docX docX rt_doc.okX rt_doc.okX
 rw [decide_eq_true (rfl:docX=docX)] at r7
 have r8:=same_ok sumE sumE okE_sum okE_sum
 rw [decide_eq_true (rfl:sumE=sumE)] at r8
 have hl:=doc3.2
 have hdl:docT.length=323:=by kernel_rfl
 have hde:decide (((printI docX).1.length:Nat)=((docT.length:Nat):Int)+1)=true:=by
  rw [hl,hdl]
  decide
 refine apure_of0 (C:=cS) (cxOk _ _) Tryz.func9 rfl dd0 rfl (by exact Nat.le_of_ble_eq_true rfl) dd0 ?_
 intro F a w hF hrel
 refine wp_seq_ev (cxOk _ _) (C:=cS) hF (st1:=⟨[(0,.bool false)],[],0⟩) (Rr:=fun _=>False) ?_ (fun _ h=>h) ?_ (fun _ _ _ _ h=>h.elim) a w hrel
 ·conv=>whnf
  exact (wk_of [] rfl ⟨wa0,trivial⟩ trivial)
 intro a w hrel
 refine wp_seq_ev (cxOk _ _) (C:=cS) hF (st1:=⟨[(0,.bool false),(1,.ptr 0 0),(3,.int .i64 0)],[(0,.cells 26 (cellsE exE))],1⟩) (Rr:=fun _=>False) ?_ (fun _ h=>h) ?_ (fun _ _ _ _ h=>h.elim) a w hrel
 ·conv=>whnf
  refine cO (fun _=>c1) ?_
  conv=>whnf
  exact (wk_of [(0,.id 0)] rfl ⟨wa0,wc0,wa0,trivial⟩ ⟨wb0,trivial⟩)
 intro a w hrel
 refine wp_seq_ev (cxOk _ _) (C:=cS) hF (st1:=⟨[(0,.bool false),(3,.int .i64 0),(4,.str [108,111,110,103,32,51,48,32,40,32,102,97,99,116,32,100,101,98,116,32,60,32,50,32,42,32,102,97,99,116,32,99,97,115,104,32,41]),(5,.int .i64 0)],[],0⟩) (Rr:=fun _=>False) ?_ (fun _ h=>h) ?_ (fun _ _ _ _ h=>h.elim) a w hrel
 ·conv=>whnf
  refine cO (fun _=>c2) ?_
  conv=>whnf
  exact (wk_of [] rfl ⟨wa0,wa0,wa0,wa0,trivial⟩ trivial)
 intro a w hrel
 refine wp_seq_ev (cxOk _ _) (C:=cS) hF (st1:=⟨[(0,.bool false),(3,.int .i64 0),(4,.str [108,111,110,103,32,51,48,32,40,32,102,97,99,116,32,100,101,98,116,32,60,32,50,32,42,32,102,97,99,116,32,99,97,115,104,32,41]),(5,.int .i64 0),(6,.ptr 0 0)],[(0,.cells 26 (cellsE sumE))],1⟩) (Rr:=fun _=>False) ?_ (fun _ h=>h) ?_ (fun _ _ _ _ h=>h.elim) a w hrel
 ·conv=>whnf
  exact (wk_frz [0]).trans (wk_of [(0,.id 1)] rfl ⟨wa0,wa0,wa0,wa0,wc0,trivial⟩ ⟨⟨_,rfl,.cells _ _ _ _ rfl (by repeat (first | exact .nil | refine .cons (by first | exact .base (.tree _ _ rfl rfl) | exact .base (.own _ _ rfl) | exact .base (.ptr _ _ _ rfl) | exact .base (.map _ _ rfl) | exact .base (.nilown _ rfl) | exact .fn _ _ _ _ _ .nil (by repeat (first | exact .nil | refine .cons (by exact .ptr _ _ _ rfl) ?_)) | exact .base (.tree _ _ (args_le (LeTs_app (rawC_le _ _ _ _) (rawC_le _ _ _ _)) 4 0 0 []) rfl) | exact .base (.leT _ _ (args_le (LeTs_app (rawC_le _ _ _ _) (rawC_le _ _ _ _)) 4 0 0 []) rfl)) ?_)) rfl⟩,trivial⟩)
 intro a w hrel
 refine wp_mono (evCode_sound (C:=cS) (cxOk _ _) hF _ ⟨[(0,.bool false),(3,.int .i64 0),(4,.str [108,111,110,103,32,51,48,32,40,32,102,97,99,116,32,100,101,98,116,32,60,32,50,32,42,32,102,97,99,116,32,99,97,115,104,32,41]),(5,.int .i64 0),(6,.ptr 0 0)],[(0,.cells 26 (cellsE sumE))],1⟩ (retQ cS.T _ (fun rs=>rs=[.val (.bool true)])) ?_ a w hrel) fun _ _ _ ⟨st',h1,h2⟩=>⟨st',h1,orP_off (fun _ h=>h) h2⟩
 conv=>whnf
 refine .one _ _ _ (fun _=>c3) (.cons (.agg _ _ _ (.cons (.base (.base (.same _ rfl))) (.cons (.base (.base (.same _ rfl))) (.cons (.base (.base (.same _ rfl))) (.cons (.base (.base (.same _ rfl))) (.cons (.base (.base (.lst _ 26 5 [rawE 0 3 0 [],encE sumE] (by kernel_rfl)))) .nil))))))  .nil) (by first | exact .inl rfl | exact .inr (by repeat (first | exact flats_nil | refine flats_cons (by first | exact flat_val _ rfl | exact flat_row (fun _=>rfl) | exact flat_lst (fun _=>rfl)) ?_))) (by first | exact .inr rfl | exact .inl rfl) ?_
 conv=>whnf
 refine cO (fun _=>text37) ?_
 conv=>whnf
 refine cO (fun _=>c4) ?_
 conv=>whnf
 refine cO (fun _=>c5) ?_
 conv=>whnf
 refine cO (fun _=>c6) ?_
 conv=>whnf
 refine cO (fun _=>c7) ?_
 conv=>whnf
 refine cO (fun _=>c8) ?_
 conv=>whnf
 refine cO (fun _=>text37) ?_
 conv=>whnf
 refine And.intro (fun _=>⟨by omega,by omega⟩) ?_
 conv=>whnf
 rw [hde]
 refine cO (fun _=>r1) ?_
 conv=>whnf
 refine cO (fun _=>r2) ?_
 conv=>whnf
 refine cO (fun _=>r3) ?_
 conv=>whnf
 refine cO (fun _=>r4) ?_
 conv=>whnf
 refine cO (fun _=>r5) ?_
 conv=>whnf
 refine cO (fun _=>r6) ?_
 conv=>whnf
 refine cO (fun _=>r7) ?_
 conv=>whnf
 refine cO (fun _=>r8) ?_
 conv=>whnf
 kernel_rfl
structure PI where
 x:Ind
 p:Int
 e:Int
def resI:Except Er Ind→PI
 | .ok x=>⟨x,0,0⟩
 | .error e=>⟨i0,e.1,e.2⟩
structure PE where
 x:Exp
 p:Int
 e:Int
def resE:Except Er Exp→PE
 | .ok x=>⟨x,0,0⟩
 | .error e=>⟨ex0,e.1,e.2⟩
structure InX (x:Ind):Prop where
 name:x.name.length≤9223372036854775807
 issuer:x.issuer.length≤9223372036854775807
 coupon:OkE x.coupon
 lets:x.lets.length≤9223372036854775807
 let1:∀ l∈x.lets,l.name.length≤9223372036854775807∧OkE l.body
 cov:x.cov.length≤9223372036854775807
 cov1:∀ c∈x.cov,c.name.length≤9223372036854775807∧OkE c.must∧in64 c.grace
 favour:x.favour.length≤9223372036854775807
 fav1:∀ s∈x.favour,s.length≤9223372036854775807
 calls:x.calls.length≤9223372036854775807
 call1:∀ c∈x.calls,in64 c.a∧in64 c.b
 nums:in64 x.face∧in64 x.frm∧in64 x.to∧in64 x.every∧in64 x.count∧in64 x.adjust∧in64 x.record∧in64 x.rank∧in64 x.cap∧in64 x.cross∧in64 x.notice∧in64 x.sink∧in64 x.majority∧in64 x.fast
theorem fewx_ok {x:Ind} (h:InX x):APureV Tryz.prog 18 [encX x] (.bool (fewX x)) :=
 few_ok x (fun l hl=>(h.let1 l hl).2) (fun c hc=>(h.cov1 c hc).2.1) h.coupon h.name h.issuer h.lets h.cov h.favour h.calls (fun l hl=>(h.let1 l hl).1) (fun c hc=>(h.cov1 c hc).1) h.fav1
theorem few_okX {x:Ind} (h:InX x) (hf:fewX x=true):OkX x:=by
 unfold fewX few0 at hf
 simp only [Bool.and_eq_true,Bool.not_eq_true',Bool.or_eq_false_iff,decide_eq_false_iff_not] at hf
 have h1:¬ 22<(x.lets.length:Int):=hf.1.1.1.1.1.1.1.1.1
 have h2:¬ 22<(x.cov.length:Int):=hf.1.1.1.1.1.1.1.1.2
 exact ⟨h.name,h.issuer,h.coupon,by omega,h.let1,by omega,h.cov1,h.favour,h.fav1,h.calls,h.call1,h.nums⟩
open Go.ChangeShapes Go.WideShapes Go.RowKit Go.Own
theorem Tryz.own:ownKnob Tryz.prog.godebug=none:=by kernel_rfl
theorem Tryz.laidOut:laidOutB Tryz.prog=true:=by kernel_rfl
theorem undBool:Tryz.prog.underlying 4=some .bool:=by kernel_rfl
theorem und3':Tryz.prog.underlying 3=some (.int .i64):=by kernel_rfl
theorem und9':Tryz.prog.underlying 9=some .string:=by kernel_rfl
theorem und23':Tryz.prog.underlying 23=some (.slice 47):=by kernel_rfl
theorem und24':Tryz.prog.underlying 24=some (.slice 26):=by kernel_rfl
theorem und27':Tryz.prog.underlying 27=some (.slice 50):=by kernel_rfl
theorem und28':Tryz.prog.underlying 28=some (.slice 9):=by kernel_rfl
theorem und29':Tryz.prog.underlying 29=some (.slice 54):=by kernel_rfl
def fields26 : Array Field := #[{ name := "Op", type := 3, offset := 0, embedded := false, tag := "", pkgPath := "", byteOffset := 0 }, { name := "N", type := 3, offset := 1, embedded := false, tag := "", pkgPath := "", byteOffset := 8 }, { name := "Unit", type := 3, offset := 2, embedded := false, tag := "", pkgPath := "", byteOffset := 16 }, { name := "S", type := 9, offset := 3, embedded := false, tag := "", pkgPath := "", byteOffset := 24 }, { name := "Args", type := 24, offset := 4, embedded := false, tag := "", pkgPath := "", byteOffset := 40 }]
theorem und26':Tryz.prog.underlying 26=some (.struct fields26):=by kernel_rfl
def fields47 : Array Field := #[{ name := "Name", type := 9, offset := 0, embedded := false, tag := "", pkgPath := "", byteOffset := 0 }, { name := "Body", type := 26, offset := 1, embedded := false, tag := "", pkgPath := "", byteOffset := 16 }]
theorem und47':Tryz.prog.underlying 47=some (.struct fields47):=by kernel_rfl
def fields50 : Array Field := #[{ name := "Name", type := 9, offset := 0, embedded := false, tag := "", pkgPath := "", byteOffset := 0 }, { name := "Must", type := 26, offset := 1, embedded := false, tag := "", pkgPath := "", byteOffset := 16 }, { name := "Grace", type := 3, offset := 6, embedded := false, tag := "", pkgPath := "", byteOffset := 80 }]
theorem und50':Tryz.prog.underlying 50=some (.struct fields50):=by kernel_rfl
def fields54 : Array Field := #[{ name := "From", type := 3, offset := 0, embedded := false, tag := "", pkgPath := "", byteOffset := 0 }, { name := "Price", type := 3, offset := 1, embedded := false, tag := "", pkgPath := "", byteOffset := 8 }]
theorem und54':Tryz.prog.underlying 54=some (.struct fields54):=by kernel_rfl
def fields31 : Array Field := #[{ name := "Name", type := 9, offset := 0, embedded := false, tag := "", pkgPath := "", byteOffset := 0 }, { name := "Issuer", type := 9, offset := 1, embedded := false, tag := "", pkgPath := "", byteOffset := 16 }, { name := "Face", type := 3, offset := 2, embedded := false, tag := "", pkgPath := "", byteOffset := 32 }, { name := "From", type := 3, offset := 3, embedded := false, tag := "", pkgPath := "", byteOffset := 40 }, { name := "To", type := 3, offset := 4, embedded := false, tag := "", pkgPath := "", byteOffset := 48 }, { name := "Every", type := 3, offset := 5, embedded := false, tag := "", pkgPath := "", byteOffset := 56 }, { name := "Count", type := 3, offset := 6, embedded := false, tag := "", pkgPath := "", byteOffset := 64 }, { name := "Adjust", type := 3, offset := 7, embedded := false, tag := "", pkgPath := "", byteOffset := 72 }, { name := "Record", type := 3, offset := 8, embedded := false, tag := "", pkgPath := "", byteOffset := 80 }, { name := "Rank", type := 3, offset := 9, embedded := false, tag := "", pkgPath := "", byteOffset := 88 }, { name := "Lets", type := 23, offset := 10, embedded := false, tag := "", pkgPath := "", byteOffset := 96 }, { name := "Coupon", type := 26, offset := 11, embedded := false, tag := "", pkgPath := "", byteOffset := 120 }, { name := "Cap", type := 3, offset := 16, embedded := false, tag := "", pkgPath := "", byteOffset := 184 }, { name := "Covenants", type := 27, offset := 17, embedded := false, tag := "", pkgPath := "", byteOffset := 192 }, { name := "Favour", type := 28, offset := 18, embedded := false, tag := "", pkgPath := "", byteOffset := 216 }, { name := "Cross", type := 3, offset := 19, embedded := false, tag := "", pkgPath := "", byteOffset := 240 }, { name := "Calls", type := 29, offset := 20, embedded := false, tag := "", pkgPath := "", byteOffset := 248 }, { name := "Notice", type := 3, offset := 21, embedded := false, tag := "", pkgPath := "", byteOffset := 272 }, { name := "Sink", type := 3, offset := 22, embedded := false, tag := "", pkgPath := "", byteOffset := 280 }, { name := "Majority", type := 3, offset := 23, embedded := false, tag := "", pkgPath := "", byteOffset := 288 }, { name := "Fast", type := 3, offset := 24, embedded := false, tag := "", pkgPath := "", byteOffset := 296 }]
theorem und31':Tryz.prog.underlying 31=some (.struct fields31):=by kernel_rfl
theorem in64_of {n:Int} (h:IntKind.i64.min≤n∧n≤IntKind.i64.max):in64 n:=by
 have e1:IntKind.i64.min=-9223372036854775808:=by rfl
 have e2:IntKind.i64.max=9223372036854775807:=by rfl
 rw [e1,e2] at h
 exact h
theorem in8_of {n:Int} (h:IntKind.u8.min≤n∧n≤IntKind.u8.max):0≤n∧n≤255:=by
 have e1:IntKind.u8.min=0:=by rfl
 have e2:IntKind.u8.max=255:=by rfl
 rw [e1,e2] at h
 exact h
abbrev rInt:List AV→Prop:=fun l=>∃ n,(IntKind.i64.min≤n∧n≤IntKind.i64.max)∧l=[.int .i64 n]
abbrev rStr:List AV→Prop:=fun l=>∃ s:List UInt8,s.length≤9223372036854775807∧l=[.str s]
theorem oInt:OpensR Tryz.prog 3 1 rInt:=opensR_int und3' (by kernel_rfl)
theorem oStr:OpensR Tryz.prog 9 1 rStr:=opensR_str und9' (by kernel_rfl)
abbrev rExp:List AV→Prop:=fun l=>∃ e:Exp,OkE e∧l=(encE e).cells
theorem oExpS:∀ N,OpensS Tryz.prog 26 5 rExp N
 | 0=>opensS_zero (by kernel_rfl)
 | N+1=>by
  have hargs:OpensS Tryz.prog 24 1 (fun l=>∃ xs:List Exp,(∀ a∈xs,OkE a)∧xs.length≤9223372036854775807∧l=[.lsl 5 (xs.map encE)]) N :=
   match N with
   | 0=>opensS_zero (by kernel_rfl)
   | M+1=>opensS_slice und24' (by kernel_rfl) (oExpS M |>.le (by omega)) (by decide) (fun l ⟨e,h1,h2⟩=>⟨e,h1,h2.symm⟩) (fun e=>rfl)
  refine (opensS_struct und26' (by kernel_rfl) (Rs:=[(1,rInt),(1,rInt),(1,rInt),(1,rStr),(1,_)]) ⟨rfl,oInt.at N,rfl,oInt.at N,rfl,oInt.at N,rfl,oStr.at N,rfl,hargs,rfl⟩).mono fun l hl=>?_
  obtain ⟨_,_,⟨n0,h0,rfl⟩,⟨_,_,⟨n1,h1,rfl⟩,⟨_,_,⟨n2,h2,rfl⟩,⟨_,_,⟨s3,h3,rfl⟩,⟨_,_,⟨xs,h4,h5,rfl⟩,rfl,rfl⟩,rfl⟩,rfl⟩,rfl⟩,rfl⟩:=hl
  refine ⟨.mk n0 n1 n2 s3 xs,.mk (in64_of h0) (in64_of h1) (in64_of h2) h3 h5 h4,?_⟩
  show _=[AV.int .i64 n0,.int .i64 n1,.int .i64 n2,.str s3,.lsl 5 (argsE (.mk n0 n1 n2 s3 xs))]
  rw [argsE_eq]
  rfl
theorem oExp:OpensR Tryz.prog 26 5 rExp:=opensR_all oExpS
theorem oLets:OpensR Tryz.prog 23 1 (fun l=>∃ xs:List LetE,(∀ a∈xs,a.name.length≤9223372036854775807∧OkE a.body)∧xs.length≤9223372036854775807∧l=[.sl 6 encL l0 xs]) :=
 opensR_slice l0 und23' (by kernel_rfl) (opensR_struct und47' (by kernel_rfl) (Rs:=[(1,rStr),(5,rExp)]) ⟨rfl,oStr,rfl,oExp,rfl⟩) (by decide) (fun l hl=>by
  obtain ⟨_,_,⟨s,h1,rfl⟩,⟨_,_,⟨e,h2,rfl⟩,rfl,rfl⟩,rfl⟩:=hl
  exact ⟨⟨s,e⟩,⟨h1,h2⟩,rfl⟩) (fun _=>rfl)
theorem oCovs:OpensR Tryz.prog 27 1 (fun l=>∃ xs:List Cov,(∀ a∈xs,a.name.length≤9223372036854775807∧OkE a.must∧in64 a.grace)∧xs.length≤9223372036854775807∧l=[.sl 7 encC c0 xs]) :=
 opensR_slice c0 und27' (by kernel_rfl) (opensR_struct und50' (by kernel_rfl) (Rs:=[(1,rStr),(5,rExp),(1,rInt)]) ⟨rfl,oStr,rfl,oExp,rfl,oInt,rfl⟩) (by decide) (fun l hl=>by
  obtain ⟨_,_,⟨s,h1,rfl⟩,⟨_,_,⟨e,h2,rfl⟩,⟨_,_,⟨n,h3,rfl⟩,rfl,rfl⟩,rfl⟩,rfl⟩:=hl
  exact ⟨⟨s,e,n⟩,⟨h1,h2,in64_of h3⟩,rfl⟩) (fun _=>rfl)
theorem oStrs:OpensR Tryz.prog 28 1 (fun l=>∃ xs:List (List UInt8),(∀ a∈xs,a.length≤9223372036854775807)∧xs.length≤9223372036854775807∧l=[.sl 1 encS [] xs]) :=
 opensR_slice [] und28' (by kernel_rfl) oStr (by decide) (fun l hl=>by obtain ⟨s,h,rfl⟩:=hl;exact ⟨s,h,rfl⟩) (fun _=>rfl)
theorem oCalls:OpensR Tryz.prog 29 1 (fun l=>∃ xs:List CallE,(∀ a∈xs,in64 a.a∧in64 a.b)∧xs.length≤9223372036854775807∧l=[.sl 2 encK k0 xs]) :=
 opensR_slice k0 und29' (by kernel_rfl) (opensR_struct und54' (by kernel_rfl) (Rs:=[(1,rInt),(1,rInt)]) ⟨rfl,oInt,rfl,oInt,rfl⟩) (by decide) (fun l hl=>by
  obtain ⟨_,_,⟨a,h1,rfl⟩,⟨_,_,⟨b,h2,rfl⟩,rfl,rfl⟩,rfl⟩:=hl
  exact ⟨⟨a,b⟩,⟨in64_of h1,in64_of h2⟩,rfl⟩) (fun _=>rfl)
abbrev rInd:List AV→Prop:=fun l=>∃ x:Ind,InX x∧l=(encX x).cells
theorem oInd:OpensR Tryz.prog 31 25 rInd:=by
 refine (opensR_struct und31' (by kernel_rfl) (Rs:=[(1,rStr),(1,rStr),(1,rInt),(1,rInt),(1,rInt),(1,rInt),(1,rInt),(1,rInt),(1,rInt),(1,rInt),(1,_),(5,rExp),(1,rInt),(1,_),(1,_),(1,rInt),(1,_),(1,rInt),(1,rInt),(1,rInt),(1,rInt)])
  ⟨rfl,oStr,rfl,oStr,rfl,oInt,rfl,oInt,rfl,oInt,rfl,oInt,rfl,oInt,rfl,oInt,rfl,oInt,rfl,oInt,rfl,oLets,rfl,oExp,rfl,oInt,rfl,oCovs,rfl,oStrs,rfl,oInt,rfl,oCalls,rfl,oInt,rfl,oInt,rfl,oInt,rfl,oInt,rfl⟩).mono fun l hl=>?_
 obtain ⟨_,_,⟨s0,h0,rfl⟩,⟨_,_,⟨s1,h1,rfl⟩,⟨_,_,⟨n2,i2,rfl⟩,⟨_,_,⟨n3,i3,rfl⟩,⟨_,_,⟨n4,i4,rfl⟩,⟨_,_,⟨n5,i5,rfl⟩,⟨_,_,⟨n6,i6,rfl⟩,⟨_,_,⟨n7,i7,rfl⟩,⟨_,_,⟨n8,i8,rfl⟩,⟨_,_,⟨n9,i9,rfl⟩,hl⟩,rfl⟩,rfl⟩,rfl⟩,rfl⟩,rfl⟩,rfl⟩,rfl⟩,rfl⟩,rfl⟩:=hl
 obtain ⟨⟨_,_,⟨xs,hx1,hx2,rfl⟩,⟨_,_,⟨e,he,rfl⟩,⟨_,_,⟨n12,i12,rfl⟩,⟨_,_,⟨cv,c1,c2,rfl⟩,⟨_,_,⟨fv,f1,f2,rfl⟩,⟨_,_,⟨n15,i15,rfl⟩,⟨_,_,⟨cl,k1,k2,rfl⟩,⟨_,_,⟨n17,i17,rfl⟩,⟨_,_,⟨n18,i18,rfl⟩,⟨_,_,⟨n19,i19,rfl⟩,⟨_,_,⟨n20,i20,rfl⟩,rfl,rfl⟩,rfl⟩,rfl⟩,rfl⟩,rfl⟩,rfl⟩,rfl⟩,rfl⟩,rfl⟩,rfl⟩,rfl⟩,rfl⟩:=hl
 exact ⟨⟨s0,s1,n2,n3,n4,n5,n6,n7,n8,n9,xs,e,n12,cv,fv,n15,cl,n17,n18,n19,n20⟩,⟨h0,h1,he,hx2,hx1,c2,c1,f2,f1,k2,k1,in64_of i2,in64_of i3,in64_of i4,in64_of i5,in64_of i6,in64_of i7,in64_of i8,in64_of i9,in64_of i12,in64_of i15,in64_of i17,in64_of i18,in64_of i19,in64_of i20⟩,rfl⟩
theorem vInd:OpV Tryz.prog 31 (fun a=>∃ x:Ind,InX x∧a=encX x) :=
 OpV.mono (opV_struct und31' oInd) fun a ⟨l,⟨x,h,hl⟩,ha⟩=>⟨x,h,by rw [ha,hl];rfl⟩
abbrev laidL:List (String×DataW Unit):=Rows.syntaxTellsRow.laid
noncomputable def laidWorld (os:Os):World:=World.laidAll Tryz.prog os laidL
theorem laid_met (os:Os) (args:Array Value):laidMet Tryz.prog laidL ((laidWorld os).forCall (fun _ _=>0) ⟨#[],args,[]⟩).memory :=
 laidMet_laidAll args (by kernel_rfl) (by kernel_rfl)
theorem var_block {P:Program} {w:World} {n:String} {g:Nat} {cs:Array Value} (hg:P.globalNamed n=some g) (h:w.var? P n=some cs):∃ e fz,w.heap[g]?=some (.cells cs e fz):=by
 unfold World.var? at h
 rw [hg] at h
 simp only [Option.bind_some] at h
 split at h
 ·rename_i c e fz hh
  cases h
  exact ⟨_,_,hh⟩
 ·cases h
theorem trod_one {P:Program} {w:World} {base:Nat} {sp:Nat→Bool} {held:Bool} {fuel:Nat} {e:TypeId} {c:List Value} {s:List UInt8} {q:List MemPlace} (he:P.underlying e=some .string)
  (h:DataW.trod (fun _=>()) P w base sp held fuel e c=some (.lit (.string s),q)):c=[.string ⟨s.toArray⟩]:=by
 cases fuel with
 | zero=>simp [DataW.trod] at h
 | succ fuel =>
  simp only [DataW.trod,he] at h
  split at h<;>simp_all
  rename_i x hx
  rw [← h.2.1]
theorem cells_of_strs {P:Program} {w:World} {base:Nat} {sp:Nat→Bool} {held:Bool} {fuel:Nat} {t e:TypeId} {n:Nat} {cs:List Value} {ss:List (List UInt8)} {p:List MemPlace}
  (ht:P.underlying t=some (.array n e)) (he:P.underlying e=some .string) (hce:P.cellsOf e=1) (hct:P.cellsOf t=n)
  (h:DataW.trod (fun _=>()) P w base sp held fuel t cs=some (.agg (ss.map fun s=>.lit (.string s)),p)):cs=ss.map fun s=>Value.string ⟨s.toArray⟩:=by
 cases fuel with
 | zero=>simp [DataW.trod] at h
 | succ fuel =>
  simp only [DataW.trod,ht,hce,hct,Nat.mul_one] at h
  split at h
  ·rename_i hl
   obtain ⟨xs,hm,hx⟩:=Option.map_eq_some_iff.1 h
   have hxs:xs.map (·.1)=ss.map fun s=>(DataW.lit (.string s):DataW Unit):=by
    have:=congrArg Prod.fst hx
    simpa using this
   have hxl:xs.length=n:=by simpa using Lib.mapM_length hm
   have hzl:ss.length=n:=by
    have:=congrArg List.length hxs
    simp at this
    omega
   apply List.ext_getElem?
   intro i
   by_cases hi:i<n
   ·obtain ⟨b,hb,hf⟩:=Lib.mapM_at hm i i (by simp [hi])
    have h2:(xs.map (·.1))[i]?=some b.1:=by simp [hb]
    rw [hxs] at h2
    simp only [List.getElem?_map,Option.map_eq_some_iff] at h2
    obtain ⟨s,hs,hsb⟩:=h2
    have hc:=trod_one he (show _=some (DataW.lit (.string s),b.2) by rw [hsb];exact hf)
    have h1:cs[i]?=some (.string ⟨s.toArray⟩):=by
     have:=congrArg (·[0]?) hc
     simpa [List.getElem?_take,List.getElem?_drop] using this
    simp [h1,hs]
   ·rw [List.getElem?_eq_none (by omega),List.getElem?_eq_none (by simp;omega)]
  ·cases h
theorem laid_tabs (W:World) (h:laidMet Tryz.prog laidL W):TabAt (All W) W:=by
 obtain ⟨ps,⟨g1,t1,c1,f1,p1,q1,hg1,ht1,hv1,hd1,⟨g2,t2,c2,f2,p2,q2,hg2,ht2,hv2,hd2,⟨g3,t3,c3,f3,p3,q3,hg3,ht3,hv3,hd3,⟨g4,t4,c4,f4,p4,q4,hg4,ht4,hv4,hd4,hnil,e4⟩,e3⟩,e2⟩,e1⟩,_,_⟩:=h
 have k3 : Tryz.prog.globalNamed "internal/strconv.uint64pow10" = some 2 := by kernel_rfl
 have k4 : Tryz.prog.globalNamed "consol/lex.signs" = some 0 := by kernel_rfl
 obtain ⟨b3,z3,h3⟩:=var_block k3 hv3
 obtain ⟨b4,z4,h4⟩:=var_block k4 hv4
 obtain rfl:=Option.some.inj (k3.symm.trans hg3)
 obtain rfl:=Option.some.inj (k4.symm.trans hg4)
 have T3:(Tryz.prog.globals[2]?).map (·.type)=some t3:=ht3
 have T4:(Tryz.prog.globals[0]?).map (·.type)=some t4:=ht4
 have lt:∀ {g:Nat} {o:Obj},W.heap[g]?=some o→g<W.heap.size:=fun h=>(Array.getElem?_eq_some_iff.1 h).1
 intro g Q hQ
 match g,hQ with
 | 0,hQ =>
  cases hQ
  refine ⟨lt h4,c4,b4,z4,h4,?_⟩
  obtain rfl:=Option.some.inj ((show (Tryz.prog.globals[0]?).map (·.type)=some 161 by kernel_rfl).symm.trans T4)
  have:=cells_of_strs (ss:=signs) (n:=11) (e:=9) (by kernel_rfl) (by kernel_rfl) (by kernel_rfl) (by kernel_rfl) (show _=some (DataW.agg (signs.map fun s=>DataW.lit (.string s)),p4) from hd4)
  show c4=_
  rw [← this]
 | 2,hQ =>
  cases hQ
  refine ⟨lt h3,c3,b3,z3,h3,?_⟩
  obtain rfl:=Option.some.inj ((show (Tryz.prog.globals[2]?).map (·.type)=some 185 by kernel_rfl).symm.trans T3)
  have:=Lib.cells_of_tab (k:=.u64) (zs:=Lib.pow10Tab) (n:=20) (e:=179) (by kernel_rfl) (by kernel_rfl) (by kernel_rfl) (by kernel_rfl) (show _=some (Lib.tabData .u64 Lib.pow10Tab,p3) from hd3)
  show c3=_
  rw [← this]
theorem und5':Tryz.prog.underlying 5=some (.int .u8):=by kernel_rfl
theorem vByte:OpV Tryz.prog 5 (fun a=>∃ n,(0≤n∧n≤255)∧a=.int .u8 n):=OpV.mono (opV_int und5') fun _ ⟨n,h,e⟩=>⟨n,in8_of h,e⟩
structure Pc where
 kind:Int
 text:List UInt8
 n:Int
def Tok.pc (t:Tok):Pc:=⟨t.kind,t.text,t.n⟩
def endP:Pc:=⟨3,[],0⟩
def Blk (b:List UInt8):Prop:=∀ c∈b,blkB (c.toNat:Int)=true
def Sep (r:List UInt8):Prop:=r=[]∨∃ c r',r=c::r'∧blkB (c.toNat:Int)=true
structure GoodP (x:Pc):Prop where
 ne:x.text≠[]
 nb:blkB ((x.text.getD 0 0).toNat:Int)=false
 rd:∀ r,Sep r→nextR (x.text++r)=.ok ⟨x.kind,x.text,x.n,0⟩
theorem blk_let {c:Int} (h:blkB c=true):letB c=false∧digB c=false:=by
 unfold blkB at h
 unfold letB digB
 simp only [Bool.or_eq_true,decide_eq_true_eq] at h
 simp only [Bool.and_eq_false_iff,decide_eq_false_iff_not]
 omega
theorem span_app {p:Int→Bool} {s r:List UInt8} (hs:∀ c∈s,p (c.toNat:Int)=true) (hr:r=[]∨∃ c r',r=c::r'∧p (c.toNat:Int)=false):spanN p (s++r)=s.length:=by
 unfold spanN
 rw [List.takeWhile_append_of_pos hs,List.length_append]
 rcases hr with rfl | ⟨c,r',rfl,hc⟩
 ·simp
 ·rw [List.takeWhile_cons_of_neg (by rw [hc];decide)]
  simp
theorem span_each {p:Int→Bool} {s:List UInt8} (h:spanN p s=s.length):∀ c∈s,p (c.toNat:Int)=true:=by
 intro c hc
 obtain ⟨k,hk,rfl⟩:=List.getElem_of_mem hc
 have:=spanN_lt (p:=p) (s:=s) (k:=k) (by omega)
 rw [List.getD_eq_getElem?_getD,List.getElem?_eq_getElem hk] at this
 exact this
theorem head_app {s r:List UInt8} (h:s≠[]):(s++r).getD 0 0=s.getD 0 0:=by
 cases s with
 | nil=>exact (h rfl).elim
 | cons c s=>rfl
theorem let_blk {c:Int} (h:letB c=true):blkB c=false:=by
 cases hb:blkB c with
 | false=>rfl
 | true=>rw [(blk_let hb).1] at h;cases h
theorem dig_blk {c:Int} (h:digB c=true):blkB c=false:=by
 cases hb:blkB c with
 | false=>rfl
 | true=>rw [(blk_let hb).2] at h;cases h
theorem sep_not {p:Int→Bool} (hp:∀ c,blkB c=true→p c=false) {r:List UInt8} (h:Sep r):r=[]∨∃ c r',r=c::r'∧p (c.toNat:Int)=false :=
 h.imp id fun ⟨c,r',e,hc⟩=>⟨c,r',e,hp _ hc⟩
theorem good_word {s:List UInt8} (h:wordB s=true):GoodP ⟨0,s,0⟩:=by
 have h0:=h
 unfold wordB at h
 simp only [Bool.and_eq_true,decide_eq_true_eq] at h
 obtain ⟨⟨⟨hne,hl⟩,_⟩,hsp⟩:=h
 refine ⟨hne,let_blk hl,fun r hr=>?_⟩
 have hw:wordT (s++r)=s:=by
  unfold wordT
  rw [span_app (span_each hsp) (sep_not (p:=fun c=>letB c||digB c) (fun c hc=>by show (letB c||digB c)=false;rw [(blk_let hc).1,(blk_let hc).2];rfl) hr),List.take_left]
 unfold nextR
 dsimp only
 rw [head_app hne,if_pos hl,hw,if_pos h0]
theorem good_name {s:List UInt8} (h:nameB s=true):GoodP ⟨0,s,0⟩:=by
 unfold nameB at h
 simp only [Bool.and_eq_true] at h
 exact good_word h.1
theorem dig_of (d:Nat) (h:d<10):(UInt8.ofNat (48+d)).toNat=48+d:=by
 rw [UInt8.toNat_ofNat']
 omega
theorem dec_rec (u:Nat):Lib.decDigits u=if u<10 then [UInt8.ofNat (48+u)] else Lib.decDigits (u / 10)++[UInt8.ofNat (48+u % 10)]:=by
 rw [Lib.decDigits]
 split<;>rfl
theorem dec_ne (u:Nat):Lib.decDigits u≠[]:=by
 rw [dec_rec]
 split<;>simp
theorem dec_dig (u:Nat):∀ b∈Lib.decDigits u,digB (b.toNat:Int)=true:=by
 induction u using Nat.strongRecOn with
 | _ u ih =>
  intro b hb
  rw [dec_rec] at hb
  unfold digB
  simp only [Bool.and_eq_true,decide_eq_true_eq]
  split at hb
  ·rename_i h
   rw [List.mem_singleton.1 hb,dig_of u h]
   omega
  ·rename_i h
   rcases List.mem_append.1 hb with hb | hb
   ·have:=ih (u / 10) (by omega) b hb
    unfold digB at this
    simpa using this
   ·rw [List.mem_singleton.1 hb,dig_of _ (Nat.mod_lt _ (by decide))]
    omega
theorem dec_val (u:Nat):numV (Lib.decDigits u)=u:=by
 induction u using Nat.strongRecOn with
 | _ u ih =>
  rw [dec_rec]
  split
  ·rename_i h
   show (10*0+(((UInt8.ofNat (48+u)).toNat:Int)-48))=_
   rw [dig_of u h]
   omega
  ·rename_i h
   rw [numV_snoc,ih (u / 10) (by omega),dig_of _ (Nat.mod_lt _ (by decide))]
   omega
theorem dec_head (u:Nat) (h:u≠0):((Lib.decDigits u).getD 0 0).toNat≠48:=by
 induction u using Nat.strongRecOn with
 | _ u ih =>
  rw [dec_rec]
  split
  ·rename_i hu
   show (UInt8.ofNat (48+u)).toNat≠48
   rw [dig_of u hu]
   omega
  ·rename_i hu
   rw [head_app (dec_ne _)]
   exact ih (u / 10) om0 om0
theorem nDig_le:∀ (k u:Nat),1≤k→u<10 ^ k→Lib.nDigits u≤k
 | 0,_,h,_=>absurd h (by decide)
 | k+1,u,_,h=>by
  by_cases hu:u<10
  ·rw [Lib.nDigits_small hu];omega
  ·have hk:1≤k:=by
    rcases Nat.eq_zero_or_pos k with rfl | h'
    ·rw [Nat.zero_add,Nat.pow_one] at h;omega
    ·exact h'
   rw [Lib.nDigits_big hu]
   rw [Nat.pow_succ] at h
   have:=nDig_le k (u / 10) hk (by omega)
   omega
theorem numR_itoa {n:Int} (h0:0≤n) (h1:n≤1000000000000000):numR (Lib.itoa n)=some n:=by
 obtain ⟨u,rfl⟩:∃ u:Nat,n=u:=⟨n.toNat,by omega⟩
 rw [Lib.itoa_nonneg]
 have hl:(Lib.decDigits u).length≤16:=by
  rw [Lib.decDigits_length]
  exact nDig_le 16 u dd0 om0
 have hsp:spanN digB (Lib.decDigits u)=(Lib.decDigits u).length:=by
  have:=span_app (p:=digB) (s:=Lib.decDigits u) (r:=[]) (dec_dig u) (.inl rfl)
  rwa [List.append_nil] at this
 have hg:numG (Lib.decDigits u)=true:=by
  unfold numG
  simp only [Bool.and_eq_true,decide_eq_true_eq,Bool.not_eq_true',Bool.and_eq_false_iff,decide_eq_false_iff_not]
  refine ⟨⟨⟨dec_ne u,hsp⟩,?_⟩,hl⟩
  by_cases hu:u=0
  ·subst hu
   refine .inr (not_not_intro ?_)
   rw [dec_rec,if_pos (by decide)]
   rfl
  ·exact .inl (dec_head u hu)
 unfold numR
 rw [dec_val,if_pos ⟨hg,h1⟩]
theorem good_num {n:Int} (h0:0≤n) (h1:n≤1000000000000000):GoodP ⟨1,Lib.itoa n,n⟩:=by
 obtain ⟨u,rfl⟩:∃ u:Nat,n=u:=⟨n.toNat,by omega⟩
 have hr:=numR_itoa h0 h1
 rw [Lib.itoa_nonneg] at hr ⊢
 have hd:digB (((Lib.decDigits u).getD 0 0).toNat:Int)=true:=by
  cases hs:Lib.decDigits u with
  | nil=>exact (dec_ne u hs).elim
  | cons c s=>exact dec_dig u c (by rw [hs];simp)
 have hl:letB (((Lib.decDigits u).getD 0 0).toNat:Int)=false:=by
  unfold digB at hd
  unfold letB
  simp only [Bool.and_eq_true,decide_eq_true_eq] at hd
  simp only [Bool.and_eq_false_iff,decide_eq_false_iff_not]
  omega
 refine ⟨dec_ne u,dig_blk hd,fun r hsep=>?_⟩
 have hw:digT (Lib.decDigits u++r)=Lib.decDigits u:=by
  unfold digT
  rw [span_app (dec_dig u) (sep_not (p:=digB) (fun c hc=>(blk_let hc).2) hsep),List.take_left]
 unfold nextR
 dsimp only
 rw [head_app (dec_ne u),hl,if_neg (by decide),if_pos hd,hw,hr]
theorem good_sign {s:List UInt8} (h:s∈signs):GoodP ⟨2,s,0⟩:=by
 have hb:∀ c:UInt8,blkB (c.toNat:Int)=true→c=32∨c=9∨c=10:=by
  intro c hc
  unfold blkB at hc
  simp only [Bool.or_eq_true,decide_eq_true_eq] at hc
  rcases hc with (hc | hc) | hc
  ·exact .inl (UInt8.toNat_inj.1 (by have:c.toNat=32:=by omega
                                     rw [this];rfl))
  ·exact .inr (.inl (UInt8.toNat_inj.1 (by have:c.toNat=9:=by omega
                                           rw [this];rfl)))
  ·exact .inr (.inr (UInt8.toNat_inj.1 (by have:c.toNat=10:=by omega
                                           rw [this];rfl)))
 have hm:s=[61,61]∨s=[59]∨s=[44]∨s=[61]∨s=[60]∨s=[43]∨s=[45]∨s=[42]∨s=[47]∨s=[40]∨s=[41]:=by
  simpa [signs] using h
 refine ⟨?_,?_,fun r hr=>?_⟩
 ·rcases hm with rfl | rfl | rfl | rfl | rfl | rfl | rfl | rfl | rfl | rfl | rfl<;>simp
 ·rcases hm with rfl | rfl | rfl | rfl | rfl | rfl | rfl | rfl | rfl | rfl | rfl<;>decide
 ·rcases hr with rfl | ⟨c,r',rfl,hc⟩
  ·rcases hm with rfl | rfl | rfl | rfl | rfl | rfl | rfl | rfl | rfl | rfl | rfl<;>rfl
  ·rcases hb c hc with rfl | rfl | rfl<;>rcases hm with rfl | rfl | rfl | rfl | rfl | rfl | rfl | rfl | rfl | rfl | rfl<;>simp [nextR,letB,digB,hasP,signs,List.find?]
def lay:List (Pc×List UInt8)→List UInt8
 | []=>[]
 | x::l=>x.1.text++(x.2++lay l)
def LayOk:List (Pc×List UInt8)→Prop
 | []=>True
 | x::l=>GoodP x.1∧Blk x.2∧(l=[]∨x.2≠[])∧LayOk l
theorem blk_sep {b r:List UInt8} (h:Blk b) (hb:b≠[]):Sep (b++r):=by
 cases b with
 | nil=>exact (hb rfl).elim
 | cons c b=>exact .inr ⟨c,b++r,rfl,h c (by simp)⟩
theorem skip_pre {s pre r:List UInt8} {p:Nat} (hd:s.drop p=pre++r) (hb:Blk pre) (hr:r=[]∨blkB ((r.getD 0 0).toNat:Int)=false):skipN s p=p+pre.length:=by
 unfold skipN
 rw [hd,span_app hb]
 rcases hr with rfl | hr
 ·exact .inl rfl
 ·cases r with
  | nil=>exact .inl rfl
  | cons c r=>exact .inr ⟨c,r,rfl,hr⟩
def wP (s:List UInt8):Pc:=⟨0,s,0⟩
def nP (n:Int):Pc:=⟨1,Lib.itoa n,n⟩
def sP (s:List UInt8):Pc:=⟨2,s,0⟩
def oP (o:Opr):Pc:=⟨if o.form≤2 then 0 else 2,o.text,0⟩
def numW (n unit:Int):List Pc :=
 if unit=4 then [wP (if n=1 then [116,114,117,101] else [102,97,108,115,101])]
 else if unit=1 then [nP n,wP [99,111,105,110,115]]
 else if unit=3 then [nP n,wP [100,97,121,115]]
 else if unit=2 then [nP n,wP [109,105,108,108,101]]
 else [nP n]
def parW (f least:Int) (l:List Pc):List Pc:=if f<least then [sP [40]]++l++[sP [41]] else l
def bodyW:Nat→Exp→List Pc
 | 0,_=>[]
 | d+1,e =>
  if e.op=0 then numW e.n e.unit
  else if e.op=1 then [wP e.s]
  else if e.op=2 then [wP [102,97,99,116],wP e.s]
  else if e.op=3 then [wP [114,97,116,101],wP e.s]
  else if e.op=15 then [wP [105,102]]++parW (formO (argOf e 0).op) 0 (bodyW d (argOf e 0))++[wP [116,104,101,110]]++parW (formO (argOf e 1).op) 0 (bodyW d (argOf e 1))++[wP [101,108,115,101]]++parW (formO (argOf e 2).op) 0 (bodyW d (argOf e 2))
  else if e.op=12 then [wP [110,111,116]]++parW (formO (argOf e 0).op) 3 (bodyW d (argOf e 0))
  else if e.op=8 then [wP [109,105,110],sP [40]]++parW (formO (argOf e 0).op) 0 (bodyW d (argOf e 0))++[sP [44]]++parW (formO (argOf e 1).op) 0 (bodyW d (argOf e 1))++[sP [41]]
  else if e.op=9 then [wP [109,97,120],sP [40]]++parW (formO (argOf e 0).op) 0 (bodyW d (argOf e 0))++[sP [44]]++parW (formO (argOf e 1).op) 0 (bodyW d (argOf e 1))++[sP [41]]
  else if e.op=16 then [wP [101,118,101,114],nP e.n,sP [40]]++parW (formO (argOf e 0).op) 0 (bodyW d (argOf e 0))++[sP [41]]
  else if e.op=17 then [wP [108,111,110,103],nP e.n,sP [40]]++parW (formO (argOf e 0).op) 0 (bodyW d (argOf e 0))++[sP [41]]
  else if e.op=18 then [wP [115,111,111,110],nP e.n,sP [40]]++parW (formO (argOf e 0).op) 0 (bodyW d (argOf e 0))++[sP [41]]
  else
   parW (formO (argOf e 0).op) (if (opE e.op).form=4 then 5 else (opE e.op).form) (bodyW d (argOf e 0))++[oP (opE e.op)]++parW (formO (argOf e 1).op) ((opE e.op).form+1) (bodyW d (argOf e 1))
def showW (d:Nat) (e:Exp) (least:Int):List Pc:=parW (formO e.op) least (bodyW d e)
def joinP:List Pc→List UInt8
 | []=>[]
 | x::l=>x.text++l.flatMap fun y=>32::y.text
theorem joinP_app {a b:List Pc} (ha:a≠[]) (hb:b≠[]):joinP (a++b)=joinP a++[32]++joinP b:=by
 cases a with
 | nil=>exact (ha rfl).elim
 | cons x a =>
  cases b with
  | nil=>exact (hb rfl).elim
  | cons y b =>
   show x.text++(a++y::b).flatMap _=x.text++a.flatMap _++[32]++(y.text++b.flatMap _)
   simp
theorem joinP_one (x:Pc):joinP [x]=x.text:=by simp [joinP]
theorem joinP_cons (x:Pc) {b:List Pc} (hb:b≠[]):joinP (x::b)=x.text++[32]++joinP b:=by
 have:=joinP_app (a:=[x]) (by simp) hb
 rwa [joinP_one] at this
theorem joinP_snoc (x:Pc) {a:List Pc} (ha:a≠[]):joinP (a++[x])=joinP a++[32]++x.text:=by rw [joinP_app ha (by simp),joinP_one]
theorem numW_ne (n u:Int):numW n u≠[]:=by unfold numW;repeat' split
                                          all_goals simp
theorem numW_text (n u:Int):joinP (numW n u)=numT n u:=by
 unfold numW numT
 repeat' split
 all_goals simp [joinP,wP,nP]
theorem parW_ne {f least:Int} {l:List Pc} (h:l≠[]):parW f least l≠[]:=by
 unfold parW
 split
 ·simp
 ·exact h
theorem ite_ne {c:Prop} [Decidable c] {a b:List Pc} (ha:a≠[]) (hb:b≠[]):(if c then a else b)≠[]:=by
 by_cases h:c
 ·rw [if_pos h];exact ha
 ·rw [if_neg h];exact hb
theorem bodyW_ne:∀ (d:Nat) (e:Exp),rightB d e=true→bodyW d e≠[]
 | 0,_,h=>by cases h
 | d+1,e,_=>by
  unfold bodyW
  exact ite_ne (numW_ne _ _) (ite_ne (by simp) (ite_ne (by simp) (ite_ne (by simp) (ite_ne (by simp) (ite_ne (by simp) (ite_ne (by simp) (ite_ne (by simp) (ite_ne (by simp) (ite_ne (by simp) (ite_ne (by simp) (by simp)))))))))))
theorem parW_text {f least:Int} {l:List Pc} (h:l≠[]):joinP (parW f least l)=if f<least then [40,32]++joinP l++[32,41] else joinP l:=by
 unfold parW
 split
 ·rw [joinP_snoc _ (by simp)]
  show joinP (sP [40]::l)++[32]++[41]=_
  rw [joinP_cons _ h]
  simp [sP]
 ·rfl
theorem right_args {d:Nat} {e:Exp} (h:rightB (d+1) e=true) {i:Nat} (hi:(i:Int)<opsN e.op):rightB d (argOf e i)=true:=by
 obtain ⟨op,n,u,s,args⟩:=e
 rw [right_mk] at h
 by_cases hl:(args.length:Int)≠opsN op
 ·rw [if_pos hl] at h;cases h
 rw [if_neg hl] at h
 have hl:=Decidable.of_not_not hl
 have hi:(i:Int)<opsN op:=hi
 have hil:i<args.length:=by omega
 by_cases h0:op=0
 ·subst h0
  have:opsN 0=0:=rfl
  omega
 rw [if_neg h0] at h
 by_cases h1:op=1∨op=2∨op=3
 ·have:opsN op=0:=by rcases h1 with rfl | rfl | rfl<;>rfl
  omega
 rw [if_neg h1] at h
 by_cases h2:op=16∨op=17∨op=18
 ·rw [if_pos h2] at h
  have:opsN op=1:=by rcases h2 with rfl | rfl | rfl<;>rfl
  have:i=0:=by omega
  subst this
  simp only [Bool.and_eq_true] at h
  exact h.2
 rw [if_neg h2] at h
 simp only [Bool.and_eq_true,Bool.not_eq_true',List.any_eq_false] at h
 have:=h.2 (args.getD i ex0) (by rw [List.getD_eq_getElem?_getD,List.getElem?_eq_getElem hil];exact List.getElem_mem _)
 show rightB d (args.getD i ex0)=true
 cases hb:rightB d (args.getD i ex0) with
 | true=>rfl
 | false=>rw [hb] at this;exact (this rfl).elim
theorem opsN_two {op:Int} (h:opsN op≠-1) (h0:op≠0) (h1:op≠1) (h2:op≠2) (h3:op≠3) (h4:op≠12) (h5:op≠15) (h6:op≠16) (h7:op≠17) (h8:op≠18):opsN op=2:=by
 unfold opsN at h ⊢
 rw [if_neg (by omega),if_neg (by omega),if_neg (by omega)] at h ⊢
 split
 ·rename_i hx;rw [if_pos hx] at h;exact (h rfl).elim
 ·rfl
theorem right_opsN {d:Nat} {e:Exp} (h:rightB (d+1) e=true):opsN e.op≠-1:=by
 obtain ⟨op,n,u,s,args⟩:=e
 rw [right_mk] at h
 intro ho
 have ho:opsN op=-1:=ho
 rw [if_pos (by rw [ho];omega)] at h
 cases h
theorem body_text:∀ (d:Nat) (e:Exp),rightB d e=true→joinP (bodyW d e)=bodyT d e
 | 0,_,h=>by cases h
 | d+1,e,h=>by
  have par:∀ (i:Nat) (least:Int),(i:Int)<opsN e.op→joinP (parW (formO (argOf e i).op) least (bodyW d (argOf e i)))=showT d (argOf e i) least∧parW (formO (argOf e i).op) least (bodyW d (argOf e i))≠[]:=by
   intro i least hi
   have hr:=right_args h hi
   have hne:=bodyW_ne d _ hr
   refine ⟨?_,parW_ne hne⟩
   rw [parW_text hne,body_text d _ hr,showT]
  rw [body_succ]
  unfold bodyW
  by_cases h0:e.op=0
  ·rw [if_pos h0,if_pos h0];exact numW_text _ _
  rw [if_neg h0,if_neg h0]
  by_cases h1:e.op=1
  ·rw [if_pos h1,if_pos h1,joinP_one];rfl
  rw [if_neg h1,if_neg h1]
  by_cases h2:e.op=2
  ·rw [if_pos h2,if_pos h2];simp [joinP,wP]
  rw [if_neg h2,if_neg h2]
  by_cases h3:e.op=3
  ·rw [if_pos h3,if_pos h3];simp [joinP,wP]
  rw [if_neg h3,if_neg h3]
  by_cases h15:e.op=15
  ·rw [if_pos h15,if_pos h15]
   have hn:opsN e.op=3:=by rw [h15];rfl
   obtain ⟨t0,n0⟩:=par 0 0 (by omega)
   obtain ⟨t1,n1⟩:=par 1 0 (by omega)
   obtain ⟨t2,n2⟩:=par 2 0 (by omega)
   rw [joinP_app (by simp) n2,joinP_snoc _ (by simp),joinP_app (by simp) n1,joinP_snoc _ (by simp),joinP_app (by simp) n0,t0,t1,t2,joinP_one]
   simp [wP]
  rw [if_neg h15,if_neg h15]
  by_cases h12:e.op=12
  ·rw [if_pos h12,if_pos h12]
   have hn:opsN e.op=1:=by rw [h12];rfl
   obtain ⟨t0,n0⟩:=par 0 3 (by omega)
   rw [joinP_app (by simp) n0,t0,joinP_one]
   simp [wP]
  rw [if_neg h12,if_neg h12]
  by_cases h8:e.op=8
  ·rw [if_pos h8,if_pos h8]
   have hn:opsN e.op=2:=by rw [h8];rfl
   obtain ⟨t0,n0⟩:=par 0 0 (by omega)
   obtain ⟨t1,n1⟩:=par 1 0 (by omega)
   rw [joinP_snoc _ (by simp),joinP_app (by simp) n1,joinP_snoc _ (by simp),joinP_app (by simp) n0,t0,t1]
   simp [joinP,wP,sP]
  rw [if_neg h8,if_neg h8]
  by_cases h9:e.op=9
  ·rw [if_pos h9,if_pos h9]
   have hn:opsN e.op=2:=by rw [h9];rfl
   obtain ⟨t0,n0⟩:=par 0 0 (by omega)
   obtain ⟨t1,n1⟩:=par 1 0 (by omega)
   rw [joinP_snoc _ (by simp),joinP_app (by simp) n1,joinP_snoc _ (by simp),joinP_app (by simp) n0,t0,t1]
   simp [joinP,wP,sP]
  rw [if_neg h9,if_neg h9]
  by_cases h16:e.op=16
  ·rw [if_pos h16,if_pos h16]
   have hn:opsN e.op=1:=by rw [h16];rfl
   obtain ⟨t0,n0⟩:=par 0 0 (by omega)
   rw [joinP_snoc _ (by simp),joinP_app (by simp) n0,t0]
   simp [joinP,wP,sP,nP]
  rw [if_neg h16,if_neg h16]
  by_cases h17:e.op=17
  ·rw [if_pos h17,if_pos h17]
   have hn:opsN e.op=1:=by rw [h17];rfl
   obtain ⟨t0,n0⟩:=par 0 0 (by omega)
   rw [joinP_snoc _ (by simp),joinP_app (by simp) n0,t0]
   simp [joinP,wP,sP,nP]
  rw [if_neg h17,if_neg h17]
  by_cases h18:e.op=18
  ·rw [if_pos h18,if_pos h18]
   have hn:opsN e.op=1:=by rw [h18];rfl
   obtain ⟨t0,n0⟩:=par 0 0 (by omega)
   rw [joinP_snoc _ (by simp),joinP_app (by simp) n0,t0]
   simp [joinP,wP,sP,nP]
  rw [if_neg h18,if_neg h18]
  have hn:=opsN_two (right_opsN h) h0 h1 h2 h3 h12 h15 h16 h17 h18
  obtain ⟨t0,n0⟩:=par 0 (if (opE e.op).form=4 then 5 else (opE e.op).form) (by omega)
  obtain ⟨t1,n1⟩:=par 1 ((opE e.op).form+1) (by omega)
  rw [joinP_app (by simp) n1,joinP_snoc _ n0,t0,t1]
  rfl
theorem show_text {d:Nat} {e:Exp} (h:rightB d e=true) (least:Int):joinP (showW d e least)=showT d e least∧showW d e least≠[]:=by
 have hne:=bodyW_ne d e h
 refine ⟨?_,parW_ne hne⟩
 unfold showW
 rw [parW_text hne,body_text d e h,showT]
def GoodL (l:List Pc):Prop:=∀ x∈l,GoodP x
theorem GoodL.app {a b:List Pc} (ha:GoodL a) (hb:GoodL b):GoodL (a++b):=fun x hx=>(List.mem_append.1 hx).elim (ha x) (hb x)
theorem GoodL.cons {x:Pc} {l:List Pc} (hx:GoodP x) (h:GoodL l):GoodL (x::l):=fun y hy=>(List.mem_cons.1 hy).elim (fun e=>by rw [e];exact hx) (h y)
theorem GoodL.nil:GoodL []:=fun x hx=>by cases hx
theorem good_kw {s:List UInt8} (h:s∈resW):GoodP (wP s):=good_word (by
 have:∀ s∈resW,wordB s=true:=by decide
 exact this s h)
theorem good_opr {op:Int} (h:opsN op=2) (h8:op≠8) (h9:op≠9):GoodP (oP (opE op)):=by
 have hr:op=4∨op=5∨op=6∨op=7∨op=10∨op=11∨op=13∨op=14:=by
  unfold opsN at h
  split at h
  ·omega
  split at h
  ·omega
  split at h
  ·omega
  split at h
  ·omega
  ·omega
 rcases hr with rfl | rfl | rfl | rfl | rfl | rfl | rfl | rfl
 ·exact good_sign (s:=[43]) dd0
 ·exact good_sign (s:=[45]) dd0
 ·exact good_sign (s:=[42]) dd0
 ·exact good_sign (s:=[47]) dd0
 ·exact good_sign (s:=[60]) dd0
 ·exact good_sign (s:=[61,61]) dd0
 ·exact good_word (s:=[97,110,100]) dd0
 ·exact good_word (s:=[111,114]) dd0
theorem parW_good {f least:Int} {l:List Pc} (h:GoodL l):GoodL (parW f least l):=by
 unfold parW
 split
 ·exact ((GoodL.cons (good_sign (s:=[40]) dd0) .nil).app h).app (.cons (good_sign (s:=[41]) dd0) .nil)
 ·exact h
set_option maxHeartbeats 1000000
def Reps (l:List Pc) (r r':List Tok):Prop:=∃ T1,r=T1++r'∧T1.map Tok.pc=l
theorem reps_nil {r r':List Tok} (h:Reps [] r r'):r=r':=by
 obtain ⟨T1,h1,h2⟩:=h
 rw [List.map_eq_nil_iff.1 h2] at h1
 exact h1
theorem reps_cons {x:Pc} {l:List Pc} {r r':List Tok} (h:Reps (x::l) r r'):∃ t r1,r=t::r1∧t.kind=x.kind∧t.text=x.text∧t.n=x.n∧Reps l r1 r':=by
 obtain ⟨T1,h1,h2⟩:=h
 cases T1 with
 | nil=>cases h2
 | cons t T1 =>
  rw [List.map_cons,List.cons.injEq] at h2
  obtain ⟨h3,h4⟩:=h2
  exact ⟨t,T1++r',h1,by rw [← h3];rfl,by rw [← h3];rfl,by rw [← h3];rfl,T1,rfl,h4⟩
theorem reps_app {a b:List Pc} {r r':List Tok} (h:Reps (a++b) r r'):∃ m,Reps a r m∧Reps b m r':=by
 obtain ⟨T1,h1,h2⟩:=h
 obtain ⟨A,B,rfl,hA,hB⟩:=List.map_eq_append_iff.1 h2
 exact ⟨B++r',⟨A,by rw [h1,List.append_assoc],hA⟩,⟨B,rfl,hB⟩⟩
theorem Reps.len {l:List Pc} {r r':List Tok} (h:Reps l r r'):r.length=l.length+r'.length:=by
 obtain ⟨T1,rfl,rfl⟩:=h
 simp
theorem isT_cons (w:List UInt8) (t:Tok) (r:List Tok):isT w (t::r)=(decide (t.kind≠3)&&decide (t.text=w)):=rfl
theorem want_rep {w:List UInt8} {x:Pc} {l:List Pc} {r r':List Tok} (h:Reps (x::l) r r') (hk:x.kind≠3) (hw:x.text=w):∃ r1,wantP w r=.ok r1∧Reps l r1 r':=by
 obtain ⟨t,r1,rfl,k1,k2,_,h1⟩:=reps_cons h
 refine ⟨r1,?_,h1⟩
 unfold wantP
 rw [isT_cons,k1,k2,hw,decide_eq_true hk,decide_eq_true rfl]
 rfl
theorem isT_rep {w:List UInt8} {x:Pc} {l:List Pc} {r r':List Tok} (h:Reps (x::l) r r'):isT w r=(decide (x.kind≠3)&&decide (x.text=w)):=by
 obtain ⟨t,r1,rfl,k1,k2,_,h1⟩:=reps_cons h
 rw [isT_cons,k1,k2]
theorem tail_rep {x:Pc} {l:List Pc} {r r':List Tok} (h:Reps (x::l) r r'):Reps l r.tail r':=by
 obtain ⟨t,r1,rfl,_,_,_,h1⟩:=reps_cons h
 exact h1
theorem num_rep {a b n:Int} {l:List Pc} {r r':List Tok} (h:Reps (nP n::l) r r') (hn:a≤n∧n≤b):∃ r1,numP a b r=.ok (n,r1)∧Reps l r1 r':=by
 obtain ⟨t,r1,rfl,k1,k2,k3,h1⟩:=reps_cons h
 have k1:t.kind=1:=k1
 have k3:t.n=n:=k3
 refine ⟨r1,?_,h1⟩
 unfold numP
 show (if t.kind≠1 then _ else _)=_
 rw [if_neg (by rw [k1];simp)]
 show (if a≤t.n∧t.n≤b then (Except.ok (t.n,r1):Ps Int) else _)=_
 rw [k3,if_pos hn]
theorem name_rep {s:List UInt8} {l:List Pc} {r r':List Tok} (h:Reps (wP s::l) r r') (hn:nameB s=true):∃ r1,nameP r=.ok (s,r1)∧Reps l r1 r':=by
 obtain ⟨t,r1,rfl,k1,k2,k3,h1⟩:=reps_cons h
 have k1:t.kind=0:=k1
 have k2:t.text=s:=k2
 refine ⟨r1,?_,h1⟩
 unfold nameP namedB
 show (if (decide (t.kind=0)&&nameB t.text)=true then (Except.ok (t.text,r1):Ps (List UInt8)) else _)=_
 rw [k1,k2,hn]
 rfl
def Stop (form:Int) (r:List Tok):Prop:=opI r<0∨(opAt (opI r)).form<form
def NoUnit (r:List Tok):Prop:=isT [99,111,105,110,115] r=false∧isT [100,97,121,115] r=false∧isT [109,105,108,108,101] r=false
theorem Stop.le {a b:Int} {r:List Tok} (h:Stop a r) (hab:a≤b):Stop b r:=h.imp id fun h=>by omega
theorem loop_stop {ex:Rec} {form:Int} {r:List Tok} (h:Stop form r) (f:Nat) (e:Exp) (own:Int):loopP ex form f e own r=.ok (e,r):=by
 cases f with
 | zero=>rfl
 | succ f =>
  by_cases h0:opI r<0
  ·exact loopP_none h0
  ·exact loopP_stop h0 (.inl (h.resolve_left h0))
theorem opI_text {r:List Tok} (h:∀ o∈oprL,isT o.text r=false):opI r<0:=by
 have:opI r=-1:=idxP_none (d:=o0) fun j hj=>h _ (by
  rw [List.getD_eq_getElem?_getD,List.getElem?_eq_getElem hj]
  exact List.getElem_mem _)
 omega
theorem stop_rep {x:Pc} {l:List Pc} {r r':List Tok} (h:Reps (x::l) r r') (hx:∀ o∈oprL,x.text≠o.text) (form:Int):Stop form r :=
 .inl (opI_text fun o ho=>by rw [isT_rep h,decide_eq_false (hx o ho),Bool.and_false])
theorem nounit_rep {x:Pc} {l:List Pc} {r r':List Tok} (h:Reps (x::l) r r') (hx:x.text≠[99,111,105,110,115]∧x.text≠[100,97,121,115]∧x.text≠[109,105,108,108,101]):NoUnit r :=
 ⟨by rw [isT_rep h,decide_eq_false hx.1,Bool.and_false],by rw [isT_rep h,decide_eq_false hx.2.1,Bool.and_false],by rw [isT_rep h,decide_eq_false hx.2.2,Bool.and_false]⟩
theorem exp_prim {ex:Rec} {form:Int} {r r':List Tok} {x:Exp} (h1:isT [105,102] r=false) (h2:isT [110,111,116] r=false) (h:primP ex r=.ok (x,r')):expS ex form r=loopP ex form r'.length x 7 r':=by
 unfold expS prefP
 rw [if_neg (fun y=>by rw [h1] at y;exact Bool.noConfusion y.2),if_neg (fun y=>by rw [h2] at y;exact Bool.noConfusion y.2),h]
theorem prim_text {ex:Rec} {x:Pc} {l:List Pc} {r r':List Tok} (h:Reps (x::l) r r') (hk:x.kind≠3) (hk1:x.kind≠1):primP ex r =
  if x.text=[116,114,117,101] then .ok (.mk 0 1 4 [] [],r.tail)
  else if x.text=[102,97,108,115,101] then .ok (.mk 0 0 4 [] [],r.tail)
  else if x.text=[102,97,99,116] then namedP 2 r.tail
  else if x.text=[114,97,116,101] then namedP 3 r.tail
  else if x.text=[101,118,101,114] then withinP ex 16 r.tail
  else if x.text=[108,111,110,103] then withinP ex 17 r.tail
  else if x.text=[115,111,111,110] then withinP ex 18 r.tail
  else if x.text=[109,105,110]∨x.text=[109,97,120] then pairP ex (if x.text=[109,97,120] then 9 else 8) r.tail
  else if x.text=[40] then parenP ex r.tail
  else namedP 1 r:=by
 have hi:∀ w,isT w r=decide (x.text=w):=fun w=>by rw [isT_rep h,decide_eq_true hk,Bool.true_and]
 obtain ⟨t,r1,rfl,k1,_,_,_⟩:=reps_cons h
 unfold primP
 have hx:¬ (hdT (t::r1)).kind=1:=by show ¬ t.kind=1;rw [k1];exact hk1
 rw [if_neg hx]
 simp only [hi,decide_eq_true_eq]
theorem name_nres {s:List UInt8} (h:nameB s=true):∀ w∈resW,s≠w:=by
 intro w hw he
 unfold nameB at h
 simp only [Bool.and_eq_true,Bool.not_eq_true',decide_eq_false_iff_not] at h
 rw [he] at h
 exact h.2 hw
theorem word_first {s:List UInt8} (h:nameB s=true) (c:UInt8) (hc:letB (c.toNat:Int)=false):s≠[c]:=by
 intro he
 subst he
 unfold nameB wordB at h
 simp only [Bool.and_eq_true] at h
 have:letB (c.toNat:Int)=true:=h.1.1.1.2
 rw [hc] at this
 cases this
theorem dec_word {n:Int} (h0:0≤n) {w:List UInt8} (hw:letB ((w.getD 0 0).toNat:Int)=true):Lib.itoa n≠w:=by
 intro he
 obtain ⟨u,rfl⟩:∃ u:Nat,n=u:=⟨n.toNat,by omega⟩
 rw [Lib.itoa_nonneg] at he
 cases hs:Lib.decDigits u with
 | nil=>exact dec_ne u hs
 | cons c s =>
  have hd:=dec_dig u c (by rw [hs];simp)
  rw [← he,hs] at hw
  have hw:letB (c.toNat:Int)=true:=hw
  unfold digB at hd
  unfold letB at hw
  simp only [Bool.and_eq_true,decide_eq_true_eq] at hd hw
  omega
theorem prim_num_rep {ex:Rec} {u:Int} (hu:0≤u∧u≤3) {n:Int} {r r':List Tok} (h:Reps (numW n u) r r') (hno:NoUnit r'):primP ex r=.ok (.mk 0 n u [] [],r'):=by
 have key:∀ l,Reps (nP n::l) r r'→unitP r.tail=(u,r')→primP ex r=.ok (.mk 0 n u [] [],r'):=by
  intro l hl hun
  obtain ⟨t,r1,rfl,k1,k2,k3,h1⟩:=reps_cons hl
  have k1:t.kind=1:=k1
  have k3:t.n=n:=k3
  unfold primP
  show (if t.kind=1 then (Except.ok (Exp.mk 0 t.n (unitP r1).1 [] [],(unitP r1).2):Ps Exp) else _)=_
  have hun:unitP r1=(u,r'):=hun
  rw [if_pos k1,hun,k3]
 unfold numW at h
 rw [if_neg (by omega)] at h
 by_cases h1:u=1
 ·rw [if_pos h1] at h
  refine key _ h ?_
  obtain ⟨t,r1,rfl,_,_,_,h2⟩:=reps_cons h
  have:=isT_rep (w:=[99,111,105,110,115]) h2
  show unitP r1=_
  unfold unitP
  rw [this,h1,if_pos (by decide),reps_nil (tail_rep h2)]
 rw [if_neg h1] at h
 by_cases h3:u=3
 ·rw [if_pos h3] at h
  refine key _ h ?_
  obtain ⟨t,r1,rfl,_,_,_,h2⟩:=reps_cons h
  have a:=isT_rep (w:=[99,111,105,110,115]) h2
  have b:=isT_rep (w:=[100,97,121,115]) h2
  show unitP r1=_
  unfold unitP
  rw [a,b,h3,if_neg (by decide),if_pos (by decide),reps_nil (tail_rep h2)]
 rw [if_neg h3] at h
 by_cases h2':u=2
 ·rw [if_pos h2'] at h
  refine key _ h ?_
  obtain ⟨t,r1,rfl,_,_,_,h2⟩:=reps_cons h
  have a:=isT_rep (w:=[99,111,105,110,115]) h2
  have b:=isT_rep (w:=[100,97,121,115]) h2
  have c:=isT_rep (w:=[109,105,108,108,101]) h2
  show unitP r1=_
  unfold unitP
  rw [a,b,c,h2',if_neg (by decide),if_neg (by decide),if_pos (by decide),reps_nil (tail_rep h2)]
 rw [if_neg h2'] at h
 refine key _ h ?_
 have h0:u=0:=by omega
 rw [reps_nil (tail_rep h),h0]
 unfold unitP
 rw [hno.1,hno.2.1,hno.2.2]
 rfl
theorem numW_cons (n:Int) {u:Int} (hu:u≤3):∃ l,numW n u=nP n::l:=by
 unfold numW
 rw [if_neg (by omega)]
 split
 ·exact ⟨_,rfl⟩
 split
 ·exact ⟨_,rfl⟩
 split
 ·exact ⟨_,rfl⟩
 ·exact ⟨_,rfl⟩
theorem fin_cons {t:Tok} {r:List Tok} (hk:t.kind≠3) (h:Fin1 r):Fin1 (t::r):=by
 cases r with
 | nil=>exact h.elim
 | cons u r=>exact ⟨hk,h⟩
theorem fin_rep {x:Pc} {r r':List Tok} (h:Reps [x] r r') (hk:x.kind≠3) (hf:Fin1 r'):Fin1 r:=by
 obtain ⟨t,r1,rfl,k1,_,_,h1⟩:=reps_cons h
 rw [← reps_nil h1] at hf
 exact fin_cons (by rw [k1];exact hk) hf
theorem fin_reps:∀ {l:List Pc} {r r':List Tok},Reps l r r'→(∀ x∈l,x.kind≠3)→Fin1 r'→Fin1 r
 | [],r,r',h,_,hf=>by rw [reps_nil h];exact hf
 | x::l,r,r',h,hk,hf=>by
  obtain ⟨t,r1,rfl,k1,_,_,h1⟩:=reps_cons h
  exact fin_cons (by rw [k1];exact hk x (by simp)) (fin_reps h1 (fun y hy=>hk y (by simp [hy])) hf)
theorem stop_0 {r:List Tok} (h:Stop 1 r):Stop 0 r:=by
 rcases h with h | h
 ·exact .inl h
 ·by_cases h0:opI r<0
  ·exact .inl h0
  ·have:=form_bnd (opI_ok h0).1
   have hoa:opAt (opI r)=oprL.getD (opI r).toNat o0:=rfl
   rw [hoa] at h
   omega
theorem stop_3 {r:List Tok} (h:Stop 4 r):Stop 3 r:=by
 rcases h with h | h
 ·exact .inl h
 ·by_cases h0:opI r<0
  ·exact .inl h0
  ·have hi:=(opI_ok h0).1
   have:∀ i,i<8→(oprL.getD i o0).form<4→(oprL.getD i o0).form<3:=by decide
   exact .inr (this _ hi h)
def UE (e:Exp):Prop:=∀ (d n:Nat) (form:Int) (r r':List Tok),lev e≤d→Reps (bodyW d e) r r'→r.length≤n+1→0≤form→form≤formO e.op→Stop (formO e.op+1) r'→NoUnit r'→Fin1 r' →
 expS (expP n) form r=loopP (expP n) form r'.length e (formO e.op) r'
theorem show_U {e:Exp} (hU:UE e) {d n:Nat} {form least:Int} {r r':List Tok} (hd:lev e≤d) (h:Reps (showW d e least) r r') (hl:r.length≤n+1) (h0:0≤form) (h1:form≤least)
  (hs:Stop ((if formO e.op<least then 7 else formO e.op)+1) r') (hno:NoUnit r') (hf:Fin1 r'):expS (expP n) form r=loopP (expP n) form r'.length e (if formO e.op<least then 7 else formO e.op) r':=by
 unfold showW parW at h
 by_cases hp:formO e.op<least
 ·rw [if_pos hp] at h ⊢
  have h:Reps (sP [40]::(bodyW d e++[sP [41]])) r r':=h
  have hlen:=h.len
  obtain ⟨m2,hb,hz⟩:=reps_app (tail_rep h)
  have hfr:=hb.len
  have hzl:=hz.len
  have ht:r.tail.length+1=r.length:=by
   obtain ⟨t,r1,rfl,_,_,_,_⟩:=reps_cons h
   rfl
  have hpos:=List.length_pos_iff.2 hf.ne
  simp only [List.length_cons,List.length_nil] at hzl
  obtain ⟨n',rfl⟩:∃ k,n=k+1:=⟨n-1,by omega⟩
  refine exp_prim (by rw [isT_rep h];decide) (by rw [isT_rep h];decide) ?_
  rw [prim_text h (by decide) (by decide)]
  have hin:expP (n'+1) 0 r.tail=.ok (e,m2):=by
   show expS (expP n') 0 r.tail=_
   have hfm:=fin_rep hz (by decide) hf
   have hf0:0≤formO e.op:=by
    unfold formO
    repeat' split
    all_goals first | omega | skip
    rename_i hx
    have:=form_bnd (i:=(oprI e.op).toNat) (by
     have h2:=idxP_lt (fun o:Opr=>decide (o.op=e.op)) o0 oprL
     rcases h2 with h2 | h2
     ·exact (hx h2).elim
     ·exact h2.1)
    omega
   rw [hU d n' 0 r.tail m2 hd hb (by omega) (by omega) hf0 (stop_rep hz (by decide) _) (nounit_rep hz (by decide)) hfm]
   exact loop_stop (stop_rep hz dd0 _) _ _ _
  obtain ⟨r1,hw,h9⟩:=want_rep hz (by decide) (w:=[41]) rfl
  have:parenP (expP (n'+1)) r.tail=.ok (e,r'):=by
   unfold parenP
   rw [hin]
   dsimp only
   rw [hw,reps_nil h9]
  rw [← this]
  rfl
 ·rw [if_neg hp] at h hs ⊢
  exact hU d n form r r' hd h hl h0 om0 hs hno hf
theorem read_U {e:Exp} (hU:UE e) {d n:Nat} {form least:Int} {r r':List Tok} (hd:lev e≤d) (h:Reps (showW d e least) r r') (hl:r.length≤n) (h0:0≤form) (h1:form≤least) (h7:least≤7)
  (hs:Stop form r') (hno:NoUnit r') (hf:Fin1 r'):expP n form r=.ok (e,r'):=by
 have hlen:=h.len
 have hpos:=List.length_pos_iff.2 hf.ne
 obtain ⟨n',rfl⟩:∃ k,n=k+1:=⟨n-1,by omega⟩
 show expS (expP n') form r=_
 rw [show_U hU hd h hl h0 h1 (hs.le (by split<;>omega)) hno hf]
 exact loop_stop hs _ _ _
def NK (l:List Pc):Prop:=∀ z∈l,z.kind≠3
theorem NK.app {a b:List Pc} (ha:NK a) (hb:NK b):NK (a++b):=fun x hx=>(List.mem_append.1 hx).elim (ha x) (hb x)
theorem NK.cons {x:Pc} {l:List Pc} (hx:x.kind≠3) (h:NK l):NK (x::l):=fun y hy=>(List.mem_cons.1 hy).elim (fun e=>by rw [e];exact hx) (h y)
theorem NK.nil:NK []:=fun x hx=>by cases hx
theorem nk_ite {c:Prop} [Decidable c] {a b:List Pc} (ha:NK a) (hb:NK b):NK (if c then a else b):=by
 by_cases h:c
 ·rw [if_pos h];exact ha
 ·rw [if_neg h];exact hb
theorem nk_w (s:List UInt8):(wP s).kind≠3:=by show (0:Int)≠3;decide
theorem nk_n (n:Int):(nP n).kind≠3:=by show (1:Int)≠3;decide
theorem nk_s (s:List UInt8):(sP s).kind≠3:=by show (2:Int)≠3;decide
theorem nk_o (o:Opr):(oP o).kind≠3:=by show (if o.form≤2 then (0:Int) else 2)≠3;split<;>decide
theorem par_nk {f least:Int} {l:List Pc} (h:NK l):NK (parW f least l):=nk_ite ((NK.cons (nk_s _) h).app (.cons (nk_s _) .nil)) h
theorem num_nk (n u:Int):NK (numW n u):=nk_ite (.cons (nk_w _) .nil) (nk_ite (.cons (nk_n _) (.cons (nk_w _) .nil)) (nk_ite (.cons (nk_n _) (.cons (nk_w _) .nil)) (nk_ite (.cons (nk_n _) (.cons (nk_w _) .nil)) (.cons (nk_n _) .nil))))
theorem body_nk:∀ (d:Nat) (e:Exp),NK (bodyW d e)
 | 0,_=>.nil
 | d+1,e=>by
  have p:∀ (i:Nat) (least:Int),NK (parW (formO (argOf e i).op) least (bodyW d (argOf e i))):=fun i least=>par_nk (body_nk d _)
  unfold bodyW
  refine nk_ite (num_nk _ _) (nk_ite (.cons (nk_w _) .nil) (nk_ite (.cons (nk_w _) (.cons (nk_w _) .nil)) (nk_ite (.cons (nk_w _) (.cons (nk_w _) .nil)) (nk_ite ?_ (nk_ite ?_ (nk_ite ?_ (nk_ite ?_ (nk_ite ?_ (nk_ite ?_ (nk_ite ?_ ?_))))))))))
  ·exact (((((NK.cons (nk_w _) .nil).app (p 0 0)).app (.cons (nk_w _) .nil)).app (p 1 0)).app (.cons (nk_w _) .nil)).app (p 2 0)
  ·exact (NK.cons (nk_w _) .nil).app (p 0 3)
  ·exact ((((NK.cons (nk_w _) (.cons (nk_s _) .nil)).app (p 0 0)).app (.cons (nk_s _) .nil)).app (p 1 0)).app (.cons (nk_s _) .nil)
  ·exact ((((NK.cons (nk_w _) (.cons (nk_s _) .nil)).app (p 0 0)).app (.cons (nk_s _) .nil)).app (p 1 0)).app (.cons (nk_s _) .nil)
  ·exact ((NK.cons (nk_w _) (.cons (nk_n _) (.cons (nk_s _) .nil))).app (p 0 0)).app (.cons (nk_s _) .nil)
  ·exact ((NK.cons (nk_w _) (.cons (nk_n _) (.cons (nk_s _) .nil))).app (p 0 0)).app (.cons (nk_s _) .nil)
  ·exact ((NK.cons (nk_w _) (.cons (nk_n _) (.cons (nk_s _) .nil))).app (p 0 0)).app (.cons (nk_s _) .nil)
  ·exact ((p 0 _).app (.cons (nk_o _) .nil)).app (p 1 _)
theorem show_nk (d:Nat) (e:Exp) (least:Int):NK (showW d e least):=par_nk (body_nk d e)
theorem levD {op n u:Int} {s:List UInt8} {args:List Exp} {d:Nat} (h:lev (.mk op n u s args)≤d):∃ k,d=k+1∧levs args≤k:=by
 rw [lev] at h
 exact ⟨d-1,by omega,by omega⟩
theorem pref_word {x:Pc} {l:List Pc} {r r':List Tok} (h:Reps (x::l) r r') (hx:x.text≠[105,102]∧x.text≠[110,111,116]):isT [105,102] r=false∧isT [110,111,116] r=false :=
 ⟨by rw [isT_rep h,decide_eq_false hx.1,Bool.and_false],by rw [isT_rep h,decide_eq_false hx.2,Bool.and_false]⟩
theorem ue_num {n u:Int} (h0:0≤n) (hu:0≤u∧u≤3):UE (.mk 0 n u [] []):=by
 intro d m form r r' hd h hl hf0 hf1 hs hno hf
 obtain ⟨k,rfl,_⟩:=levD hd
 have h:Reps (numW n u) r r':=h
 obtain ⟨l,hc⟩:=numW_cons n hu.2
 have h2:=h
 rw [hc] at h2
 obtain ⟨p1,p2⟩:=pref_word h2 ⟨dec_word h0 (by decide),dec_word h0 (by decide)⟩
 exact exp_prim p1 p2 (prim_num_rep hu h hno)
theorem ue_boo {n:Int} (hn:n=0∨n=1):UE (.mk 0 n 4 [] []):=by
 intro d m form r r' hd h hl hf0 hf1 hs hno hf
 obtain ⟨k,rfl,_⟩:=levD hd
 rcases hn with rfl | rfl
 ·have h:Reps [wP [102,97,108,115,101]] r r':=h
  obtain ⟨p1,p2⟩:=pref_word h (by decide)
  refine exp_prim p1 p2 ?_
  rw [prim_text h (by decide) (by decide),reps_nil (tail_rep h)]
  rfl
 ·have h:Reps [wP [116,114,117,101]] r r':=h
  obtain ⟨p1,p2⟩:=pref_word h (by decide)
  refine exp_prim p1 p2 ?_
  rw [prim_text h (by decide) (by decide),reps_nil (tail_rep h)]
  rfl
theorem named_rep {op:Int} {s:List UInt8} {r r':List Tok} (h:Reps [wP s] r r') (hn:nameB s=true):namedP op r=.ok (.mk op 0 0 s [],r'):=by
 obtain ⟨r1,h1,h2⟩:=name_rep h hn
 unfold namedP
 rw [h1,reps_nil h2]
theorem ue_name {op:Int} {s:List UInt8} (ho:op=1∨op=2∨op=3) (hn:nameB s=true):UE (.mk op 0 0 s []):=by
 intro d m form r r' hd h hl hf0 hf1 hs hno hf
 obtain ⟨k,rfl,_⟩:=levD hd
 have nr:=name_nres hn
 rcases ho with rfl | rfl | rfl
 ·have h:Reps [wP s] r r':=h
  obtain ⟨p1,p2⟩:=pref_word h ⟨nr _ (by decide),nr _ (by decide)⟩
  refine exp_prim p1 p2 ?_
  rw [prim_text h (by show (0:Int)≠3;decide) (by show (0:Int)≠1;decide)]
  have nr:∀ w∈resW,(wP s).text≠w:=nr
  rw [if_neg (nr [116,114,117,101] (by decide)),if_neg (nr [102,97,108,115,101] (by decide)),if_neg (nr [102,97,99,116] (by decide)),if_neg (nr [114,97,116,101] (by decide)),if_neg (nr [101,118,101,114] (by decide)),if_neg (nr [108,111,110,103] (by decide)),if_neg (nr [115,111,111,110] (by decide)),
   if_neg (show ¬ ((wP s).text=[109,105,110]∨(wP s).text=[109,97,120]) from fun x=>x.elim (nr _ (by decide)) (nr _ (by decide))),if_neg (show ¬ (wP s).text=[40] from word_first hn 40 (by decide))]
  exact named_rep h hn
 ·have h:Reps [wP [102,97,99,116],wP s] r r':=h
  obtain ⟨p1,p2⟩:=pref_word h (by decide)
  refine exp_prim p1 p2 ?_
  rw [prim_text h (by decide) (by decide)]
  exact named_rep (tail_rep h) hn
 ·have h:Reps [wP [114,97,116,101],wP s] r r':=h
  obtain ⟨p1,p2⟩:=pref_word h (by decide)
  refine exp_prim p1 p2 ?_
  rw [prim_text h (by decide) (by decide)]
  exact named_rep (tail_rep h) hn
theorem rep_tl {x:Pc} {l:List Pc} {r r':List Tok} (h:Reps (x::l) r r'):r.tail.length+1=r.length:=by
 obtain ⟨t,r1,rfl,_,_,_,_⟩:=reps_cons h
 rfl
theorem within_rep {x:Exp} (hU:UE x) {k n:Nat} {op a:Int} (ha:1≤a∧a≤1000) {r r':List Tok} (hd:lev x≤k) (h:Reps ([nP a,sP [40]]++showW k x 0++[sP [41]]) r r') (hl:r.length≤n) (hf:Fin1 r') :
  withinP (expP n) op r=.ok (.mk op a 0 [] [x],r'):=by
 have h:Reps (nP a::sP [40]::(showW k x 0++[sP [41]])) r r':=h
 have l0:=h.len
 obtain ⟨r1,e1,h1⟩:=num_rep h ha
 have l1:=h1.len
 obtain ⟨r2,e2,h2⟩:=want_rep h1 (by decide) (w:=[40]) rfl
 obtain ⟨m,hb,hz⟩:=reps_app h2
 have l2:=h2.len
 simp only [List.length_cons] at l0 l1 l2
 have e3:=read_U hU (form:=0) hd hb (n:=n) (by omega) (by omega) (by omega) (by omega) (stop_rep hz (by decide) 0) (nounit_rep hz (by decide)) (fin_rep hz (by decide) hf)
 obtain ⟨r4,e4,h4⟩:=want_rep hz (by decide) (w:=[41]) rfl
 unfold withinP
 rw [e1]
 dsimp only
 rw [e2]
 dsimp only
 rw [e3]
 dsimp only
 rw [e4,reps_nil h4]
theorem ue_within {op a:Int} {x:Exp} (ho:op=16∨op=17∨op=18) (ha:1≤a∧a≤1000) (hU:UE x):UE (.mk op a 0 [] [x]):=by
 intro d n form r r' hd h hl hf0 hf1 hs hno hf
 obtain ⟨k,rfl,hk⟩:=levD hd
 have hx:lev x≤k:=by simp only [levs] at hk;omega
 rcases ho with rfl | rfl | rfl
 ·have h:Reps (wP [101,118,101,114]::([nP a,sP [40]]++showW k x 0++[sP [41]])) r r':=h
  have:=rep_tl h
  obtain ⟨p1,p2⟩:=pref_word h (by decide)
  refine exp_prim p1 p2 ?_
  rw [prim_text h (by decide) (by decide)]
  exact within_rep hU ha hx (tail_rep h) om0 hf
 ·have h:Reps (wP [108,111,110,103]::([nP a,sP [40]]++showW k x 0++[sP [41]])) r r':=h
  have:=rep_tl h
  obtain ⟨p1,p2⟩:=pref_word h (by decide)
  refine exp_prim p1 p2 ?_
  rw [prim_text h (by decide) (by decide)]
  exact within_rep hU ha hx (tail_rep h) om0 hf
 ·have h:Reps (wP [115,111,111,110]::([nP a,sP [40]]++showW k x 0++[sP [41]])) r r':=h
  have:=rep_tl h
  obtain ⟨p1,p2⟩:=pref_word h (by decide)
  refine exp_prim p1 p2 ?_
  rw [prim_text h (by decide) (by decide)]
  exact within_rep hU ha hx (tail_rep h) om0 hf
theorem ue_not {x:Exp} (hU:UE x):UE (.mk 12 0 0 [] [x]):=by
 intro d n form r r' hd h hl hf0 hf1 hs hno hf
 obtain ⟨k,rfl,hk⟩:=levD hd
 have hx:lev x≤k:=by simp only [levs] at hk;omega
 have h:Reps (wP [110,111,116]::showW k x 3) r r':=h
 have hlt:=rep_tl h
 have hfo:formO (Exp.mk 12 0 0 [] [x]).op=3:=rfl
 rw [hfo] at hf1 hs ⊢
 have e1:=read_U hU (form:=3) hx (tail_rep h) (n:=n) (by omega) (by omega) (by omega) (by omega) (stop_3 hs) hno hf
 unfold expS prefP
 rw [if_neg (fun y=>by rw [isT_rep h] at y;exact absurd y.2 (by decide)),if_pos ⟨hf1,by rw [isT_rep h];decide⟩]
 unfold notP
 rw [e1]
theorem pair_rep {x y:Exp} (hx:UE x) (hy:UE y) {k n:Nat} {op:Int} {r r':List Tok} (dx:lev x≤k) (dy:lev y≤k) (h:Reps (sP [40]::(showW k x 0++sP [44]::(showW k y 0++[sP [41]]))) r r') (hl:r.length≤n) (hf:Fin1 r') :
  pairP (expP n) op r=.ok (.mk op 0 0 [] [x,y],r'):=by
 have l0:=h.len
 obtain ⟨r1,e1,h1⟩:=want_rep h (by decide) (w:=[40]) rfl
 obtain ⟨m,hb,hz⟩:=reps_app h1
 have l1:=h1.len
 have lz:=hz.len
 obtain ⟨r3,e3,h3⟩:=want_rep hz (by decide) (w:=[44]) rfl
 obtain ⟨m2,hb2,hz2⟩:=reps_app h3
 have l3:=h3.len
 simp only [List.length_cons,List.length_append,List.length_nil] at l0 l1 lz l3
 have f2:=fin_rep hz2 (by decide) hf
 have kd:∀ z∈showW k y 0,z.kind≠3:=show_nk k y 0
 have f1:Fin1 m:=by
  obtain ⟨t,q,rfl,k1,_,_,h5⟩:=reps_cons hz
  obtain ⟨m3,g1,g2⟩:=reps_app h5
  have:=fin_reps g1 kd (fin_rep g2 (by decide) hf)
  exact fin_cons (by rw [k1];decide) this
 have e2:=read_U hx (form:=0) dx hb (n:=n) (by omega) (by omega) (by omega) (by omega) (stop_rep hz (by decide) 0) (nounit_rep hz (by decide)) f1
 have e4:=read_U hy (form:=0) dy hb2 (n:=n) (by omega) (by omega) (by omega) (by omega) (stop_rep hz2 (by decide) 0) (nounit_rep hz2 (by decide)) f2
 obtain ⟨r5,e5,h5⟩:=want_rep hz2 (by decide) (w:=[41]) rfl
 unfold pairP
 rw [e1]
 dsimp only
 rw [e2]
 dsimp only
 rw [e3]
 dsimp only
 rw [e4]
 dsimp only
 rw [e5,reps_nil h5]
theorem ue_min {x y:Exp} (hx:UE x) (hy:UE y) {op:Int} (ho:op=8∨op=9):UE (.mk op 0 0 [] [x,y]):=by
 intro d n form r r' hd h hl hf0 hf1 hs hno hf
 obtain ⟨k,rfl,hk⟩:=levD hd
 have dx:lev x≤k:=by simp only [levs] at hk;omega
 have dy:lev y≤k:=by simp only [levs] at hk;omega
 rcases ho with rfl | rfl
 ·have h:Reps ([wP [109,105,110],sP [40]]++showW k x 0++[sP [44]]++showW k y 0++[sP [41]]) r r':=h
  have h:Reps (wP [109,105,110]::sP [40]::(showW k x 0++sP [44]::(showW k y 0++[sP [41]]))) r r':=by
   simpa using h
  have:=rep_tl h
  obtain ⟨p1,p2⟩:=pref_word h (by decide)
  refine exp_prim p1 p2 ?_
  rw [prim_text h (by decide) (by decide)]
  exact pair_rep hx hy dx dy (tail_rep h) om0 hf
 ·have h:Reps ([wP [109,97,120],sP [40]]++showW k x 0++[sP [44]]++showW k y 0++[sP [41]]) r r':=h
  have h:Reps (wP [109,97,120]::sP [40]::(showW k x 0++sP [44]::(showW k y 0++[sP [41]]))) r r':=by
   simpa using h
  have:=rep_tl h
  obtain ⟨p1,p2⟩:=pref_word h (by decide)
  refine exp_prim p1 p2 ?_
  rw [prim_text h (by decide) (by decide)]
  exact pair_rep hx hy dx dy (tail_rep h) om0 hf
theorem ue_cond {x y z:Exp} (hx:UE x) (hy:UE y) (hz:UE z):UE (.mk 15 0 0 [] [x,y,z]):=by
 intro d n form r r' hd h hl hf0 hf1 hs hno hf
 obtain ⟨k,rfl,hk⟩:=levD hd
 have dx:lev x≤k:=by simp only [levs] at hk;omega
 have dy:lev y≤k:=by simp only [levs] at hk;omega
 have dz:lev z≤k:=by simp only [levs] at hk;omega
 have hfo:formO (Exp.mk 15 0 0 [] [x,y,z]).op=0:=rfl
 rw [hfo] at hf1 hs ⊢
 obtain rfl:form=0:=by omega
 have h:Reps ([wP [105,102]]++showW k x 0++[wP [116,104,101,110]]++showW k y 0++[wP [101,108,115,101]]++showW k z 0) r r':=h
 have h:Reps (wP [105,102]::(showW k x 0++wP [116,104,101,110]::(showW k y 0++wP [101,108,115,101]::showW k z 0))) r r':=by simpa using h
 have l0:=rep_tl h
 obtain ⟨m1,b1,c1⟩:=reps_app (tail_rep h)
 obtain ⟨r2,e2,h2⟩:=want_rep c1 (by decide) (w:=[116,104,101,110]) rfl
 obtain ⟨m3,b3,c3⟩:=reps_app h2
 obtain ⟨r4,e4,h4⟩:=want_rep c3 (by decide) (w:=[101,108,115,101]) rfl
 have k1:=b1.len
 have k2:=c1.len
 have k3:=b3.len
 have k4:=c3.len
 have k5:=h4.len
 have k6:=h2.len
 simp only [List.length_cons,List.length_append] at k2 k4 k6
 have f3:Fin1 m3:=fin_reps c3 (NK.cons (nk_w _) (show_nk k z 0)) hf
 have f1:Fin1 m1:=fin_reps c1 (NK.cons (nk_w _) ((show_nk k y 0).app (.cons (nk_w _) (show_nk k z 0)))) hf
 have e1:=read_U hx (form:=0) dx b1 (n:=n) (by omega) (by omega) (by omega) (by omega) (stop_rep c1 (by decide) 0) (nounit_rep c1 (by decide)) f1
 have e3:=read_U hy (form:=0) dy b3 (n:=n) (by omega) (by omega) (by omega) (by omega) (stop_rep c3 (by decide) 0) (nounit_rep c3 (by decide)) f3
 have e5:=read_U hz (form:=0) dz h4 (n:=n) (by omega) (by omega) (by omega) (by omega) (stop_0 hs) hno hf
 unfold expS prefP
 rw [if_pos ⟨rfl,by rw [isT_rep h];decide⟩]
 unfold ifP
 rw [e1]
 dsimp only
 rw [e2]
 dsimp only
 rw [e3]
 dsimp only
 rw [e4]
 dsimp only
 rw [e5]
structure BinO (op:Int):Prop where
 fo:formO op=(opE op).form
 id:(opE op).op=op
 lo:1≤(opE op).form
 hi:(opE op).form≤6
 ge:¬ idxP (fun o':Opr=>decide ((opE op).text=o'.text)) oprL<0
 at':opAt (idxP (fun o':Opr=>decide ((opE op).text=o'.text)) oprL)=opE op
 un:(opE op).text≠[99,111,105,110,115]∧(opE op).text≠[100,97,121,115]∧(opE op).text≠[109,105,108,108,101]
theorem binO {op:Int} (h:op=4∨op=5∨op=6∨op=7∨op=10∨op=11∨op=13∨op=14):BinO op:=by
 rcases h with rfl | rfl | rfl | rfl | rfl | rfl | rfl | rfl<;>exact ⟨by decide,by decide,by decide,by decide,by decide,rfl,by decide⟩
theorem opI_rep {op:Int} {l:List Pc} {r r':List Tok} (h:Reps (oP (opE op)::l) r r'):opI r=idxP (fun o':Opr=>decide ((opE op).text=o'.text)) oprL:=by
 unfold opI
 congr 1
 funext o
 rw [isT_rep h,decide_eq_true (nk_o _),Bool.true_and]
 rfl
theorem body_bin {op:Int} (h:op=4∨op=5∨op=6∨op=7∨op=10∨op=11∨op=13∨op=14) (k:Nat) (x y:Exp) :
  bodyW (k+1) (.mk op 0 0 [] [x,y])=showW k x (if (opE op).form=4 then 5 else (opE op).form)++oP (opE op)::showW k y ((opE op).form+1):=by
 rcases h with rfl | rfl | rfl | rfl | rfl | rfl | rfl | rfl
 all_goals
  refine Eq.trans (b:=showW k x (if (opE _).form=4 then 5 else (opE _).form)++[oP (opE _)]++showW k y ((opE _).form+1)) rfl ?_
  rw [List.append_assoc]
  rfl
theorem ue_bin {x y:Exp} (hx:UE x) (hy:UE y) {op:Int} (ho:op=4∨op=5∨op=6∨op=7∨op=10∨op=11∨op=13∨op=14):UE (.mk op 0 0 [] [x,y]):=by
 intro d n form r r' hd h hl hf0 hf1 hs hno hf
 obtain ⟨k,rfl,hk⟩:=levD hd
 have dx:lev x≤k:=by simp only [levs] at hk;omega
 have dy:lev y≤k:=by simp only [levs] at hk;omega
 have B:=binO ho
 have hfo:formO (Exp.mk op 0 0 [] [x,y]).op=(opE op).form:=B.fo
 rw [hfo] at hf1 hs ⊢
 rw [body_bin ho] at h
 have blo:=B.lo
 have bhi:=B.hi
 obtain ⟨m1,h1,h2⟩:=reps_app h
 have l1:=h1.len
 have l2:=h2.len
 simp only [List.length_cons] at l2
 have hi:=opI_rep h2
 have h3:=tail_rep h2
 have ht:=rep_tl h2
 have f1:Fin1 m1:=fin_reps h2 (NK.cons (nk_o _) (show_nk k y _)) hf
 have nx:0<(showW k x (if (opE op).form=4 then 5 else (opE op).form)).length∨True:=.inr trivial
 generalize hla:(if (opE op).form=4 then (5:Int) else (opE op).form)=la at *
 have la1:(opE op).form≤la:=by rw [← hla];split<;>omega
 have la4:(opE op).form=4→la=5:=fun h4=>by rw [← hla,if_pos h4]
 have hst:Stop ((if formO x.op<la then 7 else formO x.op)+1) m1:=by
  refine .inr ?_
  rw [hi,B.at']
  split<;>omega
 rw [show_U hx dx h1 hl hf0 (by omega) hst (nounit_rep h2 B.un) f1]
 obtain ⟨g,hg⟩:∃ g,m1.length=g+1:=⟨m1.length-1,by omega⟩
 have hne:¬ opI m1<0:=by rw [hi];exact B.ge
 have hat:opAt (opI m1)=opE op:=by rw [hi];exact B.at'
 have hc:¬ ((opAt (opI m1)).form<form∨(if formO x.op<la then 7 else formO x.op)<(opAt (opI m1)).form∨(if formO x.op<la then (7:Int) else formO x.op)=4∧(opAt (opI m1)).form=4):=by
  rw [hat]
  split
  ·omega
  ·rintro (h9 | h9 | h9)
   ·omega
   ·omega
   ·have:=la4 h9.2
    omega
 rw [hg,loopP_step hne hc,hat]
 have e2:=read_U hy (form:=(opE op).form+1) dy h3 (n:=n) (by omega) (by omega) (by omega) (by omega) hs hno hf
 rw [e2]
 dsimp only
 rw [B.id]
 exact loopP_fuel (expP_suf n) _ _ _ _ _ hf om0 (Nat.le_refl _)
theorem ue_all {e:Exp} (h:WfE e):UE e:=by
 induction h with
 | num n u h0 h1 hu=>exact ue_num h0 hu
 | boo n h=>exact ue_boo h
 | name op s ho hn hl=>exact ue_name ho hn
 | within op n x ho hn hx ih=>exact ue_within ho hn ih
 | not x hx ih=>exact ue_not ih
 | pair op x y ho hx hy ihx ihy =>
  by_cases h:op=8∨op=9
  ·exact ue_min ihx ihy h
  ·exact ue_bin ihx ihy om0
 | cond x y z hx hy hz ihx ihy ihz=>exact ue_cond ihx ihy ihz
theorem show_back {e:Exp} (hr:rightE e=true) {n:Nat} {r r':List Tok} (h:Reps (showW 12 e 0) r r') (hl:r.length≤n) (hs:Stop 0 r') (hno:NoUnit r') (hf:Fin1 r'):expP n 0 r=.ok (e,r'):=by
 obtain ⟨hw,hd⟩:=(rightE_iff e).1 hr
 exact read_U (ue_all hw) hd h hl om0 om0 om0 hs hno hf
theorem fin_drop:∀ (T1:List Tok) {r':List Tok},Fin1 (T1++r')→r'≠[]→Fin1 r'
 | [],_,h,_=>h
 | t::T1,r',h,hn=>by
  refine fin_drop T1 ?_ hn
  have hne:T1++r'≠[]:=by simp [hn]
  cases hx:T1++r' with
  | nil=>exact (hne hx).elim
  | cons u q =>
   have h:Fin1 (t::(T1++r')):=h
   rw [hx] at h
   exact h.2
theorem fin_fwd {l:List Pc} {r r':List Tok} (h:Reps l r r') (hf:Fin1 r) (hn:r'≠[]):Fin1 r':=by
 obtain ⟨T1,rfl,_⟩:=h
 exact fin_drop T1 hf hn
theorem rep_ne {x:Pc} {l:List Pc} {r r':List Tok} (h:Reps (x::l) r r'):r≠[]:=by
 obtain ⟨t,r1,rfl,_,_,_,_⟩:=reps_cons h
 simp
theorem fin_tail {x:Pc} {y:Pc} {l:List Pc} {r r':List Tok} (h:Reps (x::y::l) r r') (hf:Fin1 r):Fin1 r.tail:=by
 obtain ⟨t,r1,rfl,_,_,_,h1⟩:=reps_cons h
 obtain ⟨u,r2,rfl,_,_,_,_⟩:=reps_cons h1
 exact hf.2
def Rd {α:Type} (p:Ps α) (v:α) (l:List Pc) (r r':List Tok):Prop:=∃ r1,p=.ok (v,r1)∧Reps l r1 r'∧r1.length≤r.length
theorem wantR {w:List UInt8} {x:Pc} {l:List Pc} {r r':List Tok} (h:Reps (x::l) r r') (hk:x.kind≠3) (hw:x.text=w):∃ r1,wantP w r=.ok r1∧Reps l r1 r'∧r1.length+1=r.length:=by
 obtain ⟨r1,h1,h2⟩:=want_rep h hk hw
 refine ⟨r1,h1,h2,?_⟩
 have:=h.len
 have:=h2.len
 simp only [List.length_cons] at *
 omega
theorem numR' {a b n:Int} {l:List Pc} {r r':List Tok} (h:Reps (nP n::l) r r') (hn:a≤n∧n≤b):∃ r1,numP a b r=.ok (n,r1)∧Reps l r1 r'∧r1.length+1=r.length:=by
 obtain ⟨r1,h1,h2⟩:=num_rep h hn
 refine ⟨r1,h1,h2,?_⟩
 have:=h.len
 have:=h2.len
 simp only [List.length_cons] at *
 omega
theorem part_rep {w:List UInt8} {a b n:Int} {l:List Pc} {r r':List Tok} (h:Reps (wP w::nP n::sP [59]::l) r r') (hn:a≤n∧n≤b):∃ r1,partP w a b r=.ok (n,r1)∧Reps l r1 r':=by
 obtain ⟨r1,e1,h1,_⟩:=wantR h (nk_w _) rfl
 obtain ⟨r2,e2,h2,_⟩:=numR' h1 hn
 obtain ⟨r3,e3,h3,_⟩:=wantR h2 (nk_s _) rfl
 refine ⟨r3,?_,h3⟩
 unfold partP
 have e1:wantP w r=.ok r1:=e1
 have e3:wantP [59] r2=.ok r3:=e3
 rw [e1]
 dsimp only
 rw [e2]
 dsimp only
 rw [e3]
theorem maybe_rep {w:List UInt8} {a n0 n:Int} {l:List Pc} {r r':List Tok} (h:Reps (wP w::nP n::sP [59]::l) r r') (hn:0≤n∧n≤a):∃ r1,maybeP w a n0 r=.ok (n,r1)∧Reps l r1 r':=by
 unfold maybeP
 rw [if_pos (by rw [isT_rep h];simp [wP])]
 exact part_rep h hn
theorem maybe_no {w:List UInt8} {a n0:Int} {x:Pc} {l:List Pc} {r r':List Tok} (h:Reps (x::l) r r') (hx:x.text≠w):maybeP w a n0 r=.ok (n0,r):=by
 unfold maybeP
 rw [if_neg (by rw [isT_rep h,decide_eq_false hx,Bool.and_false];decide)]
def dayP (n:Int):List Pc:=[nP (partY n),sP [45],nP (partM n),sP [45],nP (partD n)]
theorem part_bnd {n:Int} (h0:0≤n) (h1:n≤200000):(0≤partY n∧partY n≤1000000000000000)∧(0≤partM n∧partM n≤1000000000000000)∧0≤partD n∧partD n≤1000000000000000:=by
 obtain ⟨a,b,c,d,e,f⟩:=parts_bounds h0 h1
 omega
theorem date_rep {least n:Int} {l:List Pc} {r r':List Tok} (h0:0≤n) (h1:n≤200000) (hl:least<n) (h:Reps (dayP n++l) r r'):∃ r1,dateP least r=.ok (n,r1)∧Reps l r1 r':=by
 obtain ⟨by1,by2,by3⟩:=part_bnd h0 h1
 have h:Reps (nP (partY n)::sP [45]::nP (partM n)::sP [45]::nP (partD n)::l) r r':=h
 obtain ⟨r1,e1,h1',_⟩:=numR' h by1
 obtain ⟨r2,e2,h2,_⟩:=wantR h1' (nk_s _) rfl
 obtain ⟨r3,e3,h3,_⟩:=numR' h2 by2
 obtain ⟨r4,e4,h4,_⟩:=wantR h3 (nk_s _) rfl
 obtain ⟨t,r5,rfl,k1,_,k3,h5⟩:=reps_cons h4
 have k1:t.kind=1:=k1
 have k3:t.n=partD n:=k3
 refine ⟨r5,?_,h5⟩
 have e2:wantP [45] r1=.ok r2:=e2
 have e4:wantP [45] r3=.ok (t::r5):=e4
 unfold dateP
 rw [e1]
 dsimp only
 rw [e2]
 dsimp only
 rw [e3]
 dsimp only
 rw [e4]
 dsimp only
 show (if t.kind≠1 then _ else if (dayOf (partY n) (partM n) t.n).2≠0 then _ else if least<(dayOf (partY n) (partM n) t.n).1 then (Except.ok ((dayOf (partY n) (partM n) t.n).1,r5):Ps Int) else _)=_
 rw [if_neg (by rw [k1];simp),k3,day_parts h0 h1]
 rw [if_neg (by simp),if_pos hl]
theorem whole_rep {x:Pc} {e:Exp} (hr:rightE e=true) {l:List Pc} {r r':List Tok} (h:Reps (showW 12 e 0++x::l) r r') (hk:x.kind≠3) (ho:∀ o∈oprL,x.text≠o.text) (hu:x.text≠[99,111,105,110,115]∧x.text≠[100,97,121,115]∧x.text≠[109,105,108,108,101]) (hf:Fin1 r) :
  ∃ r1,wholeP x.text r=.ok (e,r1)∧Reps l r1 r':=by
 obtain ⟨m,h1,h2⟩:=reps_app h
 have e1:=show_back hr h1 (Nat.le_refl _) (stop_rep h2 ho 0) (nounit_rep h2 hu) (fin_fwd h1 hf (rep_ne h2))
 refine ⟨m.tail,?_,tail_rep h2⟩
 unfold wholeP
 rw [e1]
 dsimp only
 have hi:=isT_rep (w:=x.text) h2
 rw [decide_eq_true hk,decide_eq_true rfl] at hi
 rw [hi,if_neg (by decide),if_pos (by have:=((rightE_iff e).1 hr).2;omega)]
theorem one_cnt {i:Int} (h0:0≤i) (h2:i≤2) {l:List Pc} {r r':List Tok} (h:Reps (wP [99,111,117,110,116]::wP (cntW.getD i.toNat [])::sP [59]::l) r r'):∃ r1,oneP [99,111,117,110,116] cntW r=.ok (i,r1)∧Reps l r1 r':=by
 obtain ⟨r1,e1,h1,_⟩:=wantR h (nk_w _) rfl
 obtain ⟨r3,e3,h3,_⟩:=wantR (tail_rep h1) (nk_s _) rfl
 refine ⟨r3,?_,h3⟩
 have e1:wantP [99,111,117,110,116] r=.ok r1:=e1
 have e3:wantP [59] r1.tail=.ok r3:=e3
 have hx:idxP (fun w=>isT w r1) cntW=i:=by
  have:(fun w=>isT w r1)=fun w=>decide (cntW.getD i.toNat []=w):=by
   funext w
   rw [isT_rep h1,decide_eq_true (nk_w _),Bool.true_and]
   rfl
  rw [this]
  have hi:i=0∨i=1∨i=2:=by omega
  rcases hi with rfl | rfl | rfl<;>decide
 unfold oneP
 rw [e1]
 dsimp only
 rw [hx,if_neg (by omega),e3]
theorem one_adj {i:Int} (h0:0≤i) (h2:i≤3) {l:List Pc} {r r':List Tok} (h:Reps (wP [97,100,106,117,115,116]::wP (adjW.getD i.toNat [])::sP [59]::l) r r'):∃ r1,oneP [97,100,106,117,115,116] adjW r=.ok (i,r1)∧Reps l r1 r':=by
 obtain ⟨r1,e1,h1,_⟩:=wantR h (nk_w _) rfl
 obtain ⟨r3,e3,h3,_⟩:=wantR (tail_rep h1) (nk_s _) rfl
 refine ⟨r3,?_,h3⟩
 have e1:wantP [97,100,106,117,115,116] r=.ok r1:=e1
 have e3:wantP [59] r1.tail=.ok r3:=e3
 have hx:idxP (fun w=>isT w r1) adjW=i:=by
  have:(fun w=>isT w r1)=fun w=>decide (adjW.getD i.toNat []=w):=by
   funext w
   rw [isT_rep h1,decide_eq_true (nk_w _),Bool.true_and]
   rfl
  rw [this]
  have hi:i=0∨i=1∨i=2∨i=3:=by omega
  rcases hi with rfl | rfl | rfl | rfl<;>decide
 unfold oneP
 rw [e1]
 dsimp only
 rw [hx,if_neg (by omega),e3]
theorem fresh_rep {names:List (List UInt8)} {s:List UInt8} {l:List Pc} {r r':List Tok} (h:Reps (wP s::l) r r') (hn:nameB s=true) (hm:¬ s∈names):∃ r1,freshP names r=.ok (s,r1)∧Reps l r1 r':=by
 obtain ⟨t,r1,rfl,k1,k2,k3,h1⟩:=reps_cons h
 have k1:t.kind=0:=k1
 have k2:t.text=s:=k2
 refine ⟨r1,?_,h1⟩
 unfold freshP namedB
 show (if (decide (t.kind=0)&&nameB t.text)=false then _ else if t.text∈names then _ else (Except.ok (t.text,r1):Ps (List UInt8)))=_
 rw [k1,k2,hn,if_neg (by simp),if_neg hm]
def letP (x:LetE):List Pc:=wP [108,101,116]::wP x.name::sP [61]::(showW 12 x.body 0++[sP [59]])
def covP (c:Cov):List Pc:=wP [99,111,118,101,110,97,110,116]::wP c.name::wP [109,117,115,116]::(showW 12 c.must 0++[wP [103,114,97,99,101],nP c.grace,sP [59]])
def callP (c:CallE):List Pc:=wP [99,97,108,108]::(dayP c.a++[wP [97,116],nP c.b,sP [59]])
theorem lets_rep {x:Pc} {l:List Pc} {r':List Tok} (hx:x.text≠[108,101,116]):∀ (ls:List LetE) (f:Nat) (acc:List LetE) (r:List Tok),Reps (ls.flatMap letP++x::l) r r'→r.length≤f→Fin1 r→(∀ a∈ls,nameB a.name=true∧rightE a.body=true)→((acc++ls).map LetE.name).Nodup→(acc++ls).length≤20 →
  ∃ r1,letsP f acc r=.ok (acc++ls,r1)∧Reps (x::l) r1 r'
 | [],f,acc,r,h,hl,hf,_,_,_=>by
  have h:Reps (x::l) r r':=h
  refine ⟨r,?_,h⟩
  obtain ⟨g,rfl⟩:∃ g,f=g+1:=⟨f-1,by have:=List.length_pos_iff.2 (rep_ne h);omega⟩
  rw [letsP,if_pos (by rw [isT_rep h,decide_eq_false hx,Bool.and_false]),List.append_nil]
 | a::ls,f,acc,r,h,hl,hf,ha,hnd,hlen=>by
  have h:Reps (wP [108,101,116]::wP a.name::sP [61]::(showW 12 a.body 0++sP [59]::(ls.flatMap letP++x::l))) r r':=by
   simpa [letP] using h
  obtain ⟨g,rfl⟩:∃ g,f=g+1:=⟨f-1,by have:=List.length_pos_iff.2 (rep_ne h);omega⟩
  obtain ⟨hn,hr⟩:=ha a (by simp)
  have hm:¬ a.name∈acc.map LetE.name:=by
   intro hm
   rw [List.map_append,List.nodup_append] at hnd
   exact hnd.2.2 _ hm _ (by simp) rfl
  have h1:=tail_rep h
  have f1:=fin_tail h hf
  obtain ⟨r1,e1,h2⟩:=fresh_rep h1 hn hm
  have f2:Fin1 r1:=(freshP_suf e1).2 f1
  obtain ⟨r2,e2,h3,_⟩:=wantR h2 (nk_s _) rfl
  have e2:wantP [61] r1=.ok r2:=e2
  have f3:Fin1 r2:=(wantP_suf e2).2 f2
  obtain ⟨r3,e3,h4⟩:=whole_rep hr h3 (nk_s _) (by decide) (by decide) f3
  have e3:wholeP [59] r2=.ok (a.body,r3):=e3
  have f4:Fin1 r3:=(wholeP_suf e3).2 f3
  have hl4:r3.length≤g:=by
   have q1:=(freshP_suf e1).le
   have q2:=(wantP_suf e2).le
   have q3:=(wholeP_suf e3).le
   have q4:=tail_lt hf
   omega
  have hap:acc++a::ls=(acc++[a])++ls:=by simp
  obtain ⟨r5,e5,h5⟩:=lets_rep hx ls g (acc++[a]) r3 h4 hl4 f4 (fun b hb=>ha b (by simp [hb])) (by rw [← hap];exact hnd) (by rw [← hap];exact hlen)
  refine ⟨r5,?_,h5⟩
  have hlt:(acc.length:Int)<20:=by
   rw [List.length_append,List.length_cons] at hlen
   omega
  rw [letsP,if_neg (by rw [isT_rep h];decide),if_neg (by omega),e1]
  dsimp only
  rw [e2]
  dsimp only
  rw [e3]
  dsimp only
  rw [hap]
  exact e5
theorem covs_rep {x:Pc} {l:List Pc} {r':List Tok} (hx:x.text≠[99,111,118,101,110,97,110,116]):∀ (ls:List Cov) (f:Nat) (acc:List Cov) (r:List Tok),Reps (ls.flatMap covP++x::l) r r'→r.length≤f→Fin1 r→(∀ a∈ls,nameB a.name=true∧rightE a.must=true∧0≤a.grace∧a.grace≤1000)→((acc++ls).map Cov.name).Nodup→(acc++ls).length≤20 →
  ∃ r1,covsP f acc r=.ok (acc++ls,r1)∧Reps (x::l) r1 r'
 | [],f,acc,r,h,hl,hf,_,_,_=>by
  have h:Reps (x::l) r r':=h
  refine ⟨r,?_,h⟩
  obtain ⟨g,rfl⟩:∃ g,f=g+1:=⟨f-1,by have:=List.length_pos_iff.2 (rep_ne h);omega⟩
  rw [covsP,if_pos (by rw [isT_rep h,decide_eq_false hx,Bool.and_false]),List.append_nil]
 | a::ls,f,acc,r,h,hl,hf,ha,hnd,hlen=>by
  have h:Reps (wP [99,111,118,101,110,97,110,116]::wP a.name::wP [109,117,115,116]::(showW 12 a.must 0++wP [103,114,97,99,101]::nP a.grace::sP [59]::(ls.flatMap covP++x::l))) r r':=by
   simpa [covP] using h
  obtain ⟨g,rfl⟩:∃ g,f=g+1:=⟨f-1,by have:=List.length_pos_iff.2 (rep_ne h);omega⟩
  obtain ⟨hn,hr,hg⟩:=ha a (by simp)
  have hm:¬ a.name∈acc.map Cov.name:=by
   intro hm
   rw [List.map_append,List.nodup_append] at hnd
   exact hnd.2.2 _ hm _ (by simp) rfl
  have h1:=tail_rep h
  have f1:=fin_tail h hf
  obtain ⟨r1,e1,h2⟩:=fresh_rep h1 hn hm
  have f2:Fin1 r1:=(freshP_suf e1).2 f1
  obtain ⟨r2,e2,h3,_⟩:=wantR h2 (nk_w _) rfl
  have e2:wantP [109,117,115,116] r1=.ok r2:=e2
  have f3:Fin1 r2:=(wantP_suf e2).2 f2
  obtain ⟨r3,e3,h4⟩:=whole_rep hr h3 (nk_w _) (by decide) (by decide) f3
  have e3:wholeP [103,114,97,99,101] r2=.ok (a.must,r3):=e3
  have f4:Fin1 r3:=(wholeP_suf e3).2 f3
  obtain ⟨r4,e4,h5,_⟩:=numR' h4 hg
  have f5:Fin1 r4:=(numP_suf e4).1.2 f4
  obtain ⟨r6,e6,h6,_⟩:=wantR h5 (nk_s _) rfl
  have e6:wantP [59] r4=.ok r6:=e6
  have f6:Fin1 r6:=(wantP_suf e6).2 f5
  have hl4:r6.length≤g:=by
   have q1:=(freshP_suf e1).le
   have q2:=(wantP_suf e2).le
   have q3:=(wholeP_suf e3).le
   have q4:=tail_lt hf
   have q5:=(numP_suf e4).1.le
   have q6:=(wantP_suf e6).le
   omega
  have hap:acc++a::ls=(acc++[a])++ls:=by simp
  obtain ⟨r9,e9,h9⟩:=covs_rep hx ls g (acc++[a]) r6 h6 hl4 f6 (fun b hb=>ha b (by simp [hb])) (by rw [← hap];exact hnd) (by rw [← hap];exact hlen)
  refine ⟨r9,?_,h9⟩
  have hlt:(acc.length:Int)<20:=by
   rw [List.length_append,List.length_cons] at hlen
   omega
  rw [covsP,if_neg (by rw [isT_rep h];decide),if_neg (by omega),e1]
  dsimp only
  rw [e2]
  dsimp only
  rw [e3]
  dsimp only
  rw [e4]
  dsimp only
  rw [e6]
  dsimp only
  rw [hap]
  exact e9
theorem calls_rep {x:Pc} {l:List Pc} {r':List Tok} (hx:x.text≠[99,97,108,108]):∀ (ls:List CallE) (f:Nat) (acc:List CallE) (r:List Tok),Reps (ls.flatMap callP++x::l) r r'→r.length≤f→Fin1 r→(∀ a∈ls,(0≤a.a∧a.a≤200000)∧0≤a.b∧a.b≤10000)→(acc++ls).length≤20 →
  ∃ r1,callsP f acc r=.ok (acc++ls,r1)∧Reps (x::l) r1 r'
 | [],f,acc,r,h,hl,hf,_,_=>by
  have h:Reps (x::l) r r':=h
  refine ⟨r,?_,h⟩
  obtain ⟨g,rfl⟩:∃ g,f=g+1:=⟨f-1,by have:=List.length_pos_iff.2 (rep_ne h);omega⟩
  rw [callsP,if_pos (by rw [isT_rep h,decide_eq_false hx,Bool.and_false]),List.append_nil]
 | a::ls,f,acc,r,h,hl,hf,ha,hlen=>by
  have h:Reps (wP [99,97,108,108]::(dayP a.a++wP [97,116]::nP a.b::sP [59]::(ls.flatMap callP++x::l))) r r':=by
   simpa [callP] using h
  obtain ⟨g,rfl⟩:∃ g,f=g+1:=⟨f-1,by have:=List.length_pos_iff.2 (rep_ne h);omega⟩
  obtain ⟨hd,hb⟩:=ha a (by simp)
  have h1:=tail_rep h
  have f1:Fin1 r.tail:=hf.tail (by
   obtain ⟨t,q,rfl,k1,_,_,_⟩:=reps_cons h
   show t.kind≠3
   rw [k1]
   exact nk_w _)
  obtain ⟨r1,e1,h2⟩:=date_rep (least:=-1) hd.1 hd.2 (by omega) h1
  have f2:Fin1 r1:=(dateP_suf e1).2 f1
  obtain ⟨r2,e2,h3,_⟩:=wantR h2 (nk_w _) rfl
  have e2:wantP [97,116] r1=.ok r2:=e2
  have f3:Fin1 r2:=(wantP_suf e2).2 f2
  obtain ⟨r4,e4,h5,_⟩:=numR' h3 hb
  have f5:Fin1 r4:=(numP_suf e4).1.2 f3
  obtain ⟨r6,e6,h6,_⟩:=wantR h5 (nk_s _) rfl
  have e6:wantP [59] r4=.ok r6:=e6
  have f6:Fin1 r6:=(wantP_suf e6).2 f5
  have hl4:r6.length≤g:=by
   have q1:=(dateP_suf e1).le
   have q2:=(wantP_suf e2).le
   have q4:=tail_lt hf
   have q5:=(numP_suf e4).1.le
   have q6:=(wantP_suf e6).le
   omega
  have hap:acc++a::ls=(acc++[a])++ls:=by simp
  obtain ⟨r9,e9,h9⟩:=calls_rep hx ls g (acc++[a]) r6 h6 hl4 f6 (fun b hb=>ha b (by simp [hb])) (by rw [← hap];exact hlen)
  refine ⟨r9,?_,h9⟩
  have hlt:(acc.length:Int)<20:=by
   rw [List.length_append,List.length_cons] at hlen
   omega
  rw [callsP,if_neg (by rw [isT_rep h];decide),if_neg (by omega),e1]
  dsimp only
  rw [e2]
  dsimp only
  rw [e4]
  dsimp only
  rw [e6]
  dsimp only
  rw [hap]
  exact e9
theorem favL_rep {l:List Pc} {r':List Tok}:∀ (ns:List (List UInt8)) (f:Nat) (acc:List (List UInt8)) (r:List Tok),Reps (ns.map wP++sP [59]::l) r r'→r.length≤f→Fin1 r→(acc≠[]∨ns≠[])→(∀ s∈ns,nameB s=true)→(acc++ns).Nodup→(acc++ns).length≤20 →
  ∃ r1,favL f acc r=.ok (acc++ns,r1)∧Reps (sP [59]::l) r1 r'
 | [],f,acc,r,h,hl,hf,hne,_,_,_=>by
  have h:Reps (sP [59]::l) r r':=h
  refine ⟨r,?_,h⟩
  obtain ⟨g,rfl⟩:∃ g,f=g+1:=⟨f-1,by have:=List.length_pos_iff.2 (rep_ne h);omega⟩
  have h0:acc≠[]:=hne.resolve_right (fun x=>x rfl)
  have h1:=List.length_pos_iff.2 h0
  rw [favL,if_neg (by rw [isT_rep h];rintro (h9 | h9);omega;exact absurd h9 (by decide)),List.append_nil]
 | s::ns,f,acc,r,h,hl,hf,_,ha,hnd,hlen=>by
  have h:Reps (wP s::(ns.map wP++sP [59]::l)) r r':=h
  obtain ⟨g,rfl⟩:∃ g,f=g+1:=⟨f-1,by have:=List.length_pos_iff.2 (rep_ne h);omega⟩
  have hn:=ha s (by simp)
  have hm:¬ s∈acc:=by
   intro hm
   rw [List.nodup_append] at hnd
   exact hnd.2.2 _ hm _ (by simp) rfl
  obtain ⟨r1,e1,h2⟩:=fresh_rep h hn hm
  have f2:Fin1 r1:=(freshP_suf e1).2 hf
  have hl4:r1.length≤g:=by
   have q1:=h.len
   have q2:=h2.len
   simp only [List.length_cons] at q1
   omega
  have hap:acc++s::ns=(acc++[s])++ns:=by simp
  obtain ⟨r9,e9,h9⟩:=favL_rep ns g (acc++[s]) r1 h2 hl4 f2 (.inl (by simp)) (fun b hb=>ha b (by simp [hb])) (by rw [← hap];exact hnd) (by rw [← hap];exact hlen)
  refine ⟨r9,?_,h9⟩
  have hlt:(acc.length:Int)<20:=by
   rw [List.length_append,List.length_cons] at hlen
   omega
  have hnb:namedB r=true:=by
   obtain ⟨t,q,rfl,k1,k2,_,_⟩:=reps_cons h
   have k1:t.kind=0:=k1
   have k2:t.text=s:=k2
   show (decide (t.kind=0)&&nameB t.text)=true
   rw [k1,k2,hn]
   rfl
  have h59:isT [59] r=false:=by rw [isT_rep h,decide_eq_false (show ¬ (wP s).text=[59] from word_first hn 59 (by decide)),Bool.and_false]
  rw [favL_go (.inr h59) hnb hlt,e1]
  dsimp only
  rw [hap]
  exact e9
def favPc (l:List (List UInt8)):List Pc:=if 0<l.length then wP [102,97,118,111,117,114]::(l.map wP++[sP [59]]) else []
theorem fav_rep {x:Pc} {l:List Pc} {r r':List Tok} (hx:x.text≠[102,97,118,111,117,114]) {ns:List (List UInt8)} (h:Reps (favPc ns++x::l) r r') (hf:Fin1 r) (ha:∀ s∈ns,nameB s=true) (hnd:ns.Nodup) (hlen:ns.length≤20) :
  ∃ r1,favP r=.ok (ns,r1)∧Reps (x::l) r1 r':=by
 unfold favPc at h
 by_cases h0:0<ns.length
 ·rw [if_pos h0] at h
  have h:Reps (wP [102,97,118,111,117,114]::(ns.map wP++sP [59]::x::l)) r r':=by simpa using h
  have h1:=tail_rep h
  have f1:Fin1 r.tail:=hf.tail (by
   obtain ⟨t,q,rfl,k1,_,_,_⟩:=reps_cons h
   show t.kind≠3
   rw [k1]
   exact nk_w _)
  obtain ⟨r1,e1,h2⟩:=favL_rep ns r.tail.length [] r.tail h1 (Nat.le_refl _) f1 (.inr (List.length_pos_iff.1 h0)) ha hnd hlen
  obtain ⟨r2,e2,h3,_⟩:=wantR h2 (nk_s _) rfl
  have e2:wantP [59] r1=.ok r2:=e2
  refine ⟨r2,?_,h3⟩
  unfold favP
  rw [if_neg (by rw [isT_rep h];decide),e1]
  dsimp only
  rw [e2]
  rfl
 ·rw [if_neg h0] at h
  have h:Reps (x::l) r r':=h
  refine ⟨r,?_,h⟩
  unfold favP
  rw [if_pos (by rw [isT_rep h,decide_eq_false hx,Bool.and_false])]
  have:ns=[]:=List.length_eq_zero_iff.1 (by omega)
  rw [this]
def croPc (x:Ind):List Pc:=if 0≤x.cross then [wP [99,114,111,115,115],nP x.cross,sP [59]] else []
def notPc (x:Ind):List Pc:=if 0<x.notice then [wP [110,111,116,105,99,101],nP x.notice,sP [59]] else []
def sinPc (x:Ind):List Pc:=if 0<x.sink then [wP [115,105,110,107],nP x.sink,sP [59]] else []
def HN (w:List UInt8) (l:List Pc):Prop:=∃ y k,l=y::k∧y.text≠w
theorem HN.cons {w:List UInt8} {y:Pc} {k:List Pc} (h:y.text≠w):HN w (y::k):=⟨y,k,rfl,h⟩
theorem hn_opt {w:List UInt8} {a b:List Pc} (ha:a=[]∨HN w a) (hb:HN w b):HN w (a++b):=by
 rcases ha with rfl | ⟨y,k,rfl,h⟩
 ·exact hb
 ·exact ⟨y,k++b,rfl,h⟩
theorem maybe_opt {w:List UInt8} {a n0 n:Int} {o l:List Pc} {r r':List Tok} (h:Reps (o++l) r r') (ho:(o=[wP w,nP n,sP [59]]∧0≤n∧n≤a)∨(o=[]∧n=n0)) (hl:HN w l):∃ r1,maybeP w a n0 r=.ok (n,r1)∧Reps l r1 r':=by
 rcases ho with ⟨rfl,hn⟩ | ⟨rfl,rfl⟩
 ·exact maybe_rep h hn
 ·obtain ⟨y,k,rfl,hy⟩:=hl
  exact ⟨r,maybe_no h hy,h⟩
def tailPc (x:Ind):List Pc:=[wP [109,97,106,111,114,105,116,121],nP x.majority,sP [59],wP [102,97,115,116],nP x.fast,sP [59],endP]
def indPc (x:Ind):List Pc :=
 wP [105,115,115,117,101]::wP x.name::wP [111,102]::wP x.issuer::sP [59]::wP [102,97,99,101]::nP x.face::sP [59] ::
 wP [102,114,111,109]::(dayP x.frm++wP [116,111]::(dayP x.to++wP [101,118,101,114,121]::nP x.every::wP [109,111,110,116,104,115]::sP [59] ::
 wP [99,111,117,110,116]::wP (cntW.getD x.count.toNat [])::sP [59]::wP [97,100,106,117,115,116]::wP (adjW.getD x.adjust.toNat [])::sP [59] ::
 wP [114,101,99,111,114,100]::nP x.record::sP [59]::wP [114,97,110,107]::nP x.rank::sP [59] ::
 (x.lets.flatMap letP++wP [99,111,117,112,111,110]::(showW 12 x.coupon 0++sP [59]::wP [99,97,112]::nP x.cap::sP [59] ::
 (x.cov.flatMap covP++(favPc x.favour++(croPc x++(x.calls.flatMap callP++(notPc x++(sinPc x++tailPc x)))))))) ))
theorem call_hd (ls:List CallE) {w:List UInt8} (hw:[99,97,108,108]≠w):ls.flatMap callP=[]∨HN w (ls.flatMap callP):=by
 cases ls with
 | nil=>exact .inl rfl
 | cons a ls=>exact .inr ⟨wP [99,97,108,108],_,rfl,hw⟩
theorem gd_kw {s:List UInt8} (h:s∈resW):GoodP (wP s):=good_kw h
theorem gd_sg {s:List UInt8} (h:s∈signs):GoodP (sP s):=good_sign h
theorem show_good {e:Exp} {d:Nat} (h:GoodL (bodyW d e)) (least:Int):GoodL (showW d e least):=parW_good h
theorem body_good {e:Exp} (h:WfE e):∀ d:Nat,GoodL (bodyW d e):=by
 induction h with
 | num n u h0 h1 hu =>
  intro d
  cases d with
  | zero=>exact .nil
  | succ d =>
   have hn:GoodP (nP n):=good_num h0 h1
   show GoodL (numW n u)
   unfold numW
   rw [if_neg (by omega)]
   split
   ·exact .cons hn (.cons (gd_kw dd0) .nil)
   split
   ·exact .cons hn (.cons (gd_kw dd0) .nil)
   split
   ·exact .cons hn (.cons (gd_kw dd0) .nil)
   ·exact .cons hn .nil
 | boo n h =>
  intro d
  cases d with
  | zero=>exact .nil
  | succ d =>
   rcases h with rfl | rfl
   ·exact .cons (gd_kw dd0) .nil
   ·exact .cons (gd_kw dd0) .nil
 | name op s ho hn hl =>
  intro d
  cases d with
  | zero=>exact .nil
  | succ d =>
   have hg:GoodP (wP s):=good_name hn
   rcases ho with rfl | rfl | rfl
   ·exact .cons hg .nil
   ·exact .cons (gd_kw dd0) (.cons hg .nil)
   ·exact .cons (gd_kw dd0) (.cons hg .nil)
 | within op n x ho hn hx ih =>
  intro d
  cases d with
  | zero=>exact .nil
  | succ d =>
   have hn:GoodP (nP n):=good_num (by omega) (by omega)
   have hs:=show_good (ih d) 0
   rcases ho with rfl | rfl | rfl
   ·exact ((GoodL.cons (gd_kw dd0) (.cons hn (.cons (gd_sg dd0) .nil))).app hs).app (.cons (gd_sg dd0) .nil)
   ·exact ((GoodL.cons (gd_kw dd0) (.cons hn (.cons (gd_sg dd0) .nil))).app hs).app (.cons (gd_sg dd0) .nil)
   ·exact ((GoodL.cons (gd_kw dd0) (.cons hn (.cons (gd_sg dd0) .nil))).app hs).app (.cons (gd_sg dd0) .nil)
 | not x hx ih =>
  intro d
  cases d with
  | zero=>exact .nil
  | succ d=>exact (GoodL.cons (gd_kw (by decide)) .nil).app (show_good (ih d) 3)
 | pair op x y ho hx hy ihx ihy =>
  intro d
  cases d with
  | zero=>exact .nil
  | succ d =>
   by_cases h:op=8∨op=9
   ·have sx:=show_good (ihx d) 0
    have sy:=show_good (ihy d) 0
    rcases h with rfl | rfl
    ·exact ((((GoodL.cons (gd_kw dd0) (.cons (gd_sg dd0) .nil)).app sx).app (.cons (gd_sg dd0) .nil)).app sy).app (.cons (gd_sg dd0) .nil)
    ·exact ((((GoodL.cons (gd_kw dd0) (.cons (gd_sg dd0) .nil)).app sx).app (.cons (gd_sg dd0) .nil)).app sy).app (.cons (gd_sg dd0) .nil)
   ·have hb:op=4∨op=5∨op=6∨op=7∨op=10∨op=11∨op=13∨op=14:=by omega
    rw [body_bin hb]
    have hN:opsN op=2:=by rcases hb with rfl | rfl | rfl | rfl | rfl | rfl | rfl | rfl<;>rfl
    exact (show_good (ihx d) _).app (.cons (good_opr hN om0 om0) (show_good (ihy d) _))
 | cond x y z hx hy hz ihx ihy ihz =>
  intro d
  cases d with
  | zero=>exact .nil
  | succ d=>exact (((((GoodL.cons (gd_kw (by decide)) .nil).app (show_good (ihx d) 0)).app (.cons (gd_kw (by decide)) .nil)).app (show_good (ihy d) 0)).app (.cons (gd_kw (by decide)) .nil)).app (show_good (ihz d) 0)
theorem exp_good {e:Exp} (h:rightE e=true):GoodL (showW 12 e 0):=show_good (body_good ((rightE_iff e).1 h).1 12) 0
def itemsL (l:List Pc):List (Pc×List UInt8):=l.map (fun x=>(x,[32]))++[(sP [59],[10])]
theorem lay_app:∀ (a b:List (Pc×List UInt8)),lay (a++b)=lay a++lay b
 | [],_=>rfl
 | x::a,b=>by
  rw [List.cons_append,lay,lay,lay_app a b,List.append_assoc,List.append_assoc]
theorem lay_map:∀ {l:List Pc},l≠[]→lay (l.map fun x=>(x,[32]))=joinP l++[32]
 | [],h=>(h rfl).elim
 | [x],_=>by simp [lay,joinP]
 | x::y::l,_=>by
  rw [joinP_cons x (by simp),List.map_cons,lay,lay_map (by simp)]
  simp
theorem lay_items {l:List Pc} (h:l≠[]):lay (itemsL l)=joinP l++[32,59,10]:=by
 unfold itemsL
 rw [lay_app,lay_map h]
 simp [lay,sP]
theorem items_ok {l:List Pc} (h:GoodL l):∀ x∈itemsL l,GoodP x.1∧Blk x.2∧x.2≠[]:=by
 intro x hx
 unfold itemsL at hx
 have b32:Blk [32]:=fun c hc=>by rw [List.mem_singleton.1 hc];decide
 have b10:Blk [10]:=fun c hc=>by rw [List.mem_singleton.1 hc];decide
 rcases List.mem_append.1 hx with hx | hx
 ·obtain ⟨y,hy,rfl⟩:=List.mem_map.1 hx
  exact ⟨h y hy,b32,by simp⟩
 ·rw [List.mem_singleton.1 hx]
  exact ⟨gd_sg (by decide),b10,by simp⟩
def letL (x:LetE):List Pc:=wP [108,101,116]::wP x.name::sP [61]::showW 12 x.body 0
def covL (c:Cov):List Pc:=wP [99,111,118,101,110,97,110,116]::wP c.name::wP [109,117,115,116]::(showW 12 c.must 0++[wP [103,114,97,99,101],nP c.grace])
def callL (c:CallE):List Pc:=wP [99,97,108,108]::(dayP c.a++[wP [97,116],nP c.b])
def headL (x:Ind):List (List Pc):=[[wP [105,115,115,117,101],wP x.name,wP [111,102],wP x.issuer],[wP [102,97,99,101],nP x.face],
 wP [102,114,111,109]::(dayP x.frm++wP [116,111]::(dayP x.to++[wP [101,118,101,114,121],nP x.every,wP [109,111,110,116,104,115]])),
 [wP [99,111,117,110,116],wP (cntW.getD x.count.toNat [])],[wP [97,100,106,117,115,116],wP (adjW.getD x.adjust.toNat [])],[wP [114,101,99,111,114,100],nP x.record],[wP [114,97,110,107],nP x.rank]]
def midL (x:Ind):List (List Pc):=[wP [99,111,117,112,111,110]::showW 12 x.coupon 0,[wP [99,97,112],nP x.cap]]
def favLn (x:Ind):List (List Pc):=if 0<x.favour.length then [wP [102,97,118,111,117,114]::x.favour.map wP] else []
def croLn (x:Ind):List (List Pc):=if 0≤x.cross then [[wP [99,114,111,115,115],nP x.cross]] else []
def notLn (x:Ind):List (List Pc):=if 0<x.notice then [[wP [110,111,116,105,99,101],nP x.notice]] else []
def sinLn (x:Ind):List (List Pc):=if 0<x.sink then [[wP [115,105,110,107],nP x.sink]] else []
def endL (x:Ind):List (List Pc):=[[wP [109,97,106,111,114,105,116,121],nP x.majority],[wP [102,97,115,116],nP x.fast]]
def linesP (x:Ind):List (List Pc):=headL x++x.lets.map letL++midL x++x.cov.map covL++favLn x++croLn x++x.calls.map callL++notLn x++sinLn x++endL x
def LineEq (ws:List (List UInt8)) (l:List Pc):Prop:=lineT ws=lay (itemsL l)
theorem line_eq {ws:List (List UInt8)} {l:List Pc} (hl:l≠[]) (h:Lib.join ws [32]=joinP l):LineEq ws l:=by
 unfold LineEq lineT
 rw [lay_items hl,h]
theorem day_text (n:Int):joinP (dayP n)=dayT n:=by simp [joinP,dayP,dayT,nP,sP]
theorem let_eq {x:LetE} (h:rightE x.body=true):LineEq (letW x) (letL x):=by
 obtain ⟨t,ne⟩:=show_text (d:=12) h 0
 refine line_eq (by simp [letL]) ?_
 unfold letL
 rw [joinP_cons _ (by simp),joinP_cons _ (by simp),joinP_cons _ ne,t]
 simp [letW,Lib.join,wP,sP]
theorem cov_eq {c:Cov} (h:rightE c.must=true):LineEq (covW c) (covL c):=by
 obtain ⟨t,ne⟩:=show_text (d:=12) h 0
 refine line_eq (by simp [covL]) ?_
 unfold covL
 rw [joinP_cons _ (by simp),joinP_cons _ (by simp),joinP_cons _ (by simp),joinP_app ne (by simp),t]
 simp [covW,Lib.join,joinP,wP,nP]
theorem call_eq (c:CallE):LineEq (callW c) (callL c):=by
 refine line_eq (by simp [callL]) ?_
 unfold callL
 rw [joinP_cons _ (by simp),joinP_app (by simp [dayP]) (by simp),day_text]
 simp [callW,Lib.join,joinP,wP,nP]
inductive Fa2 {α β:Type} (R:α→β→Prop):List α→List β→Prop
 | nil:Fa2 R [] []
 | cons {a:α} {b:β} {l:List α} {m:List β} (h:R a b) (t:Fa2 R l m):Fa2 R (a::l) (b::m)
theorem lines_eq {x:Ind} (R:Rt x):txt (linesW x)=lay ((linesP x).flatMap itemsL):=by
 have key:∀ {A:List (List (List UInt8))} {B:List (List Pc)},Fa2 LineEq A B→txt A=lay (B.flatMap itemsL):=by
  intro A B h
  induction h with
  | nil=>rfl
  | cons h _ ih =>
   rw [List.flatMap_cons,lay_app,← ih,← h]
   simp [txt]
 have app:∀ {A A':List (List (List UInt8))} {B B':List (List Pc)},Fa2 LineEq A B→Fa2 LineEq A' B'→Fa2 LineEq (A++A') (B++B'):=by
  intro A A' B B' h h'
  induction h with
  | nil=>exact h'
  | cons h _ ih=>exact .cons h ih
 have mp:∀ {α:Type} {f:α→List (List UInt8)} {g:α→List Pc} (l:List α),(∀ a∈l,LineEq (f a) (g a))→Fa2 LineEq (l.map f) (l.map g):=by
  intro α f g l
  induction l with
  | nil=>intro _;exact .nil
  | cons a l ih=>intro h;exact .cons (h a (by simp)) (ih fun b hb=>h b (by simp [hb]))
 have two:∀ (s:List UInt8) (n:Int),LineEq [s,Lib.itoa n] [wP s,nP n]:=fun s n=>line_eq (by simp) (by simp [Lib.join,joinP,wP,nP])
 have wo:∀ (s t:List UInt8),LineEq [s,t] [wP s,wP t]:=fun s t=>line_eq (by simp) (by simp [Lib.join,joinP,wP])
 refine key ?_
 unfold linesW linesP
 refine app (app (app (app (app (app (app (app (app ?_ (mp _ fun a ha=>let_eq (R.lets a ha))) ?_) (mp _ fun a ha=>cov_eq (R.cov a ha).1)) ?_) ?_) (mp _ fun a _=>call_eq a)) ?_) ?_) ?_
 ·unfold headW headL
  refine .cons (line_eq (by simp) (by simp [Lib.join,joinP,wP])) (.cons (two _ _) (.cons ?_ (.cons (wo _ _) (.cons (wo _ _) (.cons (two _ _) (.cons (two _ _) .nil))))))
  refine line_eq (by simp) ?_
  rw [joinP_cons _ (by simp [dayP]),joinP_app (by simp [dayP]) (by simp),joinP_cons _ (by simp [dayP]),joinP_app (by simp [dayP]) (by simp),day_text,day_text]
  simp [Lib.join,joinP,wP,nP]
 ·obtain ⟨t,ne⟩:=show_text (d:=12) R.coupon 0
  unfold midW midL
  refine .cons (line_eq (by simp) ?_) (.cons (two _ _) .nil)
  rw [joinP_cons _ ne,t]
  simp [Lib.join,wP]
 ·unfold favW favLn
  split
  ·refine .cons (line_eq (by simp) ?_) .nil
   have:∀ l:List (List UInt8),Lib.joinTail [32] l=(l.map wP).flatMap fun y=>32::y.text:=by
    intro l
    induction l with
    | nil=>rfl
    | cons a l ih=>rw [List.map_cons,List.flatMap_cons,← ih];simp [Lib.joinTail,wP]
   rw [Lib.join_cons,this]
   rfl
  ·exact .nil
 ·unfold croW croLn
  split
  ·exact .cons (two _ _) .nil
  ·exact .nil
 ·unfold notW notLn
  split
  ·exact .cons (two _ _) .nil
  ·exact .nil
 ·unfold sinW sinLn
  split
  ·exact .cons (two _ _) .nil
  ·exact .nil
 ·exact .cons (two _ _) (.cons (two _ _) .nil)
theorem items_fst (L:List (List Pc)):(L.flatMap itemsL).map Prod.fst=L.flatMap fun l=>l++[sP [59]]:=by
 induction L with
 | nil=>rfl
 | cons l L ih =>
  rw [List.flatMap_cons,List.flatMap_cons,List.map_append,ih]
  congr 1
  unfold itemsL
  rw [List.map_append,List.map_map]
  have:(Prod.fst ∘ fun x:Pc=>(x,([32]:List UInt8)))=id:=rfl
  rw [this,List.map_id]
  rfl
theorem day_good {n:Int} (h0:0≤n) (h1:n≤200000):GoodL (dayP n):=by
 obtain ⟨a,b,c⟩:=part_bnd h0 h1
 have ga:GoodP (nP (partY n)):=good_num a.1 a.2
 have gb:GoodP (nP (partM n)):=good_num b.1 b.2
 have gc:GoodP (nP (partD n)):=good_num c.1 c.2
 exact .cons ga (.cons (gd_sg dd0) (.cons gb (.cons (gd_sg dd0) (.cons gc .nil))))
theorem lines_good {x:Ind} (R:Rt x):∀ l∈linesP x,GoodL l:=by
 have gn:∀ {n:Int} (b:Int),0≤n∧n≤b→b≤1000000000000000→GoodP (nP n):=fun b h hb=>good_num h.1 (by omega)
 have gnm:∀ {s:List UInt8},nameB s=true→GoodP (wP s):=fun h=>good_name h
 have two:∀ {s:List UInt8} {n:Int} (b:Int),s∈resW→0≤n∧n≤b→b≤1000000000000000→GoodL [wP s,nP n]:=fun b hs h hb=>.cons (gd_kw hs) (.cons (gn b h hb) .nil)
 have hcnt:GoodP (wP (cntW.getD x.count.toNat [])):=by
  have h:=R.count
  have hi:x.count=0∨x.count=1∨x.count=2:=by omega
  rcases hi with e | e | e<;>rw [e]<;>exact gd_kw (by decide)
 have hadj:GoodP (wP (adjW.getD x.adjust.toNat [])):=by
  have h:=R.adjust
  have hi:x.adjust=0∨x.adjust=1∨x.adjust=2∨x.adjust=3:=by omega
  rcases hi with e | e | e | e<;>rw [e]<;>exact gd_kw (by decide)
 have ul:=(uniq_iff _ _).1 R.ulets
 have uc:=(uniq_iff _ _).1 R.ucov
 have uf:=(uniq_iff _ _).1 R.fav
 intro l hl
 unfold linesP at hl
 simp only [List.mem_append] at hl
 rcases hl with ((((((((hl | hl) | hl) | hl) | hl) | hl) | hl) | hl) | hl) | hl
 ·unfold headL at hl
  simp only [List.mem_cons,List.not_mem_nil,or_false] at hl
  rcases hl with rfl | rfl | rfl | rfl | rfl | rfl | rfl
  ·exact .cons (gd_kw dd0) (.cons (gnm R.name) (.cons (gd_kw dd0) (.cons (gnm R.issuer) .nil)))
  ·exact two _ dd0 ⟨by have:=R.face;omega,R.face.2⟩ om0
  ·exact .cons (gd_kw dd0) ((day_good R.frm.1 R.frm.2).app (.cons (gd_kw dd0) ((day_good R.to.1 R.to.2).app (.cons (gd_kw dd0) (.cons (gn 120 ⟨by have:=R.every;omega,R.every.2⟩ om0) (.cons (gd_kw dd0) .nil))))))
  ·exact .cons (gd_kw dd0) (.cons hcnt .nil)
  ·exact .cons (gd_kw dd0) (.cons hadj .nil)
  ·exact two _ dd0 R.record om0
  ·exact two _ dd0 R.rank om0
 ·obtain ⟨a,ha,rfl⟩:=List.mem_map.1 hl
  exact .cons (gd_kw dd0) (.cons (gnm (ul.1 _ (List.mem_map_of_mem ha))) (.cons (gd_sg dd0) (exp_good (R.lets a ha))))
 ·unfold midL at hl
  simp only [List.mem_cons,List.not_mem_nil,or_false] at hl
  rcases hl with rfl | rfl
  ·exact .cons (gd_kw dd0) (exp_good R.coupon)
  ·exact two _ dd0 R.cap om0
 ·obtain ⟨a,ha,rfl⟩:=List.mem_map.1 hl
  obtain ⟨h1,h2⟩:=R.cov a ha
  exact .cons (gd_kw dd0) (.cons (gnm (uc.1 _ (List.mem_map_of_mem ha))) (.cons (gd_kw dd0) ((exp_good h1).app (.cons (gd_kw dd0) (.cons (gn 1000 h2 om0) .nil)))))
 ·unfold favLn at hl
  split at hl
  ·rw [List.mem_singleton.1 hl]
   refine .cons (gd_kw dd0) fun y hy=>?_
   obtain ⟨s,hs,rfl⟩:=List.mem_map.1 hy
   exact gnm (uf.1 s hs)
  ·cases hl
 ·unfold croLn at hl
  split at hl
  ·rename_i h
   rw [List.mem_singleton.1 hl]
   exact two _ dd0 ⟨h,R.cross.2⟩ om0
  ·cases hl
 ·obtain ⟨a,ha,rfl⟩:=List.mem_map.1 hl
  obtain ⟨h1,h2⟩:=R.calls a ha
  exact .cons (gd_kw dd0) ((day_good h1.1 h1.2).app (.cons (gd_kw dd0) (.cons (gn 10000 h2 om0) .nil)))
 ·unfold notLn at hl
  split at hl
  ·rw [List.mem_singleton.1 hl]
   exact two _ dd0 R.notice om0
  ·cases hl
 ·unfold sinLn at hl
  split at hl
  ·rw [List.mem_singleton.1 hl]
   exact two _ dd0 R.sink om0
  ·cases hl
 ·unfold endL at hl
  simp only [List.mem_cons,List.not_mem_nil,or_false] at hl
  rcases hl with rfl | rfl
  ·exact two _ dd0 ⟨by have:=R.majority;omega,R.majority.2⟩ om0
  ·exact two _ dd0 ⟨by have:=R.fast;omega,R.fast.2⟩ om0
def indPc2 (x:Ind) (no si:List Pc):List Pc :=
 wP [105,115,115,117,101]::wP x.name::wP [111,102]::wP x.issuer::sP [59]::wP [102,97,99,101]::nP x.face::sP [59] ::
 wP [102,114,111,109]::(dayP x.frm++wP [116,111]::(dayP x.to++wP [101,118,101,114,121]::nP x.every::wP [109,111,110,116,104,115]::sP [59] ::
 wP [99,111,117,110,116]::wP (cntW.getD x.count.toNat [])::sP [59]::wP [97,100,106,117,115,116]::wP (adjW.getD x.adjust.toNat [])::sP [59] ::
 wP [114,101,99,111,114,100]::nP x.record::sP [59]::wP [114,97,110,107]::nP x.rank::sP [59] ::
 (x.lets.flatMap letP++wP [99,111,117,112,111,110]::(showW 12 x.coupon 0++sP [59]::wP [99,97,112]::nP x.cap::sP [59] ::
 (x.cov.flatMap covP++(favPc x.favour++(croPc x++(x.calls.flatMap callP++(no++(si++tailPc x)))))))) ))
theorem ind_rep2 {x:Ind} (R:Rt x) {no si:List Pc} (hno:(no=[wP [110,111,116,105,99,101],nP x.notice,sP [59]]∧0≤x.notice∧x.notice≤1000)∨(no=[]∧x.notice=0)) (hsi:(si=[wP [115,105,110,107],nP x.sink,sP [59]]∧0≤x.sink∧x.sink≤1000)∨(si=[]∧x.sink=0)) {r:List Tok} (h:Reps (indPc2 x no si) r []) (hf:Fin1 r):∃ r1,indP r=.ok (x,r1):=by
 obtain ⟨ul1,ul2,ul3⟩:=(uniq_iff _ _).1 R.ulets
 obtain ⟨uc1,uc2,uc3⟩:=(uniq_iff _ _).1 R.ucov
 obtain ⟨uf1,uf2,uf3⟩:=(uniq_iff _ _).1 R.fav
 rw [List.length_map] at ul3 uc3
 have hN:∀ {w v:List UInt8} {n:Int},∀ {k:List Pc},v≠w→HN w (wP v::k):=fun h=>.cons h
 have t6:∀ {w:List UInt8},[109,97,106,111,114,105,116,121]≠w→HN w (tailPc x):=fun h=>.cons h
 have t5:∀ {w:List UInt8},[115,105,110,107]≠w→[109,97,106,111,114,105,116,121]≠w→HN w (si++tailPc x):=fun h h'=>hn_opt (hsi.elim (fun q=>.inr (q.1 ▸ .cons h)) fun q=>.inl q.1) (t6 h')
 have t4:∀ {w:List UInt8},[110,111,116,105,99,101]≠w→[115,105,110,107]≠w→[109,97,106,111,114,105,116,121]≠w→HN w (no++(si++tailPc x)):=fun h0 h h'=>hn_opt (hno.elim (fun q=>.inr (q.1 ▸ .cons h0)) fun q=>.inl q.1) (t5 h h')
 have t3:∀ {w:List UInt8},[99,97,108,108]≠w→[110,111,116,105,99,101]≠w→[115,105,110,107]≠w→[109,97,106,111,114,105,116,121]≠w→HN w (x.calls.flatMap callP++(no++(si++tailPc x))):=fun h1 h0 h h'=>hn_opt (call_hd _ h1) (t4 h0 h h')
 have t2:∀ {w:List UInt8},[99,114,111,115,115]≠w→[99,97,108,108]≠w→[110,111,116,105,99,101]≠w→[115,105,110,107]≠w→[109,97,106,111,114,105,116,121]≠w→HN w (croPc x++(x.calls.flatMap callP++(no++(si++tailPc x)))):=fun h2 h1 h0 h h'=>hn_opt (by unfold croPc;split;exact .inr (.cons h2);exact .inl rfl) (t3 h1 h0 h h')
 have t1:∀ {w:List UInt8},[102,97,118,111,117,114]≠w→[99,114,111,115,115]≠w→[99,97,108,108]≠w→[110,111,116,105,99,101]≠w→[115,105,110,107]≠w→[109,97,106,111,114,105,116,121]≠w→HN w (favPc x.favour++(croPc x++(x.calls.flatMap callP++(no++(si++tailPc x))))):=fun h3 h2 h1 h0 h h'=>hn_opt (by unfold favPc;split;exact .inr (.cons h3);exact .inl rfl) (t2 h2 h1 h0 h h')
 unfold indPc2 at h
 have h0:=h
 have f0:=hf
 obtain ⟨r1,e1,h1,_⟩:=wantR h0 (nk_w _) rfl
 have e1:wantP [105,115,115,117,101] r=.ok r1:=e1
 have f1:Fin1 r1:=(wantP_suf e1).2 f0
 obtain ⟨r2,e2,h2⟩:=name_rep h1 R.name
 have e2:nameP r1=.ok (x.name,r2):=e2
 have f2:Fin1 r2:=(nameP_suf e2).2 f1
 obtain ⟨r3,e3,h3,_⟩:=wantR h2 (nk_w _) rfl
 have e3:wantP [111,102] r2=.ok r3:=e3
 have f3:Fin1 r3:=(wantP_suf e3).2 f2
 obtain ⟨r4,e4,h4⟩:=name_rep h3 R.issuer
 have e4:nameP r3=.ok (x.issuer,r4):=e4
 have f4:Fin1 r4:=(nameP_suf e4).2 f3
 obtain ⟨r5,e5,h5,_⟩:=wantR h4 (nk_s _) rfl
 have e5:wantP [59] r4=.ok r5:=e5
 have f5:Fin1 r5:=(wantP_suf e5).2 f4
 obtain ⟨r6,e6,h6⟩:=part_rep h5 R.face
 have e6:partP [102,97,99,101] 1 1000000000000000 r5=.ok (x.face,r6):=e6
 have f6:Fin1 r6:=(partP_suf e6).2 f5
 obtain ⟨r7,e7,h7,_⟩:=wantR h6 (nk_w _) rfl
 have e7:wantP [102,114,111,109] r6=.ok r7:=e7
 have f7:Fin1 r7:=(wantP_suf e7).2 f6
 obtain ⟨r8,e8,h8⟩:=date_rep (least:=-1) R.frm.1 R.frm.2 (by have:=R.frm.1;omega) h7
 have e8:dateP (-1) r7=.ok (x.frm,r8):=e8
 have f8:Fin1 r8:=(dateP_suf e8).2 f7
 obtain ⟨r9,e9,h9,_⟩:=wantR h8 (nk_w _) rfl
 have e9:wantP [116,111] r8=.ok r9:=e9
 have f9:Fin1 r9:=(wantP_suf e9).2 f8
 obtain ⟨r10,e10,h10⟩:=date_rep R.to.1 R.to.2 R.before h9
 have e10:dateP x.frm r9=.ok (x.to,r10):=e10
 have f10:Fin1 r10:=(dateP_suf e10).2 f9
 obtain ⟨r11,e11,h11,_⟩:=wantR h10 (nk_w _) rfl
 have e11:wantP [101,118,101,114,121] r10=.ok r11:=e11
 have f11:Fin1 r11:=(wantP_suf e11).2 f10
 obtain ⟨r12,e12,h12⟩:=num_rep h11 R.every
 have e12:numP 1 120 r11=.ok (x.every,r12):=e12
 have f12:Fin1 r12:=((numP_suf e12).1).2 f11
 obtain ⟨r13,e13,h13,_⟩:=wantR h12 (nk_w _) rfl
 have e13:wantP [109,111,110,116,104,115] r12=.ok r13:=e13
 have f13:Fin1 r13:=(wantP_suf e13).2 f12
 obtain ⟨r14,e14,h14,_⟩:=wantR h13 (nk_s _) rfl
 have e14:wantP [59] r13=.ok r14:=e14
 have f14:Fin1 r14:=(wantP_suf e14).2 f13
 obtain ⟨r15,e15,h15⟩:=one_cnt R.count.1 R.count.2 h14
 have e15:oneP [99,111,117,110,116] cntW r14=.ok (x.count,r15):=e15
 have f15:Fin1 r15:=(oneP_suf e15).2 f14
 obtain ⟨r16,e16,h16⟩:=one_adj R.adjust.1 R.adjust.2 h15
 have e16:oneP [97,100,106,117,115,116] adjW r15=.ok (x.adjust,r16):=e16
 have f16:Fin1 r16:=(oneP_suf e16).2 f15
 obtain ⟨r17,e17,h17⟩:=part_rep h16 R.record
 have e17:partP [114,101,99,111,114,100] 0 100 r16=.ok (x.record,r17):=e17
 have f17:Fin1 r17:=(partP_suf e17).2 f16
 obtain ⟨r18,e18,h18⟩:=part_rep h17 R.rank
 have e18:partP [114,97,110,107] 0 9 r17=.ok (x.rank,r18):=e18
 have f18:Fin1 r18:=(partP_suf e18).2 f17
 obtain ⟨r19,e19,h19⟩:=lets_rep (x:=wP [99,111,117,112,111,110]) (by decide) x.lets r18.length [] r18 h18 (Nat.le_refl _) f18 (fun a ha=>⟨ul1 _ (List.mem_map_of_mem ha),R.lets a ha⟩) ul2 (by show x.lets.length≤20;omega)
 have e19:letsP r18.length [] r18=.ok (x.lets,r19):=e19
 have f19:Fin1 r19:=(letsP_suf _ e19).2 f18
 obtain ⟨r20,e20,h20,_⟩:=wantR h19 (nk_w _) rfl
 have e20:wantP [99,111,117,112,111,110] r19=.ok r20:=e20
 have f20:Fin1 r20:=(wantP_suf e20).2 f19
 obtain ⟨r21,e21,h21⟩:=whole_rep R.coupon h20 (nk_s _) (by decide) (by decide) f20
 have e21:wholeP [59] r20=.ok (x.coupon,r21):=e21
 have f21:Fin1 r21:=(wholeP_suf e21).2 f20
 obtain ⟨r22,e22,h22⟩:=part_rep h21 R.cap
 have e22:partP [99,97,112] 0 10000 r21=.ok (x.cap,r22):=e22
 have f22:Fin1 r22:=(partP_suf e22).2 f21
 obtain ⟨y23,k23,q23,w23⟩:=t1 (w:=[99,111,118,101,110,97,110,116]) (by decide) (by decide) (by decide) (by decide) (by decide) (by decide)
 rw [q23] at h22
 obtain ⟨r23,e23,h23⟩:=covs_rep w23 x.cov r22.length [] r22 h22 (Nat.le_refl _) f22 (fun a ha=>⟨uc1 _ (List.mem_map_of_mem ha),R.cov a ha⟩) uc2 (by show x.cov.length≤20;omega)
 have e23:covsP r22.length [] r22=.ok (x.cov,r23):=e23
 have f23:Fin1 r23:=(covsP_suf _ e23).2 f22
 rw [← q23] at h23
 obtain ⟨y24,k24,q24,w24⟩:=t2 (w:=[102,97,118,111,117,114]) (by decide) (by decide) (by decide) (by decide) (by decide)
 rw [q24] at h23
 obtain ⟨r24,e24,h24⟩:=fav_rep w24 h23 f23 uf1 uf2 (by omega)
 have e24:favP r23=.ok (x.favour,r24):=e24
 have f24:Fin1 r24:=(favP_suf e24).2 f23
 rw [← q24] at h24
 obtain ⟨r25,e25,h25⟩:=maybe_opt h24 (n0:=-1) (n:=x.cross) (a:=1000000000000000) (by unfold croPc;have:=R.cross;split;exact .inl ⟨rfl,by omega,by omega⟩;exact .inr ⟨rfl,by omega⟩) (t3 (by decide) (by decide) (by decide) (by decide))
 have e25:maybeP [99,114,111,115,115] 1000000000000000 (-1) r24=.ok (x.cross,r25):=e25
 have f25:Fin1 r25:=(maybeP_suf e25).2 f24
 obtain ⟨y26,k26,q26,w26⟩:=t4 (w:=[99,97,108,108]) (by decide) (by decide) (by decide)
 rw [q26] at h25
 obtain ⟨r26,e26,h26⟩:=calls_rep w26 x.calls r25.length [] r25 h25 (Nat.le_refl _) f25 R.calls R.ncalls
 have e26:callsP r25.length [] r25=.ok (x.calls,r26):=e26
 have f26:Fin1 r26:=(callsP_suf _ e26).2 f25
 rw [← q26] at h26
 obtain ⟨r27,e27,h27⟩:=maybe_opt h26 (n0:=0) (n:=x.notice) (a:=1000) hno (t5 (by decide) (by decide))
 have e27:maybeP [110,111,116,105,99,101] 1000 0 r26=.ok (x.notice,r27):=e27
 have f27:Fin1 r27:=(maybeP_suf e27).2 f26
 obtain ⟨r28,e28,h28⟩:=maybe_opt h27 (n0:=0) (n:=x.sink) (a:=1000) hsi (t6 (by decide))
 have e28:maybeP [115,105,110,107] 1000 0 r27=.ok (x.sink,r28):=e28
 have f28:Fin1 r28:=(maybeP_suf e28).2 f27
 obtain ⟨r29,e29,h29⟩:=part_rep h28 R.majority
 have e29:partP [109,97,106,111,114,105,116,121] 1 1000 r28=.ok (x.majority,r29):=e29
 have f29:Fin1 r29:=(partP_suf e29).2 f28
 obtain ⟨r30,e30,h30⟩:=part_rep h29 R.fast
 have e30:partP [102,97,115,116] 1 1000 r29=.ok (x.fast,r30):=e30
 have f30:Fin1 r30:=(partP_suf e30).2 f29
 obtain ⟨t,q,rfl,k1,_,_,_⟩:=reps_cons h30
 refine ⟨t::q,?_⟩
 have hk:(hdT (t::q)).kind=3:=k1
 simp only [indP,wantsP,e1,e2,e3,e4,e5,e6,e7,e8,e9,e10,e11,e12,e13,e14,e15,e16,e17,e18,e19,e20,e21,e22,e23,e24,e25,e26,e27,e28,e29,e30,ok_bind]
 rw [if_pos hk]
def LayOk2 (l:List (Pc×List UInt8)):Prop:=∀ x∈l,GoodP x.1∧Blk x.2∧(x.2≠[]∨x.1=sP [59])
theorem semi_rd (r:List UInt8):nextR ([59]++r)=.ok ⟨2,[59],0,0⟩:=by
 simp [nextR,letB,digB,hasP,signs,List.find?]
theorem lex_lay2 {s:List UInt8}:∀ (l:List (Pc×List UInt8)) (f p:Nat) (acc:List Tok) (pre:List UInt8),Blk pre→LayOk2 l→s.drop p=pre++lay l→p≤s.length→s.length<p+f →
  ∃ L,lexL s f p acc=.ok (acc++L)∧L.map Tok.pc=l.map Prod.fst++[endP]
 | l,0,p,acc,pre,_,_,_,h1,h2=>by omega
 | [],f+1,p,acc,pre,hb,_,hd,h1,_=>by
  have hs:=skip_pre (r:=[]) hd hb (.inl rfl)
  have hl:s.length-p=pre.length:=by
   have:=congrArg List.length hd
   rw [List.length_drop] at this
   simpa [lay] using this
  refine ⟨[⟨3,[],0,(s.length:Nat)⟩],?_,rfl⟩
  rw [lexL,if_pos (by omega)]
 | x::l,f+1,p,acc,pre,hb,hok,hd,h1,h2=>by
  obtain ⟨hg,hbx,hx⟩:=hok x (by simp)
  have hokl:LayOk2 l:=fun y hy=>hok y (by simp [hy])
  have hne:=hg.ne
  have hnb:blkB (((lay (x::l)).getD 0 0).toNat:Int)=false:=by
   show blkB (((x.1.text++(x.2++lay l)).getD 0 0).toNat:Int)=false
   rw [head_app hne]
   exact hg.nb
  have hs:=skip_pre hd hb (.inr hnb)
  have hlen:s.length-p=pre.length+(x.1.text.length+(x.2++lay l).length):=by
   have:=congrArg List.length hd
   rw [List.length_drop,List.length_append] at this
   rw [this]
   show _+(x.1.text++(x.2++lay l)).length=_
   rw [List.length_append]
  have htl:0<x.1.text.length:=List.length_pos_iff.2 hne
  have hd1:s.drop (skipN s p)=x.1.text++(x.2++lay l):=by
   rw [hs,← List.drop_drop,hd,List.drop_left]
   rfl
  have hn:nextR (x.1.text++(x.2++lay l))=.ok ⟨x.1.kind,x.1.text,x.1.n,0⟩:=by
   rcases hx with hx | hx
   ·exact hg.rd _ (blk_sep hbx hx)
   ·rw [hx]
    exact semi_rd _
  have hd2:s.drop (skipN s p+x.1.text.length)=x.2++lay l:=by
   rw [← List.drop_drop,hd1,List.drop_left]
  obtain ⟨L,hL,hm⟩:=lex_lay2 l f (skipN s p+x.1.text.length) (acc++[⟨x.1.kind,x.1.text,x.1.n,(skipN s p:Nat)⟩]) x.2 hbx hokl hd2 (by omega) (by omega)
  refine ⟨⟨x.1.kind,x.1.text,x.1.n,(skipN s p:Nat)⟩::L,?_,?_⟩
  ·rw [lexL,if_neg (by omega),hd1,hn]
   dsimp only
   rw [hL,List.append_assoc]
   rfl
  ·rw [List.map_cons,hm]
   rfl
theorem lexR_lay2 {l:List (Pc×List UInt8)} (hok:LayOk2 l) (hl:(lay l).length≤4000):∃ T,lexR (lay l)=.ok T∧T.map Tok.pc=l.map Prod.fst++[endP]:=by
 obtain ⟨L,h1,h2⟩:=lex_lay2 (s:=lay l) l ((lay l).length+1) 0 [] [] (fun c hc=>by cases hc) hok rfl (Nat.zero_le _) (by omega)
 refine ⟨L,?_,h2⟩
 unfold lexR
 rw [if_neg (by omega),h1]
 rfl
def preW (x:Ind):List (List (List UInt8)):=headW x++x.lets.map letW++midW x++x.cov.map covW++favW x++croW x++x.calls.map callW
def preP (x:Ind):List (List Pc):=headL x++x.lets.map letL++midL x++x.cov.map covL++favLn x++croLn x++x.calls.map callL
def noteI:List (Pc×List UInt8):=[(wP [110,111,116,105,99,101],[32]),(nP 0,[32]),(sP [59],[32]),(wP [115,105,110,107],[32]),(nP 0,[32]),(sP [59],[])]
def noteT:List UInt8:=[110,111,116,105,99,101,32,48,32,59,32,115,105,110,107,32,48,32,59]
theorem itoa_0:Lib.itoa 0=[48]:=by decide +kernel
theorem note_lay:lay noteI=noteT:=by
 simp [noteI,lay,noteT,wP,nP,sP,itoa_0]
theorem note_ok:LayOk2 noteI:=by
 have b32:Blk [32]:=fun c hc=>by rw [List.mem_singleton.1 hc];decide
 have g0:GoodP (nP 0):=good_num (by decide) (by decide)
 intro x hx
 simp only [noteI,List.mem_cons,List.not_mem_nil,or_false] at hx
 rcases hx with rfl | rfl | rfl | rfl | rfl | rfl
 ·exact ⟨gd_kw (by decide),b32,.inl (by simp)⟩
 ·exact ⟨g0,b32,.inl (by simp)⟩
 ·exact ⟨gd_sg (by decide),b32,.inl (by simp)⟩
 ·exact ⟨gd_kw (by decide),b32,.inl (by simp)⟩
 ·exact ⟨g0,b32,.inl (by simp)⟩
 ·exact ⟨gd_sg dd0,(fun c hc=>by cases hc),.inr rfl⟩
theorem end_lay (x:Ind):txt (endW x)=lay ((endL x).flatMap itemsL):=by
 have two:∀ (s:List UInt8) (n:Int),lineT [s,Lib.itoa n]=lay (itemsL [wP s,nP n]):=fun s n=>line_eq (by simp) (by simp [Lib.join,joinP,wP,nP])
 unfold endW endL txt
 simp only [List.map_cons,List.map_nil,List.flatten_cons,List.flatten_nil,List.flatMap_cons,List.flatMap_nil,lay_app,two]
 rfl
theorem linesW_pre {z:Ind} (h0:z.notice=0) (h1:z.sink=0):linesW z=preW z++endW z:=by
 unfold linesW notW sinW preW
 rw [h0,h1]
 simp
theorem linesP_pre {z:Ind} (h0:z.notice=0) (h1:z.sink=0):linesP z=preP z++endL z:=by
 unfold linesP notLn sinLn preP
 rw [h0,h1]
 simp
theorem pre_lay {z:Ind} (R:Rt z) (h0:z.notice=0) (h1:z.sink=0):txt (preW z)=lay ((preP z).flatMap itemsL):=by
 have h:=lines_eq R
 rw [linesW_pre h0 h1,linesP_pre h0 h1,txt_app,List.flatMap_append,lay_app,← end_lay] at h
 exact List.append_cancel_right h
theorem layOk2_of {L:List (List Pc)} (h:∀ l∈L,GoodL l):LayOk2 (L.flatMap itemsL):=by
 intro x hx
 obtain ⟨l,hl,hx⟩:=List.mem_flatMap.1 hx
 obtain ⟨a,b,c⟩:=items_ok (h l hl) x hx
 exact ⟨a,b,.inl c⟩
theorem pieces_note {z:Ind} (h0:z.notice=0) (h1:z.sink=0):((preP z).flatMap itemsL++noteI++(endL z).flatMap itemsL).map Prod.fst++[endP]=indPc2 z [wP [110,111,116,105,99,101],nP z.notice,sP [59]] [wP [115,105,110,107],nP z.sink,sP [59]]:=by
 rw [List.map_append,List.map_append,items_fst,items_fst]
 have e1:(z.lets.map letL).flatMap (fun l=>l++[sP [59]])=z.lets.flatMap letP:=by
  rw [List.flatMap_map]
  congr 1
 have e2:(z.cov.map covL).flatMap (fun l=>l++[sP [59]])=z.cov.flatMap covP:=by
  rw [List.flatMap_map]
  congr 1
  funext c
  simp [covL,covP]
 have e3:(z.calls.map callL).flatMap (fun l=>l++[sP [59]])=z.calls.flatMap callP:=by
  rw [List.flatMap_map]
  congr 1
 have e4:(favLn z).flatMap (fun l=>l++[sP [59]])=favPc z.favour:=by
  unfold favLn favPc
  split<;>simp
 have e5:(croLn z).flatMap (fun l=>l++[sP [59]])=croPc z:=by
  unfold croLn croPc
  split<;>simp
 unfold preP
 simp only [List.flatMap_append,e1,e2,e3,e4,e5]
 rw [h0,h1]
 unfold indPc2 tailPc headL midL endL noteI
 simp
theorem parse_note {z:Ind} (R:Rt z) (h0:z.notice=0) (h1:z.sink=0) (hl:(txt (preW z)++noteT++txt (endW z)).length≤4000):parseR (txt (preW z)++noteT++txt (endW z))=.ok z:=by
 have e:txt (preW z)++noteT++txt (endW z)=lay ((preP z).flatMap itemsL++noteI++(endL z).flatMap itemsL):=by
  rw [lay_app,lay_app,pre_lay R h0 h1,note_lay,end_lay]
 rw [e] at hl ⊢
 have hg:=lines_good R
 rw [linesP_pre h0 h1] at hg
 have hok:LayOk2 ((preP z).flatMap itemsL++noteI++(endL z).flatMap itemsL):=by
  intro x hx
  rcases List.mem_append.1 hx with hx | hx
  ·rcases List.mem_append.1 hx with hx | hx
   ·exact layOk2_of (fun l hl=>hg l (List.mem_append_left _ hl)) x hx
   ·exact note_ok x hx
  ·exact layOk2_of (fun l hl=>hg l (List.mem_append_right _ hl)) x hx
 obtain ⟨T,e1,hT⟩:=lexR_lay2 hok hl
 rw [pieces_note h0 h1] at hT
 have h:Reps (indPc2 z [wP [110,111,116,105,99,101],nP z.notice,sP [59]] [wP [115,105,110,107],nP z.sink,sP [59]]) T []:=⟨T,by simp,hT⟩
 obtain ⟨r1,e2⟩:=ind_rep2 R (.inl ⟨rfl,R.notice⟩) (.inl ⟨rfl,R.sink⟩) h (lexR_ok e1).fin
 unfold parseR
 rw [e1]
 dsimp only
 rw [e2]
def cutL {α:Type} (l:List α) (k:Nat):List α:=l.take k++l.drop (k+1)
theorem cutL_sub {α:Type} (l:List α) (k:Nat):(cutL l k).Sublist l:=by
 have h:(l.take k++l.drop (k+1)).Sublist (l.take k++l.drop k):=List.Sublist.append_left (by rw [← List.drop_drop];exact List.drop_sublist _ _) _
 rwa [List.take_append_drop] at h
theorem split_at {α:Type} (l:List α) {k:Nat} (hk:k<l.length) (d:α):l=l.take k++l.getD k d::l.drop (k+1):=by
 rw [List.getD_eq_getElem?_getD,List.getElem?_eq_getElem hk,Option.getD_some,← List.drop_eq_getElem_cons hk,List.take_append_drop]
theorem uniq_sub {l m:List (List UInt8)} (h:l.Sublist m) {b:Int} (hu:uniqB m b=true):uniqB l b=true:=by
 obtain ⟨a1,a2,a3⟩:=(uniq_iff _ _).1 hu
 refine (uniq_iff _ _).2 ⟨fun s hs=>a1 s (h.subset hs),a2.sublist h,?_⟩
 have:=h.length_le
 omega
abbrev lessL (x:Ind) (k:Nat):Ind:={ x with lets:=cutL x.lets k }
abbrev lessC (x:Ind) (k:Nat):Ind:={ x with cov:=cutL x.cov k }
abbrev lessK (x:Ind) (k:Nat):Ind:={ x with calls:=cutL x.calls k }
abbrev noteZ (x:Ind):Ind:={ x with notice:=0,sink:=0 }
theorem rt_lets {x:Ind} (R:Rt x) (k:Nat):Rt (lessL x k) :=
 ⟨R.frm,R.to,R.before,R.face,R.every,R.count,R.adjust,R.record,R.rank,R.cap,R.cross,R.notice,R.sink,R.majority,R.fast,R.name,R.issuer,R.ncalls,R.fav,uniq_sub ((cutL_sub _ _).map _) R.ulets,R.ucov,R.coupon,fun l hl=>R.lets l ((cutL_sub _ _).subset hl),R.cov,R.calls⟩
theorem rt_cov {x:Ind} (R:Rt x) (k:Nat):Rt (lessC x k) :=
 ⟨R.frm,R.to,R.before,R.face,R.every,R.count,R.adjust,R.record,R.rank,R.cap,R.cross,R.notice,R.sink,R.majority,R.fast,R.name,R.issuer,R.ncalls,R.fav,R.ulets,uniq_sub ((cutL_sub _ _).map _) R.ucov,R.coupon,R.lets,fun l hl=>R.cov l ((cutL_sub _ _).subset hl),R.calls⟩
theorem rt_calls {x:Ind} (R:Rt x) (k:Nat):Rt (lessK x k) :=
 ⟨R.frm,R.to,R.before,R.face,R.every,R.count,R.adjust,R.record,R.rank,R.cap,R.cross,R.notice,R.sink,R.majority,R.fast,R.name,R.issuer,Nat.le_trans (cutL_sub _ _).length_le R.ncalls,R.fav,R.ulets,R.ucov,R.coupon,R.lets,R.cov,fun l hl=>R.calls l ((cutL_sub _ _).subset hl)⟩
theorem rt_note {x:Ind} (R:Rt x):Rt (noteZ x) :=
 ⟨R.frm,R.to,R.before,R.face,R.every,R.count,R.adjust,R.record,R.rank,R.cap,R.cross,⟨Int.le_refl 0,by show (0:Int)≤1000;omega⟩,⟨Int.le_refl 0,by show (0:Int)≤1000;omega⟩,R.majority,R.fast,R.name,R.issuer,R.ncalls,R.fav,R.ulets,R.ucov,R.coupon,R.lets,R.cov,R.calls⟩
theorem txtL_cons (w:List (List UInt8)) (L:List (List (List UInt8))):txt (w::L)=lineT w++txt L:=by unfold txt;simp
def Lacks (s t line:List UInt8):Prop:=∃ A B,s=A++line++B∧t=A++B
theorem lacks_mid {α:Type} (A B:List (List (List UInt8))) (f:α→List (List UInt8)) (l:List α) {k:Nat} (hk:k<l.length) (d:α):Lacks (txt (A++l.map f++B)) (txt (A++(cutL l k).map f++B)) (lineT (f (l.getD k d))):=by
 refine ⟨txt (A++(l.take k).map f),txt ((l.drop (k+1)).map f++B),?_,?_⟩
 ·conv=>lhs;rw [split_at l hk d]
  simp only [List.map_append,List.map_cons,txt_app,txtL_cons,List.append_assoc]
 ·unfold cutL
  simp only [List.map_append,txt_app,List.append_assoc]
theorem let_lacks {x:Ind} {k:Nat} (hk:k<x.lets.length):Lacks (txt (linesW x)) (txt (linesW (lessL x k))) (lineT (letW (x.lets.getD k l0))):=by
 have h:=lacks_mid (headW x) (midW x++x.cov.map covW++favW x++croW x++x.calls.map callW++notW x++sinW x++endW x) letW x.lets hk l0
 have e1:linesW x=headW x++x.lets.map letW++(midW x++x.cov.map covW++favW x++croW x++x.calls.map callW++notW x++sinW x++endW x):=by unfold linesW;simp only [List.append_assoc]
 have e2:linesW (lessL x k)=headW x++(cutL x.lets k).map letW++(midW x++x.cov.map covW++favW x++croW x++x.calls.map callW++notW x++sinW x++endW x):=by
  show headW x++(cutL x.lets k).map letW++midW x++x.cov.map covW++favW x++croW x++x.calls.map callW++notW x++sinW x++endW x=_
  simp only [List.append_assoc]
 rwa [← e1,← e2] at h
theorem cov_lacks {x:Ind} {k:Nat} (hk:k<x.cov.length):Lacks (txt (linesW x)) (txt (linesW (lessC x k))) (lineT (covW (x.cov.getD k c0))):=by
 have h:=lacks_mid (headW x++x.lets.map letW++midW x) (favW x++croW x++x.calls.map callW++notW x++sinW x++endW x) covW x.cov hk c0
 have e1:linesW x=headW x++x.lets.map letW++midW x++x.cov.map covW++(favW x++croW x++x.calls.map callW++notW x++sinW x++endW x):=by unfold linesW;simp only [List.append_assoc]
 have e2:linesW (lessC x k)=headW x++x.lets.map letW++midW x++(cutL x.cov k).map covW++(favW x++croW x++x.calls.map callW++notW x++sinW x++endW x):=by
  show headW x++x.lets.map letW++midW x++(cutL x.cov k).map covW++favW x++croW x++x.calls.map callW++notW x++sinW x++endW x=_
  simp only [List.append_assoc]
 rwa [← e1,← e2] at h
theorem call_lacks {x:Ind} {k:Nat} (hk:k<x.calls.length):Lacks (txt (linesW x)) (txt (linesW (lessK x k))) (lineT (callW (x.calls.getD k k0))):=by
 have h:=lacks_mid (headW x++x.lets.map letW++midW x++x.cov.map covW++favW x++croW x) (notW x++sinW x++endW x) callW x.calls hk k0
 have e1:linesW x=headW x++x.lets.map letW++midW x++x.cov.map covW++favW x++croW x++x.calls.map callW++(notW x++sinW x++endW x):=by unfold linesW;simp only [List.append_assoc]
 have e2:linesW (lessK x k)=headW x++x.lets.map letW++midW x++x.cov.map covW++favW x++croW x++(cutL x.calls k).map callW++(notW x++sinW x++endW x):=by
  show headW x++x.lets.map letW++midW x++x.cov.map covW++favW x++croW x++(cutL x.calls k).map callW++notW x++sinW x++endW x=_
  simp only [List.append_assoc]
 rwa [← e1,← e2] at h
theorem note_lacks {x:Ind}:Lacks (txt (linesW x)) (txt (preW (noteZ x))++txt (endW x)) (txt (notW x++sinW x)):=by
 refine ⟨txt (preW x),txt (endW x),?_,rfl⟩
 unfold linesW preW
 simp only [txt_app,List.append_assoc]
theorem let_text (l:LetE):lineT (letW l)=[108,101,116,32]++l.name++[32,61,32]++showT 12 l.body 0++[32,59,10]:=by
 simp [lineT,letW,Lib.join]
theorem cov_text (c:Cov):lineT (covW c)=[99,111,118,101,110,97,110,116,32]++c.name++[32,109,117,115,116,32]++showT 12 c.must 0++[32,103,114,97,99,101,32]++Lib.itoa c.grace++[32,59,10]:=by
 simp [lineT,covW,Lib.join]
theorem end_text (x:Ind):txt (endW x)=[109,97,106,111,114,105,116,121,32]++Lib.itoa x.majority++[32,59,10,102,97,115,116,32]++Lib.itoa x.fast++[32,59,10]:=by
 simp [txt,endW,lineT,Lib.join]
theorem Lacks.le {s t line:List UInt8} (h:Lacks s t line):s.length=t.length+line.length:=by
 obtain ⟨A,B,rfl,rfl⟩:=h
 simp only [List.length_append]
 omega
theorem print_rt {x:Ind} (R:Rt x) (hl:(txt (linesW x)).length≤4000):printI x=(txt (linesW x),0):=by
 unfold printI fitsT
 rw [(right_iff x).2 R,if_pos rfl,if_neg (by omega)]
theorem printE_rt {e:Exp} (h:rightE e=true) (hl:(showT 12 e 0).length≤4000):printE e=(showT 12 e 0,0):=by
 unfold printE fitsT
 rw [h,if_pos rfl,if_neg (by omega)]
theorem lacksfn_ok {s t line:List UInt8} (h:Lacks s t line) (hs:s.length≤4000):APureV Tryz.prog 30 [.str s,.str t,.str line] (.bool true):=by
 have hle:=h.le
 obtain ⟨A,B,h1,h2⟩:=h
 have hA:A.length≤t.length:=by rw [h2,List.length_append];omega
 have hfound:t.take A.length++line++t.drop A.length=s:=by rw [h1,h2,List.take_left,List.drop_left]
 refine aO (cxOk 33 [0,1,2,6,7,15,19,32]) Tryz.func30 ?_
 conv=>whnf
 refine iO ?_;conv=>whnf
 rw [decide_eq_true (show (s.length:Int)=(t.length:Int)+(line.length:Int) by omega)]
 refine gF ?_
 conv=>whnf
 refine loop_inv (cxOk _ _) (fun i:Nat=>i≤A.length) (fun i=>A.length-i) (fun i=>⟨[(0,.str s),(1,.str t),(2,.str line),(6,.bool false),(7,.int .i64 (i:Nat))],[],0⟩) 0 (by show 0≤_;omega) (wk_of [] rfl ⟨wa0,wa0,wa0,wa0,wa0,trivial⟩ trivial) ?_
 intro i hi
 have hi:i≤A.length:=hi
 have hek:(i:Int).toNat=i:=Int.toNat_natCast i
 conv=>whnf
 refine ⟨fun hd=>?_,fun hd=>?_⟩
 ·conv=>whnf
  refine .eff ae0 ?_
  conv=>whnf
  refine iO ?_;conv=>whnf
  have l1:(t.take (i:Int).toNat).length≤t.length:=List.length_take_le' _ _
  have l2:(t.drop (i:Int).toNat).length≤t.length:=by rw [List.length_drop];omega
  refine And.intro (show (((t.take (i:Int).toNat).length+line.length:Nat):Int)≤9223372036854775807 by omega) ?_
  conv=>whnf
  refine iO ?_;conv=>whnf
  refine And.intro (show (((t.take (i:Int).toNat++line).length+(t.drop (i:Int).toNat).length:Nat):Int)≤9223372036854775807 by rw [List.length_append];omega) ?_
  conv=>whnf
  refine And.intro rfl ?_;conv=>whnf
  refine ⟨fun he=>?_,fun he=>?_⟩
  ·conv=>whnf
   rfl
  ·have hne:¬ (t.take (i:Int).toNat++line++t.drop (i:Int).toNat=s):=of_decide_eq_false he
   have hiA:i≠A.length:=fun e=>hne (by rw [hek,e];exact hfound)
   conv=>whnf
   refine iO ?_;conv=>whnf
   exact ⟨i+1,(by show i+1≤A.length;omega),(by show A.length-(i+1)<A.length-i;omega),(wk_of [] rfl ⟨wa0,wa0,wa0,wa0,wa0,trivial⟩ trivial)⟩
 ·have:=of_decide_eq_false hd
  omega
theorem app_le (a b:List UInt8) (h:a.length+b.length≤1000000):((a.length+b.length:Nat):Int)≤9223372036854775807:=by omega
theorem tmod_nat {a:Int} {n:Nat} (ha:0≤a) (hn:0<n):∃ k:Nat,Int.tmod a (n:Int)=(k:Int)∧k<n:=by
 have h1:=Int.tmod_nonneg (n:Int) ha
 have h2:=Int.tmod_lt_of_pos a (show (0:Int)<(n:Int) by omega)
 exact ⟨(Int.tmod a n).toNat,by omega,by omega⟩
abbrev cellsX (x:Ind):List AV:=[.str x.name,.str x.issuer,.int .i64 x.face,.int .i64 x.frm,.int .i64 x.to,.int .i64 x.every,.int .i64 x.count,.int .i64 x.adjust,.int .i64 x.record,.int .i64 x.rank,.sl 6 encL l0 x.lets,.int .i64 x.coupon.op,.int .i64 x.coupon.n,.int .i64 x.coupon.unit,.str x.coupon.s,.lsl 5 (argsE x.coupon),.int .i64 x.cap,.sl 7 encC c0 x.cov,.sl 1 encS [] x.favour,.int .i64 x.cross,.sl 2 encK k0 x.calls,.int .i64 x.notice,.int .i64 x.sink,.int .i64 x.majority,.int .i64 x.fast]
noncomputable abbrev cL:Cx:=cx 279 [0,1,2,4,5,6,7,8,9,10,11,12,13,14,15,16,17,18,19,20,21,22,23,24,25,26,27,28,29,31,35,43,48,106,110,177,181,220,247]
theorem law_lines (x:Ind) (hx:InX x) (at_:Int) (ha0:0≤at_) (ha1:at_≤255):APureV Tryz.prog 7 [encX x,.int .u8 at_] (.bool true):=by
 have f1:=fewx_ok hx
 cases hf1:fewX x with
 | false =>
  rw [hf1] at f1
  refine aO (cxOk 279 [0,1,2,4,5,6,7,8,9,10,11,12,13,14,15,16,17,18,19,20,21,22,23,24,25,26,27,28,29,31,35,43,48,106,110,177,181,220,247]) Tryz.func7 ?_
  conv=>whnf
  refine cO (fun _=>small_ok) ?_
  conv=>whnf
  refine cO (fun _=>f1) ?_
  conv=>whnf
  refine gT ?_
  conv=>whnf
  rfl
 | true =>
 rw [hf1] at f1
 have ha:=few_okX hx hf1
 have c1:=print_ok x ha
 have hno:(printI x).2≠0→APureV Tryz.prog 7 [encX x,.int .u8 at_] (.bool true):=fun h=>by
  refine aO (cxOk 279 [0,1,2,4,5,6,7,8,9,10,11,12,13,14,15,16,17,18,19,20,21,22,23,24,25,26,27,28,29,31,35,43,48,106,110,177,181,220,247]) Tryz.func7 ?_
  conv=>whnf
  refine cO (fun _=>small_ok) ?_
  conv=>whnf
  refine cO (fun _=>f1) ?_
  conv=>whnf
  refine gF ?_
  conv=>whnf
  refine cO (fun _=>c1) ?_
  conv=>whnf
  rw [decide_eq_false h]
  refine gT ?_
  conv=>whnf
  rfl
 cases hr:rightI x with
 | false =>
  have hp:printI x=([],1):=by unfold printI;rw [hr,if_neg (by decide)]
  exact hno (by rw [hp];decide)
 | true =>
 have R:=(right_iff x).1 hr
 by_cases hl:4000<(txt (linesW x)).length
 ·have hp:printI x=([],6):=by
   unfold printI fitsT
   rw [hr,if_pos (show true=true from rfl),if_pos (by omega)]
  exact hno (by rw [hp];decide)
 have hl:(txt (linesW x)).length≤4000:=by omega
 rw [print_rt R hl] at c1
 refine apure_of0 (C:=cL) (cxOk _ _) Tryz.func7 rfl dd0 rfl (by exact Nat.le_of_ble_eq_true rfl) dd0 ?_
 intro F a w hF hrel
 refine wp_seq_ev (cxOk _ _) (C:=cL) hF (st1:=⟨[(1,.int .u8 at_),(2,.ptr 0 0),(4,.bool false)],[(0,.cells 31 (cellsX x))],1⟩) (Rr:=fun _=>False) ?_ (fun _ h=>h) ?_ (fun _ _ _ _ h=>h.elim) a w hrel
 ·conv=>whnf
  exact (wk_of [(0,.id 0)] rfl ⟨wa0,wc0,wa0,trivial⟩ ⟨wb0,trivial⟩)
 intro a w hrel
 refine wp_seq_ev (cxOk _ _) (C:=cL) hF (st1:=⟨[(1,.int .u8 at_),(2,.ptr 0 0),(4,.bool false),(5,.bool true)],[(0,.cells 31 (cellsX x))],1⟩) (Rr:=fun _=>False) ?_ (fun _ h=>h) ?_ (fun _ _ _ _ h=>h.elim) a w hrel
 ·conv=>whnf
  refine cO (fun _=>small_ok) ?_
  conv=>whnf
  exact (wk_of [(0,.id 0)] rfl ⟨wa0,wc0,wa0,wa0,trivial⟩ ⟨wb0,trivial⟩)
 intro a w hrel
 refine wp_seq_ev (cxOk _ _) (C:=cL) hF (st1:=⟨[(1,.int .u8 at_),(2,.ptr 0 0),(4,.bool false),(5,.bool true)],[(0,.cells 31 (cellsX x))],1⟩) (Rr:=fun _=>False) ?_ (fun _ h=>h) ?_ (fun _ _ _ _ h=>h.elim) a w hrel
 ·conv=>whnf
  refine cO (fun _=>f1) ?_
  conv=>whnf
  refine gF ?_
  conv=>whnf
  exact (wk_of [(0,.id 0)] rfl ⟨wa0,wc0,wa0,wa0,trivial⟩ ⟨wb0,trivial⟩)
 intro a w hrel
 refine wp_seq_ev (cxOk _ _) (C:=cL) hF (st1:=⟨[(1,.int .u8 at_),(2,.ptr 0 0),(4,.bool false),(5,.bool true),(6,.str (txt (linesW x))),(7,.int .i64 0)],[(0,.cells 31 (cellsX x))],1⟩) (Rr:=fun _=>False) ?_ (fun _ h=>h) ?_ (fun _ _ _ _ h=>h.elim) a w hrel
 ·conv=>whnf
  refine cO (fun _=>c1) ?_
  conv=>whnf
  exact (wk_of [(0,.id 0)] rfl ⟨wa0,wc0,wa0,wa0,wa0,wa0,trivial⟩ ⟨wb0,trivial⟩)
 intro a w hrel
 refine wp_seq_ev (cxOk _ _) (C:=cL) hF (st1:=⟨[(1,.int .u8 at_),(2,.ptr 0 0),(4,.bool false),(5,.bool true),(6,.str (txt (linesW x)))],[(0,.cells 31 (cellsX x))],1⟩) (Rr:=fun _=>False) ?_ (fun _ h=>h) ?_ (fun _ _ _ _ h=>h.elim) a w hrel
 ·conv=>whnf
  refine nD ?_;conv=>whnf
  exact (wk_of [(0,.id 0)] rfl ⟨wa0,wc0,wa0,wa0,wa0,trivial⟩ ⟨wb0,trivial⟩)
 intro a w hrel
 refine wp_seq_ev (cxOk _ _) (C:=cL) hF (st1:=⟨[(1,.int .u8 at_),(2,.ptr 0 0),(4,.bool false),(5,.bool true),(6,.str (txt (linesW x)))],[(0,.cells 31 (cellsX x))],1⟩) (Rr:=fun _=>False) ?_ (fun _ h=>h) ?_ (fun _ _ _ _ h=>h.elim) a w hrel
 ·conv=>whnf
  refine ⟨fun hA=>?_,fun hA=>?_⟩
  ·have hA:0<x.lets.length:=by have:=of_decide_eq_true hA;omega
   obtain ⟨k,hk,hkl⟩:=tmod_nat ha0 hA
   have hkk:(k:Int).toNat=k:=Int.toNat_natCast k
   have hk1:((k:Int)+1).toNat=k+1:=by omega
   have hcut:x.lets.take (k:Int).toNat++x.lets.drop ((k:Int)+1).toNat=cutL x.lets k:=by rw [hkk,hk1];rfl
   have l1:(x.lets.take (k:Int).toNat).length≤x.lets.length:=List.length_take_le' _ _
   have l2:(x.lets.drop ((k:Int)+1).toNat).length≤x.lets.length:=by rw [List.length_drop];omega
   have hb:=ha.lets
   have hlk:=let_lacks hkl
   have c2:APure Tryz.prog 19 [encX { x with lets:=x.lets.take (k:Int).toNat++x.lets.drop ((k:Int)+1).toNat }] (fun rs=>rs=[.val (.str (txt (linesW (lessL x k)))),.val (.int .i64 0)]):=by
    rw [hcut]
    have:=print_ok (lessL x k) (rt_lets R k).okX
    rwa [print_rt (rt_lets R k) (by have:=hlk.le;omega)] at this
   have hbr:=R.lets _ (getD_mem (d:=l0) hkl)
   have c3:=printexp_ok (x.lets.getD k l0).body (rightE_okE hbr)
   have hll:=hlk.le
   rw [let_text] at hll hlk
   simp only [List.length_append,List.length_cons,List.length_nil] at hll
   rw [printE_rt hbr (by omega)] at c3
   have c4:=lacksfn_ok hlk hl
   conv=>whnf
   refine iO ?_;conv=>whnf
   refine And.intro (show (x.lets.length:Int)≠0 by omega) ?_
   conv=>whnf
   rw [hk]
   refine drawG_slack (cxOk _ _) ?_
   refine .eff ae0 ?_
   conv=>whnf
   refine iO ?_;conv=>whnf
   refine And.intro rfl ?_;conv=>whnf
   refine And.intro rfl ?_;conv=>whnf
   refine And.intro ⟨rfl,rfl⟩ (And.intro (by show (0+(x.lets.take (k:Int).toNat).length)*80≤140737488355328;omega) ?_)
   conv=>whnf
   refine iO ?_;conv=>whnf
   refine iO ?_;conv=>whnf
   refine And.intro rfl ?_;conv=>whnf
   refine And.intro rfl ?_;conv=>whnf
   refine And.intro ⟨rfl,rfl⟩ (And.intro (by show ((x.lets.take (k:Int).toNat).length+(x.lets.drop ((k:Int)+1).toNat).length)*80≤140737488355328;omega) ?_)
   conv=>whnf
   refine Exists.intro _ (And.intro rfl ?_);conv=>whnf
   refine And.intro rfl ?_;conv=>whnf
   refine ⟨⟨[(1,.int .u8 at_),(2,.ptr 0 0),(4,.bool false),(5,.bool true),(6,.str (txt (linesW x))),(8,.int .i64 (k:Nat)),(9,.ptr 1 0)],[(0,.cells 31 (cellsX x)),(1,.cells 31 (cellsX { x with lets:=x.lets.take (k:Int).toNat++x.lets.drop ((k:Int)+1).toNat }))],2⟩,(wk_frz [4]).trans (wk_of [(0,.id 0),(1,.id 1)] rfl ⟨wa0,wc0,wa0,wa0,wa0,wa0,wc0,trivial⟩ ⟨wb0,wb0,trivial⟩),?_⟩
   conv=>whnf
   refine cO (fun _=>c2) ?_
   conv=>whnf
   refine iO ?_;conv=>whnf
   refine And.intro rfl ?_;conv=>whnf
   rw [hkk]
   refine cO (fun _=>c3) ?_
   conv=>whnf
   refine And.intro om0 (And.intro rfl ?_);conv=>whnf
   rw [hkk]
   refine And.intro (fun _=>?_) ?_
   ·exact app_le [108,101,116,32] _ (by simp only [List.length_append,List.length_cons,List.length_nil];omega)
   conv=>whnf
   refine And.intro (fun _=>?_) ?_
   ·exact app_le ([108,101,116,32]++(x.lets.getD k l0).name) [32,61,32] (by simp only [List.length_append,List.length_cons,List.length_nil];omega)
   conv=>whnf
   refine And.intro (fun _=>?_) ?_
   ·exact app_le ([108,101,116,32]++(x.lets.getD k l0).name++[32,61,32]) (showT 12 (x.lets.getD k l0).body 0) (by simp only [List.length_append,List.length_cons,List.length_nil];omega)
   conv=>whnf
   refine And.intro (fun _=>?_) ?_
   ·exact app_le ([108,101,116,32]++(x.lets.getD k l0).name++[32,61,32]++showT 12 (x.lets.getD k l0).body 0) [32,59,10] (by simp only [List.length_append,List.length_cons,List.length_nil];omega)
   conv=>whnf
   refine cO (fun _=>c4) ?_
   conv=>whnf
   refine gF ?_
   conv=>whnf
   exact (wk_of [(0,.id 0)] rfl ⟨wa0,wc0,wa0,wa0,wa0,trivial⟩ ⟨wb0,trivial⟩)
  ·exact (wk_of [(0,.id 0)] rfl ⟨wa0,wc0,wa0,wa0,wa0,trivial⟩ ⟨wb0,trivial⟩)
 intro a w hrel
 refine wp_seq_ev (cxOk _ _) (C:=cL) hF (st1:=⟨[(1,.int .u8 at_),(2,.ptr 0 0),(4,.bool false),(5,.bool true),(6,.str (txt (linesW x)))],[(0,.cells 31 (cellsX x))],1⟩) (Rr:=fun _=>False) ?_ (fun _ h=>h) ?_ (fun _ _ _ _ h=>h.elim) a w hrel
 ·conv=>whnf
  refine ⟨fun hA=>?_,fun hA=>?_⟩
  ·have hA:0<x.cov.length:=by have:=of_decide_eq_true hA;omega
   obtain ⟨k,hk,hkl⟩:=tmod_nat ha0 hA
   have hkk:(k:Int).toNat=k:=Int.toNat_natCast k
   have hk1:((k:Int)+1).toNat=k+1:=by omega
   have hcut:x.cov.take (k:Int).toNat++x.cov.drop ((k:Int)+1).toNat=cutL x.cov k:=by rw [hkk,hk1];rfl
   have l1:(x.cov.take (k:Int).toNat).length≤x.cov.length:=List.length_take_le' _ _
   have l2:(x.cov.drop ((k:Int)+1).toNat).length≤x.cov.length:=by rw [List.length_drop];omega
   have hb:=ha.cov
   have hlk:=cov_lacks hkl
   have c2:APure Tryz.prog 19 [encX { x with cov:=x.cov.take (k:Int).toNat++x.cov.drop ((k:Int)+1).toNat }] (fun rs=>rs=[.val (.str (txt (linesW (lessC x k)))),.val (.int .i64 0)]):=by
    rw [hcut]
    have:=print_ok (lessC x k) (rt_cov R k).okX
    rwa [print_rt (rt_cov R k) (by have:=hlk.le;omega)] at this
   obtain ⟨hbr,hg0,hg1⟩:=R.cov _ (getD_mem (d:=c0) hkl)
   have c5:=decimal_ok (x.cov.getD k c0).grace ⟨by omega,by omega⟩
   have c3:=printexp_ok (x.cov.getD k c0).must (rightE_okE hbr)
   have hll:=hlk.le
   rw [cov_text] at hll hlk
   simp only [List.length_append,List.length_cons,List.length_nil] at hll
   rw [printE_rt hbr (by omega)] at c3
   have c4:=lacksfn_ok hlk hl
   conv=>whnf
   refine iO ?_;conv=>whnf
   refine And.intro (show (x.cov.length:Int)≠0 by omega) ?_
   conv=>whnf
   rw [hk]
   refine drawG_slack (cxOk _ _) ?_
   refine .eff ae0 ?_
   conv=>whnf
   refine iO ?_;conv=>whnf
   refine And.intro rfl ?_;conv=>whnf
   refine And.intro rfl ?_;conv=>whnf
   refine And.intro ⟨rfl,rfl⟩ (And.intro (by show (0+(x.cov.take (k:Int).toNat).length)*88≤140737488355328;omega) ?_)
   conv=>whnf
   refine iO ?_;conv=>whnf
   refine iO ?_;conv=>whnf
   refine And.intro rfl ?_;conv=>whnf
   refine And.intro rfl ?_;conv=>whnf
   refine And.intro ⟨rfl,rfl⟩ (And.intro (by show ((x.cov.take (k:Int).toNat).length+(x.cov.drop ((k:Int)+1).toNat).length)*88≤140737488355328;omega) ?_)
   conv=>whnf
   refine Exists.intro _ (And.intro rfl ?_);conv=>whnf
   refine And.intro rfl ?_;conv=>whnf
   refine ⟨⟨[(1,.int .u8 at_),(2,.ptr 0 0),(4,.bool false),(5,.bool true),(6,.str (txt (linesW x))),(14,.int .i64 (k:Nat)),(15,.ptr 1 0)],[(0,.cells 31 (cellsX x)),(1,.cells 31 (cellsX { x with cov:=x.cov.take (k:Int).toNat++x.cov.drop ((k:Int)+1).toNat }))],2⟩,(wk_frz [4]).trans (wk_of [(0,.id 0),(1,.id 1)] rfl ⟨wa0,wc0,wa0,wa0,wa0,wa0,wc0,trivial⟩ ⟨wb0,wb0,trivial⟩),?_⟩
   conv=>whnf
   refine cO (fun _=>c2) ?_
   conv=>whnf
   refine iO ?_;conv=>whnf
   refine And.intro rfl ?_;conv=>whnf
   rw [hkk]
   refine cO (fun _=>c3) ?_
   conv=>whnf
   refine .quiet (by kernel_rfl) ?_
   conv=>whnf
   refine And.intro om0 (And.intro rfl ?_);conv=>whnf
   rw [hkk]
   refine And.intro (fun _=>?_) ?_
   ·exact app_le ([99,111,118,101,110,97,110,116,32]) ((x.cov.getD k c0).name) (by simp only [List.length_append,List.length_cons,List.length_nil];omega)
   conv=>whnf
   refine And.intro (fun _=>?_) ?_
   ·exact app_le ([99,111,118,101,110,97,110,116,32]++(x.cov.getD k c0).name) ([32,109,117,115,116,32]) (by simp only [List.length_append,List.length_cons,List.length_nil];omega)
   conv=>whnf
   refine And.intro (fun _=>?_) ?_
   ·exact app_le ([99,111,118,101,110,97,110,116,32]++(x.cov.getD k c0).name++[32,109,117,115,116,32]) (showT 12 (x.cov.getD k c0).must 0) (by simp only [List.length_append,List.length_cons,List.length_nil];omega)
   conv=>whnf
   refine And.intro (fun _=>?_) ?_
   ·exact app_le ([99,111,118,101,110,97,110,116,32]++(x.cov.getD k c0).name++[32,109,117,115,116,32]++showT 12 (x.cov.getD k c0).must 0) ([32,103,114,97,99,101,32]) (by simp only [List.length_append,List.length_cons,List.length_nil];omega)
   conv=>whnf
   refine And.intro om0 (And.intro rfl ?_);conv=>whnf
   rw [hkk]
   refine .mk _ _ _ _ (fun _=>c5) af0 rfl ?_
   conv=>whnf
   refine And.intro (fun _=>?_) ?_
   ·exact app_le ([99,111,118,101,110,97,110,116,32]++(x.cov.getD k c0).name++[32,109,117,115,116,32]++showT 12 (x.cov.getD k c0).must 0++[32,103,114,97,99,101,32]) (Lib.itoa (x.cov.getD k c0).grace) (by simp only [List.length_append,List.length_cons,List.length_nil];omega)
   conv=>whnf
   refine And.intro (fun _=>?_) ?_
   ·exact app_le ([99,111,118,101,110,97,110,116,32]++(x.cov.getD k c0).name++[32,109,117,115,116,32]++showT 12 (x.cov.getD k c0).must 0++[32,103,114,97,99,101,32]++Lib.itoa (x.cov.getD k c0).grace) ([32,59,10]) (by simp only [List.length_append,List.length_cons,List.length_nil];omega)
   conv=>whnf
   refine .mk _ _ _ _ (fun _=>c4) af0 rfl ?_
   conv=>whnf
   refine gF ?_
   conv=>whnf
   exact (wk_of [(0,.id 0)] rfl ⟨wa0,wc0,wa0,wa0,wa0,trivial⟩ ⟨wb0,trivial⟩)
  ·exact (wk_of [(0,.id 0)] rfl ⟨wa0,wc0,wa0,wa0,wa0,trivial⟩ ⟨wb0,trivial⟩)
 intro a w hrel
 refine wp_seq_ev (cxOk _ _) (C:=cL) hF (st1:=⟨[(1,.int .u8 at_),(2,.ptr 0 0),(4,.bool false),(5,.bool true),(6,.str (txt (linesW x)))],[(0,.cells 31 (cellsX x))],1⟩) (Rr:=fun _=>False) ?_ (fun _ h=>h) ?_ (fun _ _ _ _ h=>h.elim) a w hrel
 ·conv=>whnf
  refine ⟨fun hA=>?_,fun hA=>?_⟩
  ·have hA:0<x.calls.length:=by have:=of_decide_eq_true hA;omega
   obtain ⟨k,hk,hkl⟩:=tmod_nat ha0 hA
   have hkk:(k:Int).toNat=k:=Int.toNat_natCast k
   have hk1:((k:Int)+1).toNat=k+1:=by omega
   have hcut:x.calls.take (k:Int).toNat++x.calls.drop ((k:Int)+1).toNat=cutL x.calls k:=by rw [hkk,hk1];rfl
   have l1:(x.calls.take (k:Int).toNat).length≤x.calls.length:=List.length_take_le' _ _
   have l2:(x.calls.drop ((k:Int)+1).toNat).length≤x.calls.length:=by rw [List.length_drop];omega
   have hb:=R.ncalls
   have hlk:=call_lacks hkl
   have c2:APure Tryz.prog 19 [encX { x with calls:=x.calls.take (k:Int).toNat++x.calls.drop ((k:Int)+1).toNat }] (fun rs=>rs=[.val (.str (txt (linesW (lessK x k)))),.val (.int .i64 0)]):=by
    rw [hcut]
    have:=print_ok (lessK x k) (rt_calls R k).okX
    rwa [print_rt (rt_calls R k) (by have:=hlk.le;omega)] at this
   have c3:=callfn_ok (x.calls.getD k k0) (R.calls _ (getD_mem (d:=k0) hkl))
   have c4:=lacksfn_ok hlk hl
   conv=>whnf
   refine iO ?_;conv=>whnf
   refine And.intro (show (x.calls.length:Int)≠0 by omega) ?_
   conv=>whnf
   rw [hk]
   refine drawG_slack (cxOk _ _) ?_
   refine .eff ae0 ?_
   conv=>whnf
   refine iO ?_;conv=>whnf
   refine And.intro rfl ?_;conv=>whnf
   refine And.intro rfl ?_;conv=>whnf
   refine And.intro ⟨rfl,rfl⟩ (And.intro (by show (0+(x.calls.take (k:Int).toNat).length)*16≤140737488355328;omega) ?_)
   conv=>whnf
   refine iO ?_;conv=>whnf
   refine iO ?_;conv=>whnf
   refine And.intro rfl ?_;conv=>whnf
   refine And.intro rfl ?_;conv=>whnf
   refine And.intro ⟨rfl,rfl⟩ (And.intro (by show ((x.calls.take (k:Int).toNat).length+(x.calls.drop ((k:Int)+1).toNat).length)*16≤140737488355328;omega) ?_)
   conv=>whnf
   refine Exists.intro _ (And.intro rfl ?_);conv=>whnf
   refine And.intro rfl ?_;conv=>whnf
   refine ⟨⟨[(1,.int .u8 at_),(2,.ptr 0 0),(4,.bool false),(5,.bool true),(6,.str (txt (linesW x))),(20,.int .i64 (k:Nat)),(21,.ptr 1 0)],[(0,.cells 31 (cellsX x)),(1,.cells 31 (cellsX { x with calls:=x.calls.take (k:Int).toNat++x.calls.drop ((k:Int)+1).toNat }))],2⟩,(wk_frz [4]).trans (wk_of [(0,.id 0),(1,.id 1)] rfl ⟨wa0,wc0,wa0,wa0,wa0,wa0,wc0,trivial⟩ ⟨wb0,wb0,trivial⟩),?_⟩
   conv=>whnf
   refine cO (fun _=>c2) ?_
   conv=>whnf
   refine And.intro om0 (And.intro rfl ?_);conv=>whnf
   rw [hkk]
   refine cO (fun _=>c3) ?_
   conv=>whnf
   refine cO (fun _=>c4) ?_
   conv=>whnf
   refine gF ?_
   conv=>whnf
   exact (wk_of [(0,.id 0)] rfl ⟨wa0,wc0,wa0,wa0,wa0,trivial⟩ ⟨wb0,trivial⟩)
  ·exact (wk_of [(0,.id 0)] rfl ⟨wa0,wc0,wa0,wa0,wa0,trivial⟩ ⟨wb0,trivial⟩)
 intro a w hrel
 have hlk:=note_lacks (x:=x)
 have hll:=hlk.le
 have Rz:=rt_note R
 have hzt:txt (linesW (noteZ x))=txt (preW (noteZ x))++txt (endW x):=by rw [linesW_pre (z:=noteZ x) rfl rfl,txt_app];rfl
 have hzl:(txt (preW (noteZ x))++txt (endW x)).length≤4000:=by omega
 have cz:=print_ok (noteZ x) Rz.okX
 rw [print_rt Rz (by rw [hzt];exact hzl),hzt] at cz
 have d1:=decimal_ok x.majority ⟨by have:=R.majority;omega,by have:=R.majority;omega⟩
 have d2:=decimal_ok x.fast ⟨by have:=R.fast;omega,by have:=R.fast;omega⟩
 have hel:(Lib.itoa x.majority).length+(Lib.itoa x.fast).length≤4000:=by
  rw [List.length_append,end_text x] at hzl
  simp only [List.length_append,List.length_cons,List.length_nil] at hzl
  omega
 refine wp_mono (evCode_sound (C:=cL) (cxOk _ _) hF _ ⟨[(1,.int .u8 at_),(2,.ptr 0 0),(4,.bool false),(5,.bool true),(6,.str (txt (linesW x)))],[(0,.cells 31 (cellsX x))],1⟩ (retQ cL.T _ (fun rs=>rs=[.val (.bool true)])) ?_ a w hrel) fun _ _ _ ⟨st',h1,h2⟩=>⟨st',h1,orP_off (fun _ h=>h) h2⟩
 conv=>whnf
 refine cO (fun _=>cz) ?_
 conv=>whnf
 refine .quiet (by kernel_rfl) ?_
 conv=>whnf
 refine .mk _ _ _ _ (fun _=>d1) af0 rfl ?_
 conv=>whnf
 refine And.intro ?_ ?_
 ·exact app_le (([109,97,106,111,114,105,116,121,32]:List UInt8)) (Lib.itoa x.majority) (by simp only [List.length_append,List.length_cons,List.length_nil];omega)
 conv=>whnf
 refine And.intro ?_ ?_
 ·exact app_le (([109,97,106,111,114,105,116,121,32]:List UInt8)++Lib.itoa x.majority) ([32,59,10,102,97,115,116,32]) (by simp only [List.length_append,List.length_cons,List.length_nil];omega)
 conv=>whnf
 refine .mk _ _ _ _ (fun _=>d2) af0 rfl ?_
 conv=>whnf
 refine And.intro ?_ ?_
 ·exact app_le (([109,97,106,111,114,105,116,121,32]:List UInt8)++Lib.itoa x.majority++[32,59,10,102,97,115,116,32]) (Lib.itoa x.fast) (by simp only [List.length_append,List.length_cons,List.length_nil];omega)
 conv=>whnf
 refine And.intro ?_ ?_
 ·exact app_le (([109,97,106,111,114,105,116,121,32]:List UInt8)++Lib.itoa x.majority++[32,59,10,102,97,115,116,32]++Lib.itoa x.fast) ([32,59,10]) (by simp only [List.length_append,List.length_cons,List.length_nil];omega)
 conv=>whnf
 rw [show (⟨#[109,97,106,111,114,105,116,121,32]⟩:ByteArray).data.toList++Lib.itoa x.majority++(⟨#[32,59,10,102,97,115,116,32]⟩:ByteArray).data.toList++Lib.itoa x.fast++(⟨#[32,59,10]⟩:ByteArray).data.toList=txt (endW x) from (end_text x).symm]
 have hpa:=parse_note Rz rfl rfl
 rw [show txt (endW (noteZ x))=txt (endW x) from rfl] at hpa
 generalize txt (preW (noteZ x))=pre at *
 generalize txt (endW x)=tl at *
 have hge:¬ ((((pre++tl,(0:Int)).1.length:Nat):Int)<((tl.length:Nat):Int)):=by
  show ¬ (((pre++tl).length:Nat):Int)<_
  rw [List.length_append]
  omega
 rw [decide_eq_false hge]
 have hq:((pre++tl,(0:Int)).1.length:Nat)=pre.length+tl.length:=List.length_append
 rw [List.length_append] at hzl
 have hcu:(pre++tl).take ((((pre++tl).length:Nat):Int)-((tl.length:Nat):Int)).toNat++noteT++tl=pre++noteT++tl:=by
  rw [show ((((pre++tl).length:Nat):Int)-((tl.length:Nat):Int)).toNat=pre.length by rw [List.length_append];omega,List.take_left]
 have htl:((pre++tl).take ((((pre++tl).length:Nat):Int)-((tl.length:Nat):Int)).toNat).length≤pre.length+tl.length:=by rw [← List.length_append];exact List.length_take_le' _ _
 have hnl:noteT.length=19:=rfl
 have cp:APure Tryz.prog 10 [.str ((pre++tl).take ((((pre++tl).length:Nat):Int)-((tl.length:Nat):Int)).toNat++noteT++tl)] (fun rs=>rs=parA (parseR (pre++noteT++tl))):=by
  rw [hcu]
  exact parse_ok (pre++noteT++tl) (by simp only [List.length_append];omega)
 refine gF ?_
 conv=>whnf
 refine iO ?_;conv=>whnf
 refine iO ?_;conv=>whnf
 refine And.intro ?_ ?_
 ·exact app_le ((pre++tl).take ((((pre++tl).length:Nat):Int)-((tl.length:Nat):Int)).toNat) noteT om0
 conv=>whnf
 refine And.intro ?_ ?_
 ·exact app_le ((pre++tl).take ((((pre++tl).length:Nat):Int)-((tl.length:Nat):Int)).toNat++noteT) tl (by rw [List.length_append];omega)
 conv=>whnf
 by_cases hbig:4000<(pre++noteT++tl).length
 ·have e5:parseR (pre++noteT++tl)=.error (0,6):=by
   unfold parseR lexR
   rw [if_pos hbig]
  rw [e5] at cp
  unfold parA at cp
  have cs:=samefn2_ok i0 (noteZ x) okX_0 Rz.okX
  refine cO (fun _=>cp) ?_
  conv=>whnf
  refine cO (fun _=>cs) ?_
  conv=>whnf
  show [AR.val (.bool (true&&(decide ((4000:Int)<((((pre++tl).take ((((pre++tl).length:Nat):Int)-((tl.length:Nat):Int)).toNat++noteT++tl).length:Nat):Int))||(decide ((6:Int)=0)&&decide (i0=noteZ x)))))]=_
  rw [hcu,decide_eq_true (show (4000:Int)<(((pre++noteT++tl).length:Nat):Int) by omega)]
  rfl
 ·rw [hpa (by omega)] at cp
  unfold parA at cp
  have cs:=samefn2_ok (noteZ x) (noteZ x) Rz.okX Rz.okX
  rw [decide_eq_true (rfl:noteZ x=noteZ x)] at cs
  refine cO (fun _=>cp) ?_
  conv=>whnf
  refine cO (fun _=>cs) ?_
  conv=>whnf
  show [AR.val (.bool (true&&(decide ((4000:Int)<((((pre++tl).take ((((pre++tl).length:Nat):Int)-((tl.length:Nat):Int)).toNat++noteT++tl).length:Nat):Int))||(decide ((0:Int)=0)&&true))))]=_
  rw [hcu,decide_eq_false (show ¬ (4000:Int)<(((pre++noteT++tl).length:Nat):Int) by omega)]
  rfl
end Go.Proofs.YtlmgomgpiideoaaGreatDoor
