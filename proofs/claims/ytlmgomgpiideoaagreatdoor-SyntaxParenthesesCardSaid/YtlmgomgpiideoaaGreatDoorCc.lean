import Derived.Test.YtlmgomgpiideoaaGreatDoorCb
import Derived.Test.YtlmgomgpiideoaaGreatDoorLd
import Derived.Lay
import Derived.Lib.LaidTab
import Derived.LaidLaws
import Derived.KernelRfl
import Derived.Test.YtlmgomgpiideoaaGreatDoorRows
namespace Go.Proofs.YtlmgomgpiideoaaGreatDoor
open Go.Own
set_option maxHeartbeats 40000000
set_option maxRecDepth 100000
noncomputable instance:DecidableEq Exp:=fun _ _=>Classical.propDecidable _
noncomputable instance:DecidableEq LetE:=fun _ _=>Classical.propDecidable _
noncomputable instance:DecidableEq Cov:=fun _ _=>Classical.propDecidable _
noncomputable instance:DecidableEq CallE:=fun _ _=>Classical.propDecidable _
noncomputable instance:DecidableEq Ind:=fun _ _=>Classical.propDecidable _
theorem list_eq {α:Type} {d:α}:∀ {l r:List α},l.length=r.length→(∀ j,j<l.length→l.getD j d=r.getD j d)→l=r
 | [],[],_,_=>rfl
 | [],_::_,h,_=>by cases h
 | _::_,[],h,_=>by cases h
 | a::l,b::r,h,hj=>by
  have h0:a=b:=hj 0 (by simp)
  have h1:l=r:=list_eq (by simpa using h) fun j hl=>hj (j+1) (by simp;omega)
  rw [h0,h1]
theorem Exp.ext_iff' (a b:Exp):a=b↔a.op=b.op∧a.n=b.n∧a.unit=b.unit∧a.s=b.s∧a.args=b.args:=by
 cases a;cases b
 simp [Exp.op,Exp.n,Exp.unit,Exp.s,Exp.args]
theorem eqE_dec (a b:Exp):decide (a=b)=(decide (a.op=b.op)&&decide (a.n=b.n)&&decide (a.unit=b.unit)&&decide (a.s=b.s)&&decide (a.args=b.args)):=by
 rw [Bool.eq_iff_iff]
 simp only [Bool.and_eq_true,decide_eq_true_eq,Exp.ext_iff' a b]
 constructor
 ·rintro ⟨h1,h2,h3,h4,h5⟩;exact ⟨⟨⟨⟨h1,h2⟩,h3⟩,h4⟩,h5⟩
 ·rintro ⟨⟨⟨⟨h1,h2⟩,h3⟩,h4⟩,h5⟩;exact ⟨h1,h2,h3,h4,h5⟩
theorem eqL_dec (a b:LetE):decide (a=b)=(decide (a.name=b.name)&&decide (a.body=b.body)):=by
 rw [Bool.eq_iff_iff]
 cases a;cases b
 simp
theorem eqC_dec (a b:Cov):decide (a=b)=(decide (a.name=b.name)&&decide (a.grace=b.grace)&&decide (a.must=b.must)):=by
 rw [Bool.eq_iff_iff]
 cases a;cases b
 simp only [Bool.and_eq_true,decide_eq_true_eq,Cov.mk.injEq]
 constructor
 ·rintro ⟨h1,h2,h3⟩;exact ⟨⟨h1,h3⟩,h2⟩
 ·rintro ⟨⟨h1,h3⟩,h2⟩;exact ⟨h1,h2,h3⟩
theorem eqK_dec (a b:CallE):decide (a=b)=(decide (a.a=b.a)&&decide (a.b=b.b)):=by
 rw [Bool.eq_iff_iff]
 cases a;cases b
 simp
theorem eqfE_ok (l r:List Exp) (hl:l.length≤9223372036854775807) (hr:r.length≤9223372036854775807) (hc:∀ x∈l,∀ y∈r,APureV Tryz.prog 28 [encE x,encE y] (.bool (decide (x=y)))) :
  APureV Tryz.prog 90 [.sl 5 encE ex0 l,.sl 5 encE ex0 r,.fn (.func 28) [] []] (.bool (decide (l=r))):=by
 refine aO (cxOk 32 [0,1,2,6,7,8,9,14,15,16,17,18,30]) Tryz.func90 ?_
 conv=>whnf
 refine ⟨fun hlen=>?_,fun hlen=>?_⟩
 ·have hne:¬ l=r:=by
   intro h
   rw [h] at hlen
   simp at hlen
  rw [decide_eq_false hne]
  conv=>whnf
  rfl
 have hlen:l.length=r.length:=by simp at hlen;omega
 conv=>whnf
 refine loop_up (cxOk _ _) l.length (fun k=>∀ j,j<k→l.getD j ex0=r.getD j ex0) (fun k=>⟨[(0,.sl 5 encE ex0 l),(1,.sl 5 encE ex0 r),(2,.fn (.func 28) [] []),(6,.bool false),(15,.sl 5 encE ex0 l),(16,.int .i64 (l.length:Nat)),(17,.int .i64 (k:Nat))],[],0⟩) (by intro j hj;omega) ((wk_of [] rfl ⟨wa0,wa0,.fn _ _ _ _ _ ad0 ad0,wa0,wa0,wa0,wa0,trivial⟩ trivial)) ?_
 intro k hk hP
 conv=>whnf
 refine ⟨fun hd=>?_,fun hd=>?_⟩
 ·have hd:=of_decide_eq_true hd
  have hlt:k<l.length:=by omega
  have hek:(k:Int).toNat=k:=Int.toNat_natCast k
  have h:=hc _ (getD_mem (d:=ex0) hlt) _ (getD_mem (d:=ex0) (show k<r.length by omega))
  conv=>whnf
  refine iO ?_;conv=>whnf
  refine And.intro rfl ?_;conv=>whnf
  refine iO ?_;conv=>whnf
  refine And.intro rfl ?_;conv=>whnf
  rw [hek]
  conv=>whnf
  refine cO (fun _=>h) ?_
  conv=>whnf
  refine ⟨fun he=>?_,fun he=>?_⟩
  ·have hne:¬ l=r:=by
    intro h
    rw [h] at he
    simp at he
   rw [decide_eq_false hne]
   conv=>whnf
   rfl
  ·have he:l.getD k ex0=r.getD k ex0:=by simpa using he
   conv=>whnf
   refine iO ?_;conv=>whnf
   refine up hlt (fun j hj=>?_) ((wk_of [] rfl ⟨wa0,wa0,.fn _ _ _ _ _ ad0 ad0,wa0,wa0,wa0,wa0,trivial⟩ trivial))
   by_cases e:j=k
   ·subst e;exact he
   ·exact hP j om0
 ·have hd:=of_decide_eq_false hd
  have he:l=r:=list_eq (d:=ex0) hlen fun j hj=>hP j (by omega)
  rw [decide_eq_true he]
  conv=>whnf
  rfl
theorem eqfL_ok (l r:List LetE) (hl:l.length≤9223372036854775807) (hr:r.length≤9223372036854775807) (hc:∀ x∈l,∀ y∈r,APureV Tryz.prog 87 [encL x,encL y] (.bool (decide (x=y)))) :
  APureV Tryz.prog 86 [.sl 6 encL l0 l,.sl 6 encL l0 r,.fn (.func 87) [] []] (.bool (decide (l=r))):=by
 refine aO (cxOk 32 [0,1,2,6,7,8,9,14,15,16,17,18,30]) Tryz.func86 ?_
 conv=>whnf
 refine ⟨fun hlen=>?_,fun hlen=>?_⟩
 ·have hne:¬ l=r:=by
   intro h
   rw [h] at hlen
   simp at hlen
  rw [decide_eq_false hne]
  conv=>whnf
  rfl
 have hlen:l.length=r.length:=by simp at hlen;omega
 conv=>whnf
 refine loop_up (cxOk _ _) l.length (fun k=>∀ j,j<k→l.getD j l0=r.getD j l0) (fun k=>⟨[(0,.sl 6 encL l0 l),(1,.sl 6 encL l0 r),(2,.fn (.func 87) [] []),(6,.bool false),(15,.sl 6 encL l0 l),(16,.int .i64 (l.length:Nat)),(17,.int .i64 (k:Nat))],[],0⟩) (by intro j hj;omega) ((wk_of [] rfl ⟨wa0,wa0,.fn _ _ _ _ _ ad0 ad0,wa0,wa0,wa0,wa0,trivial⟩ trivial)) ?_
 intro k hk hP
 conv=>whnf
 refine ⟨fun hd=>?_,fun hd=>?_⟩
 ·have hd:=of_decide_eq_true hd
  have hlt:k<l.length:=by omega
  have hek:(k:Int).toNat=k:=Int.toNat_natCast k
  have h:=hc _ (getD_mem (d:=l0) hlt) _ (getD_mem (d:=l0) (show k<r.length by omega))
  conv=>whnf
  refine iO ?_;conv=>whnf
  refine And.intro rfl ?_;conv=>whnf
  refine iO ?_;conv=>whnf
  refine And.intro rfl ?_;conv=>whnf
  rw [hek]
  conv=>whnf
  refine cO (fun _=>h) ?_
  conv=>whnf
  refine ⟨fun he=>?_,fun he=>?_⟩
  ·have hne:¬ l=r:=by
    intro h
    rw [h] at he
    simp at he
   rw [decide_eq_false hne]
   conv=>whnf
   rfl
  ·have he:l.getD k l0=r.getD k l0:=by simpa using he
   conv=>whnf
   refine iO ?_;conv=>whnf
   refine up hlt (fun j hj=>?_) ((wk_of [] rfl ⟨wa0,wa0,.fn _ _ _ _ _ ad0 ad0,wa0,wa0,wa0,wa0,trivial⟩ trivial))
   by_cases e:j=k
   ·subst e;exact he
   ·exact hP j om0
 ·have hd:=of_decide_eq_false hd
  have he:l=r:=list_eq (d:=l0) hlen fun j hj=>hP j (by omega)
  rw [decide_eq_true he]
  conv=>whnf
  rfl
theorem eqfC_ok (l r:List Cov) (hl:l.length≤9223372036854775807) (hr:r.length≤9223372036854775807) (hc:∀ x∈l,∀ y∈r,APureV Tryz.prog 89 [encC x,encC y] (.bool (decide (x=y)))) :
  APureV Tryz.prog 88 [.sl 7 encC c0 l,.sl 7 encC c0 r,.fn (.func 89) [] []] (.bool (decide (l=r))):=by
 refine aO (cxOk 32 [0,1,2,6,7,8,9,14,15,16,17,18,30]) Tryz.func88 ?_
 conv=>whnf
 refine ⟨fun hlen=>?_,fun hlen=>?_⟩
 ·have hne:¬ l=r:=by
   intro h
   rw [h] at hlen
   simp at hlen
  rw [decide_eq_false hne]
  conv=>whnf
  rfl
 have hlen:l.length=r.length:=by simp at hlen;omega
 conv=>whnf
 refine loop_up (cxOk _ _) l.length (fun k=>∀ j,j<k→l.getD j c0=r.getD j c0) (fun k=>⟨[(0,.sl 7 encC c0 l),(1,.sl 7 encC c0 r),(2,.fn (.func 89) [] []),(6,.bool false),(15,.sl 7 encC c0 l),(16,.int .i64 (l.length:Nat)),(17,.int .i64 (k:Nat))],[],0⟩) (by intro j hj;omega) ((wk_of [] rfl ⟨wa0,wa0,.fn _ _ _ _ _ ad0 ad0,wa0,wa0,wa0,wa0,trivial⟩ trivial)) ?_
 intro k hk hP
 conv=>whnf
 refine ⟨fun hd=>?_,fun hd=>?_⟩
 ·have hd:=of_decide_eq_true hd
  have hlt:k<l.length:=by omega
  have hek:(k:Int).toNat=k:=Int.toNat_natCast k
  have h:=hc _ (getD_mem (d:=c0) hlt) _ (getD_mem (d:=c0) (show k<r.length by omega))
  conv=>whnf
  refine iO ?_;conv=>whnf
  refine And.intro rfl ?_;conv=>whnf
  refine iO ?_;conv=>whnf
  refine And.intro rfl ?_;conv=>whnf
  rw [hek]
  conv=>whnf
  refine cO (fun _=>h) ?_
  conv=>whnf
  refine ⟨fun he=>?_,fun he=>?_⟩
  ·have hne:¬ l=r:=by
    intro h
    rw [h] at he
    simp at he
   rw [decide_eq_false hne]
   conv=>whnf
   rfl
  ·have he:l.getD k c0=r.getD k c0:=by simpa using he
   conv=>whnf
   refine iO ?_;conv=>whnf
   refine up hlt (fun j hj=>?_) ((wk_of [] rfl ⟨wa0,wa0,.fn _ _ _ _ _ ad0 ad0,wa0,wa0,wa0,wa0,trivial⟩ trivial))
   by_cases e:j=k
   ·subst e;exact he
   ·exact hP j om0
 ·have hd:=of_decide_eq_false hd
  have he:l=r:=list_eq (d:=c0) hlen fun j hj=>hP j (by omega)
  rw [decide_eq_true he]
  conv=>whnf
  rfl
theorem eqsS_ok (l r:List (List UInt8)) (hl:l.length≤9223372036854775807) (hr:r.length≤9223372036854775807) :
  APureV Tryz.prog 84 [.sl 1 encS [] l,.sl 1 encS [] r] (.bool (decide (l=r))):=by
 refine aO (cxOk 26 [0,1,4,5,10,12,13,14,24]) Tryz.func84 ?_
 conv=>whnf
 refine ⟨fun hlen=>?_,fun hlen=>?_⟩
 ·have hne:¬ l=r:=by
   intro h
   rw [h] at hlen
   simp at hlen
  rw [decide_eq_false hne]
  conv=>whnf
  rfl
 have hlen:l.length=r.length:=by simp at hlen;omega
 conv=>whnf
 refine loop_up (cxOk _ _) l.length (fun k=>∀ j,j<k→l.getD j []=r.getD j []) (fun k=>⟨[(0,.sl 1 encS [] l),(1,.sl 1 encS [] r),(4,.bool false),(12,.int .i64 (l.length:Nat)),(13,.int .i64 (k:Nat))],[],0⟩) (by intro j hj;omega) ((wk_of [] rfl ⟨wa0,wa0,wa0,wa0,wa0,trivial⟩ trivial)) ?_
 intro k hk hP
 conv=>whnf
 refine ⟨fun hd=>?_,fun hd=>?_⟩
 ·have hd:=of_decide_eq_true hd
  have hlt:k<l.length:=by omega
  have hek:(k:Int).toNat=k:=Int.toNat_natCast k
  conv=>whnf
  refine .quiet (by kernel_rfl) ?_;conv=>whnf
  refine iO ?_;conv=>whnf
  refine And.intro rfl ?_;conv=>whnf
  refine iO ?_;conv=>whnf
  refine And.intro rfl ?_;conv=>whnf
  rw [hek]
  conv=>whnf
  try (rw [hek];conv=>whnf)
  refine ⟨fun he=>?_,fun he=>?_⟩
  ·have hne:¬ l=r:=by
    intro h
    rw [h] at he
    simp at he
   rw [decide_eq_false hne]
   conv=>whnf
   rfl
  ·have he:l.getD k []=r.getD k []:=by simpa using he
   conv=>whnf
   refine iO ?_;conv=>whnf
   refine up hlt (fun j hj=>?_) ((wk_of [] rfl ⟨wa0,wa0,wa0,wa0,wa0,trivial⟩ trivial))
   by_cases e:j=k
   ·subst e;exact he
   ·exact hP j om0
 ·have hd:=of_decide_eq_false hd
  have he:l=r:=list_eq (d:=[]) hlen fun j hj=>hP j (by omega)
  rw [decide_eq_true he]
  conv=>whnf
  rfl
theorem eqsK_ok (l r:List CallE) (hl:l.length≤9223372036854775807) (hr:r.length≤9223372036854775807) :
  APureV Tryz.prog 85 [.sl 2 encK k0 l,.sl 2 encK k0 r] (.bool (decide (l=r))):=by
 refine aO (cxOk 26 [0,1,4,5,10,12,13,14,24]) Tryz.func85 ?_
 conv=>whnf
 refine ⟨fun hlen=>?_,fun hlen=>?_⟩
 ·have hne:¬ l=r:=by
   intro h
   rw [h] at hlen
   simp at hlen
  rw [decide_eq_false hne]
  conv=>whnf
  rfl
 have hlen:l.length=r.length:=by simp at hlen;omega
 conv=>whnf
 refine loop_up (cxOk _ _) l.length (fun k=>∀ j,j<k→l.getD j k0=r.getD j k0) (fun k=>⟨[(0,.sl 2 encK k0 l),(1,.sl 2 encK k0 r),(4,.bool false),(12,.int .i64 (l.length:Nat)),(13,.int .i64 (k:Nat))],[],0⟩) (by intro j hj;omega) ((wk_of [] rfl ⟨wa0,wa0,wa0,wa0,wa0,trivial⟩ trivial)) ?_
 intro k hk hP
 conv=>whnf
 refine ⟨fun hd=>?_,fun hd=>?_⟩
 ·have hd:=of_decide_eq_true hd
  have hlt:k<l.length:=by omega
  have hek:(k:Int).toNat=k:=Int.toNat_natCast k
  conv=>whnf
  refine .quiet (by kernel_rfl) ?_;conv=>whnf
  refine iO ?_;conv=>whnf
  refine And.intro rfl ?_;conv=>whnf
  refine iO ?_;conv=>whnf
  refine And.intro rfl ?_;conv=>whnf
  rw [hek]
  conv=>whnf
  try (rw [hek];conv=>whnf)
  refine And.intro ⟨by kernel_rfl,by kernel_rfl⟩ ?_
  conv=>whnf
  rw [show (decide ((l.getD k k0).a=(r.getD k k0).a)&&(decide ((l.getD k k0).b=(r.getD k k0).b)&&true))=decide (l.getD k k0=r.getD k k0) by rw [Bool.and_true];exact (eqK_dec _ _).symm]
  refine ⟨fun he=>?_,fun he=>?_⟩
  ·have hne:¬ l=r:=by
    intro h
    rw [h] at he
    simp at he
   rw [decide_eq_false hne]
   conv=>whnf
   rfl
  ·have he:l.getD k k0=r.getD k k0:=by simpa using he
   conv=>whnf
   refine iO ?_;conv=>whnf
   refine up hlt (fun j hj=>?_) ((wk_of [] rfl ⟨wa0,wa0,wa0,wa0,wa0,trivial⟩ trivial))
   by_cases e:j=k
   ·subst e;exact he
   ·exact hP j om0
 ·have hd:=of_decide_eq_false hd
  have he:l=r:=list_eq (d:=k0) hlen fun j hj=>hP j (by omega)
  rw [decide_eq_true he]
  conv=>whnf
  rfl
theorem sameexp_ok:∀ (k:Nat) (a b:Exp),SizeOf.sizeOf a≤k→OkE a→OkE b→APureV Tryz.prog 28 [encE a,encE b] (.bool (decide (a=b))):=by
 intro k
 induction k with
 | zero=>intro a b h;cases a;simp at h
 | succ k ih =>
  intro a b hk ha hb
  have hq:=eqfE_ok a.args b.args ha.alen hb.alen (fun x hx y hy=>ih x y (by have:=args_lt a hx;omega) (ha.arg x hx) (hb.arg y hy))
  rw [eqE_dec]
  refine aO (cxOk 38 [0,1,2,3,4]) Tryz.func28 ?_
  conv=>whnf
  refine .one _ _ _ (fun _=>hq) (.cons (lX (argsE_eq a)) (.cons (lX (argsE_eq b)) (.cons (lS rfl) .nil))) (.inl rfl) (.inr rfl) ?_
  conv=>whnf
  rfl
theorem same_ok (a b:Exp) (ha:OkE a) (hb:OkE b):APureV Tryz.prog 28 [encE a,encE b] (.bool (decide (a=b))):=sameexp_ok _ a b (Nat.le_refl _) ha hb
theorem samel_ok (a b:LetE) (ha:OkE a.body) (hb:OkE b.body):APureV Tryz.prog 87 [encL a,encL b] (.bool (decide (a=b))):=by
 have h:=same_ok a.body b.body ha hb
 rw [eqL_dec]
 refine aO (cxOk 17 [0,1,2,3,4]) Tryz.func87 ?_
 conv=>whnf
 refine cO (fun _=>h) ?_
 conv=>whnf
 rfl
theorem samec_ok (a b:Cov) (ha:OkE a.must) (hb:OkE b.must):APureV Tryz.prog 89 [encC a,encC b] (.bool (decide (a=b))):=by
 have h:=same_ok a.must b.must ha hb
 rw [eqC_dec]
 refine aO (cxOk 24 [0,1,2,3,4]) Tryz.func89 ?_
 conv=>whnf
 refine cO (fun _=>h) ?_
 conv=>whnf
 rfl
theorem sameexp2_ok:∀ (k:Nat) (a b:Exp),SizeOf.sizeOf a≤k→OkE a→OkE b→APureV Tryz.prog 15 [encE a,encE b] (.bool (decide (a=b))):=by
 intro k
 induction k with
 | zero=>intro a b h;cases a;simp at h
 | succ k ih =>
  intro a b hk ha hb
  have hla:=argsE_len a
  have hlb:=argsE_len b
  have ha2:=ha.alen
  have hb2:=hb.alen
  refine aO (cxOk 60 [0,1,2,3,4,5,40,45,59]) Tryz.func15 ?_
  conv=>whnf
  refine ⟨fun hne=>?_,fun hne=>?_⟩
  ·have hf:¬ a=b:=by
    intro h
    rw [h] at hne
    simp at hne
   rw [decide_eq_false hf]
   conv=>whnf
   rfl
  simp only [Bool.or_eq_false_iff,Bool.not_eq_false',decide_eq_true_eq] at hne
  obtain ⟨⟨⟨⟨e1,e2⟩,e3⟩,e4⟩,e5⟩:=hne
  conv=>whnf
  refine loop_up (cxOk _ _) a.args.length (fun k=>∀ j,j<k→a.args.getD j ex0=b.args.getD j ex0) (fun k=>⟨[(2,.ptr 0 0),(3,.ptr 1 0),(4,.bool false),(5,.int .i64 (k:Nat))],[(0,.cells 26 (cellsE a)),(1,.cells 26 (cellsE b))],2⟩) (by intro j hj;omega) ((wk_of [(0,.id 0),(1,.id 1)] rfl ⟨wc0,wc0,wa0,wa0,trivial⟩ ⟨wb0,wb0,trivial⟩)) ?_
  intro k hk2 hP
  conv=>whnf
  refine ⟨fun hd=>?_,fun hd=>?_⟩
  ·have hd:=of_decide_eq_true hd
   have hlt:k<a.args.length:=by omega
   have hlt2:k<b.args.length:=by omega
   have hek:(k:Int).toNat=k:=Int.toNat_natCast k
   have h:=ih (argOf a k) (argOf b k) (by have:=args_lt a (getD_argOf hlt);omega) (ha.arg _ (getD_argOf hlt)) (hb.arg _ (getD_argOf hlt2))
   conv=>whnf
   refine .quiet (by kernel_rfl) ?_
   conv=>whnf
   refine iO ?_;conv=>whnf
   refine And.intro rfl ?_;conv=>whnf
   rw [hek,argsE_get a hlt]
   conv=>whnf
   refine iO ?_;conv=>whnf
   refine And.intro rfl ?_;conv=>whnf
   rw [hek,argsE_get b hlt2]
   conv=>whnf
   refine .mk _ _ _ _ (fun _=>h) af0 rfl ?_
   conv=>whnf
   refine ⟨fun he=>?_,fun he=>?_⟩
   ·have hne2:¬ a=b:=by
     intro h
     rw [h] at he
     simp [argOf] at he
    rw [decide_eq_false hne2]
    conv=>whnf
    rfl
   ·have he:argOf a k=argOf b k:=by simpa using he
    conv=>whnf
    refine iO ?_;conv=>whnf
    refine up hlt (fun j hj=>?_) ((wk_of [(0,.id 0),(1,.id 1)] rfl ⟨wc0,wc0,wa0,wa0,trivial⟩ ⟨wb0,wb0,trivial⟩))
    by_cases e:j=k
    ·subst e;exact he
    ·exact hP j om0
  ·have hd:=of_decide_eq_false hd
   have he:a=b:=(Exp.ext_iff' a b).2 ⟨e1,e2,e3,e4,list_eq (d:=ex0) (by omega) fun j hj=>hP j (by omega)⟩
   rw [decide_eq_true he]
   conv=>whnf
   rfl
theorem same2_ok (a b:Exp) (ha:OkE a) (hb:OkE b):APureV Tryz.prog 15 [encE a,encE b] (.bool (decide (a=b))):=sameexp2_ok _ a b (Nat.le_refl _) ha hb
theorem ind_eq {a b:Ind} (h_name:a.name=b.name) (h_issuer:a.issuer=b.issuer) (h_face:a.face=b.face) (h_frm:a.frm=b.frm) (h_to:a.to=b.to) (h_every:a.every=b.every) (h_count:a.count=b.count) (h_adjust:a.adjust=b.adjust) (h_record:a.record=b.record) (h_rank:a.rank=b.rank) (h_lets:a.lets=b.lets) (h_coupon:a.coupon=b.coupon) (h_cap:a.cap=b.cap) (h_cov:a.cov=b.cov) (h_favour:a.favour=b.favour) (h_cross:a.cross=b.cross) (h_calls:a.calls=b.calls) (h_notice:a.notice=b.notice) (h_sink:a.sink=b.sink) (h_majority:a.majority=b.majority) (h_fast:a.fast=b.fast):a=b:=by
 cases a;cases b
 simp only at *
 subst h_name
 subst h_issuer
 subst h_face
 subst h_frm
 subst h_to
 subst h_every
 subst h_count
 subst h_adjust
 subst h_record
 subst h_rank
 subst h_lets
 subst h_coupon
 subst h_cap
 subst h_cov
 subst h_favour
 subst h_cross
 subst h_calls
 subst h_notice
 subst h_sink
 subst h_majority
 subst h_fast
 rfl
theorem eqI_dec (a b:Ind):decide (a=b)=((decide (a.name=b.name)&&decide (a.issuer=b.issuer)&&decide (a.face=b.face)&&decide (a.frm=b.frm)&&decide (a.to=b.to)&&decide (a.every=b.every)&&decide (a.count=b.count)&&decide (a.adjust=b.adjust)&&decide (a.record=b.record)&&decide (a.rank=b.rank))&&(decide (a.cap=b.cap)&&decide (a.cross=b.cross)&&decide (a.notice=b.notice)&&decide (a.sink=b.sink)&&decide (a.majority=b.majority)&&decide (a.fast=b.fast)&&decide (a.favour=b.favour)&&decide (a.calls=b.calls))&&decide (a.lets=b.lets)&&decide (a.cov=b.cov)&&decide (a.coupon=b.coupon)):=by
 rw [Bool.eq_iff_iff]
 simp only [Bool.and_eq_true,decide_eq_true_eq]
 constructor
 ·intro h
  rw [h]
  simp
 ·rintro ⟨⟨⟨⟨⟨⟨⟨⟨⟨⟨⟨⟨⟨h_name,h_issuer⟩,h_face⟩,h_frm⟩,h_to⟩,h_every⟩,h_count⟩,h_adjust⟩,h_record⟩,h_rank⟩,⟨⟨⟨⟨⟨⟨⟨h_cap,h_cross⟩,h_notice⟩,h_sink⟩,h_majority⟩,h_fast⟩,h_favour⟩,h_calls⟩⟩,h_lets⟩,h_cov⟩,h_coupon⟩
  exact ind_eq h_name h_issuer h_face h_frm h_to h_every h_count h_adjust h_record h_rank h_lets h_coupon h_cap h_cov h_favour h_cross h_calls h_notice h_sink h_majority h_fast
theorem samefn_ok (a b:Ind) (ha:OkX a) (hb:OkX b):APureV Tryz.prog 27 [encX a,encX b] (.bool (decide (a=b))):=by
 have q1:=eqsS_ok a.favour b.favour ha.favour hb.favour
 have q2:=eqsK_ok a.calls b.calls ha.calls hb.calls
 have q3:=eqfL_ok a.lets b.lets (by have:=ha.lets;omega) (by have:=hb.lets;omega) (fun x hx y hy=>samel_ok x y (ha.let1 x hx).2 (hb.let1 y hy).2)
 have q4:=eqfC_ok a.cov b.cov (by have:=ha.cov;omega) (by have:=hb.cov;omega) (fun x hx y hy=>samec_ok x y (ha.cov1 x hx).2.1 (hb.cov1 y hy).2.1)
 have q5:=same_ok a.coupon b.coupon ha.coupon hb.coupon
 rw [eqI_dec]
 refine aO (cxOk 158 [0,1,2,3,4,5,6,7,8]) Tryz.func27 ?_
 conv=>whnf
 refine cO (fun _=>q1) ?_
 conv=>whnf
 refine cO (fun _=>q2) ?_
 conv=>whnf
 refine cO (fun _=>q3) ?_
 conv=>whnf
 refine cO (fun _=>q4) ?_
 conv=>whnf
 refine cO (fun _=>q5) ?_
 conv=>whnf
 rfl
mutual
def nodesN:Nat→Exp→Int→Int
 | 0,_,m=>m+1
 | d+1,e,m=>if 40<e.s.length then m+1 else nodesL d m e.args 1
def nodesL:Nat→Int→List Exp→Int→Int
 | _,_,[],n=>n
 | d,m,x::l,n=>if n≤m then nodesL d m l (n+nodesN d x (m-n)) else n
end
theorem nodes_bnd:∀ (d:Nat),(∀ (e:Exp) (m:Int),0≤m→1≤nodesN d e m∧nodesN d e m≤m+1)∧(∀ (l:List Exp) (m n:Int),0≤m→1≤n→n≤m+1→n≤nodesL d m l n∧nodesL d m l n≤m+1):=by
 have step:∀ d,(∀ (e:Exp) (m:Int),0≤m→1≤nodesN d e m∧nodesN d e m≤m+1)→(∀ (l:List Exp) (m n:Int),0≤m→1≤n→n≤m+1→n≤nodesL d m l n∧nodesL d m l n≤m+1):=by
  intro d h l
  induction l with
  | nil=>intro m n h0 h1 h2;simp only [nodesL];omega
  | cons x l ih =>
   intro m n h0 h1 h2
   simp only [nodesL]
   split
   ·have:=h x (m-n) (by omega)
    have:=ih m (n+nodesN d x (m-n)) h0 (by omega) (by omega)
    omega
   ·omega
 intro d
 induction d with
 | zero =>
  have h0:∀ (e:Exp) (m:Int),0≤m→1≤nodesN 0 e m∧nodesN 0 e m≤m+1:=fun e m h=>by simp only [nodesN];omega
  exact ⟨h0,step 0 h0⟩
 | succ d ih =>
  have h0:∀ (e:Exp) (m:Int),0≤m→1≤nodesN (d+1) e m∧nodesN (d+1) e m≤m+1:=by
   intro e m h
   simp only [nodesN]
   split
   ·omega
   ·have:=ih.2 e.args m 1 h (by omega) (by omega)
    omega
  exact ⟨h0,step (d+1) h0⟩
theorem nodesL_stop {d:Nat} {m n:Int} (h:m<n):∀ (l:List Exp),nodesL d m l n=n
 | []=>by simp only [nodesL]
 | x::l=>by simp only [nodesL];rw [if_neg (by omega)]
theorem nodesL_snoc {d:Nat} {m:Int} {x:Exp}:∀ (l:List Exp) (n:Int),nodesL d m (l++[x]) n=if nodesL d m l n≤m then nodesL d m l n+nodesN d x (m-nodesL d m l n) else nodesL d m l n
 | [],n=>by simp only [List.nil_append,nodesL]
 | y::l,n=>by
  rw [List.cons_append]
  simp only [nodesL]
  by_cases h:n≤m
  ·rw [if_pos h,if_pos h,nodesL_snoc l]
  ·rw [if_neg h,if_neg h,if_neg h]
theorem nodes_ok:∀ (d:Nat) (e:Exp) (m:Int),d≤100→0≤m→m≤1000→OkE e→APureV Tryz.prog 92 [encE e,.int .i64 m,.int .i64 (d:Nat)] (.int .i64 (nodesN d e m)):=by
 intro d
 induction d with
 | zero =>
  intro e m _ h0 h1 hok
  have hsl:=hok.slen
  rw [show nodesN 0 e m=m+1 by simp only [nodesN]]
  refine aO (cxOk 45 [0,1,2,3,6,7,8,16,28]) Tryz.func92 ?_
  conv=>whnf
  refine ⟨fun _=>?_,fun hx=>(by simp at hx)⟩
  conv=>whnf
  refine iO ?_;conv=>whnf
  rfl
 | succ d ih =>
  intro e m hd h0 h1 hok
  have hal:=argsE_len e
  have hal2:=hok.alen
  have hsl:=hok.slen
  rw [show nodesN (d+1) e m=if 40<e.s.length then m+1 else nodesL d m e.args 1 by simp only [nodesN]]
  by_cases h40:40<e.s.length
  ·rw [if_pos h40]
   refine aO (cxOk 45 [0,1,2,3,6,7,8,16,28]) Tryz.func92 ?_
   conv=>whnf
   refine ⟨fun _=>?_,fun hx=>(by simp at hx;omega)⟩
   conv=>whnf
   refine iO ?_;conv=>whnf
   rfl
  rw [if_neg h40]
  refine aO (cxOk 45 [0,1,2,3,6,7,8,16,28]) Tryz.func92 ?_
  conv=>whnf
  refine ⟨fun hx=>(by simp at hx;omega),fun _=>?_⟩
  conv=>whnf
  refine loop_inv (cxOk _ _) (fun k:Nat=>k≤e.args.length) (fun k=>e.args.length-k) (fun k=>⟨[(0,encE e),(1,.int .i64 m),(2,.int .i64 ((d+1:Nat):Int)),(3,.ptr 0 0),(6,.int .i64 0),(7,.int .i64 (nodesL d m (e.args.take k) 1)),(8,.int .i64 (k:Nat))],[(0,.cells 26 (cellsE e))],1⟩) 0 (by show 0≤_;omega) ((wk_of [(0,.id 0)] rfl ⟨wa0,wa0,wa0,wc0,wa0,.base (.tree _ _ (congrArg (AV.int .i64) (by simp only [List.take_zero,nodesL])) rfl),wa0,trivial⟩ ⟨wb0,trivial⟩)) ?_
  intro k hk
  have hk:k≤e.args.length:=hk
  have hb:=(nodes_bnd d).2 (e.args.take k) m 1 h0 (by omega) (by omega)
  conv=>whnf
  by_cases hgo:k<e.args.length∧nodesL d m (e.args.take k) 1≤m
  ·obtain ⟨hlt,hle⟩:=hgo
   have hek:(k:Int).toNat=k:=Int.toNat_natCast k
   have hrec:=ih (argOf e k) (m-nodesL d m (e.args.take k) 1) (by omega) (by omega) (by omega) (hok.arg _ (getD_argOf hlt))
   have hb2:=(nodes_bnd d).1 (argOf e k) (m-nodesL d m (e.args.take k) 1) (by omega)
   refine ⟨fun _=>?_,fun hx=>(by simp at hx;omega)⟩
   conv=>whnf
   refine iO ?_;conv=>whnf
   refine And.intro rfl ?_;conv=>whnf
   rw [hek,argsE_get e hlt]
   conv=>whnf
   refine iO ?_;conv=>whnf
   refine iO ?_;conv=>whnf
   rw [show (((d+1:Nat):Int)-1)=(d:Int) by omega]
   refine cO (fun _=>hrec) ?_
   conv=>whnf
   refine iO ?_
   conv=>whnf
   refine iO ?_
   conv=>whnf
   exact ⟨k+1,hlt,(by show e.args.length-(k+1)<e.args.length-k;omega),(wk_of [(0,.id 0)] rfl ⟨wa0,wa0,wa0,wc0,wa0,.base (.tree _ _ (congrArg (AV.int .i64) (by rw [take_getD (d:=ex0) hlt,nodesL_snoc,if_pos hle];rfl)) rfl),wa0,trivial⟩ ⟨wb0,trivial⟩)⟩
  ·refine ⟨fun hx=>(by simp at hx;omega),fun _=>?_⟩
   conv=>whnf
   have he:nodesL d m e.args 1=nodesL d m (e.args.take k) 1:=by
    by_cases hke:k=e.args.length
    ·rw [hke,List.take_length]
    ·have hlt2:m<nodesL d m (e.args.take k) 1:=by omega
     have:∀ (l r:List Exp) (n:Int),m<nodesL d m l n→nodesL d m (l++r) n=nodesL d m l n:=by
      intro l
      induction l with
      | nil=>intro r n h;simp only [nodesL] at h;rw [List.nil_append,nodesL_stop h];simp only [nodesL]
      | cons y l ih =>
       intro r n h
       rw [List.cons_append]
       simp only [nodesL] at h ⊢
       by_cases hn:n≤m
       ·rw [if_pos hn] at h ⊢
        rw [if_pos hn]
        exact ih r _ h
       ·rw [if_neg hn,if_neg hn]
     have h2:=this (e.args.take k) (e.args.drop k) 1 hlt2
     rw [List.take_append_drop] at h2
     exact h2
   rw [he]
   rfl
def fewE (e:Exp):Bool:=decide (nodesN 16 e 60≤60)
theorem fewexp_ok (e:Exp) (hok:OkE e):APureV Tryz.prog 33 [encE e] (.bool (fewE e)):=by
 have h:=nodes_ok 16 e 60 (by decide) (by decide) (by decide) hok
 refine aO (cxOk 6 [0,1,2]) Tryz.func33 ?_
 conv=>whnf
 refine cO (fun _=>h) ?_
 conv=>whnf
 rfl
def few0 (x:Ind):Bool:=!(decide (22<(x.lets.length:Int))||decide (22<(x.cov.length:Int))||decide (22<(x.favour.length:Int))||decide (22<(x.calls.length:Int))||decide (40<(x.name.length:Int))||decide (40<(x.issuer.length:Int))||!fewE x.coupon)
def fewL (l:LetE):Bool:=!(decide (40<(l.name.length:Int))||!fewE l.body)
def fewC (c:Cov):Bool:=!(decide (40<(c.name.length:Int))||!fewE c.must)
def fewS (s:List UInt8):Bool:=!decide (40<(s.length:Int))
def fewX (x:Ind):Bool:=few0 x&&x.lets.all fewL&&x.cov.all fewC&&x.favour.all fewS
theorem args_0 {e:Exp} (h:(e.args.length:Int)=0):e.args=[]:=List.length_eq_zero_iff.1 (by omega)
theorem args_1 {e:Exp} (h:(e.args.length:Int)=1):∃ x,e.args=[x]:=List.length_eq_one_iff.1 (by omega)
theorem args_2 {e:Exp} (h:(e.args.length:Int)=2):∃ x y,e.args=[x,y]:=by
 match hl:e.args,(show e.args.length=2 by omega) with
 | [x,y],_=>exact ⟨x,y,rfl⟩
theorem args_3 {e:Exp} (h:(e.args.length:Int)=3):∃ x y z,e.args=[x,y,z]:=by
 match hl:e.args,(show e.args.length=3 by omega) with
 | [x,y,z],_=>exact ⟨x,y,z,rfl⟩
theorem name_len20 {s:List UInt8} (h:nameB s=true):s.length≤20:=by
 unfold nameB wordB at h
 simp only [Bool.and_eq_true,decide_eq_true_eq] at h
 exact h.1.1.2
theorem right_mk (d:Nat) (op n u:Int) (s:List UInt8) (args:List Exp):rightB (d+1) (.mk op n u s args) =
  if (args.length:Int)≠opsN op then false
  else if op=0 then decide (s=[])&&inB 0 4 [u]&&inB 0 (if u=4 then 1 else 1000000000000000) [n]
  else if op=1∨op=2∨op=3 then decide (n=0)&&decide (u=0)&&nameB s
  else if op=16∨op=17∨op=18 then decide (u=0)&&decide (s=[])&&inB 1 1000 [n]&&rightB d (args.getD 0 ex0)
  else decide (n=0)&&decide (u=0)&&decide (s=[])&&!(args.any fun x=>!rightB d x):=rfl
theorem right_wf:∀ (d:Nat) (e:Exp),rightB d e=true→WfE e∧lev e≤d
 | 0,e,h=>by cases h
 | d+1,⟨op,n,u,s,args⟩,h=>by
  rw [right_mk] at h
  by_cases hl:(args.length:Int)≠opsN op
  ·rw [if_pos hl] at h;cases h
  rw [if_neg hl] at h
  have hl:=Decidable.of_not_not hl
  unfold opsN at hl
  have lv:∀ l:List Exp,lev (.mk op n u s l)=levs l+1:=fun l=>by rw [lev]
  by_cases h0:op=0
  ·rw [if_pos h0] at h
   subst h0
   simp only [Bool.and_eq_true,decide_eq_true_eq] at h
   obtain ⟨⟨hs,hu⟩,hn⟩:=h
   have hu:=inB_one hu
   have hn:=inB_one hn
   have ha:=args_0 (e:=.mk 0 n u s args) (by simpa [Exp.args] using hl)
   have ha:args=[]:=ha
   subst ha hs
   refine ⟨?_,by rw [lv];simp [levs]⟩
   by_cases h4:u=4
   ·subst h4
    rw [if_pos rfl] at hn
    exact .boo n om0
   ·rw [if_neg h4] at hn
    exact .num n u hn.1 hn.2 om0
  rw [if_neg h0] at h
  by_cases h1:op=1∨op=2∨op=3
  ·rw [if_pos h1] at h
   simp only [Bool.and_eq_true,decide_eq_true_eq] at h
   obtain ⟨⟨hn,hu⟩,hs⟩:=h
   rw [if_pos (by omega)] at hl
   have ha:args=[]:=args_0 (e:=.mk op n u s args) hl
   subst ha hn hu
   exact ⟨.name op s h1 hs (by have:=name_len20 hs;omega),by rw [lv];simp [levs]⟩
  rw [if_neg h1] at h
  rw [if_neg (by omega)] at hl
  by_cases h2:op=16∨op=17∨op=18
  ·rw [if_pos h2] at h
   simp only [Bool.and_eq_true,decide_eq_true_eq] at h
   obtain ⟨⟨⟨hu,hs⟩,hn⟩,hx⟩:=h
   rw [if_pos (by omega)] at hl
   obtain ⟨x,ha⟩:=args_1 (e:=.mk op n u s args) hl
   have ha:args=[x]:=ha
   subst ha hu hs
   have ih:=right_wf d x hx
   refine ⟨.within op n x h2 (inB_one hn) ih.1,?_⟩
   rw [lv];simp only [levs];omega
  rw [if_neg h2] at h
  simp only [Bool.and_eq_true,decide_eq_true_eq,Bool.not_eq_true',List.any_eq_false,Bool.not_eq_true] at h
  obtain ⟨⟨⟨hn,hu⟩,hs⟩,hx⟩:=h
  subst hn hu hs
  have hx':∀ a∈args,WfE a∧lev a≤d:=fun a ha=>right_wf d a (by simpa using hx a ha)
  by_cases h12:op=12
  ·subst h12
   rw [if_pos (by omega)] at hl
   obtain ⟨x,ha⟩:=args_1 (e:=.mk 12 0 0 [] args) hl
   have ha:args=[x]:=ha
   subst ha
   have ih:=hx' x (by simp)
   refine ⟨.not x ih.1,?_⟩
   rw [lv];simp only [levs];omega
  rw [if_neg (by omega)] at hl
  by_cases h15:op=15
  ·subst h15
   rw [if_pos rfl] at hl
   obtain ⟨x,y,z,ha⟩:=args_3 (e:=.mk 15 0 0 [] args) hl
   have ha:args=[x,y,z]:=ha
   subst ha
   have i1:=hx' x (by simp)
   have i2:=hx' y (by simp)
   have i3:=hx' z (by simp)
   refine ⟨.cond x y z i1.1 i2.1 i3.1,?_⟩
   rw [lv];simp only [levs];omega
  rw [if_neg h15] at hl
  split at hl
  ·omega
  rename_i ho
  obtain ⟨x,y,ha⟩:=args_2 (e:=.mk op 0 0 [] args) hl
  have ha:args=[x,y]:=ha
  subst ha
  have i1:=hx' x (by simp)
  have i2:=hx' y (by simp)
  refine ⟨.pair op x y om0 i1.1 i2.1,?_⟩
  rw [lv];simp only [levs];omega
theorem wf_right {e:Exp} (h:WfE e):∀ d:Nat,lev e≤d→rightB d e=true:=by
 have i1:∀ a b n:Int,a≤n∧n≤b→inB a b [n]=true:=fun a b n h=>by unfold inB;simp [h.1,h.2]
 induction h with
 | num n u h0 h1 hu =>
  intro d hd
  obtain ⟨d,rfl⟩:∃ g,d=g+1:=⟨d-1,by simp only [lev] at hd;omega⟩
  rw [right_mk]
  have h4:¬ u=4:=by omega
  simp [Exp.op,Exp.n,Exp.unit,Exp.s,Exp.args,opsN,h4,i1 0 4 u (by omega),i1 0 1000000000000000 n ⟨h0,h1⟩]
 | boo n h =>
  intro d hd
  obtain ⟨d,rfl⟩:∃ g,d=g+1:=⟨d-1,by simp only [lev] at hd;omega⟩
  rw [right_mk]
  simp [Exp.op,Exp.n,Exp.unit,Exp.s,Exp.args,opsN,i1 0 4 4 (by omega),i1 0 1 n (by omega)]
 | name op s ho hn hl =>
  intro d hd
  obtain ⟨d,rfl⟩:∃ g,d=g+1:=⟨d-1,by simp only [lev] at hd;omega⟩
  rw [right_mk]
  rcases ho with rfl | rfl | rfl<;>simp [Exp.op,Exp.n,Exp.unit,Exp.s,Exp.args,opsN,hn]
 | within op n x ho hn hx ih =>
  intro d hd
  obtain ⟨d,rfl⟩:∃ g,d=g+1:=⟨d-1,by simp only [lev] at hd;omega⟩
  have hx:=ih d (by simp only [lev,levs] at hd;omega)
  rw [right_mk]
  rcases ho with rfl | rfl | rfl<;>simp [Exp.op,Exp.n,Exp.unit,Exp.s,Exp.args,argOf,opsN,hx,i1 1 1000 n hn]
 | not x hx ih =>
  intro d hd
  obtain ⟨d,rfl⟩:∃ g,d=g+1:=⟨d-1,by simp only [lev] at hd;omega⟩
  have hx:=ih d (by simp only [lev,levs] at hd;omega)
  rw [right_mk]
  simp [Exp.op,Exp.n,Exp.unit,Exp.s,Exp.args,opsN,hx]
 | pair op x y ho hx hy ihx ihy =>
  intro d hd
  obtain ⟨d,rfl⟩:∃ g,d=g+1:=⟨d-1,by simp only [lev] at hd;omega⟩
  have h1:=ihx d (by simp only [lev,levs] at hd;omega)
  have h2:=ihy d (by simp only [lev,levs] at hd;omega)
  have ho':opsN op=2:=by unfold opsN;rw [if_neg (by omega),if_neg (by omega),if_neg (by omega),if_neg (by omega)]
  rw [right_mk]
  rw [ho']
  rw [if_neg (by simp),if_neg (by omega),if_neg (by omega),if_neg (by omega)]
  simp [h1,h2]
 | cond x y z hx hy hz ihx ihy ihz =>
  intro d hd
  obtain ⟨d,rfl⟩:∃ g,d=g+1:=⟨d-1,by simp only [lev] at hd;omega⟩
  have h1:=ihx d (by simp only [lev,levs] at hd;omega)
  have h2:=ihy d (by simp only [lev,levs] at hd;omega)
  have h3:=ihz d (by simp only [lev,levs] at hd;omega)
  rw [right_mk]
  simp [Exp.op,Exp.n,Exp.unit,Exp.s,Exp.args,opsN,h1,h2,h3]
theorem rightE_iff (e:Exp):rightE e=true↔WfE e∧lev e≤12:=⟨right_wf 12 e,fun h=>wf_right h.1 12 h.2⟩
theorem uniq_iff (l:List (List UInt8)) (m:Int):uniqB l m=true↔(∀ s∈l,nameB s=true)∧l.Nodup∧(l.length:Int)≤m:=by
 unfold uniqB uqB
 simp only [Bool.and_eq_true,List.all_eq_true,List.mem_range,Bool.not_eq_true',decide_eq_false_iff_not,decide_eq_true_eq]
 have hg:∀ k,(h:k<l.length)→l.getD k []=l[k]:=fun k h=>by rw [List.getD_eq_getElem?_getD,List.getElem?_eq_getElem h];rfl
 constructor
 ·rintro ⟨h,hl⟩
  refine ⟨fun s hs=>?_,?_,hl⟩
  ·obtain ⟨k,hk,rfl⟩:=List.getElem_of_mem hs
   rw [← hg k hk]
   exact (h k hk).1
  ·rw [List.nodup_iff_pairwise_ne,List.pairwise_iff_getElem]
   intro i j hi hj hij he
   refine (h j hj).2 ?_
   rw [hg j hj,← he]
   rw [List.mem_iff_getElem]
   exact ⟨i,by rw [List.length_take];omega,by rw [List.getElem_take]⟩
 ·rintro ⟨h1,h2,hl⟩
  refine ⟨fun k hk=>⟨by rw [hg k hk];exact h1 _ (List.getElem_mem _),?_⟩,hl⟩
  rw [hg k hk,List.mem_iff_getElem]
  rintro ⟨i,hi,he⟩
  rw [List.length_take] at hi
  rw [List.getElem_take] at he
  rw [List.nodup_iff_pairwise_ne,List.pairwise_iff_getElem] at h2
  exact h2 i k om0 hk om0 he
def Uq (l:List (List UInt8)):Prop:=(∀ s∈l,nameB s=true)∧l.Nodup
set_option maxHeartbeats 4000000
theorem rightE_okE {e:Exp} (h:rightE e=true):OkE e:=((rightE_iff e).1 h).1.okE
theorem Rt.okX {x:Ind} (h:Rt x):OkX x:=by
 have n1:∀ l:List (List UInt8),uniqB l 20=true→l.length≤20∧∀ s∈l,s.length≤20:=fun l hl=>by
  obtain ⟨a,b,c⟩:=(uniq_iff l 20).1 hl
  exact ⟨by omega,fun s hs=>name_len20 (a s hs)⟩
 obtain ⟨l1,l2⟩:=n1 _ h.ulets
 obtain ⟨c1,c2⟩:=n1 _ h.ucov
 obtain ⟨f1,f2⟩:=n1 _ h.fav
 rw [List.length_map] at l1 c1
 have:=name_len20 h.name
 have:=name_len20 h.issuer
 have:=h.ncalls
 have i:∀ n a b:Int,a≤n∧n≤b→-9223372036854775808≤a→b≤9223372036854775807→in64 n:=fun n a b h1 h2 h3=>⟨by omega,by omega⟩
 exact ⟨by omega,by omega,rightE_okE h.coupon,by omega,fun l hl=>⟨by have:=l2 l.name (List.mem_map_of_mem hl);omega,rightE_okE (h.lets l hl)⟩,by omega,
  fun c hc=>⟨by have:=c2 c.name (List.mem_map_of_mem hc);omega,rightE_okE (h.cov c hc).1,i _ _ _ (h.cov c hc).2 (by omega) (by omega)⟩,
  by omega,fun s hs=>by have:=f2 s hs;omega,by omega,fun c hc=>⟨i _ _ _ (h.calls c hc).1 (by omega) (by omega),i _ _ _ (h.calls c hc).2 (by omega) (by omega)⟩,
  i _ _ _ h.face (by omega) (by omega),i _ _ _ h.frm (by omega) (by omega),i _ _ _ h.to (by omega) (by omega),i _ _ _ h.every (by omega) (by omega),i _ _ _ h.count (by omega) (by omega),i _ _ _ h.adjust (by omega) (by omega),i _ _ _ h.record (by omega) (by omega),i _ _ _ h.rank (by omega) (by omega),i _ _ _ h.cap (by omega) (by omega),i _ _ _ h.cross (by omega) (by omega),i _ _ _ h.notice (by omega) (by omega),i _ _ _ h.sink (by omega) (by omega),i _ _ _ h.majority (by omega) (by omega),i _ _ _ h.fast (by omega) (by omega)⟩
theorem parseE_right {s:List UInt8} {x:Exp} (h:parseER s=.ok x):rightE x=true:=by
 unfold parseER at h
 cases e1:lexR s with
 | error e=>rw [e1] at h;cases h
 | ok T =>
  rw [e1] at h
  dsimp only at h
  cases e2:expP T.length 0 T with
  | error e=>rw [e2] at h;cases h
  | ok v =>
   obtain ⟨y,r⟩:=v
   rw [e2] at h
   dsimp only at h
   have hm:=expP_made T _ _ _ _ _ (lexR_ok e1) e2
   split at h
   ·cases h
   split at h
   ·rename_i hl
    cases h
    exact (rightE_iff _).2 ⟨hm.1,by omega⟩
   ·cases h
def decF:Nat→Nat→List UInt8
 | 0,_=>[]
 | k+1,u=>if u<10 then [UInt8.ofNat (48+u)] else decF k (u / 10)++[UInt8.ofNat (48+u % 10)]
theorem dec_F:∀ (k u:Nat),u<10 ^ k→1≤k→Lib.decDigits u=decF k u
 | 0,_,_,h=>absurd h (by decide)
 | k+1,u,h,_=>by
  rw [Lib.decDigits,decF]
  split
  ·rfl
  ·rename_i hu
   have hk:1≤k:=by
    rcases Nat.eq_zero_or_pos k with rfl | h'
    ·rw [Nat.zero_add,Nat.pow_one] at h;omega
    ·exact h'
   rw [dec_F k (u / 10) (by rw [Nat.pow_succ] at h;omega) hk]
theorem itoa_F (u:Nat) (h:u<10 ^ 4):Lib.itoa (u:Int)=decF 4 u:=by rw [Lib.itoa_nonneg,dec_F 4 u h (by decide)]
theorem it1:Lib.itoa 1=[49]:=(itoa_F 1 (by decide)).trans (by decide)
theorem it2:Lib.itoa 2=[50]:=(itoa_F 2 (by decide)).trans (by decide)
theorem it3:Lib.itoa 3=[51]:=(itoa_F 3 (by decide)).trans (by decide)
theorem it5:Lib.itoa 5=[53]:=(itoa_F 5 (by decide)).trans (by decide)
theorem it6:Lib.itoa 6=[54]:=(itoa_F 6 (by decide)).trans (by decide)
theorem it15:Lib.itoa 15=[49,53]:=(itoa_F 15 (by decide)).trans (by decide)
theorem it20:Lib.itoa 20=[50,48]:=(itoa_F 20 (by decide)).trans (by decide)
theorem it30:Lib.itoa 30=[51,48]:=(itoa_F 30 (by decide)).trans (by decide)
theorem it100:Lib.itoa 100=[49,48,48]:=(itoa_F 100 (by decide)).trans (by decide)
theorem it250:Lib.itoa 250=[50,53,48]:=(itoa_F 250 (by decide)).trans (by decide)
theorem it667:Lib.itoa 667=[54,54,55]:=(itoa_F 667 (by decide)).trans (by decide)
theorem it1000:Lib.itoa 1000=[49,48,48,48]:=(itoa_F 1000 (by decide)).trans (by decide)
theorem it1010:Lib.itoa 1010=[49,48,49,48]:=(itoa_F 1010 (by decide)).trans (by decide)
theorem it2000:Lib.itoa 2000=[50,48,48,48]:=(itoa_F 2000 (by decide)).trans (by decide)
theorem it2005:Lib.itoa 2005=[50,48,48,53]:=(itoa_F 2005 (by decide)).trans (by decide)
theorem it2010:Lib.itoa 2010=[50,48,49,48]:=(itoa_F 2010 (by decide)).trans (by decide)
theorem it5000:Lib.itoa 5000=[53,48,48,48]:=(itoa_F 5000 (by decide)).trans (by decide)
theorem fo0:formO 0=7:=by kernel_rfl
theorem fo1:formO 1=7:=by kernel_rfl
theorem fo2:formO 2=7:=by kernel_rfl
theorem fo3:formO 3=7:=by kernel_rfl
theorem fo4:formO 4=5:=by kernel_rfl
theorem fo6:formO 6=6:=by kernel_rfl
theorem fo7:formO 7=6:=by kernel_rfl
theorem fo10:formO 10=4:=by kernel_rfl
theorem fo17:formO 17=7:=by kernel_rfl
theorem op4:oprL[(oprI 4).toNat]?.getD o0=⟨[43],4,5⟩:=by kernel_rfl
theorem op6:oprL[(oprI 6).toNat]?.getD o0=⟨[42],6,6⟩:=by kernel_rfl
theorem op7:oprL[(oprI 7).toNat]?.getD o0=⟨[47],7,6⟩:=by kernel_rfl
theorem op10:oprL[(oprI 10).toNat]?.getD o0=⟨[60],10,4⟩:=by kernel_rfl
def docT:List UInt8:=[105,115,115,117,101,32,97,32,111,102,32,98,32,59,32,102,97,99,101,32,49,48,48,48,32,59,32,102,114,111,109,32,50,48,48,48,32,45,32,49,32,45,32,49,53,32,116,111,32,50,48,49,48,32,45,32,49,32,45,32,49,53,32,101,118,101,114,121,32,54,32,109,111,110,116,104,115,32,59,32,99,111,117,110,116,32,116,104,105,114,116,121,32,59,32,97,100,106,117,115,116,32,110,101,120,116,32,59,32,114,101,99,111,114,100,32,50,32,59,32,114,97,110,107,32,49,32,59,32,108,101,116,32,98,97,115,101,32,61,32,50,48,32,109,105,108,108,101,32,59,32,99,111,117,112,111,110,32,98,97,115,101,32,43,32,114,97,116,101,32,99,32,47,32,50,32,59,32,99,97,112,32,49,48,48,32,59,32,99,111,118,101,110,97,110,116,32,99,111,118,101,114,32,109,117,115,116,32,102,97,99,116,32,100,101,98,116,32,60,32,51,32,42,32,102,97,99,116,32,101,98,105,116,32,103,114,97,99,101,32,51,48,32,59,32,102,97,118,111,117,114,32,99,32,59,32,99,114,111,115,115,32,53,48,48,48,32,59,32,99,97,108,108,32,50,48,48,53,32,45,32,49,32,45,32,49,53,32,97,116,32,49,48,49,48,32,59,32,109,97,106,111,114,105,116,121,32,54,54,55,32,59,32,102,97,115,116,32,50,53,48,32,59]
def exT:List UInt8:=[108,111,110,103,32,51,48,40,102,97,99,116,32,100,101,98,116,60,50,42,102,97,99,116,32,99,97,115,104,41]
def exE:Exp:=.mk 17 30 0 [] [.mk 10 0 0 [] [.mk 2 0 0 [100,101,98,116] [],.mk 6 0 0 [] [.mk 0 2 0 [] [],.mk 2 0 0 [99,97,115,104] []]]]
theorem ex1:parseER exT=.ok exE:=by kernel_rfl
theorem sh1:showT 12 exE 0=[108,111,110,103]++[32]++Lib.itoa 30++[32,40,32]++([102,97,99,116,32,100,101,98,116]++[32]++[60]++[32]++(Lib.itoa 2++[32]++[42]++[32]++[102,97,99,116,32,99,97,115,104]))++[32,41]:=by simp [showT,bodyT,exE,argOf,Exp.op,Exp.n,Exp.unit,Exp.s,Exp.args,numT,fo0,fo1,fo2,fo3,fo4,fo6,fo7,fo10,fo17,op4,op6,op7,op10]
theorem ri1:rightE exE=true:=by kernel_rfl
theorem ex2:printE exE=([108,111,110,103,32,51,48,32,40,32,102,97,99,116,32,100,101,98,116,32,60,32,50,32,42,32,102,97,99,116,32,99,97,115,104,32,41],0):=by
 unfold printE
 rw [if_pos ri1,sh1,it30,it2]
 kernel_rfl
def sumE:Exp:=.mk 4 0 0 [] [.mk 3 0 0 [97] [],.mk 0 5 2 [] []]
def mulE:Exp:=.mk 6 0 0 [] [.mk 0 3 0 [] [],sumE]
theorem sh2:showT 12 mulE 0=Lib.itoa 3++[32]++[42]++[32]++([40,32]++([114,97,116,101,32,97]++[32]++[43]++[32]++(Lib.itoa 5++[32,109,105,108,108,101]))++[32,41]):=by simp [showT,bodyT,sumE,mulE,argOf,Exp.op,Exp.n,Exp.unit,Exp.s,Exp.args,numT,fo0,fo1,fo2,fo3,fo4,fo6,fo7,fo10,fo17,op4,op6,op7,op10]
theorem ri2:rightE mulE=true:=by kernel_rfl
theorem ex3:printE mulE=([51,32,42,32,40,32,114,97,116,101,32,97,32,43,32,53,32,109,105,108,108,101,32,41],0):=by
 unfold printE
 rw [if_pos ri2,sh2,it3,it5]
 kernel_rfl
theorem ex4:parseR [105,115,115,117,101,32,97,32,111,102,32,98,32,59,32,102,97,99,101,32,48,32,59]=.error (20,3):=by kernel_rfl
theorem ex5:parseR [105,115,115,117,101,32,97,32,111,102,32,98,32,59,32,102,97,99,101,32,49,32,59,32,102,114,111,109,32,50,48,48,49,32,45,32,50,32,45,32,50,57,32,116,111]=.error (40,23):=by kernel_rfl
theorem ex6:parseER [49,32,99,111,105,110,115,32,50]=.error (8,12):=by kernel_rfl
def cpnE:Exp:=.mk 4 0 0 [] [.mk 1 0 0 [98,97,115,101] [],.mk 7 0 0 [] [.mk 3 0 0 [99] [],.mk 0 2 0 [] []]]
def mustE:Exp:=.mk 10 0 0 [] [.mk 2 0 0 [100,101,98,116] [],.mk 6 0 0 [] [.mk 0 3 0 [] [],.mk 2 0 0 [101,98,105,116] []]]
def docX:Ind:=⟨[97],[98],1000,36538,40191,6,0,1,2,1,[⟨[98,97,115,101],.mk 0 20 2 [] []⟩],cpnE,100,[⟨[99,111,118,101,114],mustE,30⟩],[[99]],5000,[⟨38365,1010⟩],0,0,667,250⟩
theorem doc2:parseR docT=.ok docX:=by kernel_rfl
theorem sh3:showT 12 (.mk 0 20 2 [] []) 0=Lib.itoa 20++[32,109,105,108,108,101]:=by simp [showT,bodyT,cpnE,mustE,argOf,Exp.op,Exp.n,Exp.unit,Exp.s,Exp.args,numT,fo0,fo1,fo2,fo3,fo4,fo6,fo7,fo10,fo17,op4,op6,op7,op10]
theorem sh4:showT 12 cpnE 0=[98,97,115,101]++[32]++[43]++[32]++([114,97,116,101,32,99]++[32]++[47]++[32]++Lib.itoa 2):=by simp [showT,bodyT,cpnE,mustE,argOf,Exp.op,Exp.n,Exp.unit,Exp.s,Exp.args,numT,fo0,fo1,fo2,fo3,fo4,fo6,fo7,fo10,fo17,op4,op6,op7,op10]
theorem sh5:showT 12 mustE 0=[102,97,99,116,32,100,101,98,116]++[32]++[60]++[32]++(Lib.itoa 3++[32]++[42]++[32]++[102,97,99,116,32,101,98,105,116]):=by simp [showT,bodyT,cpnE,mustE,argOf,Exp.op,Exp.n,Exp.unit,Exp.s,Exp.args,numT,fo0,fo1,fo2,fo3,fo4,fo6,fo7,fo10,fo17,op4,op6,op7,op10]
theorem da1:dayT 36538=Lib.itoa 2000++[32,45,32]++Lib.itoa 1++[32,45,32]++Lib.itoa 15:=by kernel_rfl
theorem da2:dayT 40191=Lib.itoa 2010++[32,45,32]++Lib.itoa 1++[32,45,32]++Lib.itoa 15:=by kernel_rfl
theorem da3:dayT 38365=Lib.itoa 2005++[32,45,32]++Lib.itoa 1++[32,45,32]++Lib.itoa 15:=by kernel_rfl
theorem li1:linesW docX=[[[105,115,115,117,101],[97],[111,102],[98]],[[102,97,99,101],Lib.itoa 1000],
 [[102,114,111,109],dayT 36538,[116,111],dayT 40191,[101,118,101,114,121],Lib.itoa 6,[109,111,110,116,104,115]],[[99,111,117,110,116],[116,104,105,114,116,121]],[[97,100,106,117,115,116],[110,101,120,116]],[[114,101,99,111,114,100],Lib.itoa 2],[[114,97,110,107],Lib.itoa 1],
 [[108,101,116],[98,97,115,101],[61],showT 12 (.mk 0 20 2 [] []) 0],[[99,111,117,112,111,110],showT 12 cpnE 0],[[99,97,112],Lib.itoa 100],[[99,111,118,101,110,97,110,116],[99,111,118,101,114],[109,117,115,116],showT 12 mustE 0,[103,114,97,99,101],Lib.itoa 30],
 [[102,97,118,111,117,114],[99]],[[99,114,111,115,115],Lib.itoa 5000],[[99,97,108,108],dayT 38365,[97,116],Lib.itoa 1010],[[109,97,106,111,114,105,116,121],Lib.itoa 667],[[102,97,115,116],Lib.itoa 250]]:=by kernel_rfl
theorem ri3:rightI docX=true:=by kernel_rfl
theorem doc3:(printI docX).2=0∧(printI docX).1.length=docT.length+1:=by
 have h:printI docX=fitsT (txt (linesW docX)):=by unfold printI;rw [if_pos ri3]
 rw [h,li1,da1,da2,da3,sh3,sh4,sh5,it1,it2,it3,it6,it15,it20,it30,it100,it250,it667,it1000,it1010,it2000,it2005,it2010,it5000]
 constructor<;>kernel_rfl
theorem parse_ok (s:List UInt8) (hs:s.length≤9223372036854775807):APure Tryz.prog 10 [.str s] (fun rs=>rs=parA (parseR s)):=by
 cases h:lexR s with
 | error e =>
  have hp:parseR s=.error e:=by unfold parseR;rw [h]
  rw [hp]
  exact parse_lex s hs h
 | ok T=>exact parse_go s hs h
theorem parseE_ok (s:List UInt8) (hs:s.length≤9223372036854775807):APure Tryz.prog 12 [.str s] (fun rs=>rs=parEA (parseER s)):=by
 cases h:lexR s with
 | error e =>
  have hp:parseER s=.error e:=by unfold parseER;rw [h]
  rw [hp]
  exact parseE_lex s hs h
 | ok T=>exact parseE_go s hs h
theorem text37:APureV Tryz.prog 37 [] (.str docT):=by
 refine aO (cxOk 1 [0]) Tryz.func37 ?_
 conv=>whnf
 rfl
theorem okE_sum:OkE sumE:=rightE_okE (by kernel_rfl)
theorem okE_mul:OkE mulE:=rightE_okE ri2
theorem rt_doc:Rt docX:=(right_iff _).1 ri3
theorem right_bad:rightI i0=false:=by kernel_rfl
theorem rightE_bad:rightE (.mk 1 0 0 [] [])=false:=by kernel_rfl
theorem rightE_sum:rightE sumE=true:=by kernel_rfl
theorem name_per:nameB [112,101,114,105,111,100]=true:=by kernel_rfl
theorem name_coi:nameB [99,111,105,110,115]=false:=by kernel_rfl
theorem okX_0:OkX i0:=by
 have i:in64 0:=⟨by omega,by omega⟩
 have e:OkE ex0:=.mk i i i (by show ([]:List UInt8).length≤_;simp) (by show ([]:List Exp).length≤_;simp) (fun a ha=>by cases ha)
 exact ⟨by decide,by decide,e,by decide,(fun l hl=>by cases hl),by decide,(fun l hl=>by cases hl),by decide,(fun l hl=>by cases hl),by decide,(fun l hl=>by cases hl),i,i,i,i,i,i,i,i,i,i,i,i,i,i⟩
theorem okE_name:OkE (.mk 1 0 0 [] []):=by
 have i:in64 0:=⟨by omega,by omega⟩
 exact .mk ⟨by show -9223372036854775808≤(1:Int);omega,by show (1:Int)≤9223372036854775807;omega⟩ i i (by show ([]:List UInt8).length≤_;simp) (by show ([]:List Exp).length≤_;simp) (fun a ha=>by cases ha)
theorem LeT.agg {l r:List AV} (h:LeTs l r):LeT (.agg l) (.agg r):=fun S w v hr=>by
 cases hr with
 | agg cs l hl hh =>
  refine .agg cs r (by rw [hl,h.len]) fun j c b hc hb=>?_
  obtain ⟨a,ha,hab⟩:=h.get hb
  exact hab S w c (hh j c a hc ha)
def rawE (o n u:Int) (s:List UInt8):AV:=.agg [.int .i64 o,.int .i64 n,.int .i64 u,.str s,.nils]
theorem rawE_le (o n u:Int) (s:List UInt8):LeT (rawE o n u s) (encE (.mk o n u s [])):=LeT.agg (.cons (.refl _) (.cons (.refl _) (.cons (.refl _) (.cons (.refl _) (.cons (LeT.nils_lsl 5 rfl) .nil)))))
def rawSum:AV:=.agg [.int .i64 4,.int .i64 0,.int .i64 0,.str [],.lsl 5 [rawE 3 0 0 [97],rawE 0 5 2 []]]
def rawMul:AV:=.agg [.int .i64 6,.int .i64 0,.int .i64 0,.str [],.lsl 5 [rawE 0 3 0 [],encE sumE]]
theorem ones_E (x:Exp):∀ a∈(encE x).cells,a.one=true:=by
 intro a ha
 simp [encE,AV.cells] at ha
 rcases ha with rfl | rfl | rfl | rfl | rfl<;>rfl
theorem args_le {x y:Exp} {a b:AV} (h:LeTs (a.cells++b.cells) ((encE x).cells++(encE y).cells)) (o n u:Int) (s:List UInt8) :
  LeT (.lsl 5 [a,b]) (.lsl 5 (argsE (.mk o n u s [x,y]))):=by
 have e:argsE (.mk o n u s [x,y])=[encE x,encE y]:=argsE_eq _
 rw [e]
 have f:∀ c d:AV,flat [c,d]=c.cells++d.cells:=fun c d=>by unfold flat;simp
 refine LeT.lsl rfl (fun z hz=>?_) (fun z hz=>?_) (by rw [f,f];exact h)
 ·simp only [List.mem_cons,List.not_mem_nil,or_false] at hz
  rcases hz with rfl | rfl<;>rfl
 ·rw [f] at hz
  rcases List.mem_append.1 hz with hz | hz
  ·exact ones_E x z hz
  ·exact ones_E y z hz
theorem rawC_le (o n u:Int) (s:List UInt8):LeTs (rawE o n u s).cells (encE (.mk o n u s [])).cells:=.cons (.refl _) (.cons (.refl _) (.cons (.refl _) (.cons (.refl _) (.cons (LeT.nils_lsl 5 rfl) .nil))))
theorem LeTs_app {a b c d:List AV} (h:LeTs a b) (k:LeTs c d):LeTs (a++c) (b++d):=by
 induction h with
 | nil=>exact k
 | cons h _ ih=>exact .cons h ih
theorem LeTs_refl:∀ l:List AV,LeTs l l
 | []=>.nil
 | _::l=>.cons (.refl _) (LeTs_refl l)
theorem rawMulC:LeTs rawMul.cells (encE mulE).cells:=.cons (.refl _) (.cons (.refl _) (.cons (.refl _) (.cons (.refl _) (.cons (args_le (LeTs_app (rawC_le _ _ _ _) (LeTs_refl _)) 6 0 0 []) .nil))))
theorem rawMul_le:LeT rawMul (encE mulE):=LeT.agg rawMulC
def rawX0:AV:=.agg [.str [],.str [],.int .i64 0,.int .i64 0,.int .i64 0,.int .i64 0,.int .i64 0,.int .i64 0,.int .i64 0,.int .i64 0,.nils,.int .i64 0,.int .i64 0,.int .i64 0,.str [],.nils,.int .i64 0,.nils,.nils,.int .i64 0,.nils,.int .i64 0,.int .i64 0,.int .i64 0,.int .i64 0]
theorem rawX0_le:LeT rawX0 (encX i0):=by
 refine LeT.agg ?_
 repeat (first | exact .nil | refine .cons (by first | exact LeT.refl _ | exact LeT.nils_lsl 5 rfl | exact LeT.nils_sl 6 encL l0 | exact LeT.nils_sl 7 encC c0 | exact LeT.nils_sl 1 encS [] | exact LeT.nils_sl 2 encK k0) ?_)
noncomputable abbrev cS:Cx:=cx 168 [0,1,3,4,5,6,7,8,9,11,12,13,15,16,18,19,21,22,23,24]
theorem small_ok:APureV Tryz.prog 9 [] (.bool true):=by
 have c1:=parseE_ok exT (by decide)
 rw [ex1] at c1
 unfold parEA at c1
 have c2:=printexp_ok exE (rightE_okE ri1)
 rw [ex2] at c2
 have c3:=printexp_ok mulE okE_mul
 rw [ex3] at c3
 have c3:=apure_args (args':=[rawMul]) c3 (.cons rawMul_le .nil)
 have c4:=parse_ok docT (by decide)
 rw [doc2] at c4
 unfold parA at c4
 have c5:=print_ok docX rt_doc.okX
 rw [doc3.1] at c5
 have c6:=parse_ok _ (by decide:([105,115,115,117,101,32,97,32,111,102,32,98,32,59,32,102,97,99,101,32,48,32,59]:List UInt8).length≤9223372036854775807)
 rw [ex4] at c6
 unfold parA at c6
 have c7:=parse_ok _ (by decide:([105,115,115,117,101,32,97,32,111,102,32,98,32,59,32,102,97,99,101,32,49,32,59,32,102,114,111,109,32,50,48,48,49,32,45,32,50,32,45,32,50,57,32,116,111]:List UInt8).length≤9223372036854775807)
 rw [ex5] at c7
 unfold parA at c7
 have c8:=parseE_ok _ (by decide:([49,32,99,111,105,110,115,32,50]:List UInt8).length≤9223372036854775807)
 rw [ex6] at c8
 unfold parEA at c8
 have r1:=rightfn_ok docX rt_doc.okX
 rw [ri3] at r1
 have r2:=rightfn_ok i0 okX_0
 rw [right_bad] at r2
 have r2:=apure_args (args':=[rawX0]) r2 (.cons rawX0_le .nil)
 have r3:=rightexp_ok sumE okE_sum
 rw [rightE_sum] at r3
 have r4:=rightexp_ok _ okE_name
 rw [rightE_bad] at r4
 have r4:=apure_args (args':=[rawE 1 0 0 []]) r4 (.cons (rawE_le 1 0 0 []) .nil)
 have r5:=name_ok _ (by decide:([112,101,114,105,111,100]:List UInt8).length≤9223372036854775807)
 rw [name_per] at r5
 have r6:=name_ok _ (by decide:([99,111,105,110,115]:List UInt8).length≤9223372036854775807)
 rw [name_coi] at r6
 have r7:=samefn_ok docX docX rt_doc.okX rt_doc.okX
 rw [decide_eq_true (rfl:docX=docX)] at r7
 have r8:=same_ok sumE sumE okE_sum okE_sum
 rw [decide_eq_true (rfl:sumE=sumE)] at r8
 have hl:=doc3.2
 have hdl:docT.length=323:=by kernel_rfl
 have hde:decide (((printI docX).1.length:Nat)=((docT.length:Nat):Int)+1)=true:=by
  rw [hl,hdl]
  decide
 refine apure_of0 (C:=cS) (cxOk _ _) Tryz.func9 rfl dd0 rfl (by exact Nat.le_of_ble_eq_true rfl) dd0 ?_
 intro F a w hF hrel
 refine wp_seq_ev (cxOk _ _) (C:=cS) hF (st1:=⟨[(0,.bool false)],[],0⟩) (Rr:=fun _=>False) ?_ (fun _ h=>h) ?_ (fun _ _ _ _ h=>h.elim) a w hrel
 ·conv=>whnf
  exact (wk_of [] rfl ⟨wa0,trivial⟩ trivial)
 intro a w hrel
 refine wp_seq_ev (cxOk _ _) (C:=cS) hF (st1:=⟨[(0,.bool false),(1,.ptr 0 0),(3,.int .i64 0)],[(0,.cells 26 (cellsE exE))],1⟩) (Rr:=fun _=>False) ?_ (fun _ h=>h) ?_ (fun _ _ _ _ h=>h.elim) a w hrel
 ·conv=>whnf
  refine cO (fun _=>c1) ?_
  conv=>whnf
  exact (wk_of [(0,.id 0)] rfl ⟨wa0,wc0,wa0,trivial⟩ ⟨wb0,trivial⟩)
 intro a w hrel
 refine wp_seq_ev (cxOk _ _) (C:=cS) hF (st1:=⟨[(0,.bool false),(3,.int .i64 0),(4,.str [108,111,110,103,32,51,48,32,40,32,102,97,99,116,32,100,101,98,116,32,60,32,50,32,42,32,102,97,99,116,32,99,97,115,104,32,41]),(5,.int .i64 0)],[],0⟩) (Rr:=fun _=>False) ?_ (fun _ h=>h) ?_ (fun _ _ _ _ h=>h.elim) a w hrel
 ·conv=>whnf
  refine cO (fun _=>c2) ?_
  conv=>whnf
  exact (wk_of [] rfl ⟨wa0,wa0,wa0,wa0,trivial⟩ trivial)
 intro a w hrel
 refine wp_seq_ev (cxOk _ _) (C:=cS) hF (st1:=⟨[(0,.bool false),(3,.int .i64 0),(4,.str [108,111,110,103,32,51,48,32,40,32,102,97,99,116,32,100,101,98,116,32,60,32,50,32,42,32,102,97,99,116,32,99,97,115,104,32,41]),(5,.int .i64 0),(6,.ptr 0 0)],[(0,.cells 26 (cellsE sumE))],1⟩) (Rr:=fun _=>False) ?_ (fun _ h=>h) ?_ (fun _ _ _ _ h=>h.elim) a w hrel
 ·conv=>whnf
  exact (wk_frz [0]).trans (wk_of [(0,.id 1)] rfl ⟨wa0,wa0,wa0,wa0,wc0,trivial⟩ ⟨⟨_,rfl,.cells _ _ _ _ rfl (by repeat (first | exact .nil | refine .cons (by first | exact .base (.tree _ _ rfl rfl) | exact .base (.own _ _ rfl) | exact .base (.ptr _ _ _ rfl) | exact .base (.map _ _ rfl) | exact .base (.nilown _ rfl) | exact .fn _ _ _ _ _ .nil (by repeat (first | exact .nil | refine .cons (by exact .ptr _ _ _ rfl) ?_)) | exact .base (.tree _ _ (args_le (LeTs_app (rawC_le _ _ _ _) (rawC_le _ _ _ _)) 4 0 0 []) rfl) | exact .base (.leT _ _ (args_le (LeTs_app (rawC_le _ _ _ _) (rawC_le _ _ _ _)) 4 0 0 []) rfl)) ?_)) rfl⟩,trivial⟩)
 intro a w hrel
 refine wp_mono (evCode_sound (C:=cS) (cxOk _ _) hF _ ⟨[(0,.bool false),(3,.int .i64 0),(4,.str [108,111,110,103,32,51,48,32,40,32,102,97,99,116,32,100,101,98,116,32,60,32,50,32,42,32,102,97,99,116,32,99,97,115,104,32,41]),(5,.int .i64 0),(6,.ptr 0 0)],[(0,.cells 26 (cellsE sumE))],1⟩ (retQ cS.T _ (fun rs=>rs=[.val (.bool true)])) ?_ a w hrel) fun _ _ _ ⟨st',h1,h2⟩=>⟨st',h1,orP_off (fun _ h=>h) h2⟩
 conv=>whnf
 refine .one _ _ _ (fun _=>c3) (.cons (.agg _ _ _ (.cons (.base (.base (.same _ rfl))) (.cons (.base (.base (.same _ rfl))) (.cons (.base (.base (.same _ rfl))) (.cons (.base (.base (.same _ rfl))) (.cons (.base (.base (.lst _ 26 5 [rawE 0 3 0 [],encE sumE] (by kernel_rfl)))) .nil))))))  .nil) (by first | exact .inl rfl | exact .inr (by repeat (first | exact flats_nil | refine flats_cons (by first | exact flat_val _ rfl | exact flat_row (fun _=>rfl) | exact flat_lst (fun _=>rfl)) ?_))) (by first | exact .inr rfl | exact .inl rfl) ?_
 conv=>whnf
 refine cO (fun _=>text37) ?_
 conv=>whnf
 refine cO (fun _=>c4) ?_
 conv=>whnf
 refine cO (fun _=>c5) ?_
 conv=>whnf
 refine cO (fun _=>c6) ?_
 conv=>whnf
 refine cO (fun _=>c7) ?_
 conv=>whnf
 refine cO (fun _=>c8) ?_
 conv=>whnf
 refine cO (fun _=>text37) ?_
 conv=>whnf
 refine And.intro (fun _=>⟨by omega,by omega⟩) ?_
 conv=>whnf
 rw [hde]
 refine cO (fun _=>r1) ?_
 conv=>whnf
 refine cO (fun _=>r2) ?_
 conv=>whnf
 refine cO (fun _=>r3) ?_
 conv=>whnf
 refine cO (fun _=>r4) ?_
 conv=>whnf
 refine cO (fun _=>r5) ?_
 conv=>whnf
 refine cO (fun _=>r6) ?_
 conv=>whnf
 refine cO (fun _=>r7) ?_
 conv=>whnf
 refine cO (fun _=>r8) ?_
 conv=>whnf
 kernel_rfl
structure PI where
 x:Ind
 p:Int
 e:Int
def resI:Except Er Ind→PI
 | .ok x=>⟨x,0,0⟩
 | .error e=>⟨i0,e.1,e.2⟩
structure PE where
 x:Exp
 p:Int
 e:Int
def resE:Except Er Exp→PE
 | .ok x=>⟨x,0,0⟩
 | .error e=>⟨ex0,e.1,e.2⟩
structure InX (x:Ind):Prop where
 name:x.name.length≤9223372036854775807
 issuer:x.issuer.length≤9223372036854775807
 coupon:OkE x.coupon
 lets:x.lets.length≤9223372036854775807
 let1:∀ l∈x.lets,l.name.length≤9223372036854775807∧OkE l.body
 cov:x.cov.length≤9223372036854775807
 cov1:∀ c∈x.cov,c.name.length≤9223372036854775807∧OkE c.must∧in64 c.grace
 favour:x.favour.length≤9223372036854775807
 fav1:∀ s∈x.favour,s.length≤9223372036854775807
 calls:x.calls.length≤9223372036854775807
 call1:∀ c∈x.calls,in64 c.a∧in64 c.b
 nums:in64 x.face∧in64 x.frm∧in64 x.to∧in64 x.every∧in64 x.count∧in64 x.adjust∧in64 x.record∧in64 x.rank∧in64 x.cap∧in64 x.cross∧in64 x.notice∧in64 x.sink∧in64 x.majority∧in64 x.fast
open Go.ChangeShapes Go.WideShapes Go.RowKit Go.Own
theorem Tryz.own:ownKnob Tryz.prog.godebug=none:=by kernel_rfl
theorem Tryz.laidOut:laidOutB Tryz.prog=true:=by kernel_rfl
theorem undBool:Tryz.prog.underlying 4=some .bool:=by kernel_rfl
theorem und3':Tryz.prog.underlying 3=some (.int .i64):=by kernel_rfl
theorem und9':Tryz.prog.underlying 9=some .string:=by kernel_rfl
theorem und24':Tryz.prog.underlying 24=some (.slice 26):=by kernel_rfl
def fields26 : Array Field := #[{ name := "Op", type := 3, offset := 0, embedded := false, tag := "", pkgPath := "", byteOffset := 0 }, { name := "N", type := 3, offset := 1, embedded := false, tag := "", pkgPath := "", byteOffset := 8 }, { name := "Unit", type := 3, offset := 2, embedded := false, tag := "", pkgPath := "", byteOffset := 16 }, { name := "S", type := 9, offset := 3, embedded := false, tag := "", pkgPath := "", byteOffset := 24 }, { name := "Args", type := 24, offset := 4, embedded := false, tag := "", pkgPath := "", byteOffset := 40 }]
theorem und26':Tryz.prog.underlying 26=some (.struct fields26):=by kernel_rfl
def fields47 : Array Field := #[{ name := "Name", type := 9, offset := 0, embedded := false, tag := "", pkgPath := "", byteOffset := 0 }, { name := "Body", type := 26, offset := 1, embedded := false, tag := "", pkgPath := "", byteOffset := 16 }]
def fields50 : Array Field := #[{ name := "Name", type := 9, offset := 0, embedded := false, tag := "", pkgPath := "", byteOffset := 0 }, { name := "Must", type := 26, offset := 1, embedded := false, tag := "", pkgPath := "", byteOffset := 16 }, { name := "Grace", type := 3, offset := 6, embedded := false, tag := "", pkgPath := "", byteOffset := 80 }]
def fields54 : Array Field := #[{ name := "From", type := 3, offset := 0, embedded := false, tag := "", pkgPath := "", byteOffset := 0 }, { name := "Price", type := 3, offset := 1, embedded := false, tag := "", pkgPath := "", byteOffset := 8 }]
def fields31 : Array Field := #[{ name := "Name", type := 9, offset := 0, embedded := false, tag := "", pkgPath := "", byteOffset := 0 }, { name := "Issuer", type := 9, offset := 1, embedded := false, tag := "", pkgPath := "", byteOffset := 16 }, { name := "Face", type := 3, offset := 2, embedded := false, tag := "", pkgPath := "", byteOffset := 32 }, { name := "From", type := 3, offset := 3, embedded := false, tag := "", pkgPath := "", byteOffset := 40 }, { name := "To", type := 3, offset := 4, embedded := false, tag := "", pkgPath := "", byteOffset := 48 }, { name := "Every", type := 3, offset := 5, embedded := false, tag := "", pkgPath := "", byteOffset := 56 }, { name := "Count", type := 3, offset := 6, embedded := false, tag := "", pkgPath := "", byteOffset := 64 }, { name := "Adjust", type := 3, offset := 7, embedded := false, tag := "", pkgPath := "", byteOffset := 72 }, { name := "Record", type := 3, offset := 8, embedded := false, tag := "", pkgPath := "", byteOffset := 80 }, { name := "Rank", type := 3, offset := 9, embedded := false, tag := "", pkgPath := "", byteOffset := 88 }, { name := "Lets", type := 23, offset := 10, embedded := false, tag := "", pkgPath := "", byteOffset := 96 }, { name := "Coupon", type := 26, offset := 11, embedded := false, tag := "", pkgPath := "", byteOffset := 120 }, { name := "Cap", type := 3, offset := 16, embedded := false, tag := "", pkgPath := "", byteOffset := 184 }, { name := "Covenants", type := 27, offset := 17, embedded := false, tag := "", pkgPath := "", byteOffset := 192 }, { name := "Favour", type := 28, offset := 18, embedded := false, tag := "", pkgPath := "", byteOffset := 216 }, { name := "Cross", type := 3, offset := 19, embedded := false, tag := "", pkgPath := "", byteOffset := 240 }, { name := "Calls", type := 29, offset := 20, embedded := false, tag := "", pkgPath := "", byteOffset := 248 }, { name := "Notice", type := 3, offset := 21, embedded := false, tag := "", pkgPath := "", byteOffset := 272 }, { name := "Sink", type := 3, offset := 22, embedded := false, tag := "", pkgPath := "", byteOffset := 280 }, { name := "Majority", type := 3, offset := 23, embedded := false, tag := "", pkgPath := "", byteOffset := 288 }, { name := "Fast", type := 3, offset := 24, embedded := false, tag := "", pkgPath := "", byteOffset := 296 }]
theorem in64_of {n:Int} (h:IntKind.i64.min≤n∧n≤IntKind.i64.max):in64 n:=by
 have e1:IntKind.i64.min=-9223372036854775808:=by rfl
 have e2:IntKind.i64.max=9223372036854775807:=by rfl
 rw [e1,e2] at h
 exact h
abbrev rInt:List AV→Prop:=fun l=>∃ n,(IntKind.i64.min≤n∧n≤IntKind.i64.max)∧l=[.int .i64 n]
abbrev rStr:List AV→Prop:=fun l=>∃ s:List UInt8,s.length≤9223372036854775807∧l=[.str s]
theorem oInt:OpensR Tryz.prog 3 1 rInt:=opensR_int und3' (by kernel_rfl)
theorem oStr:OpensR Tryz.prog 9 1 rStr:=opensR_str und9' (by kernel_rfl)
abbrev rExp:List AV→Prop:=fun l=>∃ e:Exp,OkE e∧l=(encE e).cells
theorem oExpS:∀ N,OpensS Tryz.prog 26 5 rExp N
 | 0=>opensS_zero (by kernel_rfl)
 | N+1=>by
  have hargs:OpensS Tryz.prog 24 1 (fun l=>∃ xs:List Exp,(∀ a∈xs,OkE a)∧xs.length≤9223372036854775807∧l=[.lsl 5 (xs.map encE)]) N :=
   match N with
   | 0=>opensS_zero (by kernel_rfl)
   | M+1=>opensS_slice und24' (by kernel_rfl) (oExpS M |>.le (by omega)) (by decide) (fun l ⟨e,h1,h2⟩=>⟨e,h1,h2.symm⟩) (fun e=>rfl)
  refine (opensS_struct und26' (by kernel_rfl) (Rs:=[(1,rInt),(1,rInt),(1,rInt),(1,rStr),(1,_)]) ⟨rfl,oInt.at N,rfl,oInt.at N,rfl,oInt.at N,rfl,oStr.at N,rfl,hargs,rfl⟩).mono fun l hl=>?_
  obtain ⟨_,_,⟨n0,h0,rfl⟩,⟨_,_,⟨n1,h1,rfl⟩,⟨_,_,⟨n2,h2,rfl⟩,⟨_,_,⟨s3,h3,rfl⟩,⟨_,_,⟨xs,h4,h5,rfl⟩,rfl,rfl⟩,rfl⟩,rfl⟩,rfl⟩,rfl⟩:=hl
  refine ⟨.mk n0 n1 n2 s3 xs,.mk (in64_of h0) (in64_of h1) (in64_of h2) h3 h5 h4,?_⟩
  show _=[AV.int .i64 n0,.int .i64 n1,.int .i64 n2,.str s3,.lsl 5 (argsE (.mk n0 n1 n2 s3 xs))]
  rw [argsE_eq]
  rfl
theorem oExp:OpensR Tryz.prog 26 5 rExp:=opensR_all oExpS
abbrev rInd:List AV→Prop:=fun l=>∃ x:Ind,InX x∧l=(encX x).cells
theorem vExp:OpV Tryz.prog 26 (fun a=>∃ x:Exp,OkE x∧a=encE x) :=
 OpV.mono (opV_struct und26' oExp) fun a ⟨l,⟨x,h,hl⟩,ha⟩=>⟨x,h,by rw [ha,hl];rfl⟩
theorem vInt:OpV Tryz.prog 3 (fun a=>∃ n,in64 n∧a=.int .i64 n):=OpV.mono (opV_int und3') fun _ ⟨n,h,e⟩=>⟨n,in64_of h,e⟩
abbrev laidL:List (String×DataW Unit):=Rows.syntaxTellsRow.laid
noncomputable def laidWorld (os:Os):World:=World.laidAll Tryz.prog os laidL
theorem laid_met (os:Os) (args:Array Value):laidMet Tryz.prog laidL ((laidWorld os).forCall (fun _ _=>0) ⟨#[],args,[]⟩).memory :=
 laidMet_laidAll args (by kernel_rfl) (by kernel_rfl)
theorem var_block {P:Program} {w:World} {n:String} {g:Nat} {cs:Array Value} (hg:P.globalNamed n=some g) (h:w.var? P n=some cs):∃ e fz,w.heap[g]?=some (.cells cs e fz):=by
 unfold World.var? at h
 rw [hg] at h
 simp only [Option.bind_some] at h
 split at h
 ·rename_i c e fz hh
  cases h
  exact ⟨_,_,hh⟩
 ·cases h
theorem trod_one {P:Program} {w:World} {base:Nat} {sp:Nat→Bool} {held:Bool} {fuel:Nat} {e:TypeId} {c:List Value} {s:List UInt8} {q:List MemPlace} (he:P.underlying e=some .string)
  (h:DataW.trod (fun _=>()) P w base sp held fuel e c=some (.lit (.string s),q)):c=[.string ⟨s.toArray⟩]:=by
 cases fuel with
 | zero=>simp [DataW.trod] at h
 | succ fuel =>
  simp only [DataW.trod,he] at h
  split at h<;>simp_all
  rename_i x hx
  rw [← h.2.1]
theorem cells_of_strs {P:Program} {w:World} {base:Nat} {sp:Nat→Bool} {held:Bool} {fuel:Nat} {t e:TypeId} {n:Nat} {cs:List Value} {ss:List (List UInt8)} {p:List MemPlace}
  (ht:P.underlying t=some (.array n e)) (he:P.underlying e=some .string) (hce:P.cellsOf e=1) (hct:P.cellsOf t=n)
  (h:DataW.trod (fun _=>()) P w base sp held fuel t cs=some (.agg (ss.map fun s=>.lit (.string s)),p)):cs=ss.map fun s=>Value.string ⟨s.toArray⟩:=by
 cases fuel with
 | zero=>simp [DataW.trod] at h
 | succ fuel =>
  simp only [DataW.trod,ht,hce,hct,Nat.mul_one] at h
  split at h
  ·rename_i hl
   obtain ⟨xs,hm,hx⟩:=Option.map_eq_some_iff.1 h
   have hxs:xs.map (·.1)=ss.map fun s=>(DataW.lit (.string s):DataW Unit):=by
    have:=congrArg Prod.fst hx
    simpa using this
   have hxl:xs.length=n:=by simpa using Lib.mapM_length hm
   have hzl:ss.length=n:=by
    have:=congrArg List.length hxs
    simp at this
    omega
   apply List.ext_getElem?
   intro i
   by_cases hi:i<n
   ·obtain ⟨b,hb,hf⟩:=Lib.mapM_at hm i i (by simp [hi])
    have h2:(xs.map (·.1))[i]?=some b.1:=by simp [hb]
    rw [hxs] at h2
    simp only [List.getElem?_map,Option.map_eq_some_iff] at h2
    obtain ⟨s,hs,hsb⟩:=h2
    have hc:=trod_one he (show _=some (DataW.lit (.string s),b.2) by rw [hsb];exact hf)
    have h1:cs[i]?=some (.string ⟨s.toArray⟩):=by
     have:=congrArg (·[0]?) hc
     simpa [List.getElem?_take,List.getElem?_drop] using this
    simp [h1,hs]
   ·rw [List.getElem?_eq_none (by omega),List.getElem?_eq_none (by simp;omega)]
  ·cases h
theorem laid_tabs (W:World) (h:laidMet Tryz.prog laidL W):TabAt (All W) W:=by
 obtain ⟨ps,⟨g1,t1,c1,f1,p1,q1,hg1,ht1,hv1,hd1,⟨g2,t2,c2,f2,p2,q2,hg2,ht2,hv2,hd2,⟨g3,t3,c3,f3,p3,q3,hg3,ht3,hv3,hd3,⟨g4,t4,c4,f4,p4,q4,hg4,ht4,hv4,hd4,hnil,e4⟩,e3⟩,e2⟩,e1⟩,_,_⟩:=h
 have k3 : Tryz.prog.globalNamed "internal/strconv.uint64pow10" = some 2 := by kernel_rfl
 have k4 : Tryz.prog.globalNamed "consol/lex.signs" = some 0 := by kernel_rfl
 obtain ⟨b3,z3,h3⟩:=var_block k3 hv3
 obtain ⟨b4,z4,h4⟩:=var_block k4 hv4
 obtain rfl:=Option.some.inj (k3.symm.trans hg3)
 obtain rfl:=Option.some.inj (k4.symm.trans hg4)
 have T3:(Tryz.prog.globals[2]?).map (·.type)=some t3:=ht3
 have T4:(Tryz.prog.globals[0]?).map (·.type)=some t4:=ht4
 have lt:∀ {g:Nat} {o:Obj},W.heap[g]?=some o→g<W.heap.size:=fun h=>(Array.getElem?_eq_some_iff.1 h).1
 intro g Q hQ
 match g,hQ with
 | 0,hQ =>
  cases hQ
  refine ⟨lt h4,c4,b4,z4,h4,?_⟩
  obtain rfl:=Option.some.inj ((show (Tryz.prog.globals[0]?).map (·.type)=some 161 by kernel_rfl).symm.trans T4)
  have:=cells_of_strs (ss:=signs) (n:=11) (e:=9) (by kernel_rfl) (by kernel_rfl) (by kernel_rfl) (by kernel_rfl) (show _=some (DataW.agg (signs.map fun s=>DataW.lit (.string s)),p4) from hd4)
  show c4=_
  rw [← this]
 | 2,hQ =>
  cases hQ
  refine ⟨lt h3,c3,b3,z3,h3,?_⟩
  obtain rfl:=Option.some.inj ((show (Tryz.prog.globals[2]?).map (·.type)=some 185 by kernel_rfl).symm.trans T3)
  have:=Lib.cells_of_tab (k:=.u64) (zs:=Lib.pow10Tab) (n:=20) (e:=179) (by kernel_rfl) (by kernel_rfl) (by kernel_rfl) (by kernel_rfl) (show _=some (Lib.tabData .u64 Lib.pow10Tab,p3) from hd3)
  show c3=_
  rw [← this]
structure Pc where
 kind:Int
 text:List UInt8
 n:Int
def Tok.pc (t:Tok):Pc:=⟨t.kind,t.text,t.n⟩
def endP:Pc:=⟨3,[],0⟩
def Blk (b:List UInt8):Prop:=∀ c∈b,blkB (c.toNat:Int)=true
def Sep (r:List UInt8):Prop:=r=[]∨∃ c r',r=c::r'∧blkB (c.toNat:Int)=true
structure GoodP (x:Pc):Prop where
 ne:x.text≠[]
 nb:blkB ((x.text.getD 0 0).toNat:Int)=false
 rd:∀ r,Sep r→nextR (x.text++r)=.ok ⟨x.kind,x.text,x.n,0⟩
theorem blk_let {c:Int} (h:blkB c=true):letB c=false∧digB c=false:=by
 unfold blkB at h
 unfold letB digB
 simp only [Bool.or_eq_true,decide_eq_true_eq] at h
 simp only [Bool.and_eq_false_iff,decide_eq_false_iff_not]
 omega
theorem span_app {p:Int→Bool} {s r:List UInt8} (hs:∀ c∈s,p (c.toNat:Int)=true) (hr:r=[]∨∃ c r',r=c::r'∧p (c.toNat:Int)=false):spanN p (s++r)=s.length:=by
 unfold spanN
 rw [List.takeWhile_append_of_pos hs,List.length_append]
 rcases hr with rfl | ⟨c,r',rfl,hc⟩
 ·simp
 ·rw [List.takeWhile_cons_of_neg (by rw [hc];decide)]
  simp
theorem span_each {p:Int→Bool} {s:List UInt8} (h:spanN p s=s.length):∀ c∈s,p (c.toNat:Int)=true:=by
 intro c hc
 obtain ⟨k,hk,rfl⟩:=List.getElem_of_mem hc
 have:=spanN_lt (p:=p) (s:=s) (k:=k) (by omega)
 rw [List.getD_eq_getElem?_getD,List.getElem?_eq_getElem hk] at this
 exact this
theorem head_app {s r:List UInt8} (h:s≠[]):(s++r).getD 0 0=s.getD 0 0:=by
 cases s with
 | nil=>exact (h rfl).elim
 | cons c s=>rfl
theorem let_blk {c:Int} (h:letB c=true):blkB c=false:=by
 cases hb:blkB c with
 | false=>rfl
 | true=>rw [(blk_let hb).1] at h;cases h
theorem dig_blk {c:Int} (h:digB c=true):blkB c=false:=by
 cases hb:blkB c with
 | false=>rfl
 | true=>rw [(blk_let hb).2] at h;cases h
theorem sep_not {p:Int→Bool} (hp:∀ c,blkB c=true→p c=false) {r:List UInt8} (h:Sep r):r=[]∨∃ c r',r=c::r'∧p (c.toNat:Int)=false :=
 h.imp id fun ⟨c,r',e,hc⟩=>⟨c,r',e,hp _ hc⟩
theorem good_word {s:List UInt8} (h:wordB s=true):GoodP ⟨0,s,0⟩:=by
 have h0:=h
 unfold wordB at h
 simp only [Bool.and_eq_true,decide_eq_true_eq] at h
 obtain ⟨⟨⟨hne,hl⟩,_⟩,hsp⟩:=h
 refine ⟨hne,let_blk hl,fun r hr=>?_⟩
 have hw:wordT (s++r)=s:=by
  unfold wordT
  rw [span_app (span_each hsp) (sep_not (p:=fun c=>letB c||digB c) (fun c hc=>by show (letB c||digB c)=false;rw [(blk_let hc).1,(blk_let hc).2];rfl) hr),List.take_left]
 unfold nextR
 dsimp only
 rw [head_app hne,if_pos hl,hw,if_pos h0]
theorem good_name {s:List UInt8} (h:nameB s=true):GoodP ⟨0,s,0⟩:=by
 unfold nameB at h
 simp only [Bool.and_eq_true] at h
 exact good_word h.1
theorem dig_of (d:Nat) (h:d<10):(UInt8.ofNat (48+d)).toNat=48+d:=by
 rw [UInt8.toNat_ofNat']
 omega
theorem dec_rec (u:Nat):Lib.decDigits u=if u<10 then [UInt8.ofNat (48+u)] else Lib.decDigits (u / 10)++[UInt8.ofNat (48+u % 10)]:=by
 rw [Lib.decDigits]
 split<;>rfl
theorem dec_ne (u:Nat):Lib.decDigits u≠[]:=by
 rw [dec_rec]
 split<;>simp
theorem dec_dig (u:Nat):∀ b∈Lib.decDigits u,digB (b.toNat:Int)=true:=by
 induction u using Nat.strongRecOn with
 | _ u ih =>
  intro b hb
  rw [dec_rec] at hb
  unfold digB
  simp only [Bool.and_eq_true,decide_eq_true_eq]
  split at hb
  ·rename_i h
   rw [List.mem_singleton.1 hb,dig_of u h]
   omega
  ·rename_i h
   rcases List.mem_append.1 hb with hb | hb
   ·have:=ih (u / 10) (by omega) b hb
    unfold digB at this
    simpa using this
   ·rw [List.mem_singleton.1 hb,dig_of _ (Nat.mod_lt _ (by decide))]
    omega
theorem dec_val (u:Nat):numV (Lib.decDigits u)=u:=by
 induction u using Nat.strongRecOn with
 | _ u ih =>
  rw [dec_rec]
  split
  ·rename_i h
   show (10*0+(((UInt8.ofNat (48+u)).toNat:Int)-48))=_
   rw [dig_of u h]
   omega
  ·rename_i h
   rw [numV_snoc,ih (u / 10) (by omega),dig_of _ (Nat.mod_lt _ (by decide))]
   omega
theorem dec_head (u:Nat) (h:u≠0):((Lib.decDigits u).getD 0 0).toNat≠48:=by
 induction u using Nat.strongRecOn with
 | _ u ih =>
  rw [dec_rec]
  split
  ·rename_i hu
   show (UInt8.ofNat (48+u)).toNat≠48
   rw [dig_of u hu]
   omega
  ·rename_i hu
   rw [head_app (dec_ne _)]
   exact ih (u / 10) om0 om0
theorem nDig_le:∀ (k u:Nat),1≤k→u<10 ^ k→Lib.nDigits u≤k
 | 0,_,h,_=>absurd h (by decide)
 | k+1,u,_,h=>by
  by_cases hu:u<10
  ·rw [Lib.nDigits_small hu];omega
  ·have hk:1≤k:=by
    rcases Nat.eq_zero_or_pos k with rfl | h'
    ·rw [Nat.zero_add,Nat.pow_one] at h;omega
    ·exact h'
   rw [Lib.nDigits_big hu]
   rw [Nat.pow_succ] at h
   have:=nDig_le k (u / 10) hk (by omega)
   omega
theorem numR_itoa {n:Int} (h0:0≤n) (h1:n≤1000000000000000):numR (Lib.itoa n)=some n:=by
 obtain ⟨u,rfl⟩:∃ u:Nat,n=u:=⟨n.toNat,by omega⟩
 rw [Lib.itoa_nonneg]
 have hl:(Lib.decDigits u).length≤16:=by
  rw [Lib.decDigits_length]
  exact nDig_le 16 u dd0 om0
 have hsp:spanN digB (Lib.decDigits u)=(Lib.decDigits u).length:=by
  have:=span_app (p:=digB) (s:=Lib.decDigits u) (r:=[]) (dec_dig u) (.inl rfl)
  rwa [List.append_nil] at this
 have hg:numG (Lib.decDigits u)=true:=by
  unfold numG
  simp only [Bool.and_eq_true,decide_eq_true_eq,Bool.not_eq_true',Bool.and_eq_false_iff,decide_eq_false_iff_not]
  refine ⟨⟨⟨dec_ne u,hsp⟩,?_⟩,hl⟩
  by_cases hu:u=0
  ·subst hu
   refine .inr (not_not_intro ?_)
   rw [dec_rec,if_pos (by decide)]
   rfl
  ·exact .inl (dec_head u hu)
 unfold numR
 rw [dec_val,if_pos ⟨hg,h1⟩]
theorem good_num {n:Int} (h0:0≤n) (h1:n≤1000000000000000):GoodP ⟨1,Lib.itoa n,n⟩:=by
 obtain ⟨u,rfl⟩:∃ u:Nat,n=u:=⟨n.toNat,by omega⟩
 have hr:=numR_itoa h0 h1
 rw [Lib.itoa_nonneg] at hr ⊢
 have hd:digB (((Lib.decDigits u).getD 0 0).toNat:Int)=true:=by
  cases hs:Lib.decDigits u with
  | nil=>exact (dec_ne u hs).elim
  | cons c s=>exact dec_dig u c (by rw [hs];simp)
 have hl:letB (((Lib.decDigits u).getD 0 0).toNat:Int)=false:=by
  unfold digB at hd
  unfold letB
  simp only [Bool.and_eq_true,decide_eq_true_eq] at hd
  simp only [Bool.and_eq_false_iff,decide_eq_false_iff_not]
  omega
 refine ⟨dec_ne u,dig_blk hd,fun r hsep=>?_⟩
 have hw:digT (Lib.decDigits u++r)=Lib.decDigits u:=by
  unfold digT
  rw [span_app (dec_dig u) (sep_not (p:=digB) (fun c hc=>(blk_let hc).2) hsep),List.take_left]
 unfold nextR
 dsimp only
 rw [head_app (dec_ne u),hl,if_neg (by decide),if_pos hd,hw,hr]
theorem good_sign {s:List UInt8} (h:s∈signs):GoodP ⟨2,s,0⟩:=by
 have hb:∀ c:UInt8,blkB (c.toNat:Int)=true→c=32∨c=9∨c=10:=by
  intro c hc
  unfold blkB at hc
  simp only [Bool.or_eq_true,decide_eq_true_eq] at hc
  rcases hc with (hc | hc) | hc
  ·exact .inl (UInt8.toNat_inj.1 (by have:c.toNat=32:=by omega
                                     rw [this];rfl))
  ·exact .inr (.inl (UInt8.toNat_inj.1 (by have:c.toNat=9:=by omega
                                           rw [this];rfl)))
  ·exact .inr (.inr (UInt8.toNat_inj.1 (by have:c.toNat=10:=by omega
                                           rw [this];rfl)))
 have hm:s=[61,61]∨s=[59]∨s=[44]∨s=[61]∨s=[60]∨s=[43]∨s=[45]∨s=[42]∨s=[47]∨s=[40]∨s=[41]:=by
  simpa [signs] using h
 refine ⟨?_,?_,fun r hr=>?_⟩
 ·rcases hm with rfl | rfl | rfl | rfl | rfl | rfl | rfl | rfl | rfl | rfl | rfl<;>simp
 ·rcases hm with rfl | rfl | rfl | rfl | rfl | rfl | rfl | rfl | rfl | rfl | rfl<;>decide
 ·rcases hr with rfl | ⟨c,r',rfl,hc⟩
  ·rcases hm with rfl | rfl | rfl | rfl | rfl | rfl | rfl | rfl | rfl | rfl | rfl<;>rfl
  ·rcases hb c hc with rfl | rfl | rfl<;>rcases hm with rfl | rfl | rfl | rfl | rfl | rfl | rfl | rfl | rfl | rfl | rfl<;>simp [nextR,letB,digB,hasP,signs,List.find?]
def lay:List (Pc×List UInt8)→List UInt8
 | []=>[]
 | x::l=>x.1.text++(x.2++lay l)
def LayOk:List (Pc×List UInt8)→Prop
 | []=>True
 | x::l=>GoodP x.1∧Blk x.2∧(l=[]∨x.2≠[])∧LayOk l
theorem blk_sep {b r:List UInt8} (h:Blk b) (hb:b≠[]):Sep (b++r):=by
 cases b with
 | nil=>exact (hb rfl).elim
 | cons c b=>exact .inr ⟨c,b++r,rfl,h c (by simp)⟩
theorem skip_pre {s pre r:List UInt8} {p:Nat} (hd:s.drop p=pre++r) (hb:Blk pre) (hr:r=[]∨blkB ((r.getD 0 0).toNat:Int)=false):skipN s p=p+pre.length:=by
 unfold skipN
 rw [hd,span_app hb]
 rcases hr with rfl | hr
 ·exact .inl rfl
 ·cases r with
  | nil=>exact .inl rfl
  | cons c r=>exact .inr ⟨c,r,rfl,hr⟩
theorem lex_lay {s:List UInt8}:∀ (l:List (Pc×List UInt8)) (f p:Nat) (acc:List Tok) (pre:List UInt8),Blk pre→LayOk l→s.drop p=pre++lay l→p≤s.length→s.length<p+f →
  ∃ L,lexL s f p acc=.ok (acc++L)∧L.map Tok.pc=l.map Prod.fst++[endP]
 | l,0,p,acc,pre,_,_,_,h1,h2=>by omega
 | [],f+1,p,acc,pre,hb,_,hd,h1,_=>by
  have hs:=skip_pre (r:=[]) hd hb (.inl rfl)
  have hl:s.length-p=pre.length:=by
   have:=congrArg List.length hd
   rw [List.length_drop] at this
   simpa [lay] using this
  refine ⟨[⟨3,[],0,(s.length:Nat)⟩],?_,rfl⟩
  rw [lexL,if_pos (by omega)]
 | x::l,f+1,p,acc,pre,hb,hok,hd,h1,h2=>by
  obtain ⟨hg,hbx,hx,hokl⟩:=hok
  have hne:=hg.ne
  have hnb:blkB (((lay (x::l)).getD 0 0).toNat:Int)=false:=by
   show blkB (((x.1.text++(x.2++lay l)).getD 0 0).toNat:Int)=false
   rw [head_app hne]
   exact hg.nb
  have hs:=skip_pre hd hb (.inr hnb)
  have hlen:s.length-p=pre.length+(x.1.text.length+(x.2++lay l).length):=by
   have:=congrArg List.length hd
   rw [List.length_drop,List.length_append] at this
   rw [this]
   show _+(x.1.text++(x.2++lay l)).length=_
   rw [List.length_append]
  have htl:0<x.1.text.length:=List.length_pos_iff.2 hne
  have hd1:s.drop (skipN s p)=x.1.text++(x.2++lay l):=by
   rw [hs,← List.drop_drop,hd,List.drop_left]
   rfl
  have hsep:Sep (x.2++lay l):=by
   rcases hx with rfl | hx
   ·by_cases h:x.2=[]
    ·rw [h];exact .inl rfl
    ·exact blk_sep hbx h
   ·exact blk_sep hbx hx
  have hn:=hg.rd _ hsep
  have hd2:s.drop (skipN s p+x.1.text.length)=x.2++lay l:=by
   rw [← List.drop_drop,hd1,List.drop_left]
  obtain ⟨L,hL,hm⟩:=lex_lay l f (skipN s p+x.1.text.length) (acc++[⟨x.1.kind,x.1.text,x.1.n,(skipN s p:Nat)⟩]) x.2 hbx hokl hd2 (by omega) (by omega)
  refine ⟨⟨x.1.kind,x.1.text,x.1.n,(skipN s p:Nat)⟩::L,?_,?_⟩
  ·rw [lexL,if_neg (by omega),hd1,hn]
   dsimp only
   rw [hL,List.append_assoc]
   rfl
  ·rw [List.map_cons,hm]
   rfl
theorem lexR_lay {l:List (Pc×List UInt8)} (hok:LayOk l) (hl:(lay l).length≤4000):∃ T,lexR (lay l)=.ok T∧T.map Tok.pc=l.map Prod.fst++[endP]:=by
 obtain ⟨L,h1,h2⟩:=lex_lay (s:=lay l) l ((lay l).length+1) 0 [] [] (fun c hc=>by cases hc) hok rfl (Nat.zero_le _) (by omega)
 refine ⟨L,?_,h2⟩
 unfold lexR
 rw [if_neg (by omega),h1]
 rfl
def wP (s:List UInt8):Pc:=⟨0,s,0⟩
def nP (n:Int):Pc:=⟨1,Lib.itoa n,n⟩
def sP (s:List UInt8):Pc:=⟨2,s,0⟩
def oP (o:Opr):Pc:=⟨if o.form≤2 then 0 else 2,o.text,0⟩
def numW (n unit:Int):List Pc :=
 if unit=4 then [wP (if n=1 then [116,114,117,101] else [102,97,108,115,101])]
 else if unit=1 then [nP n,wP [99,111,105,110,115]]
 else if unit=3 then [nP n,wP [100,97,121,115]]
 else if unit=2 then [nP n,wP [109,105,108,108,101]]
 else [nP n]
def parW (f least:Int) (l:List Pc):List Pc:=if f<least then [sP [40]]++l++[sP [41]] else l
def bodyW:Nat→Exp→List Pc
 | 0,_=>[]
 | d+1,e =>
  if e.op=0 then numW e.n e.unit
  else if e.op=1 then [wP e.s]
  else if e.op=2 then [wP [102,97,99,116],wP e.s]
  else if e.op=3 then [wP [114,97,116,101],wP e.s]
  else if e.op=15 then [wP [105,102]]++parW (formO (argOf e 0).op) 0 (bodyW d (argOf e 0))++[wP [116,104,101,110]]++parW (formO (argOf e 1).op) 0 (bodyW d (argOf e 1))++[wP [101,108,115,101]]++parW (formO (argOf e 2).op) 0 (bodyW d (argOf e 2))
  else if e.op=12 then [wP [110,111,116]]++parW (formO (argOf e 0).op) 3 (bodyW d (argOf e 0))
  else if e.op=8 then [wP [109,105,110],sP [40]]++parW (formO (argOf e 0).op) 0 (bodyW d (argOf e 0))++[sP [44]]++parW (formO (argOf e 1).op) 0 (bodyW d (argOf e 1))++[sP [41]]
  else if e.op=9 then [wP [109,97,120],sP [40]]++parW (formO (argOf e 0).op) 0 (bodyW d (argOf e 0))++[sP [44]]++parW (formO (argOf e 1).op) 0 (bodyW d (argOf e 1))++[sP [41]]
  else if e.op=16 then [wP [101,118,101,114],nP e.n,sP [40]]++parW (formO (argOf e 0).op) 0 (bodyW d (argOf e 0))++[sP [41]]
  else if e.op=17 then [wP [108,111,110,103],nP e.n,sP [40]]++parW (formO (argOf e 0).op) 0 (bodyW d (argOf e 0))++[sP [41]]
  else if e.op=18 then [wP [115,111,111,110],nP e.n,sP [40]]++parW (formO (argOf e 0).op) 0 (bodyW d (argOf e 0))++[sP [41]]
  else
   parW (formO (argOf e 0).op) (if (opE e.op).form=4 then 5 else (opE e.op).form) (bodyW d (argOf e 0))++[oP (opE e.op)]++parW (formO (argOf e 1).op) ((opE e.op).form+1) (bodyW d (argOf e 1))
def showW (d:Nat) (e:Exp) (least:Int):List Pc:=parW (formO e.op) least (bodyW d e)
def joinP:List Pc→List UInt8
 | []=>[]
 | x::l=>x.text++l.flatMap fun y=>32::y.text
theorem joinP_app {a b:List Pc} (ha:a≠[]) (hb:b≠[]):joinP (a++b)=joinP a++[32]++joinP b:=by
 cases a with
 | nil=>exact (ha rfl).elim
 | cons x a =>
  cases b with
  | nil=>exact (hb rfl).elim
  | cons y b =>
   show x.text++(a++y::b).flatMap _=x.text++a.flatMap _++[32]++(y.text++b.flatMap _)
   simp
theorem joinP_one (x:Pc):joinP [x]=x.text:=by simp [joinP]
theorem joinP_cons (x:Pc) {b:List Pc} (hb:b≠[]):joinP (x::b)=x.text++[32]++joinP b:=by
 have:=joinP_app (a:=[x]) (by simp) hb
 rwa [joinP_one] at this
theorem joinP_snoc (x:Pc) {a:List Pc} (ha:a≠[]):joinP (a++[x])=joinP a++[32]++x.text:=by rw [joinP_app ha (by simp),joinP_one]
theorem numW_ne (n u:Int):numW n u≠[]:=by unfold numW;repeat' split
                                          all_goals simp
theorem numW_text (n u:Int):joinP (numW n u)=numT n u:=by
 unfold numW numT
 repeat' split
 all_goals simp [joinP,wP,nP]
theorem parW_ne {f least:Int} {l:List Pc} (h:l≠[]):parW f least l≠[]:=by
 unfold parW
 split
 ·simp
 ·exact h
theorem ite_ne {c:Prop} [Decidable c] {a b:List Pc} (ha:a≠[]) (hb:b≠[]):(if c then a else b)≠[]:=by
 by_cases h:c
 ·rw [if_pos h];exact ha
 ·rw [if_neg h];exact hb
theorem bodyW_ne:∀ (d:Nat) (e:Exp),rightB d e=true→bodyW d e≠[]
 | 0,_,h=>by cases h
 | d+1,e,_=>by
  unfold bodyW
  exact ite_ne (numW_ne _ _) (ite_ne (by simp) (ite_ne (by simp) (ite_ne (by simp) (ite_ne (by simp) (ite_ne (by simp) (ite_ne (by simp) (ite_ne (by simp) (ite_ne (by simp) (ite_ne (by simp) (ite_ne (by simp) (by simp)))))))))))
theorem parW_text {f least:Int} {l:List Pc} (h:l≠[]):joinP (parW f least l)=if f<least then [40,32]++joinP l++[32,41] else joinP l:=by
 unfold parW
 split
 ·rw [joinP_snoc _ (by simp)]
  show joinP (sP [40]::l)++[32]++[41]=_
  rw [joinP_cons _ h]
  simp [sP]
 ·rfl
theorem right_args {d:Nat} {e:Exp} (h:rightB (d+1) e=true) {i:Nat} (hi:(i:Int)<opsN e.op):rightB d (argOf e i)=true:=by
 obtain ⟨op,n,u,s,args⟩:=e
 rw [right_mk] at h
 by_cases hl:(args.length:Int)≠opsN op
 ·rw [if_pos hl] at h;cases h
 rw [if_neg hl] at h
 have hl:=Decidable.of_not_not hl
 have hi:(i:Int)<opsN op:=hi
 have hil:i<args.length:=by omega
 by_cases h0:op=0
 ·subst h0
  have:opsN 0=0:=rfl
  omega
 rw [if_neg h0] at h
 by_cases h1:op=1∨op=2∨op=3
 ·have:opsN op=0:=by rcases h1 with rfl | rfl | rfl<;>rfl
  omega
 rw [if_neg h1] at h
 by_cases h2:op=16∨op=17∨op=18
 ·rw [if_pos h2] at h
  have:opsN op=1:=by rcases h2 with rfl | rfl | rfl<;>rfl
  have:i=0:=by omega
  subst this
  simp only [Bool.and_eq_true] at h
  exact h.2
 rw [if_neg h2] at h
 simp only [Bool.and_eq_true,Bool.not_eq_true',List.any_eq_false] at h
 have:=h.2 (args.getD i ex0) (by rw [List.getD_eq_getElem?_getD,List.getElem?_eq_getElem hil];exact List.getElem_mem _)
 show rightB d (args.getD i ex0)=true
 cases hb:rightB d (args.getD i ex0) with
 | true=>rfl
 | false=>rw [hb] at this;exact (this rfl).elim
theorem opsN_two {op:Int} (h:opsN op≠-1) (h0:op≠0) (h1:op≠1) (h2:op≠2) (h3:op≠3) (h4:op≠12) (h5:op≠15) (h6:op≠16) (h7:op≠17) (h8:op≠18):opsN op=2:=by
 unfold opsN at h ⊢
 rw [if_neg (by omega),if_neg (by omega),if_neg (by omega)] at h ⊢
 split
 ·rename_i hx;rw [if_pos hx] at h;exact (h rfl).elim
 ·rfl
theorem right_opsN {d:Nat} {e:Exp} (h:rightB (d+1) e=true):opsN e.op≠-1:=by
 obtain ⟨op,n,u,s,args⟩:=e
 rw [right_mk] at h
 intro ho
 have ho:opsN op=-1:=ho
 rw [if_pos (by rw [ho];omega)] at h
 cases h
theorem body_text:∀ (d:Nat) (e:Exp),rightB d e=true→joinP (bodyW d e)=bodyT d e
 | 0,_,h=>by cases h
 | d+1,e,h=>by
  have par:∀ (i:Nat) (least:Int),(i:Int)<opsN e.op→joinP (parW (formO (argOf e i).op) least (bodyW d (argOf e i)))=showT d (argOf e i) least∧parW (formO (argOf e i).op) least (bodyW d (argOf e i))≠[]:=by
   intro i least hi
   have hr:=right_args h hi
   have hne:=bodyW_ne d _ hr
   refine ⟨?_,parW_ne hne⟩
   rw [parW_text hne,body_text d _ hr,showT]
  rw [body_succ]
  unfold bodyW
  by_cases h0:e.op=0
  ·rw [if_pos h0,if_pos h0];exact numW_text _ _
  rw [if_neg h0,if_neg h0]
  by_cases h1:e.op=1
  ·rw [if_pos h1,if_pos h1,joinP_one];rfl
  rw [if_neg h1,if_neg h1]
  by_cases h2:e.op=2
  ·rw [if_pos h2,if_pos h2];simp [joinP,wP]
  rw [if_neg h2,if_neg h2]
  by_cases h3:e.op=3
  ·rw [if_pos h3,if_pos h3];simp [joinP,wP]
  rw [if_neg h3,if_neg h3]
  by_cases h15:e.op=15
  ·rw [if_pos h15,if_pos h15]
   have hn:opsN e.op=3:=by rw [h15];rfl
   obtain ⟨t0,n0⟩:=par 0 0 (by omega)
   obtain ⟨t1,n1⟩:=par 1 0 (by omega)
   obtain ⟨t2,n2⟩:=par 2 0 (by omega)
   rw [joinP_app (by simp) n2,joinP_snoc _ (by simp),joinP_app (by simp) n1,joinP_snoc _ (by simp),joinP_app (by simp) n0,t0,t1,t2,joinP_one]
   simp [wP]
  rw [if_neg h15,if_neg h15]
  by_cases h12:e.op=12
  ·rw [if_pos h12,if_pos h12]
   have hn:opsN e.op=1:=by rw [h12];rfl
   obtain ⟨t0,n0⟩:=par 0 3 (by omega)
   rw [joinP_app (by simp) n0,t0,joinP_one]
   simp [wP]
  rw [if_neg h12,if_neg h12]
  by_cases h8:e.op=8
  ·rw [if_pos h8,if_pos h8]
   have hn:opsN e.op=2:=by rw [h8];rfl
   obtain ⟨t0,n0⟩:=par 0 0 (by omega)
   obtain ⟨t1,n1⟩:=par 1 0 (by omega)
   rw [joinP_snoc _ (by simp),joinP_app (by simp) n1,joinP_snoc _ (by simp),joinP_app (by simp) n0,t0,t1]
   simp [joinP,wP,sP]
  rw [if_neg h8,if_neg h8]
  by_cases h9:e.op=9
  ·rw [if_pos h9,if_pos h9]
   have hn:opsN e.op=2:=by rw [h9];rfl
   obtain ⟨t0,n0⟩:=par 0 0 (by omega)
   obtain ⟨t1,n1⟩:=par 1 0 (by omega)
   rw [joinP_snoc _ (by simp),joinP_app (by simp) n1,joinP_snoc _ (by simp),joinP_app (by simp) n0,t0,t1]
   simp [joinP,wP,sP]
  rw [if_neg h9,if_neg h9]
  by_cases h16:e.op=16
  ·rw [if_pos h16,if_pos h16]
   have hn:opsN e.op=1:=by rw [h16];rfl
   obtain ⟨t0,n0⟩:=par 0 0 (by omega)
   rw [joinP_snoc _ (by simp),joinP_app (by simp) n0,t0]
   simp [joinP,wP,sP,nP]
  rw [if_neg h16,if_neg h16]
  by_cases h17:e.op=17
  ·rw [if_pos h17,if_pos h17]
   have hn:opsN e.op=1:=by rw [h17];rfl
   obtain ⟨t0,n0⟩:=par 0 0 (by omega)
   rw [joinP_snoc _ (by simp),joinP_app (by simp) n0,t0]
   simp [joinP,wP,sP,nP]
  rw [if_neg h17,if_neg h17]
  by_cases h18:e.op=18
  ·rw [if_pos h18,if_pos h18]
   have hn:opsN e.op=1:=by rw [h18];rfl
   obtain ⟨t0,n0⟩:=par 0 0 (by omega)
   rw [joinP_snoc _ (by simp),joinP_app (by simp) n0,t0]
   simp [joinP,wP,sP,nP]
  rw [if_neg h18,if_neg h18]
  have hn:=opsN_two (right_opsN h) h0 h1 h2 h3 h12 h15 h16 h17 h18
  obtain ⟨t0,n0⟩:=par 0 (if (opE e.op).form=4 then 5 else (opE e.op).form) (by omega)
  obtain ⟨t1,n1⟩:=par 1 ((opE e.op).form+1) (by omega)
  rw [joinP_app (by simp) n1,joinP_snoc _ n0,t0,t1]
  rfl
theorem show_text {d:Nat} {e:Exp} (h:rightB d e=true) (least:Int):joinP (showW d e least)=showT d e least∧showW d e least≠[]:=by
 have hne:=bodyW_ne d e h
 refine ⟨?_,parW_ne hne⟩
 unfold showW
 rw [parW_text hne,body_text d e h,showT]
def GoodL (l:List Pc):Prop:=∀ x∈l,GoodP x
theorem GoodL.app {a b:List Pc} (ha:GoodL a) (hb:GoodL b):GoodL (a++b):=fun x hx=>(List.mem_append.1 hx).elim (ha x) (hb x)
theorem GoodL.cons {x:Pc} {l:List Pc} (hx:GoodP x) (h:GoodL l):GoodL (x::l):=fun y hy=>(List.mem_cons.1 hy).elim (fun e=>by rw [e];exact hx) (h y)
theorem GoodL.nil:GoodL []:=fun x hx=>by cases hx
theorem good_kw {s:List UInt8} (h:s∈resW):GoodP (wP s):=good_word (by
 have:∀ s∈resW,wordB s=true:=by decide
 exact this s h)
theorem good_opr {op:Int} (h:opsN op=2) (h8:op≠8) (h9:op≠9):GoodP (oP (opE op)):=by
 have hr:op=4∨op=5∨op=6∨op=7∨op=10∨op=11∨op=13∨op=14:=by
  unfold opsN at h
  split at h
  ·omega
  split at h
  ·omega
  split at h
  ·omega
  split at h
  ·omega
  ·omega
 rcases hr with rfl | rfl | rfl | rfl | rfl | rfl | rfl | rfl
 ·exact good_sign (s:=[43]) dd0
 ·exact good_sign (s:=[45]) dd0
 ·exact good_sign (s:=[42]) dd0
 ·exact good_sign (s:=[47]) dd0
 ·exact good_sign (s:=[60]) dd0
 ·exact good_sign (s:=[61,61]) dd0
 ·exact good_word (s:=[97,110,100]) dd0
 ·exact good_word (s:=[111,114]) dd0
theorem parW_good {f least:Int} {l:List Pc} (h:GoodL l):GoodL (parW f least l):=by
 unfold parW
 split
 ·exact ((GoodL.cons (good_sign (s:=[40]) dd0) .nil).app h).app (.cons (good_sign (s:=[41]) dd0) .nil)
 ·exact h
set_option maxHeartbeats 1000000
def Reps (l:List Pc) (r r':List Tok):Prop:=∃ T1,r=T1++r'∧T1.map Tok.pc=l
theorem Reps.len {l:List Pc} {r r':List Tok} (h:Reps l r r'):r.length=l.length+r'.length:=by
 obtain ⟨T1,rfl,rfl⟩:=h
 simp
def Stop (form:Int) (r:List Tok):Prop:=opI r<0∨(opAt (opI r)).form<form
def NoUnit (r:List Tok):Prop:=isT [99,111,105,110,115] r=false∧isT [100,97,121,115] r=false∧isT [109,105,108,108,101] r=false
theorem Stop.le {a b:Int} {r:List Tok} (h:Stop a r) (hab:a≤b):Stop b r:=h.imp id fun h=>by omega
def UE (e:Exp):Prop:=∀ (d n:Nat) (form:Int) (r r':List Tok),lev e≤d→Reps (bodyW d e) r r'→r.length≤n+1→0≤form→form≤formO e.op→Stop (formO e.op+1) r'→NoUnit r'→Fin1 r' →
 expS (expP n) form r=loopP (expP n) form r'.length e (formO e.op) r'
def NK (l:List Pc):Prop:=∀ z∈l,z.kind≠3
theorem NK.app {a b:List Pc} (ha:NK a) (hb:NK b):NK (a++b):=fun x hx=>(List.mem_append.1 hx).elim (ha x) (hb x)
theorem NK.cons {x:Pc} {l:List Pc} (hx:x.kind≠3) (h:NK l):NK (x::l):=fun y hy=>(List.mem_cons.1 hy).elim (fun e=>by rw [e];exact hx) (h y)
theorem NK.nil:NK []:=fun x hx=>by cases hx
theorem nk_ite {c:Prop} [Decidable c] {a b:List Pc} (ha:NK a) (hb:NK b):NK (if c then a else b):=by
 by_cases h:c
 ·rw [if_pos h];exact ha
 ·rw [if_neg h];exact hb
theorem nk_w (s:List UInt8):(wP s).kind≠3:=by show (0:Int)≠3;decide
theorem nk_n (n:Int):(nP n).kind≠3:=by show (1:Int)≠3;decide
theorem nk_s (s:List UInt8):(sP s).kind≠3:=by show (2:Int)≠3;decide
theorem nk_o (o:Opr):(oP o).kind≠3:=by show (if o.form≤2 then (0:Int) else 2)≠3;split<;>decide
theorem par_nk {f least:Int} {l:List Pc} (h:NK l):NK (parW f least l):=nk_ite ((NK.cons (nk_s _) h).app (.cons (nk_s _) .nil)) h
theorem num_nk (n u:Int):NK (numW n u):=nk_ite (.cons (nk_w _) .nil) (nk_ite (.cons (nk_n _) (.cons (nk_w _) .nil)) (nk_ite (.cons (nk_n _) (.cons (nk_w _) .nil)) (nk_ite (.cons (nk_n _) (.cons (nk_w _) .nil)) (.cons (nk_n _) .nil))))
theorem body_nk:∀ (d:Nat) (e:Exp),NK (bodyW d e)
 | 0,_=>.nil
 | d+1,e=>by
  have p:∀ (i:Nat) (least:Int),NK (parW (formO (argOf e i).op) least (bodyW d (argOf e i))):=fun i least=>par_nk (body_nk d _)
  unfold bodyW
  refine nk_ite (num_nk _ _) (nk_ite (.cons (nk_w _) .nil) (nk_ite (.cons (nk_w _) (.cons (nk_w _) .nil)) (nk_ite (.cons (nk_w _) (.cons (nk_w _) .nil)) (nk_ite ?_ (nk_ite ?_ (nk_ite ?_ (nk_ite ?_ (nk_ite ?_ (nk_ite ?_ (nk_ite ?_ ?_))))))))))
  ·exact (((((NK.cons (nk_w _) .nil).app (p 0 0)).app (.cons (nk_w _) .nil)).app (p 1 0)).app (.cons (nk_w _) .nil)).app (p 2 0)
  ·exact (NK.cons (nk_w _) .nil).app (p 0 3)
  ·exact ((((NK.cons (nk_w _) (.cons (nk_s _) .nil)).app (p 0 0)).app (.cons (nk_s _) .nil)).app (p 1 0)).app (.cons (nk_s _) .nil)
  ·exact ((((NK.cons (nk_w _) (.cons (nk_s _) .nil)).app (p 0 0)).app (.cons (nk_s _) .nil)).app (p 1 0)).app (.cons (nk_s _) .nil)
  ·exact ((NK.cons (nk_w _) (.cons (nk_n _) (.cons (nk_s _) .nil))).app (p 0 0)).app (.cons (nk_s _) .nil)
  ·exact ((NK.cons (nk_w _) (.cons (nk_n _) (.cons (nk_s _) .nil))).app (p 0 0)).app (.cons (nk_s _) .nil)
  ·exact ((NK.cons (nk_w _) (.cons (nk_n _) (.cons (nk_s _) .nil))).app (p 0 0)).app (.cons (nk_s _) .nil)
  ·exact ((p 0 _).app (.cons (nk_o _) .nil)).app (p 1 _)
theorem show_nk (d:Nat) (e:Exp) (least:Int):NK (showW d e least):=par_nk (body_nk d e)
theorem levD {op n u:Int} {s:List UInt8} {args:List Exp} {d:Nat} (h:lev (.mk op n u s args)≤d):∃ k,d=k+1∧levs args≤k:=by
 rw [lev] at h
 exact ⟨d-1,by omega,by omega⟩
structure BinO (op:Int):Prop where
 fo:formO op=(opE op).form
 id:(opE op).op=op
 lo:1≤(opE op).form
 hi:(opE op).form≤6
 ge:¬ idxP (fun o':Opr=>decide ((opE op).text=o'.text)) oprL<0
 at':opAt (idxP (fun o':Opr=>decide ((opE op).text=o'.text)) oprL)=opE op
 un:(opE op).text≠[99,111,105,110,115]∧(opE op).text≠[100,97,121,115]∧(opE op).text≠[109,105,108,108,101]
theorem binO {op:Int} (h:op=4∨op=5∨op=6∨op=7∨op=10∨op=11∨op=13∨op=14):BinO op:=by
 rcases h with rfl | rfl | rfl | rfl | rfl | rfl | rfl | rfl<;>exact ⟨by decide,by decide,by decide,by decide,by decide,rfl,by decide⟩
theorem body_bin {op:Int} (h:op=4∨op=5∨op=6∨op=7∨op=10∨op=11∨op=13∨op=14) (k:Nat) (x y:Exp) :
  bodyW (k+1) (.mk op 0 0 [] [x,y])=showW k x (if (opE op).form=4 then 5 else (opE op).form)++oP (opE op)::showW k y ((opE op).form+1):=by
 rcases h with rfl | rfl | rfl | rfl | rfl | rfl | rfl | rfl
 all_goals
  refine Eq.trans (b:=showW k x (if (opE _).form=4 then 5 else (opE _).form)++[oP (opE _)]++showW k y ((opE _).form+1)) rfl ?_
  rw [List.append_assoc]
  rfl
def Rd {α:Type} (p:Ps α) (v:α) (l:List Pc) (r r':List Tok):Prop:=∃ r1,p=.ok (v,r1)∧Reps l r1 r'∧r1.length≤r.length
def dayP (n:Int):List Pc:=[nP (partY n),sP [45],nP (partM n),sP [45],nP (partD n)]
def letP (x:LetE):List Pc:=wP [108,101,116]::wP x.name::sP [61]::(showW 12 x.body 0++[sP [59]])
def covP (c:Cov):List Pc:=wP [99,111,118,101,110,97,110,116]::wP c.name::wP [109,117,115,116]::(showW 12 c.must 0++[wP [103,114,97,99,101],nP c.grace,sP [59]])
def callP (c:CallE):List Pc:=wP [99,97,108,108]::(dayP c.a++[wP [97,116],nP c.b,sP [59]])
def favPc (l:List (List UInt8)):List Pc:=if 0<l.length then wP [102,97,118,111,117,114]::(l.map wP++[sP [59]]) else []
def croPc (x:Ind):List Pc:=if 0≤x.cross then [wP [99,114,111,115,115],nP x.cross,sP [59]] else []
def notPc (x:Ind):List Pc:=if 0<x.notice then [wP [110,111,116,105,99,101],nP x.notice,sP [59]] else []
def sinPc (x:Ind):List Pc:=if 0<x.sink then [wP [115,105,110,107],nP x.sink,sP [59]] else []
def HN (w:List UInt8) (l:List Pc):Prop:=∃ y k,l=y::k∧y.text≠w
theorem HN.cons {w:List UInt8} {y:Pc} {k:List Pc} (h:y.text≠w):HN w (y::k):=⟨y,k,rfl,h⟩
def tailPc (x:Ind):List Pc:=[wP [109,97,106,111,114,105,116,121],nP x.majority,sP [59],wP [102,97,115,116],nP x.fast,sP [59],endP]
def indPc (x:Ind):List Pc :=
 wP [105,115,115,117,101]::wP x.name::wP [111,102]::wP x.issuer::sP [59]::wP [102,97,99,101]::nP x.face::sP [59] ::
 wP [102,114,111,109]::(dayP x.frm++wP [116,111]::(dayP x.to++wP [101,118,101,114,121]::nP x.every::wP [109,111,110,116,104,115]::sP [59] ::
 wP [99,111,117,110,116]::wP (cntW.getD x.count.toNat [])::sP [59]::wP [97,100,106,117,115,116]::wP (adjW.getD x.adjust.toNat [])::sP [59] ::
 wP [114,101,99,111,114,100]::nP x.record::sP [59]::wP [114,97,110,107]::nP x.rank::sP [59] ::
 (x.lets.flatMap letP++wP [99,111,117,112,111,110]::(showW 12 x.coupon 0++sP [59]::wP [99,97,112]::nP x.cap::sP [59] ::
 (x.cov.flatMap covP++(favPc x.favour++(croPc x++(x.calls.flatMap callP++(notPc x++(sinPc x++tailPc x)))))))) ))
theorem gd_kw {s:List UInt8} (h:s∈resW):GoodP (wP s):=good_kw h
theorem gd_sg {s:List UInt8} (h:s∈signs):GoodP (sP s):=good_sign h
theorem show_good {e:Exp} {d:Nat} (h:GoodL (bodyW d e)) (least:Int):GoodL (showW d e least):=parW_good h
theorem body_good {e:Exp} (h:WfE e):∀ d:Nat,GoodL (bodyW d e):=by
 induction h with
 | num n u h0 h1 hu =>
  intro d
  cases d with
  | zero=>exact .nil
  | succ d =>
   have hn:GoodP (nP n):=good_num h0 h1
   show GoodL (numW n u)
   unfold numW
   rw [if_neg (by omega)]
   split
   ·exact .cons hn (.cons (gd_kw dd0) .nil)
   split
   ·exact .cons hn (.cons (gd_kw dd0) .nil)
   split
   ·exact .cons hn (.cons (gd_kw dd0) .nil)
   ·exact .cons hn .nil
 | boo n h =>
  intro d
  cases d with
  | zero=>exact .nil
  | succ d =>
   rcases h with rfl | rfl
   ·exact .cons (gd_kw dd0) .nil
   ·exact .cons (gd_kw dd0) .nil
 | name op s ho hn hl =>
  intro d
  cases d with
  | zero=>exact .nil
  | succ d =>
   have hg:GoodP (wP s):=good_name hn
   rcases ho with rfl | rfl | rfl
   ·exact .cons hg .nil
   ·exact .cons (gd_kw dd0) (.cons hg .nil)
   ·exact .cons (gd_kw dd0) (.cons hg .nil)
 | within op n x ho hn hx ih =>
  intro d
  cases d with
  | zero=>exact .nil
  | succ d =>
   have hn:GoodP (nP n):=good_num (by omega) (by omega)
   have hs:=show_good (ih d) 0
   rcases ho with rfl | rfl | rfl
   ·exact ((GoodL.cons (gd_kw dd0) (.cons hn (.cons (gd_sg dd0) .nil))).app hs).app (.cons (gd_sg dd0) .nil)
   ·exact ((GoodL.cons (gd_kw dd0) (.cons hn (.cons (gd_sg dd0) .nil))).app hs).app (.cons (gd_sg dd0) .nil)
   ·exact ((GoodL.cons (gd_kw dd0) (.cons hn (.cons (gd_sg dd0) .nil))).app hs).app (.cons (gd_sg dd0) .nil)
 | not x hx ih =>
  intro d
  cases d with
  | zero=>exact .nil
  | succ d=>exact (GoodL.cons (gd_kw (by decide)) .nil).app (show_good (ih d) 3)
 | pair op x y ho hx hy ihx ihy =>
  intro d
  cases d with
  | zero=>exact .nil
  | succ d =>
   by_cases h:op=8∨op=9
   ·have sx:=show_good (ihx d) 0
    have sy:=show_good (ihy d) 0
    rcases h with rfl | rfl
    ·exact ((((GoodL.cons (gd_kw dd0) (.cons (gd_sg dd0) .nil)).app sx).app (.cons (gd_sg dd0) .nil)).app sy).app (.cons (gd_sg dd0) .nil)
    ·exact ((((GoodL.cons (gd_kw dd0) (.cons (gd_sg dd0) .nil)).app sx).app (.cons (gd_sg dd0) .nil)).app sy).app (.cons (gd_sg dd0) .nil)
   ·have hb:op=4∨op=5∨op=6∨op=7∨op=10∨op=11∨op=13∨op=14:=by omega
    rw [body_bin hb]
    have hN:opsN op=2:=by rcases hb with rfl | rfl | rfl | rfl | rfl | rfl | rfl | rfl<;>rfl
    exact (show_good (ihx d) _).app (.cons (good_opr hN om0 om0) (show_good (ihy d) _))
 | cond x y z hx hy hz ihx ihy ihz =>
  intro d
  cases d with
  | zero=>exact .nil
  | succ d=>exact (((((GoodL.cons (gd_kw (by decide)) .nil).app (show_good (ihx d) 0)).app (.cons (gd_kw (by decide)) .nil)).app (show_good (ihy d) 0)).app (.cons (gd_kw (by decide)) .nil)).app (show_good (ihz d) 0)
theorem exp_good {e:Exp} (h:rightE e=true):GoodL (showW 12 e 0):=show_good (body_good ((rightE_iff e).1 h).1 12) 0
def itemsL (l:List Pc):List (Pc×List UInt8):=l.map (fun x=>(x,[32]))++[(sP [59],[10])]
def letL (x:LetE):List Pc:=wP [108,101,116]::wP x.name::sP [61]::showW 12 x.body 0
def covL (c:Cov):List Pc:=wP [99,111,118,101,110,97,110,116]::wP c.name::wP [109,117,115,116]::(showW 12 c.must 0++[wP [103,114,97,99,101],nP c.grace])
def callL (c:CallE):List Pc:=wP [99,97,108,108]::(dayP c.a++[wP [97,116],nP c.b])
def headL (x:Ind):List (List Pc):=[[wP [105,115,115,117,101],wP x.name,wP [111,102],wP x.issuer],[wP [102,97,99,101],nP x.face],
 wP [102,114,111,109]::(dayP x.frm++wP [116,111]::(dayP x.to++[wP [101,118,101,114,121],nP x.every,wP [109,111,110,116,104,115]])),
 [wP [99,111,117,110,116],wP (cntW.getD x.count.toNat [])],[wP [97,100,106,117,115,116],wP (adjW.getD x.adjust.toNat [])],[wP [114,101,99,111,114,100],nP x.record],[wP [114,97,110,107],nP x.rank]]
def midL (x:Ind):List (List Pc):=[wP [99,111,117,112,111,110]::showW 12 x.coupon 0,[wP [99,97,112],nP x.cap]]
def favLn (x:Ind):List (List Pc):=if 0<x.favour.length then [wP [102,97,118,111,117,114]::x.favour.map wP] else []
def croLn (x:Ind):List (List Pc):=if 0≤x.cross then [[wP [99,114,111,115,115],nP x.cross]] else []
def notLn (x:Ind):List (List Pc):=if 0<x.notice then [[wP [110,111,116,105,99,101],nP x.notice]] else []
def sinLn (x:Ind):List (List Pc):=if 0<x.sink then [[wP [115,105,110,107],nP x.sink]] else []
def endL (x:Ind):List (List Pc):=[[wP [109,97,106,111,114,105,116,121],nP x.majority],[wP [102,97,115,116],nP x.fast]]
def linesP (x:Ind):List (List Pc):=headL x++x.lets.map letL++midL x++x.cov.map covL++favLn x++croLn x++x.calls.map callL++notLn x++sinLn x++endL x
def LineEq (ws:List (List UInt8)) (l:List Pc):Prop:=lineT ws=lay (itemsL l)
inductive Fa2 {α β:Type} (R:α→β→Prop):List α→List β→Prop
 | nil:Fa2 R [] []
 | cons {a:α} {b:β} {l:List α} {m:List β} (h:R a b) (t:Fa2 R l m):Fa2 R (a::l) (b::m)
def Cost (e:Exp) (own:Int) (c:Nat):Prop:=∀ (d:Nat) (least:Int),lev e≤d→least≤own→(showW d e least).length≤c
theorem parW_le (f least:Int) (l:List Pc):(parW f least l).length≤l.length+2∧l.length≤(parW f least l).length:=by
 unfold parW
 split
 ·simp only [List.length_append,List.length_cons,List.length_nil]
  omega
 ·omega
theorem parW_no {f least:Int} (h:least≤f) (l:List Pc):parW f least l=l:=by unfold parW;rw [if_neg (by omega)]
theorem cost_body {e:Exp} {own:Int} {c:Nat} (ho:own≤formO e.op) (h:∀ d,lev e≤d→(bodyW d e).length≤c):Cost e own c:=by
 intro d least hd hl
 unfold showW
 rw [parW_no (by omega)]
 exact h d hd
theorem Cost.body {e:Exp} {own:Int} {c:Nat} (h:Cost e own c) (d:Nat) (hd:lev e≤d):(bodyW d e).length≤c:=by
 have:=h d (min own (formO e.op)) hd (Int.min_le_left _ _)
 unfold showW at this
 rw [parW_no (Int.min_le_right _ _)] at this
 exact this
theorem Cost.mono {e:Exp} {own:Int} {c c':Nat} (h:Cost e own c) (hc:c≤c'):Cost e own c':=fun d l hd hl=>Nat.le_trans (h d l hd hl) hc
def RecC (ex:Rec):Prop:=∀ form r e r',0≤form→form≤7→Fin1 r→ex form r=.ok (e,r')→∃ own,form≤own∧Cost e own (r.length-r'.length)
theorem want_len {w:List UInt8} {r r':List Tok} (hf:Fin1 r) (h:wantP w r=.ok r'):r'.length+1=r.length∧Fin1 r':=by
 have hs:=wantP_suf h
 have:=tail_lt hf
 unfold wantP at h
 split at h
 ·cases h
  exact ⟨by rw [List.length_tail];have:=List.length_pos_iff.2 hf.ne;omega,hs.2 hf⟩
 ·cases h
theorem numP_len {a b n:Int} {r r':List Tok} (hf:Fin1 r) (h:numP a b r=.ok (n,r')):r'.length+1=r.length∧Fin1 r':=by
 have hs:=(numP_suf h).1
 unfold numP at h
 split at h
 ·cases h
 split at h
 ·cases h
  exact ⟨by rw [List.length_tail];have:=List.length_pos_iff.2 hf.ne;omega,hs.2 hf⟩
 ·cases h
theorem nameP_len {s:List UInt8} {r r':List Tok} (hf:Fin1 r) (h:nameP r=.ok (s,r')):r'.length+1=r.length:=by
 unfold nameP at h
 split at h
 ·cases h
  rw [List.length_tail];have:=List.length_pos_iff.2 hf.ne;omega
 ·cases h
theorem tl_len {r:List Tok} (hf:Fin1 r):r.tail.length+1=r.length:=by
 rw [List.length_tail];have:=List.length_pos_iff.2 hf.ne;omega
theorem rec_cost {ex:Rec} (hC:RecC ex) (hS:RecS ex) {form:Int} (h0:0≤form) (h7:form≤7) {r r':List Tok} {e:Exp} (hf:Fin1 r) (h:ex form r=.ok (e,r')):r'.length≤r.length∧Fin1 r'∧∀ d,lev e≤d→(showW d e form).length≤r.length-r'.length:=by
 obtain ⟨own,h1,h2⟩:=hC form r e r' h0 h7 hf h
 exact ⟨(hS _ _ _ _ h).le,(hS _ _ _ _ h).2 hf,fun d hd=>h2 d form hd h1⟩
theorem within_cost {ex:Rec} (hC:RecC ex) (hS:RecS ex) {op:Int} (ho:op=16∨op=17∨op=18) {r r':List Tok} {e:Exp} (hf:Fin1 r) (h:withinP ex op r=.ok (e,r')):Cost e 7 (r.length+1-r'.length):=by
 unfold withinP at h
 split at h
 ·cases h
 rename_i n r1 e1
 split at h
 ·cases h
 rename_i r2 e2
 split at h
 ·cases h
 rename_i x r3 e3
 split at h
 ·cases h
 rename_i r4 e4
 cases h
 obtain ⟨l1,f1⟩:=numP_len hf e1
 obtain ⟨l2,f2⟩:=want_len f1 e2
 obtain ⟨l3,f3,c3⟩:=rec_cost hC hS (by omega) (by omega) f2 e3
 obtain ⟨l4,f4⟩:=want_len f3 e4
 refine cost_body (by show (7:Int)≤formO op;rcases ho with rfl | rfl | rfl<;>decide) fun d hd=>?_
 obtain ⟨k,rfl,hk⟩:=levD hd
 have:=c3 k (by simp only [levs] at hk;omega)
 have hb:(bodyW (k+1) (.mk op n 0 [] [x])).length=4+(showW k x 0).length:=by
  rcases ho with rfl | rfl | rfl
  ·show ([wP [101,118,101,114],nP n,sP [40]]++showW k x 0++[sP [41]]).length=_
   simp;omega
  ·show ([wP [108,111,110,103],nP n,sP [40]]++showW k x 0++[sP [41]]).length=_
   simp;omega
  ·show ([wP [115,111,111,110],nP n,sP [40]]++showW k x 0++[sP [41]]).length=_
   simp;omega
 rw [hb]
 omega
theorem pair_cost {ex:Rec} (hC:RecC ex) (hS:RecS ex) {op:Int} (ho:op=8∨op=9) {r r':List Tok} {e:Exp} (hf:Fin1 r) (h:pairP ex op r=.ok (e,r')):Cost e 7 (r.length+1-r'.length):=by
 unfold pairP at h
 split at h
 ·cases h
 rename_i r1 e1
 split at h
 ·cases h
 rename_i x r2 e2
 split at h
 ·cases h
 rename_i r3 e3
 split at h
 ·cases h
 rename_i y r4 e4
 split at h
 ·cases h
 rename_i r5 e5
 cases h
 obtain ⟨l1,f1⟩:=want_len hf e1
 obtain ⟨l2,f2,c2⟩:=rec_cost hC hS (by omega) (by omega) f1 e2
 obtain ⟨l3,f3⟩:=want_len f2 e3
 obtain ⟨l4,f4,c4⟩:=rec_cost hC hS (by omega) (by omega) f3 e4
 obtain ⟨l5,f5⟩:=want_len f4 e5
 refine cost_body (by show (7:Int)≤formO op;rcases ho with rfl | rfl<;>decide) fun d hd=>?_
 obtain ⟨k,rfl,hk⟩:=levD hd
 have a:=c2 k (by simp only [levs] at hk;omega)
 have b:=c4 k (by simp only [levs] at hk;omega)
 have hb:(bodyW (k+1) (.mk op 0 0 [] [x,y])).length=4+(showW k x 0).length+(showW k y 0).length:=by
  rcases ho with rfl | rfl
  ·show ([wP [109,105,110],sP [40]]++showW k x 0++[sP [44]]++showW k y 0++[sP [41]]).length=_
   simp;omega
  ·show ([wP [109,97,120],sP [40]]++showW k x 0++[sP [44]]++showW k y 0++[sP [41]]).length=_
   simp;omega
 rw [hb]
 omega
theorem named_cost {op:Int} (ho:op=1∨op=2∨op=3) {r r':List Tok} {e:Exp} (hf:Fin1 r) (h:namedP op r=.ok (e,r')):Cost e 7 ((if op=1 then 0 else 1)+r.length-r'.length):=by
 unfold namedP at h
 split at h
 ·cases h
 rename_i s r1 e1
 cases h
 have l1:=nameP_len hf e1
 refine cost_body (by show (7:Int)≤formO op;rcases ho with rfl | rfl | rfl<;>decide) fun d hd=>?_
 obtain ⟨k,rfl,hk⟩:=levD hd
 rcases ho with rfl | rfl | rfl
 ·show 1≤_;rw [if_pos rfl];omega
 ·show 2≤_;rw [if_neg (by decide)];omega
 ·show 2≤_;rw [if_neg (by decide)];omega
theorem prim_cost {ex:Rec} (hC:RecC ex) (hS:RecS ex) {r r':List Tok} {e:Exp} (hf:Fin1 r) (h:primP ex r=.ok (e,r')):Cost e 7 (r.length-r'.length):=by
 have ht:=tl_len hf
 have key:∀ {w:List UInt8},isT w r=true→Fin1 r.tail:=fun h=>hf.tail (isT_kind h)
 have one:∀ (n u:Int),(∀ d,(bodyW (d+1) (.mk 0 n u [] [])).length≤1)→Cost (.mk 0 n u [] []) 7 (r.length-r.tail.length):=fun n u hb=>cost_body (by show (7:Int)≤formO 0;decide) fun d hd=>by
  obtain ⟨k,rfl,hk⟩:=levD hd
  exact Nat.le_trans (hb k) om0
 unfold primP at h
 by_cases hk:(hdT r).kind=1
 ·rw [if_pos hk] at h
  cases h
  refine cost_body (by show (7:Int)≤formO 0;decide) fun d hd=>?_
  obtain ⟨k,rfl,_⟩:=levD hd
  show (numW (hdT r).n (unitP r.tail).1).length≤r.length-(unitP r.tail).2.length
  have hfr:Fin1 r.tail:=hf.tail (by omega)
  have ht2:=tl_len hfr
  unfold unitP
  cases c1:isT [99,111,105,110,115] r.tail with
  | true=>show 2≤r.length-r.tail.tail.length;omega
  | false =>
  cases c2:isT [100,97,121,115] r.tail with
  | true=>show 2≤r.length-r.tail.tail.length;omega
  | false =>
  cases c3:isT [109,105,108,108,101] r.tail with
  | true=>show 2≤r.length-r.tail.tail.length;omega
  | false=>show 1≤r.length-r.tail.length;omega
 rw [if_neg hk] at h
 cases b0:isT [116,114,117,101] r with
 | true=>rw [b0] at h;cases h;exact one 1 4 fun d=>Nat.le_refl _
 | false =>
 rw [b0] at h
 cases b1:isT [102,97,108,115,101] r with
 | true=>rw [b1] at h;cases h;exact one 0 4 fun d=>Nat.le_refl _
 | false =>
 rw [b1] at h
 cases b2:isT [102,97,99,116] r with
 | true =>
  rw [b2] at h
  have:=named_cost (.inr (.inl rfl)) (key b2) h
  exact this.mono (by rw [if_neg (by decide)];omega)
 | false =>
 rw [b2] at h
 cases b3:isT [114,97,116,101] r with
 | true =>
  rw [b3] at h
  have:=named_cost (.inr (.inr rfl)) (key b3) h
  exact this.mono (by rw [if_neg (by decide)];omega)
 | false =>
 rw [b3] at h
 cases b4:isT [101,118,101,114] r with
 | true=>rw [b4] at h;exact (within_cost hC hS (.inl rfl) (key b4) h).mono (by omega)
 | false =>
 rw [b4] at h
 cases b5:isT [108,111,110,103] r with
 | true=>rw [b5] at h;exact (within_cost hC hS (.inr (.inl rfl)) (key b5) h).mono (by omega)
 | false =>
 rw [b5] at h
 cases b6:isT [115,111,111,110] r with
 | true=>rw [b6] at h;exact (within_cost hC hS (.inr (.inr rfl)) (key b6) h).mono (by omega)
 | false =>
 rw [b6] at h
 cases b7:isT [109,105,110] r with
 | true =>
  rw [b7] at h
  exact (pair_cost hC hS (by split;exact .inr rfl;exact .inl rfl) (key b7) h).mono om0
 | false =>
 rw [b7] at h
 cases b8:isT [109,97,120] r with
 | true =>
  rw [b8] at h
  exact (pair_cost hC hS (.inr rfl) (key b8) h).mono om0
 | false =>
 rw [b8] at h
 cases b9:isT [40] r with
 | true =>
  rw [b9] at h
  have h:parenP ex r.tail=.ok (e,r'):=h
  unfold parenP at h
  split at h
  ·cases h
  rename_i x r3 e3
  split at h
  ·cases h
  rename_i r4 e4
  cases h
  obtain ⟨own,_,hc⟩:=hC 0 _ _ _ (by omega) (by omega) (key b9) e3
  have l3:=(hS _ _ _ _ e3).le
  obtain ⟨l4,_⟩:=want_len ((hS _ _ _ _ e3).2 (key b9)) e4
  intro d least hd hl
  have:=hc.body d hd
  have h2:=(parW_le (formO e.op) least (bodyW d e)).1
  show (parW (formO e.op) least (bodyW d e)).length≤_
  omega
 | false =>
  rw [b9] at h
  have h:namedP 1 r=.ok (e,r'):=h
  exact (named_cost (.inl rfl) hf h).mono (by rw [if_pos rfl];omega)
theorem opr_bin {i:Nat} (h:i<8):(let op:=(oprL.getD i o0).op;op=4∨op=5∨op=6∨op=7∨op=10∨op=11∨op=13∨op=14)∧opE (oprL.getD i o0).op=oprL.getD i o0:=by
 have hi:i=0∨i=1∨i=2∨i=3∨i=4∨i=5∨i=6∨i=7:=by omega
 rcases hi with rfl | rfl | rfl | rfl | rfl | rfl | rfl | rfl<;>exact ⟨by decide,rfl⟩
theorem loop_cost {ex:Rec} (hC:RecC ex) (hS:RecS ex) {form:Int} (h0:0≤form):∀ (f:Nat) (e:Exp) (own:Int) (r:List Tok) (c:Nat) (e':Exp) (r':List Tok),Fin1 r→form≤own→Cost e own c→loopP ex form f e own r=.ok (e',r') →
  ∃ own',form≤own'∧Cost e' own' (c+(r.length-r'.length))
 | 0,e,own,r,c,e',r',hf,ho,hc,h=>by
  cases h
  exact ⟨own,ho,hc.mono om0⟩
 | f+1,e,own,r,c,e',r',hf,ho,hc,h=>by
  by_cases hi:opI r<0
  ·rw [loopP_none hi] at h
   cases h
   exact ⟨own,ho,hc.mono om0⟩
  by_cases hx:(opAt (opI r)).form<form∨own<(opAt (opI r)).form∨own=4∧(opAt (opI r)).form=4
  ·rw [loopP_stop hi hx] at h
   cases h
   exact ⟨own,ho,hc.mono om0⟩
  rw [loopP_step hi hx] at h
  obtain ⟨hlt,hop⟩:=opI_ok hi
  have hlt':(opI r).toNat<8:=hlt
  obtain ⟨hb,hE⟩:=opr_bin hlt'
  have hoa:opAt (opI r)=oprL.getD (opI r).toNat o0:=rfl
  rw [← hoa] at hb hE
  dsimp only at hb
  generalize opAt (opI r)=o at *
  split at h
  ·cases h
  rename_i y r1 e1
  have ft:=hf.tail (isT_kind hop)
  have lt:=tl_len hf
  have B:=binO hb
  have blo:=B.lo
  have bhi:=B.hi
  rw [hE] at blo bhi
  obtain ⟨l1,f1,c1⟩:=rec_cost hC hS (by omega) (by omega) ft e1
  have hfo:formO o.op=o.form:=by rw [B.fo,hE]
  have hnew:Cost (.mk o.op 0 0 [] [e,y]) o.form (c+(r.length-r1.length)):=by
   refine cost_body (by show o.form≤formO o.op;omega) fun d hd=>?_
   obtain ⟨k,rfl,hk⟩:=levD hd
   have a:=hc k (if o.form=4 then 5 else o.form) (by simp only [levs] at hk;omega) (by split<;>omega)
   have b:=c1 k (by simp only [levs] at hk;omega)
   rw [body_bin hb,hE,List.length_append,List.length_cons]
   omega
  obtain ⟨own',h1,h2⟩:=loop_cost hC hS h0 f _ o.form r1 _ e' r' f1 (by omega) hnew h
  have l2:=(loopP_suf hS _ _ _ _ _ _ h).le
  exact ⟨own',h1,h2.mono om0⟩
theorem expS_cost {ex:Rec} (hC:RecC ex) (hS:RecS ex):RecC (expS ex):=by
 intro form r e r' h0 h7 hf h
 unfold expS at h
 split at h
 ·cases h
 rename_i x own r0 e0
 have hp:=prefP_suf hS e0
 have key:form≤own∧Cost x own (r.length-r0.length):=by
  have ht:=tl_len hf
  unfold prefP at e0
  split at e0
  ·rename_i hb
   have ft:=hf.tail (isT_kind hb.2)
   unfold ifP at e0
   split at e0
   ·cases e0
   rename_i v hv
   cases e0
   split at hv
   ·cases hv
   rename_i a r1 e1
   split at hv
   ·cases hv
   rename_i r2 e2
   split at hv
   ·cases hv
   rename_i b r3 e3
   split at hv
   ·cases hv
   rename_i r4 e4
   split at hv
   ·cases hv
   rename_i z r5 e5
   cases hv
   obtain ⟨l1,f1,c1⟩:=rec_cost hC hS (by omega) (by omega) ft e1
   obtain ⟨l2,f2⟩:=want_len f1 e2
   obtain ⟨l3,f3,c3⟩:=rec_cost hC hS (by omega) (by omega) f2 e3
   obtain ⟨l4,f4⟩:=want_len f3 e4
   obtain ⟨l5,f5,c5⟩:=rec_cost hC hS (by omega) (by omega) f4 e5
   refine ⟨by omega,cost_body (by show (0:Int)≤formO 15;decide) fun d hd=>?_⟩
   obtain ⟨k,rfl,hk⟩:=levD hd
   simp only [levs] at hk
   have q1:=c1 k (by omega)
   have q3:=c3 k (by omega)
   have q5:=c5 k (by omega)
   show ([wP [105,102]]++showW k a 0++[wP [116,104,101,110]]++showW k b 0++[wP [101,108,115,101]]++showW k z 0).length≤_
   simp only [List.length_append,List.length_cons,List.length_nil]
   omega
  split at e0
  ·rename_i hb
   have ft:=hf.tail (isT_kind hb.2)
   unfold notP at e0
   split at e0
   ·cases e0
   rename_i v hv
   cases e0
   split at hv
   ·cases hv
   rename_i a r1 e1
   cases hv
   obtain ⟨l1,f1,c1⟩:=rec_cost hC hS (by omega) (by omega) ft e1
   refine ⟨hb.1,cost_body (by show (3:Int)≤formO 12;decide) fun d hd=>?_⟩
   obtain ⟨k,rfl,hk⟩:=levD hd
   simp only [levs] at hk
   have q1:=c1 k (by omega)
   show ([wP [110,111,116]]++showW k a 3).length≤_
   simp only [List.length_append,List.length_cons,List.length_nil]
   omega
  ·split at e0
   ·cases e0
   rename_i v hv
   cases e0
   exact ⟨h7,prim_cost hC hS hf hv⟩
 obtain ⟨own',h1,h2⟩:=loop_cost hC hS h0 _ _ _ _ _ _ _ (hp.1.2 hf) key.1 key.2 h
 have:=hp.1.le
 have l2:=(loopP_suf hS _ _ _ _ _ _ h).le
 exact ⟨own',h1,h2.mono om0⟩
theorem expP_cost:∀ n:Nat,RecC (expP n)
 | 0=>fun form r e r' _ _ _ h=>by
  have h:errP 12 r=.ok (e,r'):=h
  cases h
 | n+1=>expS_cost (expP_cost n) (expP_suf n)
theorem show_least {n:Nat} {r r':List Tok} {e:Exp} (hf:Fin1 r) (h:expP n 0 r=.ok (e,r')) {d:Nat} (hd:lev e≤d):(showW d e 0).length+r'.length≤r.length:=by
 obtain ⟨l,_,c⟩:=rec_cost (expP_cost n) (expP_suf n) (by omega) (by omega) hf h
 have:=c d hd
 omega
def itemsB (b:List UInt8):List Pc→List (Pc×List UInt8)
 | []=>[]
 | [x]=>[(x,[])]
 | x::y::l=>(x,b)::itemsB b (y::l)
theorem lay_itemsB:∀ l:List Pc,lay (itemsB [32] l)=joinP l
 | []=>rfl
 | [x]=>by simp [itemsB,lay,joinP]
 | x::y::l=>by
  rw [joinP_cons x (by simp),itemsB,lay,lay_itemsB (y::l)]
  simp
theorem itemsB_fst (b:List UInt8):∀ l:List Pc,(itemsB b l).map Prod.fst=l
 | []=>rfl
 | [x]=>rfl
 | x::y::l=>by rw [itemsB,List.map_cons,itemsB_fst b (y::l)]
theorem itemsB_ok {b:List UInt8} (hb:Blk b) (hn:b≠[]):∀ {l:List Pc},GoodL l→LayOk (itemsB b l)
 | [],_=>trivial
 | [x],h=>⟨h x (by simp),(fun c hc=>by cases hc),.inl rfl,trivial⟩
 | x::y::l,h=>⟨h x (by simp),hb,.inr hn,itemsB_ok hb hn fun z hz=>h z (by simp [List.mem_cons.1 hz])⟩
theorem lex_join {l:List Pc} (h:GoodL l) (hl:(joinP l).length≤4000):∃ T,lexR (joinP l)=.ok T∧T.map Tok.pc=l++[endP]:=by
 have b32:Blk [32]:=fun c hc=>by rw [List.mem_singleton.1 hc];decide
 rw [← lay_itemsB] at hl ⊢
 obtain ⟨T,e1,hT⟩:=lexR_lay (itemsB_ok b32 (by simp) h) hl
 rw [itemsB_fst] at hT
 exact ⟨T,e1,hT⟩
def pcs (R:List Tok):List Pc:=(R.map Tok.pc).filter fun x=>decide (x.kind≠3)
theorem join_pcs:∀ l:List Pc,Lib.join (l.map Pc.text) [32]=joinP l
 | []=>rfl
 | [x]=>by simp [Lib.join,joinP]
 | x::y::l=>by
  rw [joinP_cons x (by simp),← join_pcs (y::l)]
  simp [Lib.join]
theorem text_pcs (R:List Tok):Lib.join (txs R) [32]=joinP (pcs R):=by
 rw [← join_pcs]
 unfold txs pcs
 rw [List.filter_map,List.map_map]
 rfl
theorem pcs_all {T:List Tok} {l:List Pc} (h:T.map Tok.pc=l++[endP]) (hl:NK l):pcs T=l:=by
 unfold pcs
 rw [h,List.filter_append,List.filter_eq_self.2 fun x hx=>decide_eq_true (hl x hx)]
 simp [endP]
theorem pcs_good {T R:List Tok} {l:List Pc} (h:T.map Tok.pc=l++[endP]) (hl:GoodL l) (hR:∀ t∈R,t∈T):GoodL (pcs R):=by
 intro x hx
 unfold pcs at hx
 obtain ⟨h1,h2⟩:=List.mem_filter.1 hx
 obtain ⟨t,ht,rfl⟩:=List.mem_map.1 h1
 have h3:t.pc∈l++[endP]:=h ▸ List.mem_map_of_mem (hR t ht)
 rcases List.mem_append.1 h3 with h3 | h3
 ·exact hl _ h3
 ·rw [List.mem_singleton.1 h3] at h2
  simp [endP] at h2
theorem pcs_le (R:List Tok):(pcs R).length≤R.length:=by
 have:=List.length_filter_le (fun x:Pc=>decide (x.kind≠3)) (R.map Tok.pc)
 rwa [List.length_map] at this
theorem joinP_le:∀ {l:List Pc},(∀ x∈l,x.text.length≤4000)→(joinP l).length≤4001*l.length
 | [],_=>by simp [joinP]
 | [x],h=>by
  have:=h x (by simp)
  rw [joinP_one,List.length_singleton]
  omega
 | x::y::l,h=>by
  have h1:=h x (by simp)
  have h2:=joinP_le (l:=y::l) fun z hz=>h z (by simp [List.mem_cons.1 hz])
  rw [joinP_cons x (by simp)]
  simp only [List.length_append,List.length_cons,List.length_nil] at h2 ⊢
  omega
theorem text_le {T R:List Tok} (hp:PSt T T) (hR:∀ t∈R,t∈T) (hl:R.length≤T.length):(joinP (pcs R)).length≤4001*T.length:=by
 have h1:=pcs_le R
 have h2:=joinP_le (l:=pcs R) fun x hx=>by
  unfold pcs at hx
  obtain ⟨t,ht,rfl⟩:=List.mem_map.1 (List.mem_filter.1 hx).1
  exact (hp.txt t (hR t ht)).1
 have:=Nat.mul_le_mul_left 4001 (Nat.le_trans h1 hl)
 omega
theorem not_last {T:List Tok} {l:List Pc} (h:T.map Tok.pc=l++[endP]) {i:Nat} (hi:i<T.length) (ht:(T.getD i t0).text≠[]):i+1<T.length:=by
 have hlen:T.length=l.length+1:=by
  have:=congrArg List.length h
  simpa using this
 by_cases hx:i+1<T.length
 ·exact hx
 have hil:i=l.length:=by omega
 subst hil
 have h1:(T.map Tok.pc)[l.length]?=some endP:=by rw [h];simp
 rw [List.getElem?_map] at h1
 refine (ht ?_).elim
 rw [List.getD_eq_getElem?_getD]
 cases e:T[l.length]? with
 | none=>rw [e] at h1;cases h1
 | some t =>
  rw [e] at h1
  have h2:t.pc=endP:=by simpa using h1
  exact congrArg Pc.text h2
def cutT (T:List Tok) (i k:Nat):List Tok:=T.take i++(T.drop (i+1)).take (k-(i+1))++T.drop (k+1)
theorem cutT_len {T:List Tok} {i k:Nat} (h1:i<k) (h2:k<T.length):(cutT T i k).length+2=T.length:=by
 unfold cutT
 simp only [List.length_append,List.length_take,List.length_drop]
 omega
theorem cutT_mem {T:List Tok} {i k:Nat}:∀ t∈cutT T i k,t∈T:=by
 intro t ht
 unfold cutT at ht
 rcases List.mem_append.1 ht with ht | ht
 ·rcases List.mem_append.1 ht with ht | ht
  ·exact List.mem_of_mem_take ht
  ·exact List.mem_of_mem_drop (List.mem_of_mem_take ht)
 ·exact List.mem_of_mem_drop ht
theorem cut_not {e:Exp} (hr:rightE e=true) {T:List Tok} (hT:T.map Tok.pc=showW 12 e 0++[endP]) {i k:Nat} (h1:i<k) (h2:k<T.length):parseER (joinP (pcs (cutT T i k)))≠.ok e:=by
 intro h
 have hlen:=cutT_len h1 h2
 have hg:=pcs_good hT (exp_good hr) (cutT_mem (T:=T) (i:=i) (k:=k))
 have hpl:=pcs_le (cutT T i k)
 have hTl:T.length=(showW 12 e 0).length+1:=by
  have:=congrArg List.length hT
  simpa using this
 generalize pcs (cutT T i k)=l at *
 unfold parseER at h
 cases e1:lexR (joinP l) with
 | error er=>rw [e1] at h;cases h
 | ok T2 =>
 rw [e1] at h
 dsimp only at h
 have hl:(joinP l).length≤4000:=by
  unfold lexR at e1
  split at e1
  ·cases e1
  ·omega
 obtain ⟨T3,e2,hm⟩:=lex_join hg hl
 rw [e1] at e2
 cases e2
 have hf:=(lexR_ok e1).fin
 have hml:T2.length=l.length+1:=by
  have:=congrArg List.length hm
  simpa using this
 split at h
 ·cases h
 rename_i z r e3
 split at h
 ·cases h
 split at h
 ·cases h
  have h4:=show_least hf e3 ((rightE_iff _).1 hr).2
  have h5:=List.length_pos_iff.2 (((expP_suf _ _ _ _ _ e3).2 hf).ne)
  omega
 ·cases h
theorem parseE_er {s:List UInt8} {e:Er} (h:parseER s=.error e):e.2≠0:=by
 cases e1:lexR s with
 | error er =>
  have hp:parseER s=.error er:=by unfold parseER;rw [e1]
  rw [hp] at h
  cases h
  exact lexR_er e1
 | ok T =>
  have hst:=lex_sst e1
  have ha:=wholeE_ag hst.st.fin
  have ha:match parseER s with | .ok x=>(wholeS [] (sN T)).1=x∧(wholeS [] (sN T)).2.er=none | .error e=>(wholeS [] (sN T)).2.er=some e:=by unfold parseER;rw [e1];exact ha
  have hss:=whole_ss [] (sN T)
  rw [h] at ha
  exact hss.ok hst.ok e ha
def isMM (s:List UInt8):Bool:=decide (s=[109,105,110])||decide (s=[109,97,120])
def isEL (s:List UInt8):Bool:=decide (s=[101,118,101,114])||decide (s=[108,111,110,103])||decide (s=[115,111,111,110])
def ownB (T:List Tok) (i:Nat):Bool:=if (decide (0<(i:Int))&&isMM (T.getD ((i:Int)-1).toNat t0).text)=true then true else decide (1<(i:Int))&&isEL (T.getD ((i:Int)-2).toNat t0).text
theorem own_ok (T:List Tok) (i:Nat) (hi:i<T.length) (hb:T.length≤1000000000):APureV Tryz.prog 36 [encTks T,.int .i64 (i:Nat)] (.bool (ownB T i)):=by
 refine aO (cxOk 54 [0,1,4,24]) Tryz.func36 ?_
 conv=>whnf
 repeat (first | (refine And.intro (fun _=>⟨by omega,by omega⟩) ?_;conv=>whnf) | (refine And.intro (fun h=>by simp [andG,polB] at h;omega) ?_;conv=>whnf) | (refine And.intro rfl ?_;conv=>whnf))
 refine ⟨fun hd=>?_,fun hd=>?_⟩
 ·conv=>whnf
  unfold ownB
  rw [if_pos (show (decide (0<(i:Int))&&isMM (T.getD ((i:Int)-1).toNat t0).text)=true from hd)]
  rfl
 ·conv=>whnf
  repeat (first | (refine And.intro (fun _=>⟨by omega,by omega⟩) ?_;conv=>whnf) | (refine And.intro (fun h=>by simp [andG,polB] at h;omega) ?_;conv=>whnf) | (refine And.intro rfl ?_;conv=>whnf))
  unfold ownB
  rw [if_neg (by rw [show (decide (0<(i:Int))&&isMM (T.getD ((i:Int)-1).toNat t0).text)=false from hd];decide)]
  rfl
theorem joinP_ge:∀ l:List Pc,l.length≤(joinP l).length+1
 | []=>by simp
 | [x]=>by simp
 | x::y::l=>by
  have:=joinP_ge (y::l)
  rw [joinP_cons x (by simp)]
  simp only [List.length_append,List.length_cons,List.length_nil] at this ⊢
  omega
theorem law_paren (e:Exp) (he:OkE e) (w:Int) (hw:in64 w):APureV Tryz.prog 8 [encE e,.int .i64 w] (.bool true):=by
 have f1:=fewexp_ok e he
 cases hf1:fewE e with
 | false =>
  rw [hf1] at f1
  refine aO (cxOk 137 [0,1,2,4,5,6,7,8,10,11,12,13,14,15,16,18,22,30,49,53,66,73,83,91,99]) Tryz.func8 ?_
  conv=>whnf
  refine cO (fun _=>small_ok) ?_
  conv=>whnf
  refine cO (fun _=>f1) ?_
  conv=>whnf
  refine gT ?_
  conv=>whnf
  rfl
 | true =>
 rw [hf1] at f1
 have c1:=printexp_ok e he
 cases hr:rightE e with
 | false =>
  have hp:printE e=([],1):=by unfold printE;rw [hr,if_neg (by decide)]
  rw [hp] at c1
  refine aO (cxOk 137 [0,1,2,4,5,6,7,8,10,11,12,13,14,15,16,18,22,30,49,53,66,73,83,91,99]) Tryz.func8 ?_
  conv=>whnf
  refine cO (fun _=>small_ok) ?_
  conv=>whnf
  refine cO (fun _=>f1) ?_
  conv=>whnf
  refine gF ?_
  conv=>whnf
  refine cO (fun _=>c1) ?_
  conv=>whnf
  refine gT ?_
  conv=>whnf
  rfl
 | true =>
 by_cases hl:4000<(showT 12 e 0).length
 ·have hp:printE e=([],6):=by unfold printE fitsT;rw [hr,if_pos rfl,if_pos (by omega)]
  rw [hp] at c1
  refine aO (cxOk 137 [0,1,2,4,5,6,7,8,10,11,12,13,14,15,16,18,22,30,49,53,66,73,83,91,99]) Tryz.func8 ?_
  conv=>whnf
  refine cO (fun _=>small_ok) ?_
  conv=>whnf
  refine cO (fun _=>f1) ?_
  conv=>whnf
  refine gF ?_
  conv=>whnf
  refine cO (fun _=>c1) ?_
  conv=>whnf
  refine gT ?_
  conv=>whnf
  rfl
 have hp:printE e=(showT 12 e 0,0):=by unfold printE fitsT;rw [hr,if_pos rfl,if_neg (by omega)]
 rw [hp] at c1
 have ht:joinP (showW 12 e 0)=showT 12 e 0:=(show_text hr 0).1
 obtain ⟨T,e1,hT⟩:=lex_join (exp_good hr) (by rw [ht];omega)
 rw [ht] at e1
 have hp:=lexR_ok e1
 have hTl:T.length=(showW 12 e 0).length+1:=by
  have:=congrArg List.length hT
  simpa using this
 have hge:=joinP_ge (showW 12 e 0)
 rw [ht] at hge
 have hTb:T.length≤4002:=by omega
 have hlx:=lex34 (showT 12 e 0) (by omega)
 rw [e1] at hlx
 unfold lexA at hlx
 have hj:(Lib.join (txs T) [32]).length≤140737488355328:=by rw [text_pcs];have:=text_le hp (fun t h=>h) (Nat.le_refl T.length);omega
 have htx:=text_ok T (by omega) hj
 rw [text_pcs,pcs_all hT (show_nk 12 e 0),ht] at htx
 refine aO (cxOk 137 [0,1,2,4,5,6,7,8,10,11,12,13,14,15,16,18,22,30,49,53,66,73,83,91,99]) Tryz.func8 ?_
 conv=>whnf
 refine cO (fun _=>small_ok) ?_
 conv=>whnf
 refine cO (fun _=>f1) ?_
 conv=>whnf
 refine gF ?_
 conv=>whnf
 refine cO (fun _=>c1) ?_
 conv=>whnf
 refine gF ?_
 conv=>whnf
 refine cO (fun _=>hlx) ?_
 conv=>whnf
 refine cO (fun _=>htx) ?_
 conv=>whnf
 rw [decide_eq_true (rfl:(0:Int)=0),decide_eq_true (show showT 12 e 0=(showT 12 e 0,(0:Int)).1 from rfl)]
 refine gF ?_
 conv=>whnf
 refine loop_inv (cxOk _ _) (fun s:Nat×Nat=>s.1≤T.length∧s.2≤s.1) (fun s=>T.length-s.1) (fun s=>⟨[(1,.int .i64 w),(2,.ptr 0 0),(4,.bool false),(5,.bool true),(8,encTks T),(11,.int .i64 ((s.2):Nat)),(12,.int .i64 ((s.1):Nat))],[(0,.cells 26 (cellsE e))],1⟩) (0,0) ⟨by show 0≤_;omega,by show 0≤0;omega⟩ ((wk_of [(0,.id 0)] rfl ⟨wa0,wc0,wa0,wa0,wa0,wa0,wa0,trivial⟩ ⟨wb0,trivial⟩)) ?_
 rintro ⟨i,n⟩ ⟨hi,hn⟩
 have hi:i≤T.length:=hi
 have hn:n≤i:=hn
 conv=>whnf
 refine ⟨fun hd=>?_,fun hd=>?_⟩
 ·have hlt:i<T.length:=by have:=of_decide_eq_true hd;show i<_;have h2:(i:Int)<(T.length:Int):=this;omega
  have hek:(i:Int).toNat=i:=Int.toNat_natCast i
  have how:=own_ok T i hlt (by omega)
  conv=>whnf
  refine iO ?_;conv=>whnf
  refine And.intro rfl ?_;conv=>whnf
  rw [hek]
  refine cO (fun _=>how) ?_
  conv=>whnf
  refine ⟨fun hx=>?_,fun hx=>?_⟩
  ·conv=>whnf
   refine iO ?_;conv=>whnf
   exact ⟨(i+1,n),⟨by show i+1≤_;omega,by show n≤i+1;omega⟩,(by show T.length-(i+1)<_;omega),(wk_of [(0,.id 0)] rfl ⟨wa0,wc0,wa0,wa0,wa0,wa0,wa0,trivial⟩ ⟨wb0,trivial⟩)⟩
  ·have hpar:(T.getD i t0).text=[40]:=by
    have hx:(!decide ((T.getD i t0).text=[40])||ownB T i)=false:=hx
    simp only [Bool.or_eq_false_iff,Bool.not_eq_false',decide_eq_true_eq] at hx
    exact hx.1
   have hlast:=not_last hT hlt (by rw [hpar];simp)
   conv=>whnf
   refine iO ?_;conv=>whnf
   refine iO ?_;conv=>whnf
   refine ⟨fun hy=>?_,fun hy=>?_⟩
   ·conv=>whnf
    refine iO ?_;conv=>whnf
    exact ⟨(i+1,n+1),⟨by show i+1≤_;omega,by show n+1≤i+1;omega⟩,(by show T.length-(i+1)<_;omega),(wk_of [(0,.id 0)] rfl ⟨wa0,wc0,wa0,wa0,wa0,wa0,wa0,trivial⟩ ⟨wb0,trivial⟩)⟩
   ·conv=>whnf
    clear hy hx how
    refine loop_inv (cxOk _ _) (fun s:Nat×Int=>s.1<T.length∧i≤s.1∧(s.1=i→s.2=1)∧-(s.1:Int)-2≤s.2∧s.2≤s.1+2) (fun s=>T.length-s.1) (fun s=>⟨[(1,.int .i64 w),(2,.ptr 0 0),(4,.bool false),(5,.bool true),(8,encTks T),(12,.int .i64 (i:Nat)),(13,.int .i64 (s.2)),(14,.int .i64 ((s.1):Nat))],[(0,.cells 26 (cellsE e))],1⟩) (i,1) ⟨hlt,Nat.le_refl i,(fun _=>rfl),(by show -(i:Int)-2≤1;omega),(by show 1≤(i:Int)+2;omega)⟩ ((wk_of [(0,.id 0)] rfl ⟨wa0,wc0,wa0,wa0,wa0,wa0,wa0,wa0,trivial⟩ ⟨wb0,trivial⟩)) ?_
    rintro ⟨k,o⟩ ⟨hk,hik,hko,ho1,ho2⟩
    have hk:k<T.length:=hk
    have hik:i≤k:=hik
    have hko:k=i→o=1:=hko
    have ho1:-(k:Int)-2≤o:=ho1
    have ho2:o≤(k:Int)+2:=ho2
    conv=>whnf
    refine And.intro (fun _=>⟨by omega,by omega⟩) ?_;conv=>whnf
    refine ⟨fun hd2=>?_,fun hd2=>?_⟩
    ·have hd2:(decide (0<o)&&decide ((k:Int)+1<(T.length:Int)))=true:=hd2
     have hk1:k+1<T.length:=by
      simp only [Bool.and_eq_true,decide_eq_true_eq] at hd2
      omega
     have hk2:((k:Int)+1).toNat=k+1:=by omega
     conv=>whnf
     refine iO ?_;conv=>whnf
     refine iO ?_;conv=>whnf
     refine And.intro rfl ?_;conv=>whnf
     have fin:∀ o':Int,o-1≤o'→o'≤o+1→((k+1:Nat)<T.length∧i≤k+1∧(k+1=i→o'=1)∧-((k+1:Nat):Int)-2≤o'∧o'≤((k+1:Nat):Int)+2)∧T.length-(k+1)<T.length-k:=fun o' h1 h2=>⟨⟨hk1,by omega,fun h=>by omega,by omega,by omega⟩,by omega⟩
     refine ⟨fun ha=>?_,fun ha=>?_⟩
     ·conv=>whnf
      refine iO ?_;conv=>whnf
      refine iO ?_;conv=>whnf
      refine And.intro rfl ?_;conv=>whnf
      refine ⟨fun hb=>?_,fun hb=>?_⟩
      ·conv=>whnf
       refine iO ?_;conv=>whnf
       exact ⟨(k+1,o+1-1),(fin _ om0 om0).1,(fin (o+1-1) om0 om0).2,(wk_of [(0,.id 0)] rfl ⟨wa0,wc0,wa0,wa0,wa0,wa0,wa0,wa0,trivial⟩ ⟨wb0,trivial⟩)⟩
      ·conv=>whnf
       exact ⟨(k+1,o+1),(fin _ om0 om0).1,(fin (o+1) om0 om0).2,(wk_of [(0,.id 0)] rfl ⟨wa0,wc0,wa0,wa0,wa0,wa0,wa0,wa0,trivial⟩ ⟨wb0,trivial⟩)⟩
     ·conv=>whnf
      refine iO ?_;conv=>whnf
      refine And.intro rfl ?_;conv=>whnf
      refine ⟨fun hb=>?_,fun hb=>?_⟩
      ·conv=>whnf
       refine iO ?_;conv=>whnf
       exact ⟨(k+1,o-1),(fin _ om0 om0).1,(fin (o-1) om0 om0).2,(wk_of [(0,.id 0)] rfl ⟨wa0,wc0,wa0,wa0,wa0,wa0,wa0,wa0,trivial⟩ ⟨wb0,trivial⟩)⟩
      ·conv=>whnf
       exact ⟨(k+1,o),(fin _ om0 om0).1,(fin o om0 om0).2,(wk_of [(0,.id 0)] rfl ⟨wa0,wc0,wa0,wa0,wa0,wa0,wa0,wa0,trivial⟩ ⟨wb0,trivial⟩)⟩
    ·have hlk:i<k:=by
      by_cases hh:k=i
      ·have:=hko hh
       have hd2:(decide (0<o)&&decide ((k:Int)+1<(T.length:Int)))=false:=hd2
       rw [decide_eq_true (by omega),decide_eq_true (by omega)] at hd2
       cases hd2
      ·omega
     clear hd2
     have e2:((i:Int)+1).toNat=i+1:=by omega
     have e3:((k:Int)+1).toNat=k+1:=by omega
     have e4:(k:Int).toNat=k:=Int.toNat_natCast k
     have hR:T.take (i:Int).toNat++(T.take (k:Int).toNat).drop ((i:Int)+1).toNat++T.drop ((k:Int)+1).toNat=cutT T i k:=by
      unfold cutT
      rw [e2,e3,e4,hek,List.drop_take]
     have hcl:=cutT_len hlk hk
     have hcj:=text_le hp (cutT_mem (T:=T) (i:=i) (k:=k)) (by omega)
     have htx2:APureV Tryz.prog 35 [encTks (T.take (i:Int).toNat++(T.take (k:Int).toNat).drop ((i:Int)+1).toNat++T.drop ((k:Int)+1).toNat)] (.str (joinP (pcs (cutT T i k)))):=by
      rw [hR]
      have:=text_ok (cutT T i k) (by omega) (by rw [text_pcs];omega)
      rwa [text_pcs] at this
     have hpa:=parseE_ok (joinP (pcs (cutT T i k))) (by omega)
     have hno:=cut_not hr hT hlk hk
     have l1:(T.take (i:Int).toNat).length≤T.length:=List.length_take_le' _ _
     have l2:((T.take (k:Int).toNat).drop ((i:Int)+1).toNat).length≤T.length:=by rw [List.length_drop];have:=List.length_take_le' (k:Int).toNat T;omega
     have l3:(T.drop ((k:Int)+1).toNat).length≤T.length:=by rw [List.length_drop];omega
     generalize joinP (pcs (cutT T i k))=s at *
     conv=>whnf
     refine .eff ae0 ?_
     conv=>whnf
     refine iO ?_;conv=>whnf
     refine And.intro rfl ?_;conv=>whnf
     refine And.intro rfl ?_;conv=>whnf
     refine And.intro ⟨rfl,rfl⟩ (And.intro (by show (0+(T.take (i:Int).toNat).length)*40≤140737488355328;omega) ?_)
     conv=>whnf
     refine iO ?_;conv=>whnf
     refine iO ?_;conv=>whnf
     refine And.intro rfl ?_;conv=>whnf
     refine And.intro rfl ?_;conv=>whnf
     refine And.intro ⟨rfl,rfl⟩ (And.intro (by show ((T.take (i:Int).toNat).length+((T.take (k:Int).toNat).drop ((i:Int)+1).toNat).length)*40≤140737488355328;omega) ?_)
     conv=>whnf
     refine Exists.intro _ (And.intro rfl ?_);conv=>whnf
     refine iO ?_;conv=>whnf
     refine iO ?_;conv=>whnf
     refine And.intro rfl ?_;conv=>whnf
     refine And.intro rfl ?_;conv=>whnf
     refine And.intro ⟨rfl,rfl⟩ (And.intro (by show ((T.take (i:Int).toNat++(T.take (k:Int).toNat).drop ((i:Int)+1).toNat).length+(T.drop ((k:Int)+1).toNat).length)*40≤140737488355328;rw [List.length_append];omega) ?_)
     conv=>whnf
     refine Exists.intro _ (And.intro rfl ?_);conv=>whnf
     refine And.intro rfl ?_;conv=>whnf
     cases hpe:parseER s with
     | error er =>
      have hne:=parseE_er hpe
      rw [hpe] at hpa
      unfold parEA at hpa
      have hs:=same2_ok ex0 e (rightE_okE (by rfl)) he
      refine cO (fun _=>htx2) ?_
      conv=>whnf
      refine cO (fun _=>hpa) ?_
      conv=>whnf
      refine cO (fun _=>hs) ?_
      conv=>whnf
      rw [decide_eq_false hne]
      rfl
     | ok x =>
      have hxe:x≠e:=fun h=>hno (by rw [hpe,h])
      have hs:=same2_ok x e (rightE_okE (parseE_right hpe)) he
      rw [decide_eq_false hxe] at hs
      rw [hpe] at hpa
      unfold parEA at hpa
      refine cO (fun _=>htx2) ?_
      conv=>whnf
      refine cO (fun _=>hpa) ?_
      conv=>whnf
      refine cO (fun _=>hs) ?_
      conv=>whnf
      rfl
 ·conv=>whnf
  rfl
end Go.Proofs.YtlmgomgpiideoaaGreatDoor
