import Derived.Test.YtgaallgiaachlaaGreatDoorCb
import Derived.Test.YtgaallgiaachlaaGreatDoorLd
import Derived.Shelf.Vars
import Derived.Lay
import Derived.Lib.LaidTab
import Derived.LaidLaws
import Derived.KernelRfl
import Derived.Test.YtgaallgiaachlaaGreatDoorRows
namespace Go.Proofs.YtgaallgiaachlaaGreatDoor
open Go.Own
set_option maxHeartbeats 4000000
set_option maxRecDepth 100000
theorem truth_ok (b:Bool):APureV Tryz.prog 83 [.bool b] (.int .i64 (truthZ b)):=by
 refine aO (cxOk 4 [0,2,3]) Tryz.func83 ?_
 conv=>whnf
 refine ⟨fun h=>?_,fun h=>?_⟩
 ·conv=>whnf
  rw [h]
  rfl
 ·conv=>whnf
  rw [h]
  rfl
def manyP {T:Type} (f:T→List UInt8) (l:List T) (k:Nat):List UInt8:=numS l.length++(l.take k).flatMap f
theorem take_get {T:Type} {l:List T} {k:Nat} (d:T) (h:k<l.length):l.take (k+1)=l.take k++[l.getD k d]:=by
 rw [List.take_add_one,List.getElem?_eq_getElem h,List.getD_eq_getElem?_getD,List.getElem?_eq_getElem h]
 rfl
theorem manyP_succ {T:Type} {f:T→List UInt8} {l:List T} {k:Nat} {d:T} (h:k<l.length):manyP f l (k+1)=manyP f l k++f (l.getD k d):=by
 unfold manyP
 rw [take_get d h,List.flatMap_append,List.append_assoc]
 simp
theorem manyP_len {T:Type} {f:T→List UInt8} {l:List T} (k:Nat):(manyP f l k).length≤(manyS f l).length:=by
 unfold manyP manyS
 rw [List.length_append,List.length_append]
 have:(l.flatMap f)=(l.take k).flatMap f++(l.drop k).flatMap f:=by rw [← List.flatMap_append,List.take_append_drop]
 rw [this,List.length_append]
 omega
theorem manyP_ne {T:Type} (f:T→List UInt8) (l:List T) (k:Nat):manyP f l k≠[]:=by
 unfold manyP
 intro h
 exact numS_ne om0 (List.append_eq_nil_iff.1 h).1
theorem manyP_all {T:Type} (f:T→List UInt8) (l:List T):manyP f l l.length=manyS f l:=by unfold manyP manyS;rw [List.take_length]
theorem manyP_0 {T:Type} (f:T→List UInt8) (l:List T):manyP f l 0=numS l.length:=by unfold manyP;simp
theorem numsS_take {l:List Int} {k:Nat} (h:k<l.length):numsS (l.take (k+1))=numsS (l.take k)++numS (l.getD k 0):=by
 unfold numsS
 rw [take_get 0 h,List.flatMap_append]
 simp
theorem numsS_len {l:List Int} (k:Nat):(numsS (l.take k)).length≤(numsS l).length:=by
 have:numsS l=numsS (l.take k)++numsS (l.drop k):=by
  unfold numsS
  rw [← List.flatMap_append,List.take_append_drop]
 rw [this,List.length_append]
 omega
theorem nums_s (l:List Int) (hne:l≠[]) (hl:∀ n∈l,0≤n∧in64 n) (hn:l.length≤1000000000) (hT:(numsS l).length≤140737488355328):APureV Tryz.prog 79 [.sl 1 encI 0 l] (.str (numsS l)):=by
 have hl0:0<l.length:=List.length_pos_iff.2 hne
 refine aO (cxOk 17 [0,2,3,5,6,7,8,9]) Tryz.func79 ?_
 conv=>whnf
 refine loop_inv (cxOk _ _) (σ:=Nat) (fun k=>k≤l.length) (fun k=>l.length-k) (fun k=>match k with | 0=>⟨[(0,.sl 1 encI 0 l),(3,.ptr 0 0),(6,.sl 1 encI 0 l),(7,.int .i64 l.length),(8,.int .i64 0)],[(0,.cells 173 [.nilp,.nils])],1⟩ | k+1=>⟨[(0,.sl 1 encI 0 l),(3,.ptr 0 0),(6,.sl 1 encI 0 l),(7,.int .i64 l.length),(8,.int .i64 ((k+1):Nat))],[(0,.cells 173 [.ptr 0 0,.own 1]),(1,.lst 5 1 (strAVs (numsS (l.take (k+1)))))],2⟩) 0 (Nat.zero_le _) ((wk_of [(0,.id 0)] rfl ⟨wa0,wc0,wa0,wa0,wa0,trivial⟩ ⟨wb0,trivial⟩)) ?_
 intro k hk
 cases k with
 | zero =>
  show evCode _ _ (⟨[(0,.sl 1 encI 0 l),(3,.ptr 0 0),(6,.sl 1 encI 0 l),(7,.int .i64 l.length),(8,.int .i64 0)],[(0,.cells 173 [.nilp,.nils])],1⟩) _
  have h0:=num_ok (l.getD 0 0) (hl _ (getD_mem (d:=0) hl0)).2
  have hs:=numsS_take hl0
  have hsl:=numsS_len (l:=l) 1
  have hs:numsS (l.take 1)=numS (l.getD 0 0):=by
   have:numsS (l.take 0)=[]:=by simp [numsS]
   rw [hs,this,List.nil_append]
  rw [hs] at hsl
  conv=>whnf
  refine ⟨fun hd=>?_,fun hd=>?_⟩
  ·conv=>whnf
   refine iO ?_;conv=>whnf
   refine And.intro rfl ?_;conv=>whnf
   refine cO (fun _=>h0) ?_
   conv=>whnf
   refine .raw _ _ rfl (fun h=>by cases h) (cw_first (numS (l.getD 0 0)) om0) ?_
   rintro r rfl
   refine ⟨Nat.le_of_ble_eq_true rfl,?_⟩
   conv=>whnf
   refine iO ?_;conv=>whnf
   refine ⟨1,hl0,by show l.length-1<l.length-0;omega,(wk_of [(0,.id 0),(1,.id 1)] rfl ⟨wa0,wc0,wa0,wa0,wa0,trivial⟩ ⟨wb0,⟨_,rfl,.lst _ _ _ _ _ rfl (by rw [hs])⟩,trivial⟩)⟩
  ·have hd:=of_decide_eq_false hd
   omega
 | succ j =>
  show evCode _ _ (⟨[(0,.sl 1 encI 0 l),(3,.ptr 0 0),(6,.sl 1 encI 0 l),(7,.int .i64 l.length),(8,.int .i64 ((j+1):Nat))],[(0,.cells 173 [.ptr 0 0,.own 1]),(1,.lst 5 1 (strAVs (numsS (l.take (j+1)))))],2⟩) _
  have hk:j+1≤l.length:=hk
  have hpl:=numsS_len (l:=l) (j+1)
  have hpl1:=numsS_len (l:=l) (j+1+1)
  have hne2:numsS (l.take (j+1))≠[]:=by
   cases l with
   | nil=>simp at hl0
   | cons x l =>
    unfold numsS
    rw [List.take_succ_cons,List.flatMap_cons]
    intro h
    exact numS_ne (hl x (by simp)).1 (List.append_eq_nil_iff.1 h).1
  conv=>whnf
  refine ⟨fun hd=>?_,fun hd=>?_⟩
  ·have hd:=of_decide_eq_true hd
   have hkl:j+1<l.length:=by omega
   have hek:((j+1:Nat):Int).toNat=j+1:=Int.toNat_natCast _
   have h0:=num_ok (l.getD (j+1) 0) (hl _ (getD_mem (d:=0) hkl)).2
   have hs:=numsS_take hkl
   conv=>whnf
   refine iO ?_;conv=>whnf
   refine And.intro rfl ?_;conv=>whnf
   rw [hek]
   refine cO (fun _=>h0) ?_
   conv=>whnf
   refine .raw _ _ rfl (fun h=>by cases h) (callSem_congr (cw_more (numsS (l.take (j+1))) (numS (l.getD (j+1) 0)) (by rw [hs,List.length_append] at hpl1;omega)) (fun id hid=>by
    simp only [List.mem_cons,List.not_mem_nil,or_false] at hid
    rcases hid with rfl | rfl<;>rfl)) ?_
   rintro r rfl
   refine ⟨Nat.le_of_ble_eq_true rfl,?_⟩
   conv=>whnf
   have hpe:strAVs (numsS (l.take (j+1)))++strAVs (numS (l.getD (j+1) 0))=strAVs (numsS (l.take (j+1+1))):=by rw [hs,strAVs_append]
   refine iO ?_;conv=>whnf
   refine ⟨j+2,by omega,by show l.length-(j+2)<l.length-(j+1);omega,(wk_of [(0,.id 0),(1,.id 2)] rfl ⟨wa0,wc0,wa0,wa0,wa0,trivial⟩ ⟨wb0,⟨_,rfl,.lst _ _ _ _ _ rfl (hpe)⟩,trivial⟩)⟩
  ·have hd:=of_decide_eq_false hd
   have hke:j+1=l.length:=by omega
   conv=>whnf
   refine .raw _ _ rfl (fun h=>by cases h) (cs_of (numsS (l.take (j+1))) hne2) ?_
   rintro r rfl
   refine ⟨Nat.le_of_ble_eq_true rfl,?_⟩
   conv=>whnf
   rw [hke,List.take_length]
   rfl
theorem listBr_ok (l:List Brc) (hf:∀ e∈l,APureV Tryz.prog 78 [encBr e] (.str (brS e))) (hn:l.length≤1000000000) (hT:(manyS brS l).length≤140737488355328):APureV Tryz.prog 77 [.sl 2 encBr br0 l,.fn (.func 78) [] []] (.str (manyS brS l)):=by
 have hi:=num_ok l.length (by unfold in64;omega)
 have hpl0:=manyP_len (f:=brS) (l:=l) 0
 rw [manyP_0] at hpl0
 refine aO (cxOk 24 [0,1,4,5,7,12,13,14,15]) Tryz.func77 ?_
 conv=>whnf
 refine cO (fun _=>hi) ?_
 conv=>whnf
 refine .raw _ _ rfl (fun h=>by cases h) (cw_first (numS l.length) om0) ?_
 rintro r rfl
 refine ⟨Nat.le_of_ble_eq_true rfl,?_⟩
 conv=>whnf
 have hp0:strAVs (numS l.length)=strAVs (manyP brS l 0):=by rw [manyP_0]
 refine loop_up (cxOk _ _) l.length (fun _=>True) (fun k=>⟨[(0,.sl 2 encBr br0 l),(1,.fn (.func 78) [] []),(5,.ptr 0 0),(12,.sl 2 encBr br0 l),(13,.int .i64 l.length),(14,.int .i64 (k:Nat))],[(0,.cells 173 [.ptr 0 0,.own 1]),(1,.lst 5 1 (strAVs (manyP brS l k)))],2⟩) trivial ((wk_of [(0,.id 0),(1,.id 1)] rfl ⟨wa0,.fn _ _ _ _ _ ac0 ac0,wc0,wa0,wa0,wa0,trivial⟩ ⟨wb0,⟨_,rfl,.lst _ _ _ _ _ rfl (hp0)⟩,trivial⟩)) ?_
 intro k hk _
 have hps:=fun h:k<l.length=>manyP_succ (f:=brS) (d:=br0) h
 have hpl:=manyP_len (f:=brS) (l:=l) k
 have hpl1:=manyP_len (f:=brS) (l:=l) (k+1)
 conv=>whnf
 refine ⟨fun hd=>?_,fun hd=>?_⟩
 ·have hkl:k<l.length:=by
   have:=of_decide_eq_true hd
   omega
  have hps:=hps hkl
  have hek:(k:Int).toNat=k:=Int.toNat_natCast k
  have hx:=hf _ (getD_mem (d:=br0) hkl)
  conv=>whnf
  refine iO ?_;conv=>whnf
  refine And.intro rfl ?_;conv=>whnf
  rw [hek]
  conv=>whnf
  refine cO (fun _=>hx) ?_
  conv=>whnf
  have hlen:(manyP brS l k).length+(brS (l.getD k br0)).length≤140737488355328:=by
   rw [hps,List.length_append] at hpl1
   omega
  refine cR ((write_more (manyP brS l k) (brS (l.getD k br0)) hlen)) [0,1] ?_
  conv=>whnf
  conv=>whnf
  have hpe:strAVs (manyP brS l k++brS (l.getD k br0))=strAVs (manyP brS l (k+1)):=by rw [hps]
  refine iO ?_;conv=>whnf
  refine up hkl trivial ((wk_of [(0,.id 0),(1,.id 3)] rfl ⟨wa0,.fn _ _ _ _ _ ac0 ac0,wc0,wa0,wa0,wa0,trivial⟩ ⟨wb0,⟨_,rfl,.lst _ _ _ _ _ rfl (hpe)⟩,trivial⟩))
 ·have hke:k=l.length:=by
   have:=of_decide_eq_false hd
   omega
  conv=>whnf
  refine .raw _ _ rfl (fun h=>by cases h) (cs_of (manyP brS l k) (manyP_ne brS l k)) ?_
  rintro r rfl
  refine ⟨Nat.le_of_ble_eq_true rfl,?_⟩
  conv=>whnf
  rw [hke,manyP_all]
  rfl
theorem listLi_ok (l:List Lin) (hf:∀ e∈l,APureV Tryz.prog 76 [encLi e] (.str (liS e))) (hn:l.length≤1000000000) (hT:(manyS liS l).length≤140737488355328):APureV Tryz.prog 75 [.sl 10 encLi li0 l,.fn (.func 76) [] []] (.str (manyS liS l)):=by
 have hi:=num_ok l.length (by unfold in64;omega)
 have hpl0:=manyP_len (f:=liS) (l:=l) 0
 rw [manyP_0] at hpl0
 refine aO (cxOk 24 [0,1,4,5,7,12,13,14,15]) Tryz.func75 ?_
 conv=>whnf
 refine cO (fun _=>hi) ?_
 conv=>whnf
 refine .raw _ _ rfl (fun h=>by cases h) (cw_first (numS l.length) om0) ?_
 rintro r rfl
 refine ⟨Nat.le_of_ble_eq_true rfl,?_⟩
 conv=>whnf
 have hp0:strAVs (numS l.length)=strAVs (manyP liS l 0):=by rw [manyP_0]
 refine loop_up (cxOk _ _) l.length (fun _=>True) (fun k=>⟨[(0,.sl 10 encLi li0 l),(1,.fn (.func 76) [] []),(5,.ptr 0 0),(12,.sl 10 encLi li0 l),(13,.int .i64 l.length),(14,.int .i64 (k:Nat))],[(0,.cells 173 [.ptr 0 0,.own 1]),(1,.lst 5 1 (strAVs (manyP liS l k)))],2⟩) trivial ((wk_of [(0,.id 0),(1,.id 1)] rfl ⟨wa0,.fn _ _ _ _ _ ac0 ac0,wc0,wa0,wa0,wa0,trivial⟩ ⟨wb0,⟨_,rfl,.lst _ _ _ _ _ rfl (hp0)⟩,trivial⟩)) ?_
 intro k hk _
 have hps:=fun h:k<l.length=>manyP_succ (f:=liS) (d:=li0) h
 have hpl:=manyP_len (f:=liS) (l:=l) k
 have hpl1:=manyP_len (f:=liS) (l:=l) (k+1)
 conv=>whnf
 refine ⟨fun hd=>?_,fun hd=>?_⟩
 ·have hkl:k<l.length:=by
   have:=of_decide_eq_true hd
   omega
  have hps:=hps hkl
  have hek:(k:Int).toNat=k:=Int.toNat_natCast k
  have hx:=hf _ (getD_mem (d:=li0) hkl)
  conv=>whnf
  refine iO ?_;conv=>whnf
  refine And.intro rfl ?_;conv=>whnf
  rw [hek]
  conv=>whnf
  refine cO (fun _=>hx) ?_
  conv=>whnf
  have hlen:(manyP liS l k).length+(liS (l.getD k li0)).length≤140737488355328:=by
   rw [hps,List.length_append] at hpl1
   omega
  refine cR ((write_more (manyP liS l k) (liS (l.getD k li0)) hlen)) [0,1] ?_
  conv=>whnf
  conv=>whnf
  have hpe:strAVs (manyP liS l k++liS (l.getD k li0))=strAVs (manyP liS l (k+1)):=by rw [hps]
  refine iO ?_;conv=>whnf
  refine up hkl trivial ((wk_of [(0,.id 0),(1,.id 3)] rfl ⟨wa0,.fn _ _ _ _ _ ac0 ac0,wc0,wa0,wa0,wa0,trivial⟩ ⟨wb0,⟨_,rfl,.lst _ _ _ _ _ rfl (hpe)⟩,trivial⟩))
 ·have hke:k=l.length:=by
   have:=of_decide_eq_false hd
   omega
  conv=>whnf
  refine .raw _ _ rfl (fun h=>by cases h) (cs_of (manyP liS l k) (manyP_ne liS l k)) ?_
  rintro r rfl
  refine ⟨Nat.le_of_ble_eq_true rfl,?_⟩
  conv=>whnf
  rw [hke,manyP_all]
  rfl
theorem listFa_ok (l:List Fac) (hf:∀ e∈l,APureV Tryz.prog 85 [encFa e] (.str (faS e))) (hn:l.length≤1000000000) (hT:(manyS faS l).length≤140737488355328):APureV Tryz.prog 84 [.sl 5 encFa fa0 l,.fn (.func 85) [] []] (.str (manyS faS l)):=by
 have hi:=num_ok l.length (by unfold in64;omega)
 have hpl0:=manyP_len (f:=faS) (l:=l) 0
 rw [manyP_0] at hpl0
 refine aO (cxOk 24 [0,1,4,5,7,12,13,14,15]) Tryz.func84 ?_
 conv=>whnf
 refine cO (fun _=>hi) ?_
 conv=>whnf
 refine .raw _ _ rfl (fun h=>by cases h) (cw_first (numS l.length) om0) ?_
 rintro r rfl
 refine ⟨Nat.le_of_ble_eq_true rfl,?_⟩
 conv=>whnf
 have hp0:strAVs (numS l.length)=strAVs (manyP faS l 0):=by rw [manyP_0]
 refine loop_up (cxOk _ _) l.length (fun _=>True) (fun k=>⟨[(0,.sl 5 encFa fa0 l),(1,.fn (.func 85) [] []),(5,.ptr 0 0),(12,.sl 5 encFa fa0 l),(13,.int .i64 l.length),(14,.int .i64 (k:Nat))],[(0,.cells 173 [.ptr 0 0,.own 1]),(1,.lst 5 1 (strAVs (manyP faS l k)))],2⟩) trivial ((wk_of [(0,.id 0),(1,.id 1)] rfl ⟨wa0,.fn _ _ _ _ _ ac0 ac0,wc0,wa0,wa0,wa0,trivial⟩ ⟨wb0,⟨_,rfl,.lst _ _ _ _ _ rfl (hp0)⟩,trivial⟩)) ?_
 intro k hk _
 have hps:=fun h:k<l.length=>manyP_succ (f:=faS) (d:=fa0) h
 have hpl:=manyP_len (f:=faS) (l:=l) k
 have hpl1:=manyP_len (f:=faS) (l:=l) (k+1)
 conv=>whnf
 refine ⟨fun hd=>?_,fun hd=>?_⟩
 ·have hkl:k<l.length:=by
   have:=of_decide_eq_true hd
   omega
  have hps:=hps hkl
  have hek:(k:Int).toNat=k:=Int.toNat_natCast k
  have hx:=hf _ (getD_mem (d:=fa0) hkl)
  conv=>whnf
  refine iO ?_;conv=>whnf
  refine And.intro rfl ?_;conv=>whnf
  rw [hek]
  conv=>whnf
  refine cO (fun _=>hx) ?_
  conv=>whnf
  have hlen:(manyP faS l k).length+(faS (l.getD k fa0)).length≤140737488355328:=by
   rw [hps,List.length_append] at hpl1
   omega
  refine cR ((write_more (manyP faS l k) (faS (l.getD k fa0)) hlen)) [0,1] ?_
  conv=>whnf
  conv=>whnf
  have hpe:strAVs (manyP faS l k++faS (l.getD k fa0))=strAVs (manyP faS l (k+1)):=by rw [hps]
  refine iO ?_;conv=>whnf
  refine up hkl trivial ((wk_of [(0,.id 0),(1,.id 3)] rfl ⟨wa0,.fn _ _ _ _ _ ac0 ac0,wc0,wa0,wa0,wa0,trivial⟩ ⟨wb0,⟨_,rfl,.lst _ _ _ _ _ rfl (hpe)⟩,trivial⟩))
 ·have hke:k=l.length:=by
   have:=of_decide_eq_false hd
   omega
  conv=>whnf
  refine .raw _ _ rfl (fun h=>by cases h) (cs_of (manyP faS l k) (manyP_ne faS l k)) ?_
  rintro r rfl
  refine ⟨Nat.le_of_ble_eq_true rfl,?_⟩
  conv=>whnf
  rw [hke,manyP_all]
  rfl
theorem listPa_ok (l:List Pay) (hf:∀ e∈l,APureV Tryz.prog 87 [encPa e] (.str (paS e))) (hn:l.length≤1000000000) (hT:(manyS paS l).length≤140737488355328):APureV Tryz.prog 86 [.sl 6 encPa pa0 l,.fn (.func 87) [] []] (.str (manyS paS l)):=by
 have hi:=num_ok l.length (by unfold in64;omega)
 have hpl0:=manyP_len (f:=paS) (l:=l) 0
 rw [manyP_0] at hpl0
 refine aO (cxOk 24 [0,1,4,5,7,12,13,14,15]) Tryz.func86 ?_
 conv=>whnf
 refine cO (fun _=>hi) ?_
 conv=>whnf
 refine .raw _ _ rfl (fun h=>by cases h) (cw_first (numS l.length) om0) ?_
 rintro r rfl
 refine ⟨Nat.le_of_ble_eq_true rfl,?_⟩
 conv=>whnf
 have hp0:strAVs (numS l.length)=strAVs (manyP paS l 0):=by rw [manyP_0]
 refine loop_up (cxOk _ _) l.length (fun _=>True) (fun k=>⟨[(0,.sl 6 encPa pa0 l),(1,.fn (.func 87) [] []),(5,.ptr 0 0),(12,.sl 6 encPa pa0 l),(13,.int .i64 l.length),(14,.int .i64 (k:Nat))],[(0,.cells 173 [.ptr 0 0,.own 1]),(1,.lst 5 1 (strAVs (manyP paS l k)))],2⟩) trivial ((wk_of [(0,.id 0),(1,.id 1)] rfl ⟨wa0,.fn _ _ _ _ _ ac0 ac0,wc0,wa0,wa0,wa0,trivial⟩ ⟨wb0,⟨_,rfl,.lst _ _ _ _ _ rfl (hp0)⟩,trivial⟩)) ?_
 intro k hk _
 have hps:=fun h:k<l.length=>manyP_succ (f:=paS) (d:=pa0) h
 have hpl:=manyP_len (f:=paS) (l:=l) k
 have hpl1:=manyP_len (f:=paS) (l:=l) (k+1)
 conv=>whnf
 refine ⟨fun hd=>?_,fun hd=>?_⟩
 ·have hkl:k<l.length:=by
   have:=of_decide_eq_true hd
   omega
  have hps:=hps hkl
  have hek:(k:Int).toNat=k:=Int.toNat_natCast k
  have hx:=hf _ (getD_mem (d:=pa0) hkl)
  conv=>whnf
  refine iO ?_;conv=>whnf
  refine And.intro rfl ?_;conv=>whnf
  rw [hek]
  conv=>whnf
  refine cO (fun _=>hx) ?_
  conv=>whnf
  have hlen:(manyP paS l k).length+(paS (l.getD k pa0)).length≤140737488355328:=by
   rw [hps,List.length_append] at hpl1
   omega
  refine cR ((write_more (manyP paS l k) (paS (l.getD k pa0)) hlen)) [0,1] ?_
  conv=>whnf
  conv=>whnf
  have hpe:strAVs (manyP paS l k++paS (l.getD k pa0))=strAVs (manyP paS l (k+1)):=by rw [hps]
  refine iO ?_;conv=>whnf
  refine up hkl trivial ((wk_of [(0,.id 0),(1,.id 3)] rfl ⟨wa0,.fn _ _ _ _ _ ac0 ac0,wc0,wa0,wa0,wa0,trivial⟩ ⟨wb0,⟨_,rfl,.lst _ _ _ _ _ rfl (hpe)⟩,trivial⟩))
 ·have hke:k=l.length:=by
   have:=of_decide_eq_false hd
   omega
  conv=>whnf
  refine .raw _ _ rfl (fun h=>by cases h) (cs_of (manyP paS l k) (manyP_ne paS l k)) ?_
  rintro r rfl
  refine ⟨Nat.le_of_ble_eq_true rfl,?_⟩
  conv=>whnf
  rw [hke,manyP_all]
  rfl
theorem listPr_ok (l:List Pro) (hf:∀ e∈l,APureV Tryz.prog 89 [encPr e] (.str (prS e))) (hn:l.length≤1000000000) (hT:(manyS prS l).length≤140737488355328):APureV Tryz.prog 88 [.sl 6 encPr pr0 l,.fn (.func 89) [] []] (.str (manyS prS l)):=by
 have hi:=num_ok l.length (by unfold in64;omega)
 have hpl0:=manyP_len (f:=prS) (l:=l) 0
 rw [manyP_0] at hpl0
 refine aO (cxOk 24 [0,1,4,5,7,12,13,14,15]) Tryz.func88 ?_
 conv=>whnf
 refine cO (fun _=>hi) ?_
 conv=>whnf
 refine .raw _ _ rfl (fun h=>by cases h) (cw_first (numS l.length) om0) ?_
 rintro r rfl
 refine ⟨Nat.le_of_ble_eq_true rfl,?_⟩
 conv=>whnf
 have hp0:strAVs (numS l.length)=strAVs (manyP prS l 0):=by rw [manyP_0]
 refine loop_up (cxOk _ _) l.length (fun _=>True) (fun k=>⟨[(0,.sl 6 encPr pr0 l),(1,.fn (.func 89) [] []),(5,.ptr 0 0),(12,.sl 6 encPr pr0 l),(13,.int .i64 l.length),(14,.int .i64 (k:Nat))],[(0,.cells 173 [.ptr 0 0,.own 1]),(1,.lst 5 1 (strAVs (manyP prS l k)))],2⟩) trivial ((wk_of [(0,.id 0),(1,.id 1)] rfl ⟨wa0,.fn _ _ _ _ _ ac0 ac0,wc0,wa0,wa0,wa0,trivial⟩ ⟨wb0,⟨_,rfl,.lst _ _ _ _ _ rfl (hp0)⟩,trivial⟩)) ?_
 intro k hk _
 have hps:=fun h:k<l.length=>manyP_succ (f:=prS) (d:=pr0) h
 have hpl:=manyP_len (f:=prS) (l:=l) k
 have hpl1:=manyP_len (f:=prS) (l:=l) (k+1)
 conv=>whnf
 refine ⟨fun hd=>?_,fun hd=>?_⟩
 ·have hkl:k<l.length:=by
   have:=of_decide_eq_true hd
   omega
  have hps:=hps hkl
  have hek:(k:Int).toNat=k:=Int.toNat_natCast k
  have hx:=hf _ (getD_mem (d:=pr0) hkl)
  conv=>whnf
  refine iO ?_;conv=>whnf
  refine And.intro rfl ?_;conv=>whnf
  rw [hek]
  conv=>whnf
  refine cO (fun _=>hx) ?_
  conv=>whnf
  have hlen:(manyP prS l k).length+(prS (l.getD k pr0)).length≤140737488355328:=by
   rw [hps,List.length_append] at hpl1
   omega
  refine cR ((write_more (manyP prS l k) (prS (l.getD k pr0)) hlen)) [0,1] ?_
  conv=>whnf
  conv=>whnf
  have hpe:strAVs (manyP prS l k++prS (l.getD k pr0))=strAVs (manyP prS l (k+1)):=by rw [hps]
  refine iO ?_;conv=>whnf
  refine up hkl trivial ((wk_of [(0,.id 0),(1,.id 3)] rfl ⟨wa0,.fn _ _ _ _ _ ac0 ac0,wc0,wa0,wa0,wa0,trivial⟩ ⟨wb0,⟨_,rfl,.lst _ _ _ _ _ rfl (hpe)⟩,trivial⟩))
 ·have hke:k=l.length:=by
   have:=of_decide_eq_false hd
   omega
  conv=>whnf
  refine .raw _ _ rfl (fun h=>by cases h) (cs_of (manyP prS l k) (manyP_ne prS l k)) ?_
  rintro r rfl
  refine ⟨Nat.le_of_ble_eq_true rfl,?_⟩
  conv=>whnf
  rw [hke,manyP_all]
  rfl
theorem listVo_ok (l:List Vot) (hf:∀ e∈l,APureV Tryz.prog 91 [encVo e] (.str (voS e))) (hn:l.length≤1000000000) (hT:(manyS voS l).length≤140737488355328):APureV Tryz.prog 90 [.sl 3 encVo vo0 l,.fn (.func 91) [] []] (.str (manyS voS l)):=by
 have hi:=num_ok l.length (by unfold in64;omega)
 have hpl0:=manyP_len (f:=voS) (l:=l) 0
 rw [manyP_0] at hpl0
 refine aO (cxOk 24 [0,1,4,5,7,12,13,14,15]) Tryz.func90 ?_
 conv=>whnf
 refine cO (fun _=>hi) ?_
 conv=>whnf
 refine .raw _ _ rfl (fun h=>by cases h) (cw_first (numS l.length) om0) ?_
 rintro r rfl
 refine ⟨Nat.le_of_ble_eq_true rfl,?_⟩
 conv=>whnf
 have hp0:strAVs (numS l.length)=strAVs (manyP voS l 0):=by rw [manyP_0]
 refine loop_up (cxOk _ _) l.length (fun _=>True) (fun k=>⟨[(0,.sl 3 encVo vo0 l),(1,.fn (.func 91) [] []),(5,.ptr 0 0),(12,.sl 3 encVo vo0 l),(13,.int .i64 l.length),(14,.int .i64 (k:Nat))],[(0,.cells 173 [.ptr 0 0,.own 1]),(1,.lst 5 1 (strAVs (manyP voS l k)))],2⟩) trivial ((wk_of [(0,.id 0),(1,.id 1)] rfl ⟨wa0,.fn _ _ _ _ _ ac0 ac0,wc0,wa0,wa0,wa0,trivial⟩ ⟨wb0,⟨_,rfl,.lst _ _ _ _ _ rfl (hp0)⟩,trivial⟩)) ?_
 intro k hk _
 have hps:=fun h:k<l.length=>manyP_succ (f:=voS) (d:=vo0) h
 have hpl:=manyP_len (f:=voS) (l:=l) k
 have hpl1:=manyP_len (f:=voS) (l:=l) (k+1)
 conv=>whnf
 refine ⟨fun hd=>?_,fun hd=>?_⟩
 ·have hkl:k<l.length:=by
   have:=of_decide_eq_true hd
   omega
  have hps:=hps hkl
  have hek:(k:Int).toNat=k:=Int.toNat_natCast k
  have hx:=hf _ (getD_mem (d:=vo0) hkl)
  conv=>whnf
  refine iO ?_;conv=>whnf
  refine And.intro rfl ?_;conv=>whnf
  rw [hek]
  conv=>whnf
  refine cO (fun _=>hx) ?_
  conv=>whnf
  have hlen:(manyP voS l k).length+(voS (l.getD k vo0)).length≤140737488355328:=by
   rw [hps,List.length_append] at hpl1
   omega
  refine cR ((write_more (manyP voS l k) (voS (l.getD k vo0)) hlen)) [0,1] ?_
  conv=>whnf
  conv=>whnf
  have hpe:strAVs (manyP voS l k++voS (l.getD k vo0))=strAVs (manyP voS l (k+1)):=by rw [hps]
  refine iO ?_;conv=>whnf
  refine up hkl trivial ((wk_of [(0,.id 0),(1,.id 3)] rfl ⟨wa0,.fn _ _ _ _ _ ac0 ac0,wc0,wa0,wa0,wa0,trivial⟩ ⟨wb0,⟨_,rfl,.lst _ _ _ _ _ rfl (hpe)⟩,trivial⟩))
 ·have hke:k=l.length:=by
   have:=of_decide_eq_false hd
   omega
  conv=>whnf
  refine .raw _ _ rfl (fun h=>by cases h) (cs_of (manyP voS l k) (manyP_ne voS l k)) ?_
  rintro r rfl
  refine ⟨Nat.le_of_ble_eq_true rfl,?_⟩
  conv=>whnf
  rw [hke,manyP_all]
  rfl
theorem listNu_ok (l:List Int) (hf:∀ e∈l,APureV Tryz.prog 93 [encI e] (.str (numS e))) (hn:l.length≤1000000000) (hT:(manyS numS l).length≤140737488355328):APureV Tryz.prog 92 [.sl 1 encI 0 l,.fn (.func 93) [] []] (.str (manyS numS l)):=by
 have hi:=num_ok l.length (by unfold in64;omega)
 have hpl0:=manyP_len (f:=numS) (l:=l) 0
 rw [manyP_0] at hpl0
 refine aO (cxOk 24 [0,1,4,5,7,12,13,14,15]) Tryz.func92 ?_
 conv=>whnf
 refine cO (fun _=>hi) ?_
 conv=>whnf
 refine .raw _ _ rfl (fun h=>by cases h) (cw_first (numS l.length) om0) ?_
 rintro r rfl
 refine ⟨Nat.le_of_ble_eq_true rfl,?_⟩
 conv=>whnf
 have hp0:strAVs (numS l.length)=strAVs (manyP numS l 0):=by rw [manyP_0]
 refine loop_up (cxOk _ _) l.length (fun _=>True) (fun k=>⟨[(0,.sl 1 encI 0 l),(1,.fn (.func 93) [] []),(5,.ptr 0 0),(12,.sl 1 encI 0 l),(13,.int .i64 l.length),(14,.int .i64 (k:Nat))],[(0,.cells 173 [.ptr 0 0,.own 1]),(1,.lst 5 1 (strAVs (manyP numS l k)))],2⟩) trivial ((wk_of [(0,.id 0),(1,.id 1)] rfl ⟨wa0,.fn _ _ _ _ _ ac0 ac0,wc0,wa0,wa0,wa0,trivial⟩ ⟨wb0,⟨_,rfl,.lst _ _ _ _ _ rfl (hp0)⟩,trivial⟩)) ?_
 intro k hk _
 have hps:=fun h:k<l.length=>manyP_succ (f:=numS) (d:=0) h
 have hpl:=manyP_len (f:=numS) (l:=l) k
 have hpl1:=manyP_len (f:=numS) (l:=l) (k+1)
 conv=>whnf
 refine ⟨fun hd=>?_,fun hd=>?_⟩
 ·have hkl:k<l.length:=by
   have:=of_decide_eq_true hd
   omega
  have hps:=hps hkl
  have hek:(k:Int).toNat=k:=Int.toNat_natCast k
  have hx:=hf _ (getD_mem (d:=0) hkl)
  conv=>whnf
  refine iO ?_;conv=>whnf
  refine And.intro rfl ?_;conv=>whnf
  rw [hek]
  conv=>whnf
  refine cO (fun _=>hx) ?_
  conv=>whnf
  have hlen:(manyP numS l k).length+(numS (l.getD k 0)).length≤140737488355328:=by
   rw [hps,List.length_append] at hpl1
   omega
  refine cR ((write_more (manyP numS l k) (numS (l.getD k 0)) hlen)) [0,1] ?_
  conv=>whnf
  conv=>whnf
  have hpe:strAVs (manyP numS l k++numS (l.getD k 0))=strAVs (manyP numS l (k+1)):=by rw [hps]
  refine iO ?_;conv=>whnf
  refine up hkl trivial ((wk_of [(0,.id 0),(1,.id 2)] rfl ⟨wa0,.fn _ _ _ _ _ ac0 ac0,wc0,wa0,wa0,wa0,trivial⟩ ⟨wb0,⟨_,rfl,.lst _ _ _ _ _ rfl (hpe)⟩,trivial⟩))
 ·have hke:k=l.length:=by
   have:=of_decide_eq_false hd
   omega
  conv=>whnf
  refine .raw _ _ rfl (fun h=>by cases h) (cs_of (manyP numS l k) (manyP_ne numS l k)) ?_
  rintro r rfl
  refine ⟨Nat.le_of_ble_eq_true rfl,?_⟩
  conv=>whnf
  rw [hke,manyP_all]
  rfl
set_option maxHeartbeats 1000000
theorem intS_le {n:Int} (h:in64 n):(intS n).length≤21:=by
 have:=itoa_len n h
 unfold intS
 simp only [List.length_append,List.length_cons,List.length_nil]
 omega
theorem numS_le {n:Int} (h:N0 n):(numS n).length≤21:=by
 unfold numS
 split
 ·exact Nat.zero_le _
 ·exact intS_le h.2
theorem flat_le {T:Type} {f:T→List UInt8} {B:Nat}:∀ (l:List T),(∀ x∈l,(f x).length≤B)→(l.flatMap f).length≤B*l.length
 | [],_=>by simp
 | x::l,h=>by
  have h1:=flat_le l fun y hy=>h y (List.mem_cons_of_mem _ hy)
  have h2:=h x (by simp)
  rw [List.flatMap_cons,List.length_append,List.length_cons,Nat.mul_succ]
  omega
theorem numsS_le {l:List Int} (h:∀ n∈l,N0 n):(numsS l).length≤21*l.length:=flat_le l fun n hn=>numS_le (h n hn)
theorem manyS_le {T:Type} {f:T→List UInt8} {l:List T} {B:Nat} (h:∀ x∈l,(f x).length≤B) (hn:l.length≤1000000000):(manyS f l).length≤21+B*l.length:=by
 have h1:=flat_le l h
 have h2:=numS_le (n:=l.length) ⟨by omega,by unfold in64;omega⟩
 unfold manyS
 rw [List.length_append]
 omega
theorem textS_le {s:List UInt8} (h:s.length≤1000000000):(textS s).length≤s.length+22:=by
 have:=itoa_len s.length (by unfold in64;omega)
 unfold textS
 simp only [List.length_append,List.length_cons,List.length_nil]
 omega
theorem listS_le {l:List Int} (h:∀ n∈l,in64 n) (hn:l.length≤1000000000):(listS intS l).length≤22+21*l.length:=by
 have h1:=flat_le (f:=intS) l fun n hn=>intS_le (h n hn)
 have h2:=itoa_len l.length (by unfold in64;omega)
 unfold listS headS
 simp only [List.length_append,List.length_cons,List.length_nil]
 omega
structure LiB (x:Lin):Prop where
 w:LiW x
 text:x.text.length≤1000000
 units:x.units.length≤1000000
 noted:x.noted.length≤1000000
 stages:x.stages.length≤1000000
structure FaB (f:Fac):Prop where
 w:FaW f
 name:f.name.length≤1000000
structure PrB (p:Pro):Prop where
 w:PrW p
 text:p.text.length≤1000000
 units:p.units.length≤1000000
 votes:p.votes.length≤1000000
theorem brS_le {b:Brc} (h:N0 b.stage∧N0 b.since):(brS b).length≤42 :=
 numsS_le (l:=[b.stage,b.since]) (by simpa using h)
theorem voS_le {v:Vot} (h:N0 v.seat∧N0 v.day):(voS v).length≤63 :=
 numsS_le (l:=[v.seat,v.day,truthZ v.yes]) (by simpa using ⟨h.1,h.2,truth_n _⟩)
theorem paS_le {p:Pay} (h:PaW p):(paS p).length≤126:=by
 have h1:=numsS_le (l:=[p.issue,p.seat,p.day,p.due,p.paid]) (by simpa using ⟨h.1,h.2.1,h.2.2.1,h.2.2.2.1,h.2.2.2.2.1⟩)
 have h2:=intS_le h.2.2.2.2.2
 unfold paS
 rw [List.length_append]
 simp only [List.length_cons,List.length_nil] at h1
 omega
theorem faS_le {f:Fac} (h:FaB f):(faS f).length≤1000110:=by
 have h1:=numsS_le (l:=[f.issuer]) (by simpa using h.w.1)
 have h2:=numsS_le (l:=[f.period,f.value,f.day]) (by simpa using ⟨h.w.2.2.1,h.w.2.2.2.1,h.w.2.2.2.2⟩)
 have h3:=textS_le (s:=f.name) (by have:=h.name;omega)
 have:=h.name
 unfold faS
 rw [List.length_append,List.length_append]
 simp only [List.length_cons,List.length_nil] at h1 h2
 omega
theorem liS_le {x:Lin} (h:LiB x):(liS x).length≤100000000:=by
 obtain ⟨⟨w1,w2,w3,w4,w5,w6,w7,w8,w9⟩,b1,b2,b3,b4⟩:=h
 have h1:=textS_le (s:=x.text) (by omega)
 have h2:=listS_le w2.1 (by omega)
 have h3:=listS_le w3.1 (by omega)
 have h4:=intS_le w4
 have h5:=manyS_le (f:=brS) (B:=42) (l:=x.stages) (fun b hb=>brS_le (w5.1 b hb)) (by omega)
 have h6:=intS_le w6
 have h7:=intS_le w7
 have h8:=numsS_le (l:=[x.price,truthZ x.ended,x.since]) (by simpa using ⟨w8,truth_n _,w9⟩)
 unfold liS
 simp only [List.length_append]
 simp only [List.length_cons,List.length_nil] at h8
 omega
theorem prS_le {p:Pro} (h:PrB p):(prS p).length≤100000000:=by
 obtain ⟨⟨w1,w2,w3,w4,w5⟩,b1,b2,b3⟩:=h
 have h1:=textS_le (s:=p.text) (by omega)
 have h2:=listS_le w4.1 (by omega)
 have h3:=numsS_le (l:=[p.issue]) (by simpa using w1)
 have h4:=numsS_le (l:=[p.day]) (by simpa using w3)
 have h5:=manyS_le (f:=voS) (B:=63) (l:=p.votes) (fun v hv=>voS_le (w5.1 v hv)) (by omega)
 have h6:=numsS_le (l:=[truthZ p.closed]) (by simpa using truth_n p.closed)
 unfold prS
 simp only [List.length_append]
 simp only [List.length_cons,List.length_nil] at h3 h4 h6
 omega
structure StB (s:Sta):Prop where
 w:StW s
 cash:s.cash.length≤60
 purses:s.purses.length≤20000
 line:∀ x∈s.lines,LiB x
 lines:s.lines.length≤400
 fact:∀ x∈s.facts,FaB x
 facts:s.facts.length≤10000
 payments:s.payments.length≤100000
 proposal:∀ x∈s.proposals,PrB x
 proposals:s.proposals.length≤10000
theorem right_B {s:Sta} (h:rightS s=true):StB s:=by
 have w:=right_W h
 unfold rightS at h
 simp only [Bool.and_eq_true,decide_eq_true_eq,List.all_eq_true] at h
 obtain ⟨⟨⟨⟨⟨⟨hsum,hday⟩,hcl⟩,hpl⟩,hout⟩,⟨⟨hll,hpay⟩,hpro⟩,hfac⟩,⟨hl,hp⟩,hq⟩:=h
 unfold factsOk at hfac
 simp only [Bool.and_eq_true,decide_eq_true_eq] at hfac
 have ul:∀ {k:Int} {l:List Int},unitsOk k l=true→k≤20000→l.length≤1000000:=fun h hk=>by
  unfold unitsOk at h
  simp only [Bool.and_eq_true,decide_eq_true_eq] at h
  omega
 refine ⟨w,hcl,hpl,fun x hx=>?_,hll,fun x hx=>?_,hfac.1,hpay,fun x hx=>?_,hpro⟩
 ·have h:=hl x hx
  unfold lineOk at h
  simp only [Bool.and_eq_true,decide_eq_true_eq,List.all_eq_true,Bool.or_eq_true] at h
  obtain ⟨⟨⟨⟨hp,⟨hu,hn⟩,hna⟩,⟨hfc,hpr⟩,hsi⟩,hsl⟩,hst⟩:=h
  refine ⟨w.lines.1 x hx,by have:=parses_short hp;omega,ul hu om0,?_,by omega⟩
  rcases hn with hn | hn
  ·rw [hn];simp
  ·exact ul hn om0
 ·have h:=facts_all _ _ hfac.2 x hx
  unfold factOne at h
  simp only [Bool.and_eq_true,decide_eq_true_eq] at h
  have hnl:=name_len h.2
  exact ⟨w.facts.1 x hx,by omega⟩
 ·have h:=hq x hx
  unfold proOk at h
  simp only [Bool.and_eq_true,decide_eq_true_eq,List.all_eq_true] at h
  obtain ⟨⟨⟨⟨⟨a,b⟩,c⟩,d⟩,e⟩,f⟩:=h
  exact ⟨w.proposals.1 x hx,by omega,ul d om0,by omega⟩
theorem nums_c (l:List Int) (hne:l≠[]) (hl:∀ n∈l,N0 n) (hn:l.length≤1000):APureV Tryz.prog 79 [.sl 1 encI 0 l] (.str (numsS l)) :=
 nums_s l hne (fun n h=>⟨(hl n h).1,(hl n h).2⟩) (by omega) (by have:=numsS_le hl;omega)
theorem brS_ok (b:Brc) (h:N0 b.stage∧N0 b.since):APureV Tryz.prog 78 [encBr b] (.str (brS b)):=by
 have g:=nums_c [b.stage,b.since] (by simp) (by simpa using h) (by simp)
 refine aO (cxOk 9 [0,1,2]) Tryz.func78 ?_
 conv=>whnf
 refine cO (fun _=>g) ?_
 conv=>whnf
 rfl
theorem voS_ok (v:Vot) (h:N0 v.seat∧N0 v.day):APureV Tryz.prog 91 [encVo v] (.str (voS v)):=by
 have g0:=truth_ok v.yes
 have g:=nums_c [v.seat,v.day,truthZ v.yes] (by simp) (by simpa using ⟨h.1,h.2,truth_n _⟩) (by simp)
 refine aO (cxOk 12 [0,1,2]) Tryz.func91 ?_
 conv=>whnf
 refine .eff ad0 ?_;conv=>whnf
 refine cO (fun _=>g0) ?_
 conv=>whnf
 refine cO (fun _=>g) ?_
 conv=>whnf
 refine ⟨by kernel_rfl,?_⟩
 conv=>whnf
 rfl
theorem faS_ok (f:Fac) (h:FaB f):APureV Tryz.prog 85 [encFa f] (.str (faS f)):=by
 have g1:=nums_c [f.issuer] (by simp) (by simpa using h.w.1) (by simp)
 have g2:=text_ok f.name h.w.2.1
 have g3:=nums_c [f.period,f.value,f.day] (by simp) (by simpa using ⟨h.w.2.2.1,h.w.2.2.2.1,h.w.2.2.2.2⟩) (by simp)
 have b1:=numsS_le (l:=[f.issuer]) (by simpa using h.w.1)
 have b2:=textS_le (s:=f.name) (by have:=h.name;omega)
 have b3:=numsS_le (l:=[f.period,f.value,f.day]) (by simpa using ⟨h.w.2.2.1,h.w.2.2.2.1,h.w.2.2.2.2⟩)
 have:=h.name
 simp only [List.length_cons,List.length_nil] at b1 b3
 unfold faS
 generalize numsS [f.issuer]=A at *
 generalize textS f.name=B at *
 generalize numsS [f.period,f.value,f.day]=C at *
 refine aO (cxOk 20 [0,1,2]) Tryz.func85 ?_
 conv=>whnf
 refine .eff ad0 ?_;conv=>whnf
 refine cO (fun _=>g1) ?_
 conv=>whnf
 refine cO (fun _=>g2) ?_
 conv=>whnf
 refine And.intro ak0 ?_
 conv=>whnf
 refine cO (fun _=>g3) ?_
 conv=>whnf
 refine And.intro ak0 ?_
 conv=>whnf
 refine ⟨by kernel_rfl,?_⟩
 conv=>whnf
 rfl
theorem paS_ok (p:Pay) (h:PaW p):APureV Tryz.prog 87 [encPa p] (.str (paS p)):=by
 have hh:∀ n∈[p.issue,p.seat,p.day,p.due,p.paid],N0 n:=by simpa using ⟨h.1,h.2.1,h.2.2.1,h.2.2.2.1,h.2.2.2.2.1⟩
 have g1:=nums_c [p.issue,p.seat,p.day,p.due,p.paid] (by simp) hh (by simp)
 have g2:=int_ok p.period h.2.2.2.2.2
 have b1:=numsS_le hh
 have b2:=intS_le h.2.2.2.2.2
 simp only [List.length_cons,List.length_nil] at b1
 unfold paS
 generalize numsS [p.issue,p.seat,p.day,p.due,p.paid]=A at *
 generalize intS p.period=B at *
 refine aO (cxOk 19 [0,1,2]) Tryz.func87 ?_
 conv=>whnf
 refine .eff ad0 ?_;conv=>whnf
 refine cO (fun _=>g1) ?_
 conv=>whnf
 refine cO (fun _=>g2) ?_
 conv=>whnf
 refine And.intro om0 (And.intro rfl ?_);conv=>whnf
 rfl
theorem liS_ok (x:Lin) (h:LiB x):APureV Tryz.prog 76 [encLi x] (.str (liS x)):=by
 obtain ⟨⟨w1,w2,w3,w4,w5,w6,w7,w8,w9⟩,b1,b2,b3,b4⟩:=h
 have h1:=textS_le (s:=x.text) (by omega)
 have h2:=listS_le w2.1 (by omega)
 have h3:=listS_le w3.1 (by omega)
 have h4:=intS_le w4
 have h5:=manyS_le (f:=brS) (B:=42) (l:=x.stages) (fun b hb=>brS_le (w5.1 b hb)) (by omega)
 have h6:=intS_le w6
 have h7:=intS_le w7
 have hh:∀ n∈[x.price,truthZ x.ended,x.since],N0 n:=by simpa using ⟨w8,truth_n _,w9⟩
 have h8:=numsS_le hh
 simp only [List.length_cons,List.length_nil] at h8
 have g0:=listBr_ok x.stages (fun b hb=>brS_ok b (w5.1 b hb)) (by omega) (by omega)
 have g1:=text_ok x.text w1
 have g2:=nums_ok x.units w2.1 (by omega) (by omega)
 have g3:=nums_ok x.noted w3.1 (by omega) (by omega)
 have g4:=int_ok x.notedAt w4
 have g6:=int_ok x.fast w6
 have g7:=int_ok x.called w7
 have g8:=truth_ok x.ended
 have g9:=nums_c [x.price,truthZ x.ended,x.since] (by simp) hh (by simp)
 unfold liS
 generalize textS x.text=A at *
 generalize listS intS x.units=B at *
 generalize listS intS x.noted=C at *
 generalize intS x.notedAt=D at *
 generalize manyS brS x.stages=E at *
 generalize intS x.fast=F at *
 generalize intS x.called=G at *
 generalize numsS [x.price,truthZ x.ended,x.since]=H at *
 refine aO (cxOk 42 [0,1,2,3]) Tryz.func76 ?_
 conv=>whnf
 refine .one _ _ _ (fun _=>g0) ai0 ah0 ag0 ?_
 conv=>whnf
 refine .eff ad0 ?_;conv=>whnf
 refine cO (fun _=>g1) ?_
 conv=>whnf
 refine cO (fun _=>g2) ?_
 conv=>whnf
 refine And.intro ak0 ?_
 conv=>whnf
 refine cO (fun _=>g3) ?_
 conv=>whnf
 refine And.intro ak0 ?_
 conv=>whnf
 refine cO (fun _=>g4) ?_
 conv=>whnf
 refine And.intro ak0 ?_
 conv=>whnf
 refine And.intro ak0 ?_
 conv=>whnf
 refine cO (fun _=>g6) ?_
 conv=>whnf
 refine And.intro ak0 ?_
 conv=>whnf
 refine cO (fun _=>g7) ?_
 conv=>whnf
 refine And.intro ak0 ?_
 conv=>whnf
 refine cO (fun _=>g8) ?_
 conv=>whnf
 refine cO (fun _=>g9) ?_
 conv=>whnf
 refine And.intro ak0 ?_
 conv=>whnf
 refine ⟨by kernel_rfl,?_⟩
 conv=>whnf
 rfl
theorem prS_ok (p:Pro) (h:PrB p):APureV Tryz.prog 89 [encPr p] (.str (prS p)):=by
 obtain ⟨⟨w1,w2,w3,w4,w5⟩,b1,b2,b3⟩:=h
 have i1:∀ n∈[p.issue],N0 n:=by simpa using w1
 have i2:∀ n∈[p.day],N0 n:=by simpa using w3
 have i3:∀ n∈[truthZ p.closed],N0 n:=by simpa using truth_n p.closed
 have h1:=textS_le (s:=p.text) (by omega)
 have h2:=listS_le w4.1 (by omega)
 have h3:=numsS_le i1
 have h4:=numsS_le i2
 have h5:=manyS_le (f:=voS) (B:=63) (l:=p.votes) (fun v hv=>voS_le (w5.1 v hv)) (by omega)
 have h6:=numsS_le i3
 simp only [List.length_cons,List.length_nil] at h3 h4 h6
 have g0:=listVo_ok p.votes (fun v hv=>voS_ok v (w5.1 v hv)) (by omega) (by omega)
 have g1:=nums_c [p.issue] (by simp) i1 (by simp)
 have g2:=text_ok p.text w2
 have g3:=nums_c [p.day] (by simp) i2 (by simp)
 have g4:=nums_ok p.units w4.1 (by omega) (by omega)
 have g5:=truth_ok p.closed
 have g6:=nums_c [truthZ p.closed] (by simp) i3 (by simp)
 unfold prS
 generalize numsS [p.issue]=A at *
 generalize textS p.text=B at *
 generalize numsS [p.day]=C at *
 generalize listS intS p.units=D at *
 generalize manyS voS p.votes=E at *
 generalize numsS [truthZ p.closed]=F at *
 refine aO (cxOk 32 [0,1,2,3]) Tryz.func89 ?_
 conv=>whnf
 refine .one _ _ _ (fun _=>g0) ai0 ah0 ag0 ?_
 conv=>whnf
 refine .eff ad0 ?_;conv=>whnf
 refine cO (fun _=>g1) ?_
 conv=>whnf
 refine cO (fun _=>g2) ?_
 conv=>whnf
 refine And.intro ak0 ?_
 conv=>whnf
 refine cO (fun _=>g3) ?_
 conv=>whnf
 refine And.intro ak0 ?_
 conv=>whnf
 refine cO (fun _=>g4) ?_
 conv=>whnf
 refine And.intro ak0 ?_
 conv=>whnf
 refine And.intro ak0 ?_
 conv=>whnf
 refine cO (fun _=>g5) ?_
 conv=>whnf
 refine cO (fun _=>g6) ?_
 conv=>whnf
 refine And.intro ak0 ?_
 conv=>whnf
 refine ⟨by kernel_rfl,?_⟩
 conv=>whnf
 rfl
theorem text_st (s:Sta) (o:OkS s):APureV Tryz.prog 15 [encSt s] (.str (stT s)):=by
 have gr:=right_ok s o
 unfold stT
 cases hr:rightS s with
 | false =>
  rw [hr] at gr
  rw [if_neg (by simp)]
  refine aO (cxOk 46 [0,1,2,3,4,5,6,9]) Tryz.func15 ?_
  conv=>whnf
  refine cO (fun _=>gr) ?_
  conv=>whnf
  refine nE ?_;conv=>whnf
  rfl
 | true =>
  rw [hr] at gr
  rw [if_pos rfl]
  obtain ⟨w,c1,c2,c3,c4,c5,c6,c7,c8,c9⟩:=right_B hr
  have i1:∀ n∈[s.day],N0 n:=by simpa using w.day
  have h1:=numsS_le i1
  have h2:=manyS_le (f:=numS) (B:=21) (l:=s.cash) (fun n hn=>numS_le (w.cash.1 n hn)) (by omega)
  have h3:=manyS_le (f:=numS) (B:=21) (l:=s.purses) (fun n hn=>numS_le (w.purses.1 n hn)) (by omega)
  have h4:=intS_le w.outside
  have h5:=manyS_le (f:=liS) (B:=100000000) (l:=s.lines) (fun x hx=>liS_le (c3 x hx)) (by omega)
  have h6:=manyS_le (f:=faS) (B:=1000110) (l:=s.facts) (fun x hx=>faS_le (c5 x hx)) (by omega)
  have h7:=manyS_le (f:=paS) (B:=126) (l:=s.payments) (fun x hx=>paS_le (w.payments.1 x hx)) (by omega)
  have h8:=manyS_le (f:=prS) (B:=100000000) (l:=s.proposals) (fun x hx=>prS_le (c8 x hx)) (by omega)
  simp only [List.length_cons,List.length_nil] at h1
  have g1:=nums_c [s.day] (by simp) i1 (by simp)
  have g2:=listNu_ok s.cash (fun n hn=>num_ok n (w.cash.1 n hn).2) (by omega) (by omega)
  have g3:=listNu_ok s.purses (fun n hn=>num_ok n (w.purses.1 n hn).2) (by omega) (by omega)
  have g4:=int_ok s.outside w.outside
  have g5:=listLi_ok s.lines (fun x hx=>liS_ok x (c3 x hx)) (by omega) (by omega)
  have g6:=listFa_ok s.facts (fun x hx=>faS_ok x (c5 x hx)) (by omega) (by omega)
  have g7:=listPa_ok s.payments (fun x hx=>paS_ok x (w.payments.1 x hx)) (by omega) (by omega)
  have g8:=listPr_ok s.proposals (fun x hx=>prS_ok x (c8 x hx)) (by omega) (by omega)
  unfold stS
  generalize numsS [s.day]=A at *
  generalize manyS numS s.cash=B at *
  generalize manyS numS s.purses=C at *
  generalize intS s.outside=D at *
  generalize manyS liS s.lines=E at *
  generalize manyS faS s.facts=F at *
  generalize manyS paS s.payments=G at *
  generalize manyS prS s.proposals=H at *
  refine aO (cxOk 46 [0,1,2,3,4,5,6,9]) Tryz.func15 ?_
  conv=>whnf
  refine cO (fun _=>gr) ?_
  conv=>whnf
  refine gF ?_
  conv=>whnf
  refine .one _ _ _ (fun _=>g5) ai0 ah0 ag0 ?_
  conv=>whnf
  refine .one _ _ _ (fun _=>g6) ai0 ah0 ag0 ?_
  conv=>whnf
  refine .one _ _ _ (fun _=>g7) ai0 ah0 ag0 ?_
  conv=>whnf
  refine .one _ _ _ (fun _=>g8) ai0 ah0 ag0 ?_
  conv=>whnf
  refine .eff ad0 ?_;conv=>whnf
  refine cO (fun _=>g1) ?_
  conv=>whnf
  refine .one _ _ _ (fun _=>g2) ai0 ah0 ag0 ?_
  conv=>whnf
  refine And.intro ak0 ?_
  conv=>whnf
  refine .one _ _ _ (fun _=>g3) ai0 ah0 ag0 ?_
  conv=>whnf
  refine And.intro ak0 ?_
  conv=>whnf
  refine cO (fun _=>g4) ?_
  conv=>whnf
  refine And.intro ak0 ?_
  conv=>whnf
  refine And.intro ak0 ?_
  conv=>whnf
  refine And.intro ak0 ?_
  conv=>whnf
  refine And.intro ak0 ?_
  conv=>whnf
  refine And.intro ak0 ?_
  conv=>whnf
  refine ⟨by kernel_rfl,?_⟩
  conv=>whnf
  rfl
noncomputable instance:DecidableEq Brc:=fun _ _=>Classical.propDecidable _
noncomputable instance:DecidableEq Vot:=fun _ _=>Classical.propDecidable _
noncomputable instance:DecidableEq Pay:=fun _ _=>Classical.propDecidable _
noncomputable instance:DecidableEq Pro:=fun _ _=>Classical.propDecidable _
noncomputable instance:DecidableEq Lin:=fun _ _=>Classical.propDecidable _
noncomputable instance:DecidableEq Fac:=fun _ _=>Classical.propDecidable _
noncomputable instance:DecidableEq Sta:=fun _ _=>Classical.propDecidable _
theorem list_eq {α:Type} {d:α}:∀ {l r:List α},l.length=r.length→(∀ j,j<l.length→l.getD j d=r.getD j d)→l=r
 | [],[],_,_=>rfl
 | [],_::_,h,_=>by cases h
 | _::_,[],h,_=>by cases h
 | a::l,b::r,h,hj=>by
  have h0:a=b:=hj 0 (by simp)
  have h1:l=r:=list_eq (by simpa using h) fun j hl=>hj (j+1) (by simp;omega)
  rw [h0,h1]
theorem eqBrc_dec (a b:Brc):decide (a=b)=((decide (a.stage=b.stage)&&(decide (a.since=b.since)&&true))):=by
 rw [Bool.eq_iff_iff]
 cases a;cases b
 simp only [Bool.and_eq_true,decide_eq_true_eq,Brc.mk.injEq,and_true,and_assoc]
 first | done | (constructor<;>(intro h;simp only [h,and_self,true_and,and_true];try exact h))
theorem eqVot_dec (a b:Vot):decide (a=b)=((decide (a.seat=b.seat)&&(decide (a.day=b.day)&&(decide (a.yes=b.yes)&&true)))):=by
 rw [Bool.eq_iff_iff]
 cases a;cases b
 simp only [Bool.and_eq_true,decide_eq_true_eq,Vot.mk.injEq,and_true,and_assoc]
 first | done | (constructor<;>(intro h;simp only [h,and_self,true_and,and_true];try exact h))
theorem eqPay_dec (a b:Pay):decide (a=b)=((decide (a.issue=b.issue)&&(decide (a.seat=b.seat)&&(decide (a.day=b.day)&&(decide (a.due=b.due)&&(decide (a.paid=b.paid)&&(decide (a.period=b.period)&&true))))))):=by
 rw [Bool.eq_iff_iff]
 cases a;cases b
 simp only [Bool.and_eq_true,decide_eq_true_eq,Pay.mk.injEq,and_true,and_assoc]
 first | done | (constructor<;>(intro h;simp only [h,and_self,true_and,and_true];try exact h))
theorem eqFac_dec (a b:Fac):decide (a=b)=((decide (a.issuer=b.issuer)&&(decide (a.name=b.name)&&(decide (a.period=b.period)&&(decide (a.value=b.value)&&(decide (a.day=b.day)&&true)))))):=by
 rw [Bool.eq_iff_iff]
 cases a;cases b
 simp only [Bool.and_eq_true,decide_eq_true_eq,Fac.mk.injEq,and_true,and_assoc]
 first | done | (constructor<;>(intro h;simp only [h,and_self,true_and,and_true];try exact h))
theorem eqsI_ok (l r:List Int) (hl:l.length≤9223372036854775807) (hr:r.length≤9223372036854775807) :
  APureV Tryz.prog 101 [.sl 1 encI 0 l,.sl 1 encI 0 r] (.bool (decide (l=r))):=by
 refine aO (cxOk 26 [0,1,4,5,10,12,13,14,24]) Tryz.func101 ?_
 conv=>whnf
 refine ⟨fun hlen=>?_,fun hlen=>?_⟩
 ·have hne:¬ l=r:=by
   intro h
   rw [h] at hlen
   simp at hlen
  rw [decide_eq_false hne]
  conv=>whnf
  rfl
 have hlen:l.length=r.length:=by simp at hlen;omega
 conv=>whnf
 refine loop_up (cxOk _ _) l.length (fun k=>∀ j,j<k→l.getD j 0=r.getD j 0) (fun k=>⟨[(0,.sl 1 encI 0 l),(1,.sl 1 encI 0 r),(4,.bool false),(12,.int .i64 (l.length:Nat)),(13,.int .i64 (k:Nat))],[],0⟩) (by intro j hj;omega) ((wk_of [] rfl ⟨wa0,wa0,wa0,wa0,wa0,trivial⟩ trivial)) ?_
 intro k hk hP
 conv=>whnf
 refine ⟨fun hd=>?_,fun hd=>?_⟩
 ·have hd:=of_decide_eq_true hd
  have hlt:k<l.length:=by omega
  have hek:(k:Int).toNat=k:=Int.toNat_natCast k
  conv=>whnf
  refine .quiet (by kernel_rfl) ?_;conv=>whnf
  refine iO ?_;conv=>whnf
  refine And.intro rfl ?_;conv=>whnf
  refine iO ?_;conv=>whnf
  refine And.intro rfl ?_;conv=>whnf
  rw [hek]
  conv=>whnf
  try (rw [hek];conv=>whnf)
  refine ⟨fun he=>?_,fun he=>?_⟩
  ·have hne:¬ l=r:=by
    intro h
    rw [h] at he
    simp at he
   rw [decide_eq_false hne]
   conv=>whnf
   rfl
  ·have he:l.getD k 0=r.getD k 0:=by simpa using he
   conv=>whnf
   refine iO ?_;conv=>whnf
   refine up hlt (fun j hj=>?_) ((wk_of [] rfl ⟨wa0,wa0,wa0,wa0,wa0,trivial⟩ trivial))
   by_cases e:j=k
   ·subst e;exact he
   ·exact hP j om0
 ·have hd:=of_decide_eq_false hd
  have he:l=r:=list_eq (d:=0) hlen fun j hj=>hP j (by omega)
  rw [decide_eq_true he]
  conv=>whnf
  rfl
theorem eqsB_ok (l r:List Brc) (hl:l.length≤9223372036854775807) (hr:r.length≤9223372036854775807) :
  APureV Tryz.prog 102 [.sl 2 encBr br0 l,.sl 2 encBr br0 r] (.bool (decide (l=r))):=by
 refine aO (cxOk 26 [0,1,4,5,10,12,13,14,24]) Tryz.func102 ?_
 conv=>whnf
 refine ⟨fun hlen=>?_,fun hlen=>?_⟩
 ·have hne:¬ l=r:=by
   intro h
   rw [h] at hlen
   simp at hlen
  rw [decide_eq_false hne]
  conv=>whnf
  rfl
 have hlen:l.length=r.length:=by simp at hlen;omega
 conv=>whnf
 refine loop_up (cxOk _ _) l.length (fun k=>∀ j,j<k→l.getD j br0=r.getD j br0) (fun k=>⟨[(0,.sl 2 encBr br0 l),(1,.sl 2 encBr br0 r),(4,.bool false),(12,.int .i64 (l.length:Nat)),(13,.int .i64 (k:Nat))],[],0⟩) (by intro j hj;omega) ((wk_of [] rfl ⟨wa0,wa0,wa0,wa0,wa0,trivial⟩ trivial)) ?_
 intro k hk hP
 conv=>whnf
 refine ⟨fun hd=>?_,fun hd=>?_⟩
 ·have hd:=of_decide_eq_true hd
  have hlt:k<l.length:=by omega
  have hek:(k:Int).toNat=k:=Int.toNat_natCast k
  conv=>whnf
  refine .quiet (by kernel_rfl) ?_;conv=>whnf
  refine iO ?_;conv=>whnf
  refine And.intro rfl ?_;conv=>whnf
  refine iO ?_;conv=>whnf
  refine And.intro rfl ?_;conv=>whnf
  rw [hek]
  conv=>whnf
  try (rw [hek];conv=>whnf)
  refine And.intro ⟨by kernel_rfl,by kernel_rfl⟩ ?_
  conv=>whnf
  rw [show (decide ((l.getD k br0).stage=(r.getD k br0).stage)&&(decide ((l.getD k br0).since=(r.getD k br0).since)&&true))=decide (l.getD k br0=r.getD k br0) from (eqBrc_dec _ _).symm]
  refine ⟨fun he=>?_,fun he=>?_⟩
  ·have hne:¬ l=r:=by
    intro h
    rw [h] at he
    simp at he
   rw [decide_eq_false hne]
   conv=>whnf
   rfl
  ·have he:l.getD k br0=r.getD k br0:=by simpa using he
   conv=>whnf
   refine iO ?_;conv=>whnf
   refine up hlt (fun j hj=>?_) ((wk_of [] rfl ⟨wa0,wa0,wa0,wa0,wa0,trivial⟩ trivial))
   by_cases e:j=k
   ·subst e;exact he
   ·exact hP j om0
 ·have hd:=of_decide_eq_false hd
  have he:l=r:=list_eq (d:=br0) hlen fun j hj=>hP j (by omega)
  rw [decide_eq_true he]
  conv=>whnf
  rfl
theorem eqsV_ok (l r:List Vot) (hl:l.length≤9223372036854775807) (hr:r.length≤9223372036854775807) :
  APureV Tryz.prog 105 [.sl 3 encVo vo0 l,.sl 3 encVo vo0 r] (.bool (decide (l=r))):=by
 refine aO (cxOk 26 [0,1,4,5,10,12,13,14,24]) Tryz.func105 ?_
 conv=>whnf
 refine ⟨fun hlen=>?_,fun hlen=>?_⟩
 ·have hne:¬ l=r:=by
   intro h
   rw [h] at hlen
   simp at hlen
  rw [decide_eq_false hne]
  conv=>whnf
  rfl
 have hlen:l.length=r.length:=by simp at hlen;omega
 conv=>whnf
 refine loop_up (cxOk _ _) l.length (fun k=>∀ j,j<k→l.getD j vo0=r.getD j vo0) (fun k=>⟨[(0,.sl 3 encVo vo0 l),(1,.sl 3 encVo vo0 r),(4,.bool false),(12,.int .i64 (l.length:Nat)),(13,.int .i64 (k:Nat))],[],0⟩) (by intro j hj;omega) ((wk_of [] rfl ⟨wa0,wa0,wa0,wa0,wa0,trivial⟩ trivial)) ?_
 intro k hk hP
 conv=>whnf
 refine ⟨fun hd=>?_,fun hd=>?_⟩
 ·have hd:=of_decide_eq_true hd
  have hlt:k<l.length:=by omega
  have hek:(k:Int).toNat=k:=Int.toNat_natCast k
  conv=>whnf
  refine .quiet (by kernel_rfl) ?_;conv=>whnf
  refine iO ?_;conv=>whnf
  refine And.intro rfl ?_;conv=>whnf
  refine iO ?_;conv=>whnf
  refine And.intro rfl ?_;conv=>whnf
  rw [hek]
  conv=>whnf
  try (rw [hek];conv=>whnf)
  refine And.intro ⟨by kernel_rfl,by kernel_rfl⟩ ?_
  conv=>whnf
  rw [show (decide ((l.getD k vo0).seat=(r.getD k vo0).seat)&&(decide ((l.getD k vo0).day=(r.getD k vo0).day)&&(decide ((l.getD k vo0).yes=(r.getD k vo0).yes)&&true)))=decide (l.getD k vo0=r.getD k vo0) from (eqVot_dec _ _).symm]
  refine ⟨fun he=>?_,fun he=>?_⟩
  ·have hne:¬ l=r:=by
    intro h
    rw [h] at he
    simp at he
   rw [decide_eq_false hne]
   conv=>whnf
   rfl
  ·have he:l.getD k vo0=r.getD k vo0:=by simpa using he
   conv=>whnf
   refine iO ?_;conv=>whnf
   refine up hlt (fun j hj=>?_) ((wk_of [] rfl ⟨wa0,wa0,wa0,wa0,wa0,trivial⟩ trivial))
   by_cases e:j=k
   ·subst e;exact he
   ·exact hP j om0
 ·have hd:=of_decide_eq_false hd
  have he:l=r:=list_eq (d:=vo0) hlen fun j hj=>hP j (by omega)
  rw [decide_eq_true he]
  conv=>whnf
  rfl
theorem eqsFa_ok (l r:List Fac) (hl:l.length≤9223372036854775807) (hr:r.length≤9223372036854775807) :
  APureV Tryz.prog 106 [.sl 5 encFa fa0 l,.sl 5 encFa fa0 r] (.bool (decide (l=r))):=by
 refine aO (cxOk 26 [0,1,4,5,10,12,13,14,24]) Tryz.func106 ?_
 conv=>whnf
 refine ⟨fun hlen=>?_,fun hlen=>?_⟩
 ·have hne:¬ l=r:=by
   intro h
   rw [h] at hlen
   simp at hlen
  rw [decide_eq_false hne]
  conv=>whnf
  rfl
 have hlen:l.length=r.length:=by simp at hlen;omega
 conv=>whnf
 refine loop_up (cxOk _ _) l.length (fun k=>∀ j,j<k→l.getD j fa0=r.getD j fa0) (fun k=>⟨[(0,.sl 5 encFa fa0 l),(1,.sl 5 encFa fa0 r),(4,.bool false),(12,.int .i64 (l.length:Nat)),(13,.int .i64 (k:Nat))],[],0⟩) (by intro j hj;omega) ((wk_of [] rfl ⟨wa0,wa0,wa0,wa0,wa0,trivial⟩ trivial)) ?_
 intro k hk hP
 conv=>whnf
 refine ⟨fun hd=>?_,fun hd=>?_⟩
 ·have hd:=of_decide_eq_true hd
  have hlt:k<l.length:=by omega
  have hek:(k:Int).toNat=k:=Int.toNat_natCast k
  conv=>whnf
  refine .quiet (by kernel_rfl) ?_;conv=>whnf
  refine iO ?_;conv=>whnf
  refine And.intro rfl ?_;conv=>whnf
  refine iO ?_;conv=>whnf
  refine And.intro rfl ?_;conv=>whnf
  rw [hek]
  conv=>whnf
  try (rw [hek];conv=>whnf)
  refine And.intro ⟨by kernel_rfl,by kernel_rfl⟩ ?_
  conv=>whnf
  rw [show (decide ((l.getD k fa0).issuer=(r.getD k fa0).issuer)&&(decide ((l.getD k fa0).name=(r.getD k fa0).name)&&(decide ((l.getD k fa0).period=(r.getD k fa0).period)&&(decide ((l.getD k fa0).value=(r.getD k fa0).value)&&(decide ((l.getD k fa0).day=(r.getD k fa0).day)&&true)))))=decide (l.getD k fa0=r.getD k fa0) from (eqFac_dec _ _).symm]
  refine ⟨fun he=>?_,fun he=>?_⟩
  ·have hne:¬ l=r:=by
    intro h
    rw [h] at he
    simp at he
   rw [decide_eq_false hne]
   conv=>whnf
   rfl
  ·have he:l.getD k fa0=r.getD k fa0:=by simpa using he
   conv=>whnf
   refine iO ?_;conv=>whnf
   refine up hlt (fun j hj=>?_) ((wk_of [] rfl ⟨wa0,wa0,wa0,wa0,wa0,trivial⟩ trivial))
   by_cases e:j=k
   ·subst e;exact he
   ·exact hP j om0
 ·have hd:=of_decide_eq_false hd
  have he:l=r:=list_eq (d:=fa0) hlen fun j hj=>hP j (by omega)
  rw [decide_eq_true he]
  conv=>whnf
  rfl
theorem eqsPa_ok (l r:List Pay) (hl:l.length≤9223372036854775807) (hr:r.length≤9223372036854775807) :
  APureV Tryz.prog 107 [.sl 6 encPa pa0 l,.sl 6 encPa pa0 r] (.bool (decide (l=r))):=by
 refine aO (cxOk 26 [0,1,4,5,10,12,13,14,24]) Tryz.func107 ?_
 conv=>whnf
 refine ⟨fun hlen=>?_,fun hlen=>?_⟩
 ·have hne:¬ l=r:=by
   intro h
   rw [h] at hlen
   simp at hlen
  rw [decide_eq_false hne]
  conv=>whnf
  rfl
 have hlen:l.length=r.length:=by simp at hlen;omega
 conv=>whnf
 refine loop_up (cxOk _ _) l.length (fun k=>∀ j,j<k→l.getD j pa0=r.getD j pa0) (fun k=>⟨[(0,.sl 6 encPa pa0 l),(1,.sl 6 encPa pa0 r),(4,.bool false),(12,.int .i64 (l.length:Nat)),(13,.int .i64 (k:Nat))],[],0⟩) (by intro j hj;omega) ((wk_of [] rfl ⟨wa0,wa0,wa0,wa0,wa0,trivial⟩ trivial)) ?_
 intro k hk hP
 conv=>whnf
 refine ⟨fun hd=>?_,fun hd=>?_⟩
 ·have hd:=of_decide_eq_true hd
  have hlt:k<l.length:=by omega
  have hek:(k:Int).toNat=k:=Int.toNat_natCast k
  conv=>whnf
  refine .quiet (by kernel_rfl) ?_;conv=>whnf
  refine iO ?_;conv=>whnf
  refine And.intro rfl ?_;conv=>whnf
  refine iO ?_;conv=>whnf
  refine And.intro rfl ?_;conv=>whnf
  rw [hek]
  conv=>whnf
  try (rw [hek];conv=>whnf)
  refine And.intro ⟨by kernel_rfl,by kernel_rfl⟩ ?_
  conv=>whnf
  rw [show (decide ((l.getD k pa0).issue=(r.getD k pa0).issue)&&(decide ((l.getD k pa0).seat=(r.getD k pa0).seat)&&(decide ((l.getD k pa0).day=(r.getD k pa0).day)&&(decide ((l.getD k pa0).due=(r.getD k pa0).due)&&(decide ((l.getD k pa0).paid=(r.getD k pa0).paid)&&(decide ((l.getD k pa0).period=(r.getD k pa0).period)&&true))))))=decide (l.getD k pa0=r.getD k pa0) from (eqPay_dec _ _).symm]
  refine ⟨fun he=>?_,fun he=>?_⟩
  ·have hne:¬ l=r:=by
    intro h
    rw [h] at he
    simp at he
   rw [decide_eq_false hne]
   conv=>whnf
   rfl
  ·have he:l.getD k pa0=r.getD k pa0:=by simpa using he
   conv=>whnf
   refine iO ?_;conv=>whnf
   refine up hlt (fun j hj=>?_) ((wk_of [] rfl ⟨wa0,wa0,wa0,wa0,wa0,trivial⟩ trivial))
   by_cases e:j=k
   ·subst e;exact he
   ·exact hP j om0
 ·have hd:=of_decide_eq_false hd
  have he:l=r:=list_eq (d:=pa0) hlen fun j hj=>hP j (by omega)
  rw [decide_eq_true he]
  conv=>whnf
  rfl
theorem eqfLi_ok (l r:List Lin) (hl:l.length≤9223372036854775807) (hr:r.length≤9223372036854775807) (hc:∀ x∈l,∀ y∈r,APureV Tryz.prog 100 [encLi x,encLi y] (.bool (decide (x=y)))) :
  APureV Tryz.prog 99 [.sl 10 encLi li0 l,.sl 10 encLi li0 r,.fn (.func 100) [] []] (.bool (decide (l=r))):=by
 refine aO (cxOk 32 [0,1,2,6,7,8,9,14,15,16,17,18,30]) Tryz.func99 ?_
 conv=>whnf
 refine ⟨fun hlen=>?_,fun hlen=>?_⟩
 ·have hne:¬ l=r:=by
   intro h
   rw [h] at hlen
   simp at hlen
  rw [decide_eq_false hne]
  conv=>whnf
  rfl
 have hlen:l.length=r.length:=by simp at hlen;omega
 conv=>whnf
 refine loop_up (cxOk _ _) l.length (fun k=>∀ j,j<k→l.getD j li0=r.getD j li0) (fun k=>⟨[(0,.sl 10 encLi li0 l),(1,.sl 10 encLi li0 r),(2,.fn (.func 100) [] []),(6,.bool false),(15,.sl 10 encLi li0 l),(16,.int .i64 (l.length:Nat)),(17,.int .i64 (k:Nat))],[],0⟩) (by intro j hj;omega) ((wk_of [] rfl ⟨wa0,wa0,.fn _ _ _ _ _ ac0 ac0,wa0,wa0,wa0,wa0,trivial⟩ trivial)) ?_
 intro k hk hP
 conv=>whnf
 refine ⟨fun hd=>?_,fun hd=>?_⟩
 ·have hd:=of_decide_eq_true hd
  have hlt:k<l.length:=by omega
  have hek:(k:Int).toNat=k:=Int.toNat_natCast k
  have h:=hc _ (getD_mem (d:=li0) hlt) _ (getD_mem (d:=li0) (show k<r.length by omega))
  conv=>whnf
  refine iO ?_;conv=>whnf
  refine And.intro rfl ?_;conv=>whnf
  refine iO ?_;conv=>whnf
  refine And.intro rfl ?_;conv=>whnf
  rw [hek]
  conv=>whnf
  refine cO (fun _=>h) ?_
  conv=>whnf
  refine ⟨fun he=>?_,fun he=>?_⟩
  ·have hne:¬ l=r:=by
    intro h
    rw [h] at he
    simp at he
   rw [decide_eq_false hne]
   conv=>whnf
   rfl
  ·have he:l.getD k li0=r.getD k li0:=by simpa using he
   conv=>whnf
   refine iO ?_;conv=>whnf
   refine up hlt (fun j hj=>?_) ((wk_of [] rfl ⟨wa0,wa0,.fn _ _ _ _ _ ac0 ac0,wa0,wa0,wa0,wa0,trivial⟩ trivial))
   by_cases e:j=k
   ·subst e;exact he
   ·exact hP j om0
 ·have hd:=of_decide_eq_false hd
  have he:l=r:=list_eq (d:=li0) hlen fun j hj=>hP j (by omega)
  rw [decide_eq_true he]
  conv=>whnf
  rfl
theorem eqfPr_ok (l r:List Pro) (hl:l.length≤9223372036854775807) (hr:r.length≤9223372036854775807) (hc:∀ x∈l,∀ y∈r,APureV Tryz.prog 104 [encPr x,encPr y] (.bool (decide (x=y)))) :
  APureV Tryz.prog 103 [.sl 6 encPr pr0 l,.sl 6 encPr pr0 r,.fn (.func 104) [] []] (.bool (decide (l=r))):=by
 refine aO (cxOk 32 [0,1,2,6,7,8,9,14,15,16,17,18,30]) Tryz.func103 ?_
 conv=>whnf
 refine ⟨fun hlen=>?_,fun hlen=>?_⟩
 ·have hne:¬ l=r:=by
   intro h
   rw [h] at hlen
   simp at hlen
  rw [decide_eq_false hne]
  conv=>whnf
  rfl
 have hlen:l.length=r.length:=by simp at hlen;omega
 conv=>whnf
 refine loop_up (cxOk _ _) l.length (fun k=>∀ j,j<k→l.getD j pr0=r.getD j pr0) (fun k=>⟨[(0,.sl 6 encPr pr0 l),(1,.sl 6 encPr pr0 r),(2,.fn (.func 104) [] []),(6,.bool false),(15,.sl 6 encPr pr0 l),(16,.int .i64 (l.length:Nat)),(17,.int .i64 (k:Nat))],[],0⟩) (by intro j hj;omega) ((wk_of [] rfl ⟨wa0,wa0,.fn _ _ _ _ _ ac0 ac0,wa0,wa0,wa0,wa0,trivial⟩ trivial)) ?_
 intro k hk hP
 conv=>whnf
 refine ⟨fun hd=>?_,fun hd=>?_⟩
 ·have hd:=of_decide_eq_true hd
  have hlt:k<l.length:=by omega
  have hek:(k:Int).toNat=k:=Int.toNat_natCast k
  have h:=hc _ (getD_mem (d:=pr0) hlt) _ (getD_mem (d:=pr0) (show k<r.length by omega))
  conv=>whnf
  refine iO ?_;conv=>whnf
  refine And.intro rfl ?_;conv=>whnf
  refine iO ?_;conv=>whnf
  refine And.intro rfl ?_;conv=>whnf
  rw [hek]
  conv=>whnf
  refine cO (fun _=>h) ?_
  conv=>whnf
  refine ⟨fun he=>?_,fun he=>?_⟩
  ·have hne:¬ l=r:=by
    intro h
    rw [h] at he
    simp at he
   rw [decide_eq_false hne]
   conv=>whnf
   rfl
  ·have he:l.getD k pr0=r.getD k pr0:=by simpa using he
   conv=>whnf
   refine iO ?_;conv=>whnf
   refine up hlt (fun j hj=>?_) ((wk_of [] rfl ⟨wa0,wa0,.fn _ _ _ _ _ ac0 ac0,wa0,wa0,wa0,wa0,trivial⟩ trivial))
   by_cases e:j=k
   ·subst e;exact he
   ·exact hP j om0
 ·have hd:=of_decide_eq_false hd
  have he:l=r:=list_eq (d:=pr0) hlen fun j hj=>hP j (by omega)
  rw [decide_eq_true he]
  conv=>whnf
  rfl
theorem eqLin_dec (a b:Lin):decide (a=b)=((decide (a.text=b.text)&&decide (a.units=b.units)&&decide (a.noted=b.noted)&&decide (a.notedAt=b.notedAt)&&decide (a.stages=b.stages))&&decide (a.fast=b.fast)&&decide (a.called=b.called)&&decide (a.price=b.price)&&(a.ended == b.ended)&&decide (a.since=b.since)):=by
 rw [Bool.eq_iff_iff]
 cases a;cases b
 simp only [Bool.and_eq_true,decide_eq_true_eq,beq_iff_eq,Lin.mk.injEq,and_assoc]
theorem eqPro_dec (a b:Pro):decide (a=b)=(decide (a.issue=b.issue)&&decide (a.text=b.text)&&decide (a.day=b.day)&&decide (a.units=b.units)&&decide (a.votes=b.votes)&&(a.closed == b.closed)):=by
 rw [Bool.eq_iff_iff]
 cases a;cases b
 simp only [Bool.and_eq_true,decide_eq_true_eq,beq_iff_eq,Pro.mk.injEq,and_assoc]
theorem eqSta_dec (a b:Sta):decide (a=b)=((decide (a.day=b.day)&&decide (a.cash=b.cash)&&decide (a.purses=b.purses)&&decide (a.outside=b.outside))&&decide (a.lines=b.lines)&&decide (a.proposals=b.proposals)&&decide (a.facts=b.facts)&&decide (a.payments=b.payments)):=by
 rw [Bool.eq_iff_iff]
 cases a;cases b
 simp only [Bool.and_eq_true,decide_eq_true_eq,Sta.mk.injEq,and_assoc]
 constructor
 ·rintro ⟨h1,h2,h3,h4,h5,h6,h7,h8⟩;exact ⟨h1,h2,h3,h4,h5,h8,h6,h7⟩
 ·rintro ⟨h1,h2,h3,h4,h5,h8,h6,h7⟩;exact ⟨h1,h2,h3,h4,h5,h6,h7,h8⟩
theorem sameLi_ok (x y:Lin) (hx:x.text.length≤9223372036854775807∧x.units.length≤9223372036854775807∧x.noted.length≤9223372036854775807∧x.stages.length≤9223372036854775807) (hy:y.text.length≤9223372036854775807∧y.units.length≤9223372036854775807∧y.noted.length≤9223372036854775807∧y.stages.length≤9223372036854775807) :
  APureV Tryz.prog 100 [encLi x,encLi y] (.bool (decide (x=y))):=by
 have g1:=eqsI_ok x.units y.units hx.2.1 hy.2.1
 have g2:=eqsI_ok x.noted y.noted hx.2.2.1 hy.2.2.1
 have g3:=eqsB_ok x.stages y.stages hx.2.2.2 hy.2.2.2
 rw [eqLin_dec]
 refine aO (cxOk 75 [0,1,2,3,4,5]) Tryz.func100 ?_
 conv=>whnf
 refine cO (fun _=>g1) ?_
 conv=>whnf
 refine cO (fun _=>g2) ?_
 conv=>whnf
 refine cO (fun _=>g3) ?_
 conv=>whnf
 trace_state
 rfl
theorem samePr_ok (x y:Pro) (hx:x.text.length≤9223372036854775807∧x.units.length≤9223372036854775807∧x.votes.length≤9223372036854775807) (hy:y.text.length≤9223372036854775807∧y.units.length≤9223372036854775807∧y.votes.length≤9223372036854775807) :
  APureV Tryz.prog 104 [encPr x,encPr y] (.bool (decide (x=y))):=by
 have g1:=eqsI_ok x.units y.units hx.2.1 hy.2.1
 have g3:=eqsV_ok x.votes y.votes hx.2.2 hy.2.2
 rw [eqPro_dec]
 refine aO (cxOk 45 [0,1,2,3,4]) Tryz.func104 ?_
 conv=>whnf
 refine cO (fun _=>g1) ?_
 conv=>whnf
 refine cO (fun _=>g3) ?_
 conv=>whnf
 rfl
theorem same_st (a b:Sta) (oa:OkS a) (ob:OkS b):APureV Tryz.prog 17 [encSt a,encSt b] (.bool (decide (a=b))):=by
 have g1:=eqfLi_ok a.lines b.lines oa.lines ob.lines (fun x hx y hy=>sameLi_ok x y (oa.line x hx) (ob.line y hy))
 have g2:=eqfPr_ok a.proposals b.proposals oa.proposals ob.proposals (fun x hx y hy=>samePr_ok x y (oa.proposal x hx) (ob.proposal y hy))
 have g3:=eqsI_ok a.cash b.cash oa.cash ob.cash
 have g4:=eqsI_ok a.purses b.purses oa.purses ob.purses
 have g5:=eqsFa_ok a.facts b.facts oa.facts ob.facts
 have g6:=eqsPa_ok a.payments b.payments oa.payments ob.payments
 rw [eqSta_dec]
 refine aO (cxOk 65 [0,1,2,3,4,5,6,7]) Tryz.func17 ?_
 conv=>whnf
 refine .one _ _ _ (fun _=>g1) ai0 ah0 ag0 ?_
 conv=>whnf
 refine .one _ _ _ (fun _=>g2) ai0 ah0 ag0 ?_
 conv=>whnf
 refine cO (fun _=>g3) ?_
 conv=>whnf
 refine cO (fun _=>g4) ?_
 conv=>whnf
 refine cO (fun _=>g5) ?_
 conv=>whnf
 refine cO (fun _=>g6) ?_
 conv=>whnf
 rfl
theorem money_ok (s:Sta) (o:OkS s):APureV Tryz.prog 19 [encSt s] (.int .i64 (moneyS s)):=by
 have gr:=right_ok s o
 have g1:=sumF_ok [s.cash,s.purses] (by simp) (fun l hl=>by
  rcases List.mem_cons.1 hl with rfl | hl
  ·exact o.cash
  ·rw [List.mem_singleton.1 hl];exact o.purses)
 rw [sumLs_two] at g1
 unfold moneyS
 cases hr:rightS s with
 | false =>
  rw [hr] at gr
  rw [if_neg (by simp)]
  refine aO (cxOk 18 [0,1,2,3,7]) Tryz.func19 ?_
  conv=>whnf
  refine cO (fun _=>gr) ?_
  conv=>whnf
  refine nE ?_;conv=>whnf
  rfl
 | true =>
  rw [hr] at gr
  rw [if_pos rfl]
  cases e1:sumB s with
  | none=>simp [rightS,e1] at hr
  | some v =>
   rw [e1] at g1
   refine aO (cxOk 18 [0,1,2,3,7]) Tryz.func19 ?_
   conv=>whnf
   refine cO (fun _=>gr) ?_
   conv=>whnf
   refine nD ?_;conv=>whnf
   refine cO (fun _=>g1) ?_
   conv=>whnf
   rfl
abbrev bx:AB:=.cells 69 [.ptr 0 0]
theorem nuQ_le (q:RS):(nuQ q).2.rest.length≤q.rest.length:=(numQ_le 59 0 q (by omega)).2
theorem nuQ_ok (q:RS) (hs:q.rest.length≤100000000000):AIO Tryz.prog 27 [.ptr 0 0] [ro q] (fun bs rs=>bs=[ro (nuQ q).2]∧rs=[.val (.int .i64 (nuQ q).1)]):=rnum_ok q (by omega)
theorem inQ_ok (q:RS) (hs:q.rest.length≤100000000000):AIO Tryz.prog 29 [.ptr 0 0] [ro q] (fun bs rs=>bs=[ro (oneI q).2]∧rs=[.val (.int .i64 (oneI q).1)]):=rint_ok q (by omega)
theorem txQ_ok (q:RS) (hs:q.rest.length≤100000000000):AIO Tryz.prog 35 [.ptr 0 0] [ro q] (fun bs rs=>bs=[ro (textQ q).2]∧rs=[.val (.str (textQ q).1)]):=rtext_ok q (by omega)
theorem inQ_le (q:RS):(oneI q).2.rest.length≤q.rest.length:=oneI_le q
theorem txQ_le (q:RS):(textQ q).2.rest.length≤q.rest.length:=textQ_le q
abbrev celBr (b:Brc):List AV:=[.int .i64 b.stage,.int .i64 b.since]
theorem brQ_r (q:RS) (hs:q.rest.length≤100000000000):RIO Tryz.prog 124 [.ptr 1 0] [ro q,bx] 2 (fun vs bs es=>vs=[encBr (brQ q).1]∧bs=[ro (brQ q).2,bx]∧es=[.cells 61 (celBr (brQ q).1)]):=by
 have l1:=nuQ_le q
 have g1:=nuQ_ok q (by omega)
 have l2:=nuQ_le (nuQ q).2
 have g2:=nuQ_ok (nuQ q).2 (by omega)
 have hz:(brQ q).2.rest.length≤q.rest.length:=by unfold brQ;dsimp only;omega
 clear hz
 unfold brQ
 dsimp only
 generalize nuQ (nuQ q).2=x2 at *
 generalize nuQ q=x1 at *
 refine rO (cxPOk 2 9 [0,1]) Tryz.func124 ?_
 conv=>whnf
 refine .eff ad0 ?_;conv=>whnf
 refine .raw ([0]++[]) _ rfl (fun _=>⟨⟨_,[0]++[],_,_⟩,fun r'=>Iff.rfl,rfl⟩) (callio_one (g1) [0] [] rfl rfl ⟨rfl,trivial⟩ (by exact BorL.cons (BorIO.ptr _ _ _ rfl) BorL.nil) rfl (.inl rfl)) ?_
 rintro _ rfl
 refine ⟨tn_ge _ _,?_⟩
 conv=>whnf
 refine .raw ([0]++[]) _ rfl (fun _=>⟨⟨_,[0]++[],_,_⟩,fun r'=>Iff.rfl,rfl⟩) (callio_one (g2) [0] [] rfl rfl ⟨rfl,trivial⟩ (by exact BorL.cons (BorIO.ptr _ _ _ rfl) BorL.nil) rfl (.inl rfl)) ?_
 rintro _ rfl
 refine ⟨tn_ge _ _,?_⟩
 conv=>whnf
 refine ⟨by kernel_rfl,?_⟩
 conv=>whnf
 refine ⟨⟨[(1,.ptr 2 0)],[(0,.cells 155 [.str x2.2.rest,.bool x2.2.bad]),(1,.cells 69 [.ptr 0 0]),(2,.cells 61 [.int .i64 x1.1,.int .i64 x2.1])],3⟩,(wk_of [(0,.id 0),(1,.id 1),(2,.id 2)] rfl ⟨wc0,trivial⟩ ⟨wb0,wb0,wb0,trivial⟩),rfl,rfl,?_⟩
 conv=>whnf
 exact ⟨rfl,rfl,rfl,rfl⟩
theorem brQ_le (q:RS):(brQ q).2.rest.length≤q.rest.length:=by
 have l1:=nuQ_le q
 have l2:=nuQ_le (nuQ q).2
 unfold brQ
 dsimp only
 omega
abbrev celVo (b:Vot):List AV:=[.int .i64 b.seat,.int .i64 b.day,.bool b.yes]
theorem voQ_r (q:RS) (hs:q.rest.length≤100000000000):RIO Tryz.prog 128 [.ptr 1 0] [ro q,bx] 2 (fun vs bs es=>vs=[encVo (voQ q).1]∧bs=[ro (voQ q).2,bx]∧es=[.cells 66 (celVo (voQ q).1)]):=by
 have l1:=nuQ_le q
 have g1:=nuQ_ok q (by omega)
 have l2:=nuQ_le (nuQ q).2
 have g2:=nuQ_ok (nuQ q).2 (by omega)
 have l3:=nuQ_le (nuQ (nuQ q).2).2
 have g3:=nuQ_ok (nuQ (nuQ q).2).2 (by omega)
 have hz:(voQ q).2.rest.length≤q.rest.length:=by unfold voQ;dsimp only;omega
 clear hz
 unfold voQ
 dsimp only
 generalize nuQ (nuQ (nuQ q).2).2=x3 at *
 generalize nuQ (nuQ q).2=x2 at *
 generalize nuQ q=x1 at *
 refine rO (cxPOk 2 13 [0,1]) Tryz.func128 ?_
 conv=>whnf
 refine .eff ad0 ?_;conv=>whnf
 refine .raw ([0]++[]) _ rfl (fun _=>⟨⟨_,[0]++[],_,_⟩,fun r'=>Iff.rfl,rfl⟩) (callio_one (g1) [0] [] rfl rfl ⟨rfl,trivial⟩ (by exact BorL.cons (BorIO.ptr _ _ _ rfl) BorL.nil) rfl (.inl rfl)) ?_
 rintro _ rfl
 refine ⟨tn_ge _ _,?_⟩
 conv=>whnf
 refine .raw ([0]++[]) _ rfl (fun _=>⟨⟨_,[0]++[],_,_⟩,fun r'=>Iff.rfl,rfl⟩) (callio_one (g2) [0] [] rfl rfl ⟨rfl,trivial⟩ (by exact BorL.cons (BorIO.ptr _ _ _ rfl) BorL.nil) rfl (.inl rfl)) ?_
 rintro _ rfl
 refine ⟨tn_ge _ _,?_⟩
 conv=>whnf
 refine ⟨by kernel_rfl,?_⟩
 conv=>whnf
 refine .raw ([0]++[]) _ rfl (fun _=>⟨⟨_,[0]++[],_,_⟩,fun r'=>Iff.rfl,rfl⟩) (callio_one (g3) [0] [] rfl rfl ⟨rfl,trivial⟩ (by exact BorL.cons (BorIO.ptr _ _ _ rfl) BorL.nil) rfl (.inl rfl)) ?_
 rintro _ rfl
 refine ⟨tn_ge _ _,?_⟩
 conv=>whnf
 refine ⟨⟨[(1,.ptr 2 0)],[(0,.cells 155 [.str x3.2.rest,.bool x3.2.bad]),(1,.cells 69 [.ptr 0 0]),(2,.cells 66 [.int .i64 x1.1,.int .i64 x2.1,.bool (decide (x3.1=1))])],3⟩,(wk_of [(0,.id 0),(1,.id 1),(2,.id 2)] rfl ⟨wc0,trivial⟩ ⟨wb0,wb0,wb0,trivial⟩),rfl,rfl,?_⟩
 conv=>whnf
 exact ⟨rfl,rfl,rfl,rfl⟩
theorem voQ_le (q:RS):(voQ q).2.rest.length≤q.rest.length:=by
 have l1:=nuQ_le q
 have l2:=nuQ_le (nuQ q).2
 have l3:=nuQ_le (nuQ (nuQ q).2).2
 unfold voQ
 dsimp only
 omega
abbrev celFa (b:Fac):List AV:=[.int .i64 b.issuer,.str b.name,.int .i64 b.period,.int .i64 b.value,.int .i64 b.day]
theorem faQ_r (q:RS) (hs:q.rest.length≤100000000000):RIO Tryz.prog 34 [.ptr 1 0] [ro q,bx] 2 (fun vs bs es=>vs=[encFa (faQ q).1]∧bs=[ro (faQ q).2,bx]∧es=[.cells 41 (celFa (faQ q).1)]):=by
 have l1:=nuQ_le q
 have g1:=nuQ_ok q (by omega)
 have l2:=txQ_le (nuQ q).2
 have g2:=txQ_ok (nuQ q).2 (by omega)
 have l3:=nuQ_le (textQ (nuQ q).2).2
 have g3:=nuQ_ok (textQ (nuQ q).2).2 (by omega)
 have l4:=nuQ_le (nuQ (textQ (nuQ q).2).2).2
 have g4:=nuQ_ok (nuQ (textQ (nuQ q).2).2).2 (by omega)
 have l5:=nuQ_le (nuQ (nuQ (textQ (nuQ q).2).2).2).2
 have g5:=nuQ_ok (nuQ (nuQ (textQ (nuQ q).2).2).2).2 (by omega)
 have hz:(faQ q).2.rest.length≤q.rest.length:=by unfold faQ;dsimp only;omega
 clear hz
 unfold faQ
 dsimp only
 generalize nuQ (nuQ (nuQ (textQ (nuQ q).2).2).2).2=x5 at *
 generalize nuQ (nuQ (textQ (nuQ q).2).2).2=x4 at *
 generalize nuQ (textQ (nuQ q).2).2=x3 at *
 generalize textQ (nuQ q).2=x2 at *
 generalize nuQ q=x1 at *
 refine rO (cxPOk 2 18 [0,1]) Tryz.func34 ?_
 conv=>whnf
 refine .raw ([0]++[]) _ rfl (fun _=>⟨⟨_,[0]++[],_,_⟩,fun r'=>Iff.rfl,rfl⟩) (callio_one (g1) [0] [] rfl rfl ⟨rfl,trivial⟩ (by exact BorL.cons (BorIO.ptr _ _ _ rfl) BorL.nil) rfl (.inl rfl)) ?_
 rintro _ rfl
 refine ⟨tn_ge _ _,?_⟩
 conv=>whnf
 refine .raw ([0]++[]) _ rfl (fun _=>⟨⟨_,[0]++[],_,_⟩,fun r'=>Iff.rfl,rfl⟩) (callio_one (g2) [0] [] rfl rfl ⟨rfl,trivial⟩ (by exact BorL.cons (BorIO.ptr _ _ _ rfl) BorL.nil) rfl (.inl rfl)) ?_
 rintro _ rfl
 refine ⟨tn_ge _ _,?_⟩
 conv=>whnf
 refine .eff ad0 ?_;conv=>whnf
 refine .raw ([0]++[]) _ rfl (fun _=>⟨⟨_,[0]++[],_,_⟩,fun r'=>Iff.rfl,rfl⟩) (callio_one (g3) [0] [] rfl rfl ⟨rfl,trivial⟩ (by exact BorL.cons (BorIO.ptr _ _ _ rfl) BorL.nil) rfl (.inl rfl)) ?_
 rintro _ rfl
 refine ⟨tn_ge _ _,?_⟩
 conv=>whnf
 refine .raw ([0]++[]) _ rfl (fun _=>⟨⟨_,[0]++[],_,_⟩,fun r'=>Iff.rfl,rfl⟩) (callio_one (g4) [0] [] rfl rfl ⟨rfl,trivial⟩ (by exact BorL.cons (BorIO.ptr _ _ _ rfl) BorL.nil) rfl (.inl rfl)) ?_
 rintro _ rfl
 refine ⟨tn_ge _ _,?_⟩
 conv=>whnf
 refine .raw ([0]++[]) _ rfl (fun _=>⟨⟨_,[0]++[],_,_⟩,fun r'=>Iff.rfl,rfl⟩) (callio_one (g5) [0] [] rfl rfl ⟨rfl,trivial⟩ (by exact BorL.cons (BorIO.ptr _ _ _ rfl) BorL.nil) rfl (.inl rfl)) ?_
 rintro _ rfl
 refine ⟨tn_ge _ _,?_⟩
 conv=>whnf
 refine ⟨by kernel_rfl,?_⟩
 conv=>whnf
 refine ⟨⟨[(1,.ptr 2 0)],[(0,.cells 155 [.str x5.2.rest,.bool x5.2.bad]),(1,.cells 69 [.ptr 0 0]),(2,.cells 41 [.int .i64 x1.1,.str x2.1,.int .i64 x3.1,.int .i64 x4.1,.int .i64 x5.1])],3⟩,(wk_of [(0,.id 0),(1,.id 1),(2,.id 2)] rfl ⟨wc0,trivial⟩ ⟨wb0,wb0,wb0,trivial⟩),rfl,rfl,?_⟩
 conv=>whnf
 exact ⟨rfl,rfl,rfl,rfl⟩
theorem faQ_le (q:RS):(faQ q).2.rest.length≤q.rest.length:=by
 have l1:=nuQ_le q
 have l2:=txQ_le (nuQ q).2
 have l3:=nuQ_le (textQ (nuQ q).2).2
 have l4:=nuQ_le (nuQ (textQ (nuQ q).2).2).2
 have l5:=nuQ_le (nuQ (nuQ (textQ (nuQ q).2).2).2).2
 unfold faQ
 dsimp only
 omega
abbrev celPa (b:Pay):List AV:=[.int .i64 b.issue,.int .i64 b.seat,.int .i64 b.day,.int .i64 b.due,.int .i64 b.paid,.int .i64 b.period]
theorem paQ_r (q:RS) (hs:q.rest.length≤100000000000):RIO Tryz.prog 37 [.ptr 1 0] [ro q,bx] 2 (fun vs bs es=>vs=[encPa (paQ q).1]∧bs=[ro (paQ q).2,bx]∧es=[.cells 43 (celPa (paQ q).1)]):=by
 have l1:=nuQ_le q
 have g1:=nuQ_ok q (by omega)
 have l2:=nuQ_le (nuQ q).2
 have g2:=nuQ_ok (nuQ q).2 (by omega)
 have l3:=nuQ_le (nuQ (nuQ q).2).2
 have g3:=nuQ_ok (nuQ (nuQ q).2).2 (by omega)
 have l4:=nuQ_le (nuQ (nuQ (nuQ q).2).2).2
 have g4:=nuQ_ok (nuQ (nuQ (nuQ q).2).2).2 (by omega)
 have l5:=nuQ_le (nuQ (nuQ (nuQ (nuQ q).2).2).2).2
 have g5:=nuQ_ok (nuQ (nuQ (nuQ (nuQ q).2).2).2).2 (by omega)
 have l6:=inQ_le (nuQ (nuQ (nuQ (nuQ (nuQ q).2).2).2).2).2
 have g6:=inQ_ok (nuQ (nuQ (nuQ (nuQ (nuQ q).2).2).2).2).2 (by omega)
 have hz:(paQ q).2.rest.length≤q.rest.length:=by unfold paQ;dsimp only;omega
 clear hz
 unfold paQ
 dsimp only
 generalize oneI (nuQ (nuQ (nuQ (nuQ (nuQ q).2).2).2).2).2=x6 at *
 generalize nuQ (nuQ (nuQ (nuQ (nuQ q).2).2).2).2=x5 at *
 generalize nuQ (nuQ (nuQ (nuQ q).2).2).2=x4 at *
 generalize nuQ (nuQ (nuQ q).2).2=x3 at *
 generalize nuQ (nuQ q).2=x2 at *
 generalize nuQ q=x1 at *
 refine rO (cxPOk 2 21 [0,1]) Tryz.func37 ?_
 conv=>whnf
 refine .eff ad0 ?_;conv=>whnf
 refine .raw ([0]++[]) _ rfl (fun _=>⟨⟨_,[0]++[],_,_⟩,fun r'=>Iff.rfl,rfl⟩) (callio_one (g1) [0] [] rfl rfl ⟨rfl,trivial⟩ (by exact BorL.cons (BorIO.ptr _ _ _ rfl) BorL.nil) rfl (.inl rfl)) ?_
 rintro _ rfl
 refine ⟨tn_ge _ _,?_⟩
 conv=>whnf
 refine .raw ([0]++[]) _ rfl (fun _=>⟨⟨_,[0]++[],_,_⟩,fun r'=>Iff.rfl,rfl⟩) (callio_one (g2) [0] [] rfl rfl ⟨rfl,trivial⟩ (by exact BorL.cons (BorIO.ptr _ _ _ rfl) BorL.nil) rfl (.inl rfl)) ?_
 rintro _ rfl
 refine ⟨tn_ge _ _,?_⟩
 conv=>whnf
 refine .raw ([0]++[]) _ rfl (fun _=>⟨⟨_,[0]++[],_,_⟩,fun r'=>Iff.rfl,rfl⟩) (callio_one (g3) [0] [] rfl rfl ⟨rfl,trivial⟩ (by exact BorL.cons (BorIO.ptr _ _ _ rfl) BorL.nil) rfl (.inl rfl)) ?_
 rintro _ rfl
 refine ⟨tn_ge _ _,?_⟩
 conv=>whnf
 refine .raw ([0]++[]) _ rfl (fun _=>⟨⟨_,[0]++[],_,_⟩,fun r'=>Iff.rfl,rfl⟩) (callio_one (g4) [0] [] rfl rfl ⟨rfl,trivial⟩ (by exact BorL.cons (BorIO.ptr _ _ _ rfl) BorL.nil) rfl (.inl rfl)) ?_
 rintro _ rfl
 refine ⟨tn_ge _ _,?_⟩
 conv=>whnf
 refine .raw ([0]++[]) _ rfl (fun _=>⟨⟨_,[0]++[],_,_⟩,fun r'=>Iff.rfl,rfl⟩) (callio_one (g5) [0] [] rfl rfl ⟨rfl,trivial⟩ (by exact BorL.cons (BorIO.ptr _ _ _ rfl) BorL.nil) rfl (.inl rfl)) ?_
 rintro _ rfl
 refine ⟨tn_ge _ _,?_⟩
 conv=>whnf
 refine ⟨by kernel_rfl,?_⟩
 conv=>whnf
 refine .raw ([0]++[]) _ rfl (fun _=>⟨⟨_,[0]++[],_,_⟩,fun r'=>Iff.rfl,rfl⟩) (callio_one (g6) [0] [] rfl rfl ⟨rfl,trivial⟩ (by exact BorL.cons (BorIO.ptr _ _ _ rfl) BorL.nil) rfl (.inl rfl)) ?_
 rintro _ rfl
 refine ⟨tn_ge _ _,?_⟩
 conv=>whnf
 refine ⟨⟨[(1,.ptr 2 0)],[(0,.cells 155 [.str x6.2.rest,.bool x6.2.bad]),(1,.cells 69 [.ptr 0 0]),(2,.cells 43 [.int .i64 x1.1,.int .i64 x2.1,.int .i64 x3.1,.int .i64 x4.1,.int .i64 x5.1,.int .i64 x6.1])],3⟩,(wk_of [(0,.id 0),(1,.id 1),(2,.id 2)] rfl ⟨wc0,trivial⟩ ⟨wb0,wb0,wb0,trivial⟩),rfl,rfl,?_⟩
 conv=>whnf
 exact ⟨rfl,rfl,rfl,rfl⟩
theorem paQ_le (q:RS):(paQ q).2.rest.length≤q.rest.length:=by
 have l1:=nuQ_le q
 have l2:=nuQ_le (nuQ q).2
 have l3:=nuQ_le (nuQ (nuQ q).2).2
 have l4:=nuQ_le (nuQ (nuQ (nuQ q).2).2).2
 have l5:=nuQ_le (nuQ (nuQ (nuQ (nuQ q).2).2).2).2
 have l6:=inQ_le (nuQ (nuQ (nuQ (nuQ (nuQ q).2).2).2).2).2
 unfold paQ
 dsimp only
 omega
theorem itK_le {T:Type} {one:RS→T×RS} (h:∀ q,(one q).2.rest.length≤q.rest.length) (q:RS):∀ k,(itK one q k).1.rest.length≤q.rest.length
 | 0=>Nat.le_refl _
 | k+1=>by
  have ih:=itK_le h q k
  have h1:=h (itK one q k).1
  unfold itK
  dsimp only
  omega
theorem itK_n {T:Type} (one:RS→T×RS) (q:RS):∀ k,(itK one q k).2.length=k
 | 0=>rfl
 | k+1=>by
  unfold itK
  rw [List.length_append,itK_n one q k]
  rfl
theorem manyQ_le {T:Type} {one:RS→T×RS} (h:∀ q,(one q).2.rest.length≤q.rest.length) (q:RS):(manyQ one q).2.rest.length≤q.rest.length:=by
 have h1:=nuQ_le q
 unfold manyQ
 split
 ·exact h1
 ·have:=itK_le h (nuQ q).2 (nuQ q).1.toNat
  dsimp only
  omega
theorem readBr_r (q:RS) (hs:q.rest.length≤100000000000):RIO Tryz.prog 123 [.ptr 0 0,.fn (.func 124) [] [.ptr 1 0]] [ro q,bx] 2 (fun vs bs es=>vs=[.sl 2 encBr br0 (manyQ brQ q).1]∧bs=[ro (manyQ brQ q).2,bx]∧es=[]):=by
 have l0:=nuQ_le q
 have g0:=nuQ_ok q hs
 have n0:0≤(nuQ q).1:=(numQ_le 59 0 q (by omega)).1
 have hi:(nuQ q).1≤9223372036854775807:=numQ_hi 59 0 q
 unfold manyQ
 have hz:=fun k=>itK_le brQ_le (nuQ q).2 k
 have hzn:=fun k=>itK_n brQ (nuQ q).2 k
 have hz0:itK brQ (nuQ q).2 0=((nuQ q).2,[]):=rfl
 have hzs:∀ k,itK brQ (nuQ q).2 (k+1)=((brQ (itK brQ (nuQ q).2 k).1).2,(itK brQ (nuQ q).2 k).2++[(brQ (itK brQ (nuQ q).2 k).1).1]):=fun _=>rfl
 generalize nuQ q=x at *
 obtain ⟨n,q1⟩:=x
 have gl:=rleft_ok q1
 dsimp only at l0 hz hz0 hzs hzn n0 hi ⊢
 generalize itK brQ q1=Z at *
 have hn:n.toNat=n:=Int.toNat_of_nonneg n0
 refine rO (cxPOk 2 23 [0,1,4,5,6,12,13,14,15]) Tryz.func123 ?_
 conv=>whnf
 refine .raw ([0]++[]) _ rfl (fun _=>⟨⟨_,[0]++[],_,_⟩,fun r'=>Iff.rfl,rfl⟩) (callio_one (g0) [0] [] rfl rfl ⟨rfl,trivial⟩ (by exact BorL.cons (BorIO.ptr _ _ _ rfl) BorL.nil) rfl (.inl rfl)) ?_
 rintro _ rfl
 refine ⟨tn_ge _ _,?_⟩
 conv=>whnf
 refine .raw ([0]++[]) _ rfl (fun _=>⟨⟨_,[0]++[],_,_⟩,fun r'=>Iff.rfl,rfl⟩) (callio_one (gl) [0] [] rfl rfl ⟨rfl,trivial⟩ (by exact BorL.cons (BorIO.ptr _ _ _ rfl) BorL.nil) rfl (.inl rfl)) ?_
 rintro _ rfl
 refine ⟨tn_ge _ _,?_⟩
 conv=>whnf
 refine ⟨fun hc=>?_,fun hc=>?_⟩
 ·have hc:(q1.rest.length:Int)<n:=of_decide_eq_true hc
  rw [if_pos hc]
  conv=>whnf
  refine ⟨⟨[(4,.sl 2 encBr br0 [])],[(0,.cells 155 [.str q1.rest,.bool q1.bad]),(1,.cells 69 [.ptr 0 0])],2⟩,(wk_of [(0,.id 0),(1,.id 1)] rfl ⟨.base (.leT _ _ (LeT.nils_sl 2 encBr br0) rfl),trivial⟩ ⟨wb0,wb0,trivial⟩),rfl,rfl,?_⟩
  conv=>whnf
  exact ⟨rfl,rfl,rfl,rfl⟩
 have hc:¬ (q1.rest.length:Int)<n:=of_decide_eq_false hc
 rw [if_neg hc]
 conv=>whnf
 refine loop_up (cxPOk _ _ _) n.toNat (fun _=>True) (fun k=>⟨[(0,.ptr 0 0),(1,.fn (.func 124) [] [.ptr 1 0]),(4,.nils),(6,.own 2),(13,.int .i64 n),(14,.int .i64 (k:Nat))],[(0,.cells 155 [.str (Z k).1.rest,.bool (Z k).1.bad]),(1,.cells 69 [.ptr 0 0]),(2,.row 61 2 encBr br0 (Z k).2)],3⟩) trivial (by
  rw [hz0]
  exact (wk_of [(0,.id 0),(1,.id 1),(2,.nil)] rfl ⟨wc0,.fn _ _ _ _ _ ac0 ac0,wa0,af0,wa0,wa0,trivial⟩ ⟨wb0,wb0,⟨_,rfl,ae0⟩,trivial⟩)) ?_
 intro k hk _
 have hzk:=hz k
 have hnk:=hzn k
 have hsk:=hzs k
 generalize hzz:Z k=z at *
 obtain ⟨⟨rr,rb⟩,acc⟩:=z
 have hnk:acc.length=k:=hnk
 dsimp only at hzk hsk
 conv=>whnf
 refine ⟨fun hd=>?_,fun hd=>?_⟩
 ·have hd:(k:Int)<n:=of_decide_eq_true hd
  have hone:=brQ_r ⟨rr,rb⟩ (by dsimp only;omega)
  dsimp only [ro] at hone
  generalize brQ ⟨rr,rb⟩=y at *
  conv=>whnf
  refine cR (hone) [0,1] ?_
  conv=>whnf
  refine And.intro rfl ?_;conv=>whnf
  refine And.intro ⟨rfl,rfl⟩ (And.intro (show (acc.length+1)*16≤140737488355328 by omega) ?_)
  conv=>whnf
  refine ⟨y.1,rfl,?_⟩
  conv=>whnf
  refine iO ?_;conv=>whnf
  have e1:acc++[y.1]=(Z (k+1)).2:=by rw [hsk]
  have e2:y.2.rest=(Z (k+1)).1.rest:=by rw [hsk]
  have e3:y.2.bad=(Z (k+1)).1.bad:=by rw [hsk]
  refine up (show k<n.toNat by omega) trivial ((wk_of [(0,.id 0),(1,.id 1),(2,.id 5)] rfl ⟨wc0,.fn _ _ _ _ _ ac0 ac0,wa0,af0,wa0,wa0,trivial⟩ ⟨⟨_,rfl,.cells _ _ _ _ rfl (by repeat (first | exact .nil | refine .cons (by first | exact .base (.tree _ _ rfl rfl) | exact .base (.own _ _ rfl) | exact .base (.ptr _ _ _ rfl) | exact .base (.map _ _ rfl) | exact .base (.nilown _ rfl) | exact .fn _ _ _ _ _ .nil (by repeat (first | exact .nil | refine .cons (by exact .ptr _ _ _ rfl) ?_)) | exact .base (.tree _ _ (by first | rw [e2] | rw [e3]) rfl) | exact .base (.leT _ _ (by first | rw [e2] | rw [e3]) rfl)) ?_)) rfl⟩,wb0,⟨_,rfl,(by first | exact .row _ _ _ _ _ _ _ rfl (e1) | exact .lstrow _ _ _ _ _ _ _ rfl (e1) | exact .nilrow _ _ _ _ _ (e1) | exact .truncrow _ _ _ _ _ _ _ _ rfl (by omega) (e1))⟩,trivial⟩))
 ·have hd:¬ (k:Int)<n:=of_decide_eq_false hd
  have hkn:n.toNat=k:=by omega
  rw [hkn,hzz]
  conv=>whnf
  refine ⟨⟨[(4,.sl 2 encBr br0 acc)],[(0,.cells 155 [.str rr,.bool rb]),(1,.cells 69 [.ptr 0 0])],2⟩,(wk_frz [2]).trans (wk_of [(0,.id 0),(1,.id 1)] rfl ⟨wa0,trivial⟩ ⟨wb0,wb0,trivial⟩),rfl,rfl,?_⟩
  conv=>whnf
  exact ⟨rfl,rfl,rfl,rfl⟩
theorem readVo_r (q:RS) (hs:q.rest.length≤100000000000):RIO Tryz.prog 127 [.ptr 0 0,.fn (.func 128) [] [.ptr 1 0]] [ro q,bx] 2 (fun vs bs es=>vs=[.sl 3 encVo vo0 (manyQ voQ q).1]∧bs=[ro (manyQ voQ q).2,bx]∧es=[]):=by
 have l0:=nuQ_le q
 have g0:=nuQ_ok q hs
 have n0:0≤(nuQ q).1:=(numQ_le 59 0 q (by omega)).1
 have hi:(nuQ q).1≤9223372036854775807:=numQ_hi 59 0 q
 unfold manyQ
 have hz:=fun k=>itK_le voQ_le (nuQ q).2 k
 have hzn:=fun k=>itK_n voQ (nuQ q).2 k
 have hz0:itK voQ (nuQ q).2 0=((nuQ q).2,[]):=rfl
 have hzs:∀ k,itK voQ (nuQ q).2 (k+1)=((voQ (itK voQ (nuQ q).2 k).1).2,(itK voQ (nuQ q).2 k).2++[(voQ (itK voQ (nuQ q).2 k).1).1]):=fun _=>rfl
 generalize nuQ q=x at *
 obtain ⟨n,q1⟩:=x
 have gl:=rleft_ok q1
 dsimp only at l0 hz hz0 hzs hzn n0 hi ⊢
 generalize itK voQ q1=Z at *
 have hn:n.toNat=n:=Int.toNat_of_nonneg n0
 refine rO (cxPOk 2 23 [0,1,4,5,6,12,13,14,15]) Tryz.func127 ?_
 conv=>whnf
 refine .raw ([0]++[]) _ rfl (fun _=>⟨⟨_,[0]++[],_,_⟩,fun r'=>Iff.rfl,rfl⟩) (callio_one (g0) [0] [] rfl rfl ⟨rfl,trivial⟩ (by exact BorL.cons (BorIO.ptr _ _ _ rfl) BorL.nil) rfl (.inl rfl)) ?_
 rintro _ rfl
 refine ⟨tn_ge _ _,?_⟩
 conv=>whnf
 refine .raw ([0]++[]) _ rfl (fun _=>⟨⟨_,[0]++[],_,_⟩,fun r'=>Iff.rfl,rfl⟩) (callio_one (gl) [0] [] rfl rfl ⟨rfl,trivial⟩ (by exact BorL.cons (BorIO.ptr _ _ _ rfl) BorL.nil) rfl (.inl rfl)) ?_
 rintro _ rfl
 refine ⟨tn_ge _ _,?_⟩
 conv=>whnf
 refine ⟨fun hc=>?_,fun hc=>?_⟩
 ·have hc:(q1.rest.length:Int)<n:=of_decide_eq_true hc
  rw [if_pos hc]
  conv=>whnf
  refine ⟨⟨[(4,.sl 3 encVo vo0 [])],[(0,.cells 155 [.str q1.rest,.bool q1.bad]),(1,.cells 69 [.ptr 0 0])],2⟩,(wk_of [(0,.id 0),(1,.id 1)] rfl ⟨.base (.leT _ _ (LeT.nils_sl 3 encVo vo0) rfl),trivial⟩ ⟨wb0,wb0,trivial⟩),rfl,rfl,?_⟩
  conv=>whnf
  exact ⟨rfl,rfl,rfl,rfl⟩
 have hc:¬ (q1.rest.length:Int)<n:=of_decide_eq_false hc
 rw [if_neg hc]
 conv=>whnf
 refine loop_up (cxPOk _ _ _) n.toNat (fun _=>True) (fun k=>⟨[(0,.ptr 0 0),(1,.fn (.func 128) [] [.ptr 1 0]),(4,.nils),(6,.own 2),(13,.int .i64 n),(14,.int .i64 (k:Nat))],[(0,.cells 155 [.str (Z k).1.rest,.bool (Z k).1.bad]),(1,.cells 69 [.ptr 0 0]),(2,.row 66 3 encVo vo0 (Z k).2)],3⟩) trivial (by
  rw [hz0]
  exact (wk_of [(0,.id 0),(1,.id 1),(2,.nil)] rfl ⟨wc0,.fn _ _ _ _ _ ac0 ac0,wa0,af0,wa0,wa0,trivial⟩ ⟨wb0,wb0,⟨_,rfl,ae0⟩,trivial⟩)) ?_
 intro k hk _
 have hzk:=hz k
 have hnk:=hzn k
 have hsk:=hzs k
 generalize hzz:Z k=z at *
 obtain ⟨⟨rr,rb⟩,acc⟩:=z
 have hnk:acc.length=k:=hnk
 dsimp only at hzk hsk
 conv=>whnf
 refine ⟨fun hd=>?_,fun hd=>?_⟩
 ·have hd:(k:Int)<n:=of_decide_eq_true hd
  have hone:=voQ_r ⟨rr,rb⟩ (by dsimp only;omega)
  dsimp only [ro] at hone
  generalize voQ ⟨rr,rb⟩=y at *
  conv=>whnf
  refine cR (hone) [0,1] ?_
  conv=>whnf
  refine And.intro rfl ?_;conv=>whnf
  refine And.intro ⟨rfl,rfl⟩ (And.intro (show (acc.length+1)*24≤140737488355328 by omega) ?_)
  conv=>whnf
  refine ⟨y.1,rfl,?_⟩
  conv=>whnf
  refine iO ?_;conv=>whnf
  have e1:acc++[y.1]=(Z (k+1)).2:=by rw [hsk]
  have e2:y.2.rest=(Z (k+1)).1.rest:=by rw [hsk]
  have e3:y.2.bad=(Z (k+1)).1.bad:=by rw [hsk]
  refine up (show k<n.toNat by omega) trivial ((wk_of [(0,.id 0),(1,.id 1),(2,.id 5)] rfl ⟨wc0,.fn _ _ _ _ _ ac0 ac0,wa0,af0,wa0,wa0,trivial⟩ ⟨⟨_,rfl,.cells _ _ _ _ rfl (by repeat (first | exact .nil | refine .cons (by first | exact .base (.tree _ _ rfl rfl) | exact .base (.own _ _ rfl) | exact .base (.ptr _ _ _ rfl) | exact .base (.map _ _ rfl) | exact .base (.nilown _ rfl) | exact .fn _ _ _ _ _ .nil (by repeat (first | exact .nil | refine .cons (by exact .ptr _ _ _ rfl) ?_)) | exact .base (.tree _ _ (by first | rw [e2] | rw [e3]) rfl) | exact .base (.leT _ _ (by first | rw [e2] | rw [e3]) rfl)) ?_)) rfl⟩,wb0,⟨_,rfl,(by first | exact .row _ _ _ _ _ _ _ rfl (e1) | exact .lstrow _ _ _ _ _ _ _ rfl (e1) | exact .nilrow _ _ _ _ _ (e1) | exact .truncrow _ _ _ _ _ _ _ _ rfl (by omega) (e1))⟩,trivial⟩))
 ·have hd:¬ (k:Int)<n:=of_decide_eq_false hd
  have hkn:n.toNat=k:=by omega
  rw [hkn,hzz]
  conv=>whnf
  refine ⟨⟨[(4,.sl 3 encVo vo0 acc)],[(0,.cells 155 [.str rr,.bool rb]),(1,.cells 69 [.ptr 0 0])],2⟩,(wk_frz [2]).trans (wk_of [(0,.id 0),(1,.id 1)] rfl ⟨wa0,trivial⟩ ⟨wb0,wb0,trivial⟩),rfl,rfl,?_⟩
  conv=>whnf
  exact ⟨rfl,rfl,rfl,rfl⟩
theorem readFa_r (q:RS) (hs:q.rest.length≤100000000000):RIO Tryz.prog 33 [.ptr 0 0,.fn (.func 34) [] [.ptr 1 0]] [ro q,bx] 2 (fun vs bs es=>vs=[.sl 5 encFa fa0 (manyQ faQ q).1]∧bs=[ro (manyQ faQ q).2,bx]∧es=[]):=by
 have l0:=nuQ_le q
 have g0:=nuQ_ok q hs
 have n0:0≤(nuQ q).1:=(numQ_le 59 0 q (by omega)).1
 have hi:(nuQ q).1≤9223372036854775807:=numQ_hi 59 0 q
 unfold manyQ
 have hz:=fun k=>itK_le faQ_le (nuQ q).2 k
 have hzn:=fun k=>itK_n faQ (nuQ q).2 k
 have hz0:itK faQ (nuQ q).2 0=((nuQ q).2,[]):=rfl
 have hzs:∀ k,itK faQ (nuQ q).2 (k+1)=((faQ (itK faQ (nuQ q).2 k).1).2,(itK faQ (nuQ q).2 k).2++[(faQ (itK faQ (nuQ q).2 k).1).1]):=fun _=>rfl
 generalize nuQ q=x at *
 obtain ⟨n,q1⟩:=x
 have gl:=rleft_ok q1
 dsimp only at l0 hz hz0 hzs hzn n0 hi ⊢
 generalize itK faQ q1=Z at *
 have hn:n.toNat=n:=Int.toNat_of_nonneg n0
 refine rO (cxPOk 2 23 [0,1,4,5,6,12,13,14,15]) Tryz.func33 ?_
 conv=>whnf
 refine .raw ([0]++[]) _ rfl (fun _=>⟨⟨_,[0]++[],_,_⟩,fun r'=>Iff.rfl,rfl⟩) (callio_one (g0) [0] [] rfl rfl ⟨rfl,trivial⟩ (by exact BorL.cons (BorIO.ptr _ _ _ rfl) BorL.nil) rfl (.inl rfl)) ?_
 rintro _ rfl
 refine ⟨tn_ge _ _,?_⟩
 conv=>whnf
 refine .raw ([0]++[]) _ rfl (fun _=>⟨⟨_,[0]++[],_,_⟩,fun r'=>Iff.rfl,rfl⟩) (callio_one (gl) [0] [] rfl rfl ⟨rfl,trivial⟩ (by exact BorL.cons (BorIO.ptr _ _ _ rfl) BorL.nil) rfl (.inl rfl)) ?_
 rintro _ rfl
 refine ⟨tn_ge _ _,?_⟩
 conv=>whnf
 refine ⟨fun hc=>?_,fun hc=>?_⟩
 ·have hc:(q1.rest.length:Int)<n:=of_decide_eq_true hc
  rw [if_pos hc]
  conv=>whnf
  refine ⟨⟨[(4,.sl 5 encFa fa0 [])],[(0,.cells 155 [.str q1.rest,.bool q1.bad]),(1,.cells 69 [.ptr 0 0])],2⟩,(wk_of [(0,.id 0),(1,.id 1)] rfl ⟨.base (.leT _ _ (LeT.nils_sl 5 encFa fa0) rfl),trivial⟩ ⟨wb0,wb0,trivial⟩),rfl,rfl,?_⟩
  conv=>whnf
  exact ⟨rfl,rfl,rfl,rfl⟩
 have hc:¬ (q1.rest.length:Int)<n:=of_decide_eq_false hc
 rw [if_neg hc]
 conv=>whnf
 refine loop_up (cxPOk _ _ _) n.toNat (fun _=>True) (fun k=>⟨[(0,.ptr 0 0),(1,.fn (.func 34) [] [.ptr 1 0]),(4,.nils),(6,.own 2),(13,.int .i64 n),(14,.int .i64 (k:Nat))],[(0,.cells 155 [.str (Z k).1.rest,.bool (Z k).1.bad]),(1,.cells 69 [.ptr 0 0]),(2,.row 41 5 encFa fa0 (Z k).2)],3⟩) trivial (by
  rw [hz0]
  exact (wk_of [(0,.id 0),(1,.id 1),(2,.nil)] rfl ⟨wc0,.fn _ _ _ _ _ ac0 ac0,wa0,af0,wa0,wa0,trivial⟩ ⟨wb0,wb0,⟨_,rfl,ae0⟩,trivial⟩)) ?_
 intro k hk _
 have hzk:=hz k
 have hnk:=hzn k
 have hsk:=hzs k
 generalize hzz:Z k=z at *
 obtain ⟨⟨rr,rb⟩,acc⟩:=z
 have hnk:acc.length=k:=hnk
 dsimp only at hzk hsk
 conv=>whnf
 refine ⟨fun hd=>?_,fun hd=>?_⟩
 ·have hd:(k:Int)<n:=of_decide_eq_true hd
  have hone:=faQ_r ⟨rr,rb⟩ (by dsimp only;omega)
  dsimp only [ro] at hone
  generalize faQ ⟨rr,rb⟩=y at *
  conv=>whnf
  refine cR (hone) [0,1] ?_
  conv=>whnf
  refine And.intro rfl ?_;conv=>whnf
  refine And.intro ⟨rfl,rfl⟩ (And.intro (show (acc.length+1)*48≤140737488355328 by omega) ?_)
  conv=>whnf
  refine ⟨y.1,rfl,?_⟩
  conv=>whnf
  refine iO ?_;conv=>whnf
  have e1:acc++[y.1]=(Z (k+1)).2:=by rw [hsk]
  have e2:y.2.rest=(Z (k+1)).1.rest:=by rw [hsk]
  have e3:y.2.bad=(Z (k+1)).1.bad:=by rw [hsk]
  refine up (show k<n.toNat by omega) trivial ((wk_of [(0,.id 0),(1,.id 1),(2,.id 5)] rfl ⟨wc0,.fn _ _ _ _ _ ac0 ac0,wa0,af0,wa0,wa0,trivial⟩ ⟨⟨_,rfl,.cells _ _ _ _ rfl (by repeat (first | exact .nil | refine .cons (by first | exact .base (.tree _ _ rfl rfl) | exact .base (.own _ _ rfl) | exact .base (.ptr _ _ _ rfl) | exact .base (.map _ _ rfl) | exact .base (.nilown _ rfl) | exact .fn _ _ _ _ _ .nil (by repeat (first | exact .nil | refine .cons (by exact .ptr _ _ _ rfl) ?_)) | exact .base (.tree _ _ (by first | rw [e2] | rw [e3]) rfl) | exact .base (.leT _ _ (by first | rw [e2] | rw [e3]) rfl)) ?_)) rfl⟩,wb0,⟨_,rfl,(by first | exact .row _ _ _ _ _ _ _ rfl (e1) | exact .lstrow _ _ _ _ _ _ _ rfl (e1) | exact .nilrow _ _ _ _ _ (e1) | exact .truncrow _ _ _ _ _ _ _ _ rfl (by omega) (e1))⟩,trivial⟩))
 ·have hd:¬ (k:Int)<n:=of_decide_eq_false hd
  have hkn:n.toNat=k:=by omega
  rw [hkn,hzz]
  conv=>whnf
  refine ⟨⟨[(4,.sl 5 encFa fa0 acc)],[(0,.cells 155 [.str rr,.bool rb]),(1,.cells 69 [.ptr 0 0])],2⟩,(wk_frz [2]).trans (wk_of [(0,.id 0),(1,.id 1)] rfl ⟨wa0,trivial⟩ ⟨wb0,wb0,trivial⟩),rfl,rfl,?_⟩
  conv=>whnf
  exact ⟨rfl,rfl,rfl,rfl⟩
theorem readPa_r (q:RS) (hs:q.rest.length≤100000000000):RIO Tryz.prog 36 [.ptr 0 0,.fn (.func 37) [] [.ptr 1 0]] [ro q,bx] 2 (fun vs bs es=>vs=[.sl 6 encPa pa0 (manyQ paQ q).1]∧bs=[ro (manyQ paQ q).2,bx]∧es=[]):=by
 have l0:=nuQ_le q
 have g0:=nuQ_ok q hs
 have n0:0≤(nuQ q).1:=(numQ_le 59 0 q (by omega)).1
 have hi:(nuQ q).1≤9223372036854775807:=numQ_hi 59 0 q
 unfold manyQ
 have hz:=fun k=>itK_le paQ_le (nuQ q).2 k
 have hzn:=fun k=>itK_n paQ (nuQ q).2 k
 have hz0:itK paQ (nuQ q).2 0=((nuQ q).2,[]):=rfl
 have hzs:∀ k,itK paQ (nuQ q).2 (k+1)=((paQ (itK paQ (nuQ q).2 k).1).2,(itK paQ (nuQ q).2 k).2++[(paQ (itK paQ (nuQ q).2 k).1).1]):=fun _=>rfl
 generalize nuQ q=x at *
 obtain ⟨n,q1⟩:=x
 have gl:=rleft_ok q1
 dsimp only at l0 hz hz0 hzs hzn n0 hi ⊢
 generalize itK paQ q1=Z at *
 have hn:n.toNat=n:=Int.toNat_of_nonneg n0
 refine rO (cxPOk 2 23 [0,1,4,5,6,12,13,14,15]) Tryz.func36 ?_
 conv=>whnf
 refine .raw ([0]++[]) _ rfl (fun _=>⟨⟨_,[0]++[],_,_⟩,fun r'=>Iff.rfl,rfl⟩) (callio_one (g0) [0] [] rfl rfl ⟨rfl,trivial⟩ (by exact BorL.cons (BorIO.ptr _ _ _ rfl) BorL.nil) rfl (.inl rfl)) ?_
 rintro _ rfl
 refine ⟨tn_ge _ _,?_⟩
 conv=>whnf
 refine .raw ([0]++[]) _ rfl (fun _=>⟨⟨_,[0]++[],_,_⟩,fun r'=>Iff.rfl,rfl⟩) (callio_one (gl) [0] [] rfl rfl ⟨rfl,trivial⟩ (by exact BorL.cons (BorIO.ptr _ _ _ rfl) BorL.nil) rfl (.inl rfl)) ?_
 rintro _ rfl
 refine ⟨tn_ge _ _,?_⟩
 conv=>whnf
 refine ⟨fun hc=>?_,fun hc=>?_⟩
 ·have hc:(q1.rest.length:Int)<n:=of_decide_eq_true hc
  rw [if_pos hc]
  conv=>whnf
  refine ⟨⟨[(4,.sl 6 encPa pa0 [])],[(0,.cells 155 [.str q1.rest,.bool q1.bad]),(1,.cells 69 [.ptr 0 0])],2⟩,(wk_of [(0,.id 0),(1,.id 1)] rfl ⟨.base (.leT _ _ (LeT.nils_sl 6 encPa pa0) rfl),trivial⟩ ⟨wb0,wb0,trivial⟩),rfl,rfl,?_⟩
  conv=>whnf
  exact ⟨rfl,rfl,rfl,rfl⟩
 have hc:¬ (q1.rest.length:Int)<n:=of_decide_eq_false hc
 rw [if_neg hc]
 conv=>whnf
 refine loop_up (cxPOk _ _ _) n.toNat (fun _=>True) (fun k=>⟨[(0,.ptr 0 0),(1,.fn (.func 37) [] [.ptr 1 0]),(4,.nils),(6,.own 2),(13,.int .i64 n),(14,.int .i64 (k:Nat))],[(0,.cells 155 [.str (Z k).1.rest,.bool (Z k).1.bad]),(1,.cells 69 [.ptr 0 0]),(2,.row 43 6 encPa pa0 (Z k).2)],3⟩) trivial (by
  rw [hz0]
  exact (wk_of [(0,.id 0),(1,.id 1),(2,.nil)] rfl ⟨wc0,.fn _ _ _ _ _ ac0 ac0,wa0,af0,wa0,wa0,trivial⟩ ⟨wb0,wb0,⟨_,rfl,ae0⟩,trivial⟩)) ?_
 intro k hk _
 have hzk:=hz k
 have hnk:=hzn k
 have hsk:=hzs k
 generalize hzz:Z k=z at *
 obtain ⟨⟨rr,rb⟩,acc⟩:=z
 have hnk:acc.length=k:=hnk
 dsimp only at hzk hsk
 conv=>whnf
 refine ⟨fun hd=>?_,fun hd=>?_⟩
 ·have hd:(k:Int)<n:=of_decide_eq_true hd
  have hone:=paQ_r ⟨rr,rb⟩ (by dsimp only;omega)
  dsimp only [ro] at hone
  generalize paQ ⟨rr,rb⟩=y at *
  conv=>whnf
  refine cR (hone) [0,1] ?_
  conv=>whnf
  refine And.intro rfl ?_;conv=>whnf
  refine And.intro ⟨rfl,rfl⟩ (And.intro (show (acc.length+1)*48≤140737488355328 by omega) ?_)
  conv=>whnf
  refine ⟨y.1,rfl,?_⟩
  conv=>whnf
  refine iO ?_;conv=>whnf
  have e1:acc++[y.1]=(Z (k+1)).2:=by rw [hsk]
  have e2:y.2.rest=(Z (k+1)).1.rest:=by rw [hsk]
  have e3:y.2.bad=(Z (k+1)).1.bad:=by rw [hsk]
  refine up (show k<n.toNat by omega) trivial ((wk_of [(0,.id 0),(1,.id 1),(2,.id 5)] rfl ⟨wc0,.fn _ _ _ _ _ ac0 ac0,wa0,af0,wa0,wa0,trivial⟩ ⟨⟨_,rfl,.cells _ _ _ _ rfl (by repeat (first | exact .nil | refine .cons (by first | exact .base (.tree _ _ rfl rfl) | exact .base (.own _ _ rfl) | exact .base (.ptr _ _ _ rfl) | exact .base (.map _ _ rfl) | exact .base (.nilown _ rfl) | exact .fn _ _ _ _ _ .nil (by repeat (first | exact .nil | refine .cons (by exact .ptr _ _ _ rfl) ?_)) | exact .base (.tree _ _ (by first | rw [e2] | rw [e3]) rfl) | exact .base (.leT _ _ (by first | rw [e2] | rw [e3]) rfl)) ?_)) rfl⟩,wb0,⟨_,rfl,(by first | exact .row _ _ _ _ _ _ _ rfl (e1) | exact .lstrow _ _ _ _ _ _ _ rfl (e1) | exact .nilrow _ _ _ _ _ (e1) | exact .truncrow _ _ _ _ _ _ _ _ rfl (by omega) (e1))⟩,trivial⟩))
 ·have hd:¬ (k:Int)<n:=of_decide_eq_false hd
  have hkn:n.toNat=k:=by omega
  rw [hkn,hzz]
  conv=>whnf
  refine ⟨⟨[(4,.sl 6 encPa pa0 acc)],[(0,.cells 155 [.str rr,.bool rb]),(1,.cells 69 [.ptr 0 0])],2⟩,(wk_frz [2]).trans (wk_of [(0,.id 0),(1,.id 1)] rfl ⟨wa0,trivial⟩ ⟨wb0,wb0,trivial⟩),rfl,rfl,?_⟩
  conv=>whnf
  exact ⟨rfl,rfl,rfl,rfl⟩
theorem readNu_r (q:RS) (hs:q.rest.length≤100000000000):RIO Tryz.prog 28 [.ptr 0 0,.fn (.func 27) [.ptr 0 0] []] [ro q] 1 (fun vs bs es=>vs=[.sl 1 encI 0 (manyQ nuQ q).1]∧bs=[ro (manyQ nuQ q).2]∧es=[]):=by
 have l0:=nuQ_le q
 have g0:=nuQ_ok q hs
 have n0:0≤(nuQ q).1:=(numQ_le 59 0 q (by omega)).1
 have hi:(nuQ q).1≤9223372036854775807:=numQ_hi 59 0 q
 unfold manyQ
 have hz:=fun k=>itK_le nuQ_le (nuQ q).2 k
 have hzn:=fun k=>itK_n nuQ (nuQ q).2 k
 have hz0:itK nuQ (nuQ q).2 0=((nuQ q).2,[]):=rfl
 have hzs:∀ k,itK nuQ (nuQ q).2 (k+1)=((nuQ (itK nuQ (nuQ q).2 k).1).2,(itK nuQ (nuQ q).2 k).2++[(nuQ (itK nuQ (nuQ q).2 k).1).1]):=fun _=>rfl
 generalize nuQ q=x at *
 obtain ⟨n,q1⟩:=x
 have gl:=rleft_ok q1
 dsimp only at l0 hz hz0 hzs hzn n0 hi ⊢
 generalize itK nuQ q1=Z at *
 have hn:n.toNat=n:=Int.toNat_of_nonneg n0
 refine rO (cxPOk 1 23 [0,1,4,5,6,12,13,14,15]) Tryz.func28 ?_
 conv=>whnf
 refine .raw ([0]++[]) _ rfl (fun _=>⟨⟨_,[0]++[],_,_⟩,fun r'=>Iff.rfl,rfl⟩) (callio_one (g0) [0] [] rfl rfl ⟨rfl,trivial⟩ (by exact BorL.cons (BorIO.ptr _ _ _ rfl) BorL.nil) rfl (.inl rfl)) ?_
 rintro _ rfl
 refine ⟨tn_ge _ _,?_⟩
 conv=>whnf
 refine .raw ([0]++[]) _ rfl (fun _=>⟨⟨_,[0]++[],_,_⟩,fun r'=>Iff.rfl,rfl⟩) (callio_one (gl) [0] [] rfl rfl ⟨rfl,trivial⟩ (by exact BorL.cons (BorIO.ptr _ _ _ rfl) BorL.nil) rfl (.inl rfl)) ?_
 rintro _ rfl
 refine ⟨tn_ge _ _,?_⟩
 conv=>whnf
 refine ⟨fun hc=>?_,fun hc=>?_⟩
 ·have hc:(q1.rest.length:Int)<n:=of_decide_eq_true hc
  rw [if_pos hc]
  conv=>whnf
  refine ⟨⟨[(4,.sl 1 encI 0 [])],[(0,.cells 155 [.str q1.rest,.bool q1.bad])],1⟩,(wk_of [(0,.id 0)] rfl ⟨.base (.leT _ _ (LeT.nils_sl 1 encI 0) rfl),trivial⟩ ⟨wb0,trivial⟩),rfl,rfl,?_⟩
  conv=>whnf
  exact ⟨rfl,rfl,rfl,rfl⟩
 have hc:¬ (q1.rest.length:Int)<n:=of_decide_eq_false hc
 rw [if_neg hc]
 conv=>whnf
 refine loop_up (cxPOk _ _ _) n.toNat (fun _=>True) (fun k=>⟨[(0,.ptr 0 0),(1,.fn (.func 27) [.ptr 0 0] []),(4,.nils),(6,.own 1),(13,.int .i64 n),(14,.int .i64 (k:Nat))],[(0,.cells 155 [.str (Z k).1.rest,.bool (Z k).1.bad]),(1,.row 3 1 encI 0 (Z k).2)],2⟩) trivial (by
  rw [hz0]
  exact (wk_of [(0,.id 0),(1,.nil)] rfl ⟨wc0,.fn _ _ _ _ _ ac0 ac0,wa0,af0,wa0,wa0,trivial⟩ ⟨wb0,⟨_,rfl,ae0⟩,trivial⟩)) ?_
 intro k hk _
 have hzk:=hz k
 have hnk:=hzn k
 have hsk:=hzs k
 generalize hzz:Z k=z at *
 obtain ⟨⟨rr,rb⟩,acc⟩:=z
 have hnk:acc.length=k:=hnk
 dsimp only at hzk hsk
 conv=>whnf
 refine ⟨fun hd=>?_,fun hd=>?_⟩
 ·have hd:(k:Int)<n:=of_decide_eq_true hd
  have hone:=nuQ_ok ⟨rr,rb⟩ (by dsimp only;omega)
  dsimp only [ro] at hone
  generalize nuQ ⟨rr,rb⟩=y at *
  conv=>whnf
  refine .raw ([0]++[]) _ rfl (fun _=>⟨⟨_,[0]++[],_,_⟩,fun r'=>Iff.rfl,rfl⟩) (callio_one (hone) [0] [] rfl rfl ⟨rfl,trivial⟩ (by exact BorL.cons (BorIO.ptr _ _ _ rfl) BorL.nil) rfl (.inl rfl)) ?_
  rintro _ rfl
  refine ⟨tn_ge _ _,?_⟩
  conv=>whnf
  refine And.intro rfl ?_;conv=>whnf
  refine And.intro ⟨rfl,rfl⟩ (And.intro (show (acc.length+1)*8≤140737488355328 by omega) ?_)
  conv=>whnf
  refine ⟨y.1,rfl,?_⟩
  conv=>whnf
  refine iO ?_;conv=>whnf
  have e1:acc++[y.1]=(Z (k+1)).2:=by rw [hsk]
  have e2:y.2.rest=(Z (k+1)).1.rest:=by rw [hsk]
  have e3:y.2.bad=(Z (k+1)).1.bad:=by rw [hsk]
  refine up (show k<n.toNat by omega) trivial ((wk_of [(0,.id 0),(1,.id 3)] rfl ⟨wc0,.fn _ _ _ _ _ ac0 ac0,wa0,af0,wa0,wa0,trivial⟩ ⟨⟨_,rfl,.cells _ _ _ _ rfl (by repeat (first | exact .nil | refine .cons (by first | exact .base (.tree _ _ rfl rfl) | exact .base (.own _ _ rfl) | exact .base (.ptr _ _ _ rfl) | exact .base (.map _ _ rfl) | exact .base (.nilown _ rfl) | exact .fn _ _ _ _ _ .nil (by repeat (first | exact .nil | refine .cons (by exact .ptr _ _ _ rfl) ?_)) | exact .base (.tree _ _ (by first | rw [e2] | rw [e3]) rfl) | exact .base (.leT _ _ (by first | rw [e2] | rw [e3]) rfl)) ?_)) rfl⟩,⟨_,rfl,(by first | exact .row _ _ _ _ _ _ _ rfl (e1) | exact .lstrow _ _ _ _ _ _ _ rfl (e1) | exact .nilrow _ _ _ _ _ (e1) | exact .truncrow _ _ _ _ _ _ _ _ rfl (by omega) (e1))⟩,trivial⟩))
 ·have hd:¬ (k:Int)<n:=of_decide_eq_false hd
  have hkn:n.toNat=k:=by omega
  rw [hkn,hzz]
  conv=>whnf
  refine ⟨⟨[(4,.sl 1 encI 0 acc)],[(0,.cells 155 [.str rr,.bool rb])],1⟩,(wk_frz [1]).trans (wk_of [(0,.id 0)] rfl ⟨wa0,trivial⟩ ⟨wb0,trivial⟩),rfl,rfl,?_⟩
  conv=>whnf
  exact ⟨rfl,rfl,rfl,rfl⟩
theorem lsQ_le (q:RS):(listQ oneI q).2.rest.length≤q.rest.length:=by
 have h1:=(numQ_le 91 0 q (Int.le_refl _)).2
 have h2:=stK_rest oneI_le (numQ 91 0 q).2 (numQ 91 0 q).1.toNat
 unfold listQ itemsQ
 dsimp only
 cases hc:closeR [93] (stK oneI (numQ 91 0 q).2 (numQ 91 0 q).1.toNat).1.rest with
 | none=>simp
 | some r =>
  have:=closeR_le hc
  dsimp only
  omega
theorem lsQ_r (q:RS) (hs:q.rest.length≤100000000000):RIO Tryz.prog 122 [.ptr 0 0] [ro q] 1 (fun vs bs es=>vs=[.sl 1 encI 0 (listQ oneI q).1]∧bs=[ro (listQ oneI q).2]∧es=[]):=by
 have h:=itemsI_ok q (by omega) (accI q (by omega))
 unfold listQ
 dsimp only
 generalize itemsQ oneI q=x at *
 obtain ⟨_ | l,q1⟩:=x
 ·dsimp only [oneR] at h
  refine rO (cxPOk 1 7 [0,2]) Tryz.func122 ?_
  conv=>whnf
  refine .raw _ _ rfl (fun h=>by cases h) (callio_sem (h) [0] _ rfl rfl ⟨rfl,trivial⟩ (by repeat (first | exact .nil | (apply BorL.cons;first | exact .map _ _ rfl | exact .ptr _ _ _ rfl | exact .own _ _ rfl | exact .fnp _ _ _ _ rfl | (apply BorIO.lend;first | exact lS rfl | exact lR rfl | exact lM rfl rfl | exact lL rfl | exact lX rfl | exact lN | exact lNl | exact lSm rfl | exact lIm rfl | exact lGm rfl | exact lP rfl | exact lQ rfl | exact lB rfl rfl rfl)))) rfl (by first | exact .inl rfl | exact .inr (fun b rs h=>by first | obtain ⟨rfl,rfl⟩:=h | obtain ⟨_,_,_,rfl,rfl⟩:=h;exact ⟨by repeat (first | exact flats_nil | refine flats_cons (by first | exact flat_val _ rfl | exact flat_row (fun _=>rfl) | exact flat_lst (fun _=>rfl)) ?_),by repeat (first | exact flats0 | refine flats1 (by first | exact flatB_row (fun _=>rfl) | exact flatB_lst (fun _=>rfl) | exact flatB_smap (fun _=>rfl) | exact flatB_imap (fun _=>rfl) | exact flatB_cells rfl) ?_)⟩))) ?_
  rintro w ⟨b',rs,⟨rfl,rfl⟩,rfl⟩
  refine ⟨tn_ge _ _,?_⟩
  conv=>whnf
  refine ⟨⟨[(2,.sl 1 encI 0 [])],[(0,.cells 155 [.str q1.rest,.bool q1.bad])],1⟩,(wk_of [(0,.id 0)] rfl ⟨.base (.leT _ _ (LeT.nils_sl 1 encI 0) rfl),trivial⟩ ⟨wb0,trivial⟩),rfl,rfl,?_⟩
  conv=>whnf
  exact ⟨rfl,rfl,rfl,rfl⟩
 ·dsimp only [oneR] at h
  refine rO (cxPOk 1 7 [0,2]) Tryz.func122 ?_
  conv=>whnf
  refine .raw _ _ rfl (fun h=>by cases h) (callio_sem (h) [0] _ rfl rfl ⟨rfl,trivial⟩ (by repeat (first | exact .nil | (apply BorL.cons;first | exact .map _ _ rfl | exact .ptr _ _ _ rfl | exact .own _ _ rfl | exact .fnp _ _ _ _ rfl | (apply BorIO.lend;first | exact lS rfl | exact lR rfl | exact lM rfl rfl | exact lL rfl | exact lX rfl | exact lN | exact lNl | exact lSm rfl | exact lIm rfl | exact lGm rfl | exact lP rfl | exact lQ rfl | exact lB rfl rfl rfl)))) rfl (by first | exact .inl rfl | exact .inr (fun b rs h=>by first | obtain ⟨rfl,rfl⟩:=h | obtain ⟨_,_,_,rfl,rfl⟩:=h;exact ⟨by repeat (first | exact flats_nil | refine flats_cons (by first | exact flat_val _ rfl | exact flat_row (fun _=>rfl) | exact flat_lst (fun _=>rfl)) ?_),by repeat (first | exact flats0 | refine flats1 (by first | exact flatB_row (fun _=>rfl) | exact flatB_lst (fun _=>rfl) | exact flatB_smap (fun _=>rfl) | exact flatB_imap (fun _=>rfl) | exact flatB_cells rfl) ?_)⟩))) ?_
  rintro w ⟨b',rs,⟨rfl,rfl⟩,rfl⟩
  refine ⟨tn_ge _ _,?_⟩
  conv=>whnf
  refine ⟨⟨[(2,.sl 1 encI 0 l)],[(0,.cells 155 [.str q1.rest,.bool q1.bad])],1⟩,(wk_frz [1]).trans (wk_of [(0,.id 0)] rfl ⟨wa0,trivial⟩ ⟨wb0,trivial⟩),rfl,rfl,?_⟩
  conv=>whnf
  exact ⟨rfl,rfl,rfl,rfl⟩
theorem mbQ_le (q:RS):(manyQ brQ q).2.rest.length≤q.rest.length:=manyQ_le brQ_le q
theorem mvQ_le (q:RS):(manyQ voQ q).2.rest.length≤q.rest.length:=manyQ_le voQ_le q
abbrev celLi (b:Lin):List AV:=[.str b.text,.sl 1 encI 0 b.units,.sl 1 encI 0 b.noted,.int .i64 b.notedAt,.sl 2 encBr br0 b.stages,.int .i64 b.fast,.int .i64 b.called,.int .i64 b.price,.bool b.ended,.int .i64 b.since]
theorem liQ_l (q:RS) (hs:q.rest.length≤100000000000):RIO Tryz.prog 32 [.ptr 0 0] [ro q] 1 (fun vs bs es=>vs=[encLi (liQ q).1]∧bs=[ro (liQ q).2]∧es=[.cells 47 (celLi (liQ q).1)]):=by
 have l1:=txQ_le q
 have g1:=txQ_ok q (by omega)
 have l2:=lsQ_le (textQ q).2
 have g2:=lsQ_r (textQ q).2 (by omega)
 have l3:=lsQ_le (listQ oneI (textQ q).2).2
 have g3:=lsQ_r (listQ oneI (textQ q).2).2 (by omega)
 have l4:=inQ_le (listQ oneI (listQ oneI (textQ q).2).2).2
 have g4:=inQ_ok (listQ oneI (listQ oneI (textQ q).2).2).2 (by omega)
 have l5:=mbQ_le (oneI (listQ oneI (listQ oneI (textQ q).2).2).2).2
 have g5:=readBr_r (oneI (listQ oneI (listQ oneI (textQ q).2).2).2).2 (by omega)
 have l6:=inQ_le (manyQ brQ (oneI (listQ oneI (listQ oneI (textQ q).2).2).2).2).2
 have g6:=inQ_ok (manyQ brQ (oneI (listQ oneI (listQ oneI (textQ q).2).2).2).2).2 (by omega)
 have l7:=inQ_le (oneI (manyQ brQ (oneI (listQ oneI (listQ oneI (textQ q).2).2).2).2).2).2
 have g7:=inQ_ok (oneI (manyQ brQ (oneI (listQ oneI (listQ oneI (textQ q).2).2).2).2).2).2 (by omega)
 have l8:=nuQ_le (oneI (oneI (manyQ brQ (oneI (listQ oneI (listQ oneI (textQ q).2).2).2).2).2).2).2
 have g8:=nuQ_ok (oneI (oneI (manyQ brQ (oneI (listQ oneI (listQ oneI (textQ q).2).2).2).2).2).2).2 (by omega)
 have l9:=nuQ_le (nuQ (oneI (oneI (manyQ brQ (oneI (listQ oneI (listQ oneI (textQ q).2).2).2).2).2).2).2).2
 have g9:=nuQ_ok (nuQ (oneI (oneI (manyQ brQ (oneI (listQ oneI (listQ oneI (textQ q).2).2).2).2).2).2).2).2 (by omega)
 have l10:=nuQ_le (nuQ (nuQ (oneI (oneI (manyQ brQ (oneI (listQ oneI (listQ oneI (textQ q).2).2).2).2).2).2).2).2).2
 have g10:=nuQ_ok (nuQ (nuQ (oneI (oneI (manyQ brQ (oneI (listQ oneI (listQ oneI (textQ q).2).2).2).2).2).2).2).2).2 (by omega)
 unfold liQ
 dsimp only
 generalize nuQ (nuQ (nuQ (oneI (oneI (manyQ brQ (oneI (listQ oneI (listQ oneI (textQ q).2).2).2).2).2).2).2).2).2=x10 at *
 generalize nuQ (nuQ (oneI (oneI (manyQ brQ (oneI (listQ oneI (listQ oneI (textQ q).2).2).2).2).2).2).2).2=x9 at *
 generalize nuQ (oneI (oneI (manyQ brQ (oneI (listQ oneI (listQ oneI (textQ q).2).2).2).2).2).2).2=x8 at *
 generalize oneI (oneI (manyQ brQ (oneI (listQ oneI (listQ oneI (textQ q).2).2).2).2).2).2=x7 at *
 generalize oneI (manyQ brQ (oneI (listQ oneI (listQ oneI (textQ q).2).2).2).2).2=x6 at *
 generalize manyQ brQ (oneI (listQ oneI (listQ oneI (textQ q).2).2).2).2=x5 at *
 generalize oneI (listQ oneI (listQ oneI (textQ q).2).2).2=x4 at *
 generalize listQ oneI (listQ oneI (textQ q).2).2=x3 at *
 generalize listQ oneI (textQ q).2=x2 at *
 generalize textQ q=x1 at *
 refine rO (cxPOk 1 36 [0,1,2]) Tryz.func32 ?_
 conv=>whnf
 refine .raw ([0]++[]) _ rfl (fun _=>⟨⟨_,[0]++[],_,_⟩,fun r'=>Iff.rfl,rfl⟩) (callio_one (g1) [0] [] rfl rfl ⟨rfl,trivial⟩ (by exact BorL.cons (BorIO.ptr _ _ _ rfl) BorL.nil) rfl (.inl rfl)) ?_
 rintro _ rfl
 refine ⟨tn_ge _ _,?_⟩
 conv=>whnf
 refine .eff ad0 ?_;conv=>whnf
 refine cR (g2) [0] ?_
 conv=>whnf
 refine cR (g3) [0] ?_
 conv=>whnf
 refine ⟨by kernel_rfl,?_⟩
 conv=>whnf
 refine .raw ([0]++[]) _ rfl (fun _=>⟨⟨_,[0]++[],_,_⟩,fun r'=>Iff.rfl,rfl⟩) (callio_one (g4) [0] [] rfl rfl ⟨rfl,trivial⟩ (by exact BorL.cons (BorIO.ptr _ _ _ rfl) BorL.nil) rfl (.inl rfl)) ?_
 rintro _ rfl
 refine ⟨tn_ge _ _,?_⟩
 conv=>whnf
 refine cR (g5) [0,1] ?_
 conv=>whnf
 refine .eff ad0 ?_;conv=>whnf
 refine .raw ([0]++[]) _ rfl (fun _=>⟨⟨_,[0]++[],_,_⟩,fun r'=>Iff.rfl,rfl⟩) (callio_one (g6) [0] [] rfl rfl ⟨rfl,trivial⟩ (by exact BorL.cons (BorIO.ptr _ _ _ rfl) BorL.nil) rfl (.inl rfl)) ?_
 rintro _ rfl
 refine ⟨tn_ge _ _,?_⟩
 conv=>whnf
 refine .raw ([0]++[]) _ rfl (fun _=>⟨⟨_,[0]++[],_,_⟩,fun r'=>Iff.rfl,rfl⟩) (callio_one (g7) [0] [] rfl rfl ⟨rfl,trivial⟩ (by exact BorL.cons (BorIO.ptr _ _ _ rfl) BorL.nil) rfl (.inl rfl)) ?_
 rintro _ rfl
 refine ⟨tn_ge _ _,?_⟩
 conv=>whnf
 refine ⟨by kernel_rfl,?_⟩
 conv=>whnf
 refine .raw ([0]++[]) _ rfl (fun _=>⟨⟨_,[0]++[],_,_⟩,fun r'=>Iff.rfl,rfl⟩) (callio_one (g8) [0] [] rfl rfl ⟨rfl,trivial⟩ (by exact BorL.cons (BorIO.ptr _ _ _ rfl) BorL.nil) rfl (.inl rfl)) ?_
 rintro _ rfl
 refine ⟨tn_ge _ _,?_⟩
 conv=>whnf
 refine .raw ([0]++[]) _ rfl (fun _=>⟨⟨_,[0]++[],_,_⟩,fun r'=>Iff.rfl,rfl⟩) (callio_one (g9) [0] [] rfl rfl ⟨rfl,trivial⟩ (by exact BorL.cons (BorIO.ptr _ _ _ rfl) BorL.nil) rfl (.inl rfl)) ?_
 rintro _ rfl
 refine ⟨tn_ge _ _,?_⟩
 conv=>whnf
 refine .raw ([0]++[]) _ rfl (fun _=>⟨⟨_,[0]++[],_,_⟩,fun r'=>Iff.rfl,rfl⟩) (callio_one (g10) [0] [] rfl rfl ⟨rfl,trivial⟩ (by exact BorL.cons (BorIO.ptr _ _ _ rfl) BorL.nil) rfl (.inl rfl)) ?_
 rintro _ rfl
 refine ⟨tn_ge _ _,?_⟩
 conv=>whnf
 refine ⟨⟨[(2,.ptr 1 0)],[(0,.cells 155 [.str x10.2.rest,.bool x10.2.bad]),(1,.cells 47 [.str x1.1,.sl 1 encI 0 x2.1,.sl 1 encI 0 x3.1,.int .i64 x4.1,.sl 2 encBr br0 x5.1,.int .i64 x6.1,.int .i64 x7.1,.int .i64 x8.1,.bool (decide (x9.1=1)),.int .i64 x10.1])],2⟩,(wk_of [(0,.id 0),(1,.id 2)] rfl ⟨wc0,trivial⟩ ⟨wb0,wb0,trivial⟩),rfl,rfl,?_⟩
 conv=>whnf
 exact ⟨rfl,rfl,rfl,rfl⟩
theorem liQ_le (q:RS):(liQ q).2.rest.length≤q.rest.length:=by
 have l1:=txQ_le q
 have l2:=lsQ_le (textQ q).2
 have l3:=lsQ_le (listQ oneI (textQ q).2).2
 have l4:=inQ_le (listQ oneI (listQ oneI (textQ q).2).2).2
 have l5:=mbQ_le (oneI (listQ oneI (listQ oneI (textQ q).2).2).2).2
 have l6:=inQ_le (manyQ brQ (oneI (listQ oneI (listQ oneI (textQ q).2).2).2).2).2
 have l7:=inQ_le (oneI (manyQ brQ (oneI (listQ oneI (listQ oneI (textQ q).2).2).2).2).2).2
 have l8:=nuQ_le (oneI (oneI (manyQ brQ (oneI (listQ oneI (listQ oneI (textQ q).2).2).2).2).2).2).2
 have l9:=nuQ_le (nuQ (oneI (oneI (manyQ brQ (oneI (listQ oneI (listQ oneI (textQ q).2).2).2).2).2).2).2).2
 have l10:=nuQ_le (nuQ (nuQ (oneI (oneI (manyQ brQ (oneI (listQ oneI (listQ oneI (textQ q).2).2).2).2).2).2).2).2).2
 unfold liQ
 dsimp only
 omega
theorem liQ_r (q:RS) (hs:q.rest.length≤100000000000):RIO Tryz.prog 31 [.ptr 1 0] [ro q,bx] 2 (fun vs bs es=>vs=[encLi (liQ q).1]∧bs=[ro (liQ q).2,bx]∧es=[.cells 47 (celLi (liQ q).1)]):=by
 have g:=liQ_l q hs
 generalize liQ q=x at *
 obtain ⟨b,q1⟩:=x
 refine rO (cxPOk 2 4 [0,1]) Tryz.func31 ?_
 conv=>whnf
 refine cR (g) [0] ?_
 conv=>whnf
 refine ⟨⟨[(1,.ptr 2 0)],[(0,.cells 155 [.str q1.rest,.bool q1.bad]),(1,.cells 69 [.ptr 0 0]),(2,.cells 47 [.str b.text,.sl 1 encI 0 b.units,.sl 1 encI 0 b.noted,.int .i64 b.notedAt,.sl 2 encBr br0 b.stages,.int .i64 b.fast,.int .i64 b.called,.int .i64 b.price,.bool b.ended,.int .i64 b.since])],3⟩,(wk_of [(0,.id 0),(1,.id 1),(2,.id 2)] rfl ⟨wc0,trivial⟩ ⟨wb0,wb0,wb0,trivial⟩),rfl,rfl,?_⟩
 conv=>whnf
 exact ⟨rfl,rfl,rfl,rfl⟩
abbrev celPr (b:Pro):List AV:=[.int .i64 b.issue,.str b.text,.int .i64 b.day,.sl 1 encI 0 b.units,.sl 3 encVo vo0 b.votes,.bool b.closed]
theorem prQ_l (q:RS) (hs:q.rest.length≤100000000000):RIO Tryz.prog 40 [.ptr 0 0] [ro q] 1 (fun vs bs es=>vs=[encPr (prQ q).1]∧bs=[ro (prQ q).2]∧es=[.cells 64 (celPr (prQ q).1)]):=by
 have l1:=nuQ_le q
 have g1:=nuQ_ok q (by omega)
 have l2:=txQ_le (nuQ q).2
 have g2:=txQ_ok (nuQ q).2 (by omega)
 have l3:=nuQ_le (textQ (nuQ q).2).2
 have g3:=nuQ_ok (textQ (nuQ q).2).2 (by omega)
 have l4:=lsQ_le (nuQ (textQ (nuQ q).2).2).2
 have g4:=lsQ_r (nuQ (textQ (nuQ q).2).2).2 (by omega)
 have l5:=mvQ_le (listQ oneI (nuQ (textQ (nuQ q).2).2).2).2
 have g5:=readVo_r (listQ oneI (nuQ (textQ (nuQ q).2).2).2).2 (by omega)
 have l6:=nuQ_le (manyQ voQ (listQ oneI (nuQ (textQ (nuQ q).2).2).2).2).2
 have g6:=nuQ_ok (manyQ voQ (listQ oneI (nuQ (textQ (nuQ q).2).2).2).2).2 (by omega)
 unfold prQ
 dsimp only
 generalize nuQ (manyQ voQ (listQ oneI (nuQ (textQ (nuQ q).2).2).2).2).2=x6 at *
 generalize manyQ voQ (listQ oneI (nuQ (textQ (nuQ q).2).2).2).2=x5 at *
 generalize listQ oneI (nuQ (textQ (nuQ q).2).2).2=x4 at *
 generalize nuQ (textQ (nuQ q).2).2=x3 at *
 generalize textQ (nuQ q).2=x2 at *
 generalize nuQ q=x1 at *
 refine rO (cxPOk 1 24 [0,1,2]) Tryz.func40 ?_
 conv=>whnf
 refine .raw ([0]++[]) _ rfl (fun _=>⟨⟨_,[0]++[],_,_⟩,fun r'=>Iff.rfl,rfl⟩) (callio_one (g1) [0] [] rfl rfl ⟨rfl,trivial⟩ (by exact BorL.cons (BorIO.ptr _ _ _ rfl) BorL.nil) rfl (.inl rfl)) ?_
 rintro _ rfl
 refine ⟨tn_ge _ _,?_⟩
 conv=>whnf
 refine .raw ([0]++[]) _ rfl (fun _=>⟨⟨_,[0]++[],_,_⟩,fun r'=>Iff.rfl,rfl⟩) (callio_one (g2) [0] [] rfl rfl ⟨rfl,trivial⟩ (by exact BorL.cons (BorIO.ptr _ _ _ rfl) BorL.nil) rfl (.inl rfl)) ?_
 rintro _ rfl
 refine ⟨tn_ge _ _,?_⟩
 conv=>whnf
 refine .raw ([0]++[]) _ rfl (fun _=>⟨⟨_,[0]++[],_,_⟩,fun r'=>Iff.rfl,rfl⟩) (callio_one (g3) [0] [] rfl rfl ⟨rfl,trivial⟩ (by exact BorL.cons (BorIO.ptr _ _ _ rfl) BorL.nil) rfl (.inl rfl)) ?_
 rintro _ rfl
 refine ⟨tn_ge _ _,?_⟩
 conv=>whnf
 refine cR (g4) [0] ?_
 conv=>whnf
 refine cR (g5) [0,1] ?_
 conv=>whnf
 refine .raw ([0]++[]) _ rfl (fun _=>⟨⟨_,[0]++[],_,_⟩,fun r'=>Iff.rfl,rfl⟩) (callio_one (g6) [0] [] rfl rfl ⟨rfl,trivial⟩ (by exact BorL.cons (BorIO.ptr _ _ _ rfl) BorL.nil) rfl (.inl rfl)) ?_
 rintro _ rfl
 refine ⟨tn_ge _ _,?_⟩
 conv=>whnf
 refine ⟨⟨[(2,.ptr 1 0)],[(0,.cells 155 [.str x6.2.rest,.bool x6.2.bad]),(1,.cells 64 [.int .i64 x1.1,.str x2.1,.int .i64 x3.1,.sl 1 encI 0 x4.1,.sl 3 encVo vo0 x5.1,.bool (decide (x6.1=1))])],2⟩,(wk_of [(0,.id 0),(1,.id 2)] rfl ⟨wc0,trivial⟩ ⟨wb0,wb0,trivial⟩),rfl,rfl,?_⟩
 conv=>whnf
 exact ⟨rfl,rfl,rfl,rfl⟩
theorem prQ_le (q:RS):(prQ q).2.rest.length≤q.rest.length:=by
 have l1:=nuQ_le q
 have l2:=txQ_le (nuQ q).2
 have l3:=nuQ_le (textQ (nuQ q).2).2
 have l4:=lsQ_le (nuQ (textQ (nuQ q).2).2).2
 have l5:=mvQ_le (listQ oneI (nuQ (textQ (nuQ q).2).2).2).2
 have l6:=nuQ_le (manyQ voQ (listQ oneI (nuQ (textQ (nuQ q).2).2).2).2).2
 unfold prQ
 dsimp only
 omega
theorem prQ_r (q:RS) (hs:q.rest.length≤100000000000):RIO Tryz.prog 39 [.ptr 1 0] [ro q,bx] 2 (fun vs bs es=>vs=[encPr (prQ q).1]∧bs=[ro (prQ q).2,bx]∧es=[.cells 64 (celPr (prQ q).1)]):=by
 have g:=prQ_l q hs
 generalize prQ q=x at *
 obtain ⟨b,q1⟩:=x
 refine rO (cxPOk 2 4 [0,1]) Tryz.func39 ?_
 conv=>whnf
 refine cR (g) [0] ?_
 conv=>whnf
 refine ⟨⟨[(1,.ptr 2 0)],[(0,.cells 155 [.str q1.rest,.bool q1.bad]),(1,.cells 69 [.ptr 0 0]),(2,.cells 64 [.int .i64 b.issue,.str b.text,.int .i64 b.day,.sl 1 encI 0 b.units,.sl 3 encVo vo0 b.votes,.bool b.closed])],3⟩,(wk_of [(0,.id 0),(1,.id 1),(2,.id 2)] rfl ⟨wc0,trivial⟩ ⟨wb0,wb0,wb0,trivial⟩),rfl,rfl,?_⟩
 conv=>whnf
 exact ⟨rfl,rfl,rfl,rfl⟩
theorem readLi_r (q:RS) (hs:q.rest.length≤100000000000):RIO Tryz.prog 30 [.ptr 0 0,.fn (.func 31) [] [.ptr 1 0]] [ro q,bx] 2 (fun vs bs es=>vs=[.sl 10 encLi li0 (manyQ liQ q).1]∧bs=[ro (manyQ liQ q).2,bx]∧es=[]):=by
 have l0:=nuQ_le q
 have g0:=nuQ_ok q hs
 have n0:0≤(nuQ q).1:=(numQ_le 59 0 q (by omega)).1
 have hi:(nuQ q).1≤9223372036854775807:=numQ_hi 59 0 q
 unfold manyQ
 have hz:=fun k=>itK_le liQ_le (nuQ q).2 k
 have hzn:=fun k=>itK_n liQ (nuQ q).2 k
 have hz0:itK liQ (nuQ q).2 0=((nuQ q).2,[]):=rfl
 have hzs:∀ k,itK liQ (nuQ q).2 (k+1)=((liQ (itK liQ (nuQ q).2 k).1).2,(itK liQ (nuQ q).2 k).2++[(liQ (itK liQ (nuQ q).2 k).1).1]):=fun _=>rfl
 generalize nuQ q=x at *
 obtain ⟨n,q1⟩:=x
 have gl:=rleft_ok q1
 dsimp only at l0 hz hz0 hzs hzn n0 hi ⊢
 generalize itK liQ q1=Z at *
 have hn:n.toNat=n:=Int.toNat_of_nonneg n0
 refine rO (cxPOk 2 23 [0,1,4,5,6,12,13,14,15]) Tryz.func30 ?_
 conv=>whnf
 refine .raw ([0]++[]) _ rfl (fun _=>⟨⟨_,[0]++[],_,_⟩,fun r'=>Iff.rfl,rfl⟩) (callio_one (g0) [0] [] rfl rfl ⟨rfl,trivial⟩ (by exact BorL.cons (BorIO.ptr _ _ _ rfl) BorL.nil) rfl (.inl rfl)) ?_
 rintro _ rfl
 refine ⟨tn_ge _ _,?_⟩
 conv=>whnf
 refine .raw ([0]++[]) _ rfl (fun _=>⟨⟨_,[0]++[],_,_⟩,fun r'=>Iff.rfl,rfl⟩) (callio_one (gl) [0] [] rfl rfl ⟨rfl,trivial⟩ (by exact BorL.cons (BorIO.ptr _ _ _ rfl) BorL.nil) rfl (.inl rfl)) ?_
 rintro _ rfl
 refine ⟨tn_ge _ _,?_⟩
 conv=>whnf
 refine ⟨fun hc=>?_,fun hc=>?_⟩
 ·have hc:(q1.rest.length:Int)<n:=of_decide_eq_true hc
  rw [if_pos hc]
  conv=>whnf
  refine ⟨⟨[(4,.sl 10 encLi li0 [])],[(0,.cells 155 [.str q1.rest,.bool q1.bad]),(1,.cells 69 [.ptr 0 0])],2⟩,(wk_of [(0,.id 0),(1,.id 1)] rfl ⟨.base (.leT _ _ (LeT.nils_sl 10 encLi li0) rfl),trivial⟩ ⟨wb0,wb0,trivial⟩),rfl,rfl,?_⟩
  conv=>whnf
  exact ⟨rfl,rfl,rfl,rfl⟩
 have hc:¬ (q1.rest.length:Int)<n:=of_decide_eq_false hc
 rw [if_neg hc]
 conv=>whnf
 refine loop_up (cxPOk _ _ _) n.toNat (fun _=>True) (fun k=>⟨[(0,.ptr 0 0),(1,.fn (.func 31) [] [.ptr 1 0]),(4,.nils),(6,.own 2),(13,.int .i64 n),(14,.int .i64 (k:Nat))],[(0,.cells 155 [.str (Z k).1.rest,.bool (Z k).1.bad]),(1,.cells 69 [.ptr 0 0]),(2,.row 47 10 encLi li0 (Z k).2)],3⟩) trivial (by
  rw [hz0]
  exact (wk_of [(0,.id 0),(1,.id 1),(2,.nil)] rfl ⟨wc0,.fn _ _ _ _ _ ac0 ac0,wa0,af0,wa0,wa0,trivial⟩ ⟨wb0,wb0,⟨_,rfl,ae0⟩,trivial⟩)) ?_
 intro k hk _
 have hzk:=hz k
 have hnk:=hzn k
 have hsk:=hzs k
 generalize hzz:Z k=z at *
 obtain ⟨⟨rr,rb⟩,acc⟩:=z
 have hnk:acc.length=k:=hnk
 dsimp only at hzk hsk
 conv=>whnf
 refine ⟨fun hd=>?_,fun hd=>?_⟩
 ·have hd:(k:Int)<n:=of_decide_eq_true hd
  have hone:=liQ_r ⟨rr,rb⟩ (by dsimp only;omega)
  dsimp only [ro] at hone
  generalize liQ ⟨rr,rb⟩=y at *
  conv=>whnf
  refine cR (hone) [0,1] ?_
  conv=>whnf
  refine And.intro rfl ?_;conv=>whnf
  refine And.intro ⟨rfl,rfl⟩ (And.intro (show (acc.length+1)*136≤140737488355328 by omega) ?_)
  conv=>whnf
  refine ⟨y.1,rfl,?_⟩
  conv=>whnf
  refine iO ?_;conv=>whnf
  have e1:acc++[y.1]=(Z (k+1)).2:=by rw [hsk]
  have e2:y.2.rest=(Z (k+1)).1.rest:=by rw [hsk]
  have e3:y.2.bad=(Z (k+1)).1.bad:=by rw [hsk]
  refine up (show k<n.toNat by omega) trivial ((wk_of [(0,.id 0),(1,.id 1),(2,.id 5)] rfl ⟨wc0,.fn _ _ _ _ _ ac0 ac0,wa0,af0,wa0,wa0,trivial⟩ ⟨⟨_,rfl,.cells _ _ _ _ rfl (by repeat (first | exact .nil | refine .cons (by first | exact .base (.tree _ _ rfl rfl) | exact .base (.own _ _ rfl) | exact .base (.ptr _ _ _ rfl) | exact .base (.map _ _ rfl) | exact .base (.nilown _ rfl) | exact .fn _ _ _ _ _ .nil (by repeat (first | exact .nil | refine .cons (by exact .ptr _ _ _ rfl) ?_)) | exact .base (.tree _ _ (by first | rw [e2] | rw [e3]) rfl) | exact .base (.leT _ _ (by first | rw [e2] | rw [e3]) rfl)) ?_)) rfl⟩,wb0,⟨_,rfl,(by first | exact .row _ _ _ _ _ _ _ rfl (e1) | exact .lstrow _ _ _ _ _ _ _ rfl (e1) | exact .nilrow _ _ _ _ _ (e1) | exact .truncrow _ _ _ _ _ _ _ _ rfl (by omega) (e1))⟩,trivial⟩))
 ·have hd:¬ (k:Int)<n:=of_decide_eq_false hd
  have hkn:n.toNat=k:=by omega
  rw [hkn,hzz]
  conv=>whnf
  refine ⟨⟨[(4,.sl 10 encLi li0 acc)],[(0,.cells 155 [.str rr,.bool rb]),(1,.cells 69 [.ptr 0 0])],2⟩,(wk_frz [2]).trans (wk_of [(0,.id 0),(1,.id 1)] rfl ⟨wa0,trivial⟩ ⟨wb0,wb0,trivial⟩),rfl,rfl,?_⟩
  conv=>whnf
  exact ⟨rfl,rfl,rfl,rfl⟩
theorem readPr_r (q:RS) (hs:q.rest.length≤100000000000):RIO Tryz.prog 38 [.ptr 0 0,.fn (.func 39) [] [.ptr 1 0]] [ro q,bx] 2 (fun vs bs es=>vs=[.sl 6 encPr pr0 (manyQ prQ q).1]∧bs=[ro (manyQ prQ q).2,bx]∧es=[]):=by
 have l0:=nuQ_le q
 have g0:=nuQ_ok q hs
 have n0:0≤(nuQ q).1:=(numQ_le 59 0 q (by omega)).1
 have hi:(nuQ q).1≤9223372036854775807:=numQ_hi 59 0 q
 unfold manyQ
 have hz:=fun k=>itK_le prQ_le (nuQ q).2 k
 have hzn:=fun k=>itK_n prQ (nuQ q).2 k
 have hz0:itK prQ (nuQ q).2 0=((nuQ q).2,[]):=rfl
 have hzs:∀ k,itK prQ (nuQ q).2 (k+1)=((prQ (itK prQ (nuQ q).2 k).1).2,(itK prQ (nuQ q).2 k).2++[(prQ (itK prQ (nuQ q).2 k).1).1]):=fun _=>rfl
 generalize nuQ q=x at *
 obtain ⟨n,q1⟩:=x
 have gl:=rleft_ok q1
 dsimp only at l0 hz hz0 hzs hzn n0 hi ⊢
 generalize itK prQ q1=Z at *
 have hn:n.toNat=n:=Int.toNat_of_nonneg n0
 refine rO (cxPOk 2 23 [0,1,4,5,6,12,13,14,15]) Tryz.func38 ?_
 conv=>whnf
 refine .raw ([0]++[]) _ rfl (fun _=>⟨⟨_,[0]++[],_,_⟩,fun r'=>Iff.rfl,rfl⟩) (callio_one (g0) [0] [] rfl rfl ⟨rfl,trivial⟩ (by exact BorL.cons (BorIO.ptr _ _ _ rfl) BorL.nil) rfl (.inl rfl)) ?_
 rintro _ rfl
 refine ⟨tn_ge _ _,?_⟩
 conv=>whnf
 refine .raw ([0]++[]) _ rfl (fun _=>⟨⟨_,[0]++[],_,_⟩,fun r'=>Iff.rfl,rfl⟩) (callio_one (gl) [0] [] rfl rfl ⟨rfl,trivial⟩ (by exact BorL.cons (BorIO.ptr _ _ _ rfl) BorL.nil) rfl (.inl rfl)) ?_
 rintro _ rfl
 refine ⟨tn_ge _ _,?_⟩
 conv=>whnf
 refine ⟨fun hc=>?_,fun hc=>?_⟩
 ·have hc:(q1.rest.length:Int)<n:=of_decide_eq_true hc
  rw [if_pos hc]
  conv=>whnf
  refine ⟨⟨[(4,.sl 6 encPr pr0 [])],[(0,.cells 155 [.str q1.rest,.bool q1.bad]),(1,.cells 69 [.ptr 0 0])],2⟩,(wk_of [(0,.id 0),(1,.id 1)] rfl ⟨.base (.leT _ _ (LeT.nils_sl 6 encPr pr0) rfl),trivial⟩ ⟨wb0,wb0,trivial⟩),rfl,rfl,?_⟩
  conv=>whnf
  exact ⟨rfl,rfl,rfl,rfl⟩
 have hc:¬ (q1.rest.length:Int)<n:=of_decide_eq_false hc
 rw [if_neg hc]
 conv=>whnf
 refine loop_up (cxPOk _ _ _) n.toNat (fun _=>True) (fun k=>⟨[(0,.ptr 0 0),(1,.fn (.func 39) [] [.ptr 1 0]),(4,.nils),(6,.own 2),(13,.int .i64 n),(14,.int .i64 (k:Nat))],[(0,.cells 155 [.str (Z k).1.rest,.bool (Z k).1.bad]),(1,.cells 69 [.ptr 0 0]),(2,.row 64 6 encPr pr0 (Z k).2)],3⟩) trivial (by
  rw [hz0]
  exact (wk_of [(0,.id 0),(1,.id 1),(2,.nil)] rfl ⟨wc0,.fn _ _ _ _ _ ac0 ac0,wa0,af0,wa0,wa0,trivial⟩ ⟨wb0,wb0,⟨_,rfl,ae0⟩,trivial⟩)) ?_
 intro k hk _
 have hzk:=hz k
 have hnk:=hzn k
 have hsk:=hzs k
 generalize hzz:Z k=z at *
 obtain ⟨⟨rr,rb⟩,acc⟩:=z
 have hnk:acc.length=k:=hnk
 dsimp only at hzk hsk
 conv=>whnf
 refine ⟨fun hd=>?_,fun hd=>?_⟩
 ·have hd:(k:Int)<n:=of_decide_eq_true hd
  have hone:=prQ_r ⟨rr,rb⟩ (by dsimp only;omega)
  dsimp only [ro] at hone
  generalize prQ ⟨rr,rb⟩=y at *
  conv=>whnf
  refine cR (hone) [0,1] ?_
  conv=>whnf
  refine And.intro rfl ?_;conv=>whnf
  refine And.intro ⟨rfl,rfl⟩ (And.intro (show (acc.length+1)*88≤140737488355328 by omega) ?_)
  conv=>whnf
  refine ⟨y.1,rfl,?_⟩
  conv=>whnf
  refine iO ?_;conv=>whnf
  have e1:acc++[y.1]=(Z (k+1)).2:=by rw [hsk]
  have e2:y.2.rest=(Z (k+1)).1.rest:=by rw [hsk]
  have e3:y.2.bad=(Z (k+1)).1.bad:=by rw [hsk]
  refine up (show k<n.toNat by omega) trivial ((wk_of [(0,.id 0),(1,.id 1),(2,.id 5)] rfl ⟨wc0,.fn _ _ _ _ _ ac0 ac0,wa0,af0,wa0,wa0,trivial⟩ ⟨⟨_,rfl,.cells _ _ _ _ rfl (by repeat (first | exact .nil | refine .cons (by first | exact .base (.tree _ _ rfl rfl) | exact .base (.own _ _ rfl) | exact .base (.ptr _ _ _ rfl) | exact .base (.map _ _ rfl) | exact .base (.nilown _ rfl) | exact .fn _ _ _ _ _ .nil (by repeat (first | exact .nil | refine .cons (by exact .ptr _ _ _ rfl) ?_)) | exact .base (.tree _ _ (by first | rw [e2] | rw [e3]) rfl) | exact .base (.leT _ _ (by first | rw [e2] | rw [e3]) rfl)) ?_)) rfl⟩,wb0,⟨_,rfl,(by first | exact .row _ _ _ _ _ _ _ rfl (e1) | exact .lstrow _ _ _ _ _ _ _ rfl (e1) | exact .nilrow _ _ _ _ _ (e1) | exact .truncrow _ _ _ _ _ _ _ _ rfl (by omega) (e1))⟩,trivial⟩))
 ·have hd:¬ (k:Int)<n:=of_decide_eq_false hd
  have hkn:n.toNat=k:=by omega
  rw [hkn,hzz]
  conv=>whnf
  refine ⟨⟨[(4,.sl 6 encPr pr0 acc)],[(0,.cells 155 [.str rr,.bool rb]),(1,.cells 69 [.ptr 0 0])],2⟩,(wk_frz [2]).trans (wk_of [(0,.id 0),(1,.id 1)] rfl ⟨wa0,trivial⟩ ⟨wb0,wb0,trivial⟩),rfl,rfl,?_⟩
  conv=>whnf
  exact ⟨rfl,rfl,rfl,rfl⟩
theorem open_q (t:List UInt8):APure Tryz.prog 26 [.str t] (fun rs=>rs=[.new (.cells 155 [.str t,.bool false])]):=by
 refine aO (cxOk 6 [0,2]) Tryz.func26 ?_
 conv=>whnf
 rfl
def readZ (t:List UInt8):Sta×Int:=if readB t=true then ((stQ ⟨t,false⟩).1,0) else (st0,2)
def readA (t:List UInt8):List AR:=[.val (encSt (readZ t).1),.val (.int .i64 (readZ t).2)]
theorem txQ_n (q:RS) (hs:q.rest.length≤100000000000):(textQ q).1.length≤100000000000:=by
 have h1:=(numQ_le 58 0 q (Int.le_refl _)).2
 unfold textQ
 dsimp only
 split
 ·simp
 ·split
  ·split
   ·simp
   ·rw [List.length_take];omega
  ·simp
theorem lsQ_n (q:RS) (hs:q.rest.length≤100000000000):(listQ oneI q).1.length≤1000000000001:=by
 have h:=accI q (by omega) (numQ 91 0 q).1.toNat
 unfold listQ itemsQ
 dsimp only
 split
 ·split
  ·simp [listOf]
  ·exact h
 ·simp [listOf]
theorem itK_all {T:Type} {one:RS→T×RS} {P:T→Prop} {B:Nat} (hle:∀ q,(one q).2.rest.length≤q.rest.length) (hP:∀ q:RS,q.rest.length≤B→P (one q).1) (q:RS) (hq:q.rest.length≤B):∀ k,∀ x∈(itK one q k).2,P x
 | 0=>fun x hx=>by simp [itK] at hx
 | k+1=>fun x hx=>by
  have hl:=itK_le hle q k
  rw [show (itK one q (k+1)).2=(itK one q k).2++[(one (itK one q k).1).1] from rfl,List.mem_append,List.mem_singleton] at hx
  rcases hx with hx | rfl
  ·exact itK_all hle hP q hq k x hx
  ·exact hP _ om0
theorem manyQ_all {T:Type} {one:RS→T×RS} {P:T→Prop} {B:Nat} (hle:∀ q,(one q).2.rest.length≤q.rest.length) (hP:∀ q:RS,q.rest.length≤B→P (one q).1) (q:RS) (hq:q.rest.length≤B):∀ x∈(manyQ one q).1,P x:=by
 have:=nuQ_le q
 unfold manyQ
 split
 ·intro x hx;cases hx
 ·exact itK_all hle hP _ om0 _
theorem manyQ_n {T:Type} (one:RS→T×RS) (q:RS):(manyQ one q).1.length≤q.rest.length:=by
 have:=nuQ_le q
 have h:=itK_n one (nuQ q).2 (nuQ q).1.toNat
 unfold manyQ
 split
 ·simp
 ·dsimp only
  rw [h]
  omega
theorem liQ_n (q:RS) (hq:q.rest.length≤100000000000):(liQ q).1.text.length≤9223372036854775807∧(liQ q).1.units.length≤9223372036854775807∧(liQ q).1.noted.length≤9223372036854775807∧(liQ q).1.stages.length≤9223372036854775807:=by
 unfold liQ
 dsimp only
 have a:=txQ_n q hq
 have a1:=txQ_le q
 generalize textQ q=x1 at *
 have b:=lsQ_n x1.2 (by omega)
 have b1:=lsQ_le x1.2
 generalize listQ oneI x1.2=x2 at *
 have c:=lsQ_n x2.2 (by omega)
 have c1:=lsQ_le x2.2
 generalize listQ oneI x2.2=x3 at *
 have d1:=inQ_le x3.2
 generalize oneI x3.2=x4 at *
 have e:=manyQ_n brQ x4.2
 exact ⟨by omega,by omega,by omega,by omega⟩
theorem prQ_n (q:RS) (hq:q.rest.length≤100000000000):(prQ q).1.text.length≤9223372036854775807∧(prQ q).1.units.length≤9223372036854775807∧(prQ q).1.votes.length≤9223372036854775807:=by
 unfold prQ
 dsimp only
 have a1:=nuQ_le q
 generalize nuQ q=x0 at *
 have b:=txQ_n x0.2 (by omega)
 have b1:=txQ_le x0.2
 generalize textQ x0.2=x1 at *
 have c1:=nuQ_le x1.2
 generalize nuQ x1.2=x2 at *
 have d:=lsQ_n x2.2 (by omega)
 have d1:=lsQ_le x2.2
 generalize listQ oneI x2.2=x3 at *
 have e:=manyQ_n voQ x3.2
 exact ⟨by omega,by omega,by omega⟩
theorem faQ_n (q:RS) (hq:q.rest.length≤100000000000):(faQ q).1.name.length≤9223372036854775807:=by
 unfold faQ
 dsimp only
 have a1:=nuQ_le q
 generalize nuQ q=x0 at *
 have b:=txQ_n x0.2 (by omega)
 omega
theorem stQ_ok (q:RS) (hq:q.rest.length≤100000000000):OkS (stQ q).1:=by
 unfold stQ
 dsimp only
 have a:=nuQ_le q
 generalize nuQ q=x1 at *
 have b:=manyQ_n nuQ x1.2
 have b1:=manyQ_le nuQ_le x1.2
 generalize manyQ nuQ x1.2=x2 at *
 have c:=manyQ_n nuQ x2.2
 have c1:=manyQ_le nuQ_le x2.2
 generalize manyQ nuQ x2.2=x3 at *
 have d1:=inQ_le x3.2
 generalize oneI x3.2=x4 at *
 have e:=manyQ_n liQ x4.2
 have e1:=manyQ_le liQ_le x4.2
 have e2:=manyQ_all (P:=fun x:Lin=>x.text.length≤9223372036854775807∧x.units.length≤9223372036854775807∧x.noted.length≤9223372036854775807∧x.stages.length≤9223372036854775807) (B:=100000000000) liQ_le liQ_n x4.2 (by omega)
 generalize manyQ liQ x4.2=x5 at *
 have f:=manyQ_n faQ x5.2
 have f1:=manyQ_le faQ_le x5.2
 have f2:=manyQ_all (P:=fun x:Fac=>x.name.length≤9223372036854775807) (B:=100000000000) faQ_le faQ_n x5.2 (by omega)
 generalize manyQ faQ x5.2=x6 at *
 have g:=manyQ_n paQ x6.2
 have g1:=manyQ_le paQ_le x6.2
 generalize manyQ paQ x6.2=x7 at *
 have h:=manyQ_n prQ x7.2
 have h2:=manyQ_all (P:=fun x:Pro=>x.text.length≤9223372036854775807∧x.units.length≤9223372036854775807∧x.votes.length≤9223372036854775807) (B:=100000000000) prQ_le prQ_n x7.2 (by omega)
 exact ⟨by dsimp only;omega,by dsimp only;omega,by dsimp only;omega,by dsimp only;omega,by dsimp only;omega,by dsimp only;omega,e2,f2,h2⟩
set_option maxHeartbeats 8000000
theorem read_st (t:List UInt8) (ht:t.length≤100000000000):APure Tryz.prog 10 [.str t] (fun rs=>rs=readA t):=by
 have go:=open_q t
 have hok:=stQ_ok ⟨t,false⟩ ht
 obtain ⟨x1,hx1⟩:∃ x,x=nuQ ⟨t,false⟩:=⟨_,rfl⟩
 have l1:=nuQ_le ⟨t,false⟩
 have g1:=nuQ_ok ⟨t,false⟩ ht
 rw [← hx1] at l1 g1
 dsimp only [ro] at l1 g1
 obtain ⟨x2,hx2⟩:∃ x,x=manyQ nuQ x1.2:=⟨_,rfl⟩
 have l2:=manyQ_le nuQ_le x1.2
 have g2:=readNu_r x1.2 (by omega)
 rw [← hx2] at l2 g2
 obtain ⟨x3,hx3⟩:∃ x,x=manyQ nuQ x2.2:=⟨_,rfl⟩
 have l3:=manyQ_le nuQ_le x2.2
 have g3:=readNu_r x2.2 (by omega)
 rw [← hx3] at l3 g3
 obtain ⟨x4,hx4⟩:∃ x,x=oneI x3.2:=⟨_,rfl⟩
 have l4:=inQ_le x3.2
 have g4:=inQ_ok x3.2 (by omega)
 rw [← hx4] at l4 g4
 obtain ⟨x5,hx5⟩:∃ x,x=manyQ liQ x4.2:=⟨_,rfl⟩
 have l5:=manyQ_le liQ_le x4.2
 have g5:=readLi_r x4.2 (by omega)
 rw [← hx5] at l5 g5
 obtain ⟨x6,hx6⟩:∃ x,x=manyQ faQ x5.2:=⟨_,rfl⟩
 have l6:=manyQ_le faQ_le x5.2
 have g6:=readFa_r x5.2 (by omega)
 rw [← hx6] at l6 g6
 obtain ⟨x7,hx7⟩:∃ x,x=manyQ paQ x6.2:=⟨_,rfl⟩
 have l7:=manyQ_le paQ_le x6.2
 have g7:=readPa_r x6.2 (by omega)
 rw [← hx7] at l7 g7
 obtain ⟨x8,hx8⟩:∃ x,x=manyQ prQ x7.2:=⟨_,rfl⟩
 have l8:=manyQ_le prQ_le x7.2
 have g8:=readPr_r x7.2 (by omega)
 rw [← hx8] at l8 g8
 have hq:stQ ⟨t,false⟩=(⟨x1.1,x2.1,x3.1,x4.1,x5.1,x6.1,x7.1,x8.1⟩,x8.2):=by
  rw [hx8,hx7,hx6,hx5,hx4,hx3,hx2,hx1]
  rfl
 clear hx1 hx2 hx3 hx4 hx5 hx6 hx7 hx8
 unfold readA readZ readB
 rw [hq] at hok ⊢
 dsimp only at hok ⊢
 have gd:=rdone_ok x8.2
 have gt:=text_st _ hok
 refine aW (cxOk 55 [0,2,3,4,5,52]) Tryz.func10 ?_
 conv=>whnf
 refine cO (fun _=>go) ?_
 conv=>whnf
 refine .raw ([1]++[]) _ rfl (fun _=>⟨⟨_,[1]++[],_,_⟩,fun r'=>Iff.rfl,rfl⟩) (callio_one (g1) [1] [] rfl rfl ⟨rfl,trivial⟩ (by exact BorL.cons (BorIO.ptr _ _ _ rfl) BorL.nil) rfl (.inl rfl)) ?_
 rintro _ rfl
 refine ⟨tn_ge _ _,?_⟩
 conv=>whnf
 refine .eff ad0 ?_;conv=>whnf
 refine cR (g2) [1] ?_
 conv=>whnf
 refine cR (g3) [1] ?_
 conv=>whnf
 refine ⟨by kernel_rfl,?_⟩
 conv=>whnf
 refine .raw ([1]++[]) _ rfl (fun _=>⟨⟨_,[1]++[],_,_⟩,fun r'=>Iff.rfl,rfl⟩) (callio_one (g4) [1] [] rfl rfl ⟨rfl,trivial⟩ (by exact BorL.cons (BorIO.ptr _ _ _ rfl) BorL.nil) rfl (.inl rfl)) ?_
 rintro _ rfl
 refine ⟨tn_ge _ _,?_⟩
 conv=>whnf
 refine cR (g5) [1,2] ?_
 conv=>whnf
 refine cR (g6) [1,2] ?_
 conv=>whnf
 refine cR (g7) [1,2] ?_
 conv=>whnf
 refine cR (g8) [1,2] ?_
 conv=>whnf
 by_cases hne:t=[]
 ·simp only [decide_eq_true hne,Bool.not_true,Bool.false_and,Bool.false_eq_true,if_false]
  refine cF [.rop [.str x8.2.rest,.bool x8.2.bad]] [.val (.bool false)] ?_
  conv=>whnf
  refine cF [encSt ⟨x1.1,x2.1,x3.1,x4.1,x5.1,x6.1,x7.1,x8.1⟩] [.val (.str [])] ?_
  conv=>whnf
  refine gT ?_
  conv=>whnf
  refine ⟨⟨[(2,.ptr 0 0),(3,.int .i64 2)],[(0,.cells 28 (celSt st0))],1⟩,(wk_of [(0,.id 0)] rfl ⟨wc0,wa0,trivial⟩ ⟨⟨_,rfl,.cells _ _ _ _ rfl (by repeat (first | exact .nil | refine .cons (by first | exact .base (.tree _ _ rfl rfl) | exact .base (.own _ _ rfl) | exact .base (.ptr _ _ _ rfl) | exact .base (.map _ _ rfl) | exact .base (.nilown _ rfl) | exact .fn _ _ _ _ _ .nil (by repeat (first | exact .nil | refine .cons (by exact .ptr _ _ _ rfl) ?_)) | exact .base (.tree _ _ (by first | exact LeT.nils_sl 1 encI 0 | exact LeT.nils_sl 10 encLi li0 | exact LeT.nils_sl 5 encFa fa0 | exact LeT.nils_sl 6 encPa pa0 | exact LeT.nils_sl 6 encPr pr0) rfl) | exact .base (.leT _ _ (by first | exact LeT.nils_sl 1 encI 0 | exact LeT.nils_sl 10 encLi li0 | exact LeT.nils_sl 5 encFa fa0 | exact LeT.nils_sl 6 encPa pa0 | exact LeT.nils_sl 6 encPr pr0) rfl)) ?_)) rfl⟩,trivial⟩),?_⟩
  conv=>whnf
  rfl
 ·simp only [decide_eq_false hne,Bool.not_false,Bool.true_and]
  refine .raw ([1]++[]) _ rfl (fun _=>⟨⟨_,[1]++[],_,_⟩,fun r'=>Iff.rfl,rfl⟩) (callio_one (gd) [1] [] rfl rfl ⟨rfl,trivial⟩ (by exact BorL.cons (BorIO.ptr _ _ _ rfl) BorL.nil) rfl (.inl rfl)) ?_
  rintro _ rfl
  refine ⟨tn_ge _ _,?_⟩
  conv=>whnf
  unfold doneB
  cases hd:(!x8.2.bad&&decide (x8.2.rest=[])) with
  | false =>
   simp only [Bool.false_and,Bool.false_eq_true,if_false]
   refine cF [encSt ⟨x1.1,x2.1,x3.1,x4.1,x5.1,x6.1,x7.1,x8.1⟩] [.val (.str [])] ?_
   conv=>whnf
   refine gT ?_
   conv=>whnf
   refine ⟨⟨[(2,.ptr 0 0),(3,.int .i64 2)],[(0,.cells 28 (celSt st0))],1⟩,(wk_of [(0,.id 0)] rfl ⟨wc0,wa0,trivial⟩ ⟨⟨_,rfl,.cells _ _ _ _ rfl (by repeat (first | exact .nil | refine .cons (by first | exact .base (.tree _ _ rfl rfl) | exact .base (.own _ _ rfl) | exact .base (.ptr _ _ _ rfl) | exact .base (.map _ _ rfl) | exact .base (.nilown _ rfl) | exact .fn _ _ _ _ _ .nil (by repeat (first | exact .nil | refine .cons (by exact .ptr _ _ _ rfl) ?_)) | exact .base (.tree _ _ (by first | exact LeT.nils_sl 1 encI 0 | exact LeT.nils_sl 10 encLi li0 | exact LeT.nils_sl 5 encFa fa0 | exact LeT.nils_sl 6 encPa pa0 | exact LeT.nils_sl 6 encPr pr0) rfl) | exact .base (.leT _ _ (by first | exact LeT.nils_sl 1 encI 0 | exact LeT.nils_sl 10 encLi li0 | exact LeT.nils_sl 5 encFa fa0 | exact LeT.nils_sl 6 encPa pa0 | exact LeT.nils_sl 6 encPr pr0) rfl)) ?_)) rfl⟩,trivial⟩),?_⟩
   conv=>whnf
   rfl
  | true =>
   refine cO (fun _=>gt) ?_
   conv=>whnf
   cases hs:decide (stT ⟨x1.1,x2.1,x3.1,x4.1,x5.1,x6.1,x7.1,x8.1⟩=t) with
   | false =>
    simp only [Bool.and_false,Bool.false_eq_true,if_false]
    refine gT ?_
    conv=>whnf
    refine ⟨⟨[(2,.ptr 0 0),(3,.int .i64 2)],[(0,.cells 28 (celSt st0))],1⟩,(wk_of [(0,.id 0)] rfl ⟨wc0,wa0,trivial⟩ ⟨⟨_,rfl,.cells _ _ _ _ rfl (by repeat (first | exact .nil | refine .cons (by first | exact .base (.tree _ _ rfl rfl) | exact .base (.own _ _ rfl) | exact .base (.ptr _ _ _ rfl) | exact .base (.map _ _ rfl) | exact .base (.nilown _ rfl) | exact .fn _ _ _ _ _ .nil (by repeat (first | exact .nil | refine .cons (by exact .ptr _ _ _ rfl) ?_)) | exact .base (.tree _ _ (by first | exact LeT.nils_sl 1 encI 0 | exact LeT.nils_sl 10 encLi li0 | exact LeT.nils_sl 5 encFa fa0 | exact LeT.nils_sl 6 encPa pa0 | exact LeT.nils_sl 6 encPr pr0) rfl) | exact .base (.leT _ _ (by first | exact LeT.nils_sl 1 encI 0 | exact LeT.nils_sl 10 encLi li0 | exact LeT.nils_sl 5 encFa fa0 | exact LeT.nils_sl 6 encPa pa0 | exact LeT.nils_sl 6 encPr pr0) rfl)) ?_)) rfl⟩,trivial⟩),?_⟩
    conv=>whnf
    rfl
   | true =>
    simp only [Bool.and_true,if_true]
    refine gF ?_
    conv=>whnf
    refine ⟨⟨[(2,.ptr 0 0),(3,.int .i64 0)],[(0,.cells 28 (celSt ⟨x1.1,x2.1,x3.1,x4.1,x5.1,x6.1,x7.1,x8.1⟩))],1⟩,(wk_of [(0,.id 0)] rfl ⟨wc0,wa0,trivial⟩ ⟨wb0,trivial⟩),?_⟩
    conv=>whnf
    rfl
def fewLi (x:Lin):Bool:=decide (x.text.length≤900)&&decide (x.units.length≤12)&&decide (x.noted.length≤12)&&decide (x.stages.length≤12)
def fewPr (x:Pro):Bool:=decide (x.text.length≤900)&&decide (x.units.length≤12)&&decide (x.votes.length≤12)
def fewFa (l:List Fac):Bool:=l.all (fun f=>decide (f.name.length≤40))&&decide (l.length≤12)
def fewS (s:Sta):Bool:=(decide (s.cash.length≤12)&&decide (s.purses.length≤12)&&decide (s.lines.length≤4)&&decide (s.payments.length≤12)&&decide (s.proposals.length≤4)&&fewFa s.facts)&&s.lines.all fewLi&&s.proposals.all fewPr
structure FewS (s:Sta):Prop where
 cash:s.cash.length≤12
 purses:s.purses.length≤12
 lines:s.lines.length≤4
 payments:s.payments.length≤12
 proposals:s.proposals.length≤4
 facts:s.facts.length≤12
 fact:∀ f∈s.facts,f.name.length≤40
 line:∀ x∈s.lines,x.text.length≤900∧x.units.length≤12∧x.noted.length≤12∧x.stages.length≤12
 proposal:∀ x∈s.proposals,x.text.length≤900∧x.units.length≤12∧x.votes.length≤12
theorem few_of {s:Sta} (h:fewS s=true):FewS s:=by
 unfold fewS fewFa at h
 simp only [Bool.and_eq_true,decide_eq_true_eq,List.all_eq_true] at h
 obtain ⟨⟨⟨⟨⟨⟨⟨a,b⟩,c⟩,d⟩,e⟩,f,g⟩,i⟩,j⟩:=h
 refine ⟨a,b,c,d,e,g,f,fun x hx=>?_,fun x hx=>?_⟩
 ·have:=i x hx
  unfold fewLi at this
  simp only [Bool.and_eq_true,decide_eq_true_eq] at this
  exact ⟨this.1.1.1,this.1.1.2,this.1.2,this.2⟩
 ·have:=j x hx
  unfold fewPr at this
  simp only [Bool.and_eq_true,decide_eq_true_eq] at this
  exact ⟨this.1.1,this.1.2,this.2⟩
theorem FewS.ok {s:Sta} (h:FewS s):OkS s :=
 ⟨by have:=h.cash;omega,by have:=h.purses;omega,by have:=h.lines;omega,by have:=h.facts;omega,by have:=h.payments;omega,by have:=h.proposals;omega,fun x hx=>(by have:=h.line x hx;omega),fun x hx=>(by have:=h.fact x hx;omega),fun x hx=>(by have:=h.proposal x hx;omega)⟩
def restB (s:Sta):Bool:=dayOk s.day&&decide (s.cash.length≤60)&&decide (s.purses.length≤20000)&&inB (-mostA) mostA [s.outside] &&
 (decide (s.lines.length≤400)&&decide (s.payments.length≤100000)&&decide (s.proposals.length≤10000)&&factsOk s.facts) &&
 (s.lines.all (lineOk s.purses.length)&&s.payments.all (payOk s.lines.length s.purses.length)&&s.proposals.all (proOk s.lines.length s.purses.length))
theorem right_split (s:Sta):rightS s=((sumB s).isSome&&restB s):=by
 unfold rightS restB
 simp only [Bool.and_assoc]
def movedS (a:Sta) (x y:Nat) (n:Int):Sta:=⟨a.day,a.cash.set x (a.cash.getD x 0-n),a.purses.set y (a.purses.getD y 0+n),a.outside,a.lines,a.facts,a.payments,a.proposals⟩
def dayS (a:Sta) (n:Int):Sta:=⟨n,a.cash,a.purses,a.outside,a.lines,a.facts,a.payments,a.proposals⟩
def factS (a:Sta) (f:Fac):Sta:=⟨a.day,a.cash,a.purses,a.outside,a.lines,a.facts++[f],a.payments,a.proposals⟩
def payS (a:Sta) (p:Pay):Sta:=⟨a.day,a.cash,a.purses,a.outside,a.lines,a.facts,a.payments++[p],a.proposals⟩
def reText (x:Lin) (t:List UInt8):Lin:=⟨t,x.units,x.noted,x.notedAt,x.stages,x.fast,x.called,x.price,x.ended,x.since⟩
def textA (a:Sta) (t:List UInt8):Sta:=⟨a.day,a.cash,a.purses,a.outside,a.lines.set 0 (reText (a.lines.getD 0 li0) t),a.facts,a.payments,a.proposals⟩
theorem right_day {a:Sta} (h:rightS a=true) (n:Int):rightS (dayS a n)=dayOk n:=by
 rw [right_split,Bool.and_eq_true] at h
 rw [right_split,show sumB (dayS a n)=sumB a from rfl,h.1,Bool.true_and]
 have h2:=h.2
 unfold restB at h2 ⊢
 unfold dayS
 simp only [Bool.and_eq_true] at h2
 simp only [h2,Bool.and_true]
theorem right_fact {a:Sta} (h:rightS a=true) (f:Fac):rightS (factS a f)=factsOk (a.facts++[f]):=by
 rw [right_split,Bool.and_eq_true] at h
 rw [right_split,show sumB (factS a f)=sumB a from rfl,h.1,Bool.true_and]
 have h2:=h.2
 unfold restB at h2 ⊢
 unfold factS
 simp only [Bool.and_eq_true] at h2
 simp only [h2,Bool.and_true,Bool.true_and]
theorem right_pay {a:Sta} (h:rightS a=true) (hn:a.payments.length≤99999) (p:Pay):rightS (payS a p)=payOk a.lines.length a.purses.length p:=by
 rw [right_split,Bool.and_eq_true] at h
 rw [right_split,show sumB (payS a p)=sumB a from rfl,h.1,Bool.true_and]
 have h2:=h.2
 unfold restB at h2 ⊢
 unfold payS
 simp only [Bool.and_eq_true] at h2
 rw [List.length_append,List.length_singleton,decide_eq_true (show a.payments.length+1≤100000 by omega),List.all_append]
 simp only [h2,Bool.and_true,Bool.true_and,List.all_cons,List.all_nil]
theorem right_text {a:Sta} (h:rightS a=true) (hne:a.lines≠[]) (t:List UInt8):rightS (textA a t)=parsesB t:=by
 rw [right_split,Bool.and_eq_true] at h
 rw [right_split,show sumB (textA a t)=sumB a from rfl,h.1,Bool.true_and]
 have h2:=h.2
 unfold restB at h2 ⊢
 unfold textA
 cases hl:a.lines with
 | nil=>exact absurd hl hne
 | cons x l =>
  rw [hl] at h2
  simp only [Bool.and_eq_true,List.all_cons,List.length_cons] at h2
  simp only [List.set_cons_zero,List.getD_cons_zero,List.all_cons,List.length_cons]
  have hx:=h2.2.1.1.1
  unfold lineOk at hx
  simp only [Bool.and_eq_true] at hx
  have e:lineOk (a.purses.length:Int) (reText x t)=parsesB t:=by
   unfold lineOk reText
   simp only [hx,Bool.and_true]
  rw [e]
  simp only [h2,Bool.and_true,Bool.true_and]
theorem pay_places (lines seats:Nat) (p:Pay):payOk lines seats p=((decide (0≤p.issue)&&decide (p.issue<(lines:Int))&&decide (0≤p.seat)&&decide (p.seat<(seats:Int))&&decide (0≤p.day)&&decide (p.day≤200000)&&decide (-1≤p.period)&&decide (p.period≤5000))&&decide (p.due≤mostA)&&decide (0≤p.paid)&&decide (p.paid≤p.due)):=by
 rw [Bool.eq_iff_iff]
 unfold payOk dayOk
 simp only [Bool.and_eq_true,decide_eq_true_eq,inB_all,List.mem_singleton,forall_eq]
 omega
theorem cl108 (l:List Int) (hl:l.length≤1000000):APure Tryz.prog 108 [.sl 1 encI 0 l] (fun rs=>rs=[.new (.row 3 1 encI 0 l)]):=by
 have h:APure Tryz.prog 108 [.sl 1 encI 0 l] (fun rs=>rs=[.new (.row 3 1 encI 0 l)]∨l=[]∧rs=[.val .nils]):=by
  refine aO (cxOk 8 [0,2,4]) Tryz.func108 ?_
  conv=>whnf
  intro b hb
  conv=>whnf
  refine ⟨fun hc=>?_,fun hc=>?_⟩
  ·conv=>whnf
   exact .inr ⟨hb hc,rfl⟩
  ·conv=>whnf
   refine And.intro rfl ?_
   conv=>whnf
   refine ⟨⟨rfl,rfl⟩,(show (0+l.length)*8≤140737488355328 by omega),?_⟩
   conv=>whnf
   exact .inl rfl
 refine h.le fun rs hrs=>?_
 rcases hrs with rfl | ⟨rfl,rfl⟩
 ·exact ⟨_,rfl,rfl,fun j r r' h1 h2=>by
   cases j with
   | zero=>simp at h1 h2;subst h1;subst h2;exact .same _
   | succ j=>simp at h1⟩
 ·exact ⟨_,rfl,rfl,fun j r r' h1 h2=>by
   cases j with
   | zero=>simp at h1 h2;subst h1;subst h2;exact .nil _ _ _ _
   | succ j=>simp at h1⟩
theorem clf108 (l:List Int) (hl:l.length≤1000000):APureV Tryz.prog 108 [.sl 1 encI 0 l] (.sl 1 encI 0 l) :=
 (cl108 l hl).freeze1
theorem cl109 (l:List Fac) (hl:l.length≤1000000):APure Tryz.prog 109 [.sl 5 encFa fa0 l] (fun rs=>rs=[.new (.row 41 5 encFa fa0 l)]):=by
 have h:APure Tryz.prog 109 [.sl 5 encFa fa0 l] (fun rs=>rs=[.new (.row 41 5 encFa fa0 l)]∨l=[]∧rs=[.val .nils]):=by
  refine aO (cxOk 8 [0,2,4]) Tryz.func109 ?_
  conv=>whnf
  intro b hb
  conv=>whnf
  refine ⟨fun hc=>?_,fun hc=>?_⟩
  ·conv=>whnf
   exact .inr ⟨hb hc,rfl⟩
  ·conv=>whnf
   refine And.intro rfl ?_
   conv=>whnf
   refine ⟨⟨rfl,rfl⟩,(show (0+l.length)*48≤140737488355328 by omega),?_⟩
   conv=>whnf
   exact .inl rfl
 refine h.le fun rs hrs=>?_
 rcases hrs with rfl | ⟨rfl,rfl⟩
 ·exact ⟨_,rfl,rfl,fun j r r' h1 h2=>by
   cases j with
   | zero=>simp at h1 h2;subst h1;subst h2;exact .same _
   | succ j=>simp at h1⟩
 ·exact ⟨_,rfl,rfl,fun j r r' h1 h2=>by
   cases j with
   | zero=>simp at h1 h2;subst h1;subst h2;exact .nil _ _ _ _
   | succ j=>simp at h1⟩
theorem clf109 (l:List Fac) (hl:l.length≤1000000):APureV Tryz.prog 109 [.sl 5 encFa fa0 l] (.sl 5 encFa fa0 l) :=
 (cl109 l hl).freeze1
theorem cl110 (l:List Pay) (hl:l.length≤1000000):APure Tryz.prog 110 [.sl 6 encPa pa0 l] (fun rs=>rs=[.new (.row 43 6 encPa pa0 l)]):=by
 have h:APure Tryz.prog 110 [.sl 6 encPa pa0 l] (fun rs=>rs=[.new (.row 43 6 encPa pa0 l)]∨l=[]∧rs=[.val .nils]):=by
  refine aO (cxOk 8 [0,2,4]) Tryz.func110 ?_
  conv=>whnf
  intro b hb
  conv=>whnf
  refine ⟨fun hc=>?_,fun hc=>?_⟩
  ·conv=>whnf
   exact .inr ⟨hb hc,rfl⟩
  ·conv=>whnf
   refine And.intro rfl ?_
   conv=>whnf
   refine ⟨⟨rfl,rfl⟩,(show (0+l.length)*48≤140737488355328 by omega),?_⟩
   conv=>whnf
   exact .inl rfl
 refine h.le fun rs hrs=>?_
 rcases hrs with rfl | ⟨rfl,rfl⟩
 ·exact ⟨_,rfl,rfl,fun j r r' h1 h2=>by
   cases j with
   | zero=>simp at h1 h2;subst h1;subst h2;exact .same _
   | succ j=>simp at h1⟩
 ·exact ⟨_,rfl,rfl,fun j r r' h1 h2=>by
   cases j with
   | zero=>simp at h1 h2;subst h1;subst h2;exact .nil _ _ _ _
   | succ j=>simp at h1⟩
theorem clf110 (l:List Pay) (hl:l.length≤1000000):APureV Tryz.prog 110 [.sl 6 encPa pa0 l] (.sl 6 encPa pa0 l) :=
 (cl110 l hl).freeze1
theorem cl111 (l:List Lin) (hl:l.length≤1000000):APure Tryz.prog 111 [.sl 10 encLi li0 l] (fun rs=>rs=[.new (.row 47 10 encLi li0 l)]):=by
 have h:APure Tryz.prog 111 [.sl 10 encLi li0 l] (fun rs=>rs=[.new (.row 47 10 encLi li0 l)]∨l=[]∧rs=[.val .nils]):=by
  refine aO (cxOk 8 [0,2,4]) Tryz.func111 ?_
  conv=>whnf
  intro b hb
  conv=>whnf
  refine ⟨fun hc=>?_,fun hc=>?_⟩
  ·conv=>whnf
   exact .inr ⟨hb hc,rfl⟩
  ·conv=>whnf
   refine And.intro rfl ?_
   conv=>whnf
   refine ⟨⟨rfl,rfl⟩,(show (0+l.length)*136≤140737488355328 by omega),?_⟩
   conv=>whnf
   exact .inl rfl
 refine h.le fun rs hrs=>?_
 rcases hrs with rfl | ⟨rfl,rfl⟩
 ·exact ⟨_,rfl,rfl,fun j r r' h1 h2=>by
   cases j with
   | zero=>simp at h1 h2;subst h1;subst h2;exact .same _
   | succ j=>simp at h1⟩
 ·exact ⟨_,rfl,rfl,fun j r r' h1 h2=>by
   cases j with
   | zero=>simp at h1 h2;subst h1;subst h2;exact .nil _ _ _ _
   | succ j=>simp at h1⟩
theorem cl112 (l:List Pro) (hl:l.length≤1000000):APure Tryz.prog 112 [.sl 6 encPr pr0 l] (fun rs=>rs=[.new (.row 64 6 encPr pr0 l)]):=by
 have h:APure Tryz.prog 112 [.sl 6 encPr pr0 l] (fun rs=>rs=[.new (.row 64 6 encPr pr0 l)]∨l=[]∧rs=[.val .nils]):=by
  refine aO (cxOk 8 [0,2,4]) Tryz.func112 ?_
  conv=>whnf
  intro b hb
  conv=>whnf
  refine ⟨fun hc=>?_,fun hc=>?_⟩
  ·conv=>whnf
   exact .inr ⟨hb hc,rfl⟩
  ·conv=>whnf
   refine And.intro rfl ?_
   conv=>whnf
   refine ⟨⟨rfl,rfl⟩,(show (0+l.length)*88≤140737488355328 by omega),?_⟩
   conv=>whnf
   exact .inl rfl
 refine h.le fun rs hrs=>?_
 rcases hrs with rfl | ⟨rfl,rfl⟩
 ·exact ⟨_,rfl,rfl,fun j r r' h1 h2=>by
   cases j with
   | zero=>simp at h1 h2;subst h1;subst h2;exact .same _
   | succ j=>simp at h1⟩
 ·exact ⟨_,rfl,rfl,fun j r r' h1 h2=>by
   cases j with
   | zero=>simp at h1 h2;subst h1;subst h2;exact .nil _ _ _ _
   | succ j=>simp at h1⟩
theorem cl113 (l:List Brc) (hl:l.length≤1000000):APure Tryz.prog 113 [.sl 2 encBr br0 l] (fun rs=>rs=[.new (.row 61 2 encBr br0 l)]):=by
 have h:APure Tryz.prog 113 [.sl 2 encBr br0 l] (fun rs=>rs=[.new (.row 61 2 encBr br0 l)]∨l=[]∧rs=[.val .nils]):=by
  refine aO (cxOk 8 [0,2,4]) Tryz.func113 ?_
  conv=>whnf
  intro b hb
  conv=>whnf
  refine ⟨fun hc=>?_,fun hc=>?_⟩
  ·conv=>whnf
   exact .inr ⟨hb hc,rfl⟩
  ·conv=>whnf
   refine And.intro rfl ?_
   conv=>whnf
   refine ⟨⟨rfl,rfl⟩,(show (0+l.length)*16≤140737488355328 by omega),?_⟩
   conv=>whnf
   exact .inl rfl
 refine h.le fun rs hrs=>?_
 rcases hrs with rfl | ⟨rfl,rfl⟩
 ·exact ⟨_,rfl,rfl,fun j r r' h1 h2=>by
   cases j with
   | zero=>simp at h1 h2;subst h1;subst h2;exact .same _
   | succ j=>simp at h1⟩
 ·exact ⟨_,rfl,rfl,fun j r r' h1 h2=>by
   cases j with
   | zero=>simp at h1 h2;subst h1;subst h2;exact .nil _ _ _ _
   | succ j=>simp at h1⟩
theorem clf113 (l:List Brc) (hl:l.length≤1000000):APureV Tryz.prog 113 [.sl 2 encBr br0 l] (.sl 2 encBr br0 l) :=
 (cl113 l hl).freeze1
theorem cl114 (l:List Vot) (hl:l.length≤1000000):APure Tryz.prog 114 [.sl 3 encVo vo0 l] (fun rs=>rs=[.new (.row 66 3 encVo vo0 l)]):=by
 have h:APure Tryz.prog 114 [.sl 3 encVo vo0 l] (fun rs=>rs=[.new (.row 66 3 encVo vo0 l)]∨l=[]∧rs=[.val .nils]):=by
  refine aO (cxOk 8 [0,2,4]) Tryz.func114 ?_
  conv=>whnf
  intro b hb
  conv=>whnf
  refine ⟨fun hc=>?_,fun hc=>?_⟩
  ·conv=>whnf
   exact .inr ⟨hb hc,rfl⟩
  ·conv=>whnf
   refine And.intro rfl ?_
   conv=>whnf
   refine ⟨⟨rfl,rfl⟩,(show (0+l.length)*24≤140737488355328 by omega),?_⟩
   conv=>whnf
   exact .inl rfl
 refine h.le fun rs hrs=>?_
 rcases hrs with rfl | ⟨rfl,rfl⟩
 ·exact ⟨_,rfl,rfl,fun j r r' h1 h2=>by
   cases j with
   | zero=>simp at h1 h2;subst h1;subst h2;exact .same _
   | succ j=>simp at h1⟩
 ·exact ⟨_,rfl,rfl,fun j r r' h1 h2=>by
   cases j with
   | zero=>simp at h1 h2;subst h1;subst h2;exact .nil _ _ _ _
   | succ j=>simp at h1⟩
theorem clf114 (l:List Vot) (hl:l.length≤1000000):APureV Tryz.prog 114 [.sl 3 encVo vo0 l] (.sl 3 encVo vo0 l) :=
 (cl114 l hl).freeze1
theorem ints51 (l r:List Int) (hl:l.length≤9223372036854775807) (hr:r.length≤9223372036854775807) :
  APureV Tryz.prog 51 [.sl 1 encI 0 l,.sl 1 encI 0 r] (.bool (decide (l=r))):=by
 refine aO (cxOk 26 [0,1,4,5,10,14,25]) Tryz.func51 ?_
 conv=>whnf
 refine ⟨fun hlen=>?_,fun hlen=>?_⟩
 ·have hne:¬ l=r:=by
   intro h
   rw [h] at hlen
   simp at hlen
  rw [decide_eq_false hne]
  conv=>whnf
  rfl
 have hlen:l.length=r.length:=by simp at hlen;omega
 conv=>whnf
 refine loop_up (cxOk _ _) l.length (fun k=>∀ j,j<k→l.getD j 0=r.getD j 0) (fun k=>⟨[(0,.sl 1 encI 0 l),(1,.sl 1 encI 0 r),(4,.bool false),(5,.int .i64 (k:Nat))],[],0⟩) (by intro j hj;omega) (by exact (wk_of [] rfl ⟨wa0,wa0,wa0,wa0,trivial⟩ trivial)) ?_
 intro k hk hP
 conv=>whnf
 refine ⟨fun hd=>?_,fun hd=>?_⟩
 ·have hd:=of_decide_eq_true hd
  have hlt:k<l.length:=by omega
  have hek:(k:Int).toNat=k:=Int.toNat_natCast k
  conv=>whnf
  refine .quiet (by kernel_rfl) ?_;conv=>whnf
  refine iO ?_;conv=>whnf
  refine And.intro rfl ?_;conv=>whnf
  refine iO ?_;conv=>whnf
  refine And.intro rfl ?_;conv=>whnf
  try (rw [hek];conv=>whnf)
  try (rw [hek];conv=>whnf)
  refine ⟨fun he=>?_,fun he=>?_⟩
  ·have hne:¬ l=r:=by
    intro h
    rw [h] at he
    simp at he
   rw [decide_eq_false hne]
   conv=>whnf
   rfl
  ·have he:l.getD k 0=r.getD k 0:=by simpa using he
   conv=>whnf
   refine iO ?_;conv=>whnf
   refine up hlt (fun j hj=>?_) (by exact (wk_of [] rfl ⟨wa0,wa0,wa0,wa0,trivial⟩ trivial))
   by_cases e:j=k
   ·subst e;exact he
   ·exact hP j om0
 ·have hd:=of_decide_eq_false hd
  have he:l=r:=list_eq (d:=0) hlen fun j hj=>hP j (by omega)
  rw [decide_eq_true he]
  conv=>whnf
  rfl
theorem facts52 (l r:List Fac) (hl:l.length≤9223372036854775807) (hr:r.length≤9223372036854775807) :
  APureV Tryz.prog 52 [.sl 5 encFa fa0 l,.sl 5 encFa fa0 r] (.bool (decide (l=r))):=by
 refine aO (cxOk 26 [0,1,4,5,10,14,25]) Tryz.func52 ?_
 conv=>whnf
 refine ⟨fun hlen=>?_,fun hlen=>?_⟩
 ·have hne:¬ l=r:=by
   intro h
   rw [h] at hlen
   simp at hlen
  rw [decide_eq_false hne]
  conv=>whnf
  rfl
 have hlen:l.length=r.length:=by simp at hlen;omega
 conv=>whnf
 refine loop_up (cxOk _ _) l.length (fun k=>∀ j,j<k→l.getD j fa0=r.getD j fa0) (fun k=>⟨[(0,.sl 5 encFa fa0 l),(1,.sl 5 encFa fa0 r),(4,.bool false),(5,.int .i64 (k:Nat))],[],0⟩) (by intro j hj;omega) (by exact (wk_of [] rfl ⟨wa0,wa0,wa0,wa0,trivial⟩ trivial)) ?_
 intro k hk hP
 conv=>whnf
 refine ⟨fun hd=>?_,fun hd=>?_⟩
 ·have hd:=of_decide_eq_true hd
  have hlt:k<l.length:=by omega
  have hek:(k:Int).toNat=k:=Int.toNat_natCast k
  conv=>whnf
  refine .quiet (by kernel_rfl) ?_;conv=>whnf
  refine iO ?_;conv=>whnf
  refine And.intro rfl ?_;conv=>whnf
  refine iO ?_;conv=>whnf
  refine And.intro rfl ?_;conv=>whnf
  try (rw [hek];conv=>whnf)
  try (rw [hek];conv=>whnf)
  refine And.intro ⟨by kernel_rfl,by kernel_rfl⟩ ?_
  conv=>whnf
  rw [show ((decide ((l.getD k fa0).issuer=(r.getD k fa0).issuer)&&(decide ((l.getD k fa0).name=(r.getD k fa0).name)&&(decide ((l.getD k fa0).period=(r.getD k fa0).period)&&(decide ((l.getD k fa0).value=(r.getD k fa0).value)&&(decide ((l.getD k fa0).day=(r.getD k fa0).day)&&true))))))=decide (l.getD k fa0=r.getD k fa0) from (eqFac_dec _ _).symm]
  refine ⟨fun he=>?_,fun he=>?_⟩
  ·have hne:¬ l=r:=by
    intro h
    rw [h] at he
    simp at he
   rw [decide_eq_false hne]
   conv=>whnf
   rfl
  ·have he:l.getD k fa0=r.getD k fa0:=by simpa using he
   conv=>whnf
   refine iO ?_;conv=>whnf
   refine up hlt (fun j hj=>?_) (by exact (wk_of [] rfl ⟨wa0,wa0,wa0,wa0,trivial⟩ trivial))
   by_cases e:j=k
   ·subst e;exact he
   ·exact hP j om0
 ·have hd:=of_decide_eq_false hd
  have he:l=r:=list_eq (d:=fa0) hlen fun j hj=>hP j (by omega)
  rw [decide_eq_true he]
  conv=>whnf
  rfl
theorem all_step {T:Type} {p:T→Bool} {d:T} {l:List T} {k:Nat} (h:k<l.length):(l.take (k+1)).all p=((l.take k).all p&&p (l.getD k d)):=by
 rw [take_getD (d:=d) h,List.all_append]
 simp
theorem all_not {T:Type} {p:T→Bool} {d:T} {l:List T} {k:Nat} (h:k<l.length) (hp:p (l.getD k d)=false):l.all p=false:=by
 rw [List.all_eq_false]
 exact ⟨_,getD_mem h,by rw [hp];simp⟩
theorem few25 (l:List Fac) (hl:l.length≤9223372036854775807) (hn:∀ f∈l,f.name.length≤9223372036854775807):APureV Tryz.prog 25 [.sl 5 encFa fa0 l,.int .i64 12] (.bool (fewFa l)):=by
 unfold fewFa
 refine aO (cxOk 28 [0,1,4,5,14,23]) Tryz.func25 ?_
 conv=>whnf
 refine loop_up (cxOk _ _) l.length (fun k=>(l.take k).all (fun f=>decide (f.name.length≤40))=true) (fun k=>⟨[(0,.sl 5 encFa fa0 l),(1,.int .i64 12),(4,.bool false),(5,.int .i64 (k:Nat))],[],0⟩) rfl (by exact (wk_of [] rfl ⟨wa0,wa0,wa0,wa0,trivial⟩ trivial)) ?_
 intro k hk hP
 conv=>whnf
 refine ⟨fun hc=>?_,fun hc=>?_⟩
 ·simp only [Bool.and_eq_true,decide_eq_true_eq] at hc
  have hlt:k<l.length:=by omega
  have hek:(k:Int).toNat=k:=Int.toNat_natCast k
  have:=hn _ (getD_mem (d:=fa0) hlt)
  conv=>whnf
  refine iO ?_;conv=>whnf
  refine And.intro rfl ?_;conv=>whnf
  try (rw [hek];conv=>whnf)
  refine ⟨fun hd=>?_,fun hd=>?_⟩
  ·have hd:=of_decide_eq_true hd
   have hp:(fun f:Fac=>decide (f.name.length≤40)) (l.getD k fa0)=false:=decide_eq_false (by omega)
   rw [all_not hlt hp]
   conv=>whnf
   rfl
  ·have hd:=of_decide_eq_false hd
   have hp:(fun f:Fac=>decide (f.name.length≤40)) (l.getD k fa0)=true:=decide_eq_true (by omega)
   conv=>whnf
   refine iO ?_;conv=>whnf
   refine up hlt ?_ (by exact (wk_of [] rfl ⟨wa0,wa0,wa0,wa0,trivial⟩ trivial))
   rw [all_step (d:=fa0) hlt,hP]
   exact hp
 ·simp only [Bool.and_eq_false_iff,decide_eq_false_iff_not] at hc
  conv=>whnf
  have e:(l.all (fun f=>decide (f.name.length≤40))&&decide (l.length≤12))=decide ((l.length:Int)≤12):=by
   by_cases h12:l.length≤12
   ·have hk2:k=l.length:=by omega
    rw [hk2,List.take_length] at hP
    rw [hP,decide_eq_true h12,decide_eq_true (by omega)]
    rfl
   ·rw [decide_eq_false h12,decide_eq_false (show ¬ (l.length:Int)≤12 by omega),Bool.and_false]
  rw [e]
  rfl
theorem few9 (s:Sta) (o:OkS s):APureV Tryz.prog 9 [encSt s] (.bool (fewS s)):=by
 have gf:=few25 s.facts o.facts o.fact
 have h1:=o.cash
 have h2:=o.purses
 have h3:=o.lines
 have h4:=o.payments
 have h5:=o.proposals
 unfold fewS
 have e0:(decide (s.cash.length≤12)&&decide (s.purses.length≤12)&&decide (s.lines.length≤4)&&decide (s.payments.length≤12)&&decide (s.proposals.length≤4)&&fewFa s.facts)=!(decide (12<(s.cash.length:Int))||decide (12<(s.purses.length:Int))||decide (4<(s.lines.length:Int))||decide (12<(s.payments.length:Int))||decide (4<(s.proposals.length:Int))||!fewFa s.facts):=by
  generalize fewFa s.facts=F
  cases F
  ·simp
  ·rw [Bool.eq_iff_iff]
   simp only [Bool.and_eq_true,Bool.not_eq_true',Bool.or_eq_false_iff,decide_eq_true_eq,decide_eq_false_iff_not,Bool.not_true,and_true]
   omega
 refine aO (cxOk 103 [0,1,2,3,4,5,6,40,45,74,79,102]) Tryz.func9 ?_
 conv=>whnf
 refine cO (fun _=>gf) ?_
 conv=>whnf
 refine ⟨fun hc=>?_,fun hc=>?_⟩
 ·rw [e0,hc]
  conv=>whnf
  rfl
 rw [e0,hc]
 clear e0
 conv=>whnf
 refine loop_up (cxOk _ _) s.lines.length (fun k=>(s.lines.take k).all fewLi=true) (fun k=>⟨[(1,.ptr 0 0),(2,.bool false),(3,.int .i64 (k:Nat))],[(0,.cells 28 (celSt s))],1⟩) rfl (by exact (wk_of [(0,.id 0)] rfl ⟨wc0,wa0,wa0,trivial⟩ ⟨wd0,trivial⟩)) ?_
 intro k hk hP
 conv=>whnf
 refine ⟨fun hd=>?_,fun hd=>?_⟩
 ·have hd:=of_decide_eq_true hd
  have hlt:k<s.lines.length:=by omega
  have hek:(k:Int).toNat=k:=Int.toNat_natCast k
  have hx:=o.line _ (getD_mem (d:=li0) hlt)
  have hp:fewLi (s.lines.getD k li0)=!(decide (900<((s.lines.getD k li0).text.length:Int))||decide (12<((s.lines.getD k li0).units.length:Int))||decide (12<((s.lines.getD k li0).noted.length:Int))||decide (12<((s.lines.getD k li0).stages.length:Int))):=by
   unfold fewLi
   rw [Bool.eq_iff_iff]
   simp only [Bool.and_eq_true,Bool.not_eq_true',Bool.or_eq_false_iff,decide_eq_true_eq,decide_eq_false_iff_not]
   omega
  conv=>whnf
  refine iO ?_;conv=>whnf
  refine And.intro rfl ?_;conv=>whnf
  try (rw [hek];conv=>whnf)
  refine ⟨fun he=>?_,fun he=>?_⟩
  ·have hz:fewLi (s.lines.getD k li0)=false:=by rw [hp,he];rfl
   rw [all_not hlt hz]
   conv=>whnf
   rfl
  ·conv=>whnf
   refine iO ?_;conv=>whnf
   refine up hlt ?_ (by exact (wk_of [(0,.id 0)] rfl ⟨wc0,wa0,wa0,trivial⟩ ⟨wd0,trivial⟩))
   rw [all_step (d:=li0) hlt,hP,hp,he]
   rfl
 have hd:=of_decide_eq_false hd
 obtain rfl:k=s.lines.length:=by omega
 rw [List.take_length] at hP
 rw [hP]
 clear hd hP hk
 conv=>whnf
 refine loop_up (cxOk _ _) s.proposals.length (fun k=>(s.proposals.take k).all fewPr=true) (fun k=>⟨[(1,.ptr 0 0),(2,.bool false),(5,.int .i64 (k:Nat))],[(0,.cells 28 (celSt s))],1⟩) rfl (by exact (wk_of [(0,.id 0)] rfl ⟨wc0,wa0,wa0,trivial⟩ ⟨wd0,trivial⟩)) ?_
 intro k hk hP
 conv=>whnf
 refine ⟨fun hd=>?_,fun hd=>?_⟩
 ·have hd:=of_decide_eq_true hd
  have hlt:k<s.proposals.length:=by omega
  have hek:(k:Int).toNat=k:=Int.toNat_natCast k
  have hx:=o.proposal _ (getD_mem (d:=pr0) hlt)
  have hp:fewPr (s.proposals.getD k pr0)=!(decide (900<((s.proposals.getD k pr0).text.length:Int))||decide (12<((s.proposals.getD k pr0).units.length:Int))||decide (12<((s.proposals.getD k pr0).votes.length:Int))):=by
   unfold fewPr
   rw [Bool.eq_iff_iff]
   simp only [Bool.and_eq_true,Bool.not_eq_true',Bool.or_eq_false_iff,decide_eq_true_eq,decide_eq_false_iff_not]
   omega
  conv=>whnf
  refine iO ?_;conv=>whnf
  refine And.intro rfl ?_;conv=>whnf
  try (rw [hek];conv=>whnf)
  refine ⟨fun he=>?_,fun he=>?_⟩
  ·have hz:fewPr (s.proposals.getD k pr0)=false:=by rw [hp,he];rfl
   rw [all_not hlt hz]
   conv=>whnf
   rfl
  ·conv=>whnf
   refine iO ?_;conv=>whnf
   refine up hlt ?_ (by exact (wk_of [(0,.id 0)] rfl ⟨wc0,wa0,wa0,trivial⟩ ⟨wd0,trivial⟩))
   rw [all_step (d:=pr0) hlt,hP,hp,he]
   rfl
 have hd:=of_decide_eq_false hd
 obtain rfl:k=s.proposals.length:=by omega
 rw [List.take_length] at hP
 rw [hP]
 conv=>whnf
 rfl
theorem line53 (x y:Lin) (hx:x.text.length≤9223372036854775807∧x.units.length≤9223372036854775807∧x.noted.length≤9223372036854775807∧x.stages.length≤9223372036854775807) (hy:y.text.length≤9223372036854775807∧y.units.length≤9223372036854775807∧y.noted.length≤9223372036854775807∧y.stages.length≤9223372036854775807) :
  APureV Tryz.prog 53 [encLi x,encLi y] (.bool (decide (x=y))):=by
 have g1:=ints51 x.units y.units hx.2.1 hy.2.1
 have g2:=ints51 x.noted y.noted hx.2.2.1 hy.2.2.1
 obtain ⟨hx1,hx2,hx3,hx4⟩:=hx
 obtain ⟨hy1,hy2,hy3,hy4⟩:=hy
 refine aO (cxOk 96 [0,1,2,3,4,5,77,82,95]) Tryz.func53 ?_
 conv=>whnf
 refine cO (fun _=>g1) ?_
 conv=>whnf
 refine cO (fun _=>g2) ?_
 conv=>whnf
 refine ⟨fun hc=>?_,fun hc=>?_⟩
 ·have hne:¬ x=y:=by
   intro h
   rw [h] at hc
   simp at hc
  rw [decide_eq_false hne]
  conv=>whnf
  rfl
 have hed:decide (x=y)=decide (x.stages=y.stages):=by
  rw [eqLin_dec]
  simp only [Bool.or_eq_false_iff,Bool.not_eq_false',decide_eq_true_eq] at hc
  simp only [hc,decide_true,Bool.true_and,Bool.and_true]
 rw [hed]
 have hlen:x.stages.length=y.stages.length:=by
  simp only [Bool.or_eq_false_iff,Bool.not_eq_false',decide_eq_true_eq] at hc
  omega
 conv=>whnf
 refine loop_up (cxOk _ _) x.stages.length (fun k=>∀ j,j<k→x.stages.getD j br0=y.stages.getD j br0) (fun k=>⟨[(2,.ptr 0 0),(3,.ptr 1 0),(4,.bool false),(5,.int .i64 (k:Nat))],[(0,.cells 47 (celLi x)),(1,.cells 47 (celLi y))],2⟩) (by intro j hj;omega) (by exact (wk_of [(0,.id 0),(1,.id 1)] rfl ⟨wc0,wc0,wa0,wa0,trivial⟩ ⟨wd0,wd0,trivial⟩)) ?_
 intro k hk hP
 conv=>whnf
 refine ⟨fun hd=>?_,fun hd=>?_⟩
 ·have hd:=of_decide_eq_true hd
  have hlt:k<x.stages.length:=by omega
  have hltr:k<y.stages.length:=by omega
  have hek:(k:Int).toNat=k:=Int.toNat_natCast k
  conv=>whnf
  refine .quiet (by kernel_rfl) ?_;conv=>whnf
  refine iO ?_;conv=>whnf
  refine And.intro rfl ?_;conv=>whnf
  refine iO ?_;conv=>whnf
  refine And.intro rfl ?_;conv=>whnf
  try (rw [hek];conv=>whnf)
  try (rw [hek];conv=>whnf)
  refine And.intro ⟨by kernel_rfl,by kernel_rfl⟩ ?_
  conv=>whnf
  rw [show ((decide ((x.stages.getD k br0).stage=(y.stages.getD k br0).stage)&&(decide ((x.stages.getD k br0).since=(y.stages.getD k br0).since)&&true)))=decide (x.stages.getD k br0=y.stages.getD k br0) from (eqBrc_dec _ _).symm]
  refine ⟨fun he=>?_,fun he=>?_⟩
  ·have hne:¬ x.stages=y.stages:=by
    intro h
    rw [h] at he
    simp at he
   rw [decide_eq_false hne]
   conv=>whnf
   try simp only [Bool.and_false,Bool.false_and]
   rfl
  ·have he:x.stages.getD k br0=y.stages.getD k br0:=by simpa using he
   conv=>whnf
   refine iO ?_;conv=>whnf
   refine up hlt (fun j hj=>?_) (by exact (wk_of [(0,.id 0),(1,.id 1)] rfl ⟨wc0,wc0,wa0,wa0,trivial⟩ ⟨wd0,wd0,trivial⟩))
   by_cases e:j=k
   ·subst e;exact he
   ·exact hP j om0
 have hd:=of_decide_eq_false hd
 have he:x.stages=y.stages:=list_eq (d:=br0) hlen fun j hj=>hP j (by omega)
 rw [decide_eq_true he]
 clear hd hP hk
 conv=>whnf
 rfl
theorem pro54 (x y:Pro) (hx:x.text.length≤9223372036854775807∧x.units.length≤9223372036854775807∧x.votes.length≤9223372036854775807) (hy:y.text.length≤9223372036854775807∧y.units.length≤9223372036854775807∧y.votes.length≤9223372036854775807) :
  APureV Tryz.prog 54 [encPr x,encPr y] (.bool (decide (x=y))):=by
 have g1:=ints51 x.units y.units hx.2.1 hy.2.1
 obtain ⟨hx1,hx2,hx3⟩:=hx
 obtain ⟨hy1,hy2,hy3⟩:=hy
 refine aO (cxOk 67 [0,1,2,3,4,5,48,53,66]) Tryz.func54 ?_
 conv=>whnf
 refine cO (fun _=>g1) ?_
 conv=>whnf
 refine ⟨fun hc=>?_,fun hc=>?_⟩
 ·have hne:¬ x=y:=by
   intro h
   rw [h] at hc
   simp at hc
  rw [decide_eq_false hne]
  conv=>whnf
  rfl
 have hed:decide (x=y)=decide (x.votes=y.votes):=by
  rw [eqPro_dec]
  simp only [Bool.or_eq_false_iff,Bool.not_eq_false',decide_eq_true_eq] at hc
  simp only [hc,decide_true,Bool.true_and,Bool.and_true]
 rw [hed]
 have hlen:x.votes.length=y.votes.length:=by
  simp only [Bool.or_eq_false_iff,Bool.not_eq_false',decide_eq_true_eq] at hc
  omega
 conv=>whnf
 refine loop_up (cxOk _ _) x.votes.length (fun k=>∀ j,j<k→x.votes.getD j vo0=y.votes.getD j vo0) (fun k=>⟨[(2,.ptr 0 0),(3,.ptr 1 0),(4,.bool false),(5,.int .i64 (k:Nat))],[(0,.cells 64 (celPr x)),(1,.cells 64 (celPr y))],2⟩) (by intro j hj;omega) (by exact (wk_of [(0,.id 0),(1,.id 1)] rfl ⟨wc0,wc0,wa0,wa0,trivial⟩ ⟨wd0,wd0,trivial⟩)) ?_
 intro k hk hP
 conv=>whnf
 refine ⟨fun hd=>?_,fun hd=>?_⟩
 ·have hd:=of_decide_eq_true hd
  have hlt:k<x.votes.length:=by omega
  have hltr:k<y.votes.length:=by omega
  have hek:(k:Int).toNat=k:=Int.toNat_natCast k
  conv=>whnf
  refine .quiet (by kernel_rfl) ?_;conv=>whnf
  refine iO ?_;conv=>whnf
  refine And.intro rfl ?_;conv=>whnf
  refine iO ?_;conv=>whnf
  refine And.intro rfl ?_;conv=>whnf
  try (rw [hek];conv=>whnf)
  try (rw [hek];conv=>whnf)
  refine And.intro ⟨by kernel_rfl,by kernel_rfl⟩ ?_
  conv=>whnf
  rw [show ((decide ((x.votes.getD k vo0).seat=(y.votes.getD k vo0).seat)&&(decide ((x.votes.getD k vo0).day=(y.votes.getD k vo0).day)&&(decide ((x.votes.getD k vo0).yes=(y.votes.getD k vo0).yes)&&true))))=decide (x.votes.getD k vo0=y.votes.getD k vo0) from (eqVot_dec _ _).symm]
  refine ⟨fun he=>?_,fun he=>?_⟩
  ·have hne:¬ x.votes=y.votes:=by
    intro h
    rw [h] at he
    simp at he
   rw [decide_eq_false hne]
   conv=>whnf
   try simp only [Bool.and_false,Bool.false_and]
   rfl
  ·have he:x.votes.getD k vo0=y.votes.getD k vo0:=by simpa using he
   conv=>whnf
   refine iO ?_;conv=>whnf
   refine up hlt (fun j hj=>?_) (by exact (wk_of [(0,.id 0),(1,.id 1)] rfl ⟨wc0,wc0,wa0,wa0,trivial⟩ ⟨wd0,wd0,trivial⟩))
   by_cases e:j=k
   ·subst e;exact he
   ·exact hP j om0
 have hd:=of_decide_eq_false hd
 have he:x.votes=y.votes:=list_eq (d:=vo0) hlen fun j hj=>hP j (by omega)
 rw [decide_eq_true he]
 clear hd hP hk
 conv=>whnf
 rfl
theorem same12 (a b:Sta) (oa:OkS a) (ob:OkS b):APureV Tryz.prog 12 [encSt a,encSt b] (.bool (decide (a=b))):=by
 have g1:=ints51 a.cash b.cash oa.cash ob.cash
 have g2:=ints51 a.purses b.purses oa.purses ob.purses
 have g3:=facts52 a.facts b.facts oa.facts ob.facts
 have h1:=oa.lines
 have h2:=oa.payments
 have h3:=oa.proposals
 have h4:=ob.lines
 have h5:=ob.payments
 have h6:=ob.proposals
 refine aO (cxOk 127 [0,1,2,3,4,5,6,7,70,75,89,94,107,112,126]) Tryz.func12 ?_
 conv=>whnf
 refine cO (fun _=>g1) ?_
 conv=>whnf
 refine cO (fun _=>g2) ?_
 conv=>whnf
 refine cO (fun _=>g3) ?_
 conv=>whnf
 refine ⟨fun hc=>?_,fun hc=>?_⟩
 ·have hne:¬ a=b:=by
   intro h
   rw [h] at hc
   simp at hc
  rw [decide_eq_false hne]
  conv=>whnf
  rfl
 have hed:decide (a=b)=(decide (a.lines=b.lines)&&(decide (a.payments=b.payments)&&decide (a.proposals=b.proposals))):=by
  rw [eqSta_dec]
  simp only [Bool.or_eq_false_iff,Bool.not_eq_false',decide_eq_true_eq] at hc
  simp only [hc,decide_true,Bool.true_and,Bool.and_true]
  cases decide (a.lines=b.lines)<;>cases decide (a.payments=b.payments)<;>cases decide (a.proposals=b.proposals)<;>rfl
 rw [hed]
 clear hed
 simp only [Bool.or_eq_false_iff,Bool.not_eq_false',decide_eq_true_eq] at hc
 have hlen:a.lines.length=b.lines.length:=by omega
 have hlen2:a.payments.length=b.payments.length:=by omega
 have hlen3:a.proposals.length=b.proposals.length:=by omega
 conv=>whnf
 refine loop_up (cxOk _ _) a.lines.length (fun k=>∀ j,j<k→a.lines.getD j li0=b.lines.getD j li0) (fun k=>⟨[(2,.ptr 0 0),(3,.ptr 1 0),(4,.bool false),(5,.int .i64 (k:Nat))],[(0,.cells 28 (celSt a)),(1,.cells 28 (celSt b))],2⟩) (by intro j hj;omega) (by exact (wk_of [(0,.id 0),(1,.id 1)] rfl ⟨wc0,wc0,wa0,wa0,trivial⟩ ⟨wd0,wd0,trivial⟩)) ?_
 intro k hk hP
 conv=>whnf
 refine ⟨fun hd=>?_,fun hd=>?_⟩
 ·have hd:=of_decide_eq_true hd
  have hlt:k<a.lines.length:=by omega
  have hltr:k<b.lines.length:=by omega
  have hek:(k:Int).toNat=k:=Int.toNat_natCast k
  have hone:=line53 (a.lines.getD k li0) (b.lines.getD k li0) (oa.line _ (getD_mem hlt)) (ob.line _ (getD_mem hltr))
  conv=>whnf
  refine .quiet (by kernel_rfl) ?_;conv=>whnf
  refine iO ?_;conv=>whnf
  refine And.intro rfl ?_;conv=>whnf
  refine iO ?_;conv=>whnf
  refine And.intro rfl ?_;conv=>whnf
  try (rw [hek];conv=>whnf)
  try (rw [hek];conv=>whnf)
  refine .mk _ _ _ _ (fun _=>hone) ao0 rfl ?_
  conv=>whnf
  refine ⟨fun he=>?_,fun he=>?_⟩
  ·have hne:¬ a.lines=b.lines:=by
    intro h
    rw [h] at he
    simp at he
   rw [decide_eq_false hne]
   conv=>whnf
   try simp only [Bool.and_false,Bool.false_and]
   rfl
  ·have he:a.lines.getD k li0=b.lines.getD k li0:=by simpa using he
   conv=>whnf
   refine iO ?_;conv=>whnf
   refine up hlt (fun j hj=>?_) (by exact (wk_of [(0,.id 0),(1,.id 1)] rfl ⟨wc0,wc0,wa0,wa0,trivial⟩ ⟨wd0,wd0,trivial⟩))
   by_cases e:j=k
   ·subst e;exact he
   ·exact hP j om0
 have hd:=of_decide_eq_false hd
 have he:a.lines=b.lines:=list_eq (d:=li0) hlen fun j hj=>hP j (by omega)
 rw [decide_eq_true he]
 clear hd hP hk
 conv=>whnf
 clear hlen
 have hlen:=hlen2
 refine loop_up (cxOk _ _) a.payments.length (fun k=>∀ j,j<k→a.payments.getD j pa0=b.payments.getD j pa0) (fun k=>⟨[(2,.ptr 0 0),(3,.ptr 1 0),(4,.bool false),(6,.int .i64 (k:Nat))],[(0,.cells 28 (celSt a)),(1,.cells 28 (celSt b))],2⟩) (by intro j hj;omega) (by exact (wk_of [(0,.id 0),(1,.id 1)] rfl ⟨wc0,wc0,wa0,wa0,trivial⟩ ⟨wd0,wd0,trivial⟩)) ?_
 intro k hk hP
 conv=>whnf
 refine ⟨fun hd=>?_,fun hd=>?_⟩
 ·have hd:=of_decide_eq_true hd
  have hlt:k<a.payments.length:=by omega
  have hltr:k<b.payments.length:=by omega
  have hek:(k:Int).toNat=k:=Int.toNat_natCast k
  conv=>whnf
  refine .quiet (by kernel_rfl) ?_;conv=>whnf
  refine iO ?_;conv=>whnf
  refine And.intro rfl ?_;conv=>whnf
  refine iO ?_;conv=>whnf
  refine And.intro rfl ?_;conv=>whnf
  try (rw [hek];conv=>whnf)
  try (rw [hek];conv=>whnf)
  refine And.intro ⟨by kernel_rfl,by kernel_rfl⟩ ?_
  conv=>whnf
  rw [show ((decide ((a.payments.getD k pa0).issue=(b.payments.getD k pa0).issue)&&(decide ((a.payments.getD k pa0).seat=(b.payments.getD k pa0).seat)&&(decide ((a.payments.getD k pa0).day=(b.payments.getD k pa0).day)&&(decide ((a.payments.getD k pa0).due=(b.payments.getD k pa0).due)&&(decide ((a.payments.getD k pa0).paid=(b.payments.getD k pa0).paid)&&(decide ((a.payments.getD k pa0).period=(b.payments.getD k pa0).period)&&true)))))))=decide (a.payments.getD k pa0=b.payments.getD k pa0) from (eqPay_dec _ _).symm]
  refine ⟨fun he=>?_,fun he=>?_⟩
  ·have hne:¬ a.payments=b.payments:=by
    intro h
    rw [h] at he
    simp at he
   rw [decide_eq_false hne]
   conv=>whnf
   try simp only [Bool.and_false,Bool.false_and]
   rfl
  ·have he:a.payments.getD k pa0=b.payments.getD k pa0:=by simpa using he
   conv=>whnf
   refine iO ?_;conv=>whnf
   refine up hlt (fun j hj=>?_) (by exact (wk_of [(0,.id 0),(1,.id 1)] rfl ⟨wc0,wc0,wa0,wa0,trivial⟩ ⟨wd0,wd0,trivial⟩))
   by_cases e:j=k
   ·subst e;exact he
   ·exact hP j om0
 have hd:=of_decide_eq_false hd
 have he:a.payments=b.payments:=list_eq (d:=pa0) hlen fun j hj=>hP j (by omega)
 rw [decide_eq_true he]
 clear hd hP hk
 conv=>whnf
 clear hlen
 have hlen:=hlen3
 refine loop_up (cxOk _ _) a.proposals.length (fun k=>∀ j,j<k→a.proposals.getD j pr0=b.proposals.getD j pr0) (fun k=>⟨[(2,.ptr 0 0),(3,.ptr 1 0),(4,.bool false),(7,.int .i64 (k:Nat))],[(0,.cells 28 (celSt a)),(1,.cells 28 (celSt b))],2⟩) (by intro j hj;omega) (by exact (wk_of [(0,.id 0),(1,.id 1)] rfl ⟨wc0,wc0,wa0,wa0,trivial⟩ ⟨wd0,wd0,trivial⟩)) ?_
 intro k hk hP
 conv=>whnf
 refine ⟨fun hd=>?_,fun hd=>?_⟩
 ·have hd:=of_decide_eq_true hd
  have hlt:k<a.proposals.length:=by omega
  have hltr:k<b.proposals.length:=by omega
  have hek:(k:Int).toNat=k:=Int.toNat_natCast k
  have hone:=pro54 (a.proposals.getD k pr0) (b.proposals.getD k pr0) (oa.proposal _ (getD_mem hlt)) (ob.proposal _ (getD_mem hltr))
  conv=>whnf
  refine .quiet (by kernel_rfl) ?_;conv=>whnf
  refine iO ?_;conv=>whnf
  refine And.intro rfl ?_;conv=>whnf
  refine iO ?_;conv=>whnf
  refine And.intro rfl ?_;conv=>whnf
  try (rw [hek];conv=>whnf)
  try (rw [hek];conv=>whnf)
  refine .mk _ _ _ _ (fun _=>hone) ao0 rfl ?_
  conv=>whnf
  refine ⟨fun he=>?_,fun he=>?_⟩
  ·have hne:¬ a.proposals=b.proposals:=by
    intro h
    rw [h] at he
    simp at he
   rw [decide_eq_false hne]
   conv=>whnf
   try simp only [Bool.and_false,Bool.false_and]
   rfl
  ·have he:a.proposals.getD k pr0=b.proposals.getD k pr0:=by simpa using he
   conv=>whnf
   refine iO ?_;conv=>whnf
   refine up hlt (fun j hj=>?_) (by exact (wk_of [(0,.id 0),(1,.id 1)] rfl ⟨wc0,wc0,wa0,wa0,trivial⟩ ⟨wd0,wd0,trivial⟩))
   by_cases e:j=k
   ·subst e;exact he
   ·exact hP j om0
 have hd:=of_decide_eq_false hd
 have he:a.proposals=b.proposals:=list_eq (d:=pr0) hlen fun j hj=>hP j (by omega)
 rw [decide_eq_true he]
 clear hd hP hk
 conv=>whnf
 rfl
structure OkC (s:Sta):Prop where
 cash:s.cash.length≤1000000
 purses:s.purses.length≤1000000
 lines:s.lines.length≤1000000
 facts:s.facts.length≤1000000
 payments:s.payments.length≤1000000
 proposals:s.proposals.length≤1000000
 line:∀ x∈s.lines,x.units.length≤1000000∧x.noted.length≤1000000∧x.stages.length≤1000000
 proposal:∀ x∈s.proposals,x.units.length≤1000000∧x.votes.length≤1000000
theorem FewS.okC {s:Sta} (h:FewS s):OkC s :=
 ⟨by have:=h.cash;omega,by have:=h.purses;omega,by have:=h.lines;omega,by have:=h.facts;omega,by have:=h.payments;omega,by have:=h.proposals;omega,fun x hx=>(by have:=h.line x hx;omega),fun x hx=>(by have:=h.proposal x hx;omega)⟩
theorem set_same {α:Type} {l:List α} {k:Nat} {d:α} (h:k<l.length):l.set k (l.getD k d)=l:=by
 apply List.ext_getElem?
 intro j
 rw [List.getElem?_set]
 split
 ·rename_i e
  subst e
  rw [List.getD_eq_getElem?_getD,List.getElem?_eq_getElem h]
  rfl
 ·rfl
theorem copy_ok (s:Sta) (h:OkC s):APureV Tryz.prog 18 [encSt s] (encSt s):=by
 have g1:=clf108 s.cash h.cash
 have g2:=clf108 s.purses h.purses
 have g3:=clf109 s.facts h.facts
 have g4:=clf110 s.payments h.payments
 have g5:=cl111 s.lines h.lines
 have g6:=cl112 s.proposals h.proposals
 refine aW (cxOk 94 [0,1,2,3,4,5,6,33,34,35,68,69,70]) Tryz.func18 ?_
 conv=>whnf
 refine .eff ad0 ?_;conv=>whnf
 refine cO (fun _=>g1) ?_
 conv=>whnf
 refine cO (fun _=>g2) ?_
 conv=>whnf
 refine cO (fun _=>g3) ?_
 conv=>whnf
 refine cO (fun _=>g4) ?_
 conv=>whnf
 refine ⟨by kernel_rfl,?_⟩
 conv=>whnf
 refine .eff ad0 ?_;conv=>whnf
 refine cO (fun _=>g5) ?_
 conv=>whnf
 refine cO (fun _=>g6) ?_
 conv=>whnf
 refine ⟨by kernel_rfl,?_⟩
 conv=>whnf
 have hl:=h.lines
 refine loop_up (cxOk _ _) s.lines.length (fun _=>True) (fun k=>⟨[(1,.ptr 0 0),(2,.ptr 1 0),(33,.int .i64 (s.lines.length:Nat)),(34,.int .i64 (k:Nat))],[(0,.cells 28 [.int .i64 s.day,.sl 1 encI 0 s.cash,.sl 1 encI 0 s.purses,.int .i64 s.outside,.own 2,.sl 5 encFa fa0 s.facts,.sl 6 encPa pa0 s.payments,.own 3]),(1,.cells 28 (celSt st0)),(2,.row 47 10 encLi li0 s.lines),(3,.row 64 6 encPr pr0 s.proposals)],4⟩) trivial (by exact (wk_of [(0,.id 0),(1,.id 1),(2,.id 2),(3,.id 3)] rfl ⟨wc0,wc0,wa0,wa0,trivial⟩ ⟨wd0,⟨_,rfl,.cells _ _ _ _ rfl (by repeat (first | exact .nil | refine .cons (by first | exact .base (.tree _ _ rfl rfl) | exact .base (.own _ _ rfl) | exact .base (.ptr _ _ _ rfl) | exact .base (.map _ _ rfl) | exact .base (.nilown _ rfl) | exact .fn _ _ _ _ _ .nil (by repeat (first | exact .nil | refine .cons (by exact .ptr _ _ _ rfl) ?_)) | exact .base (.tree _ _ (by first | exact LeT.nils_sl 1 encI 0 | exact LeT.nils_sl 10 encLi li0 | exact LeT.nils_sl 5 encFa fa0 | exact LeT.nils_sl 6 encPa pa0 | exact LeT.nils_sl 6 encPr pr0) rfl) | exact .base (.leT _ _ (by first | exact LeT.nils_sl 1 encI 0 | exact LeT.nils_sl 10 encLi li0 | exact LeT.nils_sl 5 encFa fa0 | exact LeT.nils_sl 6 encPa pa0 | exact LeT.nils_sl 6 encPr pr0) rfl)) ?_)) rfl⟩,we0,we0,trivial⟩)) ?_
 intro k hk _
 conv=>whnf
 refine ⟨fun hd=>?_,fun hd=>?_⟩
 ·have hd:=of_decide_eq_true hd
  have hlt:k<s.lines.length:=by omega
  have hek:(k:Int).toNat=k:=Int.toNat_natCast k
  have hx:=h.line _ (getD_mem (d:=li0) hlt)
  have k1:=clf108 (s.lines.getD k li0).units hx.1
  have k2:=clf108 (s.lines.getD k li0).noted hx.2.1
  have k3:=clf113 (s.lines.getD k li0).stages hx.2.2
  conv=>whnf
  refine iO ?_;conv=>whnf
  refine .eff ad0 ?_;conv=>whnf
  refine And.intro om0 (And.intro rfl ?_);conv=>whnf
  try (rw [hek];conv=>whnf)
  refine cO (fun _=>k1) ?_
  conv=>whnf
  refine And.intro om0 (And.intro rfl ?_);conv=>whnf
  refine cO (fun _=>k2) ?_
  conv=>whnf
  refine And.intro om0 (And.intro rfl ?_);conv=>whnf
  refine cO (fun _=>k3) ?_
  conv=>whnf
  refine Exists.intro _ (And.intro rfl ?_);conv=>whnf
  refine And.intro hlt (And.intro ⟨rfl,rfl,(show 1+1≤10 by decide),rfl,rfl⟩ ?_)
  conv=>whnf
  rw [set_same hlt]
  refine Exists.intro _ (And.intro rfl ?_);conv=>whnf
  refine And.intro hlt (And.intro ⟨rfl,rfl,(show 2+1≤10 by decide),rfl,rfl⟩ ?_)
  conv=>whnf
  rw [set_same hlt]
  refine Exists.intro _ (And.intro rfl ?_);conv=>whnf
  refine And.intro hlt (And.intro ⟨rfl,rfl,(show 4+1≤10 by decide),rfl,rfl⟩ ?_)
  conv=>whnf
  rw [set_same hlt]
  refine And.intro rfl ?_;conv=>whnf
  refine iO ?_;conv=>whnf
  exact up hlt trivial (by exact (wk_of [(0,.id 0),(1,.id 1),(2,.id 2),(3,.id 3)] rfl ⟨wc0,wc0,wa0,wa0,trivial⟩ ⟨wd0,wd0,we0,we0,trivial⟩))
 conv=>whnf
 have hm:=h.proposals
 refine loop_up (cxOk _ _) s.proposals.length (fun _=>True) (fun k=>⟨[(1,.ptr 0 0),(2,.ptr 1 0),(68,.int .i64 (s.proposals.length:Nat)),(69,.int .i64 (k:Nat))],[(0,.cells 28 [.int .i64 s.day,.sl 1 encI 0 s.cash,.sl 1 encI 0 s.purses,.int .i64 s.outside,.own 2,.sl 5 encFa fa0 s.facts,.sl 6 encPa pa0 s.payments,.own 3]),(1,.cells 28 (celSt st0)),(2,.row 47 10 encLi li0 s.lines),(3,.row 64 6 encPr pr0 s.proposals)],4⟩) trivial (by exact (wk_of [(0,.id 0),(1,.id 1),(2,.id 2),(3,.id 3)] rfl ⟨wc0,wc0,wa0,wa0,trivial⟩ ⟨wd0,wd0,we0,we0,trivial⟩)) ?_
 intro k hk _
 conv=>whnf
 refine ⟨fun hd=>?_,fun hd=>?_⟩
 ·have hd:=of_decide_eq_true hd
  have hlt:k<s.proposals.length:=by omega
  have hek:(k:Int).toNat=k:=Int.toNat_natCast k
  have hx:=h.proposal _ (getD_mem (d:=pr0) hlt)
  have k1:=clf108 (s.proposals.getD k pr0).units hx.1
  have k2:=clf114 (s.proposals.getD k pr0).votes hx.2
  conv=>whnf
  refine iO ?_;conv=>whnf
  refine .eff ad0 ?_;conv=>whnf
  refine And.intro om0 (And.intro rfl ?_);conv=>whnf
  try (rw [hek];conv=>whnf)
  refine cO (fun _=>k1) ?_
  conv=>whnf
  refine And.intro om0 (And.intro rfl ?_);conv=>whnf
  refine cO (fun _=>k2) ?_
  conv=>whnf
  refine Exists.intro _ (And.intro rfl ?_);conv=>whnf
  refine And.intro hlt (And.intro ⟨rfl,rfl,(show 3+1≤6 by decide),rfl,rfl⟩ ?_)
  conv=>whnf
  rw [set_same hlt]
  refine Exists.intro _ (And.intro rfl ?_);conv=>whnf
  refine And.intro hlt (And.intro ⟨rfl,rfl,(show 4+1≤6 by decide),rfl,rfl⟩ ?_)
  conv=>whnf
  rw [set_same hlt]
  refine And.intro rfl ?_;conv=>whnf
  refine iO ?_;conv=>whnf
  exact up hlt trivial (by exact (wk_of [(0,.id 0),(1,.id 1),(2,.id 2),(3,.id 3)] rfl ⟨wc0,wc0,wa0,wa0,trivial⟩ ⟨wd0,wd0,we0,we0,trivial⟩))
 conv=>whnf
 refine ⟨⟨[(2,.ptr 0 0)],[(0,.cells 28 (celSt s))],1⟩,(wk_frz [2,3]).trans (wk_of [(0,.id 1)] rfl ⟨wc0,trivial⟩ ⟨wb0,trivial⟩),?_⟩
 conv=>whnf
 rfl
def exS:Sta:=⟨7,[5,0],[9],-2,[],[⟨3,[99,97,115,104],6,500,7⟩],[],[]⟩
def exT:List UInt8:=[55,59,50,59,53,59,48,59,49,59,57,59,45,50,59,48,59,49,59,51,59,52,58,99,97,115,104,44,54,59,53,48,48,59,55,59,48,59,48,59]
theorem ex_right:rightS exS=true:=by decide +kernel
theorem ex_text:stT exS=exT:=by decide +kernel
theorem st0_text:stT st0=[48,59,48,59,48,59,48,59,48,59,48,59,48,59,48,59]:=by decide +kernel
def stM:Sta:=⟨-1,[],[],0,[],[],[],[]⟩
theorem stM_text:stT stM=[]:=by decide +kernel
theorem ex_read:readZ exT=(exS,0):=by
 have h:=read_back ex_right
 rw [ex_text] at h
 unfold readZ
 rw [if_pos h.2.2,h.2.1]
theorem ex_money:moneyS exS=14:=by decide +kernel
theorem example_ok:APureV Tryz.prog 24 [] (encSt exS):=by
 refine aW (cxOk 6 [0]) Tryz.func24 ?_
 conv=>whnf
 refine ⟨⟨[(0,.ptr 0 0)],[(0,.cells 28 (celSt exS))],1⟩,(wk_frz [1,2,3]).trans (wk_of [(0,.id 0)] rfl ⟨wc0,trivial⟩ ⟨⟨_,rfl,.cells _ _ _ _ rfl (by repeat (first | exact .nil | refine .cons (by first | exact .base (.tree _ _ rfl rfl) | exact .base (.own _ _ rfl) | exact .base (.ptr _ _ _ rfl) | exact .base (.map _ _ rfl) | exact .base (.nilown _ rfl) | exact .fn _ _ _ _ _ .nil (by repeat (first | exact .nil | refine .cons (by exact .ptr _ _ _ rfl) ?_)) | exact .base (.tree _ _ (by first | exact LeT.lsl_sl encI 0 [5,0] rfl | exact LeT.lsl_sl encI 0 [9] rfl | exact LeT.lsl_sl encFa fa0 exS.facts rfl | exact LeT.nils_sl 10 encLi li0 | exact LeT.nils_sl 6 encPa pa0 | exact LeT.nils_sl 6 encPr pr0) rfl) | exact .base (.leT _ _ (by first | exact LeT.lsl_sl encI 0 [5,0] rfl | exact LeT.lsl_sl encI 0 [9] rfl | exact LeT.lsl_sl encFa fa0 exS.facts rfl | exact LeT.nils_sl 10 encLi li0 | exact LeT.nils_sl 6 encPa pa0 | exact LeT.nils_sl 6 encPr pr0) rfl)) ?_)) rfl⟩,trivial⟩),?_⟩
 conv=>whnf
 rfl
theorem ex_ok:OkS exS:=by
 refine ⟨?_,?_,?_,?_,?_,?_,?_,?_,?_⟩<;>simp [exS]
theorem st0_ok:OkS st0:=by
 refine ⟨?_,?_,?_,?_,?_,?_,?_,?_,?_⟩<;>simp
theorem stM_ok:OkS stM:=by
 refine ⟨?_,?_,?_,?_,?_,?_,?_,?_,?_⟩<;>simp [stM]
theorem ex_okC:OkC exS:=by
 refine ⟨?_,?_,?_,?_,?_,?_,?_,?_⟩<;>simp [exS]
theorem small_ok:APureV Tryz.prog 8 [] (.bool true):=by
 have g1:=read_st exT (by decide)
 unfold readA at g1
 rw [ex_read] at g1
 dsimp only at g1
 have g2:=text_st st0 st0_ok
 rw [st0_text] at g2
 have g3:=example_ok
 have g4:=text_st exS ex_ok
 rw [ex_text] at g4
 have g5:=same12 exS exS ex_ok ex_ok
 rw [decide_eq_true rfl] at g5
 have g6:=text_st stM stM_ok
 rw [stM_text] at g6
 have g7:=same_st exS exS ex_ok ex_ok
 rw [decide_eq_true rfl] at g7
 have g8:=right_ok exS ex_ok
 rw [ex_right] at g8
 have g9:=copy_ok exS ex_okC
 have gm:=money_ok exS ex_ok
 rw [ex_money] at gm
 refine aW (cxOk 54 [0,1,2,3,4]) Tryz.func8 ?_
 conv=>whnf
 refine cO (fun _=>g1) ?_
 conv=>whnf
 refine .eff ad0 ?_;conv=>whnf
 refine .one _ _ _ (fun _=>g2) (BorL.cons (.agg _ _ _ (.cons (.base (.base (.same _ rfl))) (.cons (.base (.base (.nils _ _ _))) (.cons (.base (.base (.nils _ _ _))) (.cons (.base (.base (.same _ rfl))) (.cons (.base (.base (.nils _ _ _))) (.cons (.base (.base (.nils _ _ _))) (.cons (.base (.base (.nils _ _ _))) (.cons (.base (.base (.nils _ _ _))) .nil))))))))) ao0) ah0 ag0 ?_
 conv=>whnf
 rw [decide_eq_true (show ([48,59,48,59,48,59,48,59,48,59,48,59,48,59,48,59]:List UInt8)=(⟨#[48,59,48,59,48,59,48,59,48,59,48,59,48,59,48,59]⟩:ByteArray).data.toList from rfl)]
 refine gT ?_
 conv=>whnf
 refine cO (fun _=>g3) ?_
 conv=>whnf
 refine gT ?_
 conv=>whnf
 refine cO (fun _=>g4) ?_
 conv=>whnf
 refine nE ?_;conv=>whnf
 refine nE ?_;conv=>whnf
 refine nE ?_;conv=>whnf
 refine nE ?_;conv=>whnf
 refine nE ?_;conv=>whnf
 refine nE ?_;conv=>whnf
 refine nE ?_;conv=>whnf
 refine nE ?_;conv=>whnf
 rw [decide_eq_true (show exT=(⟨#[55,59,50,59,53,59,48,59,49,59,57,59,45,50,59,48,59,49,59,51,59,52,58,99,97,115,104,44,54,59,53,48,48,59,55,59,48,59,48,59]⟩:ByteArray).data.toList from rfl)]
 refine cO (fun _=>g3) ?_
 conv=>whnf
 refine nE ?_;conv=>whnf
 refine cO (fun _=>g5) ?_
 conv=>whnf
 refine nE ?_;conv=>whnf
 refine And.intro rfl ?_;conv=>whnf
 refine .eff ad0 ?_;conv=>whnf
 refine nE ?_;conv=>whnf
 refine nE ?_;conv=>whnf
 refine .one _ _ _ (fun _=>g6) (BorL.cons (.agg _ _ _ (.cons (.base (.base (.same _ rfl))) (.cons (.base (.base (.nils _ _ _))) (.cons (.base (.base (.nils _ _ _))) (.cons (.base (.base (.same _ rfl))) (.cons (.base (.base (.nils _ _ _))) (.cons (.base (.base (.nils _ _ _))) (.cons (.base (.base (.nils _ _ _))) (.cons (.base (.base (.nils _ _ _))) .nil))))))))) ao0) ah0 ag0 ?_
 conv=>whnf
 refine nE ?_;conv=>whnf
 refine nE ?_;conv=>whnf
 refine nE ?_;conv=>whnf
 refine nE ?_;conv=>whnf
 refine cO (fun _=>g3) ?_
 conv=>whnf
 refine nE ?_;conv=>whnf
 refine cO (fun _=>g7) ?_
 conv=>whnf
 refine nE ?_;conv=>whnf
 refine nE ?_;conv=>whnf
 refine nE ?_;conv=>whnf
 refine cO (fun _=>g8) ?_
 conv=>whnf
 refine nE ?_;conv=>whnf
 refine nE ?_;conv=>whnf
 refine cO (fun _=>g3) ?_
 conv=>whnf
 refine nE ?_;conv=>whnf
 refine cO (fun _=>g9) ?_
 conv=>whnf
 refine nE ?_;conv=>whnf
 refine nE ?_;conv=>whnf
 refine cO (fun _=>g5) ?_
 conv=>whnf
 refine nE ?_;conv=>whnf
 refine nE ?_;conv=>whnf
 refine nE ?_;conv=>whnf
 refine cO (fun _=>gm) ?_
 conv=>whnf
 refine nE ?_;conv=>whnf
 refine nE ?_;conv=>whnf
 refine And.intro rfl ?_;conv=>whnf
 refine ⟨_,Wk.refl _,?_⟩
 conv=>whnf
 rfl
abbrev celOwn (s:Sta):List AV:=[.int .i64 s.day,.own 1,.own 2,.int .i64 s.outside,.own 5,.own 3,.own 4,.own 6]
abbrev objC (s:Sta):List AB:=[.cells 28 (celOwn s),.row 3 1 encI 0 s.cash,.row 3 1 encI 0 s.purses,.row 41 5 encFa fa0 s.facts,.row 43 6 encPa pa0 s.payments,.row 47 10 encLi li0 s.lines,.row 64 6 encPr pr0 s.proposals]
theorem copied_r (s:Sta) (h:OkC s):RIO Tryz.prog 21 [encSt s] [] 0 (fun vs bs es=>vs=[.agg (celOwn s)]∧bs=[]∧es=objC s):=by
 have h1:=h.cash
 have h2:=h.purses
 have h3:=h.lines
 have h4:=h.facts
 have h5:=h.payments
 have h6:=h.proposals
 refine rO (cxPOk 0 107 [0,1,2,3,4,5,6,34,77]) Tryz.func21 ?_
 conv=>whnf
 refine And.intro rfl ?_;conv=>whnf
 refine And.intro ⟨rfl,rfl⟩ (And.intro (show (0+s.cash.length)*8≤140737488355328 by omega) ?_)
 conv=>whnf
 refine And.intro rfl ?_;conv=>whnf
 refine And.intro ⟨rfl,rfl⟩ (And.intro (show (0+s.purses.length)*8≤140737488355328 by omega) ?_)
 conv=>whnf
 refine And.intro rfl ?_;conv=>whnf
 refine And.intro ⟨rfl,rfl⟩ (And.intro (show (0+s.facts.length)*48≤140737488355328 by omega) ?_)
 conv=>whnf
 refine And.intro rfl ?_;conv=>whnf
 refine And.intro ⟨rfl,rfl⟩ (And.intro (show (0+s.payments.length)*48≤140737488355328 by omega) ?_)
 conv=>whnf
 refine And.intro rfl ?_;conv=>whnf
 refine And.intro ⟨rfl,rfl⟩ (And.intro (show (0+s.lines.length)*136≤140737488355328 by omega) ?_)
 conv=>whnf
 refine loop_up (cxPOk _ _ _) s.lines.length (fun _=>True) (fun k=>⟨[(1,.ptr 0 0),(2,.ptr 1 0),(3,.own 6),(4,.int .i64 (k:Nat))],[(0,.cells 28 [.int .i64 s.day,.own 2,.own 3,.int .i64 s.outside,.sl 10 encLi li0 s.lines,.own 4,.own 5,.sl 6 encPr pr0 s.proposals]),(1,.cells 28 (celSt st0)),(2,.row 3 1 encI 0 s.cash),(3,.row 3 1 encI 0 s.purses),(4,.row 41 5 encFa fa0 s.facts),(5,.row 43 6 encPa pa0 s.payments),(6,.row 47 10 encLi li0 s.lines)],7⟩) trivial (by exact (wk_of [(0,.id 0),(1,.id 1),(2,.id 3),(3,.id 5),(4,.id 7),(5,.id 9),(6,.id 11)] rfl ⟨wc0,wc0,(by first | exact wg0 | exact wh0 | exact wi0),wa0,trivial⟩ ⟨wd0,⟨_,rfl,.cells _ _ _ _ rfl (by repeat (first | exact .nil | refine .cons (by first | exact .base (.tree _ _ rfl rfl) | exact .base (.own _ _ rfl) | exact .base (.ptr _ _ _ rfl) | exact .base (.map _ _ rfl) | exact .base (.nilown _ rfl) | exact .fn _ _ _ _ _ .nil (by repeat (first | exact .nil | refine .cons (by exact .ptr _ _ _ rfl) ?_)) | exact .base (.tree _ _ (by first | exact LeT.nils_sl 1 encI 0 | exact LeT.nils_sl 10 encLi li0 | exact LeT.nils_sl 5 encFa fa0 | exact LeT.nils_sl 6 encPa pa0 | exact LeT.nils_sl 6 encPr pr0) rfl) | exact .base (.leT _ _ (by first | exact LeT.nils_sl 1 encI 0 | exact LeT.nils_sl 10 encLi li0 | exact LeT.nils_sl 5 encFa fa0 | exact LeT.nils_sl 6 encPa pa0 | exact LeT.nils_sl 6 encPr pr0) rfl)) ?_)) rfl⟩,we0,we0,we0,we0,we0,trivial⟩)) ?_
 intro k hk _
 conv=>whnf
 refine ⟨fun hd=>?_,fun hd=>?_⟩
 ·have hd:=of_decide_eq_true hd
  have hlt:k<s.lines.length:=by omega
  have hek:(k:Int).toNat=k:=Int.toNat_natCast k
  have hx:=h.line _ (getD_mem (d:=li0) hlt)
  conv=>whnf
  refine iO ?_;conv=>whnf
  refine And.intro om0 (And.intro rfl ?_);conv=>whnf
  refine And.intro rfl ?_;conv=>whnf
  try (rw [hek];conv=>whnf)
  refine And.intro ⟨rfl,rfl⟩ (And.intro (show (0+(s.lines.getD k li0).units.length)*8≤140737488355328 by omega) ?_)
  conv=>whnf
  refine iO ?_;conv=>whnf
  refine Exists.intro _ (And.intro rfl ?_);conv=>whnf
  refine And.intro (show (k:Int).toNat<s.lines.length by omega) (And.intro ⟨rfl,rfl,(show 1+1≤10 by decide),rfl,rfl⟩ ?_)
  conv=>whnf
  rw [hek,set_same hlt]
  refine iO ?_;conv=>whnf
  refine And.intro om0 (And.intro rfl ?_);conv=>whnf
  refine And.intro rfl ?_;conv=>whnf
  try (rw [hek];conv=>whnf)
  refine And.intro ⟨rfl,rfl⟩ (And.intro (show (0+(s.lines.getD k li0).noted.length)*8≤140737488355328 by omega) ?_)
  conv=>whnf
  refine iO ?_;conv=>whnf
  refine Exists.intro _ (And.intro rfl ?_);conv=>whnf
  refine And.intro (show (k:Int).toNat<s.lines.length by omega) (And.intro ⟨rfl,rfl,(show 2+1≤10 by decide),rfl,rfl⟩ ?_)
  conv=>whnf
  rw [hek,set_same hlt]
  refine iO ?_;conv=>whnf
  refine And.intro om0 (And.intro rfl ?_);conv=>whnf
  refine And.intro rfl ?_;conv=>whnf
  try (rw [hek];conv=>whnf)
  refine And.intro ⟨rfl,rfl⟩ (And.intro (show (0+(s.lines.getD k li0).stages.length)*16≤140737488355328 by omega) ?_)
  conv=>whnf
  refine iO ?_;conv=>whnf
  refine Exists.intro _ (And.intro rfl ?_);conv=>whnf
  refine And.intro (show (k:Int).toNat<s.lines.length by omega) (And.intro ⟨rfl,rfl,(show 4+1≤10 by decide),rfl,rfl⟩ ?_)
  conv=>whnf
  rw [hek,set_same hlt]
  refine iO ?_;conv=>whnf
  try (rw [hek];conv=>whnf)
  exact up hlt trivial (by exact (wk_of [(0,.id 0),(1,.id 1),(2,.id 2),(3,.id 3),(4,.id 4),(5,.id 5),(6,.id 6)] rfl ⟨wc0,wc0,(by first | exact wg0 | exact wh0 | exact wi0),wa0,trivial⟩ ⟨wd0,wd0,we0,we0,we0,we0,we0,trivial⟩))
 conv=>whnf
 refine And.intro rfl ?_;conv=>whnf
 refine And.intro ⟨rfl,rfl⟩ (And.intro (show (0+s.proposals.length)*88≤140737488355328 by omega) ?_)
 conv=>whnf
 refine loop_up (cxPOk _ _ _) s.proposals.length (fun _=>True) (fun k=>⟨[(1,.ptr 0 0),(2,.ptr 1 0),(3,.own 6),(5,.own 7),(6,.int .i64 (k:Nat))],[(0,.cells 28 [.int .i64 s.day,.own 2,.own 3,.int .i64 s.outside,.sl 10 encLi li0 s.lines,.own 4,.own 5,.sl 6 encPr pr0 s.proposals]),(1,.cells 28 (celSt st0)),(2,.row 3 1 encI 0 s.cash),(3,.row 3 1 encI 0 s.purses),(4,.row 41 5 encFa fa0 s.facts),(5,.row 43 6 encPa pa0 s.payments),(6,.row 47 10 encLi li0 s.lines),(7,.row 64 6 encPr pr0 s.proposals)],8⟩) trivial (by exact (wk_of [(0,.id 0),(1,.id 1),(2,.id 2),(3,.id 3),(4,.id 4),(5,.id 5),(6,.id 6),(7,.id 8)] rfl ⟨wc0,wc0,(by first | exact wg0 | exact wh0 | exact wi0),(by first | exact wg0 | exact wh0 | exact wi0),wa0,trivial⟩ ⟨wd0,wd0,we0,we0,we0,we0,we0,we0,trivial⟩)) ?_
 intro k hk _
 conv=>whnf
 refine ⟨fun hd=>?_,fun hd=>?_⟩
 ·have hd:=of_decide_eq_true hd
  have hlt:k<s.proposals.length:=by omega
  have hek:(k:Int).toNat=k:=Int.toNat_natCast k
  have hx:=h.proposal _ (getD_mem (d:=pr0) hlt)
  conv=>whnf
  refine iO ?_;conv=>whnf
  refine And.intro om0 (And.intro rfl ?_);conv=>whnf
  refine And.intro rfl ?_;conv=>whnf
  try (rw [hek];conv=>whnf)
  refine And.intro ⟨rfl,rfl⟩ (And.intro (show (0+(s.proposals.getD k pr0).units.length)*8≤140737488355328 by omega) ?_)
  conv=>whnf
  refine iO ?_;conv=>whnf
  refine Exists.intro _ (And.intro rfl ?_);conv=>whnf
  refine And.intro (show (k:Int).toNat<s.proposals.length by omega) (And.intro ⟨rfl,rfl,(show 3+1≤6 by decide),rfl,rfl⟩ ?_)
  conv=>whnf
  rw [hek,set_same hlt]
  refine iO ?_;conv=>whnf
  refine And.intro om0 (And.intro rfl ?_);conv=>whnf
  refine And.intro rfl ?_;conv=>whnf
  try (rw [hek];conv=>whnf)
  refine And.intro ⟨rfl,rfl⟩ (And.intro (show (0+(s.proposals.getD k pr0).votes.length)*24≤140737488355328 by omega) ?_)
  conv=>whnf
  refine iO ?_;conv=>whnf
  refine Exists.intro _ (And.intro rfl ?_);conv=>whnf
  refine And.intro (show (k:Int).toNat<s.proposals.length by omega) (And.intro ⟨rfl,rfl,(show 4+1≤6 by decide),rfl,rfl⟩ ?_)
  conv=>whnf
  rw [hek,set_same hlt]
  refine iO ?_;conv=>whnf
  try (rw [hek];conv=>whnf)
  exact up hlt trivial (by exact (wk_of [(0,.id 0),(1,.id 1),(2,.id 2),(3,.id 3),(4,.id 4),(5,.id 5),(6,.id 6),(7,.id 7)] rfl ⟨wc0,wc0,(by first | exact wg0 | exact wh0 | exact wi0),(by first | exact wg0 | exact wh0 | exact wi0),wa0,trivial⟩ ⟨wd0,wd0,we0,we0,we0,we0,we0,we0,trivial⟩))
 conv=>whnf
 refine ⟨⟨[(2,.ptr 0 0)],[(0,.cells 28 (celOwn s)),(1,.row 3 1 encI 0 s.cash),(2,.row 3 1 encI 0 s.purses),(3,.row 41 5 encFa fa0 s.facts),(4,.row 43 6 encPa pa0 s.payments),(5,.row 47 10 encLi li0 s.lines),(6,.row 64 6 encPr pr0 s.proposals)],7⟩,(wk_of [(0,.id 1),(1,.id 2),(2,.id 3),(3,.id 4),(4,.id 5),(5,.id 6),(6,.id 7)] rfl ⟨wc0,trivial⟩ ⟨wb0,⟨_,rfl,ae0⟩,⟨_,rfl,ae0⟩,⟨_,rfl,ae0⟩,⟨_,rfl,ae0⟩,⟨_,rfl,ae0⟩,⟨_,rfl,ae0⟩,trivial⟩),rfl,rfl,?_⟩
 conv=>whnf
 exact ⟨rfl,rfl,rfl,rfl⟩
theorem getD_set {l:List Int} {x:Nat} {v:Int} (h:x<l.length):(l.set x v).getD x 0=v:=by
 rw [List.getD_eq_getElem?_getD,List.getElem?_set_self h]
 rfl
set_option maxHeartbeats 16000000
theorem day_two (n:Int):dayOk n=(decide (0≤n)&&decide (n≤200000)):=by
 rw [Bool.eq_iff_iff]
 unfold dayOk
 simp only [Bool.and_eq_true,decide_eq_true_eq,inB_all,List.mem_singleton,forall_eq]
theorem law_parts (a:Sta) (n:Int) (f:Fac) (p:Pay) (text:List UInt8) (oa:OkS a) (hn:in64 n) (hf:f.name.length≤9223372036854775807) (ht:text.length≤9223372036854775807):APureV Tryz.prog 6 [encSt a,.int .i64 n,encFa f,encPa p,.str text] (.bool true):=by
 have g0:=small_ok
 have g1:=few9 a oa
 have g2:=right_ok a oa
 refine aW (cxOk 164 [0,1,2,3,4,5,7,8,10,11,12,13,16,36,50,64,137,141]) Tryz.func6 ?_
 conv=>whnf
 refine cO (fun _=>g0) ?_
 conv=>whnf
 refine cO (fun _=>g1) ?_
 conv=>whnf
 refine cO (fun _=>g2) ?_
 conv=>whnf
 refine ⟨fun hc=>?_,fun hc=>?_⟩
 ·conv=>whnf
  refine ⟨_,Wk.refl _,?_⟩
  conv=>whnf
  rfl
 simp only [Bool.or_eq_false_iff,Bool.not_eq_false',decide_eq_false_iff_not] at hc
 obtain ⟨⟨⟨fa,ha⟩,hfn⟩,htx⟩:=hc
 have fa:=few_of fa
 have g4:=copied_r a fa.okC
 have q1:=fa.facts
 have q2:=fa.payments
 have q3:=fa.lines
 have ofc:OkS (factS a f):=⟨oa.cash,oa.purses,oa.lines,(by show (a.facts++[f]).length≤_;rw [List.length_append,List.length_singleton];omega),oa.payments,oa.proposals,oa.line,(fun x hx=>by
  rcases List.mem_append.1 hx with hx | hx
  ·exact oa.fact x hx
  ·rw [List.mem_singleton.1 hx];exact hf),oa.proposal⟩
 have g6:=right_ok _ ofc
 rw [right_fact ha] at g6
 have g7:=factsR_ok (a.facts++[f]) ofc.facts ofc.fact
 have op:OkS (payS a p):=⟨oa.cash,oa.purses,oa.lines,oa.facts,(by show (a.payments++[p]).length≤_;rw [List.length_append,List.length_singleton];omega),oa.proposals,oa.line,oa.fact,oa.proposal⟩
 have g8:=right_ok _ op
 rw [right_pay ha (by omega),pay_places] at g8
 have od:OkS (dayS a n):=⟨oa.cash,oa.purses,oa.lines,oa.facts,oa.payments,oa.proposals,oa.line,oa.fact,oa.proposal⟩
 have g5:=right_ok _ od
 rw [right_day ha,day_two] at g5
 conv=>whnf
 refine cR (g4) [] ?_
 conv=>whnf
 refine .one _ _ _ (fun _=>g5) ((.cons (.agg _ _ _ (.cons (.base (.base (.same _ rfl))) (.cons (.base (.base (.row _ _ _ _ _ _ rfl))) (.cons (.base (.base (.row _ _ _ _ _ _ rfl))) (.cons (.base (.base (.same _ rfl))) (.cons (.base (.base (.row _ _ _ _ _ _ rfl))) (.cons (.base (.base (.row _ _ _ _ _ _ rfl))) (.cons (.base (.base (.row _ _ _ _ _ _ rfl))) (.cons (.base (.base (.row _ _ _ _ _ _ rfl))) .nil))))))))) .nil)) ah0 ag0 ?_
 conv=>whnf
 refine ⟨fun hz=>?_,fun hz=>?_⟩
 ·exact absurd hz (by cases (decide (0≤n)&&decide (n≤200000))<;>decide)
 clear hz
 conv=>whnf
 refine cR (g4) [] ?_
 conv=>whnf
 refine And.intro rfl ?_;conv=>whnf
 refine And.intro ⟨rfl,rfl⟩ (And.intro (show (a.facts.length+1)*48≤140737488355328 by omega) ?_)
 conv=>whnf
 refine ⟨f,rfl,?_⟩
 conv=>whnf
 refine .eff ad0 ?_;conv=>whnf
 refine .one _ _ _ (fun _=>g6) ((.cons (.agg _ _ _ (.cons (.base (.base (.same _ rfl))) (.cons (.base (.base (.row _ _ _ _ _ _ rfl))) (.cons (.base (.base (.row _ _ _ _ _ _ rfl))) (.cons (.base (.base (.same _ rfl))) (.cons (.base (.base (.row _ _ _ _ _ _ rfl))) (.cons (.base (.base (.row _ _ _ _ _ _ rfl))) (.cons (.base (.base (.row _ _ _ _ _ _ rfl))) (.cons (.base (.base (.row _ _ _ _ _ _ rfl))) .nil))))))))) .nil)) ah0 ag0 ?_
 conv=>whnf
 refine cO (fun _=>g7) ?_
 conv=>whnf
 refine ⟨by kernel_rfl,?_⟩
 conv=>whnf
 refine ⟨fun hz=>?_,fun hz=>?_⟩
 ·exact absurd hz (by cases factsOk (a.facts++[f])<;>decide)
 clear hz
 conv=>whnf
 refine cR (g4) [] ?_
 conv=>whnf
 refine And.intro rfl ?_;conv=>whnf
 refine And.intro ⟨rfl,rfl⟩ (And.intro (show (a.payments.length+1)*48≤140737488355328 by omega) ?_)
 conv=>whnf
 refine ⟨p,rfl,?_⟩
 conv=>whnf
 refine .one _ _ _ (fun _=>g8) ((.cons (.agg _ _ _ (.cons (.base (.base (.same _ rfl))) (.cons (.base (.base (.row _ _ _ _ _ _ rfl))) (.cons (.base (.base (.row _ _ _ _ _ _ rfl))) (.cons (.base (.base (.same _ rfl))) (.cons (.base (.base (.row _ _ _ _ _ _ rfl))) (.cons (.base (.base (.row _ _ _ _ _ _ rfl))) (.cons (.base (.base (.row _ _ _ _ _ _ rfl))) (.cons (.base (.base (.row _ _ _ _ _ _ rfl))) .nil))))))))) .nil)) ah0 ag0 ?_
 conv=>whnf
 refine ⟨fun hz=>?_,fun hz=>?_⟩
 ·exact absurd hz (by rw [show mostA=1000000000000000000 from rfl,beq_self_eq_true];decide)
 clear hz
 conv=>whnf
 refine ⟨fun hl=>?_,fun hl=>?_⟩
 ·conv=>whnf
  refine ⟨_,Wk.refl _,?_⟩
  conv=>whnf
  rfl
 have hl:=of_decide_eq_false hl
 have hne:a.lines≠[]:=fun e=>hl (by rw [e];rfl)
 have hl0:0<a.lines.length:=List.length_pos_iff.2 hne
 have ot:OkS (textA a text):=⟨oa.cash,oa.purses,(by show (a.lines.set 0 _).length≤_;rw [List.length_set];exact oa.lines),oa.facts,oa.payments,oa.proposals,(fun x hx=>by
  rcases List.mem_or_eq_of_mem_set hx with hx | rfl
  ·exact oa.line x hx
  ·have:=oa.line _ (getD_mem (d:=li0) hl0)
   exact ⟨ht,this.2.1,this.2.2.1,this.2.2.2⟩),oa.fact,oa.proposal⟩
 have g9:=right_ok _ ot
 rw [right_text ha hne] at g9
 obtain ⟨x,po,er,gp,hp⟩:=parse_one text ht
 conv=>whnf
 refine cR (g4) [] ?_
 conv=>whnf
 refine iO ?_;conv=>whnf
 refine ⟨reText (a.lines.getD 0 li0) text,rfl,(show Int.toNat 0<a.lines.length from hl0),⟨rfl,rfl,(show 0+1≤10 by decide),rfl,rfl⟩,?_⟩
 conv=>whnf
 refine cO (fun _=>gp) ?_
 conv=>whnf
 refine .one _ _ _ (fun _=>g9) ((.cons (.agg _ _ _ (.cons (.base (.base (.same _ rfl))) (.cons (.base (.base (.row _ _ _ _ _ _ rfl))) (.cons (.base (.base (.row _ _ _ _ _ _ rfl))) (.cons (.base (.base (.same _ rfl))) (.cons (.base (.base (.row _ _ _ _ _ _ rfl))) (.cons (.base (.base (.row _ _ _ _ _ _ rfl))) (.cons (.base (.base (.row _ _ _ _ _ _ rfl))) (.cons (.base (.base (.row _ _ _ _ _ _ rfl))) .nil))))))))) .nil)) ah0 ag0 ?_
 conv=>whnf
 rw [hp]
 refine ⟨_,Wk.refl _,?_⟩
 conv=>whnf
 simp
open Go.ChangeShapes Go.WideShapes Go.RowKit Go.Own
theorem Tryz.own:ownKnob Tryz.prog.godebug=none:=by kernel_rfl
theorem Tryz.laidOut:laidOutB Tryz.prog=true:=by kernel_rfl
theorem undBool:Tryz.prog.underlying 4=some .bool:=by kernel_rfl
theorem und3':Tryz.prog.underlying 3=some (.int .i64):=by kernel_rfl
theorem und9':Tryz.prog.underlying 9=some .string:=by kernel_rfl
theorem und22:Tryz.prog.underlying 22=some (.slice 3):=by kernel_rfl
theorem und23:Tryz.prog.underlying 23=some (.slice 47):=by kernel_rfl
theorem und24:Tryz.prog.underlying 24=some (.slice 41):=by kernel_rfl
theorem und25:Tryz.prog.underlying 25=some (.slice 43):=by kernel_rfl
theorem und26:Tryz.prog.underlying 26=some (.slice 64):=by kernel_rfl
theorem und45:Tryz.prog.underlying 45=some (.slice 61):=by kernel_rfl
theorem und62:Tryz.prog.underlying 62=some (.slice 66):=by kernel_rfl
def fields28 : Array Field := #[{ name := "Day", type := 3, offset := 0, embedded := false, tag := "", pkgPath := "", byteOffset := 0 }, { name := "Cash", type := 22, offset := 1, embedded := false, tag := "", pkgPath := "", byteOffset := 8 }, { name := "Purses", type := 22, offset := 2, embedded := false, tag := "", pkgPath := "", byteOffset := 32 }, { name := "Outside", type := 3, offset := 3, embedded := false, tag := "", pkgPath := "", byteOffset := 56 }, { name := "Lines", type := 23, offset := 4, embedded := false, tag := "", pkgPath := "", byteOffset := 64 }, { name := "Facts", type := 24, offset := 5, embedded := false, tag := "", pkgPath := "", byteOffset := 88 }, { name := "Payments", type := 25, offset := 6, embedded := false, tag := "", pkgPath := "", byteOffset := 112 }, { name := "Proposals", type := 26, offset := 7, embedded := false, tag := "", pkgPath := "", byteOffset := 136 }]
theorem und28:Tryz.prog.underlying 28=some (.struct fields28):=by kernel_rfl
def fields41 : Array Field := #[{ name := "Issuer", type := 3, offset := 0, embedded := false, tag := "", pkgPath := "", byteOffset := 0 }, { name := "Name", type := 9, offset := 1, embedded := false, tag := "", pkgPath := "", byteOffset := 8 }, { name := "Period", type := 3, offset := 2, embedded := false, tag := "", pkgPath := "", byteOffset := 24 }, { name := "Value", type := 3, offset := 3, embedded := false, tag := "", pkgPath := "", byteOffset := 32 }, { name := "Day", type := 3, offset := 4, embedded := false, tag := "", pkgPath := "", byteOffset := 40 }]
theorem und41:Tryz.prog.underlying 41=some (.struct fields41):=by kernel_rfl
def fields43 : Array Field := #[{ name := "Issue", type := 3, offset := 0, embedded := false, tag := "", pkgPath := "", byteOffset := 0 }, { name := "Seat", type := 3, offset := 1, embedded := false, tag := "", pkgPath := "", byteOffset := 8 }, { name := "Day", type := 3, offset := 2, embedded := false, tag := "", pkgPath := "", byteOffset := 16 }, { name := "Due", type := 3, offset := 3, embedded := false, tag := "", pkgPath := "", byteOffset := 24 }, { name := "Paid", type := 3, offset := 4, embedded := false, tag := "", pkgPath := "", byteOffset := 32 }, { name := "Period", type := 3, offset := 5, embedded := false, tag := "", pkgPath := "", byteOffset := 40 }]
theorem und43:Tryz.prog.underlying 43=some (.struct fields43):=by kernel_rfl
def fields47 : Array Field := #[{ name := "Text", type := 9, offset := 0, embedded := false, tag := "", pkgPath := "", byteOffset := 0 }, { name := "Units", type := 22, offset := 1, embedded := false, tag := "", pkgPath := "", byteOffset := 16 }, { name := "Noted", type := 22, offset := 2, embedded := false, tag := "", pkgPath := "", byteOffset := 40 }, { name := "NotedAt", type := 3, offset := 3, embedded := false, tag := "", pkgPath := "", byteOffset := 64 }, { name := "Stages", type := 45, offset := 4, embedded := false, tag := "", pkgPath := "", byteOffset := 72 }, { name := "Fast", type := 3, offset := 5, embedded := false, tag := "", pkgPath := "", byteOffset := 96 }, { name := "Called", type := 3, offset := 6, embedded := false, tag := "", pkgPath := "", byteOffset := 104 }, { name := "Price", type := 3, offset := 7, embedded := false, tag := "", pkgPath := "", byteOffset := 112 }, { name := "Ended", type := 4, offset := 8, embedded := false, tag := "", pkgPath := "", byteOffset := 120 }, { name := "Since", type := 3, offset := 9, embedded := false, tag := "", pkgPath := "", byteOffset := 128 }]
theorem und47:Tryz.prog.underlying 47=some (.struct fields47):=by kernel_rfl
def fields61 : Array Field := #[{ name := "Stage", type := 3, offset := 0, embedded := false, tag := "", pkgPath := "", byteOffset := 0 }, { name := "Since", type := 3, offset := 1, embedded := false, tag := "", pkgPath := "", byteOffset := 8 }]
theorem und61:Tryz.prog.underlying 61=some (.struct fields61):=by kernel_rfl
def fields66 : Array Field := #[{ name := "Seat", type := 3, offset := 0, embedded := false, tag := "", pkgPath := "", byteOffset := 0 }, { name := "Day", type := 3, offset := 1, embedded := false, tag := "", pkgPath := "", byteOffset := 8 }, { name := "Yes", type := 4, offset := 2, embedded := false, tag := "", pkgPath := "", byteOffset := 16 }]
theorem und66:Tryz.prog.underlying 66=some (.struct fields66):=by kernel_rfl
def fields64 : Array Field := #[{ name := "Issue", type := 3, offset := 0, embedded := false, tag := "", pkgPath := "", byteOffset := 0 }, { name := "Text", type := 9, offset := 1, embedded := false, tag := "", pkgPath := "", byteOffset := 8 }, { name := "Day", type := 3, offset := 2, embedded := false, tag := "", pkgPath := "", byteOffset := 24 }, { name := "Units", type := 22, offset := 3, embedded := false, tag := "", pkgPath := "", byteOffset := 32 }, { name := "Votes", type := 62, offset := 4, embedded := false, tag := "", pkgPath := "", byteOffset := 56 }, { name := "Closed", type := 4, offset := 5, embedded := false, tag := "", pkgPath := "", byteOffset := 80 }]
theorem und64:Tryz.prog.underlying 64=some (.struct fields64):=by kernel_rfl
theorem in64_of {n:Int} (h:IntKind.i64.min≤n∧n≤IntKind.i64.max):in64 n:=by
 have e1:IntKind.i64.min=-9223372036854775808:=by rfl
 have e2:IntKind.i64.max=9223372036854775807:=by rfl
 rw [e1,e2] at h
 exact h
abbrev rInt:List AV→Prop:=fun l=>∃ n,(IntKind.i64.min≤n∧n≤IntKind.i64.max)∧l=[.int .i64 n]
abbrev rStr:List AV→Prop:=fun l=>∃ s:List UInt8,s.length≤9223372036854775807∧l=[.str s]
theorem oInt:OpensR Tryz.prog 3 1 rInt:=opensR_int und3' (by kernel_rfl)
theorem oStr:OpensR Tryz.prog 9 1 rStr:=opensR_str und9' (by kernel_rfl)
theorem oBool:OpensR Tryz.prog 4 1 (fun l=>∃ b,l=[.bool b]):=opensR_bool undBool (by kernel_rfl)
instance:Inhabited Brc:=⟨br0⟩
instance:Inhabited Vot:=⟨vo0⟩
instance:Inhabited Fac:=⟨fa0⟩
instance:Inhabited Pay:=⟨pa0⟩
instance:Inhabited Lin:=⟨li0⟩
instance:Inhabited Pro:=⟨pr0⟩
theorem oInts:OpensR Tryz.prog 22 1 (fun l=>∃ xs:List Int,(∀ a∈xs,True)∧xs.length≤9223372036854775807∧l=[.sl 1 encI 0 xs]) :=
 opensR_slice 0 und22 (by kernel_rfl) oInt (by decide) (fun l hl=>by
  obtain ⟨n,_,rfl⟩:=hl
  exact ⟨n,trivial,rfl⟩) (fun _=>rfl)
theorem oBrs:OpensR Tryz.prog 45 1 (fun l=>∃ xs:List Brc,(∀ a∈xs,True)∧xs.length≤9223372036854775807∧l=[.sl 2 encBr br0 xs]) :=
 opensR_slice br0 und45 (by kernel_rfl) (opensR_struct und61 (by kernel_rfl) (Rs:=[(1,_),(1,_)]) ⟨rfl,oInt,rfl,oInt,rfl⟩) (by decide) (fun l hl=>by
  obtain ⟨_,_,⟨n0,_,rfl⟩,⟨_,_,⟨n1,_,rfl⟩,rfl,rfl⟩,rfl⟩:=hl
  exact ⟨⟨n0,n1⟩,trivial,rfl⟩) (fun _=>rfl)
theorem oVos:OpensR Tryz.prog 62 1 (fun l=>∃ xs:List Vot,(∀ a∈xs,True)∧xs.length≤9223372036854775807∧l=[.sl 3 encVo vo0 xs]) :=
 opensR_slice vo0 und62 (by kernel_rfl) (opensR_struct und66 (by kernel_rfl) (Rs:=[(1,_),(1,_),(1,_)]) ⟨rfl,oInt,rfl,oInt,rfl,oBool,rfl⟩) (by decide) (fun l hl=>by
  obtain ⟨_,_,⟨n0,_,rfl⟩,⟨_,_,⟨n1,_,rfl⟩,⟨_,_,⟨n2,rfl⟩,rfl,rfl⟩,rfl⟩,rfl⟩:=hl
  exact ⟨⟨n0,n1,n2⟩,trivial,rfl⟩) (fun _=>rfl)
theorem oFas:OpensR Tryz.prog 24 1 (fun l=>∃ xs:List Fac,(∀ a∈xs,a.name.length≤9223372036854775807)∧xs.length≤9223372036854775807∧l=[.sl 5 encFa fa0 xs]) :=
 opensR_slice fa0 und24 (by kernel_rfl) (opensR_struct und41 (by kernel_rfl) (Rs:=[(1,_),(1,_),(1,_),(1,_),(1,_)]) ⟨rfl,oInt,rfl,oStr,rfl,oInt,rfl,oInt,rfl,oInt,rfl⟩) (by decide) (fun l hl=>by
  obtain ⟨_,_,⟨n0,_,rfl⟩,⟨_,_,⟨n1,h1,rfl⟩,⟨_,_,⟨n2,_,rfl⟩,⟨_,_,⟨n3,_,rfl⟩,⟨_,_,⟨n4,_,rfl⟩,rfl,rfl⟩,rfl⟩,rfl⟩,rfl⟩,rfl⟩:=hl
  exact ⟨⟨n0,n1,n2,n3,n4⟩,h1,rfl⟩) (fun _=>rfl)
theorem oPas:OpensR Tryz.prog 25 1 (fun l=>∃ xs:List Pay,(∀ a∈xs,True)∧xs.length≤9223372036854775807∧l=[.sl 6 encPa pa0 xs]) :=
 opensR_slice pa0 und25 (by kernel_rfl) (opensR_struct und43 (by kernel_rfl) (Rs:=[(1,_),(1,_),(1,_),(1,_),(1,_),(1,_)]) ⟨rfl,oInt,rfl,oInt,rfl,oInt,rfl,oInt,rfl,oInt,rfl,oInt,rfl⟩) (by decide) (fun l hl=>by
  obtain ⟨_,_,⟨n0,_,rfl⟩,⟨_,_,⟨n1,_,rfl⟩,⟨_,_,⟨n2,_,rfl⟩,⟨_,_,⟨n3,_,rfl⟩,⟨_,_,⟨n4,_,rfl⟩,⟨_,_,⟨n5,_,rfl⟩,rfl,rfl⟩,rfl⟩,rfl⟩,rfl⟩,rfl⟩,rfl⟩:=hl
  exact ⟨⟨n0,n1,n2,n3,n4,n5⟩,trivial,rfl⟩) (fun _=>rfl)
theorem oLis:OpensR Tryz.prog 23 1 (fun l=>∃ xs:List Lin,(∀ a∈xs,a.text.length≤9223372036854775807∧a.units.length≤9223372036854775807∧a.noted.length≤9223372036854775807∧a.stages.length≤9223372036854775807)∧xs.length≤9223372036854775807∧l=[.sl 10 encLi li0 xs]) :=
 opensR_slice li0 und23 (by kernel_rfl) (opensR_struct und47 (by kernel_rfl) (Rs:=[(1,_),(1,_),(1,_),(1,_),(1,_),(1,_),(1,_),(1,_),(1,_),(1,_)]) ⟨rfl,oStr,rfl,oInts,rfl,oInts,rfl,oInt,rfl,oBrs,rfl,oInt,rfl,oInt,rfl,oInt,rfl,oBool,rfl,oInt,rfl⟩) (by decide) (fun l hl=>by
  obtain ⟨_,_,⟨n0,h0,rfl⟩,⟨_,_,⟨n1,_,h1,rfl⟩,⟨_,_,⟨n2,_,h2,rfl⟩,⟨_,_,⟨n3,_,rfl⟩,⟨_,_,⟨n4,_,h4,rfl⟩,⟨_,_,⟨n5,_,rfl⟩,⟨_,_,⟨n6,_,rfl⟩,⟨_,_,⟨n7,_,rfl⟩,⟨_,_,⟨n8,rfl⟩,⟨_,_,⟨n9,_,rfl⟩,rfl,rfl⟩,rfl⟩,rfl⟩,rfl⟩,rfl⟩,rfl⟩,rfl⟩,rfl⟩,rfl⟩,rfl⟩:=hl
  exact ⟨⟨n0,n1,n2,n3,n4,n5,n6,n7,n8,n9⟩,⟨h0,h1,h2,h4⟩,rfl⟩) (fun _=>rfl)
theorem oPrs:OpensR Tryz.prog 26 1 (fun l=>∃ xs:List Pro,(∀ a∈xs,a.text.length≤9223372036854775807∧a.units.length≤9223372036854775807∧a.votes.length≤9223372036854775807)∧xs.length≤9223372036854775807∧l=[.sl 6 encPr pr0 xs]) :=
 opensR_slice pr0 und26 (by kernel_rfl) (opensR_struct und64 (by kernel_rfl) (Rs:=[(1,_),(1,_),(1,_),(1,_),(1,_),(1,_)]) ⟨rfl,oInt,rfl,oStr,rfl,oInt,rfl,oInts,rfl,oVos,rfl,oBool,rfl⟩) (by decide) (fun l hl=>by
  obtain ⟨_,_,⟨n0,_,rfl⟩,⟨_,_,⟨n1,h1,rfl⟩,⟨_,_,⟨n2,_,rfl⟩,⟨_,_,⟨n3,_,h3,rfl⟩,⟨_,_,⟨n4,_,h4,rfl⟩,⟨_,_,⟨n5,rfl⟩,rfl,rfl⟩,rfl⟩,rfl⟩,rfl⟩,rfl⟩,rfl⟩:=hl
  exact ⟨⟨n0,n1,n2,n3,n4,n5⟩,⟨h1,h3,h4⟩,rfl⟩) (fun _=>rfl)
abbrev rSta:List AV→Prop:=fun l=>∃ s:Sta,OkS s∧l=(encSt s).cells
theorem oSta:OpensR Tryz.prog 28 8 rSta:=by
 refine (opensR_struct und28 (by kernel_rfl) (Rs:=[(1,_),(1,_),(1,_),(1,_),(1,_),(1,_),(1,_),(1,_)]) ⟨rfl,oInt,rfl,oInts,rfl,oInts,rfl,oInt,rfl,oLis,rfl,oFas,rfl,oPas,rfl,oPrs,rfl⟩).mono fun l hl=>?_
 obtain ⟨_,_,⟨n0,_,rfl⟩,⟨_,_,⟨n1,_,h1,rfl⟩,⟨_,_,⟨n2,_,h2,rfl⟩,⟨_,_,⟨n3,_,rfl⟩,⟨_,_,⟨n4,k4,h4,rfl⟩,⟨_,_,⟨n5,k5,h5,rfl⟩,⟨_,_,⟨n6,_,h6,rfl⟩,⟨_,_,⟨n7,k7,h7,rfl⟩,rfl,rfl⟩,rfl⟩,rfl⟩,rfl⟩,rfl⟩,rfl⟩,rfl⟩,rfl⟩:=hl
 exact ⟨⟨n0,n1,n2,n3,n4,n5,n6,n7⟩,⟨h1,h2,h4,h5,h6,h7,k4,k5,k7⟩,rfl⟩
theorem vSta:OpV Tryz.prog 28 (fun a=>∃ s:Sta,OkS s∧a=encSt s) :=
 OpV.mono (opV_struct und28 oSta) fun a ⟨l,⟨x,h,hl⟩,ha⟩=>⟨x,h,by rw [ha,hl];rfl⟩
theorem vFac:OpV Tryz.prog 41 (fun a=>∃ f:Fac,f.name.length≤9223372036854775807∧a=encFa f) :=
 OpV.mono (opV_struct und41 (opensR_struct und41 (by kernel_rfl) (Rs:=[(1,_),(1,_),(1,_),(1,_),(1,_)]) ⟨rfl,oInt,rfl,oStr,rfl,oInt,rfl,oInt,rfl,oInt,rfl⟩)) fun a ⟨l,hl,ha⟩=>by
  obtain ⟨_,_,⟨n0,_,rfl⟩,⟨_,_,⟨n1,h1,rfl⟩,⟨_,_,⟨n2,_,rfl⟩,⟨_,_,⟨n3,_,rfl⟩,⟨_,_,⟨n4,_,rfl⟩,rfl,rfl⟩,rfl⟩,rfl⟩,rfl⟩,rfl⟩:=hl
  exact ⟨⟨n0,n1,n2,n3,n4⟩,h1,ha⟩
theorem vPay:OpV Tryz.prog 43 (fun a=>∃ p:Pay,True∧a=encPa p) :=
 OpV.mono (opV_struct und43 (opensR_struct und43 (by kernel_rfl) (Rs:=[(1,_),(1,_),(1,_),(1,_),(1,_),(1,_)]) ⟨rfl,oInt,rfl,oInt,rfl,oInt,rfl,oInt,rfl,oInt,rfl,oInt,rfl⟩)) fun a ⟨l,hl,ha⟩=>by
  obtain ⟨_,_,⟨n0,_,rfl⟩,⟨_,_,⟨n1,_,rfl⟩,⟨_,_,⟨n2,_,rfl⟩,⟨_,_,⟨n3,_,rfl⟩,⟨_,_,⟨n4,_,rfl⟩,⟨_,_,⟨n5,_,rfl⟩,rfl,rfl⟩,rfl⟩,rfl⟩,rfl⟩,rfl⟩,rfl⟩:=hl
  exact ⟨⟨n0,n1,n2,n3,n4,n5⟩,trivial,ha⟩
theorem vStr:OpV Tryz.prog 9 (fun a=>∃ s:List UInt8,s.length≤9223372036854775807∧a=.str s):=opV_str und9'
theorem vInt:OpV Tryz.prog 3 (fun a=>∃ n,in64 n∧a=.int .i64 n):=OpV.mono (opV_int und3') fun _ ⟨n,h,e⟩=>⟨n,in64_of h,e⟩
abbrev laidL:List (String×DataW Unit):=Rows.stateBackRow.laid
noncomputable def laidWorld (os:Os):World:=World.laidAll Tryz.prog os laidL
theorem laid_met (os:Os) (args:Array Value):laidMet Tryz.prog laidL ((laidWorld os).forCall (fun _ _=>0) ⟨#[],args,[]⟩).memory :=
 laidMet_laidAll args (by kernel_rfl) (by kernel_rfl)
theorem var_block {P:Program} {w:World} {n:String} {g:Nat} {cs:Array Value} (hg:P.globalNamed n=some g) (h:w.var? P n=some cs):∃ e fz,w.heap[g]?=some (.cells cs e fz):=by
 unfold World.var? at h
 rw [hg] at h
 simp only [Option.bind_some] at h
 split at h
 ·rename_i c e fz hh
  cases h
  exact ⟨_,_,hh⟩
 ·cases h
theorem trod_one {P:Program} {w:World} {base:Nat} {sp:Nat→Bool} {held:Bool} {fuel:Nat} {e:TypeId} {c:List Value} {s:List UInt8} {q:List MemPlace} (he:P.underlying e=some .string)
  (h:DataW.trod (fun _=>()) P w base sp held fuel e c=some (.lit (.string s),q)):c=[.string ⟨s.toArray⟩]:=by
 cases fuel with
 | zero=>simp [DataW.trod] at h
 | succ fuel =>
  simp only [DataW.trod,he] at h
  split at h<;>simp_all
  rename_i x hx
  rw [← h.2.1]
theorem cells_of_strs {P:Program} {w:World} {base:Nat} {sp:Nat→Bool} {held:Bool} {fuel:Nat} {t e:TypeId} {n:Nat} {cs:List Value} {ss:List (List UInt8)} {p:List MemPlace}
  (ht:P.underlying t=some (.array n e)) (he:P.underlying e=some .string) (hce:P.cellsOf e=1) (hct:P.cellsOf t=n)
  (h:DataW.trod (fun _=>()) P w base sp held fuel t cs=some (.agg (ss.map fun s=>.lit (.string s)),p)):cs=ss.map fun s=>Value.string ⟨s.toArray⟩:=by
 cases fuel with
 | zero=>simp [DataW.trod] at h
 | succ fuel =>
  simp only [DataW.trod,ht,hce,hct,Nat.mul_one] at h
  split at h
  ·rename_i hl
   obtain ⟨xs,hm,hx⟩:=Option.map_eq_some_iff.1 h
   have hxs:xs.map (·.1)=ss.map fun s=>(DataW.lit (.string s):DataW Unit):=by
    have:=congrArg Prod.fst hx
    simpa using this
   have hxl:xs.length=n:=by simpa using Lib.mapM_length hm
   have hzl:ss.length=n:=by
    have:=congrArg List.length hxs
    simp at this
    omega
   apply List.ext_getElem?
   intro i
   by_cases hi:i<n
   ·obtain ⟨b,hb,hf⟩:=Lib.mapM_at hm i i (by simp [hi])
    have h2:(xs.map (·.1))[i]?=some b.1:=by simp [hb]
    rw [hxs] at h2
    simp only [List.getElem?_map,Option.map_eq_some_iff] at h2
    obtain ⟨s,hs,hsb⟩:=h2
    have hc:=trod_one he (show _=some (DataW.lit (.string s),b.2) by rw [hsb];exact hf)
    have h1:cs[i]?=some (.string ⟨s.toArray⟩):=by
     have:=congrArg (·[0]?) hc
     simpa [List.getElem?_take,List.getElem?_drop] using this
    simp [h1,hs]
   ·rw [List.getElem?_eq_none (by omega),List.getElem?_eq_none (by simp;omega)]
  ·cases h
theorem laid_tabs (W:World) (h:laidMet Tryz.prog laidL W):TabAt (All W) W:=by
 obtain ⟨ps,⟨g1,t1,c1,f1,p1,q1,hg1,ht1,hv1,hd1,⟨g2,t2,c2,f2,p2,q2,hg2,ht2,hv2,hd2,⟨g3,t3,c3,f3,p3,q3,hg3,ht3,hv3,hd3,⟨g4,t4,c4,f4,p4,q4,hg4,ht4,hv4,hd4,⟨g5,t5,c5,f5,p5,q5,hg5,ht5,hv5,hd5,⟨g6,t6,c6,f6,p6,q6,hg6,ht6,hv6,hd6,hnil,e6⟩,e5⟩,e4⟩,e3⟩,e2⟩,e1⟩,_,_⟩:=h
 have k3 : Tryz.prog.globalNamed "internal/strconv.uint64pow10" = some 4 := by kernel_rfl
 have k4 : Tryz.prog.globalNamed "strconv.ErrRange" = some 3 := by kernel_rfl
 have k5 : Tryz.prog.globalNamed "strconv.ErrSyntax" = some 2 := by kernel_rfl
 have k6 : Tryz.prog.globalNamed "consol/lex.signs" = some 0 := by kernel_rfl
 obtain ⟨b3,z3,h3⟩:=var_block k3 hv3
 obtain ⟨b4,z4,h4⟩:=var_block k4 hv4
 obtain ⟨b5,z5,h5⟩:=var_block k5 hv5
 obtain ⟨b6,z6,h6⟩:=var_block k6 hv6
 obtain rfl:=Option.some.inj (k3.symm.trans hg3)
 obtain rfl:=Option.some.inj (k4.symm.trans hg4)
 obtain rfl:=Option.some.inj (k5.symm.trans hg5)
 obtain rfl:=Option.some.inj (k6.symm.trans hg6)
 have T3:(Tryz.prog.globals[4]?).map (·.type)=some t3:=ht3
 have T4:(Tryz.prog.globals[3]?).map (·.type)=some t4:=ht4
 have T5:(Tryz.prog.globals[2]?).map (·.type)=some t5:=ht5
 have T6:(Tryz.prog.globals[0]?).map (·.type)=some t6:=ht6
 have err:∀ {t:Nat} {cs:Array Value} {fuel:Nat} {nm:String} {d:DataW Unit} {p:List MemPlace} {g:Nat},(Tryz.prog.globals[g]?).map (·.type)=some t→(g=2∨g=3)→DataW.trod (fun _=>()) Tryz.prog W 0 (fun _=>true) false fuel t cs.toList=some (.iface nm d,p)→isErr cs:=by
  intro t cs fuel nm d p g hT hg hd
  have hu:∃ ms,Tryz.prog.underlying t=some (.interface ms):=by
   rcases hg with rfl | rfl
   ·obtain rfl:=Option.some.inj ((show (Tryz.prog.globals[2]?).map (·.type)=some 175 by kernel_rfl).symm.trans hT)
    exact ⟨#[("Error", 77)], by kernel_rfl⟩
   ·obtain rfl:=Option.some.inj ((show (Tryz.prog.globals[3]?).map (·.type)=some 175 by kernel_rfl).symm.trans hT)
    exact ⟨#[("Error", 77)], by kernel_rfl⟩
  obtain ⟨ms,hu⟩:=hu
  obtain ⟨_,u,v,hcs,_⟩:=iface_of_trod hu hd
  refine ⟨u,v,?_⟩
  rw [← Array.getElem?_toList,hcs]
  rfl
 have i4:=err T4 (.inr rfl) hd4
 have i5:=err T5 (.inl rfl) hd5
 have lt:∀ {g:Nat} {o:Obj},W.heap[g]?=some o→g<W.heap.size:=fun h=>(Array.getElem?_eq_some_iff.1 h).1
 intro g Q hQ
 match g,hQ with
 | 0,hQ =>
  cases hQ
  refine ⟨lt h6,c6,b6,z6,h6,?_⟩
  obtain rfl:=Option.some.inj ((show (Tryz.prog.globals[0]?).map (·.type)=some 241 by kernel_rfl).symm.trans T6)
  have:=cells_of_strs (ss:=signs) (n:=11) (e:=9) (by kernel_rfl) (by kernel_rfl) (by kernel_rfl) (by kernel_rfl) (show _=some (DataW.agg (signs.map fun s=>DataW.lit (.string s)),p6) from hd6)
  show c6=_
  rw [← this]
 | 2,hQ =>
  cases hQ
  exact ⟨lt h5,c5,b5,z5,h5,i5⟩
 | 3,hQ =>
  cases hQ
  exact ⟨lt h4,c4,b4,z4,h4,i4⟩
 | 4,hQ =>
  cases hQ
  refine ⟨lt h3,c3,b3,z3,h3,?_⟩
  obtain rfl:=Option.some.inj ((show (Tryz.prog.globals[4]?).map (·.type)=some 273 by kernel_rfl).symm.trans T3)
  have:=Lib.cells_of_tab (k:=.u64) (zs:=Lib.pow10Tab) (n:=20) (e:=259) (by kernel_rfl) (by kernel_rfl) (by kernel_rfl) (by kernel_rfl) (show _=some (Lib.tabData .u64 Lib.pow10Tab,p3) from hd3)
  show c3=_
  rw [← this]
end Go.Proofs.YtgaallgiaachlaaGreatDoor
