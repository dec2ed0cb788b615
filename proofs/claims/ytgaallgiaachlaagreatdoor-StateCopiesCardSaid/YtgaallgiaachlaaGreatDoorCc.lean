import Derived.Test.YtgaallgiaachlaaGreatDoorCb
import Derived.Test.YtgaallgiaachlaaGreatDoorLc
import Derived.Shelf.Vars
import Derived.Lay
import Derived.Lib.LaidTab
import Derived.LaidLaws
import Derived.KernelRfl
import Derived.Test.YtgaallgiaachlaaGreatDoorRows
import Derived.WalkKit
import Derived.Deep.LoopGhost
import Derived.Deep.OwnRows
import Derived.Deep.Cut
import Derived.Deep.Light
import Derived.CellFam
import Derived.BigGuard
namespace Go.Proofs.YtgaallgiaachlaaGreatDoor
open Go.Own
set_option maxHeartbeats 4000000
set_option maxRecDepth 100000
theorem truth_ok (b:Bool):APureV Tryz.prog 83 [.bool b] (.int .i64 (truthZ b)):=by
 refine aO (cxOk 4 [0,2,3]) Tryz.func83 ?_
 conv=>whnf
 refine ⟨fun h=>?_,fun h=>?_⟩
 ·conv=>whnf
  rw [h]
  rfl
 ·conv=>whnf
  rw [h]
  rfl
def manyP {T:Type} (f:T→List UInt8) (l:List T) (k:Nat):List UInt8:=numS l.length++(l.take k).flatMap f
theorem take_get {T:Type} {l:List T} {k:Nat} (d:T) (h:k<l.length):l.take (k+1)=l.take k++[l.getD k d]:=by
 exact zt155
theorem manyP_succ {T:Type} {f:T→List UInt8} {l:List T} {k:Nat} {d:T} (h:k<l.length):manyP f l (k+1)=manyP f l k++f (l.getD k d):=by
 unfold manyP
 rw [take_get d h,List.flatMap_append,List.append_assoc]
 simp
theorem manyP_len {T:Type} {f:T→List UInt8} {l:List T} (k:Nat):(manyP f l k).length≤(manyS f l).length:=by
 unfold manyP manyS
 rw [List.length_append,List.length_append]
 have:(l.flatMap f)=(l.take k).flatMap f++(l.drop k).flatMap f:=by rw [← List.flatMap_append,List.take_append_drop]
 rw [this,List.length_append]
 omega
theorem manyP_ne {T:Type} (f:T→List UInt8) (l:List T) (k:Nat):manyP f l k≠[]:=by
 unfold manyP
 intro h
 exact numS_ne om0 (List.append_eq_nil_iff.1 h).1
theorem manyP_all {T:Type} (f:T→List UInt8) (l:List T):manyP f l l.length=manyS f l:=by unfold manyP manyS;rw [List.take_length]
theorem manyP_0 {T:Type} (f:T→List UInt8) (l:List T):manyP f l 0=numS l.length:=by unfold manyP;simp
theorem numsS_take {l:List Int} {k:Nat} (h:k<l.length):numsS (l.take (k+1))=numsS (l.take k)++numS (l.getD k 0):=by
 unfold numsS
 rw [take_get 0 h,List.flatMap_append]
 simp
theorem numsS_len {l:List Int} (k:Nat):(numsS (l.take k)).length≤(numsS l).length:=by
 have:numsS l=numsS (l.take k)++numsS (l.drop k):=by
  unfold numsS
  rw [← List.flatMap_append,List.take_append_drop]
 rw [this,List.length_append]
 omega
theorem nums_s (l:List Int) (hne:l≠[]) (hl:∀ n∈l,0≤n∧in64 n) (hn:l.length≤1000000000) (hT:(numsS l).length≤140737488355328):APureV Tryz.prog 79 [.sl 1 encI 0 l] (.str (numsS l)):=by
 have hl0:0<l.length:=List.length_pos_iff.2 hne
 refine aO (cxOk 17 [0,2,3,5,6,7,8,9]) Tryz.func79 ?_
 conv=>whnf
 refine loop_inv (cxOk _ _) (σ:=Nat) (fun k=>k≤l.length) (fun k=>l.length-k) (fun k=>match k with | 0=>⟨[(0,.sl 1 encI 0 l),(3,.ptr 0 0),(6,.sl 1 encI 0 l),(7,.int .i64 l.length),(8,.int .i64 0)],[(0,.cells 173 [.nilp,.nils])],1⟩ | k+1=>⟨[(0,.sl 1 encI 0 l),(3,.ptr 0 0),(6,.sl 1 encI 0 l),(7,.int .i64 l.length),(8,.int .i64 ((k+1):Nat))],[(0,.cells 173 [.ptr 0 0,.own 1]),(1,.lst 5 1 (strAVs (numsS (l.take (k+1)))))],2⟩) 0 (Nat.zero_le _) ((wk_of [(0,.id 0)] rfl ⟨wa0,wc0,wa0,wa0,wa0,trivial⟩ ⟨wb0,trivial⟩)) ?_
 intro k hk
 cases k with
 | zero =>
  show evCode _ _ (⟨[(0,.sl 1 encI 0 l),(3,.ptr 0 0),(6,.sl 1 encI 0 l),(7,.int .i64 l.length),(8,.int .i64 0)],[(0,.cells 173 [.nilp,.nils])],1⟩) _
  have h0:=num_ok (l.getD 0 0) (hl _ (getD_mem (d:=0) hl0)).2
  have hs:=numsS_take hl0
  have hsl:=numsS_len (l:=l) 1
  have hs:numsS (l.take 1)=numS (l.getD 0 0):=by
   have:numsS (l.take 0)=[]:=by simp [numsS]
   rw [hs,this,List.nil_append]
  rw [hs] at hsl
  conv=>whnf
  refine ⟨fun hd=>?_,fun hd=>?_⟩
  ·conv=>whnf
   refine iO (cW ?_)
   refine And.intro rfl (cW ?_)
   refine cO (fun _=>h0) (cW ?_)
   refine .raw _ _ rfl (fun h=>by cases h) (cw_first (numS (l.getD 0 0)) om0) ?_
   rintro r rfl
   refine ⟨Nat.le_of_ble_eq_true rfl,(cW ?_)⟩
   refine iO (cW ?_)
   refine ⟨1,hl0,by show l.length-1<l.length-0;omega,(wk_of [(0,.id 0),(1,.id 1)] rfl ⟨wa0,wc0,wa0,wa0,wa0,trivial⟩ ⟨wb0,⟨_,rfl,.lst _ _ _ _ _ rfl (by rw [hs])⟩,trivial⟩)⟩
  ·have hd:=of_decide_eq_false hd
   omega
 | succ j =>
  show evCode _ _ (⟨[(0,.sl 1 encI 0 l),(3,.ptr 0 0),(6,.sl 1 encI 0 l),(7,.int .i64 l.length),(8,.int .i64 ((j+1):Nat))],[(0,.cells 173 [.ptr 0 0,.own 1]),(1,.lst 5 1 (strAVs (numsS (l.take (j+1)))))],2⟩) _
  have hk:j+1≤l.length:=hk
  have hpl:=numsS_len (l:=l) (j+1)
  have hpl1:=numsS_len (l:=l) (j+1+1)
  have hne2:numsS (l.take (j+1))≠[]:=by
   cases l with
   | nil=>simp at hl0
   | cons x l =>
    unfold numsS
    rw [List.take_succ_cons,List.flatMap_cons]
    intro h
    exact numS_ne (hl x (by simp)).1 (List.append_eq_nil_iff.1 h).1
  conv=>whnf
  refine ⟨fun hd=>?_,fun hd=>?_⟩
  ·have hd:=of_decide_eq_true hd
   have hkl:j+1<l.length:=by omega
   have hek:((j+1:Nat):Int).toNat=j+1:=Int.toNat_natCast _
   have h0:=num_ok (l.getD (j+1) 0) (hl _ (getD_mem (d:=0) hkl)).2
   have hs:=numsS_take hkl
   conv=>whnf
   refine iO (cW ?_)
   refine And.intro rfl (cW ?_)
   rw [hek]
   refine cO (fun _=>h0) (cW ?_)
   refine .raw _ _ rfl (fun h=>by cases h) (callSem_congr (cw_more (numsS (l.take (j+1))) (numS (l.getD (j+1) 0)) (by rw [hs,List.length_append] at hpl1;omega)) (fun id hid=>by
    simp only [List.mem_cons,List.not_mem_nil,or_false] at hid
    rcases hid with rfl | rfl<;>rfl)) ?_
   rintro r rfl
   refine ⟨Nat.le_of_ble_eq_true rfl,(cW ?_)⟩
   have hpe:strAVs (numsS (l.take (j+1)))++strAVs (numS (l.getD (j+1) 0))=strAVs (numsS (l.take (j+1+1))):=by rw [hs,strAVs_append]
   refine iO (cW ?_)
   refine ⟨j+2,by omega,by show l.length-(j+2)<l.length-(j+1);omega,(wk_of [(0,.id 0),(1,.id 2)] rfl ⟨wa0,wc0,wa0,wa0,wa0,trivial⟩ ⟨wb0,⟨_,rfl,.lst _ _ _ _ _ rfl (hpe)⟩,trivial⟩)⟩
  ·have hd:=of_decide_eq_false hd
   have hke:j+1=l.length:=by omega
   conv=>whnf
   refine .raw _ _ rfl (fun h=>by cases h) (cs_of (numsS (l.take (j+1))) hne2) ?_
   rintro r rfl
   refine ⟨Nat.le_of_ble_eq_true rfl,(cW ?_)⟩
   rw [hke,List.take_length]
   rfl
theorem zt10 {p:Prop}(h:p:=by
 refine iO (cW ?_)
 refine up hkl trivial ((wk_of [(0,.id 0),(1,.id 3)] rfl ⟨wa0,.fn _ _ _ _ _ ac0 ac0,wc0,wa0,wa0,wa0,trivial⟩ ⟨wb0,⟨_,rfl,.lst _ _ _ _ _ rfl (hpe)⟩,trivial⟩))):p:=h
theorem zt29 {p:Prop}(h:p:=by
 rintro r rfl
 refine ⟨Nat.le_of_ble_eq_true rfl,(cW ?_)⟩
 rw [hke,manyP_all]
 rfl):p:=h
theorem listBr_ok (l:List Brc) (hf:∀ e∈l,APureV Tryz.prog 78 [encBr e] (.str (brS e))) (hn:l.length≤1000000000) (hT:(manyS brS l).length≤140737488355328):APureV Tryz.prog 77 [.sl 2 encBr br0 l,.fn (.func 78) [] []] (.str (manyS brS l)):=by
 have hi:=num_ok l.length zp32
 have hpl0:=manyP_len (f:=brS) (l:=l) 0
 rw [manyP_0] at hpl0
 refine aO (cxOk 24 [0,1,4,5,7,12,13,14,15]) Tryz.func77 ?_
 conv=>whnf
 refine cO (fun _=>hi) (cW ?_)
 refine .raw _ _ rfl (fun h=>by cases h) (cw_first (numS l.length) om0) ?_
 rintro r rfl
 refine ⟨Nat.le_of_ble_eq_true rfl,(cW ?_)⟩
 have hp0:strAVs (numS l.length)=strAVs (manyP brS l 0):=by rw [manyP_0]
 refine loop_up (cxOk _ _) l.length (fun _=>True) (fun k=>⟨[(0,.sl 2 encBr br0 l),(1,.fn (.func 78) [] []),(5,.ptr 0 0),(12,.sl 2 encBr br0 l),(13,.int .i64 l.length),(14,.int .i64 (k:Nat))],[(0,.cells 173 [.ptr 0 0,.own 1]),(1,.lst 5 1 (strAVs (manyP brS l k)))],2⟩) trivial ((wk_of [(0,.id 0),(1,.id 1)] rfl ⟨wa0,.fn _ _ _ _ _ ac0 ac0,wc0,wa0,wa0,wa0,trivial⟩ ⟨wb0,⟨_,rfl,.lst _ _ _ _ _ rfl (hp0)⟩,trivial⟩)) ?_
 intro k hk _
 have hps:=fun h:k<l.length=>manyP_succ (f:=brS) (d:=br0) h
 have hpl:=manyP_len (f:=brS) (l:=l) k
 have hpl1:=manyP_len (f:=brS) (l:=l) (k+1)
 conv=>whnf
 refine ⟨fun hd=>?_,fun hd=>?_⟩
 ·have hkl:k<l.length:=by
   exact zt96
  have hps:=hps hkl
  have hek:(k:Int).toNat=k:=Int.toNat_natCast k
  have hx:=hf _ (getD_mem (d:=br0) hkl)
  conv=>whnf
  refine iO (cW ?_)
  refine And.intro rfl (cW ?_)
  rw [hek]
  conv=>whnf
  refine cO (fun _=>hx) (cW ?_)
  have hlen:(manyP brS l k).length+(brS (l.getD k br0)).length≤140737488355328:=by
   exact zt65
  refine cR ((write_more (manyP brS l k) (brS (l.getD k br0)) hlen)) [0,1] (cW (cW ?_))
  have hpe:strAVs (manyP brS l k++brS (l.getD k br0))=strAVs (manyP brS l (k+1)):=by rw [hps]
  exact zt10
 ·have hke:k=l.length:=by
   exact zt70
  conv=>whnf
  refine .raw _ _ rfl (fun h=>by cases h) (cs_of (manyP brS l k) (manyP_ne brS l k)) ?_
  exact zt29
theorem listLi_ok (l:List Lin) (hf:∀ e∈l,APureV Tryz.prog 76 [encLi e] (.str (liS e))) (hn:l.length≤1000000000) (hT:(manyS liS l).length≤140737488355328):APureV Tryz.prog 75 [.sl 10 encLi li0 l,.fn (.func 76) [] []] (.str (manyS liS l)):=by
 have hi:=num_ok l.length zp32
 have hpl0:=manyP_len (f:=liS) (l:=l) 0
 rw [manyP_0] at hpl0
 refine aO (cxOk 24 [0,1,4,5,7,12,13,14,15]) Tryz.func75 ?_
 conv=>whnf
 refine cO (fun _=>hi) (cW ?_)
 refine .raw _ _ rfl (fun h=>by cases h) (cw_first (numS l.length) om0) ?_
 rintro r rfl
 refine ⟨Nat.le_of_ble_eq_true rfl,(cW ?_)⟩
 have hp0:strAVs (numS l.length)=strAVs (manyP liS l 0):=by rw [manyP_0]
 refine loop_up (cxOk _ _) l.length (fun _=>True) (fun k=>⟨[(0,.sl 10 encLi li0 l),(1,.fn (.func 76) [] []),(5,.ptr 0 0),(12,.sl 10 encLi li0 l),(13,.int .i64 l.length),(14,.int .i64 (k:Nat))],[(0,.cells 173 [.ptr 0 0,.own 1]),(1,.lst 5 1 (strAVs (manyP liS l k)))],2⟩) trivial ((wk_of [(0,.id 0),(1,.id 1)] rfl ⟨wa0,.fn _ _ _ _ _ ac0 ac0,wc0,wa0,wa0,wa0,trivial⟩ ⟨wb0,⟨_,rfl,.lst _ _ _ _ _ rfl (hp0)⟩,trivial⟩)) ?_
 intro k hk _
 have hps:=fun h:k<l.length=>manyP_succ (f:=liS) (d:=li0) h
 have hpl:=manyP_len (f:=liS) (l:=l) k
 have hpl1:=manyP_len (f:=liS) (l:=l) (k+1)
 conv=>whnf
 refine ⟨fun hd=>?_,fun hd=>?_⟩
 ·have hkl:k<l.length:=by
   exact zt96
  have hps:=hps hkl
  have hek:(k:Int).toNat=k:=Int.toNat_natCast k
  have hx:=hf _ (getD_mem (d:=li0) hkl)
  conv=>whnf
  refine iO (cW ?_)
  refine And.intro rfl (cW ?_)
  rw [hek]
  conv=>whnf
  refine cO (fun _=>hx) (cW ?_)
  have hlen:(manyP liS l k).length+(liS (l.getD k li0)).length≤140737488355328:=by
   exact zt65
  refine cR ((write_more (manyP liS l k) (liS (l.getD k li0)) hlen)) [0,1] (cW (cW ?_))
  have hpe:strAVs (manyP liS l k++liS (l.getD k li0))=strAVs (manyP liS l (k+1)):=by rw [hps]
  exact zt10
 ·have hke:k=l.length:=by
   exact zt70
  conv=>whnf
  refine .raw _ _ rfl (fun h=>by cases h) (cs_of (manyP liS l k) (manyP_ne liS l k)) ?_
  exact zt29
theorem listFa_ok (l:List Fac) (hf:∀ e∈l,APureV Tryz.prog 85 [encFa e] (.str (faS e))) (hn:l.length≤1000000000) (hT:(manyS faS l).length≤140737488355328):APureV Tryz.prog 84 [.sl 5 encFa fa0 l,.fn (.func 85) [] []] (.str (manyS faS l)):=by
 have hi:=num_ok l.length zp32
 have hpl0:=manyP_len (f:=faS) (l:=l) 0
 rw [manyP_0] at hpl0
 refine aO (cxOk 24 [0,1,4,5,7,12,13,14,15]) Tryz.func84 ?_
 conv=>whnf
 refine cO (fun _=>hi) (cW ?_)
 refine .raw _ _ rfl (fun h=>by cases h) (cw_first (numS l.length) om0) ?_
 rintro r rfl
 refine ⟨Nat.le_of_ble_eq_true rfl,(cW ?_)⟩
 have hp0:strAVs (numS l.length)=strAVs (manyP faS l 0):=by rw [manyP_0]
 refine loop_up (cxOk _ _) l.length (fun _=>True) (fun k=>⟨[(0,.sl 5 encFa fa0 l),(1,.fn (.func 85) [] []),(5,.ptr 0 0),(12,.sl 5 encFa fa0 l),(13,.int .i64 l.length),(14,.int .i64 (k:Nat))],[(0,.cells 173 [.ptr 0 0,.own 1]),(1,.lst 5 1 (strAVs (manyP faS l k)))],2⟩) trivial ((wk_of [(0,.id 0),(1,.id 1)] rfl ⟨wa0,.fn _ _ _ _ _ ac0 ac0,wc0,wa0,wa0,wa0,trivial⟩ ⟨wb0,⟨_,rfl,.lst _ _ _ _ _ rfl (hp0)⟩,trivial⟩)) ?_
 intro k hk _
 have hps:=fun h:k<l.length=>manyP_succ (f:=faS) (d:=fa0) h
 have hpl:=manyP_len (f:=faS) (l:=l) k
 have hpl1:=manyP_len (f:=faS) (l:=l) (k+1)
 conv=>whnf
 refine ⟨fun hd=>?_,fun hd=>?_⟩
 ·have hkl:k<l.length:=by
   exact zt96
  have hps:=hps hkl
  have hek:(k:Int).toNat=k:=Int.toNat_natCast k
  have hx:=hf _ (getD_mem (d:=fa0) hkl)
  conv=>whnf
  refine iO (cW ?_)
  refine And.intro rfl (cW ?_)
  rw [hek]
  conv=>whnf
  refine cO (fun _=>hx) (cW ?_)
  have hlen:(manyP faS l k).length+(faS (l.getD k fa0)).length≤140737488355328:=by
   exact zt65
  refine cR ((write_more (manyP faS l k) (faS (l.getD k fa0)) hlen)) [0,1] (cW (cW ?_))
  have hpe:strAVs (manyP faS l k++faS (l.getD k fa0))=strAVs (manyP faS l (k+1)):=by rw [hps]
  exact zt10
 ·have hke:k=l.length:=by
   exact zt70
  conv=>whnf
  refine .raw _ _ rfl (fun h=>by cases h) (cs_of (manyP faS l k) (manyP_ne faS l k)) ?_
  exact zt29
theorem listPa_ok (l:List Pay) (hf:∀ e∈l,APureV Tryz.prog 87 [encPa e] (.str (paS e))) (hn:l.length≤1000000000) (hT:(manyS paS l).length≤140737488355328):APureV Tryz.prog 86 [.sl 6 encPa pa0 l,.fn (.func 87) [] []] (.str (manyS paS l)):=by
 have hi:=num_ok l.length zp32
 have hpl0:=manyP_len (f:=paS) (l:=l) 0
 rw [manyP_0] at hpl0
 refine aO (cxOk 24 [0,1,4,5,7,12,13,14,15]) Tryz.func86 ?_
 conv=>whnf
 refine cO (fun _=>hi) (cW ?_)
 refine .raw _ _ rfl (fun h=>by cases h) (cw_first (numS l.length) om0) ?_
 rintro r rfl
 refine ⟨Nat.le_of_ble_eq_true rfl,(cW ?_)⟩
 have hp0:strAVs (numS l.length)=strAVs (manyP paS l 0):=by rw [manyP_0]
 refine loop_up (cxOk _ _) l.length (fun _=>True) (fun k=>⟨[(0,.sl 6 encPa pa0 l),(1,.fn (.func 87) [] []),(5,.ptr 0 0),(12,.sl 6 encPa pa0 l),(13,.int .i64 l.length),(14,.int .i64 (k:Nat))],[(0,.cells 173 [.ptr 0 0,.own 1]),(1,.lst 5 1 (strAVs (manyP paS l k)))],2⟩) trivial ((wk_of [(0,.id 0),(1,.id 1)] rfl ⟨wa0,.fn _ _ _ _ _ ac0 ac0,wc0,wa0,wa0,wa0,trivial⟩ ⟨wb0,⟨_,rfl,.lst _ _ _ _ _ rfl (hp0)⟩,trivial⟩)) ?_
 intro k hk _
 have hps:=fun h:k<l.length=>manyP_succ (f:=paS) (d:=pa0) h
 have hpl:=manyP_len (f:=paS) (l:=l) k
 have hpl1:=manyP_len (f:=paS) (l:=l) (k+1)
 conv=>whnf
 refine ⟨fun hd=>?_,fun hd=>?_⟩
 ·have hkl:k<l.length:=by
   exact zt96
  have hps:=hps hkl
  have hek:(k:Int).toNat=k:=Int.toNat_natCast k
  have hx:=hf _ (getD_mem (d:=pa0) hkl)
  conv=>whnf
  refine iO (cW ?_)
  refine And.intro rfl (cW ?_)
  rw [hek]
  conv=>whnf
  refine cO (fun _=>hx) (cW ?_)
  have hlen:(manyP paS l k).length+(paS (l.getD k pa0)).length≤140737488355328:=by
   exact zt65
  refine cR ((write_more (manyP paS l k) (paS (l.getD k pa0)) hlen)) [0,1] (cW (cW ?_))
  have hpe:strAVs (manyP paS l k++paS (l.getD k pa0))=strAVs (manyP paS l (k+1)):=by rw [hps]
  exact zt10
 ·have hke:k=l.length:=by
   exact zt70
  conv=>whnf
  refine .raw _ _ rfl (fun h=>by cases h) (cs_of (manyP paS l k) (manyP_ne paS l k)) ?_
  exact zt29
theorem listPr_ok (l:List Pro) (hf:∀ e∈l,APureV Tryz.prog 89 [encPr e] (.str (prS e))) (hn:l.length≤1000000000) (hT:(manyS prS l).length≤140737488355328):APureV Tryz.prog 88 [.sl 6 encPr pr0 l,.fn (.func 89) [] []] (.str (manyS prS l)):=by
 have hi:=num_ok l.length zp32
 have hpl0:=manyP_len (f:=prS) (l:=l) 0
 rw [manyP_0] at hpl0
 refine aO (cxOk 24 [0,1,4,5,7,12,13,14,15]) Tryz.func88 ?_
 conv=>whnf
 refine cO (fun _=>hi) (cW ?_)
 refine .raw _ _ rfl (fun h=>by cases h) (cw_first (numS l.length) om0) ?_
 rintro r rfl
 refine ⟨Nat.le_of_ble_eq_true rfl,(cW ?_)⟩
 have hp0:strAVs (numS l.length)=strAVs (manyP prS l 0):=by rw [manyP_0]
 refine loop_up (cxOk _ _) l.length (fun _=>True) (fun k=>⟨[(0,.sl 6 encPr pr0 l),(1,.fn (.func 89) [] []),(5,.ptr 0 0),(12,.sl 6 encPr pr0 l),(13,.int .i64 l.length),(14,.int .i64 (k:Nat))],[(0,.cells 173 [.ptr 0 0,.own 1]),(1,.lst 5 1 (strAVs (manyP prS l k)))],2⟩) trivial ((wk_of [(0,.id 0),(1,.id 1)] rfl ⟨wa0,.fn _ _ _ _ _ ac0 ac0,wc0,wa0,wa0,wa0,trivial⟩ ⟨wb0,⟨_,rfl,.lst _ _ _ _ _ rfl (hp0)⟩,trivial⟩)) ?_
 intro k hk _
 have hps:=fun h:k<l.length=>manyP_succ (f:=prS) (d:=pr0) h
 have hpl:=manyP_len (f:=prS) (l:=l) k
 have hpl1:=manyP_len (f:=prS) (l:=l) (k+1)
 conv=>whnf
 refine ⟨fun hd=>?_,fun hd=>?_⟩
 ·have hkl:k<l.length:=by
   exact zt96
  have hps:=hps hkl
  have hek:(k:Int).toNat=k:=Int.toNat_natCast k
  have hx:=hf _ (getD_mem (d:=pr0) hkl)
  conv=>whnf
  refine iO (cW ?_)
  refine And.intro rfl (cW ?_)
  rw [hek]
  conv=>whnf
  refine cO (fun _=>hx) (cW ?_)
  have hlen:(manyP prS l k).length+(prS (l.getD k pr0)).length≤140737488355328:=by
   exact zt65
  refine cR ((write_more (manyP prS l k) (prS (l.getD k pr0)) hlen)) [0,1] (cW (cW ?_))
  have hpe:strAVs (manyP prS l k++prS (l.getD k pr0))=strAVs (manyP prS l (k+1)):=by rw [hps]
  exact zt10
 ·have hke:k=l.length:=by
   exact zt70
  conv=>whnf
  refine .raw _ _ rfl (fun h=>by cases h) (cs_of (manyP prS l k) (manyP_ne prS l k)) ?_
  exact zt29
theorem listVo_ok (l:List Vot) (hf:∀ e∈l,APureV Tryz.prog 91 [encVo e] (.str (voS e))) (hn:l.length≤1000000000) (hT:(manyS voS l).length≤140737488355328):APureV Tryz.prog 90 [.sl 3 encVo vo0 l,.fn (.func 91) [] []] (.str (manyS voS l)):=by
 have hi:=num_ok l.length zp32
 have hpl0:=manyP_len (f:=voS) (l:=l) 0
 rw [manyP_0] at hpl0
 refine aO (cxOk 24 [0,1,4,5,7,12,13,14,15]) Tryz.func90 ?_
 conv=>whnf
 refine cO (fun _=>hi) (cW ?_)
 refine .raw _ _ rfl (fun h=>by cases h) (cw_first (numS l.length) om0) ?_
 rintro r rfl
 refine ⟨Nat.le_of_ble_eq_true rfl,(cW ?_)⟩
 have hp0:strAVs (numS l.length)=strAVs (manyP voS l 0):=by rw [manyP_0]
 refine loop_up (cxOk _ _) l.length (fun _=>True) (fun k=>⟨[(0,.sl 3 encVo vo0 l),(1,.fn (.func 91) [] []),(5,.ptr 0 0),(12,.sl 3 encVo vo0 l),(13,.int .i64 l.length),(14,.int .i64 (k:Nat))],[(0,.cells 173 [.ptr 0 0,.own 1]),(1,.lst 5 1 (strAVs (manyP voS l k)))],2⟩) trivial ((wk_of [(0,.id 0),(1,.id 1)] rfl ⟨wa0,.fn _ _ _ _ _ ac0 ac0,wc0,wa0,wa0,wa0,trivial⟩ ⟨wb0,⟨_,rfl,.lst _ _ _ _ _ rfl (hp0)⟩,trivial⟩)) ?_
 intro k hk _
 have hps:=fun h:k<l.length=>manyP_succ (f:=voS) (d:=vo0) h
 have hpl:=manyP_len (f:=voS) (l:=l) k
 have hpl1:=manyP_len (f:=voS) (l:=l) (k+1)
 conv=>whnf
 refine ⟨fun hd=>?_,fun hd=>?_⟩
 ·have hkl:k<l.length:=by
   exact zt96
  have hps:=hps hkl
  have hek:(k:Int).toNat=k:=Int.toNat_natCast k
  have hx:=hf _ (getD_mem (d:=vo0) hkl)
  conv=>whnf
  refine iO (cW ?_)
  refine And.intro rfl (cW ?_)
  rw [hek]
  conv=>whnf
  refine cO (fun _=>hx) (cW ?_)
  have hlen:(manyP voS l k).length+(voS (l.getD k vo0)).length≤140737488355328:=by
   exact zt65
  refine cR ((write_more (manyP voS l k) (voS (l.getD k vo0)) hlen)) [0,1] (cW (cW ?_))
  have hpe:strAVs (manyP voS l k++voS (l.getD k vo0))=strAVs (manyP voS l (k+1)):=by rw [hps]
  exact zt10
 ·have hke:k=l.length:=by
   exact zt70
  conv=>whnf
  refine .raw _ _ rfl (fun h=>by cases h) (cs_of (manyP voS l k) (manyP_ne voS l k)) ?_
  exact zt29
theorem listNu_ok (l:List Int) (hf:∀ e∈l,APureV Tryz.prog 93 [encI e] (.str (numS e))) (hn:l.length≤1000000000) (hT:(manyS numS l).length≤140737488355328):APureV Tryz.prog 92 [.sl 1 encI 0 l,.fn (.func 93) [] []] (.str (manyS numS l)):=by
 have hi:=num_ok l.length zp32
 have hpl0:=manyP_len (f:=numS) (l:=l) 0
 rw [manyP_0] at hpl0
 refine aO (cxOk 24 [0,1,4,5,7,12,13,14,15]) Tryz.func92 ?_
 conv=>whnf
 refine cO (fun _=>hi) (cW ?_)
 refine .raw _ _ rfl (fun h=>by cases h) (cw_first (numS l.length) om0) ?_
 rintro r rfl
 refine ⟨Nat.le_of_ble_eq_true rfl,(cW ?_)⟩
 have hp0:strAVs (numS l.length)=strAVs (manyP numS l 0):=by rw [manyP_0]
 refine loop_up (cxOk _ _) l.length (fun _=>True) (fun k=>⟨[(0,.sl 1 encI 0 l),(1,.fn (.func 93) [] []),(5,.ptr 0 0),(12,.sl 1 encI 0 l),(13,.int .i64 l.length),(14,.int .i64 (k:Nat))],[(0,.cells 173 [.ptr 0 0,.own 1]),(1,.lst 5 1 (strAVs (manyP numS l k)))],2⟩) trivial ((wk_of [(0,.id 0),(1,.id 1)] rfl ⟨wa0,.fn _ _ _ _ _ ac0 ac0,wc0,wa0,wa0,wa0,trivial⟩ ⟨wb0,⟨_,rfl,.lst _ _ _ _ _ rfl (hp0)⟩,trivial⟩)) ?_
 intro k hk _
 have hps:=fun h:k<l.length=>manyP_succ (f:=numS) (d:=0) h
 have hpl:=manyP_len (f:=numS) (l:=l) k
 have hpl1:=manyP_len (f:=numS) (l:=l) (k+1)
 conv=>whnf
 refine ⟨fun hd=>?_,fun hd=>?_⟩
 ·have hkl:k<l.length:=by
   exact zt96
  have hps:=hps hkl
  have hek:(k:Int).toNat=k:=Int.toNat_natCast k
  have hx:=hf _ (getD_mem (d:=0) hkl)
  conv=>whnf
  refine iO (cW ?_)
  refine And.intro rfl (cW ?_)
  rw [hek]
  conv=>whnf
  refine cO (fun _=>hx) (cW ?_)
  have hlen:(manyP numS l k).length+(numS (l.getD k 0)).length≤140737488355328:=by
   exact zt65
  refine cR ((write_more (manyP numS l k) (numS (l.getD k 0)) hlen)) [0,1] (cW (cW ?_))
  have hpe:strAVs (manyP numS l k++numS (l.getD k 0))=strAVs (manyP numS l (k+1)):=by rw [hps]
  exact zt90
 ·have hke:k=l.length:=by
   exact zt70
  conv=>whnf
  refine .raw _ _ rfl (fun h=>by cases h) (cs_of (manyP numS l k) (manyP_ne numS l k)) ?_
  exact zt29
set_option maxHeartbeats 1000000
theorem zt132 {p:Prop}(h:p:=by
 simp only [List.length_append,List.length_cons,List.length_nil]
 omega):p:=h
theorem intS_le {n:Int} (h:in64 n):(intS n).length≤21:=by
 have:=itoa_len n h
 unfold intS
 exact zt132
theorem numS_le {n:Int} (h:N0 n):(numS n).length≤21:=by
 unfold numS
 split
 ·exact Nat.zero_le _
 ·exact intS_le h.2
theorem flat_le {T:Type} {f:T→List UInt8} {B:Nat}:∀ (l:List T),(∀ x∈l,(f x).length≤B)→(l.flatMap f).length≤B*l.length
 | [],_=>by simp
 | x::l,h=>by
  have h1:=flat_le l fun y hy=>h y (List.mem_cons_of_mem _ hy)
  have h2:=h x (by simp)
  rw [List.flatMap_cons,List.length_append,List.length_cons,Nat.mul_succ]
  omega
theorem numsS_le {l:List Int} (h:∀ n∈l,N0 n):(numsS l).length≤21*l.length:=flat_le l fun n hn=>numS_le (h n hn)
theorem manyS_le {T:Type} {f:T→List UInt8} {l:List T} {B:Nat} (h:∀ x∈l,(f x).length≤B) (hn:l.length≤1000000000):(manyS f l).length≤21+B*l.length:=by
 have h1:=flat_le l h
 have h2:=numS_le (n:=l.length) ⟨by omega,by unfold in64;omega⟩
 unfold manyS
 rw [List.length_append]
 omega
theorem textS_le {s:List UInt8} (h:s.length≤1000000000):(textS s).length≤s.length+22:=by
 have:=itoa_len s.length zp32
 unfold textS
 exact zt132
theorem listS_le {l:List Int} (h:∀ n∈l,in64 n) (hn:l.length≤1000000000):(listS intS l).length≤22+21*l.length:=by
 have h1:=flat_le (f:=intS) l fun n hn=>intS_le (h n hn)
 have h2:=itoa_len l.length zp32
 unfold listS headS
 exact zt132
structure LiB (x:Lin):Prop where
 w:LiW x
 text:x.text.length≤1000000
 units:x.units.length≤1000000
 noted:x.noted.length≤1000000
 stages:x.stages.length≤1000000
structure FaB (f:Fac):Prop where
 w:FaW f
 name:f.name.length≤1000000
structure PrB (p:Pro):Prop where
 w:PrW p
 text:p.text.length≤1000000
 units:p.units.length≤1000000
 votes:p.votes.length≤1000000
theorem brS_le {b:Brc} (h:N0 b.stage∧N0 b.since):(brS b).length≤42 :=
 numsS_le (l:=[b.stage,b.since]) zp19
theorem voS_le {v:Vot} (h:N0 v.seat∧N0 v.day):(voS v).length≤63 :=
 numsS_le (l:=[v.seat,v.day,truthZ v.yes]) (by simpa using ⟨h.1,h.2,truth_n _⟩)
theorem paS_le {p:Pay} (h:PaW p):(paS p).length≤126:=by
 have h1:=numsS_le (l:=[p.issue,p.seat,p.day,p.due,p.paid]) (by simpa using ⟨h.1,h.2.1,h.2.2.1,h.2.2.2.1,h.2.2.2.2.1⟩)
 have h2:=intS_le h.2.2.2.2.2
 unfold paS
 rw [List.length_append]
 simp only [List.length_cons,List.length_nil] at h1
 omega
theorem zp42 {p:Prop} (h:p:=by simpa using ⟨h.w.2.2.1,h.w.2.2.2.1,h.w.2.2.2.2⟩):p:=h
theorem faS_le {f:Fac} (h:FaB f):(faS f).length≤1000110:=by
 have h1:=numsS_le (l:=[f.issuer]) (by simpa using h.w.1)
 have h2:=numsS_le (l:=[f.period,f.value,f.day]) zp42
 have h3:=textS_le (s:=f.name) (by have:=h.name;omega)
 have:=h.name
 unfold faS
 rw [List.length_append,List.length_append]
 simp only [List.length_cons,List.length_nil] at h1 h2
 omega
theorem liS_le {x:Lin} (h:LiB x):(liS x).length≤100000000:=by
 obtain ⟨⟨w1,w2,w3,w4,w5,w6,w7,w8,w9⟩,b1,b2,b3,b4⟩:=h
 have h1:=textS_le (s:=x.text) (by omega)
 have h2:=listS_le w2.1 (by omega)
 have h3:=listS_le w3.1 (by omega)
 have h4:=intS_le w4
 have h5:=manyS_le (f:=brS) (B:=42) (l:=x.stages) (fun b hb=>brS_le (w5.1 b hb)) (by omega)
 have h6:=intS_le w6
 have h7:=intS_le w7
 have h8:=numsS_le (l:=[x.price,truthZ x.ended,x.since]) (by simpa using ⟨w8,truth_n _,w9⟩)
 unfold liS
 simp only [List.length_append]
 simp only [List.length_cons,List.length_nil] at h8
 omega
theorem prS_le {p:Pro} (h:PrB p):(prS p).length≤100000000:=by
 obtain ⟨⟨w1,w2,w3,w4,w5⟩,b1,b2,b3⟩:=h
 have h1:=textS_le (s:=p.text) (by omega)
 have h2:=listS_le w4.1 (by omega)
 have h3:=numsS_le (l:=[p.issue]) (by simpa using w1)
 have h4:=numsS_le (l:=[p.day]) (by simpa using w3)
 have h5:=manyS_le (f:=voS) (B:=63) (l:=p.votes) (fun v hv=>voS_le (w5.1 v hv)) (by omega)
 have h6:=numsS_le (l:=[truthZ p.closed]) (by simpa using truth_n p.closed)
 unfold prS
 simp only [List.length_append]
 simp only [List.length_cons,List.length_nil] at h3 h4 h6
 omega
structure StB (s:Sta):Prop where
 w:StW s
 cash:s.cash.length≤60
 purses:s.purses.length≤20000
 line:∀ x∈s.lines,LiB x
 lines:s.lines.length≤400
 fact:∀ x∈s.facts,FaB x
 facts:s.facts.length≤10000
 payments:s.payments.length≤100000
 proposal:∀ x∈s.proposals,PrB x
 proposals:s.proposals.length≤10000
theorem right_B {s:Sta} (h:rightS s=true):StB s:=by
 have w:=right_W h
 unfold rightS at h
 simp only [Bool.and_eq_true,decide_eq_true_eq,List.all_eq_true] at h
 obtain ⟨⟨⟨⟨⟨⟨hsum,hday⟩,hcl⟩,hpl⟩,hout⟩,⟨⟨hll,hpay⟩,hpro⟩,hfac⟩,⟨hl,hp⟩,hq⟩:=h
 unfold factsOk at hfac
 simp only [Bool.and_eq_true,decide_eq_true_eq] at hfac
 have ul:∀ {k:Int} {l:List Int},unitsOk k l=true→k≤20000→l.length≤1000000:=fun h hk=>by
  unfold unitsOk at h
  simp only [Bool.and_eq_true,decide_eq_true_eq] at h
  omega
 refine ⟨w,hcl,hpl,fun x hx=>?_,hll,fun x hx=>?_,hfac.1,hpay,fun x hx=>?_,hpro⟩
 ·have h:=hl x hx
  unfold lineOk at h
  simp only [Bool.and_eq_true,decide_eq_true_eq,List.all_eq_true,Bool.or_eq_true] at h
  obtain ⟨⟨⟨⟨hp,⟨hu,hn⟩,hna⟩,⟨hfc,hpr⟩,hsi⟩,hsl⟩,hst⟩:=h
  refine ⟨w.lines.1 x hx,by have:=parses_short hp;omega,ul hu om0,?_,by omega⟩
  rcases hn with hn | hn
  ·rw [hn];simp
  ·exact ul hn om0
 ·have h:=facts_all _ _ hfac.2 x hx
  unfold factOne at h
  simp only [Bool.and_eq_true,decide_eq_true_eq] at h
  have hnl:=name_len h.2
  exact ⟨w.facts.1 x hx,by omega⟩
 ·have h:=hq x hx
  unfold proOk at h
  simp only [Bool.and_eq_true,decide_eq_true_eq,List.all_eq_true] at h
  obtain ⟨⟨⟨⟨⟨a,b⟩,c⟩,d⟩,e⟩,f⟩:=h
  exact ⟨w.proposals.1 x hx,by omega,ul d om0,by omega⟩
theorem nums_c (l:List Int) (hne:l≠[]) (hl:∀ n∈l,N0 n) (hn:l.length≤1000):APureV Tryz.prog 79 [.sl 1 encI 0 l] (.str (numsS l)) :=
 nums_s l hne (fun n h=>⟨(hl n h).1,(hl n h).2⟩) (by omega) (by have:=numsS_le hl;omega)
theorem brS_ok (b:Brc) (h:N0 b.stage∧N0 b.since):APureV Tryz.prog 78 [encBr b] (.str (brS b)):=by
 have g:=nums_c [b.stage,b.since] (by simp) zp19 (by simp)
 refine aO (cxOk 9 [0,1,2]) Tryz.func78 ?_
 conv=>whnf
 refine cO (fun _=>g) (cW ?_)
 rfl
theorem voS_ok (v:Vot) (h:N0 v.seat∧N0 v.day):APureV Tryz.prog 91 [encVo v] (.str (voS v)):=by
 have g0:=truth_ok v.yes
 have g:=nums_c [v.seat,v.day,truthZ v.yes] (by simp) (by simpa using ⟨h.1,h.2,truth_n _⟩) (by simp)
 refine aO (cxOk 12 [0,1,2]) Tryz.func91 ?_
 conv=>whnf
 refine .eff ad0 (cW ?_)
 refine cO (fun _=>g0) (cW ?_)
 refine cO (fun _=>g) (cW ?_)
 refine ⟨by kernel_rfl,(cW ?_)⟩
 rfl
theorem zt54 {p:Prop}(h:p:=by
 conv=>whnf
 refine And.intro af0 (cW ?_)
 refine ⟨by kernel_rfl,(cW ?_)⟩
 rfl):p:=h
theorem faS_ok (f:Fac) (h:FaB f):APureV Tryz.prog 85 [encFa f] (.str (faS f)):=by
 have g1:=nums_c [f.issuer] (by simp) (by simpa using h.w.1) (by simp)
 have g2:=text_ok f.name h.w.2.1
 have g3:=nums_c [f.period,f.value,f.day] (by simp) zp42 (by simp)
 have b1:=numsS_le (l:=[f.issuer]) (by simpa using h.w.1)
 have b2:=textS_le (s:=f.name) (by have:=h.name;omega)
 have b3:=numsS_le (l:=[f.period,f.value,f.day]) zp42
 have:=h.name
 simp only [List.length_cons,List.length_nil] at b1 b3
 unfold faS
 generalize numsS [f.issuer]=A at *
 generalize textS f.name=B at *
 generalize numsS [f.period,f.value,f.day]=C at *
 refine aO (cxOk 20 [0,1,2]) Tryz.func85 ?_
 conv=>whnf
 refine .eff ad0 (cW ?_)
 refine cO (fun _=>g1) (cW ?_)
 refine cO (fun _=>g2) (cW ?_)
 refine And.intro af0 (cW ?_)
 refine cO (fun _=>g3) ?_
 exact zt54
theorem paS_ok (p:Pay) (h:PaW p):APureV Tryz.prog 87 [encPa p] (.str (paS p)):=by
 have hh:∀ n∈[p.issue,p.seat,p.day,p.due,p.paid],N0 n:=by simpa using ⟨h.1,h.2.1,h.2.2.1,h.2.2.2.1,h.2.2.2.2.1⟩
 have g1:=nums_c [p.issue,p.seat,p.day,p.due,p.paid] (by simp) hh (by simp)
 have g2:=int_ok p.period h.2.2.2.2.2
 have b1:=numsS_le hh
 have b2:=intS_le h.2.2.2.2.2
 simp only [List.length_cons,List.length_nil] at b1
 unfold paS
 generalize numsS [p.issue,p.seat,p.day,p.due,p.paid]=A at *
 generalize intS p.period=B at *
 refine aO (cxOk 19 [0,1,2]) Tryz.func87 ?_
 conv=>whnf
 refine .eff ad0 (cW ?_)
 refine cO (fun _=>g1) (cW ?_)
 refine cO (fun _=>g2) (cW ?_)
 refine And.intro om0 (And.intro rfl (cW ?_))
 rfl
theorem liS_ok (x:Lin) (h:LiB x):APureV Tryz.prog 76 [encLi x] (.str (liS x)):=by
 obtain ⟨⟨w1,w2,w3,w4,w5,w6,w7,w8,w9⟩,b1,b2,b3,b4⟩:=h
 have h1:=textS_le (s:=x.text) (by omega)
 have h2:=listS_le w2.1 (by omega)
 have h3:=listS_le w3.1 (by omega)
 have h4:=intS_le w4
 have h5:=manyS_le (f:=brS) (B:=42) (l:=x.stages) (fun b hb=>brS_le (w5.1 b hb)) (by omega)
 have h6:=intS_le w6
 have h7:=intS_le w7
 have hh:∀ n∈[x.price,truthZ x.ended,x.since],N0 n:=by simpa using ⟨w8,truth_n _,w9⟩
 have h8:=numsS_le hh
 simp only [List.length_cons,List.length_nil] at h8
 have g0:=listBr_ok x.stages (fun b hb=>brS_ok b (w5.1 b hb)) (by omega) (by omega)
 have g1:=text_ok x.text w1
 have g2:=nums_ok x.units w2.1 (by omega) (by omega)
 have g3:=nums_ok x.noted w3.1 (by omega) (by omega)
 have g4:=int_ok x.notedAt w4
 have g6:=int_ok x.fast w6
 have g7:=int_ok x.called w7
 have g8:=truth_ok x.ended
 have g9:=nums_c [x.price,truthZ x.ended,x.since] (by simp) hh (by simp)
 unfold liS
 generalize textS x.text=A at *
 generalize listS intS x.units=B at *
 generalize listS intS x.noted=C at *
 generalize intS x.notedAt=D at *
 generalize manyS brS x.stages=E at *
 generalize intS x.fast=F at *
 generalize intS x.called=G at *
 generalize numsS [x.price,truthZ x.ended,x.since]=H at *
 refine aO (cxOk 42 [0,1,2,3]) Tryz.func76 ?_
 conv=>whnf
 refine .one _ _ _ (fun _=>g0) aj0 ai0 ah0 (cW ?_)
 refine .eff ad0 (cW ?_)
 refine cO (fun _=>g1) (cW ?_)
 refine cO (fun _=>g2) (cW ?_)
 refine And.intro af0 (cW ?_)
 refine cO (fun _=>g3) (cW ?_)
 refine And.intro af0 (cW ?_)
 refine cO (fun _=>g4) (cW ?_)
 refine And.intro af0 (cW ?_)
 refine And.intro af0 (cW ?_)
 refine cO (fun _=>g6) (cW ?_)
 refine And.intro af0 (cW ?_)
 refine cO (fun _=>g7) (cW ?_)
 refine And.intro af0 (cW ?_)
 refine cO (fun _=>g8) (cW ?_)
 refine cO (fun _=>g9) ?_
 exact zt54
theorem prS_ok (p:Pro) (h:PrB p):APureV Tryz.prog 89 [encPr p] (.str (prS p)):=by
 obtain ⟨⟨w1,w2,w3,w4,w5⟩,b1,b2,b3⟩:=h
 have i1:∀ n∈[p.issue],N0 n:=by simpa using w1
 have i2:∀ n∈[p.day],N0 n:=by simpa using w3
 have i3:∀ n∈[truthZ p.closed],N0 n:=by simpa using truth_n p.closed
 have h1:=textS_le (s:=p.text) (by omega)
 have h2:=listS_le w4.1 (by omega)
 have h3:=numsS_le i1
 have h4:=numsS_le i2
 have h5:=manyS_le (f:=voS) (B:=63) (l:=p.votes) (fun v hv=>voS_le (w5.1 v hv)) (by omega)
 have h6:=numsS_le i3
 simp only [List.length_cons,List.length_nil] at h3 h4 h6
 have g0:=listVo_ok p.votes (fun v hv=>voS_ok v (w5.1 v hv)) (by omega) (by omega)
 have g1:=nums_c [p.issue] (by simp) i1 (by simp)
 have g2:=text_ok p.text w2
 have g3:=nums_c [p.day] (by simp) i2 (by simp)
 have g4:=nums_ok p.units w4.1 (by omega) (by omega)
 have g5:=truth_ok p.closed
 have g6:=nums_c [truthZ p.closed] (by simp) i3 (by simp)
 unfold prS
 generalize numsS [p.issue]=A at *
 generalize textS p.text=B at *
 generalize numsS [p.day]=C at *
 generalize listS intS p.units=D at *
 generalize manyS voS p.votes=E at *
 generalize numsS [truthZ p.closed]=F at *
 refine aO (cxOk 32 [0,1,2,3]) Tryz.func89 ?_
 conv=>whnf
 refine .one _ _ _ (fun _=>g0) aj0 ai0 ah0 (cW ?_)
 refine .eff ad0 (cW ?_)
 refine cO (fun _=>g1) (cW ?_)
 refine cO (fun _=>g2) (cW ?_)
 refine And.intro af0 (cW ?_)
 refine cO (fun _=>g3) (cW ?_)
 refine And.intro af0 (cW ?_)
 refine cO (fun _=>g4) (cW ?_)
 refine And.intro af0 (cW ?_)
 refine And.intro af0 (cW ?_)
 refine cO (fun _=>g5) (cW ?_)
 refine cO (fun _=>g6) ?_
 exact zt54
theorem text_st (s:Sta) (o:OkS s):APureV Tryz.prog 15 [encSt s] (.str (stT s)):=by
 have gr:=right_ok s o
 unfold stT
 cases hr:rightS s with
 | false =>
  rw [hr] at gr
  rw [if_neg (by simp)]
  refine aO (cxOk 46 [0,1,2,3,4,5,6,9]) Tryz.func15 ?_
  conv=>whnf
  refine cO (fun _=>gr) (cW ?_)
  refine nE (cW ?_)
  rfl
 | true =>
  rw [hr] at gr
  rw [if_pos rfl]
  obtain ⟨w,c1,c2,c3,c4,c5,c6,c7,c8,c9⟩:=right_B hr
  have i1:∀ n∈[s.day],N0 n:=by simpa using w.day
  have h1:=numsS_le i1
  have h2:=manyS_le (f:=numS) (B:=21) (l:=s.cash) (fun n hn=>numS_le (w.cash.1 n hn)) (by omega)
  have h3:=manyS_le (f:=numS) (B:=21) (l:=s.purses) (fun n hn=>numS_le (w.purses.1 n hn)) (by omega)
  have h4:=intS_le w.outside
  have h5:=manyS_le (f:=liS) (B:=100000000) (l:=s.lines) (fun x hx=>liS_le (c3 x hx)) (by omega)
  have h6:=manyS_le (f:=faS) (B:=1000110) (l:=s.facts) (fun x hx=>faS_le (c5 x hx)) (by omega)
  have h7:=manyS_le (f:=paS) (B:=126) (l:=s.payments) (fun x hx=>paS_le (w.payments.1 x hx)) (by omega)
  have h8:=manyS_le (f:=prS) (B:=100000000) (l:=s.proposals) (fun x hx=>prS_le (c8 x hx)) (by omega)
  simp only [List.length_cons,List.length_nil] at h1
  have g1:=nums_c [s.day] (by simp) i1 (by simp)
  have g2:=listNu_ok s.cash (fun n hn=>num_ok n (w.cash.1 n hn).2) (by omega) (by omega)
  have g3:=listNu_ok s.purses (fun n hn=>num_ok n (w.purses.1 n hn).2) (by omega) (by omega)
  have g4:=int_ok s.outside w.outside
  have g5:=listLi_ok s.lines (fun x hx=>liS_ok x (c3 x hx)) (by omega) (by omega)
  have g6:=listFa_ok s.facts (fun x hx=>faS_ok x (c5 x hx)) (by omega) (by omega)
  have g7:=listPa_ok s.payments (fun x hx=>paS_ok x (w.payments.1 x hx)) (by omega) (by omega)
  have g8:=listPr_ok s.proposals (fun x hx=>prS_ok x (c8 x hx)) (by omega) (by omega)
  unfold stS
  generalize numsS [s.day]=A at *
  generalize manyS numS s.cash=B at *
  generalize manyS numS s.purses=C at *
  generalize intS s.outside=D at *
  generalize manyS liS s.lines=E at *
  generalize manyS faS s.facts=F at *
  generalize manyS paS s.payments=G at *
  generalize manyS prS s.proposals=H at *
  refine aO (cxOk 46 [0,1,2,3,4,5,6,9]) Tryz.func15 ?_
  conv=>whnf
  refine cO (fun _=>gr) (cW ?_)
  refine gF (cW ?_)
  refine .one _ _ _ (fun _=>g5) aj0 ai0 ah0 (cW ?_)
  refine .one _ _ _ (fun _=>g6) aj0 ai0 ah0 (cW ?_)
  refine .one _ _ _ (fun _=>g7) aj0 ai0 ah0 (cW ?_)
  refine .one _ _ _ (fun _=>g8) aj0 ai0 ah0 (cW ?_)
  refine .eff ad0 (cW ?_)
  refine cO (fun _=>g1) (cW ?_)
  refine .one _ _ _ (fun _=>g2) aj0 ai0 ah0 (cW ?_)
  refine And.intro af0 (cW ?_)
  refine .one _ _ _ (fun _=>g3) aj0 ai0 ah0 (cW ?_)
  refine And.intro af0 (cW ?_)
  refine cO (fun _=>g4) (cW ?_)
  refine And.intro af0 (cW ?_)
  refine And.intro af0 (cW ?_)
  refine And.intro af0 (cW ?_)
  refine And.intro af0 ?_
  exact zt54
noncomputable instance:DecidableEq Brc:=fun _ _=>Classical.propDecidable _
noncomputable instance:DecidableEq Vot:=fun _ _=>Classical.propDecidable _
noncomputable instance:DecidableEq Pay:=fun _ _=>Classical.propDecidable _
noncomputable instance:DecidableEq Pro:=fun _ _=>Classical.propDecidable _
noncomputable instance:DecidableEq Lin:=fun _ _=>Classical.propDecidable _
noncomputable instance:DecidableEq Fac:=fun _ _=>Classical.propDecidable _
noncomputable instance:DecidableEq Sta:=fun _ _=>Classical.propDecidable _
theorem list_eq {α:Type} {d:α}:∀ {l r:List α},l.length=r.length→(∀ j,j<l.length→l.getD j d=r.getD j d)→l=r
 | [],[],_,_=>rfl
 | [],_::_,h,_=>by cases h
 | _::_,[],h,_=>by cases h
 | a::l,b::r,h,hj=>by
  have h0:a=b:=hj 0 (by simp)
  have h1:l=r:=list_eq zp19 fun j hl=>hj (j+1) zp21
  rw [h0,h1]
theorem eqBrc_dec (a b:Brc):decide (a=b)=((decide (a.stage=b.stage)&&(decide (a.since=b.since)&&true))):=by
 rw [Bool.eq_iff_iff]
 cases a;cases b
 simp only [Bool.and_eq_true,decide_eq_true_eq,Brc.mk.injEq,and_true,and_assoc]
 first | done | (constructor<;>(intro h;simp only [h,and_self,true_and,and_true];try exact h))
theorem eqVot_dec (a b:Vot):decide (a=b)=((decide (a.seat=b.seat)&&(decide (a.day=b.day)&&(decide (a.yes=b.yes)&&true)))):=by
 rw [Bool.eq_iff_iff]
 cases a;cases b
 simp only [Bool.and_eq_true,decide_eq_true_eq,Vot.mk.injEq,and_true,and_assoc]
 first | done | (constructor<;>(intro h;simp only [h,and_self,true_and,and_true];try exact h))
theorem eqPay_dec (a b:Pay):decide (a=b)=((decide (a.issue=b.issue)&&(decide (a.seat=b.seat)&&(decide (a.day=b.day)&&(decide (a.due=b.due)&&(decide (a.paid=b.paid)&&(decide (a.period=b.period)&&true))))))):=by
 rw [Bool.eq_iff_iff]
 cases a;cases b
 simp only [Bool.and_eq_true,decide_eq_true_eq,Pay.mk.injEq,and_true,and_assoc]
 first | done | (constructor<;>(intro h;simp only [h,and_self,true_and,and_true];try exact h))
theorem eqFac_dec (a b:Fac):decide (a=b)=((decide (a.issuer=b.issuer)&&(decide (a.name=b.name)&&(decide (a.period=b.period)&&(decide (a.value=b.value)&&(decide (a.day=b.day)&&true)))))):=by
 rw [Bool.eq_iff_iff]
 cases a;cases b
 simp only [Bool.and_eq_true,decide_eq_true_eq,Fac.mk.injEq,and_true,and_assoc]
 first | done | (constructor<;>(intro h;simp only [h,and_self,true_and,and_true];try exact h))
theorem zt18 {p:Prop}(h:p:=by
 conv=>whnf
 refine iO (cW ?_)
 refine up hlt (fun j hj=>?_) ((wk_of [] rfl ⟨wa0,wa0,wa0,wa0,wa0,trivial⟩ trivial))
 by_cases e:j=k
 ·subst e;exact he
 ·exact hP j om0):p:=h
theorem zt15 {p:Prop}(h:p:=by
 have hne:¬ l=r:=by
  intro h
  rw [h] at hlen
  simp at hlen
 rw [decide_eq_false hne]
 conv=>whnf
 rfl):p:=h
theorem zt113 {p:Prop}(h:p:=by
 intro h
 rw [h] at he
 simp at he):p:=h
theorem zt13 {p:Prop}(h:p:=by
 have hne:¬ l=r:=by
  exact zt113
 rw [decide_eq_false hne]
 conv=>whnf
 rfl):p:=h
theorem zt60 {p:Prop}(h:p:=by
 rw [decide_eq_true he]
 conv=>whnf
 rfl):p:=h
theorem zt160 {p:Prop}(h:p:=by
 have hd:=of_decide_eq_false hd
 have he:l=r:=list_eq (d:=0) hlen fun j hj=>hP j (by omega)
 exact zt60):p:=h
theorem eqsI_ok (l r:List Int) (hl:l.length≤9223372036854775807) (hr:r.length≤9223372036854775807) :
  APureV Tryz.prog 101 [.sl 1 encI 0 l,.sl 1 encI 0 r] (.bool (decide (l=r))):=by
 refine aO (cxOk 26 [0,1,4,5,10,12,13,14,24]) Tryz.func101 ?_
 conv=>whnf
 refine ⟨fun hlen=>?_,fun hlen=>?_⟩
 ·exact zt15
 have hlen:l.length=r.length:=by simp at hlen;omega
 conv=>whnf
 refine loop_up (cxOk _ _) l.length (fun k=>∀ j,j<k→l.getD j 0=r.getD j 0) (fun k=>⟨[(0,.sl 1 encI 0 l),(1,.sl 1 encI 0 r),(4,.bool false),(12,.int .i64 (l.length:Nat)),(13,.int .i64 (k:Nat))],[],0⟩) zp15 ((wk_of [] rfl ⟨wa0,wa0,wa0,wa0,wa0,trivial⟩ trivial)) ?_
 intro k hk hP
 conv=>whnf
 refine ⟨fun hd=>?_,fun hd=>?_⟩
 ·have hd:=of_decide_eq_true hd
  have hlt:k<l.length:=by omega
  have hek:(k:Int).toNat=k:=Int.toNat_natCast k
  conv=>whnf
  refine .quiet zp9 (cW ?_)
  refine iO (cW ?_)
  refine And.intro rfl (cW ?_)
  refine iO (cW ?_)
  refine And.intro rfl (cW ?_)
  rw [hek]
  conv=>whnf
  try (rw [hek];conv=>whnf)
  refine ⟨fun he=>?_,fun he=>?_⟩
  ·exact zt13
  ·have he:l.getD k 0=r.getD k 0:=by simpa using he
   exact zt18
 ·exact zt160
theorem eqsB_ok (l r:List Brc) (hl:l.length≤9223372036854775807) (hr:r.length≤9223372036854775807) :
  APureV Tryz.prog 102 [.sl 2 encBr br0 l,.sl 2 encBr br0 r] (.bool (decide (l=r))):=by
 refine aO (cxOk 26 [0,1,4,5,10,12,13,14,24]) Tryz.func102 ?_
 conv=>whnf
 refine ⟨fun hlen=>?_,fun hlen=>?_⟩
 ·exact zt15
 have hlen:l.length=r.length:=by simp at hlen;omega
 conv=>whnf
 refine loop_up (cxOk _ _) l.length (fun k=>∀ j,j<k→l.getD j br0=r.getD j br0) (fun k=>⟨[(0,.sl 2 encBr br0 l),(1,.sl 2 encBr br0 r),(4,.bool false),(12,.int .i64 (l.length:Nat)),(13,.int .i64 (k:Nat))],[],0⟩) zp15 ((wk_of [] rfl ⟨wa0,wa0,wa0,wa0,wa0,trivial⟩ trivial)) ?_
 intro k hk hP
 conv=>whnf
 refine ⟨fun hd=>?_,fun hd=>?_⟩
 ·have hd:=of_decide_eq_true hd
  have hlt:k<l.length:=by omega
  have hek:(k:Int).toNat=k:=Int.toNat_natCast k
  conv=>whnf
  refine .quiet zp9 (cW ?_)
  refine iO (cW ?_)
  refine And.intro rfl (cW ?_)
  refine iO (cW ?_)
  refine And.intro rfl (cW ?_)
  rw [hek]
  conv=>whnf
  try (rw [hek];conv=>whnf)
  refine And.intro ⟨by kernel_rfl,by kernel_rfl⟩ (cW ?_)
  rw [show (decide ((l.getD k br0).stage=(r.getD k br0).stage)&&(decide ((l.getD k br0).since=(r.getD k br0).since)&&true))=decide (l.getD k br0=r.getD k br0) from (eqBrc_dec _ _).symm]
  refine ⟨fun he=>?_,fun he=>?_⟩
  ·exact zt13
  ·have he:l.getD k br0=r.getD k br0:=by simpa using he
   exact zt18
 ·have hd:=of_decide_eq_false hd
  have he:l=r:=list_eq (d:=br0) hlen fun j hj=>hP j (by omega)
  exact zt60
theorem eqsV_ok (l r:List Vot) (hl:l.length≤9223372036854775807) (hr:r.length≤9223372036854775807) :
  APureV Tryz.prog 105 [.sl 3 encVo vo0 l,.sl 3 encVo vo0 r] (.bool (decide (l=r))):=by
 refine aO (cxOk 26 [0,1,4,5,10,12,13,14,24]) Tryz.func105 ?_
 conv=>whnf
 refine ⟨fun hlen=>?_,fun hlen=>?_⟩
 ·exact zt15
 have hlen:l.length=r.length:=by simp at hlen;omega
 conv=>whnf
 refine loop_up (cxOk _ _) l.length (fun k=>∀ j,j<k→l.getD j vo0=r.getD j vo0) (fun k=>⟨[(0,.sl 3 encVo vo0 l),(1,.sl 3 encVo vo0 r),(4,.bool false),(12,.int .i64 (l.length:Nat)),(13,.int .i64 (k:Nat))],[],0⟩) zp15 ((wk_of [] rfl ⟨wa0,wa0,wa0,wa0,wa0,trivial⟩ trivial)) ?_
 intro k hk hP
 conv=>whnf
 refine ⟨fun hd=>?_,fun hd=>?_⟩
 ·have hd:=of_decide_eq_true hd
  have hlt:k<l.length:=by omega
  have hek:(k:Int).toNat=k:=Int.toNat_natCast k
  conv=>whnf
  refine .quiet zp9 (cW ?_)
  refine iO (cW ?_)
  refine And.intro rfl (cW ?_)
  refine iO (cW ?_)
  refine And.intro rfl (cW ?_)
  rw [hek]
  conv=>whnf
  try (rw [hek];conv=>whnf)
  refine And.intro ⟨by kernel_rfl,by kernel_rfl⟩ (cW ?_)
  rw [show (decide ((l.getD k vo0).seat=(r.getD k vo0).seat)&&(decide ((l.getD k vo0).day=(r.getD k vo0).day)&&(decide ((l.getD k vo0).yes=(r.getD k vo0).yes)&&true)))=decide (l.getD k vo0=r.getD k vo0) from (eqVot_dec _ _).symm]
  refine ⟨fun he=>?_,fun he=>?_⟩
  ·exact zt13
  ·have he:l.getD k vo0=r.getD k vo0:=by simpa using he
   exact zt18
 ·have hd:=of_decide_eq_false hd
  have he:l=r:=list_eq (d:=vo0) hlen fun j hj=>hP j (by omega)
  exact zt60
theorem zt156 {p:Prop}(h:p:=by
 have hd:=of_decide_eq_false hd
 have he:l=r:=list_eq (d:=fa0) hlen fun j hj=>hP j (by omega)
 exact zt60):p:=h
theorem eqsFa_ok (l r:List Fac) (hl:l.length≤9223372036854775807) (hr:r.length≤9223372036854775807) :
  APureV Tryz.prog 106 [.sl 5 encFa fa0 l,.sl 5 encFa fa0 r] (.bool (decide (l=r))):=by
 refine aO (cxOk 26 [0,1,4,5,10,12,13,14,24]) Tryz.func106 ?_
 conv=>whnf
 refine ⟨fun hlen=>?_,fun hlen=>?_⟩
 ·exact zt15
 have hlen:l.length=r.length:=by simp at hlen;omega
 conv=>whnf
 refine loop_up (cxOk _ _) l.length (fun k=>∀ j,j<k→l.getD j fa0=r.getD j fa0) (fun k=>⟨[(0,.sl 5 encFa fa0 l),(1,.sl 5 encFa fa0 r),(4,.bool false),(12,.int .i64 (l.length:Nat)),(13,.int .i64 (k:Nat))],[],0⟩) zp15 ((wk_of [] rfl ⟨wa0,wa0,wa0,wa0,wa0,trivial⟩ trivial)) ?_
 intro k hk hP
 conv=>whnf
 refine ⟨fun hd=>?_,fun hd=>?_⟩
 ·have hd:=of_decide_eq_true hd
  have hlt:k<l.length:=by omega
  have hek:(k:Int).toNat=k:=Int.toNat_natCast k
  conv=>whnf
  refine .quiet zp9 (cW ?_)
  refine iO (cW ?_)
  refine And.intro rfl (cW ?_)
  refine iO (cW ?_)
  refine And.intro rfl (cW ?_)
  rw [hek]
  conv=>whnf
  try (rw [hek];conv=>whnf)
  refine And.intro ⟨by kernel_rfl,by kernel_rfl⟩ (cW ?_)
  rw [show (decide ((l.getD k fa0).issuer=(r.getD k fa0).issuer)&&(decide ((l.getD k fa0).name=(r.getD k fa0).name)&&(decide ((l.getD k fa0).period=(r.getD k fa0).period)&&(decide ((l.getD k fa0).value=(r.getD k fa0).value)&&(decide ((l.getD k fa0).day=(r.getD k fa0).day)&&true)))))=decide (l.getD k fa0=r.getD k fa0) from (eqFac_dec _ _).symm]
  refine ⟨fun he=>?_,fun he=>?_⟩
  ·exact zt13
  ·have he:l.getD k fa0=r.getD k fa0:=by simpa using he
   exact zt18
 ·exact zt156
theorem eqsPa_ok (l r:List Pay) (hl:l.length≤9223372036854775807) (hr:r.length≤9223372036854775807) :
  APureV Tryz.prog 107 [.sl 6 encPa pa0 l,.sl 6 encPa pa0 r] (.bool (decide (l=r))):=by
 refine aO (cxOk 26 [0,1,4,5,10,12,13,14,24]) Tryz.func107 ?_
 conv=>whnf
 refine ⟨fun hlen=>?_,fun hlen=>?_⟩
 ·exact zt15
 have hlen:l.length=r.length:=by simp at hlen;omega
 conv=>whnf
 refine loop_up (cxOk _ _) l.length (fun k=>∀ j,j<k→l.getD j pa0=r.getD j pa0) (fun k=>⟨[(0,.sl 6 encPa pa0 l),(1,.sl 6 encPa pa0 r),(4,.bool false),(12,.int .i64 (l.length:Nat)),(13,.int .i64 (k:Nat))],[],0⟩) zp15 ((wk_of [] rfl ⟨wa0,wa0,wa0,wa0,wa0,trivial⟩ trivial)) ?_
 intro k hk hP
 conv=>whnf
 refine ⟨fun hd=>?_,fun hd=>?_⟩
 ·have hd:=of_decide_eq_true hd
  have hlt:k<l.length:=by omega
  have hek:(k:Int).toNat=k:=Int.toNat_natCast k
  conv=>whnf
  refine .quiet zp9 (cW ?_)
  refine iO (cW ?_)
  refine And.intro rfl (cW ?_)
  refine iO (cW ?_)
  refine And.intro rfl (cW ?_)
  rw [hek]
  conv=>whnf
  try (rw [hek];conv=>whnf)
  refine And.intro ⟨by kernel_rfl,by kernel_rfl⟩ (cW ?_)
  rw [show (decide ((l.getD k pa0).issue=(r.getD k pa0).issue)&&(decide ((l.getD k pa0).seat=(r.getD k pa0).seat)&&(decide ((l.getD k pa0).day=(r.getD k pa0).day)&&(decide ((l.getD k pa0).due=(r.getD k pa0).due)&&(decide ((l.getD k pa0).paid=(r.getD k pa0).paid)&&(decide ((l.getD k pa0).period=(r.getD k pa0).period)&&true))))))=decide (l.getD k pa0=r.getD k pa0) from (eqPay_dec _ _).symm]
  refine ⟨fun he=>?_,fun he=>?_⟩
  ·exact zt13
  ·have he:l.getD k pa0=r.getD k pa0:=by simpa using he
   exact zt18
 ·have hd:=of_decide_eq_false hd
  have he:l=r:=list_eq (d:=pa0) hlen fun j hj=>hP j (by omega)
  exact zt60
theorem zt82 {p:Prop}(h:p:=by
 conv=>whnf
 refine iO (cW ?_)
 refine up hlt (fun j hj=>?_) ((wk_of [] rfl ⟨wa0,wa0,.fn _ _ _ _ _ ac0 ac0,wa0,wa0,wa0,wa0,trivial⟩ trivial))
 by_cases e:j=k
 ·subst e;exact he
 ·exact hP j om0):p:=h
theorem eqfLi_ok (l r:List Lin) (hl:l.length≤9223372036854775807) (hr:r.length≤9223372036854775807) (hc:∀ x∈l,∀ y∈r,APureV Tryz.prog 100 [encLi x,encLi y] (.bool (decide (x=y)))) :
  APureV Tryz.prog 99 [.sl 10 encLi li0 l,.sl 10 encLi li0 r,.fn (.func 100) [] []] (.bool (decide (l=r))):=by
 refine aO (cxOk 32 [0,1,2,6,7,8,9,14,15,16,17,18,30]) Tryz.func99 ?_
 conv=>whnf
 refine ⟨fun hlen=>?_,fun hlen=>?_⟩
 ·exact zt15
 have hlen:l.length=r.length:=by simp at hlen;omega
 conv=>whnf
 refine loop_up (cxOk _ _) l.length (fun k=>∀ j,j<k→l.getD j li0=r.getD j li0) (fun k=>⟨[(0,.sl 10 encLi li0 l),(1,.sl 10 encLi li0 r),(2,.fn (.func 100) [] []),(6,.bool false),(15,.sl 10 encLi li0 l),(16,.int .i64 (l.length:Nat)),(17,.int .i64 (k:Nat))],[],0⟩) zp15 ((wk_of [] rfl ⟨wa0,wa0,.fn _ _ _ _ _ ac0 ac0,wa0,wa0,wa0,wa0,trivial⟩ trivial)) ?_
 intro k hk hP
 conv=>whnf
 refine ⟨fun hd=>?_,fun hd=>?_⟩
 ·have hd:=of_decide_eq_true hd
  have hlt:k<l.length:=by omega
  have hek:(k:Int).toNat=k:=Int.toNat_natCast k
  have h:=hc _ (getD_mem (d:=li0) hlt) _ (getD_mem (d:=li0) (show k<r.length by omega))
  conv=>whnf
  refine iO (cW ?_)
  refine And.intro rfl (cW ?_)
  refine iO (cW ?_)
  refine And.intro rfl (cW ?_)
  rw [hek]
  conv=>whnf
  refine cO (fun _=>h) (cW ?_)
  refine ⟨fun he=>?_,fun he=>?_⟩
  ·exact zt13
  ·have he:l.getD k li0=r.getD k li0:=by simpa using he
   exact zt82
 ·have hd:=of_decide_eq_false hd
  have he:l=r:=list_eq (d:=li0) hlen fun j hj=>hP j (by omega)
  exact zt60
theorem eqfPr_ok (l r:List Pro) (hl:l.length≤9223372036854775807) (hr:r.length≤9223372036854775807) (hc:∀ x∈l,∀ y∈r,APureV Tryz.prog 104 [encPr x,encPr y] (.bool (decide (x=y)))) :
  APureV Tryz.prog 103 [.sl 6 encPr pr0 l,.sl 6 encPr pr0 r,.fn (.func 104) [] []] (.bool (decide (l=r))):=by
 refine aO (cxOk 32 [0,1,2,6,7,8,9,14,15,16,17,18,30]) Tryz.func103 ?_
 conv=>whnf
 refine ⟨fun hlen=>?_,fun hlen=>?_⟩
 ·exact zt15
 have hlen:l.length=r.length:=by simp at hlen;omega
 conv=>whnf
 refine loop_up (cxOk _ _) l.length (fun k=>∀ j,j<k→l.getD j pr0=r.getD j pr0) (fun k=>⟨[(0,.sl 6 encPr pr0 l),(1,.sl 6 encPr pr0 r),(2,.fn (.func 104) [] []),(6,.bool false),(15,.sl 6 encPr pr0 l),(16,.int .i64 (l.length:Nat)),(17,.int .i64 (k:Nat))],[],0⟩) zp15 ((wk_of [] rfl ⟨wa0,wa0,.fn _ _ _ _ _ ac0 ac0,wa0,wa0,wa0,wa0,trivial⟩ trivial)) ?_
 intro k hk hP
 conv=>whnf
 refine ⟨fun hd=>?_,fun hd=>?_⟩
 ·have hd:=of_decide_eq_true hd
  have hlt:k<l.length:=by omega
  have hek:(k:Int).toNat=k:=Int.toNat_natCast k
  have h:=hc _ (getD_mem (d:=pr0) hlt) _ (getD_mem (d:=pr0) (show k<r.length by omega))
  conv=>whnf
  refine iO (cW ?_)
  refine And.intro rfl (cW ?_)
  refine iO (cW ?_)
  refine And.intro rfl (cW ?_)
  rw [hek]
  conv=>whnf
  refine cO (fun _=>h) (cW ?_)
  refine ⟨fun he=>?_,fun he=>?_⟩
  ·exact zt13
  ·have he:l.getD k pr0=r.getD k pr0:=by simpa using he
   exact zt82
 ·have hd:=of_decide_eq_false hd
  have he:l=r:=list_eq (d:=pr0) hlen fun j hj=>hP j (by omega)
  exact zt60
theorem eqLin_dec (a b:Lin):decide (a=b)=((decide (a.text=b.text)&&decide (a.units=b.units)&&decide (a.noted=b.noted)&&decide (a.notedAt=b.notedAt)&&decide (a.stages=b.stages))&&decide (a.fast=b.fast)&&decide (a.called=b.called)&&decide (a.price=b.price)&&(a.ended == b.ended)&&decide (a.since=b.since)):=by
 rw [Bool.eq_iff_iff]
 cases a;cases b
 simp only [Bool.and_eq_true,decide_eq_true_eq,beq_iff_eq,Lin.mk.injEq,and_assoc]
theorem eqPro_dec (a b:Pro):decide (a=b)=(decide (a.issue=b.issue)&&decide (a.text=b.text)&&decide (a.day=b.day)&&decide (a.units=b.units)&&decide (a.votes=b.votes)&&(a.closed == b.closed)):=by
 rw [Bool.eq_iff_iff]
 cases a;cases b
 simp only [Bool.and_eq_true,decide_eq_true_eq,beq_iff_eq,Pro.mk.injEq,and_assoc]
theorem eqSta_dec (a b:Sta):decide (a=b)=((decide (a.day=b.day)&&decide (a.cash=b.cash)&&decide (a.purses=b.purses)&&decide (a.outside=b.outside))&&decide (a.lines=b.lines)&&decide (a.proposals=b.proposals)&&decide (a.facts=b.facts)&&decide (a.payments=b.payments)):=by
 rw [Bool.eq_iff_iff]
 cases a;cases b
 simp only [Bool.and_eq_true,decide_eq_true_eq,Sta.mk.injEq,and_assoc]
 constructor
 ·rintro ⟨h1,h2,h3,h4,h5,h6,h7,h8⟩;exact ⟨h1,h2,h3,h4,h5,h8,h6,h7⟩
 ·rintro ⟨h1,h2,h3,h4,h5,h8,h6,h7⟩;exact ⟨h1,h2,h3,h4,h5,h6,h7,h8⟩
theorem sameLi_ok (x y:Lin) (hx:x.text.length≤9223372036854775807∧x.units.length≤9223372036854775807∧x.noted.length≤9223372036854775807∧x.stages.length≤9223372036854775807) (hy:y.text.length≤9223372036854775807∧y.units.length≤9223372036854775807∧y.noted.length≤9223372036854775807∧y.stages.length≤9223372036854775807) :
  APureV Tryz.prog 100 [encLi x,encLi y] (.bool (decide (x=y))):=by
 have g1:=eqsI_ok x.units y.units hx.2.1 hy.2.1
 have g2:=eqsI_ok x.noted y.noted hx.2.2.1 hy.2.2.1
 have g3:=eqsB_ok x.stages y.stages hx.2.2.2 hy.2.2.2
 rw [eqLin_dec]
 refine aO (cxOk 75 [0,1,2,3,4,5]) Tryz.func100 ?_
 conv=>whnf
 refine cO (fun _=>g1) (cW ?_)
 refine cO (fun _=>g2) (cW ?_)
 refine cO (fun _=>g3) (cW ?_)
 trace_state
 rfl
theorem samePr_ok (x y:Pro) (hx:x.text.length≤9223372036854775807∧x.units.length≤9223372036854775807∧x.votes.length≤9223372036854775807) (hy:y.text.length≤9223372036854775807∧y.units.length≤9223372036854775807∧y.votes.length≤9223372036854775807) :
  APureV Tryz.prog 104 [encPr x,encPr y] (.bool (decide (x=y))):=by
 have g1:=eqsI_ok x.units y.units hx.2.1 hy.2.1
 have g3:=eqsV_ok x.votes y.votes hx.2.2 hy.2.2
 rw [eqPro_dec]
 refine aO (cxOk 45 [0,1,2,3,4]) Tryz.func104 ?_
 conv=>whnf
 refine cO (fun _=>g1) (cW ?_)
 refine cO (fun _=>g3) (cW ?_)
 rfl
theorem same_st (a b:Sta) (oa:OkS a) (ob:OkS b):APureV Tryz.prog 17 [encSt a,encSt b] (.bool (decide (a=b))):=by
 have g1:=eqfLi_ok a.lines b.lines oa.lines ob.lines (fun x hx y hy=>sameLi_ok x y (oa.line x hx) (ob.line y hy))
 have g2:=eqfPr_ok a.proposals b.proposals oa.proposals ob.proposals (fun x hx y hy=>samePr_ok x y (oa.proposal x hx) (ob.proposal y hy))
 have g3:=eqsI_ok a.cash b.cash oa.cash ob.cash
 have g4:=eqsI_ok a.purses b.purses oa.purses ob.purses
 have g5:=eqsFa_ok a.facts b.facts oa.facts ob.facts
 have g6:=eqsPa_ok a.payments b.payments oa.payments ob.payments
 rw [eqSta_dec]
 refine aO (cxOk 65 [0,1,2,3,4,5,6,7]) Tryz.func17 ?_
 conv=>whnf
 refine .one _ _ _ (fun _=>g1) aj0 ai0 ah0 (cW ?_)
 refine .one _ _ _ (fun _=>g2) aj0 ai0 ah0 (cW ?_)
 refine cO (fun _=>g3) (cW ?_)
 refine cO (fun _=>g4) (cW ?_)
 refine cO (fun _=>g5) (cW ?_)
 refine cO (fun _=>g6) (cW ?_)
 rfl
theorem money_ok (s:Sta) (o:OkS s):APureV Tryz.prog 19 [encSt s] (.int .i64 (moneyS s)):=by
 have gr:=right_ok s o
 have g1:=sumF_ok [s.cash,s.purses] (by simp) (fun l hl=>by
  rcases List.mem_cons.1 hl with rfl | hl
  ·exact o.cash
  ·rw [List.mem_singleton.1 hl];exact o.purses)
 rw [sumLs_two] at g1
 unfold moneyS
 cases hr:rightS s with
 | false =>
  rw [hr] at gr
  rw [if_neg (by simp)]
  refine aO (cxOk 18 [0,1,2,3,7]) Tryz.func19 ?_
  conv=>whnf
  refine cO (fun _=>gr) (cW ?_)
  refine nE (cW ?_)
  rfl
 | true =>
  rw [hr] at gr
  rw [if_pos rfl]
  cases e1:sumB s with
  | none=>simp [rightS,e1] at hr
  | some v =>
   rw [e1] at g1
   refine aO (cxOk 18 [0,1,2,3,7]) Tryz.func19 ?_
   conv=>whnf
   refine cO (fun _=>gr) (cW ?_)
   refine nD (cW ?_)
   refine cO (fun _=>g1) (cW ?_)
   rfl
abbrev bx:AB:=.cells 69 [.ptr 0 0]
theorem nuQ_le (q:RS):(nuQ q).2.rest.length≤q.rest.length:=(numQ_le 59 0 q (by omega)).2
theorem nuQ_ok (q:RS) (hs:q.rest.length≤100000000000):AIO Tryz.prog 27 [.ptr 0 0] [ro q] (fun bs rs=>bs=[ro (nuQ q).2]∧rs=[.val (.int .i64 (nuQ q).1)]):=rnum_ok q (by omega)
theorem inQ_ok (q:RS) (hs:q.rest.length≤100000000000):AIO Tryz.prog 29 [.ptr 0 0] [ro q] (fun bs rs=>bs=[ro (oneI q).2]∧rs=[.val (.int .i64 (oneI q).1)]):=rint_ok q (by omega)
theorem txQ_ok (q:RS) (hs:q.rest.length≤100000000000):AIO Tryz.prog 35 [.ptr 0 0] [ro q] (fun bs rs=>bs=[ro (textQ q).2]∧rs=[.val (.str (textQ q).1)]):=rtext_ok q (by omega)
theorem inQ_le (q:RS):(oneI q).2.rest.length≤q.rest.length:=oneI_le q
theorem txQ_le (q:RS):(textQ q).2.rest.length≤q.rest.length:=textQ_le q
abbrev celBr (b:Brc):List AV:=[.int .i64 b.stage,.int .i64 b.since]
theorem zp5 {p:Prop} (h:p:=by exact BorL.cons (BorIO.ptr _ _ _ rfl) BorL.nil):p:=h
theorem brQ_r (q:RS) (hs:q.rest.length≤100000000000):RIO Tryz.prog 124 [.ptr 1 0] [ro q,bx] 2 (fun vs bs es=>vs=[encBr (brQ q).1]∧bs=[ro (brQ q).2,bx]∧es=[.cells 61 (celBr (brQ q).1)]):=by
 have l1:=nuQ_le q
 have g1:=nuQ_ok q (by omega)
 have l2:=nuQ_le (nuQ q).2
 have g2:=nuQ_ok (nuQ q).2 (by omega)
 have hz:(brQ q).2.rest.length≤q.rest.length:=by unfold brQ;dsimp only;omega
 clear hz
 unfold brQ
 dsimp only
 generalize nuQ (nuQ q).2=x2 at *
 generalize nuQ q=x1 at *
 refine rO (cxPOk 2 9 [0,1]) Tryz.func124 ?_
 conv=>whnf
 refine .eff ad0 (cW ?_)
 refine .raw ([0]++[]) _ rfl (fun _=>⟨⟨_,[0]++[],_,_⟩,fun r'=>Iff.rfl,rfl⟩) (callio_one (g1) [0] [] rfl rfl ⟨rfl,trivial⟩ zp5 rfl (.inl rfl)) ?_
 rintro _ rfl
 refine ⟨tn_ge _ _,(cW ?_)⟩
 refine .raw ([0]++[]) _ rfl (fun _=>⟨⟨_,[0]++[],_,_⟩,fun r'=>Iff.rfl,rfl⟩) (callio_one (g2) [0] [] rfl rfl ⟨rfl,trivial⟩ zp5 rfl (.inl rfl)) ?_
 rintro _ rfl
 refine ⟨tn_ge _ _,(cW ?_)⟩
 refine ⟨by kernel_rfl,(cW ?_)⟩
 refine ⟨⟨[(1,.ptr 2 0)],[(0,.cells 155 [.str x2.2.rest,.bool x2.2.bad]),(1,.cells 69 [.ptr 0 0]),(2,.cells 61 [.int .i64 x1.1,.int .i64 x2.1])],3⟩,(wk_of [(0,.id 0),(1,.id 1),(2,.id 2)] rfl ⟨wc0,trivial⟩ ⟨wb0,wb0,wb0,trivial⟩),rfl,rfl,?_⟩
 exact zt9
theorem brQ_le (q:RS):(brQ q).2.rest.length≤q.rest.length:=by
 have l1:=nuQ_le q
 have l2:=nuQ_le (nuQ q).2
 unfold brQ
 dsimp only
 omega
abbrev celVo (b:Vot):List AV:=[.int .i64 b.seat,.int .i64 b.day,.bool b.yes]
theorem voQ_r (q:RS) (hs:q.rest.length≤100000000000):RIO Tryz.prog 128 [.ptr 1 0] [ro q,bx] 2 (fun vs bs es=>vs=[encVo (voQ q).1]∧bs=[ro (voQ q).2,bx]∧es=[.cells 66 (celVo (voQ q).1)]):=by
 have l1:=nuQ_le q
 have g1:=nuQ_ok q (by omega)
 have l2:=nuQ_le (nuQ q).2
 have g2:=nuQ_ok (nuQ q).2 (by omega)
 have l3:=nuQ_le (nuQ (nuQ q).2).2
 have g3:=nuQ_ok (nuQ (nuQ q).2).2 (by omega)
 have hz:(voQ q).2.rest.length≤q.rest.length:=by unfold voQ;dsimp only;omega
 clear hz
 unfold voQ
 dsimp only
 generalize nuQ (nuQ (nuQ q).2).2=x3 at *
 generalize nuQ (nuQ q).2=x2 at *
 generalize nuQ q=x1 at *
 refine rO (cxPOk 2 13 [0,1]) Tryz.func128 ?_
 conv=>whnf
 refine .eff ad0 (cW ?_)
 refine .raw ([0]++[]) _ rfl (fun _=>⟨⟨_,[0]++[],_,_⟩,fun r'=>Iff.rfl,rfl⟩) (callio_one (g1) [0] [] rfl rfl ⟨rfl,trivial⟩ zp5 rfl (.inl rfl)) ?_
 rintro _ rfl
 refine ⟨tn_ge _ _,(cW ?_)⟩
 refine .raw ([0]++[]) _ rfl (fun _=>⟨⟨_,[0]++[],_,_⟩,fun r'=>Iff.rfl,rfl⟩) (callio_one (g2) [0] [] rfl rfl ⟨rfl,trivial⟩ zp5 rfl (.inl rfl)) ?_
 rintro _ rfl
 refine ⟨tn_ge _ _,(cW ?_)⟩
 refine ⟨by kernel_rfl,(cW ?_)⟩
 refine .raw ([0]++[]) _ rfl (fun _=>⟨⟨_,[0]++[],_,_⟩,fun r'=>Iff.rfl,rfl⟩) (callio_one (g3) [0] [] rfl rfl ⟨rfl,trivial⟩ zp5 rfl (.inl rfl)) ?_
 rintro _ rfl
 refine ⟨tn_ge _ _,(cW ?_)⟩
 refine ⟨⟨[(1,.ptr 2 0)],[(0,.cells 155 [.str x3.2.rest,.bool x3.2.bad]),(1,.cells 69 [.ptr 0 0]),(2,.cells 66 [.int .i64 x1.1,.int .i64 x2.1,.bool (decide (x3.1=1))])],3⟩,(wk_of [(0,.id 0),(1,.id 1),(2,.id 2)] rfl ⟨wc0,trivial⟩ ⟨wb0,wb0,wb0,trivial⟩),rfl,rfl,?_⟩
 exact zt9
theorem voQ_le (q:RS):(voQ q).2.rest.length≤q.rest.length:=by
 have l1:=nuQ_le q
 have l2:=nuQ_le (nuQ q).2
 have l3:=nuQ_le (nuQ (nuQ q).2).2
 unfold voQ
 dsimp only
 omega
abbrev celFa (b:Fac):List AV:=[.int .i64 b.issuer,.str b.name,.int .i64 b.period,.int .i64 b.value,.int .i64 b.day]
theorem faQ_r (q:RS) (hs:q.rest.length≤100000000000):RIO Tryz.prog 34 [.ptr 1 0] [ro q,bx] 2 (fun vs bs es=>vs=[encFa (faQ q).1]∧bs=[ro (faQ q).2,bx]∧es=[.cells 41 (celFa (faQ q).1)]):=by
 have l1:=nuQ_le q
 have g1:=nuQ_ok q (by omega)
 have l2:=txQ_le (nuQ q).2
 have g2:=txQ_ok (nuQ q).2 (by omega)
 have l3:=nuQ_le (textQ (nuQ q).2).2
 have g3:=nuQ_ok (textQ (nuQ q).2).2 (by omega)
 have l4:=nuQ_le (nuQ (textQ (nuQ q).2).2).2
 have g4:=nuQ_ok (nuQ (textQ (nuQ q).2).2).2 (by omega)
 have l5:=nuQ_le (nuQ (nuQ (textQ (nuQ q).2).2).2).2
 have g5:=nuQ_ok (nuQ (nuQ (textQ (nuQ q).2).2).2).2 (by omega)
 have hz:(faQ q).2.rest.length≤q.rest.length:=by unfold faQ;dsimp only;omega
 clear hz
 unfold faQ
 dsimp only
 generalize nuQ (nuQ (nuQ (textQ (nuQ q).2).2).2).2=x5 at *
 generalize nuQ (nuQ (textQ (nuQ q).2).2).2=x4 at *
 generalize nuQ (textQ (nuQ q).2).2=x3 at *
 generalize textQ (nuQ q).2=x2 at *
 generalize nuQ q=x1 at *
 refine rO (cxPOk 2 18 [0,1]) Tryz.func34 ?_
 conv=>whnf
 refine .raw ([0]++[]) _ rfl (fun _=>⟨⟨_,[0]++[],_,_⟩,fun r'=>Iff.rfl,rfl⟩) (callio_one (g1) [0] [] rfl rfl ⟨rfl,trivial⟩ zp5 rfl (.inl rfl)) ?_
 rintro _ rfl
 refine ⟨tn_ge _ _,(cW ?_)⟩
 refine .raw ([0]++[]) _ rfl (fun _=>⟨⟨_,[0]++[],_,_⟩,fun r'=>Iff.rfl,rfl⟩) (callio_one (g2) [0] [] rfl rfl ⟨rfl,trivial⟩ zp5 rfl (.inl rfl)) ?_
 rintro _ rfl
 refine ⟨tn_ge _ _,(cW ?_)⟩
 refine .eff ad0 (cW ?_)
 refine .raw ([0]++[]) _ rfl (fun _=>⟨⟨_,[0]++[],_,_⟩,fun r'=>Iff.rfl,rfl⟩) (callio_one (g3) [0] [] rfl rfl ⟨rfl,trivial⟩ zp5 rfl (.inl rfl)) ?_
 rintro _ rfl
 refine ⟨tn_ge _ _,(cW ?_)⟩
 refine .raw ([0]++[]) _ rfl (fun _=>⟨⟨_,[0]++[],_,_⟩,fun r'=>Iff.rfl,rfl⟩) (callio_one (g4) [0] [] rfl rfl ⟨rfl,trivial⟩ zp5 rfl (.inl rfl)) ?_
 rintro _ rfl
 refine ⟨tn_ge _ _,(cW ?_)⟩
 refine .raw ([0]++[]) _ rfl (fun _=>⟨⟨_,[0]++[],_,_⟩,fun r'=>Iff.rfl,rfl⟩) (callio_one (g5) [0] [] rfl rfl ⟨rfl,trivial⟩ zp5 rfl (.inl rfl)) ?_
 rintro _ rfl
 refine ⟨tn_ge _ _,(cW ?_)⟩
 refine ⟨by kernel_rfl,(cW ?_)⟩
 refine ⟨⟨[(1,.ptr 2 0)],[(0,.cells 155 [.str x5.2.rest,.bool x5.2.bad]),(1,.cells 69 [.ptr 0 0]),(2,.cells 41 [.int .i64 x1.1,.str x2.1,.int .i64 x3.1,.int .i64 x4.1,.int .i64 x5.1])],3⟩,(wk_of [(0,.id 0),(1,.id 1),(2,.id 2)] rfl ⟨wc0,trivial⟩ ⟨wb0,wb0,wb0,trivial⟩),rfl,rfl,?_⟩
 exact zt9
theorem faQ_le (q:RS):(faQ q).2.rest.length≤q.rest.length:=by
 have l1:=nuQ_le q
 have l2:=txQ_le (nuQ q).2
 have l3:=nuQ_le (textQ (nuQ q).2).2
 have l4:=nuQ_le (nuQ (textQ (nuQ q).2).2).2
 have l5:=nuQ_le (nuQ (nuQ (textQ (nuQ q).2).2).2).2
 unfold faQ
 dsimp only
 omega
abbrev celPa (b:Pay):List AV:=[.int .i64 b.issue,.int .i64 b.seat,.int .i64 b.day,.int .i64 b.due,.int .i64 b.paid,.int .i64 b.period]
theorem paQ_r (q:RS) (hs:q.rest.length≤100000000000):RIO Tryz.prog 37 [.ptr 1 0] [ro q,bx] 2 (fun vs bs es=>vs=[encPa (paQ q).1]∧bs=[ro (paQ q).2,bx]∧es=[.cells 43 (celPa (paQ q).1)]):=by
 have l1:=nuQ_le q
 have g1:=nuQ_ok q (by omega)
 have l2:=nuQ_le (nuQ q).2
 have g2:=nuQ_ok (nuQ q).2 (by omega)
 have l3:=nuQ_le (nuQ (nuQ q).2).2
 have g3:=nuQ_ok (nuQ (nuQ q).2).2 (by omega)
 have l4:=nuQ_le (nuQ (nuQ (nuQ q).2).2).2
 have g4:=nuQ_ok (nuQ (nuQ (nuQ q).2).2).2 (by omega)
 have l5:=nuQ_le (nuQ (nuQ (nuQ (nuQ q).2).2).2).2
 have g5:=nuQ_ok (nuQ (nuQ (nuQ (nuQ q).2).2).2).2 (by omega)
 have l6:=inQ_le (nuQ (nuQ (nuQ (nuQ (nuQ q).2).2).2).2).2
 have g6:=inQ_ok (nuQ (nuQ (nuQ (nuQ (nuQ q).2).2).2).2).2 (by omega)
 have hz:(paQ q).2.rest.length≤q.rest.length:=by unfold paQ;dsimp only;omega
 clear hz
 unfold paQ
 dsimp only
 generalize oneI (nuQ (nuQ (nuQ (nuQ (nuQ q).2).2).2).2).2=x6 at *
 generalize nuQ (nuQ (nuQ (nuQ (nuQ q).2).2).2).2=x5 at *
 generalize nuQ (nuQ (nuQ (nuQ q).2).2).2=x4 at *
 generalize nuQ (nuQ (nuQ q).2).2=x3 at *
 generalize nuQ (nuQ q).2=x2 at *
 generalize nuQ q=x1 at *
 refine rO (cxPOk 2 21 [0,1]) Tryz.func37 ?_
 conv=>whnf
 refine .eff ad0 (cW ?_)
 refine .raw ([0]++[]) _ rfl (fun _=>⟨⟨_,[0]++[],_,_⟩,fun r'=>Iff.rfl,rfl⟩) (callio_one (g1) [0] [] rfl rfl ⟨rfl,trivial⟩ zp5 rfl (.inl rfl)) ?_
 rintro _ rfl
 refine ⟨tn_ge _ _,(cW ?_)⟩
 refine .raw ([0]++[]) _ rfl (fun _=>⟨⟨_,[0]++[],_,_⟩,fun r'=>Iff.rfl,rfl⟩) (callio_one (g2) [0] [] rfl rfl ⟨rfl,trivial⟩ zp5 rfl (.inl rfl)) ?_
 rintro _ rfl
 refine ⟨tn_ge _ _,(cW ?_)⟩
 refine .raw ([0]++[]) _ rfl (fun _=>⟨⟨_,[0]++[],_,_⟩,fun r'=>Iff.rfl,rfl⟩) (callio_one (g3) [0] [] rfl rfl ⟨rfl,trivial⟩ zp5 rfl (.inl rfl)) ?_
 rintro _ rfl
 refine ⟨tn_ge _ _,(cW ?_)⟩
 refine .raw ([0]++[]) _ rfl (fun _=>⟨⟨_,[0]++[],_,_⟩,fun r'=>Iff.rfl,rfl⟩) (callio_one (g4) [0] [] rfl rfl ⟨rfl,trivial⟩ zp5 rfl (.inl rfl)) ?_
 rintro _ rfl
 refine ⟨tn_ge _ _,(cW ?_)⟩
 refine .raw ([0]++[]) _ rfl (fun _=>⟨⟨_,[0]++[],_,_⟩,fun r'=>Iff.rfl,rfl⟩) (callio_one (g5) [0] [] rfl rfl ⟨rfl,trivial⟩ zp5 rfl (.inl rfl)) ?_
 rintro _ rfl
 refine ⟨tn_ge _ _,(cW ?_)⟩
 refine ⟨by kernel_rfl,(cW ?_)⟩
 refine .raw ([0]++[]) _ rfl (fun _=>⟨⟨_,[0]++[],_,_⟩,fun r'=>Iff.rfl,rfl⟩) (callio_one (g6) [0] [] rfl rfl ⟨rfl,trivial⟩ zp5 rfl (.inl rfl)) ?_
 rintro _ rfl
 refine ⟨tn_ge _ _,(cW ?_)⟩
 refine ⟨⟨[(1,.ptr 2 0)],[(0,.cells 155 [.str x6.2.rest,.bool x6.2.bad]),(1,.cells 69 [.ptr 0 0]),(2,.cells 43 [.int .i64 x1.1,.int .i64 x2.1,.int .i64 x3.1,.int .i64 x4.1,.int .i64 x5.1,.int .i64 x6.1])],3⟩,(wk_of [(0,.id 0),(1,.id 1),(2,.id 2)] rfl ⟨wc0,trivial⟩ ⟨wb0,wb0,wb0,trivial⟩),rfl,rfl,?_⟩
 exact zt9
theorem paQ_le (q:RS):(paQ q).2.rest.length≤q.rest.length:=by
 have l1:=nuQ_le q
 have l2:=nuQ_le (nuQ q).2
 have l3:=nuQ_le (nuQ (nuQ q).2).2
 have l4:=nuQ_le (nuQ (nuQ (nuQ q).2).2).2
 have l5:=nuQ_le (nuQ (nuQ (nuQ (nuQ q).2).2).2).2
 have l6:=inQ_le (nuQ (nuQ (nuQ (nuQ (nuQ q).2).2).2).2).2
 unfold paQ
 dsimp only
 omega
theorem itK_le {T:Type} {one:RS→T×RS} (h:∀ q,(one q).2.rest.length≤q.rest.length) (q:RS):∀ k,(itK one q k).1.rest.length≤q.rest.length
 | 0=>Nat.le_refl _
 | k+1=>by
  have ih:=itK_le h q k
  have h1:=h (itK one q k).1
  unfold itK
  dsimp only
  omega
theorem itK_n {T:Type} (one:RS→T×RS) (q:RS):∀ k,(itK one q k).2.length=k
 | 0=>rfl
 | k+1=>by
  unfold itK
  rw [List.length_append,itK_n one q k]
  rfl
theorem manyQ_le {T:Type} {one:RS→T×RS} (h:∀ q,(one q).2.rest.length≤q.rest.length) (q:RS):(manyQ one q).2.rest.length≤q.rest.length:=by
 have h1:=nuQ_le q
 unfold manyQ
 split
 ·exact h1
 ·have:=itK_le h (nuQ q).2 (nuQ q).1.toNat
  dsimp only
  omega
theorem zt0 {p:Prop}(h:p:=by
 conv=>whnf
 refine ⟨y.1,rfl,(cW ?_)⟩
 refine iO (cW ?_)
 have e1:acc++[y.1]=(Z (k+1)).2:=by rw [hsk]
 have e2:y.2.rest=(Z (k+1)).1.rest:=by rw [hsk]
 have e3:y.2.bad=(Z (k+1)).1.bad:=by rw [hsk]
 refine up (show k<n.toNat by omega) trivial ((wk_of [(0,.id 0),(1,.id 1),(2,.id 5)] rfl ⟨wc0,.fn _ _ _ _ _ ac0 ac0,wa0,ag0,wa0,wa0,trivial⟩ ⟨⟨_,rfl,.cells _ _ _ _ rfl zp58 rfl⟩,wb0,⟨_,rfl,zp17⟩,trivial⟩))):p:=h
theorem zp44 {p:Prop} (h:p:=by dsimp only;omega):p:=h
theorem readBr_r (q:RS) (hs:q.rest.length≤100000000000):RIO Tryz.prog 123 [.ptr 0 0,.fn (.func 124) [] [.ptr 1 0]] [ro q,bx] 2 (fun vs bs es=>vs=[.sl 2 encBr br0 (manyQ brQ q).1]∧bs=[ro (manyQ brQ q).2,bx]∧es=[]):=by
 have l0:=nuQ_le q
 have g0:=nuQ_ok q hs
 have n0:0≤(nuQ q).1:=(numQ_le 59 0 q (by omega)).1
 have hi:(nuQ q).1≤9223372036854775807:=numQ_hi 59 0 q
 unfold manyQ
 have hz:=fun k=>itK_le brQ_le (nuQ q).2 k
 have hzn:=fun k=>itK_n brQ (nuQ q).2 k
 have hz0:itK brQ (nuQ q).2 0=((nuQ q).2,[]):=rfl
 have hzs:∀ k,itK brQ (nuQ q).2 (k+1)=((brQ (itK brQ (nuQ q).2 k).1).2,(itK brQ (nuQ q).2 k).2++[(brQ (itK brQ (nuQ q).2 k).1).1]):=fun _=>rfl
 generalize nuQ q=x at *
 obtain ⟨n,q1⟩:=x
 have gl:=rleft_ok q1
 dsimp only at l0 hz hz0 hzs hzn n0 hi ⊢
 generalize itK brQ q1=Z at *
 have hn:n.toNat=n:=Int.toNat_of_nonneg n0
 refine rO (cxPOk 2 23 [0,1,4,5,6,12,13,14,15]) Tryz.func123 ?_
 conv=>whnf
 refine .raw ([0]++[]) _ rfl (fun _=>⟨⟨_,[0]++[],_,_⟩,fun r'=>Iff.rfl,rfl⟩) (callio_one (g0) [0] [] rfl rfl ⟨rfl,trivial⟩ zp5 rfl (.inl rfl)) ?_
 rintro _ rfl
 refine ⟨tn_ge _ _,(cW ?_)⟩
 refine .raw ([0]++[]) _ rfl (fun _=>⟨⟨_,[0]++[],_,_⟩,fun r'=>Iff.rfl,rfl⟩) (callio_one (gl) [0] [] rfl rfl ⟨rfl,trivial⟩ zp5 rfl (.inl rfl)) ?_
 rintro _ rfl
 refine ⟨tn_ge _ _,(cW ?_)⟩
 refine ⟨fun hc=>?_,fun hc=>?_⟩
 ·have hc:(q1.rest.length:Int)<n:=of_decide_eq_true hc
  rw [if_pos hc]
  conv=>whnf
  refine ⟨⟨[(4,.sl 2 encBr br0 [])],[(0,.cells 155 [.str q1.rest,.bool q1.bad]),(1,.cells 69 [.ptr 0 0])],2⟩,(wk_of [(0,.id 0),(1,.id 1)] rfl ⟨.base (.leT _ _ (LeT.nils_sl 2 encBr br0) rfl),trivial⟩ ⟨wb0,wb0,trivial⟩),rfl,rfl,?_⟩
  exact zt9
 have hc:¬ (q1.rest.length:Int)<n:=of_decide_eq_false hc
 rw [if_neg hc]
 conv=>whnf
 refine loop_up (cxPOk _ _ _) n.toNat (fun _=>True) (fun k=>⟨[(0,.ptr 0 0),(1,.fn (.func 124) [] [.ptr 1 0]),(4,.nils),(6,.own 2),(13,.int .i64 n),(14,.int .i64 (k:Nat))],[(0,.cells 155 [.str (Z k).1.rest,.bool (Z k).1.bad]),(1,.cells 69 [.ptr 0 0]),(2,.row 61 2 encBr br0 (Z k).2)],3⟩) trivial (by
  rw [hz0]
  exact (wk_of [(0,.id 0),(1,.id 1),(2,.nil)] rfl ⟨wc0,.fn _ _ _ _ _ ac0 ac0,wa0,ag0,wa0,wa0,trivial⟩ ⟨wb0,wb0,⟨_,rfl,ae0⟩,trivial⟩)) ?_
 intro k hk _
 have hzk:=hz k
 have hnk:=hzn k
 have hsk:=hzs k
 generalize hzz:Z k=z at *
 obtain ⟨⟨rr,rb⟩,acc⟩:=z
 have hnk:acc.length=k:=hnk
 dsimp only at hzk hsk
 conv=>whnf
 refine ⟨fun hd=>?_,fun hd=>?_⟩
 ·have hd:(k:Int)<n:=of_decide_eq_true hd
  have hone:=brQ_r ⟨rr,rb⟩ zp44
  dsimp only [ro] at hone
  generalize brQ ⟨rr,rb⟩=y at *
  conv=>whnf
  refine cR (hone) [0,1] (cW ?_)
  refine And.intro rfl (cW ?_)
  refine And.intro ⟨rfl,rfl⟩ (And.intro (show (acc.length+1)*16≤140737488355328 by omega) ?_)
  exact zt0
 ·have hd:¬ (k:Int)<n:=of_decide_eq_false hd
  have hkn:n.toNat=k:=by omega
  rw [hkn,hzz]
  conv=>whnf
  refine ⟨⟨[(4,.sl 2 encBr br0 acc)],[(0,.cells 155 [.str rr,.bool rb]),(1,.cells 69 [.ptr 0 0])],2⟩,(wk_frz [2]).trans (wk_of [(0,.id 0),(1,.id 1)] rfl ⟨wa0,trivial⟩ ⟨wb0,wb0,trivial⟩),rfl,rfl,?_⟩
  exact zt9
theorem readVo_r (q:RS) (hs:q.rest.length≤100000000000):RIO Tryz.prog 127 [.ptr 0 0,.fn (.func 128) [] [.ptr 1 0]] [ro q,bx] 2 (fun vs bs es=>vs=[.sl 3 encVo vo0 (manyQ voQ q).1]∧bs=[ro (manyQ voQ q).2,bx]∧es=[]):=by
 have l0:=nuQ_le q
 have g0:=nuQ_ok q hs
 have n0:0≤(nuQ q).1:=(numQ_le 59 0 q (by omega)).1
 have hi:(nuQ q).1≤9223372036854775807:=numQ_hi 59 0 q
 unfold manyQ
 have hz:=fun k=>itK_le voQ_le (nuQ q).2 k
 have hzn:=fun k=>itK_n voQ (nuQ q).2 k
 have hz0:itK voQ (nuQ q).2 0=((nuQ q).2,[]):=rfl
 have hzs:∀ k,itK voQ (nuQ q).2 (k+1)=((voQ (itK voQ (nuQ q).2 k).1).2,(itK voQ (nuQ q).2 k).2++[(voQ (itK voQ (nuQ q).2 k).1).1]):=fun _=>rfl
 generalize nuQ q=x at *
 obtain ⟨n,q1⟩:=x
 have gl:=rleft_ok q1
 dsimp only at l0 hz hz0 hzs hzn n0 hi ⊢
 generalize itK voQ q1=Z at *
 have hn:n.toNat=n:=Int.toNat_of_nonneg n0
 refine rO (cxPOk 2 23 [0,1,4,5,6,12,13,14,15]) Tryz.func127 ?_
 conv=>whnf
 refine .raw ([0]++[]) _ rfl (fun _=>⟨⟨_,[0]++[],_,_⟩,fun r'=>Iff.rfl,rfl⟩) (callio_one (g0) [0] [] rfl rfl ⟨rfl,trivial⟩ zp5 rfl (.inl rfl)) ?_
 rintro _ rfl
 refine ⟨tn_ge _ _,(cW ?_)⟩
 refine .raw ([0]++[]) _ rfl (fun _=>⟨⟨_,[0]++[],_,_⟩,fun r'=>Iff.rfl,rfl⟩) (callio_one (gl) [0] [] rfl rfl ⟨rfl,trivial⟩ zp5 rfl (.inl rfl)) ?_
 rintro _ rfl
 refine ⟨tn_ge _ _,(cW ?_)⟩
 refine ⟨fun hc=>?_,fun hc=>?_⟩
 ·have hc:(q1.rest.length:Int)<n:=of_decide_eq_true hc
  rw [if_pos hc]
  conv=>whnf
  refine ⟨⟨[(4,.sl 3 encVo vo0 [])],[(0,.cells 155 [.str q1.rest,.bool q1.bad]),(1,.cells 69 [.ptr 0 0])],2⟩,(wk_of [(0,.id 0),(1,.id 1)] rfl ⟨.base (.leT _ _ (LeT.nils_sl 3 encVo vo0) rfl),trivial⟩ ⟨wb0,wb0,trivial⟩),rfl,rfl,?_⟩
  exact zt9
 have hc:¬ (q1.rest.length:Int)<n:=of_decide_eq_false hc
 rw [if_neg hc]
 conv=>whnf
 refine loop_up (cxPOk _ _ _) n.toNat (fun _=>True) (fun k=>⟨[(0,.ptr 0 0),(1,.fn (.func 128) [] [.ptr 1 0]),(4,.nils),(6,.own 2),(13,.int .i64 n),(14,.int .i64 (k:Nat))],[(0,.cells 155 [.str (Z k).1.rest,.bool (Z k).1.bad]),(1,.cells 69 [.ptr 0 0]),(2,.row 66 3 encVo vo0 (Z k).2)],3⟩) trivial (by
  rw [hz0]
  exact (wk_of [(0,.id 0),(1,.id 1),(2,.nil)] rfl ⟨wc0,.fn _ _ _ _ _ ac0 ac0,wa0,ag0,wa0,wa0,trivial⟩ ⟨wb0,wb0,⟨_,rfl,ae0⟩,trivial⟩)) ?_
 intro k hk _
 have hzk:=hz k
 have hnk:=hzn k
 have hsk:=hzs k
 generalize hzz:Z k=z at *
 obtain ⟨⟨rr,rb⟩,acc⟩:=z
 have hnk:acc.length=k:=hnk
 dsimp only at hzk hsk
 conv=>whnf
 refine ⟨fun hd=>?_,fun hd=>?_⟩
 ·have hd:(k:Int)<n:=of_decide_eq_true hd
  have hone:=voQ_r ⟨rr,rb⟩ zp44
  dsimp only [ro] at hone
  generalize voQ ⟨rr,rb⟩=y at *
  conv=>whnf
  refine cR (hone) [0,1] (cW ?_)
  refine And.intro rfl (cW ?_)
  refine And.intro ⟨rfl,rfl⟩ (And.intro (show (acc.length+1)*24≤140737488355328 by omega) ?_)
  exact zt0
 ·have hd:¬ (k:Int)<n:=of_decide_eq_false hd
  have hkn:n.toNat=k:=by omega
  rw [hkn,hzz]
  conv=>whnf
  refine ⟨⟨[(4,.sl 3 encVo vo0 acc)],[(0,.cells 155 [.str rr,.bool rb]),(1,.cells 69 [.ptr 0 0])],2⟩,(wk_frz [2]).trans (wk_of [(0,.id 0),(1,.id 1)] rfl ⟨wa0,trivial⟩ ⟨wb0,wb0,trivial⟩),rfl,rfl,?_⟩
  exact zt9
theorem zt86 {p:Prop}(h:p:=by
 conv=>whnf
 refine cR (hone) [0,1] (cW ?_)
 refine And.intro rfl (cW ?_)
 refine And.intro ⟨rfl,rfl⟩ (And.intro (show (acc.length+1)*48≤140737488355328 by omega) ?_)
 exact zt0):p:=h
theorem readFa_r (q:RS) (hs:q.rest.length≤100000000000):RIO Tryz.prog 33 [.ptr 0 0,.fn (.func 34) [] [.ptr 1 0]] [ro q,bx] 2 (fun vs bs es=>vs=[.sl 5 encFa fa0 (manyQ faQ q).1]∧bs=[ro (manyQ faQ q).2,bx]∧es=[]):=by
 have l0:=nuQ_le q
 have g0:=nuQ_ok q hs
 have n0:0≤(nuQ q).1:=(numQ_le 59 0 q (by omega)).1
 have hi:(nuQ q).1≤9223372036854775807:=numQ_hi 59 0 q
 unfold manyQ
 have hz:=fun k=>itK_le faQ_le (nuQ q).2 k
 have hzn:=fun k=>itK_n faQ (nuQ q).2 k
 have hz0:itK faQ (nuQ q).2 0=((nuQ q).2,[]):=rfl
 have hzs:∀ k,itK faQ (nuQ q).2 (k+1)=((faQ (itK faQ (nuQ q).2 k).1).2,(itK faQ (nuQ q).2 k).2++[(faQ (itK faQ (nuQ q).2 k).1).1]):=fun _=>rfl
 generalize nuQ q=x at *
 obtain ⟨n,q1⟩:=x
 have gl:=rleft_ok q1
 dsimp only at l0 hz hz0 hzs hzn n0 hi ⊢
 generalize itK faQ q1=Z at *
 have hn:n.toNat=n:=Int.toNat_of_nonneg n0
 refine rO (cxPOk 2 23 [0,1,4,5,6,12,13,14,15]) Tryz.func33 ?_
 conv=>whnf
 refine .raw ([0]++[]) _ rfl (fun _=>⟨⟨_,[0]++[],_,_⟩,fun r'=>Iff.rfl,rfl⟩) (callio_one (g0) [0] [] rfl rfl ⟨rfl,trivial⟩ zp5 rfl (.inl rfl)) ?_
 rintro _ rfl
 refine ⟨tn_ge _ _,(cW ?_)⟩
 refine .raw ([0]++[]) _ rfl (fun _=>⟨⟨_,[0]++[],_,_⟩,fun r'=>Iff.rfl,rfl⟩) (callio_one (gl) [0] [] rfl rfl ⟨rfl,trivial⟩ zp5 rfl (.inl rfl)) ?_
 rintro _ rfl
 refine ⟨tn_ge _ _,(cW ?_)⟩
 refine ⟨fun hc=>?_,fun hc=>?_⟩
 ·have hc:(q1.rest.length:Int)<n:=of_decide_eq_true hc
  rw [if_pos hc]
  conv=>whnf
  refine ⟨⟨[(4,.sl 5 encFa fa0 [])],[(0,.cells 155 [.str q1.rest,.bool q1.bad]),(1,.cells 69 [.ptr 0 0])],2⟩,(wk_of [(0,.id 0),(1,.id 1)] rfl ⟨.base (.leT _ _ (LeT.nils_sl 5 encFa fa0) rfl),trivial⟩ ⟨wb0,wb0,trivial⟩),rfl,rfl,?_⟩
  exact zt9
 have hc:¬ (q1.rest.length:Int)<n:=of_decide_eq_false hc
 rw [if_neg hc]
 conv=>whnf
 refine loop_up (cxPOk _ _ _) n.toNat (fun _=>True) (fun k=>⟨[(0,.ptr 0 0),(1,.fn (.func 34) [] [.ptr 1 0]),(4,.nils),(6,.own 2),(13,.int .i64 n),(14,.int .i64 (k:Nat))],[(0,.cells 155 [.str (Z k).1.rest,.bool (Z k).1.bad]),(1,.cells 69 [.ptr 0 0]),(2,.row 41 5 encFa fa0 (Z k).2)],3⟩) trivial (by
  rw [hz0]
  exact (wk_of [(0,.id 0),(1,.id 1),(2,.nil)] rfl ⟨wc0,.fn _ _ _ _ _ ac0 ac0,wa0,ag0,wa0,wa0,trivial⟩ ⟨wb0,wb0,⟨_,rfl,ae0⟩,trivial⟩)) ?_
 intro k hk _
 have hzk:=hz k
 have hnk:=hzn k
 have hsk:=hzs k
 generalize hzz:Z k=z at *
 obtain ⟨⟨rr,rb⟩,acc⟩:=z
 have hnk:acc.length=k:=hnk
 dsimp only at hzk hsk
 conv=>whnf
 refine ⟨fun hd=>?_,fun hd=>?_⟩
 ·have hd:(k:Int)<n:=of_decide_eq_true hd
  have hone:=faQ_r ⟨rr,rb⟩ zp44
  dsimp only [ro] at hone
  generalize faQ ⟨rr,rb⟩=y at *
  exact zt86
 ·have hd:¬ (k:Int)<n:=of_decide_eq_false hd
  have hkn:n.toNat=k:=by omega
  rw [hkn,hzz]
  conv=>whnf
  refine ⟨⟨[(4,.sl 5 encFa fa0 acc)],[(0,.cells 155 [.str rr,.bool rb]),(1,.cells 69 [.ptr 0 0])],2⟩,(wk_frz [2]).trans (wk_of [(0,.id 0),(1,.id 1)] rfl ⟨wa0,trivial⟩ ⟨wb0,wb0,trivial⟩),rfl,rfl,?_⟩
  exact zt9
theorem readPa_r (q:RS) (hs:q.rest.length≤100000000000):RIO Tryz.prog 36 [.ptr 0 0,.fn (.func 37) [] [.ptr 1 0]] [ro q,bx] 2 (fun vs bs es=>vs=[.sl 6 encPa pa0 (manyQ paQ q).1]∧bs=[ro (manyQ paQ q).2,bx]∧es=[]):=by
 have l0:=nuQ_le q
 have g0:=nuQ_ok q hs
 have n0:0≤(nuQ q).1:=(numQ_le 59 0 q (by omega)).1
 have hi:(nuQ q).1≤9223372036854775807:=numQ_hi 59 0 q
 unfold manyQ
 have hz:=fun k=>itK_le paQ_le (nuQ q).2 k
 have hzn:=fun k=>itK_n paQ (nuQ q).2 k
 have hz0:itK paQ (nuQ q).2 0=((nuQ q).2,[]):=rfl
 have hzs:∀ k,itK paQ (nuQ q).2 (k+1)=((paQ (itK paQ (nuQ q).2 k).1).2,(itK paQ (nuQ q).2 k).2++[(paQ (itK paQ (nuQ q).2 k).1).1]):=fun _=>rfl
 generalize nuQ q=x at *
 obtain ⟨n,q1⟩:=x
 have gl:=rleft_ok q1
 dsimp only at l0 hz hz0 hzs hzn n0 hi ⊢
 generalize itK paQ q1=Z at *
 have hn:n.toNat=n:=Int.toNat_of_nonneg n0
 refine rO (cxPOk 2 23 [0,1,4,5,6,12,13,14,15]) Tryz.func36 ?_
 conv=>whnf
 refine .raw ([0]++[]) _ rfl (fun _=>⟨⟨_,[0]++[],_,_⟩,fun r'=>Iff.rfl,rfl⟩) (callio_one (g0) [0] [] rfl rfl ⟨rfl,trivial⟩ zp5 rfl (.inl rfl)) ?_
 rintro _ rfl
 refine ⟨tn_ge _ _,(cW ?_)⟩
 refine .raw ([0]++[]) _ rfl (fun _=>⟨⟨_,[0]++[],_,_⟩,fun r'=>Iff.rfl,rfl⟩) (callio_one (gl) [0] [] rfl rfl ⟨rfl,trivial⟩ zp5 rfl (.inl rfl)) ?_
 rintro _ rfl
 refine ⟨tn_ge _ _,(cW ?_)⟩
 refine ⟨fun hc=>?_,fun hc=>?_⟩
 ·have hc:(q1.rest.length:Int)<n:=of_decide_eq_true hc
  rw [if_pos hc]
  conv=>whnf
  refine ⟨⟨[(4,.sl 6 encPa pa0 [])],[(0,.cells 155 [.str q1.rest,.bool q1.bad]),(1,.cells 69 [.ptr 0 0])],2⟩,(wk_of [(0,.id 0),(1,.id 1)] rfl ⟨.base (.leT _ _ (LeT.nils_sl 6 encPa pa0) rfl),trivial⟩ ⟨wb0,wb0,trivial⟩),rfl,rfl,?_⟩
  exact zt9
 have hc:¬ (q1.rest.length:Int)<n:=of_decide_eq_false hc
 rw [if_neg hc]
 conv=>whnf
 refine loop_up (cxPOk _ _ _) n.toNat (fun _=>True) (fun k=>⟨[(0,.ptr 0 0),(1,.fn (.func 37) [] [.ptr 1 0]),(4,.nils),(6,.own 2),(13,.int .i64 n),(14,.int .i64 (k:Nat))],[(0,.cells 155 [.str (Z k).1.rest,.bool (Z k).1.bad]),(1,.cells 69 [.ptr 0 0]),(2,.row 43 6 encPa pa0 (Z k).2)],3⟩) trivial (by
  rw [hz0]
  exact (wk_of [(0,.id 0),(1,.id 1),(2,.nil)] rfl ⟨wc0,.fn _ _ _ _ _ ac0 ac0,wa0,ag0,wa0,wa0,trivial⟩ ⟨wb0,wb0,⟨_,rfl,ae0⟩,trivial⟩)) ?_
 intro k hk _
 have hzk:=hz k
 have hnk:=hzn k
 have hsk:=hzs k
 generalize hzz:Z k=z at *
 obtain ⟨⟨rr,rb⟩,acc⟩:=z
 have hnk:acc.length=k:=hnk
 dsimp only at hzk hsk
 conv=>whnf
 refine ⟨fun hd=>?_,fun hd=>?_⟩
 ·have hd:(k:Int)<n:=of_decide_eq_true hd
  have hone:=paQ_r ⟨rr,rb⟩ zp44
  dsimp only [ro] at hone
  generalize paQ ⟨rr,rb⟩=y at *
  exact zt86
 ·have hd:¬ (k:Int)<n:=of_decide_eq_false hd
  have hkn:n.toNat=k:=by omega
  rw [hkn,hzz]
  conv=>whnf
  refine ⟨⟨[(4,.sl 6 encPa pa0 acc)],[(0,.cells 155 [.str rr,.bool rb]),(1,.cells 69 [.ptr 0 0])],2⟩,(wk_frz [2]).trans (wk_of [(0,.id 0),(1,.id 1)] rfl ⟨wa0,trivial⟩ ⟨wb0,wb0,trivial⟩),rfl,rfl,?_⟩
  exact zt9
theorem readNu_r (q:RS) (hs:q.rest.length≤100000000000):RIO Tryz.prog 28 [.ptr 0 0,.fn (.func 27) [.ptr 0 0] []] [ro q] 1 (fun vs bs es=>vs=[.sl 1 encI 0 (manyQ nuQ q).1]∧bs=[ro (manyQ nuQ q).2]∧es=[]):=by
 have l0:=nuQ_le q
 have g0:=nuQ_ok q hs
 have n0:0≤(nuQ q).1:=(numQ_le 59 0 q (by omega)).1
 have hi:(nuQ q).1≤9223372036854775807:=numQ_hi 59 0 q
 unfold manyQ
 have hz:=fun k=>itK_le nuQ_le (nuQ q).2 k
 have hzn:=fun k=>itK_n nuQ (nuQ q).2 k
 have hz0:itK nuQ (nuQ q).2 0=((nuQ q).2,[]):=rfl
 have hzs:∀ k,itK nuQ (nuQ q).2 (k+1)=((nuQ (itK nuQ (nuQ q).2 k).1).2,(itK nuQ (nuQ q).2 k).2++[(nuQ (itK nuQ (nuQ q).2 k).1).1]):=fun _=>rfl
 generalize nuQ q=x at *
 obtain ⟨n,q1⟩:=x
 have gl:=rleft_ok q1
 dsimp only at l0 hz hz0 hzs hzn n0 hi ⊢
 generalize itK nuQ q1=Z at *
 have hn:n.toNat=n:=Int.toNat_of_nonneg n0
 refine rO (cxPOk 1 23 [0,1,4,5,6,12,13,14,15]) Tryz.func28 ?_
 conv=>whnf
 refine .raw ([0]++[]) _ rfl (fun _=>⟨⟨_,[0]++[],_,_⟩,fun r'=>Iff.rfl,rfl⟩) (callio_one (g0) [0] [] rfl rfl ⟨rfl,trivial⟩ zp5 rfl (.inl rfl)) ?_
 rintro _ rfl
 refine ⟨tn_ge _ _,(cW ?_)⟩
 refine .raw ([0]++[]) _ rfl (fun _=>⟨⟨_,[0]++[],_,_⟩,fun r'=>Iff.rfl,rfl⟩) (callio_one (gl) [0] [] rfl rfl ⟨rfl,trivial⟩ zp5 rfl (.inl rfl)) ?_
 rintro _ rfl
 refine ⟨tn_ge _ _,(cW ?_)⟩
 refine ⟨fun hc=>?_,fun hc=>?_⟩
 ·have hc:(q1.rest.length:Int)<n:=of_decide_eq_true hc
  rw [if_pos hc]
  conv=>whnf
  refine ⟨⟨[(4,.sl 1 encI 0 [])],[(0,.cells 155 [.str q1.rest,.bool q1.bad])],1⟩,(wk_of [(0,.id 0)] rfl ⟨.base (.leT _ _ (LeT.nils_sl 1 encI 0) rfl),trivial⟩ ⟨wb0,trivial⟩),rfl,rfl,?_⟩
  exact zt9
 have hc:¬ (q1.rest.length:Int)<n:=of_decide_eq_false hc
 rw [if_neg hc]
 conv=>whnf
 refine loop_up (cxPOk _ _ _) n.toNat (fun _=>True) (fun k=>⟨[(0,.ptr 0 0),(1,.fn (.func 27) [.ptr 0 0] []),(4,.nils),(6,.own 1),(13,.int .i64 n),(14,.int .i64 (k:Nat))],[(0,.cells 155 [.str (Z k).1.rest,.bool (Z k).1.bad]),(1,.row 3 1 encI 0 (Z k).2)],2⟩) trivial (by
  rw [hz0]
  exact (wk_of [(0,.id 0),(1,.nil)] rfl ⟨wc0,.fn _ _ _ _ _ ac0 ac0,wa0,ag0,wa0,wa0,trivial⟩ ⟨wb0,⟨_,rfl,ae0⟩,trivial⟩)) ?_
 intro k hk _
 have hzk:=hz k
 have hnk:=hzn k
 have hsk:=hzs k
 generalize hzz:Z k=z at *
 obtain ⟨⟨rr,rb⟩,acc⟩:=z
 have hnk:acc.length=k:=hnk
 dsimp only at hzk hsk
 conv=>whnf
 refine ⟨fun hd=>?_,fun hd=>?_⟩
 ·have hd:(k:Int)<n:=of_decide_eq_true hd
  have hone:=nuQ_ok ⟨rr,rb⟩ zp44
  dsimp only [ro] at hone
  generalize nuQ ⟨rr,rb⟩=y at *
  conv=>whnf
  refine .raw ([0]++[]) _ rfl (fun _=>⟨⟨_,[0]++[],_,_⟩,fun r'=>Iff.rfl,rfl⟩) (callio_one (hone) [0] [] rfl rfl ⟨rfl,trivial⟩ zp5 rfl (.inl rfl)) ?_
  rintro _ rfl
  refine ⟨tn_ge _ _,(cW ?_)⟩
  refine And.intro rfl (cW ?_)
  refine And.intro ⟨rfl,rfl⟩ (And.intro (show (acc.length+1)*8≤140737488355328 by omega) (cW ?_))
  refine ⟨y.1,rfl,(cW ?_)⟩
  refine iO (cW ?_)
  have e1:acc++[y.1]=(Z (k+1)).2:=by rw [hsk]
  have e2:y.2.rest=(Z (k+1)).1.rest:=by rw [hsk]
  have e3:y.2.bad=(Z (k+1)).1.bad:=by rw [hsk]
  refine up (show k<n.toNat by omega) trivial ((wk_of [(0,.id 0),(1,.id 3)] rfl ⟨wc0,.fn _ _ _ _ _ ac0 ac0,wa0,ag0,wa0,wa0,trivial⟩ ⟨⟨_,rfl,.cells _ _ _ _ rfl zp58 rfl⟩,⟨_,rfl,zp17⟩,trivial⟩))
 ·have hd:¬ (k:Int)<n:=of_decide_eq_false hd
  have hkn:n.toNat=k:=by omega
  rw [hkn,hzz]
  conv=>whnf
  refine ⟨⟨[(4,.sl 1 encI 0 acc)],[(0,.cells 155 [.str rr,.bool rb])],1⟩,(wk_frz [1]).trans (wk_of [(0,.id 0)] rfl ⟨wa0,trivial⟩ ⟨wb0,trivial⟩),rfl,rfl,?_⟩
  exact zt9
theorem lsQ_le (q:RS):(listQ oneI q).2.rest.length≤q.rest.length:=by
 have h1:=(numQ_le 91 0 q (Int.le_refl _)).2
 have h2:=stK_rest oneI_le (numQ 91 0 q).2 (numQ 91 0 q).1.toNat
 unfold listQ itemsQ
 dsimp only
 cases hc:closeR [93] (stK oneI (numQ 91 0 q).2 (numQ 91 0 q).1.toNat).1.rest with
 | none=>simp
 | some r =>
  have:=closeR_le hc
  dsimp only
  omega
theorem lsQ_r (q:RS) (hs:q.rest.length≤100000000000):RIO Tryz.prog 122 [.ptr 0 0] [ro q] 1 (fun vs bs es=>vs=[.sl 1 encI 0 (listQ oneI q).1]∧bs=[ro (listQ oneI q).2]∧es=[]):=by
 have h:=itemsI_ok q (by omega) (accI q (by omega))
 unfold listQ
 dsimp only
 generalize itemsQ oneI q=x at *
 obtain ⟨_ | l,q1⟩:=x
 ·dsimp only [oneR] at h
  refine rO (cxPOk 1 7 [0,2]) Tryz.func122 ?_
  conv=>whnf
  refine .raw _ _ rfl (fun h=>by cases h) (callio_sem (h) [0] _ rfl rfl ⟨rfl,trivial⟩ zp3 rfl zp2) ?_
  rintro w ⟨b',rs,⟨rfl,rfl⟩,rfl⟩
  refine ⟨tn_ge _ _,(cW ?_)⟩
  refine ⟨⟨[(2,.sl 1 encI 0 [])],[(0,.cells 155 [.str q1.rest,.bool q1.bad])],1⟩,(wk_of [(0,.id 0)] rfl ⟨.base (.leT _ _ (LeT.nils_sl 1 encI 0) rfl),trivial⟩ ⟨wb0,trivial⟩),rfl,rfl,?_⟩
  exact zt9
 ·dsimp only [oneR] at h
  refine rO (cxPOk 1 7 [0,2]) Tryz.func122 ?_
  conv=>whnf
  refine .raw _ _ rfl (fun h=>by cases h) (callio_sem (h) [0] _ rfl rfl ⟨rfl,trivial⟩ zp3 rfl zp2) ?_
  rintro w ⟨b',rs,⟨rfl,rfl⟩,rfl⟩
  refine ⟨tn_ge _ _,(cW ?_)⟩
  refine ⟨⟨[(2,.sl 1 encI 0 l)],[(0,.cells 155 [.str q1.rest,.bool q1.bad])],1⟩,(wk_frz [1]).trans (wk_of [(0,.id 0)] rfl ⟨wa0,trivial⟩ ⟨wb0,trivial⟩),rfl,rfl,?_⟩
  exact zt9
theorem mbQ_le (q:RS):(manyQ brQ q).2.rest.length≤q.rest.length:=manyQ_le brQ_le q
theorem mvQ_le (q:RS):(manyQ voQ q).2.rest.length≤q.rest.length:=manyQ_le voQ_le q
abbrev celLi (b:Lin):List AV:=[.str b.text,.sl 1 encI 0 b.units,.sl 1 encI 0 b.noted,.int .i64 b.notedAt,.sl 2 encBr br0 b.stages,.int .i64 b.fast,.int .i64 b.called,.int .i64 b.price,.bool b.ended,.int .i64 b.since]
theorem liQ_l (q:RS) (hs:q.rest.length≤100000000000):RIO Tryz.prog 32 [.ptr 0 0] [ro q] 1 (fun vs bs es=>vs=[encLi (liQ q).1]∧bs=[ro (liQ q).2]∧es=[.cells 47 (celLi (liQ q).1)]):=by
 have l1:=txQ_le q
 have g1:=txQ_ok q (by omega)
 have l2:=lsQ_le (textQ q).2
 have g2:=lsQ_r (textQ q).2 (by omega)
 have l3:=lsQ_le (listQ oneI (textQ q).2).2
 have g3:=lsQ_r (listQ oneI (textQ q).2).2 (by omega)
 have l4:=inQ_le (listQ oneI (listQ oneI (textQ q).2).2).2
 have g4:=inQ_ok (listQ oneI (listQ oneI (textQ q).2).2).2 (by omega)
 have l5:=mbQ_le (oneI (listQ oneI (listQ oneI (textQ q).2).2).2).2
 have g5:=readBr_r (oneI (listQ oneI (listQ oneI (textQ q).2).2).2).2 (by omega)
 have l6:=inQ_le (manyQ brQ (oneI (listQ oneI (listQ oneI (textQ q).2).2).2).2).2
 have g6:=inQ_ok (manyQ brQ (oneI (listQ oneI (listQ oneI (textQ q).2).2).2).2).2 (by omega)
 have l7:=inQ_le (oneI (manyQ brQ (oneI (listQ oneI (listQ oneI (textQ q).2).2).2).2).2).2
 have g7:=inQ_ok (oneI (manyQ brQ (oneI (listQ oneI (listQ oneI (textQ q).2).2).2).2).2).2 (by omega)
 have l8:=nuQ_le (oneI (oneI (manyQ brQ (oneI (listQ oneI (listQ oneI (textQ q).2).2).2).2).2).2).2
 have g8:=nuQ_ok (oneI (oneI (manyQ brQ (oneI (listQ oneI (listQ oneI (textQ q).2).2).2).2).2).2).2 (by omega)
 have l9:=nuQ_le (nuQ (oneI (oneI (manyQ brQ (oneI (listQ oneI (listQ oneI (textQ q).2).2).2).2).2).2).2).2
 have g9:=nuQ_ok (nuQ (oneI (oneI (manyQ brQ (oneI (listQ oneI (listQ oneI (textQ q).2).2).2).2).2).2).2).2 (by omega)
 have l10:=nuQ_le (nuQ (nuQ (oneI (oneI (manyQ brQ (oneI (listQ oneI (listQ oneI (textQ q).2).2).2).2).2).2).2).2).2
 have g10:=nuQ_ok (nuQ (nuQ (oneI (oneI (manyQ brQ (oneI (listQ oneI (listQ oneI (textQ q).2).2).2).2).2).2).2).2).2 (by omega)
 unfold liQ
 dsimp only
 generalize nuQ (nuQ (nuQ (oneI (oneI (manyQ brQ (oneI (listQ oneI (listQ oneI (textQ q).2).2).2).2).2).2).2).2).2=x10 at *
 generalize nuQ (nuQ (oneI (oneI (manyQ brQ (oneI (listQ oneI (listQ oneI (textQ q).2).2).2).2).2).2).2).2=x9 at *
 generalize nuQ (oneI (oneI (manyQ brQ (oneI (listQ oneI (listQ oneI (textQ q).2).2).2).2).2).2).2=x8 at *
 generalize oneI (oneI (manyQ brQ (oneI (listQ oneI (listQ oneI (textQ q).2).2).2).2).2).2=x7 at *
 generalize oneI (manyQ brQ (oneI (listQ oneI (listQ oneI (textQ q).2).2).2).2).2=x6 at *
 generalize manyQ brQ (oneI (listQ oneI (listQ oneI (textQ q).2).2).2).2=x5 at *
 generalize oneI (listQ oneI (listQ oneI (textQ q).2).2).2=x4 at *
 generalize listQ oneI (listQ oneI (textQ q).2).2=x3 at *
 generalize listQ oneI (textQ q).2=x2 at *
 generalize textQ q=x1 at *
 refine rO (cxPOk 1 36 [0,1,2]) Tryz.func32 ?_
 conv=>whnf
 refine .raw ([0]++[]) _ rfl (fun _=>⟨⟨_,[0]++[],_,_⟩,fun r'=>Iff.rfl,rfl⟩) (callio_one (g1) [0] [] rfl rfl ⟨rfl,trivial⟩ zp5 rfl (.inl rfl)) ?_
 rintro _ rfl
 refine ⟨tn_ge _ _,(cW ?_)⟩
 refine .eff ad0 (cW ?_)
 refine cR (g2) [0] (cW ?_)
 refine cR (g3) [0] (cW ?_)
 refine ⟨by kernel_rfl,(cW ?_)⟩
 refine .raw ([0]++[]) _ rfl (fun _=>⟨⟨_,[0]++[],_,_⟩,fun r'=>Iff.rfl,rfl⟩) (callio_one (g4) [0] [] rfl rfl ⟨rfl,trivial⟩ zp5 rfl (.inl rfl)) ?_
 rintro _ rfl
 refine ⟨tn_ge _ _,(cW ?_)⟩
 refine cR (g5) [0,1] (cW ?_)
 refine .eff ad0 (cW ?_)
 refine .raw ([0]++[]) _ rfl (fun _=>⟨⟨_,[0]++[],_,_⟩,fun r'=>Iff.rfl,rfl⟩) (callio_one (g6) [0] [] rfl rfl ⟨rfl,trivial⟩ zp5 rfl (.inl rfl)) ?_
 rintro _ rfl
 refine ⟨tn_ge _ _,(cW ?_)⟩
 refine .raw ([0]++[]) _ rfl (fun _=>⟨⟨_,[0]++[],_,_⟩,fun r'=>Iff.rfl,rfl⟩) (callio_one (g7) [0] [] rfl rfl ⟨rfl,trivial⟩ zp5 rfl (.inl rfl)) ?_
 rintro _ rfl
 refine ⟨tn_ge _ _,(cW ?_)⟩
 refine ⟨by kernel_rfl,(cW ?_)⟩
 refine .raw ([0]++[]) _ rfl (fun _=>⟨⟨_,[0]++[],_,_⟩,fun r'=>Iff.rfl,rfl⟩) (callio_one (g8) [0] [] rfl rfl ⟨rfl,trivial⟩ zp5 rfl (.inl rfl)) ?_
 rintro _ rfl
 refine ⟨tn_ge _ _,(cW ?_)⟩
 refine .raw ([0]++[]) _ rfl (fun _=>⟨⟨_,[0]++[],_,_⟩,fun r'=>Iff.rfl,rfl⟩) (callio_one (g9) [0] [] rfl rfl ⟨rfl,trivial⟩ zp5 rfl (.inl rfl)) ?_
 rintro _ rfl
 refine ⟨tn_ge _ _,(cW ?_)⟩
 refine .raw ([0]++[]) _ rfl (fun _=>⟨⟨_,[0]++[],_,_⟩,fun r'=>Iff.rfl,rfl⟩) (callio_one (g10) [0] [] rfl rfl ⟨rfl,trivial⟩ zp5 rfl (.inl rfl)) ?_
 rintro _ rfl
 refine ⟨tn_ge _ _,(cW ?_)⟩
 refine ⟨⟨[(2,.ptr 1 0)],[(0,.cells 155 [.str x10.2.rest,.bool x10.2.bad]),(1,.cells 47 [.str x1.1,.sl 1 encI 0 x2.1,.sl 1 encI 0 x3.1,.int .i64 x4.1,.sl 2 encBr br0 x5.1,.int .i64 x6.1,.int .i64 x7.1,.int .i64 x8.1,.bool (decide (x9.1=1)),.int .i64 x10.1])],2⟩,(wk_of [(0,.id 0),(1,.id 2)] rfl ⟨wc0,trivial⟩ ⟨wb0,wb0,trivial⟩),rfl,rfl,?_⟩
 exact zt9
theorem liQ_le (q:RS):(liQ q).2.rest.length≤q.rest.length:=by
 have l1:=txQ_le q
 have l2:=lsQ_le (textQ q).2
 have l3:=lsQ_le (listQ oneI (textQ q).2).2
 have l4:=inQ_le (listQ oneI (listQ oneI (textQ q).2).2).2
 have l5:=mbQ_le (oneI (listQ oneI (listQ oneI (textQ q).2).2).2).2
 have l6:=inQ_le (manyQ brQ (oneI (listQ oneI (listQ oneI (textQ q).2).2).2).2).2
 have l7:=inQ_le (oneI (manyQ brQ (oneI (listQ oneI (listQ oneI (textQ q).2).2).2).2).2).2
 have l8:=nuQ_le (oneI (oneI (manyQ brQ (oneI (listQ oneI (listQ oneI (textQ q).2).2).2).2).2).2).2
 have l9:=nuQ_le (nuQ (oneI (oneI (manyQ brQ (oneI (listQ oneI (listQ oneI (textQ q).2).2).2).2).2).2).2).2
 have l10:=nuQ_le (nuQ (nuQ (oneI (oneI (manyQ brQ (oneI (listQ oneI (listQ oneI (textQ q).2).2).2).2).2).2).2).2).2
 unfold liQ
 dsimp only
 omega
theorem liQ_r (q:RS) (hs:q.rest.length≤100000000000):RIO Tryz.prog 31 [.ptr 1 0] [ro q,bx] 2 (fun vs bs es=>vs=[encLi (liQ q).1]∧bs=[ro (liQ q).2,bx]∧es=[.cells 47 (celLi (liQ q).1)]):=by
 have g:=liQ_l q hs
 generalize liQ q=x at *
 obtain ⟨b,q1⟩:=x
 refine rO (cxPOk 2 4 [0,1]) Tryz.func31 ?_
 conv=>whnf
 refine cR (g) [0] (cW ?_)
 refine ⟨⟨[(1,.ptr 2 0)],[(0,.cells 155 [.str q1.rest,.bool q1.bad]),(1,.cells 69 [.ptr 0 0]),(2,.cells 47 [.str b.text,.sl 1 encI 0 b.units,.sl 1 encI 0 b.noted,.int .i64 b.notedAt,.sl 2 encBr br0 b.stages,.int .i64 b.fast,.int .i64 b.called,.int .i64 b.price,.bool b.ended,.int .i64 b.since])],3⟩,(wk_of [(0,.id 0),(1,.id 1),(2,.id 2)] rfl ⟨wc0,trivial⟩ ⟨wb0,wb0,wb0,trivial⟩),rfl,rfl,?_⟩
 exact zt9
abbrev celPr (b:Pro):List AV:=[.int .i64 b.issue,.str b.text,.int .i64 b.day,.sl 1 encI 0 b.units,.sl 3 encVo vo0 b.votes,.bool b.closed]
theorem prQ_l (q:RS) (hs:q.rest.length≤100000000000):RIO Tryz.prog 40 [.ptr 0 0] [ro q] 1 (fun vs bs es=>vs=[encPr (prQ q).1]∧bs=[ro (prQ q).2]∧es=[.cells 64 (celPr (prQ q).1)]):=by
 have l1:=nuQ_le q
 have g1:=nuQ_ok q (by omega)
 have l2:=txQ_le (nuQ q).2
 have g2:=txQ_ok (nuQ q).2 (by omega)
 have l3:=nuQ_le (textQ (nuQ q).2).2
 have g3:=nuQ_ok (textQ (nuQ q).2).2 (by omega)
 have l4:=lsQ_le (nuQ (textQ (nuQ q).2).2).2
 have g4:=lsQ_r (nuQ (textQ (nuQ q).2).2).2 (by omega)
 have l5:=mvQ_le (listQ oneI (nuQ (textQ (nuQ q).2).2).2).2
 have g5:=readVo_r (listQ oneI (nuQ (textQ (nuQ q).2).2).2).2 (by omega)
 have l6:=nuQ_le (manyQ voQ (listQ oneI (nuQ (textQ (nuQ q).2).2).2).2).2
 have g6:=nuQ_ok (manyQ voQ (listQ oneI (nuQ (textQ (nuQ q).2).2).2).2).2 (by omega)
 unfold prQ
 dsimp only
 generalize nuQ (manyQ voQ (listQ oneI (nuQ (textQ (nuQ q).2).2).2).2).2=x6 at *
 generalize manyQ voQ (listQ oneI (nuQ (textQ (nuQ q).2).2).2).2=x5 at *
 generalize listQ oneI (nuQ (textQ (nuQ q).2).2).2=x4 at *
 generalize nuQ (textQ (nuQ q).2).2=x3 at *
 generalize textQ (nuQ q).2=x2 at *
 generalize nuQ q=x1 at *
 refine rO (cxPOk 1 24 [0,1,2]) Tryz.func40 ?_
 conv=>whnf
 refine .raw ([0]++[]) _ rfl (fun _=>⟨⟨_,[0]++[],_,_⟩,fun r'=>Iff.rfl,rfl⟩) (callio_one (g1) [0] [] rfl rfl ⟨rfl,trivial⟩ zp5 rfl (.inl rfl)) ?_
 rintro _ rfl
 refine ⟨tn_ge _ _,(cW ?_)⟩
 refine .raw ([0]++[]) _ rfl (fun _=>⟨⟨_,[0]++[],_,_⟩,fun r'=>Iff.rfl,rfl⟩) (callio_one (g2) [0] [] rfl rfl ⟨rfl,trivial⟩ zp5 rfl (.inl rfl)) ?_
 rintro _ rfl
 refine ⟨tn_ge _ _,(cW ?_)⟩
 refine .raw ([0]++[]) _ rfl (fun _=>⟨⟨_,[0]++[],_,_⟩,fun r'=>Iff.rfl,rfl⟩) (callio_one (g3) [0] [] rfl rfl ⟨rfl,trivial⟩ zp5 rfl (.inl rfl)) ?_
 rintro _ rfl
 refine ⟨tn_ge _ _,(cW ?_)⟩
 refine cR (g4) [0] (cW ?_)
 refine cR (g5) [0,1] (cW ?_)
 refine .raw ([0]++[]) _ rfl (fun _=>⟨⟨_,[0]++[],_,_⟩,fun r'=>Iff.rfl,rfl⟩) (callio_one (g6) [0] [] rfl rfl ⟨rfl,trivial⟩ zp5 rfl (.inl rfl)) ?_
 rintro _ rfl
 refine ⟨tn_ge _ _,(cW ?_)⟩
 refine ⟨⟨[(2,.ptr 1 0)],[(0,.cells 155 [.str x6.2.rest,.bool x6.2.bad]),(1,.cells 64 [.int .i64 x1.1,.str x2.1,.int .i64 x3.1,.sl 1 encI 0 x4.1,.sl 3 encVo vo0 x5.1,.bool (decide (x6.1=1))])],2⟩,(wk_of [(0,.id 0),(1,.id 2)] rfl ⟨wc0,trivial⟩ ⟨wb0,wb0,trivial⟩),rfl,rfl,?_⟩
 exact zt9
theorem prQ_le (q:RS):(prQ q).2.rest.length≤q.rest.length:=by
 have l1:=nuQ_le q
 have l2:=txQ_le (nuQ q).2
 have l3:=nuQ_le (textQ (nuQ q).2).2
 have l4:=lsQ_le (nuQ (textQ (nuQ q).2).2).2
 have l5:=mvQ_le (listQ oneI (nuQ (textQ (nuQ q).2).2).2).2
 have l6:=nuQ_le (manyQ voQ (listQ oneI (nuQ (textQ (nuQ q).2).2).2).2).2
 unfold prQ
 dsimp only
 omega
theorem prQ_r (q:RS) (hs:q.rest.length≤100000000000):RIO Tryz.prog 39 [.ptr 1 0] [ro q,bx] 2 (fun vs bs es=>vs=[encPr (prQ q).1]∧bs=[ro (prQ q).2,bx]∧es=[.cells 64 (celPr (prQ q).1)]):=by
 have g:=prQ_l q hs
 generalize prQ q=x at *
 obtain ⟨b,q1⟩:=x
 refine rO (cxPOk 2 4 [0,1]) Tryz.func39 ?_
 conv=>whnf
 refine cR (g) [0] (cW ?_)
 refine ⟨⟨[(1,.ptr 2 0)],[(0,.cells 155 [.str q1.rest,.bool q1.bad]),(1,.cells 69 [.ptr 0 0]),(2,.cells 64 [.int .i64 b.issue,.str b.text,.int .i64 b.day,.sl 1 encI 0 b.units,.sl 3 encVo vo0 b.votes,.bool b.closed])],3⟩,(wk_of [(0,.id 0),(1,.id 1),(2,.id 2)] rfl ⟨wc0,trivial⟩ ⟨wb0,wb0,wb0,trivial⟩),rfl,rfl,?_⟩
 exact zt9
theorem readLi_r (q:RS) (hs:q.rest.length≤100000000000):RIO Tryz.prog 30 [.ptr 0 0,.fn (.func 31) [] [.ptr 1 0]] [ro q,bx] 2 (fun vs bs es=>vs=[.sl 10 encLi li0 (manyQ liQ q).1]∧bs=[ro (manyQ liQ q).2,bx]∧es=[]):=by
 have l0:=nuQ_le q
 have g0:=nuQ_ok q hs
 have n0:0≤(nuQ q).1:=(numQ_le 59 0 q (by omega)).1
 have hi:(nuQ q).1≤9223372036854775807:=numQ_hi 59 0 q
 unfold manyQ
 have hz:=fun k=>itK_le liQ_le (nuQ q).2 k
 have hzn:=fun k=>itK_n liQ (nuQ q).2 k
 have hz0:itK liQ (nuQ q).2 0=((nuQ q).2,[]):=rfl
 have hzs:∀ k,itK liQ (nuQ q).2 (k+1)=((liQ (itK liQ (nuQ q).2 k).1).2,(itK liQ (nuQ q).2 k).2++[(liQ (itK liQ (nuQ q).2 k).1).1]):=fun _=>rfl
 generalize nuQ q=x at *
 obtain ⟨n,q1⟩:=x
 have gl:=rleft_ok q1
 dsimp only at l0 hz hz0 hzs hzn n0 hi ⊢
 generalize itK liQ q1=Z at *
 have hn:n.toNat=n:=Int.toNat_of_nonneg n0
 refine rO (cxPOk 2 23 [0,1,4,5,6,12,13,14,15]) Tryz.func30 ?_
 conv=>whnf
 refine .raw ([0]++[]) _ rfl (fun _=>⟨⟨_,[0]++[],_,_⟩,fun r'=>Iff.rfl,rfl⟩) (callio_one (g0) [0] [] rfl rfl ⟨rfl,trivial⟩ zp5 rfl (.inl rfl)) ?_
 rintro _ rfl
 refine ⟨tn_ge _ _,(cW ?_)⟩
 refine .raw ([0]++[]) _ rfl (fun _=>⟨⟨_,[0]++[],_,_⟩,fun r'=>Iff.rfl,rfl⟩) (callio_one (gl) [0] [] rfl rfl ⟨rfl,trivial⟩ zp5 rfl (.inl rfl)) ?_
 rintro _ rfl
 refine ⟨tn_ge _ _,(cW ?_)⟩
 refine ⟨fun hc=>?_,fun hc=>?_⟩
 ·have hc:(q1.rest.length:Int)<n:=of_decide_eq_true hc
  rw [if_pos hc]
  conv=>whnf
  refine ⟨⟨[(4,.sl 10 encLi li0 [])],[(0,.cells 155 [.str q1.rest,.bool q1.bad]),(1,.cells 69 [.ptr 0 0])],2⟩,(wk_of [(0,.id 0),(1,.id 1)] rfl ⟨.base (.leT _ _ (LeT.nils_sl 10 encLi li0) rfl),trivial⟩ ⟨wb0,wb0,trivial⟩),rfl,rfl,?_⟩
  exact zt9
 have hc:¬ (q1.rest.length:Int)<n:=of_decide_eq_false hc
 rw [if_neg hc]
 conv=>whnf
 refine loop_up (cxPOk _ _ _) n.toNat (fun _=>True) (fun k=>⟨[(0,.ptr 0 0),(1,.fn (.func 31) [] [.ptr 1 0]),(4,.nils),(6,.own 2),(13,.int .i64 n),(14,.int .i64 (k:Nat))],[(0,.cells 155 [.str (Z k).1.rest,.bool (Z k).1.bad]),(1,.cells 69 [.ptr 0 0]),(2,.row 47 10 encLi li0 (Z k).2)],3⟩) trivial (by
  rw [hz0]
  exact (wk_of [(0,.id 0),(1,.id 1),(2,.nil)] rfl ⟨wc0,.fn _ _ _ _ _ ac0 ac0,wa0,ag0,wa0,wa0,trivial⟩ ⟨wb0,wb0,⟨_,rfl,ae0⟩,trivial⟩)) ?_
 intro k hk _
 have hzk:=hz k
 have hnk:=hzn k
 have hsk:=hzs k
 generalize hzz:Z k=z at *
 obtain ⟨⟨rr,rb⟩,acc⟩:=z
 have hnk:acc.length=k:=hnk
 dsimp only at hzk hsk
 conv=>whnf
 refine ⟨fun hd=>?_,fun hd=>?_⟩
 ·have hd:(k:Int)<n:=of_decide_eq_true hd
  have hone:=liQ_r ⟨rr,rb⟩ zp44
  dsimp only [ro] at hone
  generalize liQ ⟨rr,rb⟩=y at *
  conv=>whnf
  refine cR (hone) [0,1] (cW ?_)
  refine And.intro rfl (cW ?_)
  refine And.intro ⟨rfl,rfl⟩ (And.intro (show (acc.length+1)*136≤140737488355328 by omega) ?_)
  exact zt0
 ·have hd:¬ (k:Int)<n:=of_decide_eq_false hd
  have hkn:n.toNat=k:=by omega
  rw [hkn,hzz]
  conv=>whnf
  refine ⟨⟨[(4,.sl 10 encLi li0 acc)],[(0,.cells 155 [.str rr,.bool rb]),(1,.cells 69 [.ptr 0 0])],2⟩,(wk_frz [2]).trans (wk_of [(0,.id 0),(1,.id 1)] rfl ⟨wa0,trivial⟩ ⟨wb0,wb0,trivial⟩),rfl,rfl,?_⟩
  exact zt9
theorem readPr_r (q:RS) (hs:q.rest.length≤100000000000):RIO Tryz.prog 38 [.ptr 0 0,.fn (.func 39) [] [.ptr 1 0]] [ro q,bx] 2 (fun vs bs es=>vs=[.sl 6 encPr pr0 (manyQ prQ q).1]∧bs=[ro (manyQ prQ q).2,bx]∧es=[]):=by
 have l0:=nuQ_le q
 have g0:=nuQ_ok q hs
 have n0:0≤(nuQ q).1:=(numQ_le 59 0 q (by omega)).1
 have hi:(nuQ q).1≤9223372036854775807:=numQ_hi 59 0 q
 unfold manyQ
 have hz:=fun k=>itK_le prQ_le (nuQ q).2 k
 have hzn:=fun k=>itK_n prQ (nuQ q).2 k
 have hz0:itK prQ (nuQ q).2 0=((nuQ q).2,[]):=rfl
 have hzs:∀ k,itK prQ (nuQ q).2 (k+1)=((prQ (itK prQ (nuQ q).2 k).1).2,(itK prQ (nuQ q).2 k).2++[(prQ (itK prQ (nuQ q).2 k).1).1]):=fun _=>rfl
 generalize nuQ q=x at *
 obtain ⟨n,q1⟩:=x
 have gl:=rleft_ok q1
 dsimp only at l0 hz hz0 hzs hzn n0 hi ⊢
 generalize itK prQ q1=Z at *
 have hn:n.toNat=n:=Int.toNat_of_nonneg n0
 refine rO (cxPOk 2 23 [0,1,4,5,6,12,13,14,15]) Tryz.func38 ?_
 conv=>whnf
 refine .raw ([0]++[]) _ rfl (fun _=>⟨⟨_,[0]++[],_,_⟩,fun r'=>Iff.rfl,rfl⟩) (callio_one (g0) [0] [] rfl rfl ⟨rfl,trivial⟩ zp5 rfl (.inl rfl)) ?_
 rintro _ rfl
 refine ⟨tn_ge _ _,(cW ?_)⟩
 refine .raw ([0]++[]) _ rfl (fun _=>⟨⟨_,[0]++[],_,_⟩,fun r'=>Iff.rfl,rfl⟩) (callio_one (gl) [0] [] rfl rfl ⟨rfl,trivial⟩ zp5 rfl (.inl rfl)) ?_
 rintro _ rfl
 refine ⟨tn_ge _ _,(cW ?_)⟩
 refine ⟨fun hc=>?_,fun hc=>?_⟩
 ·have hc:(q1.rest.length:Int)<n:=of_decide_eq_true hc
  rw [if_pos hc]
  conv=>whnf
  refine ⟨⟨[(4,.sl 6 encPr pr0 [])],[(0,.cells 155 [.str q1.rest,.bool q1.bad]),(1,.cells 69 [.ptr 0 0])],2⟩,(wk_of [(0,.id 0),(1,.id 1)] rfl ⟨.base (.leT _ _ (LeT.nils_sl 6 encPr pr0) rfl),trivial⟩ ⟨wb0,wb0,trivial⟩),rfl,rfl,?_⟩
  exact zt9
 have hc:¬ (q1.rest.length:Int)<n:=of_decide_eq_false hc
 rw [if_neg hc]
 conv=>whnf
 refine loop_up (cxPOk _ _ _) n.toNat (fun _=>True) (fun k=>⟨[(0,.ptr 0 0),(1,.fn (.func 39) [] [.ptr 1 0]),(4,.nils),(6,.own 2),(13,.int .i64 n),(14,.int .i64 (k:Nat))],[(0,.cells 155 [.str (Z k).1.rest,.bool (Z k).1.bad]),(1,.cells 69 [.ptr 0 0]),(2,.row 64 6 encPr pr0 (Z k).2)],3⟩) trivial (by
  rw [hz0]
  exact (wk_of [(0,.id 0),(1,.id 1),(2,.nil)] rfl ⟨wc0,.fn _ _ _ _ _ ac0 ac0,wa0,ag0,wa0,wa0,trivial⟩ ⟨wb0,wb0,⟨_,rfl,ae0⟩,trivial⟩)) ?_
 intro k hk _
 have hzk:=hz k
 have hnk:=hzn k
 have hsk:=hzs k
 generalize hzz:Z k=z at *
 obtain ⟨⟨rr,rb⟩,acc⟩:=z
 have hnk:acc.length=k:=hnk
 dsimp only at hzk hsk
 conv=>whnf
 refine ⟨fun hd=>?_,fun hd=>?_⟩
 ·have hd:(k:Int)<n:=of_decide_eq_true hd
  have hone:=prQ_r ⟨rr,rb⟩ zp44
  dsimp only [ro] at hone
  generalize prQ ⟨rr,rb⟩=y at *
  conv=>whnf
  refine cR (hone) [0,1] (cW ?_)
  refine And.intro rfl (cW ?_)
  refine And.intro ⟨rfl,rfl⟩ (And.intro (show (acc.length+1)*88≤140737488355328 by omega) ?_)
  exact zt0
 ·have hd:¬ (k:Int)<n:=of_decide_eq_false hd
  have hkn:n.toNat=k:=by omega
  rw [hkn,hzz]
  conv=>whnf
  refine ⟨⟨[(4,.sl 6 encPr pr0 acc)],[(0,.cells 155 [.str rr,.bool rb]),(1,.cells 69 [.ptr 0 0])],2⟩,(wk_frz [2]).trans (wk_of [(0,.id 0),(1,.id 1)] rfl ⟨wa0,trivial⟩ ⟨wb0,wb0,trivial⟩),rfl,rfl,?_⟩
  exact zt9
theorem open_q (t:List UInt8):APure Tryz.prog 26 [.str t] (fun rs=>rs=[.new (.cells 155 [.str t,.bool false])]):=by
 refine aO (cxOk 6 [0,2]) Tryz.func26 ?_
 conv=>whnf
 rfl
def readZ (t:List UInt8):Sta×Int:=if readB t=true then ((stQ ⟨t,false⟩).1,0) else (st0,2)
def readA (t:List UInt8):List AR:=[.val (encSt (readZ t).1),.val (.int .i64 (readZ t).2)]
theorem txQ_n (q:RS) (hs:q.rest.length≤100000000000):(textQ q).1.length≤100000000000:=by
 have h1:=(numQ_le 58 0 q (Int.le_refl _)).2
 unfold textQ
 dsimp only
 split
 ·simp
 ·split
  ·split
   ·simp
   ·rw [List.length_take];omega
  ·simp
theorem lsQ_n (q:RS) (hs:q.rest.length≤100000000000):(listQ oneI q).1.length≤1000000000001:=by
 have h:=accI q (by omega) (numQ 91 0 q).1.toNat
 unfold listQ itemsQ
 dsimp only
 split
 ·split
  ·simp [listOf]
  ·exact h
 ·simp [listOf]
theorem itK_all {T:Type} {one:RS→T×RS} {P:T→Prop} {B:Nat} (hle:∀ q,(one q).2.rest.length≤q.rest.length) (hP:∀ q:RS,q.rest.length≤B→P (one q).1) (q:RS) (hq:q.rest.length≤B):∀ k,∀ x∈(itK one q k).2,P x
 | 0=>fun x hx=>by simp [itK] at hx
 | k+1=>fun x hx=>by
  have hl:=itK_le hle q k
  rw [show (itK one q (k+1)).2=(itK one q k).2++[(one (itK one q k).1).1] from rfl,List.mem_append,List.mem_singleton] at hx
  rcases hx with hx | rfl
  ·exact itK_all hle hP q hq k x hx
  ·exact hP _ om0
theorem manyQ_all {T:Type} {one:RS→T×RS} {P:T→Prop} {B:Nat} (hle:∀ q,(one q).2.rest.length≤q.rest.length) (hP:∀ q:RS,q.rest.length≤B→P (one q).1) (q:RS) (hq:q.rest.length≤B):∀ x∈(manyQ one q).1,P x:=by
 have:=nuQ_le q
 unfold manyQ
 split
 ·intro x hx;cases hx
 ·exact itK_all hle hP _ om0 _
theorem manyQ_n {T:Type} (one:RS→T×RS) (q:RS):(manyQ one q).1.length≤q.rest.length:=by
 have:=nuQ_le q
 have h:=itK_n one (nuQ q).2 (nuQ q).1.toNat
 unfold manyQ
 split
 ·simp
 ·dsimp only
  rw [h]
  omega
theorem liQ_n (q:RS) (hq:q.rest.length≤100000000000):(liQ q).1.text.length≤9223372036854775807∧(liQ q).1.units.length≤9223372036854775807∧(liQ q).1.noted.length≤9223372036854775807∧(liQ q).1.stages.length≤9223372036854775807:=by
 unfold liQ
 dsimp only
 have a:=txQ_n q hq
 have a1:=txQ_le q
 generalize textQ q=x1 at *
 have b:=lsQ_n x1.2 (by omega)
 have b1:=lsQ_le x1.2
 generalize listQ oneI x1.2=x2 at *
 have c:=lsQ_n x2.2 (by omega)
 have c1:=lsQ_le x2.2
 generalize listQ oneI x2.2=x3 at *
 have d1:=inQ_le x3.2
 generalize oneI x3.2=x4 at *
 have e:=manyQ_n brQ x4.2
 exact ⟨by omega,by omega,by omega,by omega⟩
theorem prQ_n (q:RS) (hq:q.rest.length≤100000000000):(prQ q).1.text.length≤9223372036854775807∧(prQ q).1.units.length≤9223372036854775807∧(prQ q).1.votes.length≤9223372036854775807:=by
 unfold prQ
 dsimp only
 have a1:=nuQ_le q
 generalize nuQ q=x0 at *
 have b:=txQ_n x0.2 (by omega)
 have b1:=txQ_le x0.2
 generalize textQ x0.2=x1 at *
 have c1:=nuQ_le x1.2
 generalize nuQ x1.2=x2 at *
 have d:=lsQ_n x2.2 (by omega)
 have d1:=lsQ_le x2.2
 generalize listQ oneI x2.2=x3 at *
 have e:=manyQ_n voQ x3.2
 exact ⟨by omega,by omega,by omega⟩
theorem faQ_n (q:RS) (hq:q.rest.length≤100000000000):(faQ q).1.name.length≤9223372036854775807:=by
 unfold faQ
 dsimp only
 have a1:=nuQ_le q
 generalize nuQ q=x0 at *
 have b:=txQ_n x0.2 (by omega)
 omega
theorem stQ_ok (q:RS) (hq:q.rest.length≤100000000000):OkS (stQ q).1:=by
 unfold stQ
 dsimp only
 have a:=nuQ_le q
 generalize nuQ q=x1 at *
 have b:=manyQ_n nuQ x1.2
 have b1:=manyQ_le nuQ_le x1.2
 generalize manyQ nuQ x1.2=x2 at *
 have c:=manyQ_n nuQ x2.2
 have c1:=manyQ_le nuQ_le x2.2
 generalize manyQ nuQ x2.2=x3 at *
 have d1:=inQ_le x3.2
 generalize oneI x3.2=x4 at *
 have e:=manyQ_n liQ x4.2
 have e1:=manyQ_le liQ_le x4.2
 have e2:=manyQ_all (P:=fun x:Lin=>x.text.length≤9223372036854775807∧x.units.length≤9223372036854775807∧x.noted.length≤9223372036854775807∧x.stages.length≤9223372036854775807) (B:=100000000000) liQ_le liQ_n x4.2 (by omega)
 generalize manyQ liQ x4.2=x5 at *
 have f:=manyQ_n faQ x5.2
 have f1:=manyQ_le faQ_le x5.2
 have f2:=manyQ_all (P:=fun x:Fac=>x.name.length≤9223372036854775807) (B:=100000000000) faQ_le faQ_n x5.2 (by omega)
 generalize manyQ faQ x5.2=x6 at *
 have g:=manyQ_n paQ x6.2
 have g1:=manyQ_le paQ_le x6.2
 generalize manyQ paQ x6.2=x7 at *
 have h:=manyQ_n prQ x7.2
 have h2:=manyQ_all (P:=fun x:Pro=>x.text.length≤9223372036854775807∧x.units.length≤9223372036854775807∧x.votes.length≤9223372036854775807) (B:=100000000000) prQ_le prQ_n x7.2 (by omega)
 exact ⟨by dsimp only;omega,by dsimp only;omega,by dsimp only;omega,by dsimp only;omega,by dsimp only;omega,by dsimp only;omega,e2,f2,h2⟩
set_option maxHeartbeats 8000000
theorem zp8 {p:Prop} (h:p:=by first | exact LeT.nils_sl 1 encI 0 | exact LeT.nils_sl 10 encLi li0 | exact LeT.nils_sl 5 encFa fa0 | exact LeT.nils_sl 6 encPa pa0 | exact LeT.nils_sl 6 encPr pr0):p:=h
theorem zp4 {p:Prop} (h:p:=by repeat (first | exact .nil | refine .cons (by first | exact .base (.tree _ _ rfl rfl) | exact .base (.own _ _ rfl) | exact .base (.ptr _ _ _ rfl) | exact .base (.map _ _ rfl) | exact .base (.nilown _ rfl) | exact .fn _ _ _ _ _ .nil zp7 | exact .base (.tree _ _ zp8 rfl) | exact .base (.leT _ _ zp8 rfl)) ?_)):p:=h
theorem zt6 {p:Prop}(h:p:=by
 refine gT (cW ?_)
 refine ⟨⟨[(2,.ptr 0 0),(3,.int .i64 2)],[(0,.cells 28 (celSt st0))],1⟩,(wk_of [(0,.id 0)] rfl ⟨wc0,wa0,trivial⟩ ⟨⟨_,rfl,.cells _ _ _ _ rfl zp4 rfl⟩,trivial⟩),(cW ?_)⟩
 rfl):p:=h
theorem zt153 {p:Prop}(h:p:=by
 refine cF [encSt ⟨x1.1,x2.1,x3.1,x4.1,x5.1,x6.1,x7.1,x8.1⟩] [.val (.str [])] (cW ?_)
 exact zt6):p:=h
theorem read_st (t:List UInt8) (ht:t.length≤100000000000):APure Tryz.prog 10 [.str t] (fun rs=>rs=readA t):=by
 have go:=open_q t
 have hok:=stQ_ok ⟨t,false⟩ ht
 obtain ⟨x1,hx1⟩:∃ x,x=nuQ ⟨t,false⟩:=⟨_,rfl⟩
 have l1:=nuQ_le ⟨t,false⟩
 have g1:=nuQ_ok ⟨t,false⟩ ht
 rw [← hx1] at l1 g1
 dsimp only [ro] at l1 g1
 obtain ⟨x2,hx2⟩:∃ x,x=manyQ nuQ x1.2:=⟨_,rfl⟩
 have l2:=manyQ_le nuQ_le x1.2
 have g2:=readNu_r x1.2 (by omega)
 rw [← hx2] at l2 g2
 obtain ⟨x3,hx3⟩:∃ x,x=manyQ nuQ x2.2:=⟨_,rfl⟩
 have l3:=manyQ_le nuQ_le x2.2
 have g3:=readNu_r x2.2 (by omega)
 rw [← hx3] at l3 g3
 obtain ⟨x4,hx4⟩:∃ x,x=oneI x3.2:=⟨_,rfl⟩
 have l4:=inQ_le x3.2
 have g4:=inQ_ok x3.2 (by omega)
 rw [← hx4] at l4 g4
 obtain ⟨x5,hx5⟩:∃ x,x=manyQ liQ x4.2:=⟨_,rfl⟩
 have l5:=manyQ_le liQ_le x4.2
 have g5:=readLi_r x4.2 (by omega)
 rw [← hx5] at l5 g5
 obtain ⟨x6,hx6⟩:∃ x,x=manyQ faQ x5.2:=⟨_,rfl⟩
 have l6:=manyQ_le faQ_le x5.2
 have g6:=readFa_r x5.2 (by omega)
 rw [← hx6] at l6 g6
 obtain ⟨x7,hx7⟩:∃ x,x=manyQ paQ x6.2:=⟨_,rfl⟩
 have l7:=manyQ_le paQ_le x6.2
 have g7:=readPa_r x6.2 (by omega)
 rw [← hx7] at l7 g7
 obtain ⟨x8,hx8⟩:∃ x,x=manyQ prQ x7.2:=⟨_,rfl⟩
 have l8:=manyQ_le prQ_le x7.2
 have g8:=readPr_r x7.2 (by omega)
 rw [← hx8] at l8 g8
 have hq:stQ ⟨t,false⟩=(⟨x1.1,x2.1,x3.1,x4.1,x5.1,x6.1,x7.1,x8.1⟩,x8.2):=by
  rw [hx8,hx7,hx6,hx5,hx4,hx3,hx2,hx1]
  rfl
 clear hx1 hx2 hx3 hx4 hx5 hx6 hx7 hx8
 unfold readA readZ readB
 rw [hq] at hok ⊢
 dsimp only at hok ⊢
 have gd:=rdone_ok x8.2
 have gt:=text_st _ hok
 refine aW (cxOk 55 [0,2,3,4,5,52]) Tryz.func10 ?_
 conv=>whnf
 refine cO (fun _=>go) (cW ?_)
 refine .raw ([1]++[]) _ rfl (fun _=>⟨⟨_,[1]++[],_,_⟩,fun r'=>Iff.rfl,rfl⟩) (callio_one (g1) [1] [] rfl rfl ⟨rfl,trivial⟩ zp5 rfl (.inl rfl)) ?_
 rintro _ rfl
 refine ⟨tn_ge _ _,(cW ?_)⟩
 refine .eff ad0 (cW ?_)
 refine cR (g2) [1] (cW ?_)
 refine cR (g3) [1] (cW ?_)
 refine ⟨by kernel_rfl,(cW ?_)⟩
 refine .raw ([1]++[]) _ rfl (fun _=>⟨⟨_,[1]++[],_,_⟩,fun r'=>Iff.rfl,rfl⟩) (callio_one (g4) [1] [] rfl rfl ⟨rfl,trivial⟩ zp5 rfl (.inl rfl)) ?_
 rintro _ rfl
 refine ⟨tn_ge _ _,(cW ?_)⟩
 refine cR (g5) [1,2] (cW ?_)
 refine cR (g6) [1,2] (cW ?_)
 refine cR (g7) [1,2] (cW ?_)
 refine cR (g8) [1,2] (cW ?_)
 by_cases hne:t=[]
 ·simp only [decide_eq_true hne,Bool.not_true,Bool.false_and,Bool.false_eq_true,if_false]
  refine cF [.rop [.str x8.2.rest,.bool x8.2.bad]] [.val (.bool false)] (cW ?_)
  exact zt153
 ·simp only [decide_eq_false hne,Bool.not_false,Bool.true_and]
  refine .raw ([1]++[]) _ rfl (fun _=>⟨⟨_,[1]++[],_,_⟩,fun r'=>Iff.rfl,rfl⟩) (callio_one (gd) [1] [] rfl rfl ⟨rfl,trivial⟩ zp5 rfl (.inl rfl)) ?_
  rintro _ rfl
  refine ⟨tn_ge _ _,(cW ?_)⟩
  unfold doneB
  cases hd:(!x8.2.bad&&decide (x8.2.rest=[])) with
  | false =>
   simp only [Bool.false_and,Bool.false_eq_true,if_false]
   exact zt153
  | true =>
   refine cO (fun _=>gt) (cW ?_)
   cases hs:decide (stT ⟨x1.1,x2.1,x3.1,x4.1,x5.1,x6.1,x7.1,x8.1⟩=t) with
   | false =>
    simp only [Bool.and_false,Bool.false_eq_true,if_false]
    exact zt6
   | true =>
    simp only [Bool.and_true,if_true]
    refine gF (cW ?_)
    refine ⟨⟨[(2,.ptr 0 0),(3,.int .i64 0)],[(0,.cells 28 (celSt ⟨x1.1,x2.1,x3.1,x4.1,x5.1,x6.1,x7.1,x8.1⟩))],1⟩,(wk_of [(0,.id 0)] rfl ⟨wc0,wa0,trivial⟩ ⟨wb0,trivial⟩),(cW ?_)⟩
    rfl
def fewLi (x:Lin):Bool:=decide (x.text.length≤900)&&decide (x.units.length≤12)&&decide (x.noted.length≤12)&&decide (x.stages.length≤12)
def fewPr (x:Pro):Bool:=decide (x.text.length≤900)&&decide (x.units.length≤12)&&decide (x.votes.length≤12)
def fewFa (l:List Fac):Bool:=l.all (fun f=>decide (f.name.length≤40))&&decide (l.length≤12)
def fewS (s:Sta):Bool:=(decide (s.cash.length≤12)&&decide (s.purses.length≤12)&&decide (s.lines.length≤4)&&decide (s.payments.length≤12)&&decide (s.proposals.length≤4)&&fewFa s.facts)&&s.lines.all fewLi&&s.proposals.all fewPr
structure FewS (s:Sta):Prop where
 cash:s.cash.length≤12
 purses:s.purses.length≤12
 lines:s.lines.length≤4
 payments:s.payments.length≤12
 proposals:s.proposals.length≤4
 facts:s.facts.length≤12
 fact:∀ f∈s.facts,f.name.length≤40
 line:∀ x∈s.lines,x.text.length≤900∧x.units.length≤12∧x.noted.length≤12∧x.stages.length≤12
 proposal:∀ x∈s.proposals,x.text.length≤900∧x.units.length≤12∧x.votes.length≤12
theorem few_of {s:Sta} (h:fewS s=true):FewS s:=by
 unfold fewS fewFa at h
 simp only [Bool.and_eq_true,decide_eq_true_eq,List.all_eq_true] at h
 obtain ⟨⟨⟨⟨⟨⟨⟨a,b⟩,c⟩,d⟩,e⟩,f,g⟩,i⟩,j⟩:=h
 refine ⟨a,b,c,d,e,g,f,fun x hx=>?_,fun x hx=>?_⟩
 ·have:=i x hx
  unfold fewLi at this
  simp only [Bool.and_eq_true,decide_eq_true_eq] at this
  exact ⟨this.1.1.1,this.1.1.2,this.1.2,this.2⟩
 ·have:=j x hx
  unfold fewPr at this
  simp only [Bool.and_eq_true,decide_eq_true_eq] at this
  exact ⟨this.1.1,this.1.2,this.2⟩
theorem FewS.ok {s:Sta} (h:FewS s):OkS s :=
 ⟨by have:=h.cash;omega,by have:=h.purses;omega,by have:=h.lines;omega,by have:=h.facts;omega,by have:=h.payments;omega,by have:=h.proposals;omega,fun x hx=>(by have:=h.line x hx;omega),fun x hx=>(by have:=h.fact x hx;omega),fun x hx=>(by have:=h.proposal x hx;omega)⟩
theorem zt5 {p:Prop}(h:p:=by
 refine h.le fun rs hrs=>?_
 rcases hrs with rfl | ⟨rfl,rfl⟩
 ·exact ⟨_,rfl,rfl,fun j r r' h1 h2=>by
   cases j with
   | zero=>simp at h1 h2;subst h1;subst h2;exact .same _
   | succ j=>simp at h1⟩
 ·exact ⟨_,rfl,rfl,fun j r r' h1 h2=>by
   cases j with
   | zero=>simp at h1 h2;subst h1;subst h2;exact .nil _ _ _ _
   | succ j=>simp at h1⟩):p:=h
theorem zt110 {p:Prop}(h:p:=by
 conv=>whnf
 exact .inr ⟨hb hc,rfl⟩):p:=h
theorem cl108 (l:List Int) (hl:l.length≤1000000):APure Tryz.prog 108 [.sl 1 encI 0 l] (fun rs=>rs=[.new (.row 3 1 encI 0 l)]):=by
 have h:APure Tryz.prog 108 [.sl 1 encI 0 l] (fun rs=>rs=[.new (.row 3 1 encI 0 l)]∨l=[]∧rs=[.val .nils]):=by
  refine aO (cxOk 8 [0,2,4]) Tryz.func108 ?_
  conv=>whnf
  intro b hb
  conv=>whnf
  refine ⟨fun hc=>?_,fun hc=>?_⟩
  ·exact zt110
  ·conv=>whnf
   refine And.intro rfl (cW ?_)
   refine ⟨⟨rfl,rfl⟩,(show (0+l.length)*8≤140737488355328 by omega),(cW ?_)⟩
   exact .inl rfl
 exact zt5
theorem clf108 (l:List Int) (hl:l.length≤1000000):APureV Tryz.prog 108 [.sl 1 encI 0 l] (.sl 1 encI 0 l) :=
 (cl108 l hl).freeze1
theorem zt51 {p:Prop}(h:p:=by
 conv=>whnf
 intro b hb
 conv=>whnf
 refine ⟨fun hc=>?_,fun hc=>?_⟩
 ·exact zt110
 ·conv=>whnf
  refine And.intro rfl (cW ?_)
  refine ⟨⟨rfl,rfl⟩,(show (0+l.length)*48≤140737488355328 by omega),(cW ?_)⟩
  exact .inl rfl):p:=h
theorem cl109 (l:List Fac) (hl:l.length≤1000000):APure Tryz.prog 109 [.sl 5 encFa fa0 l] (fun rs=>rs=[.new (.row 41 5 encFa fa0 l)]):=by
 have h:APure Tryz.prog 109 [.sl 5 encFa fa0 l] (fun rs=>rs=[.new (.row 41 5 encFa fa0 l)]∨l=[]∧rs=[.val .nils]):=by
  refine aO (cxOk 8 [0,2,4]) Tryz.func109 ?_
  exact zt51
 exact zt5
theorem clf109 (l:List Fac) (hl:l.length≤1000000):APureV Tryz.prog 109 [.sl 5 encFa fa0 l] (.sl 5 encFa fa0 l) :=
 (cl109 l hl).freeze1
theorem cl110 (l:List Pay) (hl:l.length≤1000000):APure Tryz.prog 110 [.sl 6 encPa pa0 l] (fun rs=>rs=[.new (.row 43 6 encPa pa0 l)]):=by
 have h:APure Tryz.prog 110 [.sl 6 encPa pa0 l] (fun rs=>rs=[.new (.row 43 6 encPa pa0 l)]∨l=[]∧rs=[.val .nils]):=by
  refine aO (cxOk 8 [0,2,4]) Tryz.func110 ?_
  exact zt51
 exact zt5
theorem clf110 (l:List Pay) (hl:l.length≤1000000):APureV Tryz.prog 110 [.sl 6 encPa pa0 l] (.sl 6 encPa pa0 l) :=
 (cl110 l hl).freeze1
theorem cl111 (l:List Lin) (hl:l.length≤1000000):APure Tryz.prog 111 [.sl 10 encLi li0 l] (fun rs=>rs=[.new (.row 47 10 encLi li0 l)]):=by
 have h:APure Tryz.prog 111 [.sl 10 encLi li0 l] (fun rs=>rs=[.new (.row 47 10 encLi li0 l)]∨l=[]∧rs=[.val .nils]):=by
  refine aO (cxOk 8 [0,2,4]) Tryz.func111 ?_
  conv=>whnf
  intro b hb
  conv=>whnf
  refine ⟨fun hc=>?_,fun hc=>?_⟩
  ·exact zt110
  ·conv=>whnf
   refine And.intro rfl (cW ?_)
   refine ⟨⟨rfl,rfl⟩,(show (0+l.length)*136≤140737488355328 by omega),(cW ?_)⟩
   exact .inl rfl
 exact zt5
theorem cl112 (l:List Pro) (hl:l.length≤1000000):APure Tryz.prog 112 [.sl 6 encPr pr0 l] (fun rs=>rs=[.new (.row 64 6 encPr pr0 l)]):=by
 have h:APure Tryz.prog 112 [.sl 6 encPr pr0 l] (fun rs=>rs=[.new (.row 64 6 encPr pr0 l)]∨l=[]∧rs=[.val .nils]):=by
  refine aO (cxOk 8 [0,2,4]) Tryz.func112 ?_
  conv=>whnf
  intro b hb
  conv=>whnf
  refine ⟨fun hc=>?_,fun hc=>?_⟩
  ·exact zt110
  ·conv=>whnf
   refine And.intro rfl (cW ?_)
   refine ⟨⟨rfl,rfl⟩,(show (0+l.length)*88≤140737488355328 by omega),(cW ?_)⟩
   exact .inl rfl
 exact zt5
theorem cl113 (l:List Brc) (hl:l.length≤1000000):APure Tryz.prog 113 [.sl 2 encBr br0 l] (fun rs=>rs=[.new (.row 61 2 encBr br0 l)]):=by
 have h:APure Tryz.prog 113 [.sl 2 encBr br0 l] (fun rs=>rs=[.new (.row 61 2 encBr br0 l)]∨l=[]∧rs=[.val .nils]):=by
  refine aO (cxOk 8 [0,2,4]) Tryz.func113 ?_
  conv=>whnf
  intro b hb
  conv=>whnf
  refine ⟨fun hc=>?_,fun hc=>?_⟩
  ·exact zt110
  ·conv=>whnf
   refine And.intro rfl (cW ?_)
   refine ⟨⟨rfl,rfl⟩,(show (0+l.length)*16≤140737488355328 by omega),(cW ?_)⟩
   exact .inl rfl
 exact zt5
theorem clf113 (l:List Brc) (hl:l.length≤1000000):APureV Tryz.prog 113 [.sl 2 encBr br0 l] (.sl 2 encBr br0 l) :=
 (cl113 l hl).freeze1
theorem cl114 (l:List Vot) (hl:l.length≤1000000):APure Tryz.prog 114 [.sl 3 encVo vo0 l] (fun rs=>rs=[.new (.row 66 3 encVo vo0 l)]):=by
 have h:APure Tryz.prog 114 [.sl 3 encVo vo0 l] (fun rs=>rs=[.new (.row 66 3 encVo vo0 l)]∨l=[]∧rs=[.val .nils]):=by
  refine aO (cxOk 8 [0,2,4]) Tryz.func114 ?_
  conv=>whnf
  intro b hb
  conv=>whnf
  refine ⟨fun hc=>?_,fun hc=>?_⟩
  ·exact zt110
  ·conv=>whnf
   refine And.intro rfl (cW ?_)
   refine ⟨⟨rfl,rfl⟩,(show (0+l.length)*24≤140737488355328 by omega),(cW ?_)⟩
   exact .inl rfl
 exact zt5
theorem clf114 (l:List Vot) (hl:l.length≤1000000):APureV Tryz.prog 114 [.sl 3 encVo vo0 l] (.sl 3 encVo vo0 l) :=
 (cl114 l hl).freeze1
theorem zp23 {p:Prop} (h:p:=by exact (wk_of [] rfl ⟨wa0,wa0,wa0,wa0,trivial⟩ trivial)):p:=h
theorem zt88 {p:Prop}(h:p:=by
 conv=>whnf
 refine iO (cW ?_)
 refine up hlt (fun j hj=>?_) zp23
 by_cases e:j=k
 ·subst e;exact he
 ·exact hP j om0):p:=h
theorem ints51 (l r:List Int) (hl:l.length≤9223372036854775807) (hr:r.length≤9223372036854775807) :
  APureV Tryz.prog 51 [.sl 1 encI 0 l,.sl 1 encI 0 r] (.bool (decide (l=r))):=by
 refine aO (cxOk 26 [0,1,4,5,10,14,25]) Tryz.func51 ?_
 conv=>whnf
 refine ⟨fun hlen=>?_,fun hlen=>?_⟩
 ·exact zt15
 have hlen:l.length=r.length:=by simp at hlen;omega
 conv=>whnf
 refine loop_up (cxOk _ _) l.length (fun k=>∀ j,j<k→l.getD j 0=r.getD j 0) (fun k=>⟨[(0,.sl 1 encI 0 l),(1,.sl 1 encI 0 r),(4,.bool false),(5,.int .i64 (k:Nat))],[],0⟩) zp15 zp23 ?_
 intro k hk hP
 conv=>whnf
 refine ⟨fun hd=>?_,fun hd=>?_⟩
 ·have hd:=of_decide_eq_true hd
  have hlt:k<l.length:=by omega
  have hek:(k:Int).toNat=k:=Int.toNat_natCast k
  conv=>whnf
  refine .quiet zp9 (cW ?_)
  refine iO (cW ?_)
  refine And.intro rfl (cW ?_)
  refine iO (cW ?_)
  refine And.intro rfl (cW ?_)
  try (rw [hek];conv=>whnf)
  try (rw [hek];conv=>whnf)
  refine ⟨fun he=>?_,fun he=>?_⟩
  ·exact zt13
  ·have he:l.getD k 0=r.getD k 0:=by simpa using he
   exact zt88
 ·exact zt160
theorem facts52 (l r:List Fac) (hl:l.length≤9223372036854775807) (hr:r.length≤9223372036854775807) :
  APureV Tryz.prog 52 [.sl 5 encFa fa0 l,.sl 5 encFa fa0 r] (.bool (decide (l=r))):=by
 refine aO (cxOk 26 [0,1,4,5,10,14,25]) Tryz.func52 ?_
 conv=>whnf
 refine ⟨fun hlen=>?_,fun hlen=>?_⟩
 ·exact zt15
 have hlen:l.length=r.length:=by simp at hlen;omega
 conv=>whnf
 refine loop_up (cxOk _ _) l.length (fun k=>∀ j,j<k→l.getD j fa0=r.getD j fa0) (fun k=>⟨[(0,.sl 5 encFa fa0 l),(1,.sl 5 encFa fa0 r),(4,.bool false),(5,.int .i64 (k:Nat))],[],0⟩) zp15 zp23 ?_
 intro k hk hP
 conv=>whnf
 refine ⟨fun hd=>?_,fun hd=>?_⟩
 ·have hd:=of_decide_eq_true hd
  have hlt:k<l.length:=by omega
  have hek:(k:Int).toNat=k:=Int.toNat_natCast k
  conv=>whnf
  refine .quiet zp9 (cW ?_)
  refine iO (cW ?_)
  refine And.intro rfl (cW ?_)
  refine iO (cW ?_)
  refine And.intro rfl (cW ?_)
  try (rw [hek];conv=>whnf)
  try (rw [hek];conv=>whnf)
  refine And.intro ⟨by kernel_rfl,by kernel_rfl⟩ (cW ?_)
  rw [show ((decide ((l.getD k fa0).issuer=(r.getD k fa0).issuer)&&(decide ((l.getD k fa0).name=(r.getD k fa0).name)&&(decide ((l.getD k fa0).period=(r.getD k fa0).period)&&(decide ((l.getD k fa0).value=(r.getD k fa0).value)&&(decide ((l.getD k fa0).day=(r.getD k fa0).day)&&true))))))=decide (l.getD k fa0=r.getD k fa0) from (eqFac_dec _ _).symm]
  refine ⟨fun he=>?_,fun he=>?_⟩
  ·exact zt13
  ·have he:l.getD k fa0=r.getD k fa0:=by simpa using he
   exact zt88
 ·exact zt156
theorem all_step {T:Type} {p:T→Bool} {d:T} {l:List T} {k:Nat} (h:k<l.length):(l.take (k+1)).all p=((l.take k).all p&&p (l.getD k d)):=by
 rw [take_getD (d:=d) h,List.all_append]
 simp
theorem all_not {T:Type} {p:T→Bool} {d:T} {l:List T} {k:Nat} (h:k<l.length) (hp:p (l.getD k d)=false):l.all p=false:=by
 rw [List.all_eq_false]
 exact ⟨_,getD_mem h,by rw [hp];simp⟩
theorem few25 (l:List Fac) (hl:l.length≤9223372036854775807) (hn:∀ f∈l,f.name.length≤9223372036854775807):APureV Tryz.prog 25 [.sl 5 encFa fa0 l,.int .i64 12] (.bool (fewFa l)):=by
 unfold fewFa
 refine aO (cxOk 28 [0,1,4,5,14,23]) Tryz.func25 ?_
 conv=>whnf
 refine loop_up (cxOk _ _) l.length (fun k=>(l.take k).all (fun f=>decide (f.name.length≤40))=true) (fun k=>⟨[(0,.sl 5 encFa fa0 l),(1,.int .i64 12),(4,.bool false),(5,.int .i64 (k:Nat))],[],0⟩) rfl zp23 ?_
 intro k hk hP
 conv=>whnf
 refine ⟨fun hc=>?_,fun hc=>?_⟩
 ·simp only [Bool.and_eq_true,decide_eq_true_eq] at hc
  have hlt:k<l.length:=by omega
  have hek:(k:Int).toNat=k:=Int.toNat_natCast k
  have:=hn _ (getD_mem (d:=fa0) hlt)
  conv=>whnf
  refine iO (cW ?_)
  refine And.intro rfl (cW ?_)
  try (rw [hek];conv=>whnf)
  refine ⟨fun hd=>?_,fun hd=>?_⟩
  ·have hd:=of_decide_eq_true hd
   have hp:(fun f:Fac=>decide (f.name.length≤40)) (l.getD k fa0)=false:=decide_eq_false (by omega)
   rw [all_not hlt hp]
   conv=>whnf
   rfl
  ·have hd:=of_decide_eq_false hd
   have hp:(fun f:Fac=>decide (f.name.length≤40)) (l.getD k fa0)=true:=decide_eq_true (by omega)
   conv=>whnf
   refine iO (cW ?_)
   refine up hlt ?_ zp23
   rw [all_step (d:=fa0) hlt,hP]
   exact hp
 ·simp only [Bool.and_eq_false_iff,decide_eq_false_iff_not] at hc
  conv=>whnf
  have e:(l.all (fun f=>decide (f.name.length≤40))&&decide (l.length≤12))=decide ((l.length:Int)≤12):=by
   by_cases h12:l.length≤12
   ·have hk2:k=l.length:=by omega
    rw [hk2,List.take_length] at hP
    rw [hP,decide_eq_true h12,decide_eq_true (by omega)]
    rfl
   ·rw [decide_eq_false h12,decide_eq_false (show ¬ (l.length:Int)≤12 by omega),Bool.and_false]
  rw [e]
  rfl
theorem zt118 {p:Prop}(h:p:=by
 rw [Bool.eq_iff_iff]
 simp only [Bool.and_eq_true,Bool.not_eq_true',Bool.or_eq_false_iff,decide_eq_true_eq,decide_eq_false_iff_not]
 omega):p:=h
theorem zp24 {p:Prop} (h:p:=by exact (wk_of [(0,.id 0)] rfl ⟨wc0,wa0,wa0,trivial⟩ ⟨wd0,trivial⟩)):p:=h
theorem few9 (s:Sta) (o:OkS s):APureV Tryz.prog 9 [encSt s] (.bool (fewS s)):=by
 have gf:=few25 s.facts o.facts o.fact
 have h1:=o.cash
 have h2:=o.purses
 have h3:=o.lines
 have h4:=o.payments
 have h5:=o.proposals
 unfold fewS
 have e0:(decide (s.cash.length≤12)&&decide (s.purses.length≤12)&&decide (s.lines.length≤4)&&decide (s.payments.length≤12)&&decide (s.proposals.length≤4)&&fewFa s.facts)=!(decide (12<(s.cash.length:Int))||decide (12<(s.purses.length:Int))||decide (4<(s.lines.length:Int))||decide (12<(s.payments.length:Int))||decide (4<(s.proposals.length:Int))||!fewFa s.facts):=by
  generalize fewFa s.facts=F
  cases F
  ·simp
  ·rw [Bool.eq_iff_iff]
   simp only [Bool.and_eq_true,Bool.not_eq_true',Bool.or_eq_false_iff,decide_eq_true_eq,decide_eq_false_iff_not,Bool.not_true,and_true]
   omega
 refine aO (cxOk 103 [0,1,2,3,4,5,6,40,45,74,79,102]) Tryz.func9 ?_
 conv=>whnf
 refine cO (fun _=>gf) (cW ?_)
 refine ⟨fun hc=>?_,fun hc=>?_⟩
 ·rw [e0,hc]
  conv=>whnf
  rfl
 rw [e0,hc]
 clear e0
 conv=>whnf
 refine loop_up (cxOk _ _) s.lines.length (fun k=>(s.lines.take k).all fewLi=true) (fun k=>⟨[(1,.ptr 0 0),(2,.bool false),(3,.int .i64 (k:Nat))],[(0,.cells 28 (celSt s))],1⟩) rfl zp24 ?_
 intro k hk hP
 conv=>whnf
 refine ⟨fun hd=>?_,fun hd=>?_⟩
 ·have hd:=of_decide_eq_true hd
  have hlt:k<s.lines.length:=by omega
  have hek:(k:Int).toNat=k:=Int.toNat_natCast k
  have hx:=o.line _ (getD_mem (d:=li0) hlt)
  have hp:fewLi (s.lines.getD k li0)=!(decide (900<((s.lines.getD k li0).text.length:Int))||decide (12<((s.lines.getD k li0).units.length:Int))||decide (12<((s.lines.getD k li0).noted.length:Int))||decide (12<((s.lines.getD k li0).stages.length:Int))):=by
   unfold fewLi
   exact zt118
  conv=>whnf
  refine iO (cW ?_)
  refine And.intro rfl (cW ?_)
  try (rw [hek];conv=>whnf)
  refine ⟨fun he=>?_,fun he=>?_⟩
  ·have hz:fewLi (s.lines.getD k li0)=false:=by rw [hp,he];rfl
   rw [all_not hlt hz]
   conv=>whnf
   rfl
  ·conv=>whnf
   refine iO (cW ?_)
   refine up hlt ?_ zp24
   rw [all_step (d:=li0) hlt,hP,hp,he]
   rfl
 have hd:=of_decide_eq_false hd
 obtain rfl:k=s.lines.length:=by omega
 rw [List.take_length] at hP
 rw [hP]
 clear hd hP hk
 conv=>whnf
 refine loop_up (cxOk _ _) s.proposals.length (fun k=>(s.proposals.take k).all fewPr=true) (fun k=>⟨[(1,.ptr 0 0),(2,.bool false),(5,.int .i64 (k:Nat))],[(0,.cells 28 (celSt s))],1⟩) rfl zp24 ?_
 intro k hk hP
 conv=>whnf
 refine ⟨fun hd=>?_,fun hd=>?_⟩
 ·have hd:=of_decide_eq_true hd
  have hlt:k<s.proposals.length:=by omega
  have hek:(k:Int).toNat=k:=Int.toNat_natCast k
  have hx:=o.proposal _ (getD_mem (d:=pr0) hlt)
  have hp:fewPr (s.proposals.getD k pr0)=!(decide (900<((s.proposals.getD k pr0).text.length:Int))||decide (12<((s.proposals.getD k pr0).units.length:Int))||decide (12<((s.proposals.getD k pr0).votes.length:Int))):=by
   unfold fewPr
   exact zt118
  conv=>whnf
  refine iO (cW ?_)
  refine And.intro rfl (cW ?_)
  try (rw [hek];conv=>whnf)
  refine ⟨fun he=>?_,fun he=>?_⟩
  ·have hz:fewPr (s.proposals.getD k pr0)=false:=by rw [hp,he];rfl
   rw [all_not hlt hz]
   conv=>whnf
   rfl
  ·conv=>whnf
   refine iO (cW ?_)
   refine up hlt ?_ zp24
   rw [all_step (d:=pr0) hlt,hP,hp,he]
   rfl
 have hd:=of_decide_eq_false hd
 obtain rfl:k=s.proposals.length:=by omega
 rw [List.take_length] at hP
 rw [hP]
 conv=>whnf
 rfl
theorem zp13 {p:Prop} (h:p:=by exact (wk_of [(0,.id 0),(1,.id 1)] rfl ⟨wc0,wc0,wa0,wa0,trivial⟩ ⟨wd0,wd0,trivial⟩)):p:=h
theorem zt11 {p:Prop}(h:p:=by
 conv=>whnf
 refine iO (cW ?_)
 refine up hlt (fun j hj=>?_) zp13
 by_cases e:j=k
 ·subst e;exact he
 ·exact hP j om0):p:=h
theorem zt41 {p:Prop}(h:p:=by
 rw [decide_eq_false hne]
 conv=>whnf
 try simp only [Bool.and_false,Bool.false_and]
 rfl):p:=h
theorem zt157 {p:Prop}(h:p:=by
 have hne:¬ x=y:=by
  intro h
  rw [h] at hc
  simp at hc
 rw [decide_eq_false hne]
 conv=>whnf
 rfl):p:=h
theorem zt128 {p:Prop}(h:p:=by
 simp only [Bool.or_eq_false_iff,Bool.not_eq_false',decide_eq_true_eq] at hc
 simp only [hc,decide_true,Bool.true_and,Bool.and_true]):p:=h
theorem zt173 {p:Prop}(h:p:=by
 rw [decide_eq_true he]
 clear hd hP hk
 conv=>whnf
 rfl):p:=h
theorem line53 (x y:Lin) (hx:x.text.length≤9223372036854775807∧x.units.length≤9223372036854775807∧x.noted.length≤9223372036854775807∧x.stages.length≤9223372036854775807) (hy:y.text.length≤9223372036854775807∧y.units.length≤9223372036854775807∧y.noted.length≤9223372036854775807∧y.stages.length≤9223372036854775807) :
  APureV Tryz.prog 53 [encLi x,encLi y] (.bool (decide (x=y))):=by
 have g1:=ints51 x.units y.units hx.2.1 hy.2.1
 have g2:=ints51 x.noted y.noted hx.2.2.1 hy.2.2.1
 obtain ⟨hx1,hx2,hx3,hx4⟩:=hx
 obtain ⟨hy1,hy2,hy3,hy4⟩:=hy
 refine aO (cxOk 96 [0,1,2,3,4,5,77,82,95]) Tryz.func53 ?_
 conv=>whnf
 refine cO (fun _=>g1) (cW ?_)
 refine cO (fun _=>g2) (cW ?_)
 refine ⟨fun hc=>?_,fun hc=>?_⟩
 ·exact zt157
 have hed:decide (x=y)=decide (x.stages=y.stages):=by
  rw [eqLin_dec]
  exact zt128
 rw [hed]
 have hlen:x.stages.length=y.stages.length:=by
  simp only [Bool.or_eq_false_iff,Bool.not_eq_false',decide_eq_true_eq] at hc
  omega
 conv=>whnf
 refine loop_up (cxOk _ _) x.stages.length (fun k=>∀ j,j<k→x.stages.getD j br0=y.stages.getD j br0) (fun k=>⟨[(2,.ptr 0 0),(3,.ptr 1 0),(4,.bool false),(5,.int .i64 (k:Nat))],[(0,.cells 47 (celLi x)),(1,.cells 47 (celLi y))],2⟩) zp15 zp13 ?_
 intro k hk hP
 conv=>whnf
 refine ⟨fun hd=>?_,fun hd=>?_⟩
 ·have hd:=of_decide_eq_true hd
  have hlt:k<x.stages.length:=by omega
  have hltr:k<y.stages.length:=by omega
  have hek:(k:Int).toNat=k:=Int.toNat_natCast k
  conv=>whnf
  refine .quiet zp9 (cW ?_)
  refine iO (cW ?_)
  refine And.intro rfl (cW ?_)
  refine iO (cW ?_)
  refine And.intro rfl (cW ?_)
  try (rw [hek];conv=>whnf)
  try (rw [hek];conv=>whnf)
  refine And.intro ⟨by kernel_rfl,by kernel_rfl⟩ (cW ?_)
  rw [show ((decide ((x.stages.getD k br0).stage=(y.stages.getD k br0).stage)&&(decide ((x.stages.getD k br0).since=(y.stages.getD k br0).since)&&true)))=decide (x.stages.getD k br0=y.stages.getD k br0) from (eqBrc_dec _ _).symm]
  refine ⟨fun he=>?_,fun he=>?_⟩
  ·have hne:¬ x.stages=y.stages:=by
    exact zt113
   exact zt41
  ·have he:x.stages.getD k br0=y.stages.getD k br0:=by simpa using he
   exact zt11
 have hd:=of_decide_eq_false hd
 have he:x.stages=y.stages:=list_eq (d:=br0) hlen fun j hj=>hP j (by omega)
 exact zt173
theorem pro54 (x y:Pro) (hx:x.text.length≤9223372036854775807∧x.units.length≤9223372036854775807∧x.votes.length≤9223372036854775807) (hy:y.text.length≤9223372036854775807∧y.units.length≤9223372036854775807∧y.votes.length≤9223372036854775807) :
  APureV Tryz.prog 54 [encPr x,encPr y] (.bool (decide (x=y))):=by
 have g1:=ints51 x.units y.units hx.2.1 hy.2.1
 obtain ⟨hx1,hx2,hx3⟩:=hx
 obtain ⟨hy1,hy2,hy3⟩:=hy
 refine aO (cxOk 67 [0,1,2,3,4,5,48,53,66]) Tryz.func54 ?_
 conv=>whnf
 refine cO (fun _=>g1) (cW ?_)
 refine ⟨fun hc=>?_,fun hc=>?_⟩
 ·exact zt157
 have hed:decide (x=y)=decide (x.votes=y.votes):=by
  rw [eqPro_dec]
  exact zt128
 rw [hed]
 have hlen:x.votes.length=y.votes.length:=by
  simp only [Bool.or_eq_false_iff,Bool.not_eq_false',decide_eq_true_eq] at hc
  omega
 conv=>whnf
 refine loop_up (cxOk _ _) x.votes.length (fun k=>∀ j,j<k→x.votes.getD j vo0=y.votes.getD j vo0) (fun k=>⟨[(2,.ptr 0 0),(3,.ptr 1 0),(4,.bool false),(5,.int .i64 (k:Nat))],[(0,.cells 64 (celPr x)),(1,.cells 64 (celPr y))],2⟩) zp15 zp13 ?_
 intro k hk hP
 conv=>whnf
 refine ⟨fun hd=>?_,fun hd=>?_⟩
 ·have hd:=of_decide_eq_true hd
  have hlt:k<x.votes.length:=by omega
  have hltr:k<y.votes.length:=by omega
  have hek:(k:Int).toNat=k:=Int.toNat_natCast k
  conv=>whnf
  refine .quiet zp9 (cW ?_)
  refine iO (cW ?_)
  refine And.intro rfl (cW ?_)
  refine iO (cW ?_)
  refine And.intro rfl (cW ?_)
  try (rw [hek];conv=>whnf)
  try (rw [hek];conv=>whnf)
  refine And.intro ⟨by kernel_rfl,by kernel_rfl⟩ (cW ?_)
  rw [show ((decide ((x.votes.getD k vo0).seat=(y.votes.getD k vo0).seat)&&(decide ((x.votes.getD k vo0).day=(y.votes.getD k vo0).day)&&(decide ((x.votes.getD k vo0).yes=(y.votes.getD k vo0).yes)&&true))))=decide (x.votes.getD k vo0=y.votes.getD k vo0) from (eqVot_dec _ _).symm]
  refine ⟨fun he=>?_,fun he=>?_⟩
  ·have hne:¬ x.votes=y.votes:=by
    exact zt113
   exact zt41
  ·have he:x.votes.getD k vo0=y.votes.getD k vo0:=by simpa using he
   exact zt11
 have hd:=of_decide_eq_false hd
 have he:x.votes=y.votes:=list_eq (d:=vo0) hlen fun j hj=>hP j (by omega)
 exact zt173
theorem same12 (a b:Sta) (oa:OkS a) (ob:OkS b):APureV Tryz.prog 12 [encSt a,encSt b] (.bool (decide (a=b))):=by
 have g1:=ints51 a.cash b.cash oa.cash ob.cash
 have g2:=ints51 a.purses b.purses oa.purses ob.purses
 have g3:=facts52 a.facts b.facts oa.facts ob.facts
 have h1:=oa.lines
 have h2:=oa.payments
 have h3:=oa.proposals
 have h4:=ob.lines
 have h5:=ob.payments
 have h6:=ob.proposals
 refine aO (cxOk 127 [0,1,2,3,4,5,6,7,70,75,89,94,107,112,126]) Tryz.func12 ?_
 conv=>whnf
 refine cO (fun _=>g1) (cW ?_)
 refine cO (fun _=>g2) (cW ?_)
 refine cO (fun _=>g3) (cW ?_)
 refine ⟨fun hc=>?_,fun hc=>?_⟩
 ·have hne:¬ a=b:=by
   intro h
   rw [h] at hc
   simp at hc
  rw [decide_eq_false hne]
  conv=>whnf
  rfl
 have hed:decide (a=b)=(decide (a.lines=b.lines)&&(decide (a.payments=b.payments)&&decide (a.proposals=b.proposals))):=by
  rw [eqSta_dec]
  simp only [Bool.or_eq_false_iff,Bool.not_eq_false',decide_eq_true_eq] at hc
  simp only [hc,decide_true,Bool.true_and,Bool.and_true]
  cases decide (a.lines=b.lines)<;>cases decide (a.payments=b.payments)<;>cases decide (a.proposals=b.proposals)<;>rfl
 rw [hed]
 clear hed
 simp only [Bool.or_eq_false_iff,Bool.not_eq_false',decide_eq_true_eq] at hc
 have hlen:a.lines.length=b.lines.length:=by omega
 have hlen2:a.payments.length=b.payments.length:=by omega
 have hlen3:a.proposals.length=b.proposals.length:=by omega
 conv=>whnf
 refine loop_up (cxOk _ _) a.lines.length (fun k=>∀ j,j<k→a.lines.getD j li0=b.lines.getD j li0) (fun k=>⟨[(2,.ptr 0 0),(3,.ptr 1 0),(4,.bool false),(5,.int .i64 (k:Nat))],[(0,.cells 28 (celSt a)),(1,.cells 28 (celSt b))],2⟩) zp15 zp13 ?_
 intro k hk hP
 conv=>whnf
 refine ⟨fun hd=>?_,fun hd=>?_⟩
 ·have hd:=of_decide_eq_true hd
  have hlt:k<a.lines.length:=by omega
  have hltr:k<b.lines.length:=by omega
  have hek:(k:Int).toNat=k:=Int.toNat_natCast k
  have hone:=line53 (a.lines.getD k li0) (b.lines.getD k li0) (oa.line _ (getD_mem hlt)) (ob.line _ (getD_mem hltr))
  conv=>whnf
  refine .quiet zp9 (cW ?_)
  refine iO (cW ?_)
  refine And.intro rfl (cW ?_)
  refine iO (cW ?_)
  refine And.intro rfl (cW ?_)
  try (rw [hek];conv=>whnf)
  try (rw [hek];conv=>whnf)
  refine .mk _ _ _ _ (fun _=>hone) al0 rfl (cW ?_)
  refine ⟨fun he=>?_,fun he=>?_⟩
  ·have hne:¬ a.lines=b.lines:=by
    exact zt113
   exact zt41
  ·have he:a.lines.getD k li0=b.lines.getD k li0:=by simpa using he
   exact zt11
 have hd:=of_decide_eq_false hd
 have he:a.lines=b.lines:=list_eq (d:=li0) hlen fun j hj=>hP j (by omega)
 rw [decide_eq_true he]
 clear hd hP hk
 conv=>whnf
 clear hlen
 have hlen:=hlen2
 refine loop_up (cxOk _ _) a.payments.length (fun k=>∀ j,j<k→a.payments.getD j pa0=b.payments.getD j pa0) (fun k=>⟨[(2,.ptr 0 0),(3,.ptr 1 0),(4,.bool false),(6,.int .i64 (k:Nat))],[(0,.cells 28 (celSt a)),(1,.cells 28 (celSt b))],2⟩) zp15 zp13 ?_
 intro k hk hP
 conv=>whnf
 refine ⟨fun hd=>?_,fun hd=>?_⟩
 ·have hd:=of_decide_eq_true hd
  have hlt:k<a.payments.length:=by omega
  have hltr:k<b.payments.length:=by omega
  have hek:(k:Int).toNat=k:=Int.toNat_natCast k
  conv=>whnf
  refine .quiet zp9 (cW ?_)
  refine iO (cW ?_)
  refine And.intro rfl (cW ?_)
  refine iO (cW ?_)
  refine And.intro rfl (cW ?_)
  try (rw [hek];conv=>whnf)
  try (rw [hek];conv=>whnf)
  refine And.intro ⟨by kernel_rfl,by kernel_rfl⟩ (cW ?_)
  rw [show ((decide ((a.payments.getD k pa0).issue=(b.payments.getD k pa0).issue)&&(decide ((a.payments.getD k pa0).seat=(b.payments.getD k pa0).seat)&&(decide ((a.payments.getD k pa0).day=(b.payments.getD k pa0).day)&&(decide ((a.payments.getD k pa0).due=(b.payments.getD k pa0).due)&&(decide ((a.payments.getD k pa0).paid=(b.payments.getD k pa0).paid)&&(decide ((a.payments.getD k pa0).period=(b.payments.getD k pa0).period)&&true)))))))=decide (a.payments.getD k pa0=b.payments.getD k pa0) from (eqPay_dec _ _).symm]
  refine ⟨fun he=>?_,fun he=>?_⟩
  ·have hne:¬ a.payments=b.payments:=by
    exact zt113
   exact zt41
  ·have he:a.payments.getD k pa0=b.payments.getD k pa0:=by simpa using he
   exact zt11
 have hd:=of_decide_eq_false hd
 have he:a.payments=b.payments:=list_eq (d:=pa0) hlen fun j hj=>hP j (by omega)
 rw [decide_eq_true he]
 clear hd hP hk
 conv=>whnf
 clear hlen
 have hlen:=hlen3
 refine loop_up (cxOk _ _) a.proposals.length (fun k=>∀ j,j<k→a.proposals.getD j pr0=b.proposals.getD j pr0) (fun k=>⟨[(2,.ptr 0 0),(3,.ptr 1 0),(4,.bool false),(7,.int .i64 (k:Nat))],[(0,.cells 28 (celSt a)),(1,.cells 28 (celSt b))],2⟩) zp15 zp13 ?_
 intro k hk hP
 conv=>whnf
 refine ⟨fun hd=>?_,fun hd=>?_⟩
 ·have hd:=of_decide_eq_true hd
  have hlt:k<a.proposals.length:=by omega
  have hltr:k<b.proposals.length:=by omega
  have hek:(k:Int).toNat=k:=Int.toNat_natCast k
  have hone:=pro54 (a.proposals.getD k pr0) (b.proposals.getD k pr0) (oa.proposal _ (getD_mem hlt)) (ob.proposal _ (getD_mem hltr))
  conv=>whnf
  refine .quiet zp9 (cW ?_)
  refine iO (cW ?_)
  refine And.intro rfl (cW ?_)
  refine iO (cW ?_)
  refine And.intro rfl (cW ?_)
  try (rw [hek];conv=>whnf)
  try (rw [hek];conv=>whnf)
  refine .mk _ _ _ _ (fun _=>hone) al0 rfl (cW ?_)
  refine ⟨fun he=>?_,fun he=>?_⟩
  ·have hne:¬ a.proposals=b.proposals:=by
    exact zt113
   exact zt41
  ·have he:a.proposals.getD k pr0=b.proposals.getD k pr0:=by simpa using he
   exact zt11
 have hd:=of_decide_eq_false hd
 have he:a.proposals=b.proposals:=list_eq (d:=pr0) hlen fun j hj=>hP j (by omega)
 exact zt173
structure OkC (s:Sta):Prop where
 cash:s.cash.length≤1000000
 purses:s.purses.length≤1000000
 lines:s.lines.length≤1000000
 facts:s.facts.length≤1000000
 payments:s.payments.length≤1000000
 proposals:s.proposals.length≤1000000
 line:∀ x∈s.lines,x.units.length≤1000000∧x.noted.length≤1000000∧x.stages.length≤1000000
 proposal:∀ x∈s.proposals,x.units.length≤1000000∧x.votes.length≤1000000
theorem FewS.okC {s:Sta} (h:FewS s):OkC s :=
 ⟨by have:=h.cash;omega,by have:=h.purses;omega,by have:=h.lines;omega,by have:=h.facts;omega,by have:=h.payments;omega,by have:=h.proposals;omega,fun x hx=>(by have:=h.line x hx;omega),fun x hx=>(by have:=h.proposal x hx;omega)⟩
theorem set_same {α:Type} {l:List α} {k:Nat} {d:α} (h:k<l.length):l.set k (l.getD k d)=l:=by
 apply List.ext_getElem?
 intro j
 rw [List.getElem?_set]
 split
 ·rename_i e
  subst e
  rw [List.getD_eq_getElem?_getD,List.getElem?_eq_getElem h]
  rfl
 ·rfl
theorem zp39 {p:Prop} (h:p:=by exact (wk_of [(0,.id 0),(1,.id 1),(2,.id 2),(3,.id 3)] rfl ⟨wc0,wc0,wa0,wa0,trivial⟩ ⟨wd0,wd0,we0,we0,trivial⟩)):p:=h
theorem zt67 {p:Prop}(h:p:=by
 conv=>whnf
 rw [set_same hlt]
 refine And.intro rfl (cW ?_)
 refine iO (cW ?_)
 exact up hlt trivial zp39):p:=h
theorem copy_ok (s:Sta) (h:OkC s):APureV Tryz.prog 18 [encSt s] (encSt s):=by
 have g1:=clf108 s.cash h.cash
 have g2:=clf108 s.purses h.purses
 have g3:=clf109 s.facts h.facts
 have g4:=clf110 s.payments h.payments
 have g5:=cl111 s.lines h.lines
 have g6:=cl112 s.proposals h.proposals
 refine aW (cxOk 94 [0,1,2,3,4,5,6,33,34,35,68,69,70]) Tryz.func18 ?_
 conv=>whnf
 refine .eff ad0 (cW ?_)
 refine cO (fun _=>g1) (cW ?_)
 refine cO (fun _=>g2) (cW ?_)
 refine cO (fun _=>g3) (cW ?_)
 refine cO (fun _=>g4) (cW ?_)
 refine ⟨by kernel_rfl,(cW ?_)⟩
 refine .eff ad0 (cW ?_)
 refine cO (fun _=>g5) (cW ?_)
 refine cO (fun _=>g6) (cW ?_)
 refine ⟨by kernel_rfl,(cW ?_)⟩
 have hl:=h.lines
 refine loop_up (cxOk _ _) s.lines.length (fun _=>True) (fun k=>⟨[(1,.ptr 0 0),(2,.ptr 1 0),(33,.int .i64 (s.lines.length:Nat)),(34,.int .i64 (k:Nat))],[(0,.cells 28 [.int .i64 s.day,.sl 1 encI 0 s.cash,.sl 1 encI 0 s.purses,.int .i64 s.outside,.own 2,.sl 5 encFa fa0 s.facts,.sl 6 encPa pa0 s.payments,.own 3]),(1,.cells 28 (celSt st0)),(2,.row 47 10 encLi li0 s.lines),(3,.row 64 6 encPr pr0 s.proposals)],4⟩) trivial (by exact (wk_of [(0,.id 0),(1,.id 1),(2,.id 2),(3,.id 3)] rfl ⟨wc0,wc0,wa0,wa0,trivial⟩ ⟨wd0,⟨_,rfl,.cells _ _ _ _ rfl zp4 rfl⟩,we0,we0,trivial⟩)) ?_
 intro k hk _
 conv=>whnf
 refine ⟨fun hd=>?_,fun hd=>?_⟩
 ·have hd:=of_decide_eq_true hd
  have hlt:k<s.lines.length:=by omega
  have hek:(k:Int).toNat=k:=Int.toNat_natCast k
  have hx:=h.line _ (getD_mem (d:=li0) hlt)
  have k1:=clf108 (s.lines.getD k li0).units hx.1
  have k2:=clf108 (s.lines.getD k li0).noted hx.2.1
  have k3:=clf113 (s.lines.getD k li0).stages hx.2.2
  conv=>whnf
  refine iO (cW ?_)
  refine .eff ad0 (cW ?_)
  refine And.intro om0 (And.intro rfl (cW ?_))
  try (rw [hek];conv=>whnf)
  refine cO (fun _=>k1) (cW ?_)
  refine And.intro om0 (And.intro rfl (cW ?_))
  refine cO (fun _=>k2) (cW ?_)
  refine And.intro om0 (And.intro rfl (cW ?_))
  refine cO (fun _=>k3) (cW ?_)
  refine Exists.intro _ (And.intro rfl (cW ?_))
  refine And.intro hlt (And.intro ⟨rfl,rfl,(show 1+1≤10 by decide),rfl,rfl⟩ (cW ?_))
  rw [set_same hlt]
  refine Exists.intro _ (And.intro rfl (cW ?_))
  refine And.intro hlt (And.intro ⟨rfl,rfl,(show 2+1≤10 by decide),rfl,rfl⟩ (cW ?_))
  rw [set_same hlt]
  refine Exists.intro _ (And.intro rfl (cW ?_))
  refine And.intro hlt (And.intro ⟨rfl,rfl,(show 4+1≤10 by decide),rfl,rfl⟩ ?_)
  exact zt67
 conv=>whnf
 have hm:=h.proposals
 refine loop_up (cxOk _ _) s.proposals.length (fun _=>True) (fun k=>⟨[(1,.ptr 0 0),(2,.ptr 1 0),(68,.int .i64 (s.proposals.length:Nat)),(69,.int .i64 (k:Nat))],[(0,.cells 28 [.int .i64 s.day,.sl 1 encI 0 s.cash,.sl 1 encI 0 s.purses,.int .i64 s.outside,.own 2,.sl 5 encFa fa0 s.facts,.sl 6 encPa pa0 s.payments,.own 3]),(1,.cells 28 (celSt st0)),(2,.row 47 10 encLi li0 s.lines),(3,.row 64 6 encPr pr0 s.proposals)],4⟩) trivial zp39 ?_
 intro k hk _
 conv=>whnf
 refine ⟨fun hd=>?_,fun hd=>?_⟩
 ·have hd:=of_decide_eq_true hd
  have hlt:k<s.proposals.length:=by omega
  have hek:(k:Int).toNat=k:=Int.toNat_natCast k
  have hx:=h.proposal _ (getD_mem (d:=pr0) hlt)
  have k1:=clf108 (s.proposals.getD k pr0).units hx.1
  have k2:=clf114 (s.proposals.getD k pr0).votes hx.2
  conv=>whnf
  refine iO (cW ?_)
  refine .eff ad0 (cW ?_)
  refine And.intro om0 (And.intro rfl (cW ?_))
  try (rw [hek];conv=>whnf)
  refine cO (fun _=>k1) (cW ?_)
  refine And.intro om0 (And.intro rfl (cW ?_))
  refine cO (fun _=>k2) (cW ?_)
  refine Exists.intro _ (And.intro rfl (cW ?_))
  refine And.intro hlt (And.intro ⟨rfl,rfl,(show 3+1≤6 by decide),rfl,rfl⟩ (cW ?_))
  rw [set_same hlt]
  refine Exists.intro _ (And.intro rfl (cW ?_))
  refine And.intro hlt (And.intro ⟨rfl,rfl,(show 4+1≤6 by decide),rfl,rfl⟩ ?_)
  exact zt67
 conv=>whnf
 refine ⟨⟨[(2,.ptr 0 0)],[(0,.cells 28 (celSt s))],1⟩,(wk_frz [2,3]).trans (wk_of [(0,.id 1)] rfl ⟨wc0,trivial⟩ ⟨wb0,trivial⟩),(cW ?_)⟩
 rfl
def exS:Sta:=⟨7,[5,0],[9],-2,[],[⟨3,[99,97,115,104],6,500,7⟩],[],[]⟩
def exT:List UInt8:=[55,59,50,59,53,59,48,59,49,59,57,59,45,50,59,48,59,49,59,51,59,52,58,99,97,115,104,44,54,59,53,48,48,59,55,59,48,59,48,59]
theorem ex_right:rightS exS=true:=by decide +kernel
theorem ex_text:stT exS=exT:=by decide +kernel
theorem st0_text:stT st0=[48,59,48,59,48,59,48,59,48,59,48,59,48,59,48,59]:=by decide +kernel
def stM:Sta:=⟨-1,[],[],0,[],[],[],[]⟩
theorem stM_text:stT stM=[]:=by decide +kernel
theorem ex_read:readZ exT=(exS,0):=by
 have h:=read_back ex_right
 rw [ex_text] at h
 unfold readZ
 rw [if_pos h.2.2,h.2.1]
theorem ex_money:moneyS exS=14:=by decide +kernel
theorem zp25 {p:Prop} (h:p:=by first | exact LeT.lsl_sl encI 0 [5,0] rfl | exact LeT.lsl_sl encI 0 [9] rfl | exact LeT.lsl_sl encFa fa0 exS.facts rfl | exact LeT.nils_sl 10 encLi li0 | exact LeT.nils_sl 6 encPa pa0 | exact LeT.nils_sl 6 encPr pr0):p:=h
theorem example_ok:APureV Tryz.prog 24 [] (encSt exS):=by
 refine aW (cxOk 6 [0]) Tryz.func24 ?_
 conv=>whnf
 refine ⟨⟨[(0,.ptr 0 0)],[(0,.cells 28 (celSt exS))],1⟩,(wk_frz [1,2,3]).trans (wk_of [(0,.id 0)] rfl ⟨wc0,trivial⟩ ⟨⟨_,rfl,.cells _ _ _ _ rfl (by repeat (first | exact .nil | refine .cons (by first | exact .base (.tree _ _ rfl rfl) | exact .base (.own _ _ rfl) | exact .base (.ptr _ _ _ rfl) | exact .base (.map _ _ rfl) | exact .base (.nilown _ rfl) | exact .fn _ _ _ _ _ .nil zp7 | exact .base (.tree _ _ zp25 rfl) | exact .base (.leT _ _ zp25 rfl)) ?_)) rfl⟩,trivial⟩),?_⟩
 conv=>whnf
 rfl
theorem ex_ok:OkS exS:=by
 refine ⟨?_,?_,?_,?_,?_,?_,?_,?_,?_⟩<;>simp [exS]
theorem st0_ok:OkS st0:=by
 refine ⟨?_,?_,?_,?_,?_,?_,?_,?_,?_⟩<;>simp
theorem stM_ok:OkS stM:=by
 refine ⟨?_,?_,?_,?_,?_,?_,?_,?_,?_⟩<;>simp [stM]
theorem ex_okC:OkC exS:=by
 refine ⟨?_,?_,?_,?_,?_,?_,?_,?_⟩<;>simp [exS]
theorem small_ok:APureV Tryz.prog 8 [] (.bool true):=by
 have g1:=read_st exT (by decide)
 unfold readA at g1
 rw [ex_read] at g1
 dsimp only at g1
 have g2:=text_st st0 st0_ok
 rw [st0_text] at g2
 have g3:=example_ok
 have g4:=text_st exS ex_ok
 rw [ex_text] at g4
 have g5:=same12 exS exS ex_ok ex_ok
 rw [decide_eq_true rfl] at g5
 have g6:=text_st stM stM_ok
 rw [stM_text] at g6
 have g7:=same_st exS exS ex_ok ex_ok
 rw [decide_eq_true rfl] at g7
 have g8:=right_ok exS ex_ok
 rw [ex_right] at g8
 have g9:=copy_ok exS ex_okC
 have gm:=money_ok exS ex_ok
 rw [ex_money] at gm
 refine aW (cxOk 54 [0,1,2,3,4]) Tryz.func8 ?_
 conv=>whnf
 refine cO (fun _=>g1) (cW ?_)
 refine .eff ad0 (cW ?_)
 refine .one _ _ _ (fun _=>g2) (BorL.cons (.agg _ _ _ (.cons (.base (.base (.same _ rfl))) (.cons (.base (.base (.nils _ _ _))) (.cons (.base (.base (.nils _ _ _))) (.cons (.base (.base (.same _ rfl))) (.cons (.base (.base (.nils _ _ _))) (.cons (.base (.base (.nils _ _ _))) (.cons (.base (.base (.nils _ _ _))) (.cons (.base (.base (.nils _ _ _))) .nil))))))))) al0) ai0 ah0 (cW ?_)
 rw [decide_eq_true (show ([48,59,48,59,48,59,48,59,48,59,48,59,48,59,48,59]:List UInt8)=(⟨#[48,59,48,59,48,59,48,59,48,59,48,59,48,59,48,59]⟩:ByteArray).data.toList from rfl)]
 refine gT (cW ?_)
 refine cO (fun _=>g3) (cW ?_)
 refine gT (cW ?_)
 refine cO (fun _=>g4) (cW ?_)
 refine nE (cW ?_)
 refine nE (cW ?_)
 refine nE (cW ?_)
 refine nE (cW ?_)
 refine nE (cW ?_)
 refine nE (cW ?_)
 refine nE (cW ?_)
 refine nE (cW ?_)
 rw [decide_eq_true (show exT=(⟨#[55,59,50,59,53,59,48,59,49,59,57,59,45,50,59,48,59,49,59,51,59,52,58,99,97,115,104,44,54,59,53,48,48,59,55,59,48,59,48,59]⟩:ByteArray).data.toList from rfl)]
 refine cO (fun _=>g3) (cW ?_)
 refine nE (cW ?_)
 refine cO (fun _=>g5) (cW ?_)
 refine nE (cW ?_)
 refine And.intro rfl (cW ?_)
 refine .eff ad0 (cW ?_)
 refine nE (cW ?_)
 refine nE (cW ?_)
 refine .one _ _ _ (fun _=>g6) (BorL.cons (.agg _ _ _ (.cons (.base (.base (.same _ rfl))) (.cons (.base (.base (.nils _ _ _))) (.cons (.base (.base (.nils _ _ _))) (.cons (.base (.base (.same _ rfl))) (.cons (.base (.base (.nils _ _ _))) (.cons (.base (.base (.nils _ _ _))) (.cons (.base (.base (.nils _ _ _))) (.cons (.base (.base (.nils _ _ _))) .nil))))))))) al0) ai0 ah0 (cW ?_)
 refine nE (cW ?_)
 refine nE (cW ?_)
 refine nE (cW ?_)
 refine nE (cW ?_)
 refine cO (fun _=>g3) (cW ?_)
 refine nE (cW ?_)
 refine cO (fun _=>g7) (cW ?_)
 refine nE (cW ?_)
 refine nE (cW ?_)
 refine nE (cW ?_)
 refine cO (fun _=>g8) (cW ?_)
 refine nE (cW ?_)
 refine nE (cW ?_)
 refine cO (fun _=>g3) (cW ?_)
 refine nE (cW ?_)
 refine cO (fun _=>g9) (cW ?_)
 refine nE (cW ?_)
 refine nE (cW ?_)
 refine cO (fun _=>g5) (cW ?_)
 refine nE (cW ?_)
 refine nE (cW ?_)
 refine nE (cW ?_)
 refine cO (fun _=>gm) (cW ?_)
 refine nE (cW ?_)
 refine nE (cW ?_)
 refine And.intro rfl (cW ?_)
 exact zt146
abbrev celOwn (s:Sta):List AV:=[.int .i64 s.day,.own 1,.own 2,.int .i64 s.outside,.own 5,.own 3,.own 4,.own 6]
abbrev objC (s:Sta):List AB:=[.cells 28 (celOwn s),.row 3 1 encI 0 s.cash,.row 3 1 encI 0 s.purses,.row 41 5 encFa fa0 s.facts,.row 43 6 encPa pa0 s.payments,.row 47 10 encLi li0 s.lines,.row 64 6 encPr pr0 s.proposals]
theorem zp27 {p:Prop} (h:p:=by first | exact wg0 | exact wh0 | exact wi0):p:=h
theorem copied_r (s:Sta) (h:OkC s):RIO Tryz.prog 21 [encSt s] [] 0 (fun vs bs es=>vs=[.agg (celOwn s)]∧bs=[]∧es=objC s):=by
 have h1:=h.cash
 have h2:=h.purses
 have h3:=h.lines
 have h4:=h.facts
 have h5:=h.payments
 have h6:=h.proposals
 refine rO (cxPOk 0 107 [0,1,2,3,4,5,6,34,77]) Tryz.func21 ?_
 conv=>whnf
 refine And.intro rfl (cW ?_)
 refine And.intro ⟨rfl,rfl⟩ (And.intro (show (0+s.cash.length)*8≤140737488355328 by omega) (cW ?_))
 refine And.intro rfl (cW ?_)
 refine And.intro ⟨rfl,rfl⟩ (And.intro (show (0+s.purses.length)*8≤140737488355328 by omega) (cW ?_))
 refine And.intro rfl (cW ?_)
 refine And.intro ⟨rfl,rfl⟩ (And.intro (show (0+s.facts.length)*48≤140737488355328 by omega) (cW ?_))
 refine And.intro rfl (cW ?_)
 refine And.intro ⟨rfl,rfl⟩ (And.intro (show (0+s.payments.length)*48≤140737488355328 by omega) (cW ?_))
 refine And.intro rfl (cW ?_)
 refine And.intro ⟨rfl,rfl⟩ (And.intro (show (0+s.lines.length)*136≤140737488355328 by omega) (cW ?_))
 refine loop_up (cxPOk _ _ _) s.lines.length (fun _=>True) (fun k=>⟨[(1,.ptr 0 0),(2,.ptr 1 0),(3,.own 6),(4,.int .i64 (k:Nat))],[(0,.cells 28 [.int .i64 s.day,.own 2,.own 3,.int .i64 s.outside,.sl 10 encLi li0 s.lines,.own 4,.own 5,.sl 6 encPr pr0 s.proposals]),(1,.cells 28 (celSt st0)),(2,.row 3 1 encI 0 s.cash),(3,.row 3 1 encI 0 s.purses),(4,.row 41 5 encFa fa0 s.facts),(5,.row 43 6 encPa pa0 s.payments),(6,.row 47 10 encLi li0 s.lines)],7⟩) trivial (by exact (wk_of [(0,.id 0),(1,.id 1),(2,.id 3),(3,.id 5),(4,.id 7),(5,.id 9),(6,.id 11)] rfl ⟨wc0,wc0,zp27,wa0,trivial⟩ ⟨wd0,⟨_,rfl,.cells _ _ _ _ rfl zp4 rfl⟩,we0,we0,we0,we0,we0,trivial⟩)) ?_
 intro k hk _
 conv=>whnf
 refine ⟨fun hd=>?_,fun hd=>?_⟩
 ·have hd:=of_decide_eq_true hd
  have hlt:k<s.lines.length:=by omega
  have hek:(k:Int).toNat=k:=Int.toNat_natCast k
  have hx:=h.line _ (getD_mem (d:=li0) hlt)
  conv=>whnf
  refine iO (cW ?_)
  refine And.intro om0 (And.intro rfl (cW ?_))
  refine And.intro rfl (cW ?_)
  try (rw [hek];conv=>whnf)
  refine And.intro ⟨rfl,rfl⟩ (And.intro (show (0+(s.lines.getD k li0).units.length)*8≤140737488355328 by omega) (cW ?_))
  refine iO (cW ?_)
  refine Exists.intro _ (And.intro rfl (cW ?_))
  refine And.intro (show (k:Int).toNat<s.lines.length by omega) (And.intro ⟨rfl,rfl,(show 1+1≤10 by decide),rfl,rfl⟩ (cW ?_))
  rw [hek,set_same hlt]
  refine iO (cW ?_)
  refine And.intro om0 (And.intro rfl (cW ?_))
  refine And.intro rfl (cW ?_)
  try (rw [hek];conv=>whnf)
  refine And.intro ⟨rfl,rfl⟩ (And.intro (show (0+(s.lines.getD k li0).noted.length)*8≤140737488355328 by omega) (cW ?_))
  refine iO (cW ?_)
  refine Exists.intro _ (And.intro rfl (cW ?_))
  refine And.intro (show (k:Int).toNat<s.lines.length by omega) (And.intro ⟨rfl,rfl,(show 2+1≤10 by decide),rfl,rfl⟩ (cW ?_))
  rw [hek,set_same hlt]
  refine iO (cW ?_)
  refine And.intro om0 (And.intro rfl (cW ?_))
  refine And.intro rfl (cW ?_)
  try (rw [hek];conv=>whnf)
  refine And.intro ⟨rfl,rfl⟩ (And.intro (show (0+(s.lines.getD k li0).stages.length)*16≤140737488355328 by omega) (cW ?_))
  refine iO (cW ?_)
  refine Exists.intro _ (And.intro rfl (cW ?_))
  refine And.intro (show (k:Int).toNat<s.lines.length by omega) (And.intro ⟨rfl,rfl,(show 4+1≤10 by decide),rfl,rfl⟩ (cW ?_))
  rw [hek,set_same hlt]
  refine iO (cW ?_)
  try (rw [hek];conv=>whnf)
  exact up hlt trivial (by exact (wk_of [(0,.id 0),(1,.id 1),(2,.id 2),(3,.id 3),(4,.id 4),(5,.id 5),(6,.id 6)] rfl ⟨wc0,wc0,zp27,wa0,trivial⟩ ⟨wd0,wd0,we0,we0,we0,we0,we0,trivial⟩))
 conv=>whnf
 refine And.intro rfl (cW ?_)
 refine And.intro ⟨rfl,rfl⟩ (And.intro (show (0+s.proposals.length)*88≤140737488355328 by omega) (cW ?_))
 refine loop_up (cxPOk _ _ _) s.proposals.length (fun _=>True) (fun k=>⟨[(1,.ptr 0 0),(2,.ptr 1 0),(3,.own 6),(5,.own 7),(6,.int .i64 (k:Nat))],[(0,.cells 28 [.int .i64 s.day,.own 2,.own 3,.int .i64 s.outside,.sl 10 encLi li0 s.lines,.own 4,.own 5,.sl 6 encPr pr0 s.proposals]),(1,.cells 28 (celSt st0)),(2,.row 3 1 encI 0 s.cash),(3,.row 3 1 encI 0 s.purses),(4,.row 41 5 encFa fa0 s.facts),(5,.row 43 6 encPa pa0 s.payments),(6,.row 47 10 encLi li0 s.lines),(7,.row 64 6 encPr pr0 s.proposals)],8⟩) trivial (by exact (wk_of [(0,.id 0),(1,.id 1),(2,.id 2),(3,.id 3),(4,.id 4),(5,.id 5),(6,.id 6),(7,.id 8)] rfl ⟨wc0,wc0,zp27,zp27,wa0,trivial⟩ ⟨wd0,wd0,we0,we0,we0,we0,we0,we0,trivial⟩)) ?_
 intro k hk _
 conv=>whnf
 refine ⟨fun hd=>?_,fun hd=>?_⟩
 ·have hd:=of_decide_eq_true hd
  have hlt:k<s.proposals.length:=by omega
  have hek:(k:Int).toNat=k:=Int.toNat_natCast k
  have hx:=h.proposal _ (getD_mem (d:=pr0) hlt)
  conv=>whnf
  refine iO (cW ?_)
  refine And.intro om0 (And.intro rfl (cW ?_))
  refine And.intro rfl (cW ?_)
  try (rw [hek];conv=>whnf)
  refine And.intro ⟨rfl,rfl⟩ (And.intro (show (0+(s.proposals.getD k pr0).units.length)*8≤140737488355328 by omega) (cW ?_))
  refine iO (cW ?_)
  refine Exists.intro _ (And.intro rfl (cW ?_))
  refine And.intro (show (k:Int).toNat<s.proposals.length by omega) (And.intro ⟨rfl,rfl,(show 3+1≤6 by decide),rfl,rfl⟩ (cW ?_))
  rw [hek,set_same hlt]
  refine iO (cW ?_)
  refine And.intro om0 (And.intro rfl (cW ?_))
  refine And.intro rfl (cW ?_)
  try (rw [hek];conv=>whnf)
  refine And.intro ⟨rfl,rfl⟩ (And.intro (show (0+(s.proposals.getD k pr0).votes.length)*24≤140737488355328 by omega) (cW ?_))
  refine iO (cW ?_)
  refine Exists.intro _ (And.intro rfl (cW ?_))
  refine And.intro (show (k:Int).toNat<s.proposals.length by omega) (And.intro ⟨rfl,rfl,(show 4+1≤6 by decide),rfl,rfl⟩ (cW ?_))
  rw [hek,set_same hlt]
  refine iO (cW ?_)
  try (rw [hek];conv=>whnf)
  exact up hlt trivial (by exact (wk_of [(0,.id 0),(1,.id 1),(2,.id 2),(3,.id 3),(4,.id 4),(5,.id 5),(6,.id 6),(7,.id 7)] rfl ⟨wc0,wc0,zp27,zp27,wa0,trivial⟩ ⟨wd0,wd0,we0,we0,we0,we0,we0,we0,trivial⟩))
 conv=>whnf
 refine ⟨⟨[(2,.ptr 0 0)],[(0,.cells 28 (celOwn s)),(1,.row 3 1 encI 0 s.cash),(2,.row 3 1 encI 0 s.purses),(3,.row 41 5 encFa fa0 s.facts),(4,.row 43 6 encPa pa0 s.payments),(5,.row 47 10 encLi li0 s.lines),(6,.row 64 6 encPr pr0 s.proposals)],7⟩,(wk_of [(0,.id 1),(1,.id 2),(2,.id 3),(3,.id 4),(4,.id 5),(5,.id 6),(6,.id 7)] rfl ⟨wc0,trivial⟩ ⟨wb0,⟨_,rfl,ae0⟩,⟨_,rfl,ae0⟩,⟨_,rfl,ae0⟩,⟨_,rfl,ae0⟩,⟨_,rfl,ae0⟩,⟨_,rfl,ae0⟩,trivial⟩),rfl,rfl,?_⟩
 exact zt9
theorem getD_set {l:List Int} {x:Nat} {v:Int} (h:x<l.length):(l.set x v).getD x 0=v:=by
 rw [List.getD_eq_getElem?_getD,List.getElem?_set_self h]
 rfl
set_option maxHeartbeats 16000000
open Go.ChangeShapes Go.WideShapes Go.RowKit Go.Own
theorem Tryz.own:ownKnob Tryz.prog.godebug=none:=by kernel_rfl
theorem Tryz.laidOut:laidOutB Tryz.prog=true:=by kernel_rfl
theorem undBool:Tryz.prog.underlying 4=some .bool:=by kernel_rfl
theorem und3':Tryz.prog.underlying 3=some (.int .i64):=by kernel_rfl
theorem und9':Tryz.prog.underlying 9=some .string:=by kernel_rfl
theorem und22:Tryz.prog.underlying 22=some (.slice 3):=by kernel_rfl
theorem und23:Tryz.prog.underlying 23=some (.slice 47):=by kernel_rfl
theorem und24:Tryz.prog.underlying 24=some (.slice 41):=by kernel_rfl
theorem und25:Tryz.prog.underlying 25=some (.slice 43):=by kernel_rfl
theorem und26:Tryz.prog.underlying 26=some (.slice 64):=by kernel_rfl
theorem und45:Tryz.prog.underlying 45=some (.slice 61):=by kernel_rfl
theorem und62:Tryz.prog.underlying 62=some (.slice 66):=by kernel_rfl
def fields28 : Array Field := #[⟨ "Day",3,0,false, "", "",0⟩, ⟨ "Cash",22,1,false, "", "",8⟩, ⟨ "Purses",22,2,false, "", "",32⟩, ⟨ "Outside",3,3,false, "", "",56⟩, ⟨ "Lines",23,4,false, "", "",64⟩, ⟨ "Facts",24,5,false, "", "",88⟩, ⟨ "Payments",25,6,false, "", "",112⟩, ⟨ "Proposals",26,7,false, "", "",136⟩]
theorem und28:Tryz.prog.underlying 28=some (.struct fields28):=by kernel_rfl
def fields41 : Array Field := #[⟨ "Issuer",3,0,false, "", "",0⟩, ⟨ "Name",9,1,false, "", "",8⟩, ⟨ "Period",3,2,false, "", "",24⟩, ⟨ "Value",3,3,false, "", "",32⟩, ⟨ "Day",3,4,false, "", "",40⟩]
theorem und41:Tryz.prog.underlying 41=some (.struct fields41):=by kernel_rfl
def fields43 : Array Field := #[⟨ "Issue",3,0,false, "", "",0⟩, ⟨ "Seat",3,1,false, "", "",8⟩, ⟨ "Day",3,2,false, "", "",16⟩, ⟨ "Due",3,3,false, "", "",24⟩, ⟨ "Paid",3,4,false, "", "",32⟩, ⟨ "Period",3,5,false, "", "",40⟩]
theorem und43:Tryz.prog.underlying 43=some (.struct fields43):=by kernel_rfl
def fields47 : Array Field := #[⟨ "Text",9,0,false, "", "",0⟩, ⟨ "Units",22,1,false, "", "",16⟩, ⟨ "Noted",22,2,false, "", "",40⟩, ⟨ "NotedAt",3,3,false, "", "",64⟩, ⟨ "Stages",45,4,false, "", "",72⟩, ⟨ "Fast",3,5,false, "", "",96⟩, ⟨ "Called",3,6,false, "", "",104⟩, ⟨ "Price",3,7,false, "", "",112⟩, ⟨ "Ended",4,8,false, "", "",120⟩, ⟨ "Since",3,9,false, "", "",128⟩]
theorem und47:Tryz.prog.underlying 47=some (.struct fields47):=by kernel_rfl
def fields61 : Array Field := #[⟨ "Stage",3,0,false, "", "",0⟩, ⟨ "Since",3,1,false, "", "",8⟩]
theorem und61:Tryz.prog.underlying 61=some (.struct fields61):=by kernel_rfl
def fields66 : Array Field := #[⟨ "Seat",3,0,false, "", "",0⟩, ⟨ "Day",3,1,false, "", "",8⟩, ⟨ "Yes",4,2,false, "", "",16⟩]
theorem und66:Tryz.prog.underlying 66=some (.struct fields66):=by kernel_rfl
def fields64 : Array Field := #[⟨ "Issue",3,0,false, "", "",0⟩, ⟨ "Text",9,1,false, "", "",8⟩, ⟨ "Day",3,2,false, "", "",24⟩, ⟨ "Units",22,3,false, "", "",32⟩, ⟨ "Votes",62,4,false, "", "",56⟩, ⟨ "Closed",4,5,false, "", "",80⟩]
theorem und64:Tryz.prog.underlying 64=some (.struct fields64):=by kernel_rfl
abbrev rInt:List AV→Prop:=fun l=>∃ n,(IntKind.i64.min≤n∧n≤IntKind.i64.max)∧l=[.int .i64 n]
abbrev rStr:List AV→Prop:=fun l=>∃ s:List UInt8,s.length≤9223372036854775807∧l=[.str s]
theorem oInt:OpensR Tryz.prog 3 1 rInt:=opensR_int und3' zp9
theorem oStr:OpensR Tryz.prog 9 1 rStr:=opensR_str und9' zp9
theorem oBool:OpensR Tryz.prog 4 1 (fun l=>∃ b,l=[.bool b]):=opensR_bool undBool zp9
instance:Inhabited Brc:=⟨br0⟩
instance:Inhabited Vot:=⟨vo0⟩
instance:Inhabited Fac:=⟨fa0⟩
instance:Inhabited Pay:=⟨pa0⟩
instance:Inhabited Lin:=⟨li0⟩
instance:Inhabited Pro:=⟨pr0⟩
theorem oInts:OpensR Tryz.prog 22 1 (fun l=>∃ xs:List Int,(∀ a∈xs,True)∧xs.length≤9223372036854775807∧l=[.sl 1 encI 0 xs]) :=
 opensR_slice 0 und22 zp9 oInt (by decide) (fun l hl=>by
  obtain ⟨n,_,rfl⟩:=hl
  exact ⟨n,trivial,rfl⟩) (fun _=>rfl)
theorem oBrs:OpensR Tryz.prog 45 1 (fun l=>∃ xs:List Brc,(∀ a∈xs,True)∧xs.length≤9223372036854775807∧l=[.sl 2 encBr br0 xs]) :=
 opensR_slice br0 und45 zp9 (opensR_struct und61 zp9 (Rs:=[(1,_),(1,_)]) ⟨rfl,oInt,rfl,oInt,rfl⟩) (by decide) (fun l hl=>by
  obtain ⟨_,_,⟨n0,_,rfl⟩,⟨_,_,⟨n1,_,rfl⟩,rfl,rfl⟩,rfl⟩:=hl
  exact ⟨⟨n0,n1⟩,trivial,rfl⟩) (fun _=>rfl)
theorem oVos:OpensR Tryz.prog 62 1 (fun l=>∃ xs:List Vot,(∀ a∈xs,True)∧xs.length≤9223372036854775807∧l=[.sl 3 encVo vo0 xs]) :=
 opensR_slice vo0 und62 zp9 (opensR_struct und66 zp9 (Rs:=[(1,_),(1,_),(1,_)]) ⟨rfl,oInt,rfl,oInt,rfl,oBool,rfl⟩) (by decide) (fun l hl=>by
  obtain ⟨_,_,⟨n0,_,rfl⟩,⟨_,_,⟨n1,_,rfl⟩,⟨_,_,⟨n2,rfl⟩,rfl,rfl⟩,rfl⟩,rfl⟩:=hl
  exact ⟨⟨n0,n1,n2⟩,trivial,rfl⟩) (fun _=>rfl)
theorem oFas:OpensR Tryz.prog 24 1 (fun l=>∃ xs:List Fac,(∀ a∈xs,a.name.length≤9223372036854775807)∧xs.length≤9223372036854775807∧l=[.sl 5 encFa fa0 xs]) :=
 opensR_slice fa0 und24 zp9 (opensR_struct und41 zp9 (Rs:=[(1,_),(1,_),(1,_),(1,_),(1,_)]) ⟨rfl,oInt,rfl,oStr,rfl,oInt,rfl,oInt,rfl,oInt,rfl⟩) (by decide) (fun l hl=>by
  obtain ⟨_,_,⟨n0,_,rfl⟩,⟨_,_,⟨n1,h1,rfl⟩,⟨_,_,⟨n2,_,rfl⟩,⟨_,_,⟨n3,_,rfl⟩,⟨_,_,⟨n4,_,rfl⟩,rfl,rfl⟩,rfl⟩,rfl⟩,rfl⟩,rfl⟩:=hl
  exact ⟨⟨n0,n1,n2,n3,n4⟩,h1,rfl⟩) (fun _=>rfl)
theorem oPas:OpensR Tryz.prog 25 1 (fun l=>∃ xs:List Pay,(∀ a∈xs,True)∧xs.length≤9223372036854775807∧l=[.sl 6 encPa pa0 xs]) :=
 opensR_slice pa0 und25 zp9 (opensR_struct und43 zp9 (Rs:=[(1,_),(1,_),(1,_),(1,_),(1,_),(1,_)]) ⟨rfl,oInt,rfl,oInt,rfl,oInt,rfl,oInt,rfl,oInt,rfl,oInt,rfl⟩) (by decide) (fun l hl=>by
  obtain ⟨_,_,⟨n0,_,rfl⟩,⟨_,_,⟨n1,_,rfl⟩,⟨_,_,⟨n2,_,rfl⟩,⟨_,_,⟨n3,_,rfl⟩,⟨_,_,⟨n4,_,rfl⟩,⟨_,_,⟨n5,_,rfl⟩,rfl,rfl⟩,rfl⟩,rfl⟩,rfl⟩,rfl⟩,rfl⟩:=hl
  exact ⟨⟨n0,n1,n2,n3,n4,n5⟩,trivial,rfl⟩) (fun _=>rfl)
theorem oLis:OpensR Tryz.prog 23 1 (fun l=>∃ xs:List Lin,(∀ a∈xs,a.text.length≤9223372036854775807∧a.units.length≤9223372036854775807∧a.noted.length≤9223372036854775807∧a.stages.length≤9223372036854775807)∧xs.length≤9223372036854775807∧l=[.sl 10 encLi li0 xs]) :=
 opensR_slice li0 und23 zp9 (opensR_struct und47 zp9 (Rs:=[(1,_),(1,_),(1,_),(1,_),(1,_),(1,_),(1,_),(1,_),(1,_),(1,_)]) ⟨rfl,oStr,rfl,oInts,rfl,oInts,rfl,oInt,rfl,oBrs,rfl,oInt,rfl,oInt,rfl,oInt,rfl,oBool,rfl,oInt,rfl⟩) (by decide) (fun l hl=>by
  obtain ⟨_,_,⟨n0,h0,rfl⟩,⟨_,_,⟨n1,_,h1,rfl⟩,⟨_,_,⟨n2,_,h2,rfl⟩,⟨_,_,⟨n3,_,rfl⟩,⟨_,_,⟨n4,_,h4,rfl⟩,⟨_,_,⟨n5,_,rfl⟩,⟨_,_,⟨n6,_,rfl⟩,⟨_,_,⟨n7,_,rfl⟩,⟨_,_,⟨n8,rfl⟩,⟨_,_,⟨n9,_,rfl⟩,rfl,rfl⟩,rfl⟩,rfl⟩,rfl⟩,rfl⟩,rfl⟩,rfl⟩,rfl⟩,rfl⟩,rfl⟩:=hl
  exact ⟨⟨n0,n1,n2,n3,n4,n5,n6,n7,n8,n9⟩,⟨h0,h1,h2,h4⟩,rfl⟩) (fun _=>rfl)
theorem oPrs:OpensR Tryz.prog 26 1 (fun l=>∃ xs:List Pro,(∀ a∈xs,a.text.length≤9223372036854775807∧a.units.length≤9223372036854775807∧a.votes.length≤9223372036854775807)∧xs.length≤9223372036854775807∧l=[.sl 6 encPr pr0 xs]) :=
 opensR_slice pr0 und26 zp9 (opensR_struct und64 zp9 (Rs:=[(1,_),(1,_),(1,_),(1,_),(1,_),(1,_)]) ⟨rfl,oInt,rfl,oStr,rfl,oInt,rfl,oInts,rfl,oVos,rfl,oBool,rfl⟩) (by decide) (fun l hl=>by
  obtain ⟨_,_,⟨n0,_,rfl⟩,⟨_,_,⟨n1,h1,rfl⟩,⟨_,_,⟨n2,_,rfl⟩,⟨_,_,⟨n3,_,h3,rfl⟩,⟨_,_,⟨n4,_,h4,rfl⟩,⟨_,_,⟨n5,rfl⟩,rfl,rfl⟩,rfl⟩,rfl⟩,rfl⟩,rfl⟩,rfl⟩:=hl
  exact ⟨⟨n0,n1,n2,n3,n4,n5⟩,⟨h1,h3,h4⟩,rfl⟩) (fun _=>rfl)
abbrev rSta:List AV→Prop:=fun l=>∃ s:Sta,OkS s∧l=(encSt s).cells
theorem oSta:OpensR Tryz.prog 28 8 rSta:=by
 refine (opensR_struct und28 zp9 (Rs:=[(1,_),(1,_),(1,_),(1,_),(1,_),(1,_),(1,_),(1,_)]) ⟨rfl,oInt,rfl,oInts,rfl,oInts,rfl,oInt,rfl,oLis,rfl,oFas,rfl,oPas,rfl,oPrs,rfl⟩).mono fun l hl=>?_
 obtain ⟨_,_,⟨n0,_,rfl⟩,⟨_,_,⟨n1,_,h1,rfl⟩,⟨_,_,⟨n2,_,h2,rfl⟩,⟨_,_,⟨n3,_,rfl⟩,⟨_,_,⟨n4,k4,h4,rfl⟩,⟨_,_,⟨n5,k5,h5,rfl⟩,⟨_,_,⟨n6,_,h6,rfl⟩,⟨_,_,⟨n7,k7,h7,rfl⟩,rfl,rfl⟩,rfl⟩,rfl⟩,rfl⟩,rfl⟩,rfl⟩,rfl⟩,rfl⟩:=hl
 exact ⟨⟨n0,n1,n2,n3,n4,n5,n6,n7⟩,⟨h1,h2,h4,h5,h6,h7,k4,k5,k7⟩,rfl⟩
theorem vSta:OpV Tryz.prog 28 (fun a=>∃ s:Sta,OkS s∧a=encSt s) :=
 OpV.mono (opV_struct und28 oSta) fun a ⟨l,⟨x,h,hl⟩,ha⟩=>⟨x,h,by rw [ha,hl];rfl⟩
abbrev laidL:List (String×DataW Unit):=Rows.stateBackRow.laid
noncomputable def laidWorld (os:Os):World:=World.laidAll Tryz.prog os laidL
theorem laid_met (os:Os) (args:Array Value):laidMet Tryz.prog laidL ((laidWorld os).forCall (fun _ _=>0) ⟨#[],args,[]⟩).memory :=
 laidMet_laidAll args zp9 zp9
theorem var_block {P:Program} {w:World} {n:String} {g:Nat} {cs:Array Value} (hg:P.globalNamed n=some g) (h:w.var? P n=some cs):∃ e fz,w.heap[g]?=some (.cells cs e fz):=by
 unfold World.var? at h
 rw [hg] at h
 simp only [Option.bind_some] at h
 split at h
 ·rename_i c e fz hh
  cases h
  exact ⟨_,_,hh⟩
 ·cases h
theorem trod_one {P:Program} {w:World} {base:Nat} {sp:Nat→Bool} {held:Bool} {fuel:Nat} {e:TypeId} {c:List Value} {s:List UInt8} {q:List MemPlace} (he:P.underlying e=some .string)
  (h:DataW.trod (fun _=>()) P w base sp held fuel e c=some (.lit (.string s),q)):c=[.string ⟨s.toArray⟩]:=by
 cases fuel with
 | zero=>simp [DataW.trod] at h
 | succ fuel =>
  simp only [DataW.trod,he] at h
  split at h<;>simp_all
  rename_i x hx
  rw [← h.2.1]
theorem cells_of_strs {P:Program} {w:World} {base:Nat} {sp:Nat→Bool} {held:Bool} {fuel:Nat} {t e:TypeId} {n:Nat} {cs:List Value} {ss:List (List UInt8)} {p:List MemPlace}
  (ht:P.underlying t=some (.array n e)) (he:P.underlying e=some .string) (hce:P.cellsOf e=1) (hct:P.cellsOf t=n)
  (h:DataW.trod (fun _=>()) P w base sp held fuel t cs=some (.agg (ss.map fun s=>.lit (.string s)),p)):cs=ss.map fun s=>Value.string ⟨s.toArray⟩:=by
 cases fuel with
 | zero=>simp [DataW.trod] at h
 | succ fuel =>
  simp only [DataW.trod,ht,hce,hct,Nat.mul_one] at h
  split at h
  ·rename_i hl
   obtain ⟨xs,hm,hx⟩:=Option.map_eq_some_iff.1 h
   have hxs:xs.map (·.1)=ss.map fun s=>(DataW.lit (.string s):DataW Unit):=by
    have:=congrArg Prod.fst hx
    simpa using this
   have hxl:xs.length=n:=by simpa using Lib.mapM_length hm
   have hzl:ss.length=n:=by
    have:=congrArg List.length hxs
    simp at this
    omega
   apply List.ext_getElem?
   intro i
   by_cases hi:i<n
   ·obtain ⟨b,hb,hf⟩:=Lib.mapM_at hm i i (by simp [hi])
    have h2:(xs.map (·.1))[i]?=some b.1:=by simp [hb]
    rw [hxs] at h2
    simp only [List.getElem?_map,Option.map_eq_some_iff] at h2
    obtain ⟨s,hs,hsb⟩:=h2
    have hc:=trod_one he (show _=some (DataW.lit (.string s),b.2) by rw [hsb];exact hf)
    have h1:cs[i]?=some (.string ⟨s.toArray⟩):=by
     have:=congrArg (·[0]?) hc
     simpa [List.getElem?_take,List.getElem?_drop] using this
    simp [h1,hs]
   ·rw [List.getElem?_eq_none (by omega),List.getElem?_eq_none zp21]
  ·cases h
theorem laid_tabs (W:World) (h:laidMet Tryz.prog laidL W):TabAt (All W) W:=by
 obtain ⟨ps,⟨g1,t1,c1,f1,p1,q1,hg1,ht1,hv1,hd1,⟨g2,t2,c2,f2,p2,q2,hg2,ht2,hv2,hd2,⟨g3,t3,c3,f3,p3,q3,hg3,ht3,hv3,hd3,⟨g4,t4,c4,f4,p4,q4,hg4,ht4,hv4,hd4,⟨g5,t5,c5,f5,p5,q5,hg5,ht5,hv5,hd5,⟨g6,t6,c6,f6,p6,q6,hg6,ht6,hv6,hd6,hnil,e6⟩,e5⟩,e4⟩,e3⟩,e2⟩,e1⟩,_,_⟩:=h
 have k3 : Tryz.prog.globalNamed "internal/strconv.uint64pow10" = some 4 := by kernel_rfl
 have k4 : Tryz.prog.globalNamed "strconv.ErrRange" = some 3 := by kernel_rfl
 have k5 : Tryz.prog.globalNamed "strconv.ErrSyntax" = some 2 := by kernel_rfl
 have k6 : Tryz.prog.globalNamed "consol/lex.signs" = some 0 := by kernel_rfl
 obtain ⟨b3,z3,h3⟩:=var_block k3 hv3
 obtain ⟨b4,z4,h4⟩:=var_block k4 hv4
 obtain ⟨b5,z5,h5⟩:=var_block k5 hv5
 obtain ⟨b6,z6,h6⟩:=var_block k6 hv6
 obtain rfl:=Option.some.inj (k3.symm.trans hg3)
 obtain rfl:=Option.some.inj (k4.symm.trans hg4)
 obtain rfl:=Option.some.inj (k5.symm.trans hg5)
 obtain rfl:=Option.some.inj (k6.symm.trans hg6)
 have T3:(Tryz.prog.globals[4]?).map (·.type)=some t3:=ht3
 have T4:(Tryz.prog.globals[3]?).map (·.type)=some t4:=ht4
 have T5:(Tryz.prog.globals[2]?).map (·.type)=some t5:=ht5
 have T6:(Tryz.prog.globals[0]?).map (·.type)=some t6:=ht6
 have err:∀ {t:Nat} {cs:Array Value} {fuel:Nat} {nm:String} {d:DataW Unit} {p:List MemPlace} {g:Nat},(Tryz.prog.globals[g]?).map (·.type)=some t→(g=2∨g=3)→DataW.trod (fun _=>()) Tryz.prog W 0 (fun _=>true) false fuel t cs.toList=some (.iface nm d,p)→isErr cs:=by
  intro t cs fuel nm d p g hT hg hd
  have hu:∃ ms,Tryz.prog.underlying t=some (.interface ms):=by
   rcases hg with rfl | rfl
   ·obtain rfl:=Option.some.inj ((show (Tryz.prog.globals[2]?).map (·.type)=some 175 by kernel_rfl).symm.trans hT)
    exact ⟨#[("Error", 77)], by kernel_rfl⟩
   ·obtain rfl:=Option.some.inj ((show (Tryz.prog.globals[3]?).map (·.type)=some 175 by kernel_rfl).symm.trans hT)
    exact ⟨#[("Error", 77)], by kernel_rfl⟩
  obtain ⟨ms,hu⟩:=hu
  obtain ⟨_,u,v,hcs,_⟩:=iface_of_trod hu hd
  refine ⟨u,v,?_⟩
  rw [← Array.getElem?_toList,hcs]
  rfl
 have i4:=err T4 (.inr rfl) hd4
 have i5:=err T5 (.inl rfl) hd5
 have lt:∀ {g:Nat} {o:Obj},W.heap[g]?=some o→g<W.heap.size:=fun h=>(Array.getElem?_eq_some_iff.1 h).1
 intro g Q hQ
 match g,hQ with
 | 0,hQ =>
  cases hQ
  refine ⟨lt h6,c6,b6,z6,h6,?_⟩
  obtain rfl:=Option.some.inj ((show (Tryz.prog.globals[0]?).map (·.type)=some 241 by kernel_rfl).symm.trans T6)
  have:=cells_of_strs (ss:=signs) (n:=11) (e:=9) zp9 zp9 zp9 zp9 (show _=some (DataW.agg (signs.map fun s=>DataW.lit (.string s)),p6) from hd6)
  show c6=_
  rw [← this]
 | 2,hQ =>
  cases hQ
  exact ⟨lt h5,c5,b5,z5,h5,i5⟩
 | 3,hQ =>
  cases hQ
  exact ⟨lt h4,c4,b4,z4,h4,i4⟩
 | 4,hQ =>
  cases hQ
  refine ⟨lt h3,c3,b3,z3,h3,?_⟩
  obtain rfl:=Option.some.inj ((show (Tryz.prog.globals[4]?).map (·.type)=some 273 by kernel_rfl).symm.trans T3)
  have:=Lib.cells_of_tab (k:=.u64) (zs:=Lib.pow10Tab) (n:=20) (e:=259) zp9 zp9 zp9 zp9 (show _=some (Lib.tabData .u64 Lib.pow10Tab,p3) from hd3)
  show c3=_
  rw [← this]
def lowP (K:Nat) (a:AV):Blocks→World→Value→Prop:=fun S w v =>
 RelT (fun b=>S b∧K<b) w v a∧∀ g,blk v=some g→S g∧K<g∧∃ cs e,w.heap[g]?=some (.cells cs e (0,0))
def plainA (a:AV):Prop:=(∃ k n,a=.int k n)∨∃ b,a=.bool b
theorem plain_free {S S':Blocks} {w w':World} {v:Value} {a:AV} (hp:plainA a) (h:RelT S w v a):RelT S' w' v a:=by
 rcases hp with ⟨k,n,rfl⟩ | ⟨b,rfl⟩
 ·cases h;exact .int _ _
 ·cases h;exact .bool _
theorem low_row {S S':Blocks} {w:World} {K:Nat} {v:Value} {e E:Nat} {X:Type} {enc:X→AV} {d:X} {xs:List X} {vs:List Value} (h:RowRel S w e E (xs.map enc) v vs) (hp:∀ a∈flat (xs.map enc),plainA a)
  (hK:∀ g,blk v=some g→K<g∧S' g) (h1:v.oneCell'=true):RelT S' w v (.sem (lowP K (.sl E enc d xs))):=by
 have hr:RowRel (fun _=>False) w e E (xs.map enc) v vs:=⟨h.owns,h.size,h.ones,fun j c a hj ha=>plain_free (hp a (List.mem_of_getElem? ha)) (h.rel j c a hj ha)⟩
 have ht:RelT (fun b=>blk v=some b) w v (.sl E enc d xs):=.sl _ _ _ _ _ (hr.lent (fun g hg=>hg.elim) fun g hg=>hg)
 have hc:∀ g,blk v=some g→∃ cs e,w.heap[g]?=some (.cells cs e (0,0)):=by
  intro g hg
  obtain ⟨hlen,ho⟩:=h.owns
  rcases ho with ⟨rfl,h0⟩ | ⟨g',cap,cur,rfl,_,hh,hnc,hcm,hcs,htake⟩
  ·cases hg
  ·cases hg
   exact ⟨_,_,hh⟩
 refine .sem _ _ h1 fun S2 w2 hS2 hw2=>⟨ht.mono (fun g hg=>⟨hS2 g (hK g hg).2,(hK g hg).1⟩) (fun g hg=>hw2 g (hK g hg).2),fun g hg=>⟨hS2 g (hK g hg).2,(hK g hg).1,?_⟩⟩
 obtain ⟨cs,e',hh⟩:=hc g hg
 exact ⟨cs,e',(hw2 g (hK g hg).2).trans hh⟩
theorem tabAt_le {T T0:Tabs} (hT:∀ g Q,T0.held g=some Q→T.held g=some Q) {S:Blocks} {w:World} (h:@TabAt T S w):@TabAt T0 S w:=fun g Q hg=>h g Q (hT g Q hg)
theorem tab_pure {T T0:Tabs} (hT:∀ g Q,T0.held g=some Q→T.held g=some Q) {P:Program} {f:FuncId} {args:List AV} {R:List AR→Prop} (hc:@APure T0 P f args R):@APure T P f args R :=
 ⟨hc.1,fun S w vs hS hTa hv=>hc.2 S w vs hS (tabAt_le hT hTa) hv⟩
theorem row_enc {T:Tabs} {P:Program} {f:FuncId} {args:List AV} {e E:Nat} {X Y:Type} {enc:X→AV} {d:X} {xs:List X} {enc':Y→AV} {d':Y} {ys:List Y} (hm:xs.map enc=ys.map enc')
  (hc:APure P f args (fun rs=>rs=[.new (.row e E enc d xs)])):APure P f args (fun rs=>rs=[.new (.row e E enc' d' ys)]):=by
 refine ⟨hc.1,fun S w vs hS hTa hv=>(hc.2 S w vs hS hTa hv).mono fun _ _ ⟨us,rs,S',he,hR,hL⟩=>⟨us,[.new (.row e E enc' d' ys)],S',he,rfl,?_⟩⟩
 subst hR
 refine ⟨hL.len,fun j u r hu hr=>?_,hL.below,hL.ros,hL.fresh,hL.lt,fun i u b k hu hb hk=>?_⟩
 ·cases j with
  | zero =>
   simp only [List.getElem?_cons_zero,Option.some.injEq] at hr
   subst hr
   obtain ⟨h1,h2,h3⟩:=hL.rel 0 u _ hu rfl
   refine ⟨rfl,h2,fun n=>?_⟩
   obtain ⟨v,vs',h4,h5⟩:∃ v vs',(fun i=>if i=n then some u else none) n=some v∧RowRel S' _ e E (xs.map enc) v vs':=h3 n
   exact ⟨v,vs',h4,hm ▸ h5⟩
  | succ j=>simp at hr
 ·cases i with
  | zero =>
   obtain ⟨h1,h2⟩:=hL.apart 0 u _ k hu rfl hk
   refine ⟨h1,fun j u' b' hu' hb' hk'=>?_⟩
   cases j with
   | zero=>rfl
   | succ j=>simp at hb'
  | succ i=>simp at hb
theorem low_of {T T0:Tabs} {K:Nat} (hK:T.held K=some (fun _=>True)) (hT:∀ g Q,T0.held g=some Q→T.held g=some Q) {P:Program} {f:FuncId} {args:List AV} {e E:Nat} {X:Type} {enc:X→AV} {d:X} {xs:List X}
  (hp:∀ a∈flat (xs.map enc),plainA a) (hc:@APure T0 P f args (fun rs=>rs=[.new (.row e E enc d xs)])):@APure T P f args (fun rs=>rs=[.val (.sem (lowP K (.sl E enc d xs)))]):=by
 refine ⟨hc.1,fun S w vs hS hTa hv=>(hc.2 S w vs hS (tabAt_le hT hTa) hv).mono fun _ w' ⟨us,rs,S',he,hR,hL⟩=>?_⟩
 subst hR
 have hKs:K<w.heap.size:=hS K (hTa K _ hK).1
 have hl:=hL.len
 match us,hl with
 | [u],_ =>
  obtain ⟨h1,h2,h3⟩:=hL.rel 0 u _ rfl rfl
  obtain ⟨v,vs',hv',hrow⟩:∃ v vs',(fun i=>if i=0 then some u else none) 0=some v∧RowRel S' w' e E (xs.map enc) v vs':=h3 0
  simp only [if_true,Option.some.injEq] at hv'
  subst hv'
  refine ⟨[u],_,fun g=>S' g∨blk u=some g,he,rfl,⟨rfl,fun j u' r hu hr=>?_,hL.below,fun g hg=>.inl (hL.ros g hg),fun g hg=>?_,fun g hg=>?_,fun i u' b k hu hb hk=>?_⟩⟩
  ·cases j with
   | zero =>
    simp only [List.getElem?_cons_zero,Option.some.injEq] at hu hr
    subst hu hr
    refine low_row hrow hp (fun g hg=>⟨by have:=h2 g hg;omega,.inr hg⟩) ?_
    obtain ⟨hlen,ho⟩:=hrow.owns
    rcases ho with ⟨rfl,h0⟩ | ⟨g',cap,cur,rfl,_,hh,hnc,hcm,hcs,htake⟩<;>rfl
   | succ j=>simp at hu
  ·rcases hg with hg | hg
   ·exact hL.fresh g hg
   ·exact .inr (h2 g hg)
  ·rcases hg with hg | hg
   ·exact hL.lt g hg
   ·obtain ⟨hlen,ho⟩:=hrow.owns
    rcases ho with ⟨rfl,h0⟩ | ⟨g',cap,cur,rfl,_,hh,hnc,hcm,hcs,htake⟩
    ·cases hg
    ·cases hg
     exact (Array.getElem?_eq_some_iff.1 hh).1
  ·cases i with
   | zero=>simp at hb
   | succ i=>simp at hb
def lf (K:Nat) (b:Bool) (a:AV):AV:=match b with
 | true=>.sem (lowP K a)
 | false=>a
def LB {A X:Type} (t f:A) (k:Nat) (l:List X):List (A×X):=(l.take k).map (fun x=>(t,x))++(l.drop k).map (fun x=>(f,x))
theorem LB_len {A X:Type} (t f:A) (k:Nat) (l:List X):(LB t f k l).length=l.length:=by
 unfold LB
 simp only [List.length_append,List.length_map,List.length_take,List.length_drop]
 omega
theorem LB_at {A X:Type} {t f:A} {d:A×X} {k:Nat} {l:List X} {d':X} (h:k<l.length):(LB t f k l).getD k d=(f,l.getD k d'):=by
 unfold LB
 rw [List.getD_eq_getElem?_getD,List.getElem?_append_right zp21,List.getElem?_map,List.getElem?_drop,List.getD_eq_getElem?_getD]
 have e:k+(k-((l.take k).map fun x=>(t,x)).length)=k:=by
  rw [List.length_map,List.length_take]
  omega
 rw [e,List.getElem?_eq_getElem h]
 rfl
theorem LB_set {A X:Type} {t f:A} {k:Nat} {l:List X} {d':X} (h:k<l.length):(LB t f k l).set k (t,l.getD k d')=LB t f (k+1) l:=by
 unfold LB
 have e:(l.take k).length=k:=by rw [List.length_take];omega
 rw [List.set_append_right _ _ (by rw [List.length_map,e];exact Nat.le_refl _),List.length_map,e,Nat.sub_self,List.drop_eq_getElem_cons h,List.map_cons,List.set_cons_zero,List.take_succ_eq_append_getElem h,List.map_append,List.getD_eq_getElem?_getD,List.getElem?_eq_getElem h]
 simp
theorem LB_zero {A X:Type} (t f:A) (l:List X):LB t f 0 l=l.map (fun x=>(f,x)):=by unfold LB;simp
theorem LB_end {A X:Type} (t f:A) (l:List X):LB t f l.length l=l.map (fun x=>(t,x)):=by unfold LB;simp
theorem set_at {X:Type} {l:List X} {k:Nat} {y d:X} (h:k<l.length):(l.set k y).getD k d=y:=by
 rw [List.getD_eq_getElem?_getD,List.getElem?_set_self h]
 rfl
abbrev LT:=(Bool×Bool×Bool)×Lin
def encLiB (K:Nat) (p:LT):AV:=.agg [.str p.2.text,lf K p.1.1 (.sl 1 encI 0 p.2.units),lf K p.1.2.1 (.sl 1 encI 0 p.2.noted),.int .i64 p.2.notedAt,lf K p.1.2.2 (.sl 2 encBr br0 p.2.stages),.int .i64 p.2.fast,.int .i64 p.2.called,.int .i64 p.2.price,.bool p.2.ended,.int .i64 p.2.since]
def lb0:LT:=((false,false,false),li0)
abbrev PT:=(Bool×Bool)×Pro
def encPrB (K:Nat) (p:PT):AV:=.agg [.int .i64 p.2.issue,.str p.2.text,.int .i64 p.2.day,lf K p.1.1 (.sl 1 encI 0 p.2.units),lf K p.1.2 (.sl 3 encVo vo0 p.2.votes),.bool p.2.closed]
def pb0:PT:=((false,false),pr0)
abbrev LL (k:Nat) (l:List Lin):List LT:=LB (true,true,true) (false,false,false) k l
abbrev PP (k:Nat) (l:List Pro):List PT:=LB (true,true) (false,false) k l
theorem plain_I (l:List Int):∀ a∈flat (l.map encI),plainA a:=by
 intro a ha
 obtain ⟨x,hx,ha⟩:=List.mem_flatMap.1 ha
 obtain ⟨n,_,rfl⟩:=List.mem_map.1 hx
 simp only [encI,AV.cells,List.mem_singleton] at ha
 exact .inl ⟨_,_,ha⟩
theorem plain_Br (l:List Brc):∀ a∈flat (l.map encBr),plainA a:=by
 intro a ha
 obtain ⟨x,hx,ha⟩:=List.mem_flatMap.1 ha
 obtain ⟨n,_,rfl⟩:=List.mem_map.1 hx
 simp only [encBr,AV.cells,List.mem_cons,List.not_mem_nil,or_false] at ha
 rcases ha with rfl | rfl<;>exact .inl ⟨_,_,rfl⟩
theorem plain_Vo (l:List Vot):∀ a∈flat (l.map encVo),plainA a:=by
 intro a ha
 obtain ⟨x,hx,ha⟩:=List.mem_flatMap.1 ha
 obtain ⟨n,_,rfl⟩:=List.mem_map.1 hx
 simp only [encVo,AV.cells,List.mem_cons,List.not_mem_nil,or_false] at ha
 rcases ha with rfl | rfl | rfl
 ·exact .inl ⟨_,_,rfl⟩
 ·exact .inl ⟨_,_,rfl⟩
 ·exact .inr ⟨_,rfl⟩
abbrev objL (K:Nat) (s:Sta):List AB:=[.cells 28 (celOwn s),.row 3 1 encI 0 s.cash,.row 3 1 encI 0 s.purses,.row 41 5 encFa fa0 s.facts,.row 43 6 encPa pa0 s.payments,.row 47 10 (encLiB K) lb0 (s.lines.map fun x=>((true,true,true),x)),.row 64 6 (encPrB K) pb0 (s.proposals.map fun x=>((true,true),x))]
abbrev tab0:Tabs:=inferInstance
theorem zp35 {p:Prop} (h:p:=by first | exact .row _ _ _ _ _ _ _ rfl hup | exact .lstrow _ _ _ _ _ _ _ rfl hup | exact .nilrow _ _ _ _ _ hup | exact .truncrow _ _ _ _ _ _ _ _ rfl om0 hup):p:=h
theorem copy_low [T:Tabs] {K:Nat} (hK:T.held K=some (fun _=>True)) (hT:∀ g Q,tab0.held g=some Q→T.held g=some Q) (s:Sta) (h:OkC s) :
  RIO Tryz.prog 18 [encSt s] [] 0 (fun vs bs es=>vs=[.agg (celOwn s)]∧bs=[]∧es=objL K s):=by
 have g1:=tab_pure hT (cl108 s.cash h.cash)
 have g2:=tab_pure hT (cl108 s.purses h.purses)
 have g3:=tab_pure hT (cl109 s.facts h.facts)
 have g4:=tab_pure hT (cl110 s.payments h.payments)
 have g5:=row_enc (enc':=encLiB K) (d':=lb0) (ys:=LL 0 s.lines) (by show _=List.map (encLiB K) (LB _ _ 0 s.lines);rw [LB_zero,List.map_map];rfl) (tab_pure hT (cl111 s.lines h.lines))
 have g6:=row_enc (enc':=encPrB K) (d':=pb0) (ys:=PP 0 s.proposals) (by show _=List.map (encPrB K) (LB _ _ 0 s.proposals);rw [LB_zero,List.map_map];rfl) (tab_pure hT (cl112 s.proposals h.proposals))
 refine rO (cxPOk 0 94 [0,1,2,3,4,5,6,33,34,35,68,69,70]) Tryz.func18 ?_
 conv=>whnf
 refine .eff ad0 (cW ?_)
 refine cO (fun _=>g1) (cW ?_)
 refine cO (fun _=>g2) (cW ?_)
 refine cO (fun _=>g3) (cW ?_)
 refine cO (fun _=>g4) (cW ?_)
 refine ⟨by kernel_rfl,(cW ?_)⟩
 refine .eff ad0 (cW ?_)
 refine cO (fun _=>g5) (cW ?_)
 refine cO (fun _=>g6) (cW ?_)
 refine ⟨by kernel_rfl,(cW ?_)⟩
 have hl:=h.lines
 refine loop_up (cxPOk _ _ _) s.lines.length (fun _=>True) (fun k=>⟨[(1,.ptr 0 0),(2,.ptr 1 0),(33,.int .i64 (s.lines.length:Nat)),(34,.int .i64 (k:Nat))],[(0,.cells 28 [.int .i64 s.day,.own 2,.own 3,.int .i64 s.outside,.own 6,.own 4,.own 5,.own 7]),(1,.cells 28 (celSt st0)),(2,.row 3 1 encI 0 s.cash),(3,.row 3 1 encI 0 s.purses),(4,.row 41 5 encFa fa0 s.facts),(5,.row 43 6 encPa pa0 s.payments),(6,.row 47 10 (encLiB K) lb0 (LL k s.lines)),(7,.row 64 6 (encPrB K) pb0 (PP 0 s.proposals))],8⟩) trivial (by exact (wk_of [(0,.id 0),(1,.id 1),(2,.id 2),(3,.id 3),(4,.id 4),(5,.id 5),(6,.id 6),(7,.id 7)] rfl ⟨wc0,wc0,.base (.tree _ _ (show AV.int .i64 _=AV.int .i64 _ by rw [LB_len]) rfl),wa0,trivial⟩ ⟨wd0,⟨_,rfl,.cells _ _ _ _ rfl zp4 rfl⟩,we0,we0,we0,we0,we0,we0,trivial⟩)) ?_
 intro k hk _
 have hln:(LL k s.lines).length=s.lines.length:=LB_len _ _ _ _
 conv=>whnf
 refine ⟨fun hd=>?_,fun hd=>?_⟩
 ·have hd:=of_decide_eq_true hd
  have hlt:k<s.lines.length:=by omega
  have hek:(k:Int).toNat=k:=Int.toNat_natCast k
  have hx:=h.line _ (getD_mem (d:=li0) hlt)
  have k1:=low_of hK hT (plain_I _) (cl108 (s.lines.getD k li0).units hx.1)
  have k2:=low_of hK hT (plain_I _) (cl108 (s.lines.getD k li0).noted hx.2.1)
  have k3:=low_of hK hT (plain_Br _) (cl113 (s.lines.getD k li0).stages hx.2.2)
  have hup:(((LL k s.lines).set k ((true,false,false),s.lines.getD k li0)).set k ((true,true,false),s.lines.getD k li0)).set k ((true,true,true),s.lines.getD k li0)=LL (k+1) s.lines:=by
   rw [List.set_set,List.set_set]
   exact LB_set hlt
  have hat:(LL k s.lines).getD k lb0=((false,false,false),s.lines.getD k li0):=LB_at hlt
  conv=>whnf
  refine iO (cW ?_)
  refine .eff ad0 (cW ?_)
  refine And.intro om0 (And.intro rfl (cW ?_))
  try (rw [hek];conv=>whnf)
  try (rw [hat];conv=>whnf)
  refine cO (fun _=>k1) (cW ?_)
  refine And.intro om0 (And.intro rfl (cW ?_))
  try (rw [hat];conv=>whnf)
  refine cO (fun _=>k2) (cW ?_)
  refine And.intro om0 (And.intro rfl (cW ?_))
  try (rw [hat];conv=>whnf)
  refine cO (fun _=>k3) (cW ?_)
  refine ⟨((true,false,false),s.lines.getD k li0),(by rw [hat];rfl),(by rw [hln];exact hlt),⟨rfl,rfl,(show 1+1≤10 by decide),rfl,rfl⟩,(cW ?_)⟩
  refine ⟨((true,true,false),s.lines.getD k li0),(by rw [set_at (by rw [hln];exact hlt)];rfl),(by rw [List.length_set,hln];exact hlt),⟨rfl,rfl,(show 2+1≤10 by decide),rfl,rfl⟩,(cW ?_)⟩
  refine ⟨((true,true,true),s.lines.getD k li0),(by rw [set_at (by rw [List.length_set,hln];exact hlt)];rfl),(by rw [List.length_set,List.length_set,hln];exact hlt),⟨rfl,rfl,(show 4+1≤10 by decide),rfl,rfl⟩,(cW ?_)⟩
  refine And.intro rfl (cW ?_)
  refine iO (cW ?_)
  exact up hlt trivial (by exact (wk_of [(0,.id 0),(1,.id 1),(2,.id 2),(3,.id 3),(4,.id 4),(5,.id 5),(6,.id 6),(7,.id 7)] rfl ⟨wc0,wc0,wa0,wa0,trivial⟩ ⟨wd0,wd0,we0,we0,we0,we0,⟨_,rfl,zp35⟩,we0,trivial⟩))
 conv=>whnf
 have hkl:k=s.lines.length:=by
  exact zt70
 subst hkl
 have hm:=h.proposals
 refine loop_up (cxPOk _ _ _) s.proposals.length (fun _=>True) (fun k=>⟨[(1,.ptr 0 0),(2,.ptr 1 0),(68,.int .i64 (s.proposals.length:Nat)),(69,.int .i64 (k:Nat))],[(0,.cells 28 [.int .i64 s.day,.own 2,.own 3,.int .i64 s.outside,.own 6,.own 4,.own 5,.own 7]),(1,.cells 28 (celSt st0)),(2,.row 3 1 encI 0 s.cash),(3,.row 3 1 encI 0 s.purses),(4,.row 41 5 encFa fa0 s.facts),(5,.row 43 6 encPa pa0 s.payments),(6,.row 47 10 (encLiB K) lb0 (s.lines.map fun x=>((true,true,true),x))),(7,.row 64 6 (encPrB K) pb0 (PP k s.proposals))],8⟩) trivial (by exact (wk_of [(0,.id 0),(1,.id 1),(2,.id 2),(3,.id 3),(4,.id 4),(5,.id 5),(6,.id 6),(7,.id 7)] rfl ⟨wc0,wc0,.base (.tree _ _ (show AV.int .i64 _=AV.int .i64 _ by rw [LB_len]) rfl),wa0,trivial⟩ ⟨wd0,wd0,we0,we0,we0,we0,⟨_,rfl,(by first | exact .row _ _ _ _ _ _ _ rfl (LB_end _ _ _) | exact .lstrow _ _ _ _ _ _ _ rfl (LB_end _ _ _) | exact .nilrow _ _ _ _ _ (LB_end _ _ _) | exact .truncrow _ _ _ _ _ _ _ _ rfl (by omega) (LB_end _ _ _))⟩,we0,trivial⟩)) ?_
 intro k hk _
 have hpn:(PP k s.proposals).length=s.proposals.length:=LB_len _ _ _ _
 conv=>whnf
 refine ⟨fun hd=>?_,fun hd=>?_⟩
 ·have hd:=of_decide_eq_true hd
  have hlt:k<s.proposals.length:=by omega
  have hek:(k:Int).toNat=k:=Int.toNat_natCast k
  have hx:=h.proposal _ (getD_mem (d:=pr0) hlt)
  have k1:=low_of hK hT (plain_I _) (cl108 (s.proposals.getD k pr0).units hx.1)
  have k2:=low_of hK hT (plain_Vo _) (cl114 (s.proposals.getD k pr0).votes hx.2)
  have hup:((PP k s.proposals).set k ((true,false),s.proposals.getD k pr0)).set k ((true,true),s.proposals.getD k pr0)=PP (k+1) s.proposals:=by
   rw [List.set_set]
   exact LB_set hlt
  have hat:(PP k s.proposals).getD k pb0=((false,false),s.proposals.getD k pr0):=LB_at hlt
  conv=>whnf
  refine iO (cW ?_)
  refine .eff ad0 (cW ?_)
  refine And.intro om0 (And.intro rfl (cW ?_))
  try (rw [hek];conv=>whnf)
  try (rw [hat];conv=>whnf)
  refine cO (fun _=>k1) (cW ?_)
  refine And.intro om0 (And.intro rfl (cW ?_))
  try (rw [hat];conv=>whnf)
  refine cO (fun _=>k2) (cW ?_)
  refine ⟨((true,false),s.proposals.getD k pr0),(by rw [hat];rfl),(by rw [hpn];exact hlt),⟨rfl,rfl,(show 3+1≤6 by decide),rfl,rfl⟩,(cW ?_)⟩
  refine ⟨((true,true),s.proposals.getD k pr0),(by rw [set_at (by rw [hpn];exact hlt)];rfl),(by rw [List.length_set,hpn];exact hlt),⟨rfl,rfl,(show 4+1≤6 by decide),rfl,rfl⟩,(cW ?_)⟩
  refine And.intro rfl (cW ?_)
  refine iO (cW ?_)
  exact up hlt trivial (by exact (wk_of [(0,.id 0),(1,.id 1),(2,.id 2),(3,.id 3),(4,.id 4),(5,.id 5),(6,.id 6),(7,.id 7)] rfl ⟨wc0,wc0,wa0,wa0,trivial⟩ ⟨wd0,wd0,we0,we0,we0,we0,we0,⟨_,rfl,zp35⟩,trivial⟩))
 conv=>whnf
 have hkl:k=s.proposals.length:=by
  exact zt70
 subst hkl
 refine ⟨⟨[(2,.ptr 0 0)],[(0,.cells 28 (celOwn s)),(1,.row 3 1 encI 0 s.cash),(2,.row 3 1 encI 0 s.purses),(3,.row 41 5 encFa fa0 s.facts),(4,.row 43 6 encPa pa0 s.payments),(5,.row 47 10 (encLiB K) lb0 (s.lines.map fun x=>((true,true,true),x))),(6,.row 64 6 (encPrB K) pb0 (s.proposals.map fun x=>((true,true),x)))],7⟩,(wk_of [(0,.id 1),(1,.id 2),(2,.id 3),(3,.id 4),(4,.id 5),(5,.id 6),(6,.id 7)] rfl ⟨wc0,trivial⟩ ⟨wb0,⟨_,rfl,ae0⟩,⟨_,rfl,ae0⟩,⟨_,rfl,ae0⟩,⟨_,rfl,ae0⟩,⟨_,rfl,ae0⟩,⟨_,rfl,(by first | exact .row _ _ _ _ _ _ _ rfl (LB_end _ _ _) | exact .lstrow _ _ _ _ _ _ _ rfl (LB_end _ _ _) | exact .nilrow _ _ _ _ _ (LB_end _ _ _) | exact .truncrow _ _ _ _ _ _ _ _ rfl om0 (LB_end _ _ _))⟩,trivial⟩),rfl,rfl,?_⟩
 exact zt9
def LeafOk (Wr:Nat→Prop) (w:World) (E n:Nat) (v:Value):Prop :=
 ∃ (a:Option Addr) (c:Nat),v=.slice a n c∧∀ k,k<n→∃ (g o:Nat) (cs:Array Value) (e:TypeId),a=some ⟨g,o,none⟩∧Wr g∧w.heap[g]?=some (.cells cs e (0,0))∧o+n*E≤cs.size
def HeadOk (Wr:Nat→Prop) (w:World) (n:Nat) (v:Value) (p:Nat→Nat→Prop):Prop :=
 ∃ (a:Option Addr) (c:Nat),v=.slice a n c∧∀ i,i<n→∃ g:Nat,a=some ⟨g,0,none⟩∧¬ Wr g∧g<w.heap.size∧p g i
theorem leaf_row {Wr:Nat→Prop} {S:Blocks} {w:World} {e E:Nat} {l:List AV} {v:Value} {vs:List Value} (h:RowRel S w e E l v vs) (hW:∀ g,blk v=some g→Wr g):LeafOk Wr w E l.length v:=by
 obtain ⟨hlen,ho⟩:=h.owns
 rcases ho with ⟨rfl,h0⟩ | ⟨g,cap,cur,rfl,_,hh,hnc,hcm,hcs,htake⟩
 ·rw [h0]
  exact ⟨none,0,rfl,fun k hk=>absurd hk (Nat.not_lt_zero _)⟩
 ·exact ⟨_,_,rfl,fun k hk=>⟨g,0,cur,e,rfl,hW g rfl,hh,by rw [hcs,Nat.zero_add];exact Nat.mul_le_mul_right _ hnc⟩⟩
theorem leaf_sem {Wr:Nat→Prop} {S:Blocks} {w:World} {K E:Nat} {X:Type} {enc:X→AV} {d:X} {xs:List X} {v:Value} (hE:0<E) (h:RelT S w v (.sem (lowP K (.sl E enc d xs)))) (hW:∀ g,S g→K<g→Wr g):LeafOk Wr w E xs.length v:=by
 cases h with
 | sem _ _ _ hp =>
  obtain ⟨h1,h2⟩:=hp S w (fun _ h=>h) (fun _ _=>rfl)
  cases h1 with
  | sl _ _ _ _ _ h1 =>
   generalize hL:xs.map enc=l at h1
   have hl:l.length=xs.length:=by rw [← hL,List.length_map]
   rw [← hl]
   cases h1 with
   | lslnil=>exact ⟨none,0,rfl,fun k hk=>absurd hk (Nat.not_lt_zero _)⟩
   | lslz _ a=>exact ⟨some a,0,rfl,fun k hk=>absurd hk (Nat.not_lt_zero _)⟩
   | lsl _ _ g o cap cs hs hcap hE' h1' hl' hc hrel =>
    obtain ⟨k1,k2,cs',e,k3⟩:=h2 g rfl
    refine ⟨_,_,rfl,fun k hk=>⟨g,o,cs',e,rfl,hW g k1 k2,k3,?_⟩⟩
    have hpos:0<cs.length:=by rw [hl'];exact Nat.mul_pos (by omega) hE
    have hj:cs.length-1<cs.length:=by omega
    have h4:=hc _ _ (List.getElem?_eq_getElem hj)
    simp only [World.cell?,k3] at h4
    have h5:o+(cs.length-1)<cs'.size:=by
     have:=(Array.getElem?_eq_some_iff.1 h4).1
     exact this
    omega
theorem LeafOk.below {Wr:Nat→Prop} {w w':World} {E n:Nat} {v:Value} (h:LeafOk Wr w E n v) (hb:RowKit.Below w.heap.size w w'):LeafOk Wr w' E n v:=by
 obtain ⟨a,c,rfl,h⟩:=h
 refine ⟨a,c,rfl,fun k hk=>?_⟩
 obtain ⟨g,o,cs,e,h1,h2,h3,h4⟩:=h k hk
 exact ⟨g,o,cs,e,h1,h2,by rw [hb.block g (Array.getElem?_eq_some_iff.1 h3).1];exact h3,h4⟩
theorem HeadOk.imp {Wr:Nat→Prop} {w w':World} {n:Nat} {v:Value} {p q:Nat→Nat→Prop} (h:HeadOk Wr w n v p) (hs:w.heap.size≤w'.heap.size) (hp:∀ g i,g<w.heap.size→i<n→p g i→q g i):HeadOk Wr w' n v q:=by
 obtain ⟨a,c,rfl,h⟩:=h
 refine ⟨a,c,rfl,fun k hk=>?_⟩
 obtain ⟨g,h1,h2,h3,h4⟩:=h k hk
 exact ⟨g,h1,h2,by omega,hp g k h3 hk h4⟩
def LineOk (Wr:Nat→Prop) (w:World) (s:Sta) (g i:Nat):Prop :=
 ∃ u1 u2 u3,w.cell? ⟨g,i*10+1,none⟩=some u1∧w.cell? ⟨g,i*10+2,none⟩=some u2∧w.cell? ⟨g,i*10+4,none⟩=some u3 ∧
  LeafOk Wr w 1 (s.lines.getD i li0).units.length u1∧LeafOk Wr w 1 (s.lines.getD i li0).noted.length u2∧LeafOk Wr w 2 (s.lines.getD i li0).stages.length u3
def ProOk (Wr:Nat→Prop) (w:World) (s:Sta) (g i:Nat):Prop :=
 ∃ u1 u2,w.cell? ⟨g,i*6+3,none⟩=some u1∧w.cell? ⟨g,i*6+4,none⟩=some u2 ∧
  LeafOk Wr w 1 (s.proposals.getD i pr0).units.length u1∧LeafOk Wr w 3 (s.proposals.getD i pr0).votes.length u2
structure CopyF (N:Nat) (Wr:Nat→Prop) (s:Sta) (w:World) (v1 v3 v5 v6:Value):Prop where
 wr:∀ g,Wr g→N<g∧g<w.heap.size
 cash:LeafOk Wr w 1 s.cash.length v1
 pays:LeafOk Wr w 6 s.payments.length v5
 lines:HeadOk Wr w s.lines.length v3 (LineOk Wr w s)
 pros:HeadOk Wr w s.proposals.length v6 (ProOk Wr w s)
theorem CopyF.below {N:Nat} {Wr:Nat→Prop} {s:Sta} {w w':World} {v1 v3 v5 v6:Value} (h:CopyF N Wr s w v1 v3 v5 v6) (hb:RowKit.Below w.heap.size w w'):CopyF N Wr s w' v1 v3 v5 v6:=by
 refine ⟨fun g hg=>⟨(h.wr g hg).1,Nat.lt_of_lt_of_le (h.wr g hg).2 hb.size⟩,h.cash.below hb,h.pays.below hb,h.lines.imp hb.size fun g i hg _ hp=>?_,h.pros.imp hb.size fun g i hg _ hp=>?_⟩
 ·obtain ⟨u1,u2,u3,h1,h2,h3,h4,h5,h6⟩:=hp
  exact ⟨u1,u2,u3,by rw [hb.cell (p:=⟨g,_,none⟩) hg];exact h1,by rw [hb.cell (p:=⟨g,_,none⟩) hg];exact h2,by rw [hb.cell (p:=⟨g,_,none⟩) hg];exact h3,h4.below hb,h5.below hb,h6.below hb⟩
 ·obtain ⟨u1,u2,h1,h2,h3,h4⟩:=hp
  exact ⟨u1,u2,by rw [hb.cell (p:=⟨g,_,none⟩) hg];exact h1,by rw [hb.cell (p:=⟨g,_,none⟩) hg];exact h2,h3.below hb,h4.below hb⟩
theorem leT_low (K:Nat) (a:AV):LeT (.sem (lowP K a)) a:=fun S w v h=>by
 cases h with
 | sem _ _ _ hp=>exact (hp S w (fun _ h=>h) (fun _ _=>rfl)).1.more fun g hg=>hg.1
theorem leTs_app {a b c d:List AV} (h:LeTs a b) (k:LeTs c d):LeTs (a++c) (b++d):=by
 induction h with
 | nil=>exact k
 | cons h _ ih=>exact .cons h ih
theorem leTs_flat {X Y:Type} {f:X→AV} {g:Y→AV} {j:Y→X} (h:∀ y,LeTs (f (j y)).cells (g y).cells):∀ xs:List Y,LeTs (flat ((xs.map j).map f)) (flat (xs.map g))
 | []=>.nil
 | x::xs=>leTs_app (h x) (leTs_flat h xs)
theorem leT_refl (a:AV):LeT a a:=fun _ _ _ h=>h
theorem leT_lines (K:Nat) (l:List Lin):LeT (.sl 10 (encLiB K) lb0 (l.map fun x=>((true,true,true),x))) (.sl 10 encLi li0 l):=fun S w v h=>by
 cases h with
 | sl _ _ _ _ _ h =>
  refine .sl _ _ _ _ _ (LeT.lsl (by simp) (fun x hx=>?_) (fun a ha=>?_) (leTs_flat (fun y=>?_) l) S w v h)
  ·obtain ⟨y,_,rfl⟩:=List.mem_map.1 hx
   rfl
  ·obtain ⟨x,hx,ha⟩:=List.mem_flatMap.1 ha
   obtain ⟨y,_,rfl⟩:=List.mem_map.1 hx
   simp only [encLi,AV.cells,List.mem_cons,List.not_mem_nil,or_false] at ha
   rcases ha with rfl | rfl | rfl | rfl | rfl | rfl | rfl | rfl | rfl | rfl<;>rfl
  ·exact .cons (leT_refl _) (.cons (leT_low _ _) (.cons (leT_low _ _) (.cons (leT_refl _) (.cons (leT_low _ _) (.cons (leT_refl _) (.cons (leT_refl _) (.cons (leT_refl _) (.cons (leT_refl _) (.cons (leT_refl _) .nil)))))))))
theorem leT_pros (K:Nat) (l:List Pro):LeT (.sl 6 (encPrB K) pb0 (l.map fun x=>((true,true),x))) (.sl 6 encPr pr0 l):=fun S w v h=>by
 cases h with
 | sl _ _ _ _ _ h =>
  refine .sl _ _ _ _ _ (LeT.lsl (by simp) (fun x hx=>?_) (fun a ha=>?_) (leTs_flat (fun y=>?_) l) S w v h)
  ·obtain ⟨y,_,rfl⟩:=List.mem_map.1 hx
   rfl
  ·obtain ⟨x,hx,ha⟩:=List.mem_flatMap.1 ha
   obtain ⟨y,_,rfl⟩:=List.mem_map.1 hx
   simp only [encPr,AV.cells,List.mem_cons,List.not_mem_nil,or_false] at ha
   rcases ha with rfl | rfl | rfl | rfl | rfl | rfl<;>rfl
  ·exact .cons (leT_refl _) (.cons (leT_refl _) (.cons (leT_refl _) (.cons (leT_low _ _) (.cons (leT_low _ _) (.cons (leT_refl _) .nil)))))
open Go.RowKit
def Bx (w:World) (b:Nat) (c0 c1 c2 c3 c4 c5 c6 c7:Value):Prop:=w.heap[b]?=some (.cells #[c0,c1,c2,c3,c4,c5,c6,c7] 28 (0,0))
theorem Bx.all {w:World} {b:Nat} {c0 c1 c2 c3 c4 c5 c6 c7:Value} (h:Bx w b c0 c1 c2 c3 c4 c5 c6 c7):w.cell? ⟨b,0,none⟩=some c0∧w.cell? ⟨b,1,none⟩=some c1∧w.cell? ⟨b,2,none⟩=some c2∧w.cell? ⟨b,3,none⟩=some c3 ∧
  w.cell? ⟨b,4,none⟩=some c4∧w.cell? ⟨b,5,none⟩=some c5∧w.cell? ⟨b,6,none⟩=some c6∧w.cell? ⟨b,7,none⟩=some c7:=by
 unfold Bx at h
 simp [World.cell?,h]
theorem Bx.below {w w':World} {b:Nat} {c0 c1 c2 c3 c4 c5 c6 c7:Value} (h:Bx w b c0 c1 c2 c3 c4 c5 c6 c7) (hb:Below w.heap.size w w'):Bx w' b c0 c1 c2 c3 c4 c5 c6 c7:=by
 unfold Bx at h ⊢
 rw [hb.block b (Array.getElem?_eq_some_iff.1 h).1]
 exact h
theorem Bx.alloc (w:World) (c0 c1 c2 c3 c4 c5 c6 c7:Value):Bx (w.alloc (.cells #[c0,c1,c2,c3,c4,c5,c6,c7] 28)) w.heap.size c0 c1 c2 c3 c4 c5 c6 c7:=by
 unfold Bx
 exact heap_alloc_new w _
theorem below_box (w:World) (o:Obj):Below w.heap.size w (w.alloc o):=(Below.refl _ _).alloc (Nat.le_refl _) _
theorem below_tr {a b c:World} (h:Below a.heap.size a b) (k:Below b.heap.size b c):Below a.heap.size a c:=h.trans (k.mono h.size)
structure Alk (Wr:Nat→Prop) (W wr:World):Prop where
 os:wr.os=W.os
 tape:wr.tape=W.tape
 output:wr.output=W.output
 size:wr.heap.size=W.heap.size
 keep:∀ g,¬ Wr g→wr.heap[g]?=W.heap[g]?
 cells:∀ (g:Nat) (cs:Array Value) (e:TypeId),Wr g→W.heap[g]?=some (.cells cs e (0,0))→∃ cs':Array Value,wr.heap[g]?=some (.cells cs' e (0,0))∧cs'.size=cs.size
theorem Alk.refl (Wr:Nat→Prop) (W:World):Alk Wr W W:=⟨rfl,rfl,rfl,rfl,fun _ _=>rfl,fun _ cs _ _ h=>⟨cs,h,rfl⟩⟩
theorem Alk.drew {Wr:Nat→Prop} {W wr:World} (h:Alk Wr W wr):Alk Wr W wr.drew:=⟨h.os,h.tape,h.output,h.size,h.keep,h.cells⟩
theorem Alk.set {Wr:Nat→Prop} {W wr:World} (h:Alk Wr W wr) {g o:Nat} (hg:Wr g) (v:Value):Alk Wr W (wr.setCell ⟨g,o,none⟩ v):=by
 refine ⟨h.os,h.tape,h.output,(by simp [h.size]),fun k hk=>?_,fun k cs e hk hc=>?_⟩
 ·rw [Below.heap_setCell _ _ _ _ (fun e=>hk (by rw [e];exact hg))]
  exact h.keep k hk
 ·obtain ⟨cs',h1,h2⟩:=h.cells k cs e hk hc
  by_cases e1:k=g
  ·subst e1
   refine ⟨cs'.setIfInBounds o v,?_,by rw [Array.size_setIfInBounds];exact h2⟩
   show (wr.heap.modify k _)[k]?=_
   rw [Array.getElem?_modify,if_pos rfl,h1]
   rfl
  ·rw [Below.heap_setCell _ _ _ _ e1]
   exact ⟨cs',h1,h2⟩
theorem Alk.box {Wr:Nat→Prop} {W wr:World} (h:Alk Wr W wr) {b:Nat} {c0 c1 c2 c3 c4 c5 c6 c7:Value} (hb:Bx W b c0 c1 c2 c3 c4 c5 c6 c7) (hn:¬ Wr b):Bx wr b c0 c1 c2 c3 c4 c5 c6 c7:=by
 unfold Bx at hb ⊢
 rw [h.keep b hn]
 exact hb
theorem Alk.cell {Wr:Nat→Prop} {W wr:World} (h:Alk Wr W wr) {a:Addr} (hn:¬ Wr a.block):wr.cell? a=W.cell? a:=World.cell?_of_block (h.keep _ hn)
theorem Alk.leaf {Wr:Nat→Prop} {W wr:World} (h:Alk Wr W wr) {E n c:Nat} {a:Option Addr} (hl:LeafOk Wr W E n (.slice a n c)) {k:Nat} (hk:k<n):∃ (g o:Nat),a=some ⟨g,o,none⟩∧Wr g ∧
  ∀ j,j<E→∃ u,wr.cell? ⟨g,o+k*E+j,none⟩=some u∧wr.frozen? ⟨g,o+k*E+j,none⟩=false:=by
 obtain ⟨a',c',he,hl⟩:=hl
 cases he
 obtain ⟨g,o,cs,e,h1,h2,h3,h4⟩:=hl k hk
 obtain ⟨cs',h5,h6⟩:=h.cells g cs e h2 h3
 refine ⟨g,o,h1,h2,fun j hj=>?_⟩
 have hlt:o+k*E+j<cs'.size:=by
  have h7:(k+1)*E≤n*E:=Nat.mul_le_mul_right _ (by omega)
  rw [Nat.add_mul] at h7
  omega
 refine ⟨cs'[o+k*E+j],?_,?_⟩
 ·simp [World.cell?,h5,hlt]
 ·simp [World.frozen?,h5]
theorem zt30 {p:Prop}(h:p:=by
 have hqz:(q:Int)<(L1:Int):=by omega
 obtain ⟨g,o,rfl,hg,hc⟩:=hM.leaf l1 hqL
 obtain ⟨u,t1,t2⟩:=hc 0 (by omega)
 have hM2:=hM.set (o:=o+q*1+0) hg (.int .i64 (-5))
 rw [Nat.mul_one,Nat.add_zero] at t1 t2 hM2
 clear hM hc
 go_wp2
 go_roundg (L1-(q+1))
 case measure=>go_light;omega
 case rel=>go_light;exact ⟨q+1,by omega,rfl,by simp,by first | exact hM2 | exact hM2.drew⟩):p:=h
theorem zt66 {p:Prop}(h:p:=by
 clear hM hc
 go_wp2
 go_roundg (L2-(q+1))
 case measure=>go_light;omega
 case rel=>go_light;exact ⟨q+1,by omega,rfl,by simp,by first | exact hM2 | exact hM2.drew⟩):p:=h
set_option maxHeartbeats 16000000 in
set_option maxRecDepth 1000000 in
theorem law7_walk (s:Sta) (hs:OkC s) (w:World) (c0 c1 c2 c3 c4 c5 c6 c7:Value) (Pb Pc Po:World→Value→Prop)
 (k8:∀ w1,Below w.heap.size w w1→Calls Tryz.prog 8 #[] w1 fun e w'=>e=.returned (.bool true)∧Below w1.heap.size w1 w')
 (k9:∀ w1,Below w.heap.size w w1→Calls Tryz.prog 9 #[.agg #[c0,c1,c2,c3,c4,c5,c6,c7]] w1 fun e w'=>e=.returned (.bool true)∧Below w1.heap.size w1 w')
 (k18:∀ w1,Below w.heap.size w w1→Bx w1 w.heap.size c0 c1 c2 c3 c4 c5 c6 c7→Calls Tryz.prog 18 #[.agg #[c0,c1,c2,c3,c4,c5,c6,c7]] w1 fun e w'=>∃ (d0 d3:Int) (a1 a2 a4 a5 a6 a7:Option Addr) (n1 n2 n4 n5 n6 n7 p1 p2 p4 p5 p6 p7:Nat),e=.returned (.agg #[.int .i64 d0,.slice a1 n1 p1,.slice a2 n2 p2,.int .i64 d3,.slice a4 n4 p4,.slice a5 n5 p5,.slice a6 n6 p6,.slice a7 n7 p7])∧Below w1.heap.size w1 w'∧Pb w' (.agg #[.int .i64 d0,.slice a1 n1 p1,.slice a2 n2 p2,.int .i64 d3,.slice a4 n4 p4,.slice a5 n5 p5,.slice a6 n6 p6,.slice a7 n7 p7])∧∃ Wr,CopyF w.heap.size Wr s w' (.slice a1 n1 p1) (.slice a4 n4 p4) (.slice a6 n6 p6) (.slice a7 n7 p7))
 (k18c:∀ w1,Below w.heap.size w w1→Calls Tryz.prog 18 #[.agg #[c0,c1,c2,c3,c4,c5,c6,c7]] w1 fun e w'=>∃ (D0 D3:Int) (A1 A2 A4 A5 A6 A7:Option Addr) (N1 N2 N4 N5 N6 N7 P1 P2 P4 P5 P6 P7:Nat),e=.returned (.agg #[.int .i64 D0,.slice A1 N1 P1,.slice A2 N2 P2,.int .i64 D3,.slice A4 N4 P4,.slice A5 N5 P5,.slice A6 N6 P6,.slice A7 N7 P7])∧Below w1.heap.size w1 w'∧∀ W,Below w.heap.size w W→(∀ g,w1.heap.size≤g→g<w'.heap.size→W.heap[g]?=w'.heap[g]?)→Pc W (.agg #[.int .i64 D0,.slice A1 N1 P1,.slice A2 N2 P2,.int .i64 D3,.slice A4 N4 P4,.slice A5 N5 P5,.slice A6 N6 P6,.slice A7 N7 P7]))
 (k21:∀ w1,Below w.heap.size w w1→Calls Tryz.prog 21 #[.agg #[c0,c1,c2,c3,c4,c5,c6,c7]] w1 fun e w'=>∃ (E0 E3:Int) (F1 F2 F4 F5 F6 F7:Option Addr) (M1 M2 M4 M5 M6 M7 Q1 Q2 Q4 Q5 Q6 Q7:Nat),e=.returned (.agg #[.int .i64 E0,.slice F1 M1 Q1,.slice F2 M2 Q2,.int .i64 E3,.slice F4 M4 Q4,.slice F5 M5 Q5,.slice F6 M6 Q6,.slice F7 M7 Q7])∧Below w1.heap.size w1 w'∧∀ W,Below w.heap.size w W→(∀ g,w1.heap.size≤g→g<w'.heap.size→W.heap[g]?=w'.heap[g]?)→Pc W (.agg #[.int .i64 E0,.slice F1 M1 Q1,.slice F2 M2 Q2,.int .i64 E3,.slice F4 M4 Q4,.slice F5 M5 Q5,.slice F6 M6 Q6,.slice F7 M7 Q7]))
 (k12ab:∀ w4 vb w1,Below w.heap.size w w1→Pb w4 vb→Below w4.heap.size w4 w1→Calls Tryz.prog 12 #[.agg #[c0,c1,c2,c3,c4,c5,c6,c7],vb] w1 fun e w'=>e=.returned (.bool true)∧Below w1.heap.size w1 w')
 (k12bc:∀ w4 vb vc w1,Below w.heap.size w w1→Pb w4 vb→Below w4.heap.size w4 w1→Pc w1 vc→Calls Tryz.prog 12 #[vb,vc] w1 fun e w'=>e=.returned (.bool true)∧Below w1.heap.size w1 w')
 (k12ac:∀ vc w1,Below w.heap.size w w1→Pc w1 vc→Calls Tryz.prog 12 #[.agg #[c0,c1,c2,c3,c4,c5,c6,c7],vc] w1 fun e w'=>e=.returned (.bool true)∧Below w1.heap.size w1 w') :
  Calls Tryz.prog 7 #[.agg #[c0,c1,c2,c3,c4,c5,c6,c7]] w fun e w'=>e=.returned (.bool true)∧Below w.heap.size w w':=by
 have e1:=Bx.alloc w c0 c1 c2 c3 c4 c5 c6 c7
 have hb1:Below w.heap.size w (w.alloc (.cells #[c0,c1,c2,c3,c4,c5,c6,c7] 28)):=below_box _ _
 generalize hw1:w.alloc (.cells #[c0,c1,c2,c3,c4,c5,c6,c7] 28)=w1 at *
 go_enter Tryz.func7,Tryz.ntmps7
 go_wp2_with (first
  | (go_at_call 8;refine (k8 _ hb1).mono ?_;rintro e w2 ⟨rfl,hb2⟩
     have e2:=e1.below hb2
     have hw2:=below_tr hb1 hb2
     obtain ⟨x0,x1,x2,x3,x4,x5,x6,x7⟩:=e2.all)
  | (go_at_call 9;refine (k9 _ hw2).mono ?_;rintro e w3 ⟨rfl,hb3⟩
     have e3:=e2.below hb3
     have hw3:=below_tr hw2 hb3
     obtain ⟨y0,y1,y2,y3,y4,y5,y6,y7⟩:=e3.all)
  | (go_at_call 18;refine (k18 _ hw3 e3).mono ?_;rintro e w4 ⟨d0,d3,a1,a2,a4,a5,a6,a7,n1,n2,n4,n5,n6,n7,p1,p2,p4,p5,p6,p7,rfl,hb4,hPb,WR,hCF⟩
     have hw4:=below_tr hw3 hb4
     have b5:=below_box w4 (.cells #[.int .i64 d0,.slice a1 n1 p1,.slice a2 n2 p2,.int .i64 d3,.slice a4 n4 p4,.slice a5 n5 p5,.slice a6 n6 p6,.slice a7 n7 p7] 28)
     have hw5:=below_tr hw4 b5
     have e5:=(e3.below hb4).below b5
     obtain ⟨z0,z1,z2,z3,z4,z5,z6,z7⟩:=e5.all
     clear k18 k8 k9))
 clear x0 x1 x2 x3 x4 x5 x6 x7 y0 y1 y2 y3 y4 y5 y6 y7 e1 e2 e3
 have q5:=Bx.alloc w4 (.int .i64 d0) (.slice a1 n1 p1) (.slice a2 n2 p2) (.int .i64 d3) (.slice a4 n4 p4) (.slice a5 n5 p5) (.slice a6 n6 p6) (.slice a7 n7 p7)
 generalize hw5e:w4.alloc (.cells #[.int .i64 d0,.slice a1 n1 p1,.slice a2 n2 p2,.int .i64 d3,.slice a4 n4 p4,.slice a5 n5 p5,.slice a6 n6 p6,.slice a7 n7 p7] 28)=w5 at *
 go_at_call 18
 refine (k18c _ hw5).mono ?_
 rintro e w6 ⟨D0,D3,A1,A2,A4,A5,A6,A7,N1,N2,N4,N5,N6,N7,P1,P2,P4,P5,P6,P7,rfl,hb6,hPc⟩
 clear z0 z1 z2 z3 z4 z5 z6 z7
 have hw6:=below_tr hw5 hb6
 have b7:=below_box w6 (.cells #[.int .i64 D0,.slice A1 N1 P1,.slice A2 N2 P2,.int .i64 D3,.slice A4 N4 P4,.slice A5 N5 P5,.slice A6 N6 P6,.slice A7 N7 P7] 28)
 have hw7:=below_tr hw6 b7
 have e7:=(e5.below hb6).below b7
 have q7:=(q5.below hb6).below b7
 have r7:=Bx.alloc w6 (.int .i64 D0) (.slice A1 N1 P1) (.slice A2 N2 P2) (.int .i64 D3) (.slice A4 N4 P4) (.slice A5 N5 P5) (.slice A6 N6 P6) (.slice A7 N7 P7)
 obtain ⟨z0,z1,z2,z3,z4,z5,z6,z7⟩:=e7.all
 go_wp2_with fail
 clear z0 z1 z2 z3 z4 z5 z6 z7
 generalize hw7e:w6.alloc (.cells #[.int .i64 D0,.slice A1 N1 P1,.slice A2 N2 P2,.int .i64 D3,.slice A4 N4 P4,.slice A5 N5 P5,.slice A6 N6 P6,.slice A7 N7 P7] 28)=w7 at *
 go_at_call 21
 refine (k21 _ hw7).mono ?_
 rintro e w8 ⟨E0,E3,F1,F2,F4,F5,F6,F7,M1,M2,M4,M5,M6,M7,Q1,Q2,Q4,Q5,Q6,Q7,rfl,hb8,hPo⟩
 have hw8:=below_tr hw7 hb8
 have b9:=below_box w8 (.cells #[.int .i64 E0,.slice F1 M1 Q1,.slice F2 M2 Q2,.int .i64 E3,.slice F4 M4 Q4,.slice F5 M5 Q5,.slice F6 M6 Q6,.slice F7 M7 Q7] 28)
 have hw9:=below_tr hw8 b9
 have e9:=(e7.below hb8).below b9
 have q9:=(q7.below hb8).below b9
 have r9:=(r7.below hb8).below b9
 have o9:=Bx.alloc w8 (.int .i64 E0) (.slice F1 M1 Q1) (.slice F2 M2 Q2) (.int .i64 E3) (.slice F4 M4 Q4) (.slice F5 M5 Q5) (.slice F6 M6 Q6) (.slice F7 M7 Q7)
 obtain ⟨x0,x1,x2,x3,x4,x5,x6,x7⟩:=e9.all
 obtain ⟨y0,y1,y2,y3,y4,y5,y6,y7⟩:=q9.all
 clear k18c k21 hb1 hw2 hw3 hb3 hb4
 have b49:Below w4.heap.size w4 (w8.alloc (.cells #[.int .i64 E0,.slice F1 M1 Q1,.slice F2 M2 Q2,.int .i64 E3,.slice F4 M4 Q4,.slice F5 M5 Q5,.slice F6 M6 Q6,.slice F7 M7 Q7] 28)):=below_tr (below_tr (below_tr (below_tr b5 hb6) b7) hb8) b9
 have b69:Below w6.heap.size w6 (w8.alloc (.cells #[.int .i64 E0,.slice F1 M1 Q1,.slice F2 M2 Q2,.int .i64 E3,.slice F4 M4 Q4,.slice F5 M5 Q5,.slice F6 M6 Q6,.slice F7 M7 Q7] 28)):=below_tr (below_tr b7 hb8) b9
 go_wp2_with fail
 generalize hw9e:w8.alloc (.cells #[.int .i64 E0,.slice F1 M1 Q1,.slice F2 M2 Q2,.int .i64 E3,.slice F4 M4 Q4,.slice F5 M5 Q5,.slice F6 M6 Q6,.slice F7 M7 Q7] 28)=w9 at *
 go_at_call 12
 refine (k12ab _ _ _ hw9 hPb b49).mono ?_
 rintro e w10 ⟨rfl,hb10⟩
 have e10:=e9.below hb10
 have q10:=q9.below hb10
 have r10:=r9.below hb10
 have o10:=o9.below hb10
 have hw10:=below_tr hw9 hb10
 have b610:=below_tr b69 hb10
 clear x0 x1 x2 x3 x4 x5 x6 x7 y0 y1 y2 y3 y4 y5 y6 y7 k12ab
 obtain ⟨y0,y1,y2,y3,y4,y5,y6,y7⟩:=q10.all
 obtain ⟨z0,z1,z2,z3,z4,z5,z6,z7⟩:=r10.all
 go_wp2_with fail
 go_at_call 12
 refine (k12bc _ _ _ _ hw10 hPb (below_tr b49 hb10) (hPc _ hw10 fun g _ hg=>b610.block g hg)).mono ?_
 rintro e w11 ⟨rfl,hb11⟩
 have hW4:=hCF.wr
 have hCF:=hCF.below (below_tr (below_tr b49 hb10) hb11)
 have e11:=e10.below hb11
 have q11:=q10.below hb11
 have r11:=r10.below hb11
 have o11:=o10.below hb11
 have hw11:=below_tr hw10 hb11
 have b611:=below_tr b610 hb11
 have b811:=below_tr (below_tr b9 hb10) hb11
 have s45:=b5.size
 have s46:=hb6.size
 have s47:=b7.size
 have s48:=hb8.size
 have s04:=hw4.size
 have hA:∀ wr,Alk WR w11 wr→Bx wr w.heap.size c0 c1 c2 c3 c4 c5 c6 c7∧Bx wr w6.heap.size (.int .i64 D0) (.slice A1 N1 P1) (.slice A2 N2 P2) (.int .i64 D3) (.slice A4 N4 P4) (.slice A5 N5 P5) (.slice A6 N6 P6) (.slice A7 N7 P7)∧Bx wr w8.heap.size (.int .i64 E0) (.slice F1 M1 Q1) (.slice F2 M2 Q2) (.int .i64 E3) (.slice F4 M4 Q4) (.slice F5 M5 Q5) (.slice F6 M6 Q6) (.slice F7 M7 Q7)∧Below w.heap.size w wr∧∀ W,Below wr.heap.size wr W→Pc W (.agg #[.int .i64 D0,.slice A1 N1 P1,.slice A2 N2 P2,.int .i64 D3,.slice A4 N4 P4,.slice A5 N5 P5,.slice A6 N6 P6,.slice A7 N7 P7])∧Pc W (.agg #[.int .i64 E0,.slice F1 M1 Q1,.slice F2 M2 Q2,.int .i64 E3,.slice F4 M4 Q4,.slice F5 M5 Q5,.slice F6 M6 Q6,.slice F7 M7 Q7]):=by
  intro wr hM
  have nb:∀ g,g≤w.heap.size∨w4.heap.size≤g→¬ WR g:=fun g hg hr=>by have:=hW4 g hr;omega
  have kw:Below w.heap.size w wr:=⟨hM.os.trans hw11.os,hM.tape.trans hw11.tape,hM.output.trans hw11.output,by rw [hM.size];exact hw11.size,fun g hg=>(hM.keep g (nb g (.inl (by omega)))).trans (hw11.block g hg)⟩
  refine ⟨hM.box e11 (nb _ (.inl (Nat.le_refl _))),hM.box r11 (nb _ (.inr om0)),hM.box o11 (nb _ (.inr om0)),kw,fun W hb=>⟨hPc W (below_tr kw hb) fun g h1 h2=>?_,hPo W (below_tr kw hb) fun g h1 h2=>?_⟩⟩
  ·exact (hb.block g (by rw [hM.size];have:=b611.size;omega)).trans ((hM.keep g (nb g (.inr (by omega)))).trans (b611.block g h2))
  ·exact (hb.block g (by rw [hM.size];have:=b811.size;omega)).trans ((hM.keep g (nb g (.inr (by omega)))).trans (b811.block g h2))
 have hnq:¬ WR w4.heap.size:=fun h=>by have:=hW4 _ h;omega
 obtain ⟨hcB,hcL,hcF,hcP,hcV⟩:n1≤1000000∧n4=s.lines.length∧n6≤1000000∧n7=s.proposals.length∧n4≤1000000∧n7≤1000000:=by
  have h1:=hs.cash
  have h2:=hs.lines
  have h3:=hs.payments
  have h4:=hs.proposals
  obtain ⟨_,_,x1,_⟩:=hCF.cash
  obtain ⟨_,_,x2,_⟩:=hCF.lines
  obtain ⟨_,_,x3,_⟩:=hCF.pays
  obtain ⟨_,_,x4,_⟩:=hCF.pros
  cases x1
  cases x2
  cases x3
  cases x4
  exact ⟨h1,rfl,h3,rfl,h2,h4⟩
 have f1:LeafOk WR w11 1 n1 (.slice a1 n1 p1):=by
  have:=hCF.cash
  obtain ⟨_,_,x1,_⟩:=hCF.cash
  cases x1
  exact this
 have f5:LeafOk WR w11 6 n6 (.slice a6 n6 p6):=by
  have:=hCF.pays
  obtain ⟨_,_,x1,_⟩:=hCF.pays
  cases x1
  exact this
 have f3:=hCF.lines
 have f6:=hCF.pros
 rw [← hcL] at f3
 rw [← hcP] at f6
 clear hCF hPb b49 hb10 hb11 e10 q10 r10 o10 e9 q9 r9 o9 e7 q7 r7 hw5 hw6 hw7 hw8 hw9 hw10 b69 b610 b611 b811 hPc hPo
 generalize hB4:w4.heap.size=B4 at *
 generalize hB6:w6.heap.size=B6 at *
 generalize hB8:w8.heap.size=B8 at *
 clear y0 y1 y2 y3 y4 y5 y6 y7 z0 z1 z2 z3 z4 z5 z6 z7 k12bc hw1 hw5e hw7e hw9e hW4 s45 s46 s47 s48 s04 hb6 b7 hb8 b9 b5 hw4 e5 q5
 go_wp2_with fail
 have hK:Alk WR w11 w11:=Alk.refl _ _
 have f3':∀ i,i<n4→∃ g:Nat,a4=some ⟨g,0,none⟩∧¬ WR g∧g<w11.heap.size∧LineOk WR w11 s g i:=by
  obtain ⟨_,_,x1,x2⟩:=f3
  cases x1
  exact x2
 have f6':∀ i,i<n7→∃ g:Nat,a7=some ⟨g,0,none⟩∧¬ WR g∧g<w11.heap.size∧ProOk WR w11 s g i:=by
  obtain ⟨_,_,x1,x2⟩:=f6
  cases x1
  exact x2
 clear f3 f6
 go_loopg [7] n1 (fun g i wr=>∃ q:Nat,q≤n1∧g=n1-q∧i=.int .i64 q∧Alk WR w11 wr)
 case atStart=>exact ⟨0,Nat.zero_le _,rfl,rfl,by first | exact hK | exact hK.drew⟩
 case round =>
  obtain ⟨q,hq,rfl,rfl,hM⟩:=hrel
  obtain ⟨y0,y1,y2,y3,y4,y5,y6,y7⟩:=(hM.box q11 hnq).all
  skip
  by_cases hqL:q<n1
  ·have hqz:(q:Int)<(n1:Int):=by omega
   obtain ⟨g,o,rfl,hg,hc⟩:=hM.leaf f1 hqL
   obtain ⟨u,t1,t2⟩:=hc 0 (by omega)
   have hM2:=hM.set (o:=o+q*1+0) hg (.int .i64 (-5))
   rw [Nat.mul_one,Nat.add_zero] at t1 t2 hM2
   clear hM hc
   go_wp2
   go_roundg (n1-(q+1))
   case measure=>go_light;omega
   case rel=>go_light;exact ⟨q+1,by omega,rfl,by simp,by first | exact hM2 | exact hM2.drew⟩
  ·have hqz:¬ ((q:Int)<(n1:Int)):=by omega
   have hK:=hM
   clear hM
   go_wp2_with fail
   go_loopg [8] n4 (fun g i wr=>∃ k:Nat,k≤n4∧g=n4-k∧i=.int .i64 k∧Alk WR w11 wr)
   case atStart=>exact ⟨0,Nat.zero_le _,rfl,rfl,by first | exact hK | exact hK.drew⟩
   case round =>
    obtain ⟨k,hk,rfl,rfl,hM⟩:=hrel
    clear hK
    obtain ⟨y0,y1,y2,y3,y4,y5,y6,y7⟩:=(hM.box q11 hnq).all
    by_cases hkL:k<n4
    ·have hkz:(k:Int)<(n4:Int):=by omega
     obtain ⟨g3,ha3,hn3,hs3,u1,u2,u3,m1,m2,m3,l1,l2,l3⟩:=f3' k hkL
     have hlb:=hs.line _ (Go.Own.getD_mem (d:=li0) (show k<s.lines.length by omega))
     generalize (s.lines.getD k li0).units.length=L1 at *
     generalize (s.lines.getD k li0).noted.length=L2 at *
     generalize (s.lines.getD k li0).stages.length=L3 at *
     obtain ⟨z1,zc1,rfl,zz1⟩:=l1
     obtain ⟨z2,zc2,rfl,zz2⟩:=l2
     obtain ⟨z3,zc3,rfl,zz3⟩:=l3
     have l1:LeafOk WR w11 1 L1 (.slice z1 L1 zc1):=⟨_,_,rfl,zz1⟩
     have l2:LeafOk WR w11 1 L2 (.slice z2 L2 zc2):=⟨_,_,rfl,zz2⟩
     have l3:LeafOk WR w11 2 L3 (.slice z3 L3 zc3):=⟨_,_,rfl,zz3⟩
     clear zz1 zz2 zz3
     subst ha3
     have hK:=hM
     clear hM
     go_wp2_with fail
     clear y0 y1 y2 y3 y4 y5 y6 y7
     go_loopg [9] L1 (fun g i wr=>∃ q:Nat,q≤L1∧g=L1-q∧i=.int .i64 q∧Alk WR w11 wr)
     case atStart=>exact ⟨0,Nat.zero_le _,rfl,rfl,by first | exact hK | exact hK.drew⟩
     case round =>
      obtain ⟨q,hq,rfl,rfl,hM⟩:=hrel
      obtain ⟨y0,y1,y2,y3,y4,y5,y6,y7⟩:=(hM.box q11 hnq).all
      have t3:=(hM.cell (a:=⟨g3,_,none⟩) hn3).trans m1
      by_cases hqL:q<L1
      ·exact zt30
      ·have hqz:¬ ((q:Int)<(L1:Int)):=by omega
       have hK:=hM
       clear hM
       go_wp2_with fail
       go_loopg [10] L2 (fun g i wr=>∃ q:Nat,q≤L2∧g=L2-q∧i=.int .i64 q∧Alk WR w11 wr)
       case atStart=>exact ⟨0,Nat.zero_le _,rfl,rfl,by first | exact hK | exact hK.drew⟩
       case round =>
        obtain ⟨q,hq,rfl,rfl,hM⟩:=hrel
        obtain ⟨y0,y1,y2,y3,y4,y5,y6,y7⟩:=(hM.box q11 hnq).all
        have t3:=(hM.cell (a:=⟨g3,_,none⟩) hn3).trans m2
        by_cases hqL:q<L2
        ·have hqz:(q:Int)<(L2:Int):=by omega
         obtain ⟨g,o,rfl,hg,hc⟩:=hM.leaf l2 hqL
         obtain ⟨u,t1,t2⟩:=hc 0 (by omega)
         have hM2:=hM.set (o:=o+q*1+0) hg (.int .i64 (-5))
         rw [Nat.mul_one,Nat.add_zero] at t1 t2 hM2
         exact zt66
        ·have hqz:¬ ((q:Int)<(L2:Int)):=by omega
         have hK:=hM
         clear hM
         go_wp2_with fail
         go_loopg [11] L3 (fun g i wr=>∃ q:Nat,q≤L3∧g=L3-q∧i=.int .i64 q∧Alk WR w11 wr)
         case atStart=>exact ⟨0,Nat.zero_le _,rfl,rfl,by first | exact hK | exact hK.drew⟩
         case round =>
          obtain ⟨q,hq,rfl,rfl,hM⟩:=hrel
          obtain ⟨y0,y1,y2,y3,y4,y5,y6,y7⟩:=(hM.box q11 hnq).all
          have t3:=(hM.cell (a:=⟨g3,_,none⟩) hn3).trans m3
          by_cases hqL:q<L3
          ·have hqz:(q:Int)<(L3:Int):=by omega
           obtain ⟨g,o,rfl,hg,hc⟩:=hM.leaf l3 hqL
           obtain ⟨u,t1,t2⟩:=hc 0 (by omega)
           have hM2:=hM.set (o:=o+q*2+0) hg (.int .i64 (-5))
           rw [Nat.add_zero] at t1 t2 hM2
           clear hM hc
           go_wp2
           go_roundg (L3-(q+1))
           case measure=>go_light;omega
           case rel=>go_light;exact ⟨q+1,by omega,rfl,by simp,by first | exact hM2 | exact hM2.drew⟩
          ·have hqz:¬ ((q:Int)<(L3:Int)):=by omega
           have hK:=hM
           clear hM
           go_wp2_with fail
           go_roundg (n4-(k+1))
           case measure=>go_light;omega
           case rel=>go_light;exact ⟨k+1,by omega,rfl,by simp,by first | exact hK | exact hK.drew⟩
    ·have hkz:¬ ((k:Int)<(n4:Int)):=by omega
     have hK:=hM
     clear hM
     skip
     go_wp2_with fail
     clear y0 y1 y2 y3 y4 y5 y6 y7
     go_loopg [12] n6 (fun g i wr=>∃ q:Nat,q≤n6∧g=n6-q∧i=.int .i64 q∧Alk WR w11 wr)
     case atStart=>exact ⟨0,Nat.zero_le _,rfl,rfl,by first | exact hK | exact hK.drew⟩
     case round =>
      obtain ⟨q,hq,rfl,rfl,hM⟩:=hrel
      obtain ⟨y0,y1,y2,y3,y4,y5,y6,y7⟩:=(hM.box q11 hnq).all
      skip
      by_cases hqL:q<n6
      ·have hqz:(q:Int)<(n6:Int):=by omega
       obtain ⟨g,o,rfl,hg,hc⟩:=hM.leaf f5 hqL
       obtain ⟨u,t1,t2⟩:=hc 4 (by omega)
       have hM2:=hM.set (o:=o+q*6+4) hg (.int .i64 (-5))
       skip
       clear hM hc
       go_wp2
       go_roundg (n6-(q+1))
       case measure=>go_light;omega
       case rel=>go_light;exact ⟨q+1,by omega,rfl,by simp,by first | exact hM2 | exact hM2.drew⟩
      ·have hqz:¬ ((q:Int)<(n6:Int)):=by omega
       have hK:=hM
       clear hM
       go_wp2_with fail
       go_loopg [13] n7 (fun g i wr=>∃ k:Nat,k≤n7∧g=n7-k∧i=.int .i64 k∧Alk WR w11 wr)
       case atStart=>exact ⟨0,Nat.zero_le _,rfl,rfl,by first | exact hK | exact hK.drew⟩
       case round =>
        obtain ⟨k,hk,rfl,rfl,hM⟩:=hrel
        clear hK
        obtain ⟨y0,y1,y2,y3,y4,y5,y6,y7⟩:=(hM.box q11 hnq).all
        by_cases hkL:k<n7
        ·have hkz:(k:Int)<(n7:Int):=by omega
         obtain ⟨g3,ha3,hn3,hs3,u1,u2,m1,m2,l1,l2⟩:=f6' k hkL
         have hlb:=hs.proposal _ (Go.Own.getD_mem (d:=pr0) (show k<s.proposals.length by omega))
         generalize (s.proposals.getD k pr0).units.length=L1 at *
         generalize (s.proposals.getD k pr0).votes.length=L2 at *
         obtain ⟨z1,zc1,rfl,zz1⟩:=l1
         obtain ⟨z2,zc2,rfl,zz2⟩:=l2
         have l1:LeafOk WR w11 1 L1 (.slice z1 L1 zc1):=⟨_,_,rfl,zz1⟩
         have l2:LeafOk WR w11 3 L2 (.slice z2 L2 zc2):=⟨_,_,rfl,zz2⟩
         clear zz1 zz2
         subst ha3
         have hK:=hM
         clear hM
         go_wp2_with fail
         clear y0 y1 y2 y3 y4 y5 y6 y7
         go_loopg [14] L1 (fun g i wr=>∃ q:Nat,q≤L1∧g=L1-q∧i=.int .i64 q∧Alk WR w11 wr)
         case atStart=>exact ⟨0,Nat.zero_le _,rfl,rfl,by first | exact hK | exact hK.drew⟩
         case round =>
          obtain ⟨q,hq,rfl,rfl,hM⟩:=hrel
          obtain ⟨y0,y1,y2,y3,y4,y5,y6,y7⟩:=(hM.box q11 hnq).all
          have t3:=(hM.cell (a:=⟨g3,_,none⟩) hn3).trans m1
          by_cases hqL:q<L1
          ·exact zt30
          ·have hqz:¬ ((q:Int)<(L1:Int)):=by omega
           have hK:=hM
           clear hM
           go_wp2_with fail
           go_loopg [15] L2 (fun g i wr=>∃ q:Nat,q≤L2∧g=L2-q∧i=.int .i64 q∧Alk WR w11 wr)
           case atStart=>exact ⟨0,Nat.zero_le _,rfl,rfl,by first | exact hK | exact hK.drew⟩
           case round =>
            obtain ⟨q,hq,rfl,rfl,hM⟩:=hrel
            obtain ⟨y0,y1,y2,y3,y4,y5,y6,y7⟩:=(hM.box q11 hnq).all
            have t3:=(hM.cell (a:=⟨g3,_,none⟩) hn3).trans m2
            by_cases hqL:q<L2
            ·have hqz:(q:Int)<(L2:Int):=by omega
             obtain ⟨g,o,rfl,hg,hc⟩:=hM.leaf l2 hqL
             obtain ⟨u,t1,t2⟩:=hc 0 (by omega)
             have hM2:=hM.set (o:=o+q*3+0) hg (.int .i64 (-5))
             rw [Nat.add_zero] at t1 t2 hM2
             exact zt66
            ·have hqz:¬ ((q:Int)<(L2:Int)):=by omega
             have hK:=hM
             clear hM
             go_wp2_with fail
             go_roundg (n7-(k+1))
             case measure=>go_light;omega
             case rel=>go_light;exact ⟨k+1,by omega,rfl,by simp,by first | exact hK | exact hK.drew⟩
        ·have hkz:¬ ((k:Int)<(n7:Int)):=by omega
         have hK:=hM
         clear hM
         obtain ⟨u1,u2,u3,u4,u5⟩:=hA _ hK
         obtain ⟨x0,x1,x2,x3,x4,x5,x6,x7⟩:=u1.all
         obtain ⟨z0,z1,z2,z3,z4,z5,z6,z7⟩:=u2.all
         go_wp2_with fail
         clear y0 y1 y2 y3 y4 y5 y6 y7
         clear x0 x1 x2 x3 x4 x5 x6 x7 z0 z1 z2 z3 z4 z5 z6 z7
         go_at_call 12
         refine (k12ac _ _ u4 (u5 _ (Below.refl _ _)).1).mono ?_
         rintro e w12 ⟨rfl,hb12⟩
         obtain ⟨x0,x1,x2,x3,x4,x5,x6,x7⟩:=(u1.below hb12).all
         obtain ⟨z0,z1,z2,z3,z4,z5,z6,z7⟩:=(u3.below hb12).all
         have u6:=below_tr u4 hb12
         have u7:=(u5 _ hb12).2
         clear hA u5
         go_wp2_with fail
         go_at_call 12
         refine (k12ac _ _ u6 u7).mono ?_
         rintro e w13 ⟨rfl,hb13⟩
         have u8:=below_tr u6 hb13
         go_wp2
         go_ret
         exact ⟨rfl,u8⟩
end Go.Proofs.YtgaallgiaachlaaGreatDoor
