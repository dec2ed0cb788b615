import Derived.Test.YtgaallgiaachlaaGreatDoorCc
import Derived.Test.YtgaallgiaachlaaGreatDoorLc
import Derived.Shelf.Vars
import Derived.Lay
import Derived.Lib.LaidTab
import Derived.LaidLaws
import Derived.KernelRfl
import Derived.Test.YtgaallgiaachlaaGreatDoorRows
import Derived.Test.YtgaallgiaachlaaGreatDoorCb
namespace Go.Proofs.YtgaallgiaachlaaGreatDoor
open Go.Own
set_option maxHeartbeats 4000000
set_option maxRecDepth 100000
theorem mg {T:Type} {one:RS→T×RS} (h:∀ q,(one q).2.rest.length≤q.rest.length) (q:RS):∀ k,(dn one q k).1.rest.length≤q.rest.length
 | 0=>Nat.le_refl _
 | k+1=>by
  have ih:=mg h q k;have h1:=h (dn one q k).1;unfold dn;dsimp only;omega
theorem pX {T:Type} (one:RS→T×RS) (q:RS):∀ k,(dn one q k).2.length=k
 | 0=>rfl
 | k+1=>by
  unfold dn;rw [List.length_append,pX one q k];rfl
theorem jZ {T:Type} {one:RS→T×RS} (h:∀ q,(one q).2.rest.length≤q.rest.length) (q:RS):(bH one q).2.rest.length≤q.rest.length:=by
 have h1:=aZ q;unfold bH;split
 ·exact h1
 ·have:=mg h (ay q).2 (ay q).1.toNat;dsimp only;omega
theorem Y3 {p:Prop}(h:p:=by
 conv=>whnf
 refine ⟨y.1,rfl,(cW ?_)⟩;refine iO (cW ?_);have e1:acc++[y.1]=(Z (k+1)).2:=by rw [hsk]
 have e2:y.2.rest=(Z (k+1)).1.rest:=by rw [hsk]
 have e3:y.2.bad=(Z (k+1)).1.bad:=by rw [hsk]
 refine up (show k<n.toNat by omega) trivial ((aj [(0,.id 0),(1,.id 1),(2,.id 5)] rfl ⟨aQ,.fn _ _ _ _ _ fP fP,ah,kX,ah,ah,trivial⟩ ⟨⟨_,rfl,.cells _ _ _ _ rfl Oy rfl⟩,aB,⟨_,rfl,OL⟩,trivial⟩))):p:=h
theorem zQ {p:Prop} (h:p:=by dsimp only;omega):p:=h
theorem acV (q:RS) (hs:q.rest.length≤100000000000):jo Tryz.prog 123 [.ptr 0 0,.fn (.func 124) [] [.ptr 1 0]] [ro q,bx] 2 (fun vs bs es=>vs=[.sl 2 gy fG (bH gQ q).1]∧bs=[ro (bH gQ q).2,bx]∧es=[]):=by
 have l0:=aZ q;have g0:=gZ q hs;have n0:0≤(ay q).1:=(jS 59 0 q (by omega)).1;have hi:(ay q).1≤9223372036854775807:=uy 59 0 q;unfold bH;have hz:=fun k=>mg TM (ay q).2 k
 have hzn:=fun k=>pX gQ (ay q).2 k
 have hz0:dn gQ (ay q).2 0=((ay q).2,[]):=rfl;have hzs:∀ k,dn gQ (ay q).2 (k+1)=((gQ (dn gQ (ay q).2 k).1).2,(dn gQ (ay q).2 k).2++[(gQ (dn gQ (ay q).2 k).1).1]):=fun _=>rfl
 generalize ay q=x at *;obtain ⟨n,q1⟩:=x;have gl:=wC q1;dsimp only at l0 hz hz0 hzs hzn n0 hi ⊢;generalize dn gQ q1=Z at *;have hn:n.toNat=n:=Int.toNat_of_nonneg n0;refine rO (aJ 2 23 [0,1,4,5,6,12,13,14,15]) Tryz.func123 ?_;conv=>whnf
 refine .raw ([0]++[]) _ rfl (fun _=>⟨⟨_,[0]++[],_,_⟩,fun r'=>Iff.rfl,rfl⟩) (aF (g0) [0] [] rfl rfl ⟨rfl,trivial⟩ dS rfl (.inl rfl)) ?_;rintro _ rfl;refine ⟨aS _ _,(cW ?_)⟩;refine .raw ([0]++[]) _ rfl (fun _=>⟨⟨_,[0]++[],_,_⟩,fun r'=>Iff.rfl,rfl⟩) (aF (gl) [0] [] rfl rfl ⟨rfl,trivial⟩ dS rfl (.inl rfl)) ?_;rintro _ rfl;refine ⟨aS _ _,(cW ?_)⟩;refine ⟨fun hc=>?_,fun hc=>?_⟩
 ·have hc:(q1.rest.length:Int)<n:=of_decide_eq_true hc;rw [if_pos hc];conv=>whnf
  refine ⟨⟨[(4,.sl 2 gy fG [])],[(0,.cells 155 [.str q1.rest,.bool q1.bad]),(1,.cells 69 [.ptr 0 0])],2⟩,(aj [(0,.id 0),(1,.id 1)] rfl ⟨.base (.leT _ _ (g_.nils_sl 2 gy fG) rfl),trivial⟩ ⟨aB,aB,trivial⟩),rfl,rfl,?_⟩;exact dM
 have hc:¬ (q1.rest.length:Int)<n:=of_decide_eq_false hc;rw [if_neg hc];conv=>whnf
 refine aX (aJ _ _ _) n.toNat (fun _=>True) (fun k=>⟨[(0,.ptr 0 0),(1,.fn (.func 124) [] [.ptr 1 0]),(4,.nils),(6,.own 2),(13,.int .i64 n),(14,.int .i64 (k:Nat))],[(0,.cells 155 [.str (Z k).1.rest,.bool (Z k).1.bad]),(1,.cells 69 [.ptr 0 0]),(2,.row 61 2 gy fG (Z k).2)],3⟩) trivial (by
  rw [hz0];exact (aj [(0,.id 0),(1,.id 1),(2,.nil)] rfl ⟨aQ,.fn _ _ _ _ _ fP fP,ah,kX,ah,ah,trivial⟩ ⟨aB,aB,⟨_,rfl,jA⟩,trivial⟩)) ?_
 intro k hk _;have hzk:=hz k;have hnk:=hzn k;have hsk:=hzs k;generalize hzz:Z k=z at *;obtain ⟨⟨rr,rb⟩,acc⟩:=z;have hnk:acc.length=k:=hnk;dsimp only at hzk hsk;conv=>whnf
 refine ⟨fun hd=>?_,fun hd=>?_⟩
 ·have hd:(k:Int)<n:=of_decide_eq_true hd;have hone:=ai9 ⟨rr,rb⟩ zQ;dsimp only [ro] at hone;generalize gQ ⟨rr,rb⟩=y at *;conv=>whnf
  refine cR (hone) [0,1] (cW ?_);refine And.intro rfl (cW ?_);refine And.intro ⟨rfl,rfl⟩ (And.intro (show (acc.length+1)*16≤140737488355328 by omega) ?_);exact Y3
 ·have hd:¬ (k:Int)<n:=of_decide_eq_false hd;have hkn:n.toNat=k:=by omega
  rw [hkn,hzz];conv=>whnf
  refine ⟨⟨[(4,.sl 2 gy fG acc)],[(0,.cells 155 [.str rr,.bool rb]),(1,.cells 69 [.ptr 0 0])],2⟩,(dY [2]).trans (aj [(0,.id 0),(1,.id 1)] rfl ⟨ah,trivial⟩ ⟨aB,aB,trivial⟩),rfl,rfl,?_⟩;exact dM
theorem aa3 (q:RS) (hs:q.rest.length≤100000000000):jo Tryz.prog 127 [.ptr 0 0,.fn (.func 128) [] [.ptr 1 0]] [ro q,bx] 2 (fun vs bs es=>vs=[.sl 3 gu eU (bH jQ q).1]∧bs=[ro (bH jQ q).2,bx]∧es=[]):=by
 have l0:=aZ q;have g0:=gZ q hs;have n0:0≤(ay q).1:=(jS 59 0 q (by omega)).1;have hi:(ay q).1≤9223372036854775807:=uy 59 0 q;unfold bH;have hz:=fun k=>mg RJ (ay q).2 k
 have hzn:=fun k=>pX jQ (ay q).2 k
 have hz0:dn jQ (ay q).2 0=((ay q).2,[]):=rfl;have hzs:∀ k,dn jQ (ay q).2 (k+1)=((jQ (dn jQ (ay q).2 k).1).2,(dn jQ (ay q).2 k).2++[(jQ (dn jQ (ay q).2 k).1).1]):=fun _=>rfl
 generalize ay q=x at *;obtain ⟨n,q1⟩:=x;have gl:=wC q1;dsimp only at l0 hz hz0 hzs hzn n0 hi ⊢;generalize dn jQ q1=Z at *;have hn:n.toNat=n:=Int.toNat_of_nonneg n0;refine rO (aJ 2 23 [0,1,4,5,6,12,13,14,15]) Tryz.func127 ?_;conv=>whnf
 refine .raw ([0]++[]) _ rfl (fun _=>⟨⟨_,[0]++[],_,_⟩,fun r'=>Iff.rfl,rfl⟩) (aF (g0) [0] [] rfl rfl ⟨rfl,trivial⟩ dS rfl (.inl rfl)) ?_;rintro _ rfl;refine ⟨aS _ _,(cW ?_)⟩;refine .raw ([0]++[]) _ rfl (fun _=>⟨⟨_,[0]++[],_,_⟩,fun r'=>Iff.rfl,rfl⟩) (aF (gl) [0] [] rfl rfl ⟨rfl,trivial⟩ dS rfl (.inl rfl)) ?_;rintro _ rfl;refine ⟨aS _ _,(cW ?_)⟩;refine ⟨fun hc=>?_,fun hc=>?_⟩
 ·have hc:(q1.rest.length:Int)<n:=of_decide_eq_true hc;rw [if_pos hc];conv=>whnf
  refine ⟨⟨[(4,.sl 3 gu eU [])],[(0,.cells 155 [.str q1.rest,.bool q1.bad]),(1,.cells 69 [.ptr 0 0])],2⟩,(aj [(0,.id 0),(1,.id 1)] rfl ⟨.base (.leT _ _ (g_.nils_sl 3 gu eU) rfl),trivial⟩ ⟨aB,aB,trivial⟩),rfl,rfl,?_⟩;exact dM
 have hc:¬ (q1.rest.length:Int)<n:=of_decide_eq_false hc;rw [if_neg hc];conv=>whnf
 refine aX (aJ _ _ _) n.toNat (fun _=>True) (fun k=>⟨[(0,.ptr 0 0),(1,.fn (.func 128) [] [.ptr 1 0]),(4,.nils),(6,.own 2),(13,.int .i64 n),(14,.int .i64 (k:Nat))],[(0,.cells 155 [.str (Z k).1.rest,.bool (Z k).1.bad]),(1,.cells 69 [.ptr 0 0]),(2,.row 66 3 gu eU (Z k).2)],3⟩) trivial (by
  rw [hz0];exact (aj [(0,.id 0),(1,.id 1),(2,.nil)] rfl ⟨aQ,.fn _ _ _ _ _ fP fP,ah,kX,ah,ah,trivial⟩ ⟨aB,aB,⟨_,rfl,jA⟩,trivial⟩)) ?_
 intro k hk _;have hzk:=hz k;have hnk:=hzn k;have hsk:=hzs k;generalize hzz:Z k=z at *;obtain ⟨⟨rr,rb⟩,acc⟩:=z;have hnk:acc.length=k:=hnk;dsimp only at hzk hsk;conv=>whnf
 refine ⟨fun hd=>?_,fun hd=>?_⟩
 ·have hd:(k:Int)<n:=of_decide_eq_true hd;have hone:=aiY ⟨rr,rb⟩ zQ;dsimp only [ro] at hone;generalize jQ ⟨rr,rb⟩=y at *;conv=>whnf
  refine cR (hone) [0,1] (cW ?_);refine And.intro rfl (cW ?_);refine And.intro ⟨rfl,rfl⟩ (And.intro (show (acc.length+1)*24≤140737488355328 by omega) ?_);exact Y3
 ·have hd:¬ (k:Int)<n:=of_decide_eq_false hd;have hkn:n.toNat=k:=by omega
  rw [hkn,hzz];conv=>whnf
  refine ⟨⟨[(4,.sl 3 gu eU acc)],[(0,.cells 155 [.str rr,.bool rb]),(1,.cells 69 [.ptr 0 0])],2⟩,(dY [2]).trans (aj [(0,.id 0),(1,.id 1)] rfl ⟨ah,trivial⟩ ⟨aB,aB,trivial⟩),rfl,rfl,?_⟩;exact dM
theorem afd {p:Prop}(h:p:=by
 conv=>whnf
 refine cR (hone) [0,1] (cW ?_);refine And.intro rfl (cW ?_);refine And.intro ⟨rfl,rfl⟩ (And.intro (show (acc.length+1)*48≤140737488355328 by omega) ?_);exact Y3):p:=h
theorem acf (q:RS) (hs:q.rest.length≤100000000000):jo Tryz.prog 33 [.ptr 0 0,.fn (.func 34) [] [.ptr 1 0]] [ro q,bx] 2 (fun vs bs es=>vs=[.sl 5 eG fa0 (bH jU q).1]∧bs=[ro (bH jU q).2,bx]∧es=[]):=by
 have l0:=aZ q;have g0:=gZ q hs;have n0:0≤(ay q).1:=(jS 59 0 q (by omega)).1;have hi:(ay q).1≤9223372036854775807:=uy 59 0 q;unfold bH;have hz:=fun k=>mg GI (ay q).2 k
 have hzn:=fun k=>pX jU (ay q).2 k
 have hz0:dn jU (ay q).2 0=((ay q).2,[]):=rfl;have hzs:∀ k,dn jU (ay q).2 (k+1)=((jU (dn jU (ay q).2 k).1).2,(dn jU (ay q).2 k).2++[(jU (dn jU (ay q).2 k).1).1]):=fun _=>rfl
 generalize ay q=x at *;obtain ⟨n,q1⟩:=x;have gl:=wC q1;dsimp only at l0 hz hz0 hzs hzn n0 hi ⊢;generalize dn jU q1=Z at *;have hn:n.toNat=n:=Int.toNat_of_nonneg n0;refine rO (aJ 2 23 [0,1,4,5,6,12,13,14,15]) Tryz.func33 ?_;conv=>whnf
 refine .raw ([0]++[]) _ rfl (fun _=>⟨⟨_,[0]++[],_,_⟩,fun r'=>Iff.rfl,rfl⟩) (aF (g0) [0] [] rfl rfl ⟨rfl,trivial⟩ dS rfl (.inl rfl)) ?_;rintro _ rfl;refine ⟨aS _ _,(cW ?_)⟩;refine .raw ([0]++[]) _ rfl (fun _=>⟨⟨_,[0]++[],_,_⟩,fun r'=>Iff.rfl,rfl⟩) (aF (gl) [0] [] rfl rfl ⟨rfl,trivial⟩ dS rfl (.inl rfl)) ?_;rintro _ rfl;refine ⟨aS _ _,(cW ?_)⟩;refine ⟨fun hc=>?_,fun hc=>?_⟩
 ·have hc:(q1.rest.length:Int)<n:=of_decide_eq_true hc;rw [if_pos hc];conv=>whnf
  refine ⟨⟨[(4,.sl 5 eG fa0 [])],[(0,.cells 155 [.str q1.rest,.bool q1.bad]),(1,.cells 69 [.ptr 0 0])],2⟩,(aj [(0,.id 0),(1,.id 1)] rfl ⟨.base (.leT _ _ (g_.nils_sl 5 eG fa0) rfl),trivial⟩ ⟨aB,aB,trivial⟩),rfl,rfl,?_⟩;exact dM
 have hc:¬ (q1.rest.length:Int)<n:=of_decide_eq_false hc;rw [if_neg hc];conv=>whnf
 refine aX (aJ _ _ _) n.toNat (fun _=>True) (fun k=>⟨[(0,.ptr 0 0),(1,.fn (.func 34) [] [.ptr 1 0]),(4,.nils),(6,.own 2),(13,.int .i64 n),(14,.int .i64 (k:Nat))],[(0,.cells 155 [.str (Z k).1.rest,.bool (Z k).1.bad]),(1,.cells 69 [.ptr 0 0]),(2,.row 41 5 eG fa0 (Z k).2)],3⟩) trivial (by
  rw [hz0];exact (aj [(0,.id 0),(1,.id 1),(2,.nil)] rfl ⟨aQ,.fn _ _ _ _ _ fP fP,ah,kX,ah,ah,trivial⟩ ⟨aB,aB,⟨_,rfl,jA⟩,trivial⟩)) ?_
 intro k hk _;have hzk:=hz k;have hnk:=hzn k;have hsk:=hzs k;generalize hzz:Z k=z at *;obtain ⟨⟨rr,rb⟩,acc⟩:=z;have hnk:acc.length=k:=hnk;dsimp only at hzk hsk;conv=>whnf
 refine ⟨fun hd=>?_,fun hd=>?_⟩
 ·have hd:(k:Int)<n:=of_decide_eq_true hd;have hone:=aiU ⟨rr,rb⟩ zQ;dsimp only [ro] at hone;generalize jU ⟨rr,rb⟩=y at *;exact afd
 ·have hd:¬ (k:Int)<n:=of_decide_eq_false hd;have hkn:n.toNat=k:=by omega
  rw [hkn,hzz];conv=>whnf
  refine ⟨⟨[(4,.sl 5 eG fa0 acc)],[(0,.cells 155 [.str rr,.bool rb]),(1,.cells 69 [.ptr 0 0])],2⟩,(dY [2]).trans (aj [(0,.id 0),(1,.id 1)] rfl ⟨ah,trivial⟩ ⟨aB,aB,trivial⟩),rfl,rfl,?_⟩;exact dM
theorem ace (q:RS) (hs:q.rest.length≤100000000000):jo Tryz.prog 36 [.ptr 0 0,.fn (.func 37) [] [.ptr 1 0]] [ro q,bx] 2 (fun vs bs es=>vs=[.sl 6 fZ pa0 (bH kG q).1]∧bs=[ro (bH kG q).2,bx]∧es=[]):=by
 have l0:=aZ q;have g0:=gZ q hs;have n0:0≤(ay q).1:=(jS 59 0 q (by omega)).1;have hi:(ay q).1≤9223372036854775807:=uy 59 0 q;unfold bH;have hz:=fun k=>mg LK (ay q).2 k
 have hzn:=fun k=>pX kG (ay q).2 k
 have hz0:dn kG (ay q).2 0=((ay q).2,[]):=rfl;have hzs:∀ k,dn kG (ay q).2 (k+1)=((kG (dn kG (ay q).2 k).1).2,(dn kG (ay q).2 k).2++[(kG (dn kG (ay q).2 k).1).1]):=fun _=>rfl
 generalize ay q=x at *;obtain ⟨n,q1⟩:=x;have gl:=wC q1;dsimp only at l0 hz hz0 hzs hzn n0 hi ⊢;generalize dn kG q1=Z at *;have hn:n.toNat=n:=Int.toNat_of_nonneg n0;refine rO (aJ 2 23 [0,1,4,5,6,12,13,14,15]) Tryz.func36 ?_;conv=>whnf
 refine .raw ([0]++[]) _ rfl (fun _=>⟨⟨_,[0]++[],_,_⟩,fun r'=>Iff.rfl,rfl⟩) (aF (g0) [0] [] rfl rfl ⟨rfl,trivial⟩ dS rfl (.inl rfl)) ?_;rintro _ rfl;refine ⟨aS _ _,(cW ?_)⟩;refine .raw ([0]++[]) _ rfl (fun _=>⟨⟨_,[0]++[],_,_⟩,fun r'=>Iff.rfl,rfl⟩) (aF (gl) [0] [] rfl rfl ⟨rfl,trivial⟩ dS rfl (.inl rfl)) ?_;rintro _ rfl;refine ⟨aS _ _,(cW ?_)⟩;refine ⟨fun hc=>?_,fun hc=>?_⟩
 ·have hc:(q1.rest.length:Int)<n:=of_decide_eq_true hc;rw [if_pos hc];conv=>whnf
  refine ⟨⟨[(4,.sl 6 fZ pa0 [])],[(0,.cells 155 [.str q1.rest,.bool q1.bad]),(1,.cells 69 [.ptr 0 0])],2⟩,(aj [(0,.id 0),(1,.id 1)] rfl ⟨.base (.leT _ _ (g_.nils_sl 6 fZ pa0) rfl),trivial⟩ ⟨aB,aB,trivial⟩),rfl,rfl,?_⟩;exact dM
 have hc:¬ (q1.rest.length:Int)<n:=of_decide_eq_false hc;rw [if_neg hc];conv=>whnf
 refine aX (aJ _ _ _) n.toNat (fun _=>True) (fun k=>⟨[(0,.ptr 0 0),(1,.fn (.func 37) [] [.ptr 1 0]),(4,.nils),(6,.own 2),(13,.int .i64 n),(14,.int .i64 (k:Nat))],[(0,.cells 155 [.str (Z k).1.rest,.bool (Z k).1.bad]),(1,.cells 69 [.ptr 0 0]),(2,.row 43 6 fZ pa0 (Z k).2)],3⟩) trivial (by
  rw [hz0];exact (aj [(0,.id 0),(1,.id 1),(2,.nil)] rfl ⟨aQ,.fn _ _ _ _ _ fP fP,ah,kX,ah,ah,trivial⟩ ⟨aB,aB,⟨_,rfl,jA⟩,trivial⟩)) ?_
 intro k hk _;have hzk:=hz k;have hnk:=hzn k;have hsk:=hzs k;generalize hzz:Z k=z at *;obtain ⟨⟨rr,rb⟩,acc⟩:=z;have hnk:acc.length=k:=hnk;dsimp only at hzk hsk;conv=>whnf
 refine ⟨fun hd=>?_,fun hd=>?_⟩
 ·have hd:(k:Int)<n:=of_decide_eq_true hd;have hone:=aji ⟨rr,rb⟩ zQ;dsimp only [ro] at hone;generalize kG ⟨rr,rb⟩=y at *;exact afd
 ·have hd:¬ (k:Int)<n:=of_decide_eq_false hd;have hkn:n.toNat=k:=by omega
  rw [hkn,hzz];conv=>whnf
  refine ⟨⟨[(4,.sl 6 fZ pa0 acc)],[(0,.cells 155 [.str rr,.bool rb]),(1,.cells 69 [.ptr 0 0])],2⟩,(dY [2]).trans (aj [(0,.id 0),(1,.id 1)] rfl ⟨ah,trivial⟩ ⟨aB,aB,trivial⟩),rfl,rfl,?_⟩;exact dM
theorem Uc (q:RS) (hs:q.rest.length≤100000000000):jo Tryz.prog 28 [.ptr 0 0,.fn (.func 27) [.ptr 0 0] []] [ro q] 1 (fun vs bs es=>vs=[.sl 1 encI 0 (bH ay q).1]∧bs=[ro (bH ay q).2]∧es=[]):=by
 have l0:=aZ q;have g0:=gZ q hs;have n0:0≤(ay q).1:=(jS 59 0 q (by omega)).1;have hi:(ay q).1≤9223372036854775807:=uy 59 0 q;unfold bH;have hz:=fun k=>mg aZ (ay q).2 k
 have hzn:=fun k=>pX ay (ay q).2 k
 have hz0:dn ay (ay q).2 0=((ay q).2,[]):=rfl;have hzs:∀ k,dn ay (ay q).2 (k+1)=((ay (dn ay (ay q).2 k).1).2,(dn ay (ay q).2 k).2++[(ay (dn ay (ay q).2 k).1).1]):=fun _=>rfl
 generalize ay q=x at *;obtain ⟨n,q1⟩:=x;have gl:=wC q1;dsimp only at l0 hz hz0 hzs hzn n0 hi ⊢;generalize dn ay q1=Z at *;have hn:n.toNat=n:=Int.toNat_of_nonneg n0;refine rO (aJ 1 23 [0,1,4,5,6,12,13,14,15]) Tryz.func28 ?_;conv=>whnf
 refine .raw ([0]++[]) _ rfl (fun _=>⟨⟨_,[0]++[],_,_⟩,fun r'=>Iff.rfl,rfl⟩) (aF (g0) [0] [] rfl rfl ⟨rfl,trivial⟩ dS rfl (.inl rfl)) ?_;rintro _ rfl;refine ⟨aS _ _,(cW ?_)⟩;refine .raw ([0]++[]) _ rfl (fun _=>⟨⟨_,[0]++[],_,_⟩,fun r'=>Iff.rfl,rfl⟩) (aF (gl) [0] [] rfl rfl ⟨rfl,trivial⟩ dS rfl (.inl rfl)) ?_;rintro _ rfl;refine ⟨aS _ _,(cW ?_)⟩;refine ⟨fun hc=>?_,fun hc=>?_⟩
 ·have hc:(q1.rest.length:Int)<n:=of_decide_eq_true hc;rw [if_pos hc];conv=>whnf
  refine ⟨⟨[(4,.sl 1 encI 0 [])],[(0,.cells 155 [.str q1.rest,.bool q1.bad])],1⟩,(aj [(0,.id 0)] rfl ⟨.base (.leT _ _ (g_.nils_sl 1 encI 0) rfl),trivial⟩ ⟨aB,trivial⟩),rfl,rfl,?_⟩;exact dM
 have hc:¬ (q1.rest.length:Int)<n:=of_decide_eq_false hc;rw [if_neg hc];conv=>whnf
 refine aX (aJ _ _ _) n.toNat (fun _=>True) (fun k=>⟨[(0,.ptr 0 0),(1,.fn (.func 27) [.ptr 0 0] []),(4,.nils),(6,.own 1),(13,.int .i64 n),(14,.int .i64 (k:Nat))],[(0,.cells 155 [.str (Z k).1.rest,.bool (Z k).1.bad]),(1,.row 3 1 encI 0 (Z k).2)],2⟩) trivial (by
  rw [hz0];exact (aj [(0,.id 0),(1,.nil)] rfl ⟨aQ,.fn _ _ _ _ _ fP fP,ah,kX,ah,ah,trivial⟩ ⟨aB,⟨_,rfl,jA⟩,trivial⟩)) ?_
 intro k hk _;have hzk:=hz k;have hnk:=hzn k;have hsk:=hzs k;generalize hzz:Z k=z at *;obtain ⟨⟨rr,rb⟩,acc⟩:=z;have hnk:acc.length=k:=hnk;dsimp only at hzk hsk;conv=>whnf
 refine ⟨fun hd=>?_,fun hd=>?_⟩
 ·have hd:(k:Int)<n:=of_decide_eq_true hd;have hone:=gZ ⟨rr,rb⟩ zQ;dsimp only [ro] at hone;generalize ay ⟨rr,rb⟩=y at *;conv=>whnf
  refine .raw ([0]++[]) _ rfl (fun _=>⟨⟨_,[0]++[],_,_⟩,fun r'=>Iff.rfl,rfl⟩) (aF (hone) [0] [] rfl rfl ⟨rfl,trivial⟩ dS rfl (.inl rfl)) ?_;rintro _ rfl;refine ⟨aS _ _,(cW ?_)⟩;refine And.intro rfl (cW ?_);refine And.intro ⟨rfl,rfl⟩ (And.intro (show (acc.length+1)*8≤140737488355328 by omega) (cW ?_));refine ⟨y.1,rfl,(cW ?_)⟩;refine iO (cW ?_);have e1:acc++[y.1]=(Z (k+1)).2:=by rw [hsk]
  have e2:y.2.rest=(Z (k+1)).1.rest:=by rw [hsk]
  have e3:y.2.bad=(Z (k+1)).1.bad:=by rw [hsk]
  refine up (show k<n.toNat by omega) trivial ((aj [(0,.id 0),(1,.id 3)] rfl ⟨aQ,.fn _ _ _ _ _ fP fP,ah,kX,ah,ah,trivial⟩ ⟨⟨_,rfl,.cells _ _ _ _ rfl Oy rfl⟩,⟨_,rfl,OL⟩,trivial⟩))
 ·have hd:¬ (k:Int)<n:=of_decide_eq_false hd;have hkn:n.toNat=k:=by omega
  rw [hkn,hzz];conv=>whnf
  refine ⟨⟨[(4,.sl 1 encI 0 acc)],[(0,.cells 155 [.str rr,.bool rb])],1⟩,(dY [1]).trans (aj [(0,.id 0)] rfl ⟨ah,trivial⟩ ⟨aB,trivial⟩),rfl,rfl,?_⟩;exact dM
theorem rG (q:RS):(bD aC q).2.rest.length≤q.rest.length:=by
 have h1:=(jS 91 0 q (Int.le_refl _)).2;have h2:=Ey DR (bW 91 0 q).2 (bW 91 0 q).1.toNat;unfold bD og;dsimp only;cases hc:fC [93] (gJ aC (bW 91 0 q).2 (bW 91 0 q).1.toNat).1.rest with
 | none=>simp
 | some r =>
  have:=Ph hc;dsimp only;omega
theorem Wp (q:RS) (hs:q.rest.length≤100000000000):jo Tryz.prog 122 [.ptr 0 0] [ro q] 1 (fun vs bs es=>vs=[.sl 1 encI 0 (bD aC q).1]∧bs=[ro (bD aC q).2]∧es=[]):=by
 have h:=ZW q (by omega) (abb q (by omega));unfold bD;dsimp only;generalize og aC q=x at *;obtain ⟨_ | l,q1⟩:=x
 ·dsimp only [acw] at h;refine rO (aJ 1 7 [0,2]) Tryz.func122 ?_;conv=>whnf
  refine .raw _ _ rfl (fun h=>by cases h) (dJ (h) [0] _ rfl rfl ⟨rfl,trivial⟩ qg rfl qh) ?_;rintro w ⟨b',rs,⟨rfl,rfl⟩,rfl⟩;refine ⟨aS _ _,(cW ?_)⟩;refine ⟨⟨[(2,.sl 1 encI 0 [])],[(0,.cells 155 [.str q1.rest,.bool q1.bad])],1⟩,(aj [(0,.id 0)] rfl ⟨.base (.leT _ _ (g_.nils_sl 1 encI 0) rfl),trivial⟩ ⟨aB,trivial⟩),rfl,rfl,?_⟩;exact dM
 ·dsimp only [acw] at h;refine rO (aJ 1 7 [0,2]) Tryz.func122 ?_;conv=>whnf
  refine .raw _ _ rfl (fun h=>by cases h) (dJ (h) [0] _ rfl rfl ⟨rfl,trivial⟩ qg rfl qh) ?_;rintro w ⟨b',rs,⟨rfl,rfl⟩,rfl⟩;refine ⟨aS _ _,(cW ?_)⟩;refine ⟨⟨[(2,.sl 1 encI 0 l)],[(0,.cells 155 [.str q1.rest,.bool q1.bad])],1⟩,(dY [1]).trans (aj [(0,.id 0)] rfl ⟨ah,trivial⟩ ⟨aB,trivial⟩),rfl,rfl,?_⟩;exact dM
theorem Zb (q:RS):(bH gQ q).2.rest.length≤q.rest.length:=jZ TM q
theorem YV (q:RS):(bH jQ q).2.rest.length≤q.rest.length:=jZ RJ q
abbrev Df (b:Lin):List AV:=[.str b.text,.sl 1 encI 0 b.units,.sl 1 encI 0 b.noted,.int .i64 b.notedAt,.sl 2 gy fG b.stages,.int .i64 b.fast,.int .i64 b.called,.int .i64 b.price,.bool b.ended,.int .i64 b.since]
theorem ajr (q:RS) (hs:q.rest.length≤100000000000):jo Tryz.prog 32 [.ptr 0 0] [ro q] 1 (fun vs bs es=>vs=[dW (iM q).1]∧bs=[ro (iM q).2]∧es=[.cells 47 (Df (iM q).1)]):=by
 have l1:=tV q;have g1:=Tt q (by omega);have l2:=rG (bC q).2;have g2:=Wp (bC q).2 (by omega);have l3:=rG (bD aC (bC q).2).2;have g3:=Wp (bD aC (bC q).2).2 (by omega);have l4:=nJ (bD aC (bD aC (bC q).2).2).2;have g4:=H6 (bD aC (bD aC (bC q).2).2).2 (by omega);have l5:=Zb (aC (bD aC (bD aC (bC q).2).2).2).2;have g5:=acV (aC (bD aC (bD aC (bC q).2).2).2).2 (by omega);have l6:=nJ (bH gQ (aC (bD aC (bD aC (bC q).2).2).2).2).2;have g6:=H6 (bH gQ (aC (bD aC (bD aC (bC q).2).2).2).2).2 (by omega);have l7:=nJ (aC (bH gQ (aC (bD aC (bD aC (bC q).2).2).2).2).2).2;have g7:=H6 (aC (bH gQ (aC (bD aC (bD aC (bC q).2).2).2).2).2).2 (by omega);have l8:=aZ (aC (aC (bH gQ (aC (bD aC (bD aC (bC q).2).2).2).2).2).2).2;have g8:=gZ (aC (aC (bH gQ (aC (bD aC (bD aC (bC q).2).2).2).2).2).2).2 (by omega);have l9:=aZ (ay (aC (aC (bH gQ (aC (bD aC (bD aC (bC q).2).2).2).2).2).2).2).2;have g9:=gZ (ay (aC (aC (bH gQ (aC (bD aC (bD aC (bC q).2).2).2).2).2).2).2).2 (by omega);have l10:=aZ (ay (ay (aC (aC (bH gQ (aC (bD aC (bD aC (bC q).2).2).2).2).2).2).2).2).2;have g10:=gZ (ay (ay (aC (aC (bH gQ (aC (bD aC (bD aC (bC q).2).2).2).2).2).2).2).2).2 (by omega);unfold iM;dsimp only;generalize ay (ay (ay (aC (aC (bH gQ (aC (bD aC (bD aC (bC q).2).2).2).2).2).2).2).2).2=x10 at *;generalize ay (ay (aC (aC (bH gQ (aC (bD aC (bD aC (bC q).2).2).2).2).2).2).2).2=x9 at *;generalize ay (aC (aC (bH gQ (aC (bD aC (bD aC (bC q).2).2).2).2).2).2).2=x8 at *;generalize aC (aC (bH gQ (aC (bD aC (bD aC (bC q).2).2).2).2).2).2=x7 at *;generalize aC (bH gQ (aC (bD aC (bD aC (bC q).2).2).2).2).2=x6 at *;generalize bH gQ (aC (bD aC (bD aC (bC q).2).2).2).2=x5 at *;generalize aC (bD aC (bD aC (bC q).2).2).2=x4 at *;generalize bD aC (bD aC (bC q).2).2=x3 at *;generalize bD aC (bC q).2=x2 at *;generalize bC q=x1 at *;refine rO (aJ 1 36 [0,1,2]) Tryz.func32 ?_;conv=>whnf
 refine .raw ([0]++[]) _ rfl (fun _=>⟨⟨_,[0]++[],_,_⟩,fun r'=>Iff.rfl,rfl⟩) (aF (g1) [0] [] rfl rfl ⟨rfl,trivial⟩ dS rfl (.inl rfl)) ?_;rintro _ rfl;refine ⟨aS _ _,(cW ?_)⟩;refine .eff ad0 (cW ?_);refine cR (g2) [0] (cW ?_);refine cR (g3) [0] (cW ?_);refine ⟨by kernel_rfl,(cW ?_)⟩;refine .raw ([0]++[]) _ rfl (fun _=>⟨⟨_,[0]++[],_,_⟩,fun r'=>Iff.rfl,rfl⟩) (aF (g4) [0] [] rfl rfl ⟨rfl,trivial⟩ dS rfl (.inl rfl)) ?_;rintro _ rfl;refine ⟨aS _ _,(cW ?_)⟩;refine cR (g5) [0,1] (cW ?_);refine .eff ad0 (cW ?_);refine .raw ([0]++[]) _ rfl (fun _=>⟨⟨_,[0]++[],_,_⟩,fun r'=>Iff.rfl,rfl⟩) (aF (g6) [0] [] rfl rfl ⟨rfl,trivial⟩ dS rfl (.inl rfl)) ?_;rintro _ rfl;refine ⟨aS _ _,(cW ?_)⟩;refine .raw ([0]++[]) _ rfl (fun _=>⟨⟨_,[0]++[],_,_⟩,fun r'=>Iff.rfl,rfl⟩) (aF (g7) [0] [] rfl rfl ⟨rfl,trivial⟩ dS rfl (.inl rfl)) ?_;rintro _ rfl;refine ⟨aS _ _,(cW ?_)⟩;refine ⟨by kernel_rfl,(cW ?_)⟩;refine .raw ([0]++[]) _ rfl (fun _=>⟨⟨_,[0]++[],_,_⟩,fun r'=>Iff.rfl,rfl⟩) (aF (g8) [0] [] rfl rfl ⟨rfl,trivial⟩ dS rfl (.inl rfl)) ?_;rintro _ rfl;refine ⟨aS _ _,(cW ?_)⟩;refine .raw ([0]++[]) _ rfl (fun _=>⟨⟨_,[0]++[],_,_⟩,fun r'=>Iff.rfl,rfl⟩) (aF (g9) [0] [] rfl rfl ⟨rfl,trivial⟩ dS rfl (.inl rfl)) ?_;rintro _ rfl;refine ⟨aS _ _,(cW ?_)⟩;refine .raw ([0]++[]) _ rfl (fun _=>⟨⟨_,[0]++[],_,_⟩,fun r'=>Iff.rfl,rfl⟩) (aF (g10) [0] [] rfl rfl ⟨rfl,trivial⟩ dS rfl (.inl rfl)) ?_;rintro _ rfl;refine ⟨aS _ _,(cW ?_)⟩;refine ⟨⟨[(2,.ptr 1 0)],[(0,.cells 155 [.str x10.2.rest,.bool x10.2.bad]),(1,.cells 47 [.str x1.1,.sl 1 encI 0 x2.1,.sl 1 encI 0 x3.1,.int .i64 x4.1,.sl 2 gy fG x5.1,.int .i64 x6.1,.int .i64 x7.1,.int .i64 x8.1,.bool (decide (x9.1=1)),.int .i64 x10.1])],2⟩,(aj [(0,.id 0),(1,.id 2)] rfl ⟨aQ,trivial⟩ ⟨aB,aB,trivial⟩),rfl,rfl,?_⟩;exact dM
theorem Ig (q:RS):(iM q).2.rest.length≤q.rest.length:=by
 have l1:=tV q;have l2:=rG (bC q).2;have l3:=rG (bD aC (bC q).2).2;have l4:=nJ (bD aC (bD aC (bC q).2).2).2;have l5:=Zb (aC (bD aC (bD aC (bC q).2).2).2).2;have l6:=nJ (bH gQ (aC (bD aC (bD aC (bC q).2).2).2).2).2;have l7:=nJ (aC (bH gQ (aC (bD aC (bD aC (bC q).2).2).2).2).2).2;have l8:=aZ (aC (aC (bH gQ (aC (bD aC (bD aC (bC q).2).2).2).2).2).2).2;have l9:=aZ (ay (aC (aC (bH gQ (aC (bD aC (bD aC (bC q).2).2).2).2).2).2).2).2;have l10:=aZ (ay (ay (aC (aC (bH gQ (aC (bD aC (bD aC (bC q).2).2).2).2).2).2).2).2).2;unfold iM;dsimp only;omega
theorem aiO (q:RS) (hs:q.rest.length≤100000000000):jo Tryz.prog 31 [.ptr 1 0] [ro q,bx] 2 (fun vs bs es=>vs=[dW (iM q).1]∧bs=[ro (iM q).2,bx]∧es=[.cells 47 (Df (iM q).1)]):=by
 have g:=ajr q hs;generalize iM q=x at *;obtain ⟨b,q1⟩:=x;refine rO (aJ 2 4 [0,1]) Tryz.func31 ?_;conv=>whnf
 refine cR (g) [0] (cW ?_);refine ⟨⟨[(1,.ptr 2 0)],[(0,.cells 155 [.str q1.rest,.bool q1.bad]),(1,.cells 69 [.ptr 0 0]),(2,.cells 47 [.str b.text,.sl 1 encI 0 b.units,.sl 1 encI 0 b.noted,.int .i64 b.notedAt,.sl 2 gy fG b.stages,.int .i64 b.fast,.int .i64 b.called,.int .i64 b.price,.bool b.ended,.int .i64 b.since])],3⟩,(aj [(0,.id 0),(1,.id 1),(2,.id 2)] rfl ⟨aQ,trivial⟩ ⟨aB,aB,aB,trivial⟩),rfl,rfl,?_⟩;exact dM
abbrev CQ (b:Pro):List AV:=[.int .i64 b.issue,.str b.text,.int .i64 b.day,.sl 1 encI 0 b.units,.sl 3 gu eU b.votes,.bool b.closed]
theorem aiJ (q:RS) (hs:q.rest.length≤100000000000):jo Tryz.prog 40 [.ptr 0 0] [ro q] 1 (fun vs bs es=>vs=[eF (iU q).1]∧bs=[ro (iU q).2]∧es=[.cells 64 (CQ (iU q).1)]):=by
 have l1:=aZ q;have g1:=gZ q (by omega);have l2:=tV (ay q).2;have g2:=Tt (ay q).2 (by omega);have l3:=aZ (bC (ay q).2).2;have g3:=gZ (bC (ay q).2).2 (by omega);have l4:=rG (ay (bC (ay q).2).2).2;have g4:=Wp (ay (bC (ay q).2).2).2 (by omega);have l5:=YV (bD aC (ay (bC (ay q).2).2).2).2;have g5:=aa3 (bD aC (ay (bC (ay q).2).2).2).2 (by omega);have l6:=aZ (bH jQ (bD aC (ay (bC (ay q).2).2).2).2).2;have g6:=gZ (bH jQ (bD aC (ay (bC (ay q).2).2).2).2).2 (by omega);unfold iU;dsimp only;generalize ay (bH jQ (bD aC (ay (bC (ay q).2).2).2).2).2=x6 at *;generalize bH jQ (bD aC (ay (bC (ay q).2).2).2).2=x5 at *;generalize bD aC (ay (bC (ay q).2).2).2=x4 at *;generalize ay (bC (ay q).2).2=x3 at *;generalize bC (ay q).2=x2 at *;generalize ay q=x1 at *;refine rO (aJ 1 24 [0,1,2]) Tryz.func40 ?_;conv=>whnf
 refine .raw ([0]++[]) _ rfl (fun _=>⟨⟨_,[0]++[],_,_⟩,fun r'=>Iff.rfl,rfl⟩) (aF (g1) [0] [] rfl rfl ⟨rfl,trivial⟩ dS rfl (.inl rfl)) ?_;rintro _ rfl;refine ⟨aS _ _,(cW ?_)⟩;refine .raw ([0]++[]) _ rfl (fun _=>⟨⟨_,[0]++[],_,_⟩,fun r'=>Iff.rfl,rfl⟩) (aF (g2) [0] [] rfl rfl ⟨rfl,trivial⟩ dS rfl (.inl rfl)) ?_;rintro _ rfl;refine ⟨aS _ _,(cW ?_)⟩;refine .raw ([0]++[]) _ rfl (fun _=>⟨⟨_,[0]++[],_,_⟩,fun r'=>Iff.rfl,rfl⟩) (aF (g3) [0] [] rfl rfl ⟨rfl,trivial⟩ dS rfl (.inl rfl)) ?_;rintro _ rfl;refine ⟨aS _ _,(cW ?_)⟩;refine cR (g4) [0] (cW ?_);refine cR (g5) [0,1] (cW ?_);refine .raw ([0]++[]) _ rfl (fun _=>⟨⟨_,[0]++[],_,_⟩,fun r'=>Iff.rfl,rfl⟩) (aF (g6) [0] [] rfl rfl ⟨rfl,trivial⟩ dS rfl (.inl rfl)) ?_;rintro _ rfl;refine ⟨aS _ _,(cW ?_)⟩;refine ⟨⟨[(2,.ptr 1 0)],[(0,.cells 155 [.str x6.2.rest,.bool x6.2.bad]),(1,.cells 64 [.int .i64 x1.1,.str x2.1,.int .i64 x3.1,.sl 1 encI 0 x4.1,.sl 3 gu eU x5.1,.bool (decide (x6.1=1))])],2⟩,(aj [(0,.id 0),(1,.id 2)] rfl ⟨aQ,trivial⟩ ⟨aB,aB,trivial⟩),rfl,rfl,?_⟩;exact dM
theorem K_ (q:RS):(iU q).2.rest.length≤q.rest.length:=by
 have l1:=aZ q;have l2:=tV (ay q).2;have l3:=aZ (bC (ay q).2).2;have l4:=rG (ay (bC (ay q).2).2).2;have l5:=YV (bD aC (ay (bC (ay q).2).2).2).2;have l6:=aZ (bH jQ (bD aC (ay (bC (ay q).2).2).2).2).2;unfold iU;dsimp only;omega
theorem ai1 (q:RS) (hs:q.rest.length≤100000000000):jo Tryz.prog 39 [.ptr 1 0] [ro q,bx] 2 (fun vs bs es=>vs=[eF (iU q).1]∧bs=[ro (iU q).2,bx]∧es=[.cells 64 (CQ (iU q).1)]):=by
 have g:=aiJ q hs;generalize iU q=x at *;obtain ⟨b,q1⟩:=x;refine rO (aJ 2 4 [0,1]) Tryz.func39 ?_;conv=>whnf
 refine cR (g) [0] (cW ?_);refine ⟨⟨[(1,.ptr 2 0)],[(0,.cells 155 [.str q1.rest,.bool q1.bad]),(1,.cells 69 [.ptr 0 0]),(2,.cells 64 [.int .i64 b.issue,.str b.text,.int .i64 b.day,.sl 1 encI 0 b.units,.sl 3 gu eU b.votes,.bool b.closed])],3⟩,(aj [(0,.id 0),(1,.id 1),(2,.id 2)] rfl ⟨aQ,trivial⟩ ⟨aB,aB,aB,trivial⟩),rfl,rfl,?_⟩;exact dM
theorem abB (q:RS) (hs:q.rest.length≤100000000000):jo Tryz.prog 30 [.ptr 0 0,.fn (.func 31) [] [.ptr 1 0]] [ro q,bx] 2 (fun vs bs es=>vs=[.sl 10 dW eP (bH iM q).1]∧bs=[ro (bH iM q).2,bx]∧es=[]):=by
 have l0:=aZ q;have g0:=gZ q hs;have n0:0≤(ay q).1:=(jS 59 0 q (by omega)).1;have hi:(ay q).1≤9223372036854775807:=uy 59 0 q;unfold bH;have hz:=fun k=>mg Ig (ay q).2 k
 have hzn:=fun k=>pX iM (ay q).2 k
 have hz0:dn iM (ay q).2 0=((ay q).2,[]):=rfl;have hzs:∀ k,dn iM (ay q).2 (k+1)=((iM (dn iM (ay q).2 k).1).2,(dn iM (ay q).2 k).2++[(iM (dn iM (ay q).2 k).1).1]):=fun _=>rfl
 generalize ay q=x at *;obtain ⟨n,q1⟩:=x;have gl:=wC q1;dsimp only at l0 hz hz0 hzs hzn n0 hi ⊢;generalize dn iM q1=Z at *;have hn:n.toNat=n:=Int.toNat_of_nonneg n0;refine rO (aJ 2 23 [0,1,4,5,6,12,13,14,15]) Tryz.func30 ?_;conv=>whnf
 refine .raw ([0]++[]) _ rfl (fun _=>⟨⟨_,[0]++[],_,_⟩,fun r'=>Iff.rfl,rfl⟩) (aF (g0) [0] [] rfl rfl ⟨rfl,trivial⟩ dS rfl (.inl rfl)) ?_;rintro _ rfl;refine ⟨aS _ _,(cW ?_)⟩;refine .raw ([0]++[]) _ rfl (fun _=>⟨⟨_,[0]++[],_,_⟩,fun r'=>Iff.rfl,rfl⟩) (aF (gl) [0] [] rfl rfl ⟨rfl,trivial⟩ dS rfl (.inl rfl)) ?_;rintro _ rfl;refine ⟨aS _ _,(cW ?_)⟩;refine ⟨fun hc=>?_,fun hc=>?_⟩
 ·have hc:(q1.rest.length:Int)<n:=of_decide_eq_true hc;rw [if_pos hc];conv=>whnf
  refine ⟨⟨[(4,.sl 10 dW eP [])],[(0,.cells 155 [.str q1.rest,.bool q1.bad]),(1,.cells 69 [.ptr 0 0])],2⟩,(aj [(0,.id 0),(1,.id 1)] rfl ⟨.base (.leT _ _ (g_.nils_sl 10 dW eP) rfl),trivial⟩ ⟨aB,aB,trivial⟩),rfl,rfl,?_⟩;exact dM
 have hc:¬ (q1.rest.length:Int)<n:=of_decide_eq_false hc;rw [if_neg hc];conv=>whnf
 refine aX (aJ _ _ _) n.toNat (fun _=>True) (fun k=>⟨[(0,.ptr 0 0),(1,.fn (.func 31) [] [.ptr 1 0]),(4,.nils),(6,.own 2),(13,.int .i64 n),(14,.int .i64 (k:Nat))],[(0,.cells 155 [.str (Z k).1.rest,.bool (Z k).1.bad]),(1,.cells 69 [.ptr 0 0]),(2,.row 47 10 dW eP (Z k).2)],3⟩) trivial (by
  rw [hz0];exact (aj [(0,.id 0),(1,.id 1),(2,.nil)] rfl ⟨aQ,.fn _ _ _ _ _ fP fP,ah,kX,ah,ah,trivial⟩ ⟨aB,aB,⟨_,rfl,jA⟩,trivial⟩)) ?_
 intro k hk _;have hzk:=hz k;have hnk:=hzn k;have hsk:=hzs k;generalize hzz:Z k=z at *;obtain ⟨⟨rr,rb⟩,acc⟩:=z;have hnk:acc.length=k:=hnk;dsimp only at hzk hsk;conv=>whnf
 refine ⟨fun hd=>?_,fun hd=>?_⟩
 ·have hd:(k:Int)<n:=of_decide_eq_true hd;have hone:=aiO ⟨rr,rb⟩ zQ;dsimp only [ro] at hone;generalize iM ⟨rr,rb⟩=y at *;conv=>whnf
  refine cR (hone) [0,1] (cW ?_);refine And.intro rfl (cW ?_);refine And.intro ⟨rfl,rfl⟩ (And.intro (show (acc.length+1)*136≤140737488355328 by omega) ?_);exact Y3
 ·have hd:¬ (k:Int)<n:=of_decide_eq_false hd;have hkn:n.toNat=k:=by omega
  rw [hkn,hzz];conv=>whnf
  refine ⟨⟨[(4,.sl 10 dW eP acc)],[(0,.cells 155 [.str rr,.bool rb]),(1,.cells 69 [.ptr 0 0])],2⟩,(dY [2]).trans (aj [(0,.id 0),(1,.id 1)] rfl ⟨ah,trivial⟩ ⟨aB,aB,trivial⟩),rfl,rfl,?_⟩;exact dM
theorem aaD (q:RS) (hs:q.rest.length≤100000000000):jo Tryz.prog 38 [.ptr 0 0,.fn (.func 39) [] [.ptr 1 0]] [ro q,bx] 2 (fun vs bs es=>vs=[.sl 6 eF fB (bH iU q).1]∧bs=[ro (bH iU q).2,bx]∧es=[]):=by
 have l0:=aZ q;have g0:=gZ q hs;have n0:0≤(ay q).1:=(jS 59 0 q (by omega)).1;have hi:(ay q).1≤9223372036854775807:=uy 59 0 q;unfold bH;have hz:=fun k=>mg K_ (ay q).2 k
 have hzn:=fun k=>pX iU (ay q).2 k
 have hz0:dn iU (ay q).2 0=((ay q).2,[]):=rfl;have hzs:∀ k,dn iU (ay q).2 (k+1)=((iU (dn iU (ay q).2 k).1).2,(dn iU (ay q).2 k).2++[(iU (dn iU (ay q).2 k).1).1]):=fun _=>rfl
 generalize ay q=x at *;obtain ⟨n,q1⟩:=x;have gl:=wC q1;dsimp only at l0 hz hz0 hzs hzn n0 hi ⊢;generalize dn iU q1=Z at *;have hn:n.toNat=n:=Int.toNat_of_nonneg n0;refine rO (aJ 2 23 [0,1,4,5,6,12,13,14,15]) Tryz.func38 ?_;conv=>whnf
 refine .raw ([0]++[]) _ rfl (fun _=>⟨⟨_,[0]++[],_,_⟩,fun r'=>Iff.rfl,rfl⟩) (aF (g0) [0] [] rfl rfl ⟨rfl,trivial⟩ dS rfl (.inl rfl)) ?_;rintro _ rfl;refine ⟨aS _ _,(cW ?_)⟩;refine .raw ([0]++[]) _ rfl (fun _=>⟨⟨_,[0]++[],_,_⟩,fun r'=>Iff.rfl,rfl⟩) (aF (gl) [0] [] rfl rfl ⟨rfl,trivial⟩ dS rfl (.inl rfl)) ?_;rintro _ rfl;refine ⟨aS _ _,(cW ?_)⟩;refine ⟨fun hc=>?_,fun hc=>?_⟩
 ·have hc:(q1.rest.length:Int)<n:=of_decide_eq_true hc;rw [if_pos hc];conv=>whnf
  refine ⟨⟨[(4,.sl 6 eF fB [])],[(0,.cells 155 [.str q1.rest,.bool q1.bad]),(1,.cells 69 [.ptr 0 0])],2⟩,(aj [(0,.id 0),(1,.id 1)] rfl ⟨.base (.leT _ _ (g_.nils_sl 6 eF fB) rfl),trivial⟩ ⟨aB,aB,trivial⟩),rfl,rfl,?_⟩;exact dM
 have hc:¬ (q1.rest.length:Int)<n:=of_decide_eq_false hc;rw [if_neg hc];conv=>whnf
 refine aX (aJ _ _ _) n.toNat (fun _=>True) (fun k=>⟨[(0,.ptr 0 0),(1,.fn (.func 39) [] [.ptr 1 0]),(4,.nils),(6,.own 2),(13,.int .i64 n),(14,.int .i64 (k:Nat))],[(0,.cells 155 [.str (Z k).1.rest,.bool (Z k).1.bad]),(1,.cells 69 [.ptr 0 0]),(2,.row 64 6 eF fB (Z k).2)],3⟩) trivial (by
  rw [hz0];exact (aj [(0,.id 0),(1,.id 1),(2,.nil)] rfl ⟨aQ,.fn _ _ _ _ _ fP fP,ah,kX,ah,ah,trivial⟩ ⟨aB,aB,⟨_,rfl,jA⟩,trivial⟩)) ?_
 intro k hk _;have hzk:=hz k;have hnk:=hzn k;have hsk:=hzs k;generalize hzz:Z k=z at *;obtain ⟨⟨rr,rb⟩,acc⟩:=z;have hnk:acc.length=k:=hnk;dsimp only at hzk hsk;conv=>whnf
 refine ⟨fun hd=>?_,fun hd=>?_⟩
 ·have hd:(k:Int)<n:=of_decide_eq_true hd;have hone:=ai1 ⟨rr,rb⟩ zQ;dsimp only [ro] at hone;generalize iU ⟨rr,rb⟩=y at *;conv=>whnf
  refine cR (hone) [0,1] (cW ?_);refine And.intro rfl (cW ?_);refine And.intro ⟨rfl,rfl⟩ (And.intro (show (acc.length+1)*88≤140737488355328 by omega) ?_);exact Y3
 ·have hd:¬ (k:Int)<n:=of_decide_eq_false hd;have hkn:n.toNat=k:=by omega
  rw [hkn,hzz];conv=>whnf
  refine ⟨⟨[(4,.sl 6 eF fB acc)],[(0,.cells 155 [.str rr,.bool rb]),(1,.cells 69 [.ptr 0 0])],2⟩,(dY [2]).trans (aj [(0,.id 0),(1,.id 1)] rfl ⟨ah,trivial⟩ ⟨aB,aB,trivial⟩),rfl,rfl,?_⟩;exact dM
theorem aio (t:List UInt8):bM Tryz.prog 26 [.str t] (fun rs=>rs=[.new (.cells 155 [.str t,.bool false])]):=by
 refine aO (au 6 [0,2]) Tryz.func26 ?_;conv=>whnf
 rfl
def yL (t:List UInt8):Sta×Int:=if readB t=true then ((Hl ⟨t,false⟩).1,0) else (st0,2)
def readA (t:List UInt8):List AR:=[.val (mW (yL t).1),.val (.int .i64 (yL t).2)]
theorem WY (q:RS) (hs:q.rest.length≤100000000000):(bC q).1.length≤100000000000:=by
 have h1:=(jS 58 0 q (Int.le_refl _)).2;unfold bC;dsimp only;split
 ·simp
 ·split
  ·split
   ·simp
   ·rw [List.length_take];omega
  ·simp
theorem WH (q:RS) (hs:q.rest.length≤100000000000):(bD aC q).1.length≤1000000000001:=by
 have h:=abb q (by omega) (bW 91 0 q).1.toNat;unfold bD og;dsimp only;split
 ·split
  ·simp [listOf]
  ·exact h
 ·simp [listOf]
theorem VD {T:Type} {one:RS→T×RS} {P:T→Prop} {B:Nat} (hle:∀ q,(one q).2.rest.length≤q.rest.length) (hP:∀ q:RS,q.rest.length≤B→P (one q).1) (q:RS) (hq:q.rest.length≤B):∀ k,∀ x∈(dn one q k).2,P x
 | 0=>fun x hx=>by simp [dn] at hx
 | k+1=>fun x hx=>by
  have hl:=mg hle q k;rw [show (dn one q (k+1)).2=(dn one q k).2++[(one (dn one q k).1).1] from rfl,List.mem_append,List.mem_singleton] at hx;rcases hx with hx | rfl
  ·exact VD hle hP q hq k x hx
  ·exact hP _ aI
theorem F8 {T:Type} {one:RS→T×RS} {P:T→Prop} {B:Nat} (hle:∀ q,(one q).2.rest.length≤q.rest.length) (hP:∀ q:RS,q.rest.length≤B→P (one q).1) (q:RS) (hq:q.rest.length≤B):∀ x∈(bH one q).1,P x:=by
 have:=aZ q;unfold bH;split
 ·intro x hx;cases hx
 ·exact VD hle hP _ aI _
theorem wS {T:Type} (one:RS→T×RS) (q:RS):(bH one q).1.length≤q.rest.length:=by
 have:=aZ q;have h:=pX one (ay q).2 (ay q).1.toNat;unfold bH;split
 ·simp
 ·dsimp only;rw [h];omega
theorem ajf (q:RS) (hq:q.rest.length≤100000000000):(iM q).1.text.length≤9223372036854775807∧(iM q).1.units.length≤9223372036854775807∧(iM q).1.noted.length≤9223372036854775807∧(iM q).1.stages.length≤9223372036854775807:=by
 unfold iM;dsimp only;have a:=WY q hq;have a1:=tV q;generalize bC q=x1 at *;have b:=WH x1.2 (by omega);have b1:=rG x1.2;generalize bD aC x1.2=x2 at *;have c:=WH x2.2 (by omega);have c1:=rG x2.2;generalize bD aC x2.2=x3 at *;have d1:=nJ x3.2;generalize aC x3.2=x4 at *;have e:=wS gQ x4.2;exact ⟨by omega,by omega,by omega,by omega⟩
theorem ai6 (q:RS) (hq:q.rest.length≤100000000000):(iU q).1.text.length≤9223372036854775807∧(iU q).1.units.length≤9223372036854775807∧(iU q).1.votes.length≤9223372036854775807:=by
 unfold iU;dsimp only;have a1:=aZ q;generalize ay q=x0 at *;have b:=WY x0.2 (by omega);have b1:=tV x0.2;generalize bC x0.2=x1 at *;have c1:=aZ x1.2;generalize ay x1.2=x2 at *;have d:=WH x2.2 (by omega);have d1:=rG x2.2;generalize bD aC x2.2=x3 at *;have e:=wS jQ x3.2;exact ⟨by omega,by omega,by omega⟩
theorem ajB (q:RS) (hq:q.rest.length≤100000000000):(jU q).1.name.length≤9223372036854775807:=by
 unfold jU;dsimp only;have a1:=aZ q;generalize ay q=x0 at *;have b:=WY x0.2 (by omega);omega
theorem Q6 (q:RS) (hq:q.rest.length≤100000000000):OkS (Hl q).1:=by
 unfold Hl;dsimp only;have a:=aZ q;generalize ay q=x1 at *;have b:=wS ay x1.2;have b1:=jZ aZ x1.2;generalize bH ay x1.2=x2 at *;have c:=wS ay x2.2;have c1:=jZ aZ x2.2;generalize bH ay x2.2=x3 at *;have d1:=nJ x3.2;generalize aC x3.2=x4 at *;have e:=wS iM x4.2;have e1:=jZ Ig x4.2;have e2:=F8 (P:=fun x:Lin=>x.text.length≤9223372036854775807∧x.units.length≤9223372036854775807∧x.noted.length≤9223372036854775807∧x.stages.length≤9223372036854775807) (B:=100000000000) Ig ajf x4.2 (by omega);generalize bH iM x4.2=x5 at *;have f:=wS jU x5.2;have f1:=jZ GI x5.2;have f2:=F8 (P:=fun x:Fac=>x.name.length≤9223372036854775807) (B:=100000000000) GI ajB x5.2 (by omega);generalize bH jU x5.2=x6 at *;have g:=wS kG x6.2;have g1:=jZ LK x6.2;generalize bH kG x6.2=x7 at *;have h:=wS iU x7.2;have h2:=F8 (P:=fun x:Pro=>x.text.length≤9223372036854775807∧x.units.length≤9223372036854775807∧x.votes.length≤9223372036854775807) (B:=100000000000) K_ ai6 x7.2 (by omega);exact ⟨by dsimp only;omega,by dsimp only;omega,by dsimp only;omega,by dsimp only;omega,by dsimp only;omega,by dsimp only;omega,e2,f2,h2⟩
set_option maxHeartbeats 8000000
theorem aiw {p:Prop} (h:p:=by first | exact g_.nils_sl 1 encI 0 | exact g_.nils_sl 10 dW eP | exact g_.nils_sl 5 eG fa0 | exact g_.nils_sl 6 fZ pa0 | exact g_.nils_sl 6 eF fB):p:=h
theorem acu {p:Prop} (h:p:=by repeat (first | exact .nil | refine .cons (by first | exact .base (.tree _ _ rfl rfl) | exact .base (.own _ _ rfl) | exact .base (.ptr _ _ _ rfl) | exact .base (.map _ _ rfl) | exact .base (.nilown _ rfl) | exact .fn _ _ _ _ _ .nil vJ | exact .base (.tree _ _ aiw rfl) | exact .base (.leT _ _ aiw rfl)) ?_)):p:=h
theorem zt2 {p:Prop}(h:p:=by
 refine gT (cW ?_);refine ⟨⟨[(2,.ptr 0 0),(3,.int .i64 2)],[(0,.cells 28 (jl st0))],1⟩,(aj [(0,.id 0)] rfl ⟨aQ,ah,trivial⟩ ⟨⟨_,rfl,.cells _ _ _ _ rfl acu rfl⟩,trivial⟩),(cW ?_)⟩;rfl):p:=h
theorem ael {p:Prop}(h:p:=by
 refine cF [mW ⟨x1.1,x2.1,x3.1,x4.1,x5.1,x6.1,x7.1,x8.1⟩] [.val (.str [])] (cW ?_);exact zt2):p:=h
theorem Vo (t:List UInt8) (ht:t.length≤100000000000):bM Tryz.prog 10 [.str t] (fun rs=>rs=readA t):=by
 have go:=aio t;have hok:=Q6 ⟨t,false⟩ ht;obtain ⟨x1,hx1⟩:∃ x,x=ay ⟨t,false⟩:=⟨_,rfl⟩;have l1:=aZ ⟨t,false⟩;have g1:=gZ ⟨t,false⟩ ht;rw [← hx1] at l1 g1;dsimp only [ro] at l1 g1;obtain ⟨x2,hx2⟩:∃ x,x=bH ay x1.2:=⟨_,rfl⟩;have l2:=jZ aZ x1.2;have g2:=Uc x1.2 (by omega);rw [← hx2] at l2 g2;obtain ⟨x3,hx3⟩:∃ x,x=bH ay x2.2:=⟨_,rfl⟩;have l3:=jZ aZ x2.2;have g3:=Uc x2.2 (by omega);rw [← hx3] at l3 g3;obtain ⟨x4,hx4⟩:∃ x,x=aC x3.2:=⟨_,rfl⟩;have l4:=nJ x3.2;have g4:=H6 x3.2 (by omega);rw [← hx4] at l4 g4;obtain ⟨x5,hx5⟩:∃ x,x=bH iM x4.2:=⟨_,rfl⟩;have l5:=jZ Ig x4.2;have g5:=abB x4.2 (by omega);rw [← hx5] at l5 g5;obtain ⟨x6,hx6⟩:∃ x,x=bH jU x5.2:=⟨_,rfl⟩;have l6:=jZ GI x5.2;have g6:=acf x5.2 (by omega);rw [← hx6] at l6 g6;obtain ⟨x7,hx7⟩:∃ x,x=bH kG x6.2:=⟨_,rfl⟩;have l7:=jZ LK x6.2;have g7:=ace x6.2 (by omega);rw [← hx7] at l7 g7;obtain ⟨x8,hx8⟩:∃ x,x=bH iU x7.2:=⟨_,rfl⟩;have l8:=jZ K_ x7.2;have g8:=aaD x7.2 (by omega);rw [← hx8] at l8 g8;have hq:Hl ⟨t,false⟩=(⟨x1.1,x2.1,x3.1,x4.1,x5.1,x6.1,x7.1,x8.1⟩,x8.2):=by
  rw [hx8,hx7,hx6,hx5,hx4,hx3,hx2,hx1];rfl
 clear hx1 hx2 hx3 hx4 hx5 hx6 hx7 hx8;unfold readA yL readB;rw [hq] at hok ⊢;dsimp only at hok ⊢;have gd:=abM x8.2;have gt:=Ef _ hok;refine aW (au 55 [0,2,3,4,5,52]) Tryz.func10 ?_;conv=>whnf
 refine cO (fun _=>go) (cW ?_);refine .raw ([1]++[]) _ rfl (fun _=>⟨⟨_,[1]++[],_,_⟩,fun r'=>Iff.rfl,rfl⟩) (aF (g1) [1] [] rfl rfl ⟨rfl,trivial⟩ dS rfl (.inl rfl)) ?_;rintro _ rfl;refine ⟨aS _ _,(cW ?_)⟩;refine .eff ad0 (cW ?_);refine cR (g2) [1] (cW ?_);refine cR (g3) [1] (cW ?_);refine ⟨by kernel_rfl,(cW ?_)⟩;refine .raw ([1]++[]) _ rfl (fun _=>⟨⟨_,[1]++[],_,_⟩,fun r'=>Iff.rfl,rfl⟩) (aF (g4) [1] [] rfl rfl ⟨rfl,trivial⟩ dS rfl (.inl rfl)) ?_;rintro _ rfl;refine ⟨aS _ _,(cW ?_)⟩;refine cR (g5) [1,2] (cW ?_);refine cR (g6) [1,2] (cW ?_);refine cR (g7) [1,2] (cW ?_);refine cR (g8) [1,2] (cW ?_);by_cases hne:t=[]
 ·simp only [decide_eq_true hne,Bool.not_true,Bool.false_and,Bool.false_eq_true,if_false];refine cF [.rop [.str x8.2.rest,.bool x8.2.bad]] [.val (.bool false)] (cW ?_);exact ael
 ·simp only [decide_eq_false hne,Bool.not_false,Bool.true_and];refine .raw ([1]++[]) _ rfl (fun _=>⟨⟨_,[1]++[],_,_⟩,fun r'=>Iff.rfl,rfl⟩) (aF (gd) [1] [] rfl rfl ⟨rfl,trivial⟩ dS rfl (.inl rfl)) ?_;rintro _ rfl;refine ⟨aS _ _,(cW ?_)⟩;unfold Qw;cases hd:(!x8.2.bad&&decide (x8.2.rest=[])) with
  | false =>
   simp only [Bool.false_and,Bool.false_eq_true,if_false];exact ael
  | true =>
   refine cO (fun _=>gt) (cW ?_);cases hs:decide (vk ⟨x1.1,x2.1,x3.1,x4.1,x5.1,x6.1,x7.1,x8.1⟩=t) with
   | false =>
    simp only [Bool.and_false,Bool.false_eq_true,if_false];exact zt2
   | true =>
    simp only [Bool.and_true,if_true];refine gF (cW ?_);refine ⟨⟨[(2,.ptr 0 0),(3,.int .i64 0)],[(0,.cells 28 (jl ⟨x1.1,x2.1,x3.1,x4.1,x5.1,x6.1,x7.1,x8.1⟩))],1⟩,(aj [(0,.id 0)] rfl ⟨aQ,ah,trivial⟩ ⟨aB,trivial⟩),(cW ?_)⟩;rfl
def IK (x:Lin):Bool:=decide (x.text.length≤900)&&decide (x.units.length≤12)&&decide (x.noted.length≤12)&&decide (x.stages.length≤12)
def Iq (x:Pro):Bool:=decide (x.text.length≤900)&&decide (x.units.length≤12)&&decide (x.votes.length≤12)
def FC (l:List Fac):Bool:=l.all (fun f=>decide (f.name.length≤40))&&decide (l.length≤12)
def Wy (s:Sta):Bool:=(decide (s.cash.length≤12)&&decide (s.purses.length≤12)&&decide (s.lines.length≤4)&&decide (s.payments.length≤12)&&decide (s.proposals.length≤4)&&FC s.facts)&&s.lines.all IK&&s.proposals.all Iq
structure FewS (s:Sta):Prop where
 cash:s.cash.length≤12
 purses:s.purses.length≤12
 lines:s.lines.length≤4
 payments:s.payments.length≤12
 proposals:s.proposals.length≤4
 facts:s.facts.length≤12
 fact:∀ f∈s.facts,f.name.length≤40
 line:∀ x∈s.lines,x.text.length≤900∧x.units.length≤12∧x.noted.length≤12∧x.stages.length≤12
 proposal:∀ x∈s.proposals,x.text.length≤900∧x.units.length≤12∧x.votes.length≤12
theorem Z5 {s:Sta} (h:Wy s=true):FewS s:=by
 unfold Wy FC at h;simp only [Bool.and_eq_true,decide_eq_true_eq,List.all_eq_true] at h;obtain ⟨⟨⟨⟨⟨⟨⟨a,b⟩,c⟩,d⟩,e⟩,f,g⟩,i⟩,j⟩:=h;refine ⟨a,b,c,d,e,g,f,fun x hx=>?_,fun x hx=>?_⟩
 ·have:=i x hx;unfold IK at this;simp only [Bool.and_eq_true,decide_eq_true_eq] at this;exact ⟨this.1.1.1,this.1.1.2,this.1.2,this.2⟩
 ·have:=j x hx;unfold Iq at this;simp only [Bool.and_eq_true,decide_eq_true_eq] at this;exact ⟨this.1.1,this.1.2,this.2⟩
theorem FewS.ok {s:Sta} (h:FewS s):OkS s :=
 ⟨by have:=h.cash;omega,by have:=h.purses;omega,by have:=h.lines;omega,by have:=h.facts;omega,by have:=h.payments;omega,by have:=h.proposals;omega,fun x hx=>(by have:=h.line x hx;omega),fun x hx=>(by have:=h.fact x hx;omega),fun x hx=>(by have:=h.proposal x hx;omega)⟩
def aeU (s:Sta):Bool:=kJ s.day&&decide (s.cash.length≤60)&&decide (s.purses.length≤20000)&&inB (-gX) gX [s.outside] &&
 (decide (s.lines.length≤400)&&decide (s.payments.length≤100000)&&decide (s.proposals.length≤10000)&&qy s.facts) &&
 (s.lines.all (mJ s.purses.length)&&s.payments.all (jE s.lines.length s.purses.length)&&s.proposals.all (qK s.lines.length s.purses.length))
theorem UC (s:Sta):fM s=((xU s).isSome&&aeU s):=by
 unfold fM aeU;simp only [Bool.and_assoc]
theorem Zc {a:Sta} (h:¬ fM a=true):uZ a=0:=by
 unfold uZ;rw [if_neg h]
theorem JM {p:Prop}(h:p:=by
 refine h.le fun rs hrs=>?_
 rcases hrs with rfl | ⟨rfl,rfl⟩
 ·exact ⟨_,rfl,rfl,fun j r r' h1 h2=>by
   cases j with
   | zero=>simp at h1 h2;subst h1;subst h2;exact .same _
   | succ j=>simp at h1⟩
 ·exact ⟨_,rfl,rfl,fun j r r' h1 h2=>by
   cases j with
   | zero=>simp at h1 h2;subst h1;subst h2;exact .nil _ _ _ _
   | succ j=>simp at h1⟩):p:=h
theorem Io {p:Prop}(h:p:=by
 conv=>whnf
 exact .inr ⟨hb hc,rfl⟩):p:=h
theorem aiN (l:List Int) (hl:l.length≤1000000):bM Tryz.prog 108 [.sl 1 encI 0 l] (fun rs=>rs=[.new (.row 3 1 encI 0 l)]):=by
 have h:bM Tryz.prog 108 [.sl 1 encI 0 l] (fun rs=>rs=[.new (.row 3 1 encI 0 l)]∨l=[]∧rs=[.val .nils]):=by
  refine aO (au 8 [0,2,4]) Tryz.func108 ?_;conv=>whnf
  intro b hb;conv=>whnf
  refine ⟨fun hc=>?_,fun hc=>?_⟩
  ·exact Io
  ·conv=>whnf
   refine And.intro rfl (cW ?_);refine ⟨⟨rfl,rfl⟩,(show (0+l.length)*8≤140737488355328 by omega),(cW ?_)⟩;exact .inl rfl
 exact JM
theorem Ho (l:List Int) (hl:l.length≤1000000):ak Tryz.prog 108 [.sl 1 encI 0 l] (.sl 1 encI 0 l) :=
 (aiN l hl).freeze1
theorem ag8 {p:Prop}(h:p:=by
 conv=>whnf
 intro b hb;conv=>whnf
 refine ⟨fun hc=>?_,fun hc=>?_⟩
 ·exact Io
 ·conv=>whnf
  refine And.intro rfl (cW ?_);refine ⟨⟨rfl,rfl⟩,(show (0+l.length)*48≤140737488355328 by omega),(cW ?_)⟩;exact .inl rfl):p:=h
theorem aiD (l:List Fac) (hl:l.length≤1000000):bM Tryz.prog 109 [.sl 5 eG fa0 l] (fun rs=>rs=[.new (.row 41 5 eG fa0 l)]):=by
 have h:bM Tryz.prog 109 [.sl 5 eG fa0 l] (fun rs=>rs=[.new (.row 41 5 eG fa0 l)]∨l=[]∧rs=[.val .nils]):=by
  refine aO (au 8 [0,2,4]) Tryz.func109 ?_;exact ag8
 exact JM
theorem ag7 (l:List Fac) (hl:l.length≤1000000):ak Tryz.prog 109 [.sl 5 eG fa0 l] (.sl 5 eG fa0 l) :=
 (aiD l hl).freeze1
theorem aiH (l:List Pay) (hl:l.length≤1000000):bM Tryz.prog 110 [.sl 6 fZ pa0 l] (fun rs=>rs=[.new (.row 43 6 fZ pa0 l)]):=by
 have h:bM Tryz.prog 110 [.sl 6 fZ pa0 l] (fun rs=>rs=[.new (.row 43 6 fZ pa0 l)]∨l=[]∧rs=[.val .nils]):=by
  refine aO (au 8 [0,2,4]) Tryz.func110 ?_;exact ag8
 exact JM
theorem ah8 (l:List Pay) (hl:l.length≤1000000):ak Tryz.prog 110 [.sl 6 fZ pa0 l] (.sl 6 fZ pa0 l) :=
 (aiH l hl).freeze1
theorem aiX (l:List Lin) (hl:l.length≤1000000):bM Tryz.prog 111 [.sl 10 dW eP l] (fun rs=>rs=[.new (.row 47 10 dW eP l)]):=by
 have h:bM Tryz.prog 111 [.sl 10 dW eP l] (fun rs=>rs=[.new (.row 47 10 dW eP l)]∨l=[]∧rs=[.val .nils]):=by
  refine aO (au 8 [0,2,4]) Tryz.func111 ?_;conv=>whnf
  intro b hb;conv=>whnf
  refine ⟨fun hc=>?_,fun hc=>?_⟩
  ·exact Io
  ·conv=>whnf
   refine And.intro rfl (cW ?_);refine ⟨⟨rfl,rfl⟩,(show (0+l.length)*136≤140737488355328 by omega),(cW ?_)⟩;exact .inl rfl
 exact JM
theorem ai5 (l:List Pro) (hl:l.length≤1000000):bM Tryz.prog 112 [.sl 6 eF fB l] (fun rs=>rs=[.new (.row 64 6 eF fB l)]):=by
 have h:bM Tryz.prog 112 [.sl 6 eF fB l] (fun rs=>rs=[.new (.row 64 6 eF fB l)]∨l=[]∧rs=[.val .nils]):=by
  refine aO (au 8 [0,2,4]) Tryz.func112 ?_;conv=>whnf
  intro b hb;conv=>whnf
  refine ⟨fun hc=>?_,fun hc=>?_⟩
  ·exact Io
  ·conv=>whnf
   refine And.intro rfl (cW ?_);refine ⟨⟨rfl,rfl⟩,(show (0+l.length)*88≤140737488355328 by omega),(cW ?_)⟩;exact .inl rfl
 exact JM
theorem ai3 (l:List Brc) (hl:l.length≤1000000):bM Tryz.prog 113 [.sl 2 gy fG l] (fun rs=>rs=[.new (.row 61 2 gy fG l)]):=by
 have h:bM Tryz.prog 113 [.sl 2 gy fG l] (fun rs=>rs=[.new (.row 61 2 gy fG l)]∨l=[]∧rs=[.val .nils]):=by
  refine aO (au 8 [0,2,4]) Tryz.func113 ?_;conv=>whnf
  intro b hb;conv=>whnf
  refine ⟨fun hc=>?_,fun hc=>?_⟩
  ·exact Io
  ·conv=>whnf
   refine And.intro rfl (cW ?_);refine ⟨⟨rfl,rfl⟩,(show (0+l.length)*16≤140737488355328 by omega),(cW ?_)⟩;exact .inl rfl
 exact JM
theorem aiu (l:List Brc) (hl:l.length≤1000000):ak Tryz.prog 113 [.sl 2 gy fG l] (.sl 2 gy fG l) :=
 (ai3 l hl).freeze1
theorem ajz (l:List Vot) (hl:l.length≤1000000):bM Tryz.prog 114 [.sl 3 gu eU l] (fun rs=>rs=[.new (.row 66 3 gu eU l)]):=by
 have h:bM Tryz.prog 114 [.sl 3 gu eU l] (fun rs=>rs=[.new (.row 66 3 gu eU l)]∨l=[]∧rs=[.val .nils]):=by
  refine aO (au 8 [0,2,4]) Tryz.func114 ?_;conv=>whnf
  intro b hb;conv=>whnf
  refine ⟨fun hc=>?_,fun hc=>?_⟩
  ·exact Io
  ·conv=>whnf
   refine And.intro rfl (cW ?_);refine ⟨⟨rfl,rfl⟩,(show (0+l.length)*24≤140737488355328 by omega),(cW ?_)⟩;exact .inl rfl
 exact JM
theorem ahJ (l:List Vot) (hl:l.length≤1000000):ak Tryz.prog 114 [.sl 3 gu eU l] (.sl 3 gu eU l) :=
 (ajz l hl).freeze1
theorem Gt {p:Prop} (h:p:=by exact (aj [] rfl ⟨ah,ah,ah,ah,trivial⟩ trivial)):p:=h
theorem ad7 {p:Prop}(h:p:=by
 conv=>whnf
 refine iO (cW ?_);refine up hlt (fun j hj=>?_) Gt;by_cases e:j=k
 ·subst e;exact he
 ·exact hP j aI):p:=h
theorem G6 (l r:List Int) (hl:l.length≤9223372036854775807) (hr:r.length≤9223372036854775807) :
  ak Tryz.prog 51 [.sl 1 encI 0 l,.sl 1 encI 0 r] (.bool (decide (l=r))):=by
 refine aO (au 26 [0,1,4,5,10,14,25]) Tryz.func51 ?_;conv=>whnf
 refine ⟨fun hlen=>?_,fun hlen=>?_⟩
 ·exact ED
 have hlen:l.length=r.length:=by simp at hlen;omega
 conv=>whnf
 refine aX (au _ _) l.length (fun k=>∀ j,j<k→l.getD j 0=r.getD j 0) (fun k=>⟨[(0,.sl 1 encI 0 l),(1,.sl 1 encI 0 r),(4,.bool false),(5,.int .i64 (k:Nat))],[],0⟩) mZ Gt ?_;intro k hk hP;conv=>whnf
 refine ⟨fun hd=>?_,fun hd=>?_⟩
 ·have hd:=of_decide_eq_true hd;have hlt:k<l.length:=by omega
  have hek:(k:Int).toNat=k:=Int.toNat_natCast k;conv=>whnf
  refine .quiet bZ (cW ?_);refine iO (cW ?_);refine And.intro rfl (cW ?_);refine iO (cW ?_);refine And.intro rfl (cW ?_);try (rw [hek];conv=>whnf)
  try (rw [hek];conv=>whnf)
  refine ⟨fun he=>?_,fun he=>?_⟩
  ·exact Fv
  ·have he:l.getD k 0=r.getD k 0:=by simpa using he
   exact ad7
 ·exact aeN
theorem afW (l r:List Fac) (hl:l.length≤9223372036854775807) (hr:r.length≤9223372036854775807) :
  ak Tryz.prog 52 [.sl 5 eG fa0 l,.sl 5 eG fa0 r] (.bool (decide (l=r))):=by
 refine aO (au 26 [0,1,4,5,10,14,25]) Tryz.func52 ?_;conv=>whnf
 refine ⟨fun hlen=>?_,fun hlen=>?_⟩
 ·exact ED
 have hlen:l.length=r.length:=by simp at hlen;omega
 conv=>whnf
 refine aX (au _ _) l.length (fun k=>∀ j,j<k→l.getD j fa0=r.getD j fa0) (fun k=>⟨[(0,.sl 5 eG fa0 l),(1,.sl 5 eG fa0 r),(4,.bool false),(5,.int .i64 (k:Nat))],[],0⟩) mZ Gt ?_;intro k hk hP;conv=>whnf
 refine ⟨fun hd=>?_,fun hd=>?_⟩
 ·have hd:=of_decide_eq_true hd;have hlt:k<l.length:=by omega
  have hek:(k:Int).toNat=k:=Int.toNat_natCast k;conv=>whnf
  refine .quiet bZ (cW ?_);refine iO (cW ?_);refine And.intro rfl (cW ?_);refine iO (cW ?_);refine And.intro rfl (cW ?_);try (rw [hek];conv=>whnf)
  try (rw [hek];conv=>whnf)
  refine And.intro ⟨by kernel_rfl,by kernel_rfl⟩ (cW ?_);rw [show ((decide ((l.getD k fa0).issuer=(r.getD k fa0).issuer)&&(decide ((l.getD k fa0).name=(r.getD k fa0).name)&&(decide ((l.getD k fa0).period=(r.getD k fa0).period)&&(decide ((l.getD k fa0).value=(r.getD k fa0).value)&&(decide ((l.getD k fa0).day=(r.getD k fa0).day)&&true))))))=decide (l.getD k fa0=r.getD k fa0) from (OT _ _).symm];refine ⟨fun he=>?_,fun he=>?_⟩
  ·exact Fv
  ·have he:l.getD k fa0=r.getD k fa0:=by simpa using he
   exact ad7
 ·exact adJ
theorem qJ {T:Type} {p:T→Bool} {d:T} {l:List T} {k:Nat} (h:k<l.length):(l.take (k+1)).all p=((l.take k).all p&&p (l.getD k d)):=by
 rw [wM (d:=d) h,List.all_append];simp
theorem Bd {T:Type} {p:T→Bool} {d:T} {l:List T} {k:Nat} (h:k<l.length) (hp:p (l.getD k d)=false):l.all p=false:=by
 rw [List.all_eq_false];exact ⟨_,getD_mem h,by rw [hp];simp⟩
theorem ajd (l:List Fac) (hl:l.length≤9223372036854775807) (hn:∀ f∈l,f.name.length≤9223372036854775807):ak Tryz.prog 25 [.sl 5 eG fa0 l,.int .i64 12] (.bool (FC l)):=by
 unfold FC;refine aO (au 28 [0,1,4,5,14,23]) Tryz.func25 ?_;conv=>whnf
 refine aX (au _ _) l.length (fun k=>(l.take k).all (fun f=>decide (f.name.length≤40))=true) (fun k=>⟨[(0,.sl 5 eG fa0 l),(1,.int .i64 12),(4,.bool false),(5,.int .i64 (k:Nat))],[],0⟩) rfl Gt ?_;intro k hk hP;conv=>whnf
 refine ⟨fun hc=>?_,fun hc=>?_⟩
 ·simp only [Bool.and_eq_true,decide_eq_true_eq] at hc;have hlt:k<l.length:=by omega
  have hek:(k:Int).toNat=k:=Int.toNat_natCast k;have:=hn _ (getD_mem (d:=fa0) hlt);conv=>whnf
  refine iO (cW ?_);refine And.intro rfl (cW ?_);try (rw [hek];conv=>whnf)
  refine ⟨fun hd=>?_,fun hd=>?_⟩
  ·have hd:=of_decide_eq_true hd;have hp:(fun f:Fac=>decide (f.name.length≤40)) (l.getD k fa0)=false:=decide_eq_false (by omega);rw [Bd hlt hp];conv=>whnf
   rfl
  ·have hd:=of_decide_eq_false hd;have hp:(fun f:Fac=>decide (f.name.length≤40)) (l.getD k fa0)=true:=decide_eq_true (by omega);conv=>whnf
   refine iO (cW ?_);refine up hlt ?_ Gt;rw [qJ (d:=fa0) hlt,hP];exact hp
 ·simp only [Bool.and_eq_false_iff,decide_eq_false_iff_not] at hc;conv=>whnf
  have e:(l.all (fun f=>decide (f.name.length≤40))&&decide (l.length≤12))=decide ((l.length:Int)≤12):=by
   by_cases h12:l.length≤12
   ·have hk2:k=l.length:=by omega
    rw [hk2,List.take_length] at hP;rw [hP,decide_eq_true h12,decide_eq_true (by omega)];rfl
   ·rw [decide_eq_false h12,decide_eq_false (show ¬ (l.length:Int)≤12 by omega),Bool.and_false]
  rw [e];rfl
theorem Qq {p:Prop}(h:p:=by
 rw [List.take_length] at hP;rw [hP];conv=>whnf
 rfl):p:=h
theorem aeO {p:Prop}(h:p:=by
 rw [Bool.eq_iff_iff];simp only [Bool.and_eq_true,Bool.not_eq_true',Bool.or_eq_false_iff,decide_eq_true_eq,decide_eq_false_iff_not];omega):p:=h
theorem QB {p:Prop}(h:p:=by
 rw [Bd hlt hz];conv=>whnf
 rfl):p:=h
theorem NH {p:Prop} (h:p:=by exact (aj [(0,.id 0)] rfl ⟨aQ,ah,ah,trivial⟩ ⟨rE,trivial⟩)):p:=h
theorem agK (s:Sta) (o:OkS s):ak Tryz.prog 9 [mW s] (.bool (Wy s)):=by
 have gf:=ajd s.facts o.facts o.fact;have h1:=o.cash;have h2:=o.purses;have h3:=o.lines;have h4:=o.payments;have h5:=o.proposals;unfold Wy;have e0:(decide (s.cash.length≤12)&&decide (s.purses.length≤12)&&decide (s.lines.length≤4)&&decide (s.payments.length≤12)&&decide (s.proposals.length≤4)&&FC s.facts)=!(decide (12<(s.cash.length:Int))||decide (12<(s.purses.length:Int))||decide (4<(s.lines.length:Int))||decide (12<(s.payments.length:Int))||decide (4<(s.proposals.length:Int))||!FC s.facts):=by
  generalize FC s.facts=F;cases F
  ·simp
  ·rw [Bool.eq_iff_iff];simp only [Bool.and_eq_true,Bool.not_eq_true',Bool.or_eq_false_iff,decide_eq_true_eq,decide_eq_false_iff_not,Bool.not_true,and_true];omega
 refine aO (au 103 [0,1,2,3,4,5,6,40,45,74,79,102]) Tryz.func9 ?_;conv=>whnf
 refine cO (fun _=>gf) (cW ?_);refine ⟨fun hc=>?_,fun hc=>?_⟩
 ·rw [e0,hc];conv=>whnf
  rfl
 rw [e0,hc];clear e0;conv=>whnf
 refine aX (au _ _) s.lines.length (fun k=>(s.lines.take k).all IK=true) (fun k=>⟨[(1,.ptr 0 0),(2,.bool false),(3,.int .i64 (k:Nat))],[(0,.cells 28 (jl s))],1⟩) rfl NH ?_;intro k hk hP;conv=>whnf
 refine ⟨fun hd=>?_,fun hd=>?_⟩
 ·have hd:=of_decide_eq_true hd;have hlt:k<s.lines.length:=by omega
  have hek:(k:Int).toNat=k:=Int.toNat_natCast k;have hx:=o.line _ (getD_mem (d:=eP) hlt);have hp:IK (s.lines.getD k eP)=!(decide (900<((s.lines.getD k eP).text.length:Int))||decide (12<((s.lines.getD k eP).units.length:Int))||decide (12<((s.lines.getD k eP).noted.length:Int))||decide (12<((s.lines.getD k eP).stages.length:Int))):=by
   unfold IK;exact aeO
  conv=>whnf
  refine iO (cW ?_);refine And.intro rfl (cW ?_);try (rw [hek];conv=>whnf)
  refine ⟨fun he=>?_,fun he=>?_⟩
  ·have hz:IK (s.lines.getD k eP)=false:=by rw [hp,he];rfl
   exact QB
  ·conv=>whnf
   refine iO (cW ?_);refine up hlt ?_ NH;rw [qJ (d:=eP) hlt,hP,hp,he];rfl
 have hd:=of_decide_eq_false hd;obtain rfl:k=s.lines.length:=by omega
 rw [List.take_length] at hP;rw [hP];clear hd hP hk;conv=>whnf
 refine aX (au _ _) s.proposals.length (fun k=>(s.proposals.take k).all Iq=true) (fun k=>⟨[(1,.ptr 0 0),(2,.bool false),(5,.int .i64 (k:Nat))],[(0,.cells 28 (jl s))],1⟩) rfl NH ?_;intro k hk hP;conv=>whnf
 refine ⟨fun hd=>?_,fun hd=>?_⟩
 ·have hd:=of_decide_eq_true hd;have hlt:k<s.proposals.length:=by omega
  have hek:(k:Int).toNat=k:=Int.toNat_natCast k;have hx:=o.proposal _ (getD_mem (d:=fB) hlt);have hp:Iq (s.proposals.getD k fB)=!(decide (900<((s.proposals.getD k fB).text.length:Int))||decide (12<((s.proposals.getD k fB).units.length:Int))||decide (12<((s.proposals.getD k fB).votes.length:Int))):=by
   unfold Iq;exact aeO
  conv=>whnf
  refine iO (cW ?_);refine And.intro rfl (cW ?_);try (rw [hek];conv=>whnf)
  refine ⟨fun he=>?_,fun he=>?_⟩
  ·have hz:Iq (s.proposals.getD k fB)=false:=by rw [hp,he];rfl
   exact QB
  ·conv=>whnf
   refine iO (cW ?_);refine up hlt ?_ NH;rw [qJ (d:=fB) hlt,hP,hp,he];rfl
 have hd:=of_decide_eq_false hd;obtain rfl:k=s.proposals.length:=by omega
 exact Qq
theorem Oa {p:Prop} (h:p:=by exact (aj [(0,.id 0),(1,.id 1)] rfl ⟨aQ,aQ,ah,ah,trivial⟩ ⟨rE,rE,trivial⟩)):p:=h
theorem QJ {p:Prop}(h:p:=by
 conv=>whnf
 refine iO (cW ?_);refine up hlt (fun j hj=>?_) Oa;by_cases e:j=k
 ·subst e;exact he
 ·exact hP j aI):p:=h
theorem Yc {p:Prop}(h:p:=by
 conv=>whnf
 try simp only [Bool.and_false,Bool.false_and]
 rfl):p:=h
theorem ae8 {p:Prop}(h:p:=by
 simp only [Bool.or_eq_false_iff,Bool.not_eq_false',decide_eq_true_eq] at hc;simp only [hc,decide_true,Bool.true_and,Bool.and_true]):p:=h
theorem afc {p:Prop}(h:p:=by
 have hne:¬ x=y:=by
  intro h;rw [h] at hc;simp at hc
 rw [decide_eq_false hne];conv=>whnf
 rfl):p:=h
theorem KL {p:Prop}(h:p:=by
 rw [decide_eq_false hne];exact Yc):p:=h
theorem Wh {p:Prop}(h:p:=by
 rw [decide_eq_true he];clear hd hP hk;conv=>whnf
 rfl):p:=h
theorem ahE (x y:Lin) (hx:x.text.length≤9223372036854775807∧x.units.length≤9223372036854775807∧x.noted.length≤9223372036854775807∧x.stages.length≤9223372036854775807) (hy:y.text.length≤9223372036854775807∧y.units.length≤9223372036854775807∧y.noted.length≤9223372036854775807∧y.stages.length≤9223372036854775807) :
  ak Tryz.prog 53 [dW x,dW y] (.bool (decide (x=y))):=by
 have g1:=G6 x.units y.units hx.2.1 hy.2.1;have g2:=G6 x.noted y.noted hx.2.2.1 hy.2.2.1;obtain ⟨hx1,hx2,hx3,hx4⟩:=hx;obtain ⟨hy1,hy2,hy3,hy4⟩:=hy;refine aO (au 96 [0,1,2,3,4,5,77,82,95]) Tryz.func53 ?_;conv=>whnf
 refine cO (fun _=>g1) (cW ?_);refine cO (fun _=>g2) (cW ?_);refine ⟨fun hc=>?_,fun hc=>?_⟩
 ·exact afc
 have hed:decide (x=y)=decide (x.stages=y.stages):=by
  rw [OU];exact ae8
 rw [hed];have hlen:x.stages.length=y.stages.length:=by
  simp only [Bool.or_eq_false_iff,Bool.not_eq_false',decide_eq_true_eq] at hc;omega
 conv=>whnf
 refine aX (au _ _) x.stages.length (fun k=>∀ j,j<k→x.stages.getD j fG=y.stages.getD j fG) (fun k=>⟨[(2,.ptr 0 0),(3,.ptr 1 0),(4,.bool false),(5,.int .i64 (k:Nat))],[(0,.cells 47 (Df x)),(1,.cells 47 (Df y))],2⟩) mZ Oa ?_;intro k hk hP;conv=>whnf
 refine ⟨fun hd=>?_,fun hd=>?_⟩
 ·have hd:=of_decide_eq_true hd;have hlt:k<x.stages.length:=by omega
  have hltr:k<y.stages.length:=by omega
  have hek:(k:Int).toNat=k:=Int.toNat_natCast k;conv=>whnf
  refine .quiet bZ (cW ?_);refine iO (cW ?_);refine And.intro rfl (cW ?_);refine iO (cW ?_);refine And.intro rfl (cW ?_);try (rw [hek];conv=>whnf)
  try (rw [hek];conv=>whnf)
  refine And.intro ⟨by kernel_rfl,by kernel_rfl⟩ (cW ?_);rw [show ((decide ((x.stages.getD k fG).stage=(y.stages.getD k fG).stage)&&(decide ((x.stages.getD k fG).since=(y.stages.getD k fG).since)&&true)))=decide (x.stages.getD k fG=y.stages.getD k fG) from (OC _ _).symm];refine ⟨fun he=>?_,fun he=>?_⟩
  ·have hne:¬ x.stages=y.stages:=by
    exact Ir
   exact KL
  ·have he:x.stages.getD k fG=y.stages.getD k fG:=by simpa using he
   exact QJ
 have hd:=of_decide_eq_false hd;have he:x.stages=y.stages:=nS (d:=fG) hlen fun j hj=>hP j (by omega)
 exact Wh
theorem aja (x y:Pro) (hx:x.text.length≤9223372036854775807∧x.units.length≤9223372036854775807∧x.votes.length≤9223372036854775807) (hy:y.text.length≤9223372036854775807∧y.units.length≤9223372036854775807∧y.votes.length≤9223372036854775807) :
  ak Tryz.prog 54 [eF x,eF y] (.bool (decide (x=y))):=by
 have g1:=G6 x.units y.units hx.2.1 hy.2.1;obtain ⟨hx1,hx2,hx3⟩:=hx;obtain ⟨hy1,hy2,hy3⟩:=hy;refine aO (au 67 [0,1,2,3,4,5,48,53,66]) Tryz.func54 ?_;conv=>whnf
 refine cO (fun _=>g1) (cW ?_);refine ⟨fun hc=>?_,fun hc=>?_⟩
 ·exact afc
 have hed:decide (x=y)=decide (x.votes=y.votes):=by
  rw [Pz];exact ae8
 rw [hed];have hlen:x.votes.length=y.votes.length:=by
  simp only [Bool.or_eq_false_iff,Bool.not_eq_false',decide_eq_true_eq] at hc;omega
 conv=>whnf
 refine aX (au _ _) x.votes.length (fun k=>∀ j,j<k→x.votes.getD j eU=y.votes.getD j eU) (fun k=>⟨[(2,.ptr 0 0),(3,.ptr 1 0),(4,.bool false),(5,.int .i64 (k:Nat))],[(0,.cells 64 (CQ x)),(1,.cells 64 (CQ y))],2⟩) mZ Oa ?_;intro k hk hP;conv=>whnf
 refine ⟨fun hd=>?_,fun hd=>?_⟩
 ·have hd:=of_decide_eq_true hd;have hlt:k<x.votes.length:=by omega
  have hltr:k<y.votes.length:=by omega
  have hek:(k:Int).toNat=k:=Int.toNat_natCast k;conv=>whnf
  refine .quiet bZ (cW ?_);refine iO (cW ?_);refine And.intro rfl (cW ?_);refine iO (cW ?_);refine And.intro rfl (cW ?_);try (rw [hek];conv=>whnf)
  try (rw [hek];conv=>whnf)
  refine And.intro ⟨by kernel_rfl,by kernel_rfl⟩ (cW ?_);rw [show ((decide ((x.votes.getD k eU).seat=(y.votes.getD k eU).seat)&&(decide ((x.votes.getD k eU).day=(y.votes.getD k eU).day)&&(decide ((x.votes.getD k eU).yes=(y.votes.getD k eU).yes)&&true))))=decide (x.votes.getD k eU=y.votes.getD k eU) from (Oz _ _).symm];refine ⟨fun he=>?_,fun he=>?_⟩
  ·have hne:¬ x.votes=y.votes:=by
    exact Ir
   exact KL
  ·have he:x.votes.getD k eU=y.votes.getD k eU:=by simpa using he
   exact QJ
 have hd:=of_decide_eq_false hd;have he:x.votes=y.votes:=nS (d:=eU) hlen fun j hj=>hP j (by omega)
 exact Wh
theorem MB (a b:Sta) (oa:OkS a) (ob:OkS b):ak Tryz.prog 12 [mW a,mW b] (.bool (decide (a=b))):=by
 have g1:=G6 a.cash b.cash oa.cash ob.cash;have g2:=G6 a.purses b.purses oa.purses ob.purses;have g3:=afW a.facts b.facts oa.facts ob.facts;have h1:=oa.lines;have h2:=oa.payments;have h3:=oa.proposals;have h4:=ob.lines;have h5:=ob.payments;have h6:=ob.proposals;refine aO (au 127 [0,1,2,3,4,5,6,7,70,75,89,94,107,112,126]) Tryz.func12 ?_;conv=>whnf
 refine cO (fun _=>g1) (cW ?_);refine cO (fun _=>g2) (cW ?_);refine cO (fun _=>g3) (cW ?_);refine ⟨fun hc=>?_,fun hc=>?_⟩
 ·have hne:¬ a=b:=by
   intro h;rw [h] at hc;simp at hc
  rw [decide_eq_false hne];conv=>whnf
  rfl
 have hed:decide (a=b)=(decide (a.lines=b.lines)&&(decide (a.payments=b.payments)&&decide (a.proposals=b.proposals))):=by
  rw [PN];simp only [Bool.or_eq_false_iff,Bool.not_eq_false',decide_eq_true_eq] at hc;simp only [hc,decide_true,Bool.true_and,Bool.and_true];cases decide (a.lines=b.lines)<;>cases decide (a.payments=b.payments)<;>cases decide (a.proposals=b.proposals)<;>rfl
 rw [hed];clear hed;simp only [Bool.or_eq_false_iff,Bool.not_eq_false',decide_eq_true_eq] at hc;have hlen:a.lines.length=b.lines.length:=by omega
 have hlen2:a.payments.length=b.payments.length:=by omega
 have hlen3:a.proposals.length=b.proposals.length:=by omega
 conv=>whnf
 refine aX (au _ _) a.lines.length (fun k=>∀ j,j<k→a.lines.getD j eP=b.lines.getD j eP) (fun k=>⟨[(2,.ptr 0 0),(3,.ptr 1 0),(4,.bool false),(5,.int .i64 (k:Nat))],[(0,.cells 28 (jl a)),(1,.cells 28 (jl b))],2⟩) mZ Oa ?_;intro k hk hP;conv=>whnf
 refine ⟨fun hd=>?_,fun hd=>?_⟩
 ·have hd:=of_decide_eq_true hd;have hlt:k<a.lines.length:=by omega
  have hltr:k<b.lines.length:=by omega
  have hek:(k:Int).toNat=k:=Int.toNat_natCast k;have hone:=ahE (a.lines.getD k eP) (b.lines.getD k eP) (oa.line _ (getD_mem hlt)) (ob.line _ (getD_mem hltr));conv=>whnf
  refine .quiet bZ (cW ?_);refine iO (cW ?_);refine And.intro rfl (cW ?_);refine iO (cW ?_);refine And.intro rfl (cW ?_);try (rw [hek];conv=>whnf)
  try (rw [hek];conv=>whnf)
  refine .mk _ _ _ _ (fun _=>hone) vN rfl (cW ?_);refine ⟨fun he=>?_,fun he=>?_⟩
  ·have hne:¬ a.lines=b.lines:=by
    exact Ir
   exact KL
  ·have he:a.lines.getD k eP=b.lines.getD k eP:=by simpa using he
   exact QJ
 have hd:=of_decide_eq_false hd;have he:a.lines=b.lines:=nS (d:=eP) hlen fun j hj=>hP j (by omega)
 rw [decide_eq_true he];clear hd hP hk;conv=>whnf
 clear hlen;have hlen:=hlen2;refine aX (au _ _) a.payments.length (fun k=>∀ j,j<k→a.payments.getD j pa0=b.payments.getD j pa0) (fun k=>⟨[(2,.ptr 0 0),(3,.ptr 1 0),(4,.bool false),(6,.int .i64 (k:Nat))],[(0,.cells 28 (jl a)),(1,.cells 28 (jl b))],2⟩) mZ Oa ?_;intro k hk hP;conv=>whnf
 refine ⟨fun hd=>?_,fun hd=>?_⟩
 ·have hd:=of_decide_eq_true hd;have hlt:k<a.payments.length:=by omega
  have hltr:k<b.payments.length:=by omega
  have hek:(k:Int).toNat=k:=Int.toNat_natCast k;conv=>whnf
  refine .quiet bZ (cW ?_);refine iO (cW ?_);refine And.intro rfl (cW ?_);refine iO (cW ?_);refine And.intro rfl (cW ?_);try (rw [hek];conv=>whnf)
  try (rw [hek];conv=>whnf)
  refine And.intro ⟨by kernel_rfl,by kernel_rfl⟩ (cW ?_);rw [show ((decide ((a.payments.getD k pa0).issue=(b.payments.getD k pa0).issue)&&(decide ((a.payments.getD k pa0).seat=(b.payments.getD k pa0).seat)&&(decide ((a.payments.getD k pa0).day=(b.payments.getD k pa0).day)&&(decide ((a.payments.getD k pa0).due=(b.payments.getD k pa0).due)&&(decide ((a.payments.getD k pa0).paid=(b.payments.getD k pa0).paid)&&(decide ((a.payments.getD k pa0).period=(b.payments.getD k pa0).period)&&true)))))))=decide (a.payments.getD k pa0=b.payments.getD k pa0) from (OH _ _).symm];refine ⟨fun he=>?_,fun he=>?_⟩
  ·have hne:¬ a.payments=b.payments:=by
    exact Ir
   exact KL
  ·have he:a.payments.getD k pa0=b.payments.getD k pa0:=by simpa using he
   exact QJ
 have hd:=of_decide_eq_false hd;have he:a.payments=b.payments:=nS (d:=pa0) hlen fun j hj=>hP j (by omega)
 rw [decide_eq_true he];clear hd hP hk;conv=>whnf
 clear hlen;have hlen:=hlen3;refine aX (au _ _) a.proposals.length (fun k=>∀ j,j<k→a.proposals.getD j fB=b.proposals.getD j fB) (fun k=>⟨[(2,.ptr 0 0),(3,.ptr 1 0),(4,.bool false),(7,.int .i64 (k:Nat))],[(0,.cells 28 (jl a)),(1,.cells 28 (jl b))],2⟩) mZ Oa ?_;intro k hk hP;conv=>whnf
 refine ⟨fun hd=>?_,fun hd=>?_⟩
 ·have hd:=of_decide_eq_true hd;have hlt:k<a.proposals.length:=by omega
  have hltr:k<b.proposals.length:=by omega
  have hek:(k:Int).toNat=k:=Int.toNat_natCast k;have hone:=aja (a.proposals.getD k fB) (b.proposals.getD k fB) (oa.proposal _ (getD_mem hlt)) (ob.proposal _ (getD_mem hltr));conv=>whnf
  refine .quiet bZ (cW ?_);refine iO (cW ?_);refine And.intro rfl (cW ?_);refine iO (cW ?_);refine And.intro rfl (cW ?_);try (rw [hek];conv=>whnf)
  try (rw [hek];conv=>whnf)
  refine .mk _ _ _ _ (fun _=>hone) vN rfl (cW ?_);refine ⟨fun he=>?_,fun he=>?_⟩
  ·have hne:¬ a.proposals=b.proposals:=by
    exact Ir
   exact KL
  ·have he:a.proposals.getD k fB=b.proposals.getD k fB:=by simpa using he
   exact QJ
 have hd:=of_decide_eq_false hd;have he:a.proposals=b.proposals:=nS (d:=fB) hlen fun j hj=>hP j (by omega)
 exact Wh
structure OkC (s:Sta):Prop where
 cash:s.cash.length≤1000000
 purses:s.purses.length≤1000000
 lines:s.lines.length≤1000000
 facts:s.facts.length≤1000000
 payments:s.payments.length≤1000000
 proposals:s.proposals.length≤1000000
 line:∀ x∈s.lines,x.units.length≤1000000∧x.noted.length≤1000000∧x.stages.length≤1000000
 proposal:∀ x∈s.proposals,x.units.length≤1000000∧x.votes.length≤1000000
theorem FewS.okC {s:Sta} (h:FewS s):OkC s :=
 ⟨by have:=h.cash;omega,by have:=h.purses;omega,by have:=h.lines;omega,by have:=h.facts;omega,by have:=h.payments;omega,by have:=h.proposals;omega,fun x hx=>(by have:=h.line x hx;omega),fun x hx=>(by have:=h.proposal x hx;omega)⟩
theorem EZ {α:Type} {l:List α} {k:Nat} {d:α} (h:k<l.length):l.set k (l.getD k d)=l:=by
 apply List.ext_getElem?;intro j;rw [List.getElem?_set];split
 ·rename_i e;subst e;rw [List.getD_eq_getElem?_getD,List.getElem?_eq_getElem h];rfl
 ·rfl
theorem ahr {p:Prop} (h:p:=by exact (aj [(0,.id 0),(1,.id 1),(2,.id 2),(3,.id 3)] rfl ⟨aQ,aQ,ah,ah,trivial⟩ ⟨rE,rE,we0,we0,trivial⟩)):p:=h
theorem ahY {p:Prop}(h:p:=by
 conv=>whnf
 rw [EZ hlt];refine And.intro rfl (cW ?_);refine iO (cW ?_);exact up hlt trivial ahr):p:=h
theorem VK (s:Sta) (h:OkC s):ak Tryz.prog 18 [mW s] (mW s):=by
 have g1:=Ho s.cash h.cash;have g2:=Ho s.purses h.purses;have g3:=ag7 s.facts h.facts;have g4:=ah8 s.payments h.payments;have g5:=aiX s.lines h.lines;have g6:=ai5 s.proposals h.proposals;refine aW (au 94 [0,1,2,3,4,5,6,33,34,35,68,69,70]) Tryz.func18 ?_;conv=>whnf
 refine .eff ad0 (cW ?_);refine cO (fun _=>g1) (cW ?_);refine cO (fun _=>g2) (cW ?_);refine cO (fun _=>g3) (cW ?_);refine cO (fun _=>g4) (cW ?_);refine ⟨by kernel_rfl,(cW ?_)⟩;refine .eff ad0 (cW ?_);refine cO (fun _=>g5) (cW ?_);refine cO (fun _=>g6) (cW ?_);refine ⟨by kernel_rfl,(cW ?_)⟩;have hl:=h.lines;refine aX (au _ _) s.lines.length (fun _=>True) (fun k=>⟨[(1,.ptr 0 0),(2,.ptr 1 0),(33,.int .i64 (s.lines.length:Nat)),(34,.int .i64 (k:Nat))],[(0,.cells 28 [.int .i64 s.day,.sl 1 encI 0 s.cash,.sl 1 encI 0 s.purses,.int .i64 s.outside,.own 2,.sl 5 eG fa0 s.facts,.sl 6 fZ pa0 s.payments,.own 3]),(1,.cells 28 (jl st0)),(2,.row 47 10 dW eP s.lines),(3,.row 64 6 eF fB s.proposals)],4⟩) trivial (by exact (aj [(0,.id 0),(1,.id 1),(2,.id 2),(3,.id 3)] rfl ⟨aQ,aQ,ah,ah,trivial⟩ ⟨rE,⟨_,rfl,.cells _ _ _ _ rfl acu rfl⟩,we0,we0,trivial⟩)) ?_;intro k hk _;conv=>whnf
 refine ⟨fun hd=>?_,fun hd=>?_⟩
 ·have hd:=of_decide_eq_true hd;have hlt:k<s.lines.length:=by omega
  have hek:(k:Int).toNat=k:=Int.toNat_natCast k;have hx:=h.line _ (getD_mem (d:=eP) hlt);have k1:=Ho (s.lines.getD k eP).units hx.1;have k2:=Ho (s.lines.getD k eP).noted hx.2.1;have k3:=aiu (s.lines.getD k eP).stages hx.2.2;conv=>whnf
  refine iO (cW ?_);refine .eff ad0 (cW ?_);refine And.intro aI (And.intro rfl (cW ?_));try (rw [hek];conv=>whnf)
  refine cO (fun _=>k1) (cW ?_);refine And.intro aI (And.intro rfl (cW ?_));refine cO (fun _=>k2) (cW ?_);refine And.intro aI (And.intro rfl (cW ?_));refine cO (fun _=>k3) (cW ?_);refine Exists.intro _ (And.intro rfl (cW ?_));refine And.intro hlt (And.intro ⟨rfl,rfl,(show 1+1≤10 by decide),rfl,rfl⟩ (cW ?_));rw [EZ hlt];refine Exists.intro _ (And.intro rfl (cW ?_));refine And.intro hlt (And.intro ⟨rfl,rfl,(show 2+1≤10 by decide),rfl,rfl⟩ (cW ?_));rw [EZ hlt];refine Exists.intro _ (And.intro rfl (cW ?_));refine And.intro hlt (And.intro ⟨rfl,rfl,(show 4+1≤10 by decide),rfl,rfl⟩ ?_);exact ahY
 conv=>whnf
 have hm:=h.proposals;refine aX (au _ _) s.proposals.length (fun _=>True) (fun k=>⟨[(1,.ptr 0 0),(2,.ptr 1 0),(68,.int .i64 (s.proposals.length:Nat)),(69,.int .i64 (k:Nat))],[(0,.cells 28 [.int .i64 s.day,.sl 1 encI 0 s.cash,.sl 1 encI 0 s.purses,.int .i64 s.outside,.own 2,.sl 5 eG fa0 s.facts,.sl 6 fZ pa0 s.payments,.own 3]),(1,.cells 28 (jl st0)),(2,.row 47 10 dW eP s.lines),(3,.row 64 6 eF fB s.proposals)],4⟩) trivial ahr ?_;intro k hk _;conv=>whnf
 refine ⟨fun hd=>?_,fun hd=>?_⟩
 ·have hd:=of_decide_eq_true hd;have hlt:k<s.proposals.length:=by omega
  have hek:(k:Int).toNat=k:=Int.toNat_natCast k;have hx:=h.proposal _ (getD_mem (d:=fB) hlt);have k1:=Ho (s.proposals.getD k fB).units hx.1;have k2:=ahJ (s.proposals.getD k fB).votes hx.2;conv=>whnf
  refine iO (cW ?_);refine .eff ad0 (cW ?_);refine And.intro aI (And.intro rfl (cW ?_));try (rw [hek];conv=>whnf)
  refine cO (fun _=>k1) (cW ?_);refine And.intro aI (And.intro rfl (cW ?_));refine cO (fun _=>k2) (cW ?_);refine Exists.intro _ (And.intro rfl (cW ?_));refine And.intro hlt (And.intro ⟨rfl,rfl,(show 3+1≤6 by decide),rfl,rfl⟩ (cW ?_));rw [EZ hlt];refine Exists.intro _ (And.intro rfl (cW ?_));refine And.intro hlt (And.intro ⟨rfl,rfl,(show 4+1≤6 by decide),rfl,rfl⟩ ?_);exact ahY
 conv=>whnf
 refine ⟨⟨[(2,.ptr 0 0)],[(0,.cells 28 (jl s))],1⟩,(dY [2,3]).trans (aj [(0,.id 1)] rfl ⟨aQ,trivial⟩ ⟨aB,trivial⟩),(cW ?_)⟩;rfl
def exS:Sta:=⟨7,[5,0],[9],-2,[],[⟨3,[99,97,115,104],6,500,7⟩],[],[]⟩
def exT:List UInt8:=[55,59,50,59,53,59,48,59,49,59,57,59,45,50,59,48,59,49,59,51,59,52,58,99,97,115,104,44,54,59,53,48,48,59,55,59,48,59,48,59]
theorem Tc:fM exS=true:=by decide +kernel
theorem Vl:vk exS=exT:=by decide +kernel
theorem ab_:vk st0=[48,59,48,59,48,59,48,59,48,59,48,59,48,59,48,59]:=by decide +kernel
def stM:Sta:=⟨-1,[],[],0,[],[],[],[]⟩
theorem aa_:vk stM=[]:=by decide +kernel
theorem agk:yL exT=(exS,0):=by
 have h:=YD Tc;rw [Vl] at h;unfold yL;rw [if_pos h.2.2,h.2.1]
theorem abK:uZ exS=14:=by decide +kernel
theorem ah1 {p:Prop} (h:p:=by first | exact g_.lsl_sl encI 0 [5,0] rfl | exact g_.lsl_sl encI 0 [9] rfl | exact g_.lsl_sl eG fa0 exS.facts rfl | exact g_.nils_sl 10 dW eP | exact g_.nils_sl 6 fZ pa0 | exact g_.nils_sl 6 eF fB):p:=h
theorem WU:ak Tryz.prog 24 [] (mW exS):=by
 refine aW (au 6 [0]) Tryz.func24 ?_;conv=>whnf
 refine ⟨⟨[(0,.ptr 0 0)],[(0,.cells 28 (jl exS))],1⟩,(dY [1,2,3]).trans (aj [(0,.id 0)] rfl ⟨aQ,trivial⟩ ⟨⟨_,rfl,.cells _ _ _ _ rfl (by repeat (first | exact .nil | refine .cons (by first | exact .base (.tree _ _ rfl rfl) | exact .base (.own _ _ rfl) | exact .base (.ptr _ _ _ rfl) | exact .base (.map _ _ rfl) | exact .base (.nilown _ rfl) | exact .fn _ _ _ _ _ .nil vJ | exact .base (.tree _ _ ah1 rfl) | exact .base (.leT _ _ ah1 rfl)) ?_)) rfl⟩,trivial⟩),?_⟩;conv=>whnf
 rfl
theorem EC:OkS exS:=by
 refine ⟨?_,?_,?_,?_,?_,?_,?_,?_,?_⟩<;>simp [exS]
theorem ZA:OkS st0:=by
 refine ⟨?_,?_,?_,?_,?_,?_,?_,?_,?_⟩<;>simp
theorem ahn:OkS stM:=by
 refine ⟨?_,?_,?_,?_,?_,?_,?_,?_,?_⟩<;>simp [stM]
theorem ahl:OkC exS:=by
 refine ⟨?_,?_,?_,?_,?_,?_,?_,?_⟩<;>simp [exS]
theorem acX:ak Tryz.prog 8 [] (.bool true):=by
 have g1:=Vo exT (by decide);unfold readA at g1;rw [agk] at g1;dsimp only at g1;have g2:=Ef st0 ZA;rw [ab_] at g2;have g3:=WU;have g4:=Ef exS EC;rw [Vl] at g4;have g5:=MB exS exS EC EC;rw [decide_eq_true rfl] at g5;have g6:=Ef stM ahn;rw [aa_] at g6;have g7:=Nj exS exS EC EC;rw [decide_eq_true rfl] at g7;have g8:=EG exS EC;rw [Tc] at g8;have g9:=VK exS ahl;have gm:=TD exS EC;rw [abK] at gm;refine aW (au 54 [0,1,2,3,4]) Tryz.func8 ?_;conv=>whnf
 refine cO (fun _=>g1) (cW ?_);refine .eff ad0 (cW ?_);refine .one _ _ _ (fun _=>g2) (BorL.cons (.agg _ _ _ (.cons (.base (.base (.same _ rfl))) (.cons (.base (.base (.nils _ _ _))) (.cons (.base (.base (.nils _ _ _))) (.cons (.base (.base (.same _ rfl))) (.cons (.base (.base (.nils _ _ _))) (.cons (.base (.base (.nils _ _ _))) (.cons (.base (.base (.nils _ _ _))) (.cons (.base (.base (.nils _ _ _))) .nil))))))))) vN) uU uO (cW ?_);rw [decide_eq_true (show ([48,59,48,59,48,59,48,59,48,59,48,59,48,59,48,59]:List UInt8)=(⟨#[48,59,48,59,48,59,48,59,48,59,48,59,48,59,48,59]⟩:ByteArray).data.toList from rfl)];refine gT (cW ?_);refine cO (fun _=>g3) (cW ?_);refine gT (cW ?_);refine cO (fun _=>g4) (cW ?_);refine nE (cW ?_);refine nE (cW ?_);refine nE (cW ?_);refine nE (cW ?_);refine nE (cW ?_);refine nE (cW ?_);refine nE (cW ?_);refine nE (cW ?_);rw [decide_eq_true (show exT=(⟨#[55,59,50,59,53,59,48,59,49,59,57,59,45,50,59,48,59,49,59,51,59,52,58,99,97,115,104,44,54,59,53,48,48,59,55,59,48,59,48,59]⟩:ByteArray).data.toList from rfl)];refine cO (fun _=>g3) (cW ?_);refine nE (cW ?_);refine cO (fun _=>g5) (cW ?_);refine nE (cW ?_);refine And.intro rfl (cW ?_);refine .eff ad0 (cW ?_);refine nE (cW ?_);refine nE (cW ?_);refine .one _ _ _ (fun _=>g6) (BorL.cons (.agg _ _ _ (.cons (.base (.base (.same _ rfl))) (.cons (.base (.base (.nils _ _ _))) (.cons (.base (.base (.nils _ _ _))) (.cons (.base (.base (.same _ rfl))) (.cons (.base (.base (.nils _ _ _))) (.cons (.base (.base (.nils _ _ _))) (.cons (.base (.base (.nils _ _ _))) (.cons (.base (.base (.nils _ _ _))) .nil))))))))) vN) uU uO (cW ?_);refine nE (cW ?_);refine nE (cW ?_);refine nE (cW ?_);refine nE (cW ?_);refine cO (fun _=>g3) (cW ?_);refine nE (cW ?_);refine cO (fun _=>g7) (cW ?_);refine nE (cW ?_);refine nE (cW ?_);refine nE (cW ?_);refine cO (fun _=>g8) (cW ?_);refine nE (cW ?_);refine nE (cW ?_);refine cO (fun _=>g3) (cW ?_);refine nE (cW ?_);refine cO (fun _=>g9) (cW ?_);refine nE (cW ?_);refine nE (cW ?_);refine cO (fun _=>g5) (cW ?_);refine nE (cW ?_);refine nE (cW ?_);refine nE (cW ?_);refine cO (fun _=>gm) (cW ?_);refine nE (cW ?_);refine nE (cW ?_);refine And.intro rfl (cW ?_);exact QU
theorem YM {t:List UInt8} (ht:t.length≤100000000000):OkS (yL t).1:=by
 unfold yL;split
 ·exact Q6 ⟨t,false⟩ ht
 ·exact ZA
theorem pV {l:List Int} {x:Nat} {v:Int} (h:x<l.length):(l.set x v).getD x 0=v:=by
 rw [List.getD_eq_getElem?_getD,List.getElem?_set_self h];rfl
set_option maxHeartbeats 16000000
open Go.ChangeShapes Go.WideShapes Go.RowKit Go.Own
theorem Tryz.own:ownKnob Tryz.prog.godebug=none:=by kernel_rfl
theorem Tryz.laidOut:laidOutB Tryz.prog=true:=by kernel_rfl
theorem Vb:Tryz.prog.underlying 4=some .bool:=by kernel_rfl
theorem ajw:Tryz.prog.underlying 3=some (.int .i64):=by kernel_rfl
theorem aeg:Tryz.prog.underlying 9=some .string:=by kernel_rfl
theorem aiC:Tryz.prog.underlying 22=some (.slice 3):=by kernel_rfl
theorem ajn:Tryz.prog.underlying 23=some (.slice 47):=by kernel_rfl
theorem ajl:Tryz.prog.underlying 24=some (.slice 41):=by kernel_rfl
theorem ai_:Tryz.prog.underlying 25=some (.slice 43):=by kernel_rfl
theorem ajp:Tryz.prog.underlying 26=some (.slice 64):=by kernel_rfl
theorem ajq:Tryz.prog.underlying 45=some (.slice 61):=by kernel_rfl
theorem aiW:Tryz.prog.underlying 62=some (.slice 66):=by kernel_rfl
def aaM : Array Field := #[⟨ "Day",3,0,false, "", "",0⟩, ⟨ "Cash",22,1,false, "", "",8⟩, ⟨ "Purses",22,2,false, "", "",32⟩, ⟨ "Outside",3,3,false, "", "",56⟩, ⟨ "Lines",23,4,false, "", "",64⟩, ⟨ "Facts",24,5,false, "", "",88⟩, ⟨ "Payments",25,6,false, "", "",112⟩, ⟨ "Proposals",26,7,false, "", "",136⟩]
theorem aez:Tryz.prog.underlying 28=some (.struct aaM):=by kernel_rfl
def abI : Array Field := #[⟨ "Issuer",3,0,false, "", "",0⟩, ⟨ "Name",9,1,false, "", "",8⟩, ⟨ "Period",3,2,false, "", "",24⟩, ⟨ "Value",3,3,false, "", "",32⟩, ⟨ "Day",3,4,false, "", "",40⟩]
theorem aiB:Tryz.prog.underlying 41=some (.struct abI):=by kernel_rfl
def ade : Array Field := #[⟨ "Issue",3,0,false, "", "",0⟩, ⟨ "Seat",3,1,false, "", "",8⟩, ⟨ "Day",3,2,false, "", "",16⟩, ⟨ "Due",3,3,false, "", "",24⟩, ⟨ "Paid",3,4,false, "", "",32⟩, ⟨ "Period",3,5,false, "", "",40⟩]
theorem aju:Tryz.prog.underlying 43=some (.struct ade):=by kernel_rfl
def acN : Array Field := #[⟨ "Text",9,0,false, "", "",0⟩, ⟨ "Units",22,1,false, "", "",16⟩, ⟨ "Noted",22,2,false, "", "",40⟩, ⟨ "NotedAt",3,3,false, "", "",64⟩, ⟨ "Stages",45,4,false, "", "",72⟩, ⟨ "Fast",3,5,false, "", "",96⟩, ⟨ "Called",3,6,false, "", "",104⟩, ⟨ "Price",3,7,false, "", "",112⟩, ⟨ "Ended",4,8,false, "", "",120⟩, ⟨ "Since",3,9,false, "", "",128⟩]
theorem ajb:Tryz.prog.underlying 47=some (.struct acN):=by kernel_rfl
def abw : Array Field := #[⟨ "Stage",3,0,false, "", "",0⟩, ⟨ "Since",3,1,false, "", "",8⟩]
theorem ajy:Tryz.prog.underlying 61=some (.struct abw):=by kernel_rfl
def aaL : Array Field := #[⟨ "Seat",3,0,false, "", "",0⟩, ⟨ "Day",3,1,false, "", "",8⟩, ⟨ "Yes",4,2,false, "", "",16⟩]
theorem aiL:Tryz.prog.underlying 66=some (.struct aaL):=by kernel_rfl
def acO : Array Field := #[⟨ "Issue",3,0,false, "", "",0⟩, ⟨ "Text",9,1,false, "", "",8⟩, ⟨ "Day",3,2,false, "", "",24⟩, ⟨ "Units",22,3,false, "", "",32⟩, ⟨ "Votes",62,4,false, "", "",56⟩, ⟨ "Closed",4,5,false, "", "",80⟩]
theorem ajx:Tryz.prog.underlying 64=some (.struct acO):=by kernel_rfl
abbrev ajN:List AV→Prop:=fun l=>∃ n,(IntKind.i64.min≤n∧n≤IntKind.i64.max)∧l=[.int .i64 n]
abbrev ajQ:List AV→Prop:=fun l=>∃ s:List UInt8,s.length≤9223372036854775807∧l=[.str s]
theorem nN:jK Tryz.prog 3 1 ajN:=V3 ajw bZ
theorem adg:jK Tryz.prog 9 1 ajQ:=XU aeg bZ
theorem XJ:jK Tryz.prog 4 1 (fun l=>∃ b,l=[.bool b]):=U3 Vb bZ
instance:Inhabited Brc:=⟨fG⟩
instance:Inhabited Vot:=⟨eU⟩
instance:Inhabited Fac:=⟨fa0⟩
instance:Inhabited Pay:=⟨pa0⟩
instance:Inhabited Lin:=⟨eP⟩
instance:Inhabited Pro:=⟨fB⟩
theorem KN:jK Tryz.prog 22 1 (fun l=>∃ xs:List Int,(∀ a∈xs,True)∧xs.length≤9223372036854775807∧l=[.sl 1 encI 0 xs]) :=
 nX 0 aiC bZ nN (by decide) (fun l hl=>by
  obtain ⟨n,_,rfl⟩:=hl;exact ⟨n,trivial,rfl⟩) (fun _=>rfl)
theorem ajO:jK Tryz.prog 45 1 (fun l=>∃ xs:List Brc,(∀ a∈xs,True)∧xs.length≤9223372036854775807∧l=[.sl 2 gy fG xs]) :=
 nX fG ajq bZ (ny ajy bZ (Rs:=[(1,_),(1,_)]) ⟨rfl,nN,rfl,nN,rfl⟩) (by decide) (fun l hl=>by
  obtain ⟨_,_,⟨n0,_,rfl⟩,⟨_,_,⟨n1,_,rfl⟩,rfl,rfl⟩,rfl⟩:=hl;exact ⟨⟨n0,n1⟩,trivial,rfl⟩) (fun _=>rfl)
theorem ajX:jK Tryz.prog 62 1 (fun l=>∃ xs:List Vot,(∀ a∈xs,True)∧xs.length≤9223372036854775807∧l=[.sl 3 gu eU xs]) :=
 nX eU aiW bZ (ny aiL bZ (Rs:=[(1,_),(1,_),(1,_)]) ⟨rfl,nN,rfl,nN,rfl,XJ,rfl⟩) (by decide) (fun l hl=>by
  obtain ⟨_,_,⟨n0,_,rfl⟩,⟨_,_,⟨n1,_,rfl⟩,⟨_,_,⟨n2,rfl⟩,rfl,rfl⟩,rfl⟩,rfl⟩:=hl;exact ⟨⟨n0,n1,n2⟩,trivial,rfl⟩) (fun _=>rfl)
theorem ajZ:jK Tryz.prog 24 1 (fun l=>∃ xs:List Fac,(∀ a∈xs,a.name.length≤9223372036854775807)∧xs.length≤9223372036854775807∧l=[.sl 5 eG fa0 xs]) :=
 nX fa0 ajl bZ (ny aiB bZ (Rs:=[(1,_),(1,_),(1,_),(1,_),(1,_)]) ⟨rfl,nN,rfl,adg,rfl,nN,rfl,nN,rfl,nN,rfl⟩) (by decide) (fun l hl=>by
  obtain ⟨_,_,⟨n0,_,rfl⟩,⟨_,_,⟨n1,h1,rfl⟩,⟨_,_,⟨n2,_,rfl⟩,⟨_,_,⟨n3,_,rfl⟩,⟨_,_,⟨n4,_,rfl⟩,rfl,rfl⟩,rfl⟩,rfl⟩,rfl⟩,rfl⟩:=hl;exact ⟨⟨n0,n1,n2,n3,n4⟩,h1,rfl⟩) (fun _=>rfl)
theorem ajP:jK Tryz.prog 25 1 (fun l=>∃ xs:List Pay,(∀ a∈xs,True)∧xs.length≤9223372036854775807∧l=[.sl 6 fZ pa0 xs]) :=
 nX pa0 ai_ bZ (ny aju bZ (Rs:=[(1,_),(1,_),(1,_),(1,_),(1,_),(1,_)]) ⟨rfl,nN,rfl,nN,rfl,nN,rfl,nN,rfl,nN,rfl,nN,rfl⟩) (by decide) (fun l hl=>by
  obtain ⟨_,_,⟨n0,_,rfl⟩,⟨_,_,⟨n1,_,rfl⟩,⟨_,_,⟨n2,_,rfl⟩,⟨_,_,⟨n3,_,rfl⟩,⟨_,_,⟨n4,_,rfl⟩,⟨_,_,⟨n5,_,rfl⟩,rfl,rfl⟩,rfl⟩,rfl⟩,rfl⟩,rfl⟩,rfl⟩:=hl;exact ⟨⟨n0,n1,n2,n3,n4,n5⟩,trivial,rfl⟩) (fun _=>rfl)
theorem ajS:jK Tryz.prog 23 1 (fun l=>∃ xs:List Lin,(∀ a∈xs,a.text.length≤9223372036854775807∧a.units.length≤9223372036854775807∧a.noted.length≤9223372036854775807∧a.stages.length≤9223372036854775807)∧xs.length≤9223372036854775807∧l=[.sl 10 dW eP xs]) :=
 nX eP ajn bZ (ny ajb bZ (Rs:=[(1,_),(1,_),(1,_),(1,_),(1,_),(1,_),(1,_),(1,_),(1,_),(1,_)]) ⟨rfl,adg,rfl,KN,rfl,KN,rfl,nN,rfl,ajO,rfl,nN,rfl,nN,rfl,nN,rfl,XJ,rfl,nN,rfl⟩) (by decide) (fun l hl=>by
  obtain ⟨_,_,⟨n0,h0,rfl⟩,⟨_,_,⟨n1,_,h1,rfl⟩,⟨_,_,⟨n2,_,h2,rfl⟩,⟨_,_,⟨n3,_,rfl⟩,⟨_,_,⟨n4,_,h4,rfl⟩,⟨_,_,⟨n5,_,rfl⟩,⟨_,_,⟨n6,_,rfl⟩,⟨_,_,⟨n7,_,rfl⟩,⟨_,_,⟨n8,rfl⟩,⟨_,_,⟨n9,_,rfl⟩,rfl,rfl⟩,rfl⟩,rfl⟩,rfl⟩,rfl⟩,rfl⟩,rfl⟩,rfl⟩,rfl⟩,rfl⟩:=hl;exact ⟨⟨n0,n1,n2,n3,n4,n5,n6,n7,n8,n9⟩,⟨h0,h1,h2,h4⟩,rfl⟩) (fun _=>rfl)
theorem ajW:jK Tryz.prog 26 1 (fun l=>∃ xs:List Pro,(∀ a∈xs,a.text.length≤9223372036854775807∧a.units.length≤9223372036854775807∧a.votes.length≤9223372036854775807)∧xs.length≤9223372036854775807∧l=[.sl 6 eF fB xs]) :=
 nX fB ajp bZ (ny ajx bZ (Rs:=[(1,_),(1,_),(1,_),(1,_),(1,_),(1,_)]) ⟨rfl,nN,rfl,adg,rfl,nN,rfl,KN,rfl,ajX,rfl,XJ,rfl⟩) (by decide) (fun l hl=>by
  obtain ⟨_,_,⟨n0,_,rfl⟩,⟨_,_,⟨n1,h1,rfl⟩,⟨_,_,⟨n2,_,rfl⟩,⟨_,_,⟨n3,_,h3,rfl⟩,⟨_,_,⟨n4,_,h4,rfl⟩,⟨_,_,⟨n5,rfl⟩,rfl,rfl⟩,rfl⟩,rfl⟩,rfl⟩,rfl⟩,rfl⟩:=hl;exact ⟨⟨n0,n1,n2,n3,n4,n5⟩,⟨h1,h3,h4⟩,rfl⟩) (fun _=>rfl)
abbrev ajR:List AV→Prop:=fun l=>∃ s:Sta,OkS s∧l=(mW s).cells
theorem ajY:jK Tryz.prog 28 8 ajR:=by
 refine (ny aez bZ (Rs:=[(1,_),(1,_),(1,_),(1,_),(1,_),(1,_),(1,_),(1,_)]) ⟨rfl,nN,rfl,KN,rfl,KN,rfl,nN,rfl,ajS,rfl,ajZ,rfl,ajP,rfl,ajW,rfl⟩).mono fun l hl=>?_
 obtain ⟨_,_,⟨n0,_,rfl⟩,⟨_,_,⟨n1,_,h1,rfl⟩,⟨_,_,⟨n2,_,h2,rfl⟩,⟨_,_,⟨n3,_,rfl⟩,⟨_,_,⟨n4,k4,h4,rfl⟩,⟨_,_,⟨n5,k5,h5,rfl⟩,⟨_,_,⟨n6,_,h6,rfl⟩,⟨_,_,⟨n7,k7,h7,rfl⟩,rfl,rfl⟩,rfl⟩,rfl⟩,rfl⟩,rfl⟩,rfl⟩,rfl⟩,rfl⟩:=hl;exact ⟨⟨n0,n1,n2,n3,n4,n5,n6,n7⟩,⟨h1,h2,h4,h5,h6,h7,k4,k5,k7⟩,rfl⟩
theorem aib:Ls Tryz.prog 28 (fun a=>∃ s:Sta,OkS s∧a=mW s) :=
 Ls.mono (Yp aez ajY) fun a ⟨l,⟨x,h,hl⟩,ha⟩=>⟨x,h,by rw [ha,hl];rfl⟩
theorem ajT:Ls Tryz.prog 9 (fun a=>∃ s:List UInt8,s.length≤9223372036854775807∧a=.str s):=afB aeg
abbrev XK:List (String×DataW Unit):=Rows.stateBackRow.laid
noncomputable def laidWorld (os:Os):World:=World.laidAll Tryz.prog os XK
theorem laid_met (os:Os) (args:Array Value):laidMet Tryz.prog XK ((laidWorld os).forCall (fun _ _=>0) ⟨#[],args,[]⟩).memory :=
 laidMet_laidAll args bZ bZ
theorem CV {P:Program} {w:World} {n:String} {g:Nat} {cs:Array Value} (hg:P.globalNamed n=some g) (h:w.var? P n=some cs):∃ e fz,w.heap[g]?=some (.cells cs e fz):=by
 unfold World.var? at h;rw [hg] at h;simp only [Option.bind_some] at h;split at h
 ·rename_i c e fz hh;cases h;exact ⟨_,_,hh⟩
 ·cases h
theorem trod_one {P:Program} {w:World} {base:Nat} {sp:Nat→Bool} {held:Bool} {fuel:Nat} {e:TypeId} {c:List Value} {s:List UInt8} {q:List MemPlace} (he:P.underlying e=some .string)
  (h:DataW.trod (fun _=>()) P w base sp held fuel e c=some (.lit (.string s),q)):c=[.string ⟨s.toArray⟩]:=by
 cases fuel with
 | zero=>simp [DataW.trod] at h
 | succ fuel =>
  simp only [DataW.trod,he] at h;split at h<;>simp_all;rename_i x hx;rw [← h.2.1]
theorem P9 {P:Program} {w:World} {base:Nat} {sp:Nat→Bool} {held:Bool} {fuel:Nat} {t e:TypeId} {n:Nat} {cs:List Value} {ss:List (List UInt8)} {p:List MemPlace}
  (ht:P.underlying t=some (.array n e)) (he:P.underlying e=some .string) (hce:P.cellsOf e=1) (hct:P.cellsOf t=n)
  (h:DataW.trod (fun _=>()) P w base sp held fuel t cs=some (.agg (ss.map fun s=>.lit (.string s)),p)):cs=ss.map fun s=>Value.string ⟨s.toArray⟩:=by
 cases fuel with
 | zero=>simp [DataW.trod] at h
 | succ fuel =>
  simp only [DataW.trod,ht,hce,hct,Nat.mul_one] at h;split at h
  ·rename_i hl;obtain ⟨xs,hm,hx⟩:=Option.map_eq_some_iff.1 h;have hxs:xs.map (·.1)=ss.map fun s=>(DataW.lit (.string s):DataW Unit):=by
    have:=congrArg Prod.fst hx;simpa using this
   have hxl:xs.length=n:=by simpa using Lib.mapM_length hm
   have hzl:ss.length=n:=by
    have:=congrArg List.length hxs;simp at this;omega
   apply List.ext_getElem?;intro i;by_cases hi:i<n
   ·obtain ⟨b,hb,hf⟩:=Lib.mapM_at hm i i (by simp [hi]);have h2:(xs.map (·.1))[i]?=some b.1:=by simp [hb]
    rw [hxs] at h2;simp only [List.getElem?_map,Option.map_eq_some_iff] at h2;obtain ⟨s,hs,hsb⟩:=h2;have hc:=trod_one he (show _=some (DataW.lit (.string s),b.2) by rw [hsb];exact hf);have h1:cs[i]?=some (.string ⟨s.toArray⟩):=by
     have:=congrArg (·[0]?) hc;simpa [List.getElem?_take,List.getElem?_drop] using this
    simp [h1,hs]
   ·rw [List.getElem?_eq_none (by omega),List.getElem?_eq_none nC]
  ·cases h
theorem aaf (W:World) (h:laidMet Tryz.prog XK W):TabAt (All W) W:=by
 obtain ⟨ps,⟨g1,t1,c1,f1,p1,q1,hg1,ht1,hv1,hd1,⟨g2,t2,c2,f2,p2,q2,hg2,ht2,hv2,hd2,⟨g3,t3,c3,f3,p3,q3,hg3,ht3,hv3,hd3,⟨g4,t4,c4,f4,p4,q4,hg4,ht4,hv4,hd4,⟨g5,t5,c5,f5,p5,q5,hg5,ht5,hv5,hd5,⟨g6,t6,c6,f6,p6,q6,hg6,ht6,hv6,hd6,hnil,e6⟩,e5⟩,e4⟩,e3⟩,e2⟩,e1⟩,_,_⟩:=h;have k3 : Tryz.prog.globalNamed "internal/strconv.uint64pow10" = some 4 := by kernel_rfl
 have k4 : Tryz.prog.globalNamed "strconv.ErrRange" = some 3 := by kernel_rfl
 have k5 : Tryz.prog.globalNamed "strconv.ErrSyntax" = some 2 := by kernel_rfl
 have k6 : Tryz.prog.globalNamed "consol/lex.signs" = some 0 := by kernel_rfl
 obtain ⟨b3,z3,h3⟩:=CV k3 hv3;obtain ⟨b4,z4,h4⟩:=CV k4 hv4;obtain ⟨b5,z5,h5⟩:=CV k5 hv5;obtain ⟨b6,z6,h6⟩:=CV k6 hv6;obtain rfl:=Option.some.inj (k3.symm.trans hg3);obtain rfl:=Option.some.inj (k4.symm.trans hg4);obtain rfl:=Option.some.inj (k5.symm.trans hg5);obtain rfl:=Option.some.inj (k6.symm.trans hg6);have T3:(Tryz.prog.globals[4]?).map (·.type)=some t3:=ht3;have T4:(Tryz.prog.globals[3]?).map (·.type)=some t4:=ht4;have T5:(Tryz.prog.globals[2]?).map (·.type)=some t5:=ht5;have T6:(Tryz.prog.globals[0]?).map (·.type)=some t6:=ht6;have err:∀ {t:Nat} {cs:Array Value} {fuel:Nat} {nm:String} {d:DataW Unit} {p:List MemPlace} {g:Nat},(Tryz.prog.globals[g]?).map (·.type)=some t→(g=2∨g=3)→DataW.trod (fun _=>()) Tryz.prog W 0 (fun _=>true) false fuel t cs.toList=some (.iface nm d,p)→isErr cs:=by
  intro t cs fuel nm d p g hT hg hd;have hu:∃ ms,Tryz.prog.underlying t=some (.interface ms):=by
   rcases hg with rfl | rfl
   ·obtain rfl:=Option.some.inj ((show (Tryz.prog.globals[2]?).map (·.type)=some 175 by kernel_rfl).symm.trans hT);exact ⟨#[("Error", 77)], by kernel_rfl⟩
   ·obtain rfl:=Option.some.inj ((show (Tryz.prog.globals[3]?).map (·.type)=some 175 by kernel_rfl).symm.trans hT);exact ⟨#[("Error", 77)], by kernel_rfl⟩
  obtain ⟨ms,hu⟩:=hu;obtain ⟨_,u,v,hcs,_⟩:=iface_of_trod hu hd;refine ⟨u,v,?_⟩;rw [← Array.getElem?_toList,hcs];rfl
 have i4:=err T4 (.inr rfl) hd4;have i5:=err T5 (.inl rfl) hd5;have lt:∀ {g:Nat} {o:Obj},W.heap[g]?=some o→g<W.heap.size:=fun h=>(Array.getElem?_eq_some_iff.1 h).1
 intro g Q hQ;match g,hQ with
 | 0,hQ =>
  cases hQ;refine ⟨lt h6,c6,b6,z6,h6,?_⟩;obtain rfl:=Option.some.inj ((show (Tryz.prog.globals[0]?).map (·.type)=some 241 by kernel_rfl).symm.trans T6);have:=P9 (ss:=signs) (n:=11) (e:=9) bZ bZ bZ bZ (show _=some (DataW.agg (signs.map fun s=>DataW.lit (.string s)),p6) from hd6);show c6=_;rw [← this]
 | 2,hQ =>
  cases hQ;exact ⟨lt h5,c5,b5,z5,h5,i5⟩
 | 3,hQ =>
  cases hQ;exact ⟨lt h4,c4,b4,z4,h4,i4⟩
 | 4,hQ =>
  cases hQ;refine ⟨lt h3,c3,b3,z3,h3,?_⟩;obtain rfl:=Option.some.inj ((show (Tryz.prog.globals[4]?).map (·.type)=some 273 by kernel_rfl).symm.trans T3);have:=Lib.cells_of_tab (k:=.u64) (zs:=Lib.pow10Tab) (n:=20) (e:=259) bZ bZ bZ bZ (show _=some (Lib.tabData .u64 Lib.pow10Tab,p3) from hd3);show c3=_;rw [← this]
set_option maxHeartbeats 2000000
theorem O7 (u:Nat):u≤9223372036854775808→ak Tryz.prog 155 [.int .i64 (-(u:Int))] (.str (Lib.decDigits u)):=by
 induction u using Nat.strongRecOn with
 | _ u ih =>
  intro hu;have hm:(-(u:Int)).tmod 10=-((u % 10:Nat):Int):=by
   rw [Int.neg_tmod,Int.tmod_eq_emod_of_nonneg (by omega)];omega
  have hq:(-(u:Int)).tdiv 10=-((u / 10:Nat):Int):=by
   rw [Int.neg_tdiv,Int.tdiv_eq_ediv_of_nonneg (by omega)];omega
  have hlt:u % 10<10:=Nat.mod_lt _ (by decide);have hrec:=rH u;have hlen:(Lib.decDigits (u / 10)).length≤20:=by
   rw [Lib.decDigits_length];have:=AL 19 (u / 10) (by omega) (by omega);omega
  refine aO (au 18 [0,2,3,11]) Tryz.func155 ?_;conv=>whnf
  refine And.intro bT (cW ?_);rw [hm];refine iO (cW ?_);refine And.intro rfl (cW ?_);refine ⟨[UInt8.ofNat (48+u % 10)],?_,?_⟩
  ·show [AV.int .u8 (IntKind.u8.wrap (48 - -((u % 10:Nat):Int)))]=[AV.int .u8 ((UInt8.ofNat (48+u % 10)).toNat:Int)];rw [xI _ hlt,IntWalk.u8_in _ (by omega)];congr 2
   omega
  conv=>whnf
  refine ⟨fun hc=>?_,fun hc=>?_⟩
  ·have hc:=of_decide_eq_true hc;rw [if_pos (by omega)] at hrec;conv=>whnf
   rw [hrec,show u % 10=u by omega];rfl
  ·have hc:=of_decide_eq_false hc;rw [if_neg (by omega)] at hrec;have h1:=ih (u / 10) (by omega) (by omega);rw [← hq] at h1;conv=>whnf
   refine And.intro bT (cW ?_);refine iO (cW ?_);refine cO (fun _=>h1) (cW ?_);refine And.intro (show (((Lib.decDigits (u / 10)).length+1:Nat):Int)≤9223372036854775807 by omega) (cW ?_);rw [hrec];rfl
theorem E5 (u:Nat) (h:u≤9223372036854775808):ak Tryz.prog 155 [.int .i64 (0-(u:Int))] (.str (Lib.decDigits u)):=by
 have:=O7 u h;rw [show -(u:Int)=0-u by omega] at this;exact this
theorem rC (n:Int) (hn:dG n):ak Tryz.prog 95 [.int .i64 n] (.str (b_ n)):=by
 have hl:=pI n hn;obtain ⟨h0,h1⟩:=hn;unfold b_;by_cases hneg:n<0
 ·obtain ⟨u,rfl⟩:∃ u:Nat,n=-(u:Int):=⟨n.natAbs,by omega⟩;rw [Lib.itoa_neg u (by omega)] at hl ⊢;rw [List.length_cons] at hl;have hd:=O7 u (by omega);refine aO (au 13 [0,2,4]) Tryz.func95 ?_;conv=>whnf
  refine ⟨fun hc=>?_,fun hc=>?_⟩
  ·conv=>whnf
   refine cO (fun _=>hd) (cW ?_);refine And.intro (show ((1+(Lib.decDigits u).length:Nat):Int)≤9223372036854775807 by omega) (cW ?_);refine And.intro (show ((((45::Lib.decDigits u).length+1:Nat)):Int)≤9223372036854775807 by rw [List.length_cons];omega) (cW ?_);rfl
  ·have:=of_decide_eq_false hc;omega
 ·obtain ⟨u,rfl⟩:∃ u:Nat,n=u:=⟨n.toNat,by omega⟩;rw [Lib.itoa_nonneg] at hl ⊢;have hd:=E5 u (by omega);refine aO (au 13 [0,2,4]) Tryz.func95 ?_;conv=>whnf
  refine ⟨fun hc=>?_,fun hc=>?_⟩
  ·have:=of_decide_eq_true hc;omega
  ·conv=>whnf
   refine iO (cW ?_);refine cO (fun _=>hd) (cW ?_);refine And.intro (show (((Lib.decDigits u).length+1:Nat):Int)≤9223372036854775807 by omega) (cW ?_);rfl
theorem JW (n:Int) (hn:dG n):ak Tryz.prog 154 [.int .i64 n] (.str (dK n)):=by
 have hi:=rC n hn;refine aO (au 7 [0,2,4]) Tryz.func154 ?_;exact aek
theorem Gv (s:List UInt8) (hs:s.length≤9223372036854775000):ak Tryz.prog 96 [.str s] (.str (textS s)):=by
 have hl:=pI s.length ⟨by omega,by omega⟩;rw [Lib.itoa_nonneg] at hl;have hd:=E5 s.length (by omega);unfold textS;rw [Lib.itoa_nonneg];refine aO (au 11 [0,2]) Tryz.func96 ?_;conv=>whnf
 refine iO (cW ?_);refine cO (fun _=>hd) (cW ?_);refine And.intro (show (((Lib.decDigits s.length).length+1:Nat):Int)≤9223372036854775807 by omega) (cW ?_);have e1:(Lib.decDigits s.length++[58]).length=(Lib.decDigits s.length).length+1:=by rw [List.length_append];rfl
 refine And.intro (show (((Lib.decDigits s.length++[58]).length+s.length:Nat):Int)≤9223372036854775807 by omega) (cW ?_);have e2:((Lib.decDigits s.length++[58])++s).length=(Lib.decDigits s.length).length+1+s.length:=by rw [List.length_append,e1]
 refine And.intro nC (cW ?_);rfl
theorem GQ (l:List Int) (hl:∀ n∈l,dG n) (hn:l.length≤9223372036854775807) (hT:(iG b_ l).length≤9223372036854775807):ak Tryz.prog 97 [.sl 1 encI 0 l] (.str (iG b_ l)):=by
 have hil:=pI l.length ⟨by omega,by omega⟩;have hd:=E5 l.length (by omega);have hh:xE l.length=Lib.decDigits l.length++[91]:=by unfold xE;rw [Lib.itoa_nonneg]
 rw [Lib.itoa_nonneg] at hil;refine aO (au 25 [0,2,3,4,13]) Tryz.func97 ?_;conv=>whnf
 refine iO (cW ?_);refine cO (fun _=>hd) (cW ?_);refine And.intro (show (((Lib.decDigits l.length).length+1:Nat):Int)≤9223372036854775807 by omega) (cW ?_);have hp0:Lib.decDigits l.length++[91]=jL b_ l 0:=by unfold jL;rw [hh];simp
 refine aX (au _ _) l.length (fun _=>True) (fun k=>⟨[(0,.sl 1 encI 0 l),(3,.str (jL b_ l k)),(4,.int .i64 (k:Nat))],[],0⟩) trivial ((aj [] rfl ⟨ah,.base (.tree _ _ (show AV.str _=AV.str _ by rw [← hp0]) rfl),ah,trivial⟩ trivial)) ?_;intro k hk _;have hps:=fun h:k<l.length=>MJ (f:=b_) (d:=0) h
 have hpl:=CZ (f:=b_) (l:=l) k;have hpl1:=CZ (f:=b_) (l:=l) (k+1);conv=>whnf
 refine ⟨fun hd2=>?_,fun hd2=>?_⟩
 ·have hkl:k<l.length:=by
   have:=of_decide_eq_true hd2;omega
  have hps:=hps hkl;have hek:(k:Int).toNat=k:=Int.toNat_natCast k;have hx:=rC (l.getD k 0) (hl _ ah_);conv=>whnf
  refine iO (cW ?_);refine And.intro rfl (cW ?_);rw [hek];refine cO (fun _=>hx) (cW ?_);rw [hps,List.length_append] at hpl1;refine And.intro (show (((jL b_ l k).length+(b_ (l.getD k 0)).length:Nat):Int)≤9223372036854775807 by omega) (cW ?_);refine iO (cW ?_);refine up hkl trivial ((aj [] rfl ⟨ah,.base (.tree _ _ (show AV.str _=AV.str _ by rw [hps]) rfl),ah,trivial⟩ trivial))
 ·have hke:k=l.length:=by
   have:=of_decide_eq_false hd2;omega
  have hfe:jL b_ l k++[93]=iG b_ l:=by
   unfold jL iG;rw [hke,List.take_length]
  have hfl:(jL b_ l k).length+1=(iG b_ l).length:=by rw [← hfe,List.length_append];rfl
  conv=>whnf
  refine And.intro (show (((jL b_ l k).length+1:Nat):Int)≤9223372036854775807 by omega) (cW ?_);rw [← hfe];rfl
set_option maxHeartbeats 1000000
def oL (s:List UInt8):Nat:=if (decide (0<(s.length:Int))&&decide (((s.getD 0 0).toNat:Int)=45))=true then 1 else 0
def u_ (s:List UInt8):List UInt8:=s.drop (oL s)
def FU (l:List UInt8):Int:=l.foldl (fun n c=>IntKind.i64.wrap (10*n-((c.toNat:Int)-48))) 0
def JA (l:List UInt8):Int:=l.foldl (fun n c=>10*n-((c.toNat:Int)-48)) 0
def vP (s:List UInt8):Int:=if oL s=0 then IntKind.i64.wrap (0-FU (u_ s)) else FU (u_ s)
def WW (s:List UInt8) (v:Int) (b:Bool):Prop:=(b=true→s=Lib.itoa v∧dG v)∧(b=false→∀ m,dG m→s≠Lib.itoa m)
theorem wrap_in (x:Int):dG (IntKind.i64.wrap x):=by
 rw [IntKind.wrap_i64];unfold dG;omega
theorem NT {x:Int} (h:dG x):IntKind.i64.wrap x=x:=by
 rw [IntKind.wrap_i64];unfold dG at h;omega
theorem YQ (x y d:Int) (h:IntKind.i64.wrap x=IntKind.i64.wrap y):IntKind.i64.wrap (10*x-d)=IntKind.i64.wrap (10*y-d):=by
 simp only [IntKind.wrap_i64] at *;omega
theorem wrap_wrap (x d:Int):IntKind.i64.wrap (IntKind.i64.wrap x-d)=IntKind.i64.wrap (x-d):=by
 simp only [IntKind.wrap_i64];omega
theorem YC (x:Int):IntKind.i64.wrap (IntKind.i64.wrap x)=IntKind.i64.wrap x:=by
 simp only [IntKind.wrap_i64];omega
theorem Jz (l:List UInt8) (c:UInt8):FU (l++[c])=IntKind.i64.wrap (10*FU l-((c.toNat:Int)-48)):=by
 unfold FU;rw [List.foldl_append];rfl
theorem Pm (l:List UInt8) (c:UInt8):JA (l++[c])=10*JA l-((c.toNat:Int)-48):=by
 unfold JA;rw [List.foldl_append];rfl
theorem Sm (l:List UInt8):dG (FU l):=by
 rcases List.eq_nil_or_concat l with h | ⟨a,c,h⟩
 ·subst h;unfold dG FU;simp
 ·subst h;rw [List.concat_eq_append,Jz];exact wrap_in _
theorem Vd (l:List UInt8):FU l=IntKind.i64.wrap (JA l):=by
 have h:∀ n:Nat,∀ l:List UInt8,l.length=n→IntKind.i64.wrap (FU l)=IntKind.i64.wrap (JA l):=by
  intro n;induction n with
  | zero=>intro l hl;rw [List.length_eq_zero_iff.1 hl];rfl
  | succ n ih =>
   intro l hl;rcases List.eq_nil_or_concat l with h | ⟨a,c,h⟩
   ·subst h;simp at hl
   ·subst h;rw [List.concat_eq_append] at hl ⊢;rw [Jz,Pm,YC];exact YQ _ _ _ (ih a (by simp at hl;omega))
 rw [← NT (Sm l)];exact h _ l rfl
theorem Sz (u:Nat):JA (Lib.decDigits u)=-(u:Int):=by
 induction u using Nat.strongRecOn with
 | _ u ih =>
  rw [rH];split
  ·rename_i h;unfold JA;rw [List.foldl_cons,List.foldl_nil,xI u h];omega
  ·rename_i h;rw [Pm,ih (u / 10) (by omega),xI _ (Nat.mod_lt _ (by decide))];omega
theorem LM (n:Int):(n<0∧oL (Lib.itoa n)=1∧u_ (Lib.itoa n)=Lib.decDigits n.natAbs)∨(0≤n∧oL (Lib.itoa n)=0∧u_ (Lib.itoa n)=Lib.decDigits n.natAbs):=by
 by_cases hneg:n<0
 ·obtain ⟨u,rfl⟩:∃ u:Nat,n=-(u:Int):=⟨n.natAbs,by omega⟩;have e:oL (Lib.itoa (-(u:Int)))=1:=by
   rw [Lib.itoa_neg u (by omega)];unfold oL;rw [if_pos (by simp)]
  refine .inl ⟨hneg,e,?_⟩;unfold u_;rw [e,Lib.itoa_neg u (by omega),show (-(u:Int)).natAbs=u by omega];rfl
 ·obtain ⟨u,rfl⟩:∃ u:Nat,n=u:=⟨n.toNat,by omega⟩;have e:oL (Lib.itoa (u:Int))=0:=by
   rw [Lib.itoa_nonneg];have hm:=rJ u;unfold oL;cases hd:Lib.decDigits u with
   | nil=>exact absurd hd (Bv u)
   | cons c r =>
    rw [hd] at hm;have hc:=hm c (List.mem_cons_self ..);rw [if_neg];simp;omega
  refine .inr ⟨by omega,e,?_⟩;unfold u_;rw [e,Lib.itoa_nonneg,show ((u:Int)).natAbs=u by omega];rfl
theorem WO (n:Int) (hn:dG n):vP (Lib.itoa n)=n:=by
 unfold vP;rcases LM n with ⟨h,e,hd⟩ | ⟨h,e,hd⟩
 ·rw [e,if_neg (by decide),hd,Vd,Sz,NT]<;>(try unfold dG at *)<;>omega
 ·rw [e,if_pos rfl,hd,Vd,Sz];unfold dG at hn;simp only [IntKind.wrap_i64];omega
theorem abC (n:Int) (hn:dG n) {s:List UInt8} (h:s=Lib.itoa n):s.length≤20∧∀ i,i<(u_ s).length→48≤((u_ s).getD i 0).toNat∧((u_ s).getD i 0).toNat≤57:=by
 subst h;refine ⟨pI n hn,fun i hi=>?_⟩;have hd:u_ (Lib.itoa n)=Lib.decDigits n.natAbs:=by
  rcases LM n with ⟨_,_,hd⟩ | ⟨_,_,hd⟩<;>exact hd
 rw [hd] at hi ⊢;apply rJ n.natAbs;rw [List.getD_eq_getElem?_getD,List.getElem?_eq_getElem hi];exact List.getElem_mem hi
theorem ahX (s:List UInt8):oL s≤s.length:=by
 unfold oL;split
 ·rename_i h;rw [Bool.and_eq_true,decide_eq_true_eq] at h;omega
 ·omega
theorem Vp (s:List UInt8):(u_ s).length=s.length-oL s:=by
 unfold u_;rw [List.length_drop]
theorem VY (s:List UInt8) (k:Nat):(u_ s).getD k 0=s.getD (oL s+k) 0:=by
 unfold u_;rw [List.getD_eq_getElem?_getD,List.getD_eq_getElem?_getD,List.getElem?_drop]
theorem Ro {s:List UInt8} {v:Int} (hv:v=vP s):WW s v (decide (b_ v=s++[59])):=by
 subst hv;have h:(b_ (vP s)=s++[59])↔s=Lib.itoa (vP s):=by
  unfold b_;constructor
  ·intro h;exact (List.append_inj_left' h rfl).symm
  ·intro h;rw [← h]
 refine ⟨fun hb=>?_,fun hb m hm he=>?_⟩
 ·refine ⟨h.1 (of_decide_eq_true hb),?_⟩;unfold vP;split
  ·exact wrap_in _
  ·exact Sm _
 ·apply of_decide_eq_false hb;apply h.2;rw [he,WO m hm]
theorem aa9 {s:List UInt8} {k:Nat} (hk:oL s+k<s.length) (h:¬(48≤(s.getD (oL s+k) 0).toNat∧(s.getD (oL s+k) 0).toNat≤57)∨20<oL s+k):WW s 0 false:=by
 refine ⟨fun hb=>(by cases hb),fun _ m hm he=>?_⟩;obtain ⟨h1,h2⟩:=abC m hm he;have:=h2 k (by rw [Vp];omega);rw [VY] at this;rcases h with h | h
 ·exact h this
 ·omega
theorem zt5 {p:Prop}(h:p:=by
 conv=>whnf
 refine aX (adP _ _) (s.length-oL s) (fun _=>True) (fun k=>⟨[(0,.str s),(4,.int .i64 ((oL s:Nat):Int)),(5,.int .i64 (FU ((u_ s).take k))),(6,.int .i64 ((oL s+k:Nat):Int))],[],0⟩) trivial ((aj [] rfl ⟨ah,.base (.tree _ _ (show AV.int .i64 _=AV.int .i64 _ by rw [e];rfl) rfl),ah,.base (.tree _ _ (show AV.int .i64 _=AV.int .i64 _ by rw [e];rfl) rfl),trivial⟩ trivial)) ?_;intro k hk _;conv=>whnf
 refine ⟨fun hd=>?_,fun hd=>?_⟩
 ·have hkl:oL s+k<s.length:=by
   exact Az
  have hek:((oL s+k:Nat):Int).toNat=oL s+k:=Int.toNat_natCast _;have htk:(u_ s).take (k+1)=(u_ s).take k++[s.getD (oL s+k) 0]:=by
   rw [wM (d:=0) (by omega),VY]
  conv=>whnf
  refine iO (cW ?_);refine And.intro (fun _=>⟨by omega,by omega⟩) (cW ?_);rw [hek];refine ⟨fun hb=>?_,fun hb=>?_⟩
  ·conv=>whnf
   refine ⟨0,false,rfl,aa9 hkl ?_⟩;simp only [Bool.or_eq_true,decide_eq_true_eq] at hb;omega
  ·simp only [Bool.or_eq_false_iff,decide_eq_false_iff_not] at hb;have hu8:IntKind.u8.wrap (((s.getD (oL s+k) 0).toNat:Int)-48)=((s.getD (oL s+k) 0).toNat:Int)-48:=IntWalk.u8_in _ (by omega);conv=>whnf
   refine iO (cW ?_);rw [hek,hu8];refine iO (cW ?_);refine up (by omega) trivial ((aj [] rfl ⟨ah,ah,.base (.tree _ _ (show AV.int .i64 _=AV.int .i64 _ by rw [htk,Jz,wrap_wrap]) rfl),.base (.tree _ _ (show AV.int .i64 _=AV.int .i64 _ by rw [NT zT];congr 1) rfl),trivial⟩ trivial))
 ·have hkl:oL s+k=s.length:=by
   exact Am
  have htk:(u_ s).take k=u_ s:=List.take_of_length_le (by omega);rw [htk];conv=>whnf
  refine ⟨fun h0=>?_,fun h0=>?_⟩
  ·have h0:=of_decide_eq_true h0;rw [if_pos (by omega)] at hbv;have hbi:dG (vP s):=by rw [hbv];exact wrap_in _
   have hi:=rC (vP s) hbi;have hil:=pI (vP s) hbi;conv=>whnf
   rw [← hbv];refine cO (fun _=>hi) (cW ?_);refine And.intro (show ((s.length+1:Nat):Int)≤9223372036854775807 by omega) (cW ?_);exact ⟨_,_,rfl,Ro rfl⟩
  ·have h0:=of_decide_eq_false h0;rw [if_neg (by omega)] at hbv;have hbi:dG (vP s):=by rw [hbv];exact Sm _
   have hi:=rC (vP s) hbi;conv=>whnf
   rw [← hbv];refine cO (fun _=>hi) (cW ?_);refine And.intro (show ((s.length+1:Nat):Int)≤9223372036854775807 by omega) (cW ?_);exact ⟨_,_,rfl,Ro rfl⟩):p:=h
theorem afm (s:List UInt8) (hs:s.length≤9223372036854775000):bM Tryz.prog 178 [.str s] (fun rs=>∃ v b,rs=[.val (.int .i64 v),.val (.bool b)]∧WW s v b):=by
 have hf:=ahX s;have hdl:=Vp s;have hbv:vP s=if oL s=0 then IntKind.i64.wrap (0-FU (u_ s)) else FU (u_ s):=rfl
 have hfd:oL s=if (decide (0<(s.length:Int))&&decide (((s.getD 0 0).toNat:Int)=45))=true then 1 else 0:=rfl
 refine aO (adP 54 [0,2,3,4,5,6,14,19,35,45]) Tryz.func178 ?_;conv=>whnf
 refine And.intro (fun h=>⟨by omega,of_decide_eq_true h⟩) (cW ?_);refine ⟨fun hc=>?_,fun hc=>?_⟩
 ·have e:oL s=1:=by rw [hfd];exact if_pos hc
  exact zt5
 ·have e:oL s=0:=by rw [hfd];exact if_neg (fun h=>(by have:=hc.symm.trans h;cases this))
  exact zt5
abbrev mn:Int:=-9223372036854775808
theorem at_end {n:Int} {c:UInt8} {s r:List UInt8} (h:s=Lib.itoa n++c::r):(Lib.itoa n).length<s.length∧s.getD (Lib.itoa n).length 0=c∧s.take (Lib.itoa n).length=Lib.itoa n:=by
 subst h;refine ⟨by simp,by simp,by simp⟩
theorem at_in {n:Int} {c:UInt8} {s r:List UInt8} (h:s=Lib.itoa n++c::r) {k:Nat} (hk:k<(Lib.itoa n).length):(s.getD k 0).toNat≤57:=by
 subst h;apply RZ n;rw [List.getD_eq_getElem?_getD,List.getElem?_append_left hk,List.getElem?_eq_getElem hk];exact List.getElem_mem hk
theorem Ug {c:Int} {s:List UInt8} (h:∀ i,i<s.length→i<21→s.getD i 0≠cb c):fD c mn s=none:=by
 cases hn:fD c mn s with
 | none=>rfl
 | some x =>
  obtain ⟨h1,h2,_⟩:=Bj (n:=x.1) (r:=x.2) hn;obtain ⟨h3,h4,_⟩:=at_end h1;have:=pI x.1 h2;exact absurd h4 (h _ h3 aI)
theorem Zu {c:Int} {s:List UInt8} {k:Nat} (hc:BM c) (h:∀ i,i<k→s.getD i 0≠cb c) (he:s.getD k 0=cb c) (hb:∀ m,dG m→s.take k≠Lib.itoa m):fD c mn s=none:=by
 cases hn:fD c mn s with
 | none=>rfl
 | some x =>
  obtain ⟨h1,h2,_⟩:=Bj (n:=x.1) (r:=x.2) hn;obtain ⟨h3,h4,h5⟩:=at_end h1;by_cases hlt:k<(Lib.itoa x.1).length
  ·have:=at_in h1 hlt;rw [he] at this;unfold BM at hc;unfold cb at this;omega
  ·by_cases hgt:(Lib.itoa x.1).length<k
   ·exact absurd h4 (h _ hgt)
   ·have:k=(Lib.itoa x.1).length:=by omega
    subst this;exact absurd h5 (hb _ h2)
theorem WE {c:Int} {s:List UInt8} {k:Nat} {v:Int} (hc:BM c) (hk:k<s.length) (he:s.getD k 0=cb c) (hv:s.take k=Lib.itoa v) (hi:dG v):fD c mn s=some (v,s.drop (k+1)):=by
 have e:s=Lib.itoa v++cb c::s.drop (k+1):=by
  rw [← hv];have e2:s.drop k=cb c::s.drop (k+1):=by
   rw [List.drop_eq_getElem_cons hk,← he,List.getD_eq_getElem?_getD,List.getElem?_eq_getElem hk];rfl
  rw [← e2,List.take_append_drop]
 have:=C_ c mn v (s.drop (k+1)) hi hi.1 hc;rw [← e] at this;exact this
theorem aar {c:Int} (s:List UInt8) (hc:BM c):fD c 0 s=(fD c mn s).bind (fun x=>if x.1<0 then none else some x):=by
 have h0:∀ x:Int×List UInt8,fD c 0 s=some x→fD c mn s=some x∧0≤x.1:=fun x hx=>by
  obtain ⟨h1,h2,h3⟩:=Bj (n:=x.1) (r:=x.2) hx;have:=C_ c mn x.1 x.2 h2 h2.1 hc;rw [← h1] at this;exact ⟨this,h3⟩
 cases hn:fD c mn s with
 | none =>
  cases h:fD c 0 s with
  | none=>rfl
  | some x=>rw [(h0 x h).1] at hn;cases hn
 | some y =>
  show _=if y.1<0 then none else some y
  by_cases hy:y.1<0
  ·rw [if_pos hy];cases h:fD c 0 s with
   | none=>rfl
   | some x =>
    obtain ⟨h1,h2⟩:=h0 x h;rw [h1] at hn;cases hn;omega
  ·rw [if_neg hy];obtain ⟨h1,h2,h3⟩:=Bj (n:=y.1) (r:=y.2) hn;have:=C_ c 0 y.1 y.2 h2 (by omega) hc;rw [← h1] at this;exact this
theorem Zf {c:Int} (q:RS) (hc:BM c):bW c 0 q=if (bW c mn q).1<0 then (0,⟨[],true⟩) else bW c mn q:=by
 unfold bW;rw [aar q.rest hc];cases hn:fD c mn q.rest with
 | none=>rfl
 | some x =>
  show (match (if x.1<0 then none else some x) with | some (n,r)=>(n,RS.mk r q.bad) | none=>(0,⟨[],true⟩))=if x.1<0 then (0,⟨[],true⟩) else (x.1,⟨x.2,q.bad⟩)
  split
  ·rename_i h;split at h
   ·cases h
   ·cases h;rw [if_neg (by assumption)]
  ·rename_i h;split at h
   ·rw [if_pos (by assumption)]
   ·cases h
theorem F7 (e:UInt8) (s:List UInt8):fC [e] s=if s.getD 0 0=e∧0<s.length then some (s.drop 1) else none:=by
 cases s with
 | nil =>
  cases h:fC [e] [] with
  | none=>simp
  | some r=>exact absurd (uI h) (by simp)
 | cons a r =>
  by_cases ha:a=e
  ·subst ha;rw [DF];simp
  ·cases h:fC [e] (a::r) with
   | none=>simp [ha]
   | some r' =>
    have:=uI h;simp only [List.cons.injEq] at this;exact absurd this.1 ha
abbrev qo (q:RS):AB:=.cells 164 [.str q.rest,.bool q.bad]
theorem Y5 {c least:Int} {s:List UInt8} (b:Bool) (h:fD c least s=none):bW c least ⟨s,b⟩=(0,⟨[],true⟩):=by
 unfold bW;rw [h]
theorem Zh {c least n:Int} {s r:List UInt8} (b:Bool) (h:fD c least s=some (n,r)):bW c least ⟨s,b⟩=(n,⟨r,b⟩):=by
 unfold bW;rw [h]
theorem acW (s:List UInt8):bM Tryz.prog 42 [.str s] (fun rs=>rs=[.new (.cells 164 [.str s,.bool false])]):=by
 refine aO (au 6 [0,2]) Tryz.func42 ?_;conv=>whnf
 rfl
theorem EN (s:List UInt8) (b:Bool):jR Tryz.prog 133 [.ptr 0 0] [.cells 164 [.str s,.bool b]] (fun bs rs=>bs=[.cells 164 [.str [],.bool true]]∧rs=[.val (.int .i64 0)]):=by
 refine kP (C:=cxP 1 9 [0,2]) (aJ _ _ _) Tryz.func133 rfl bT rfl nZ bT rfl rfl ?_;exact xK
theorem abk (s:List UInt8) (b:Bool):ak Tryz.prog 131 [.rop [.str s,.bool b]] (.int .i64 s.length):=by
 refine aO (au 8 [0,2]) Tryz.func131 ?_;conv=>whnf
 rfl
theorem acY (s:List UInt8) (b:Bool):ak Tryz.prog 50 [.rop [.str s,.bool b]] (.bool (!b&&decide (s=[]))):=by
 refine aO (au 15 [0,2]) Tryz.func50 ?_;conv=>whnf
 rfl
theorem zt9 {p:Prop}(h:p:=by
 conv=>whnf
 refine .raw _ _ rfl (fun h=>by cases h) (dJ (EN s b) [0] _ rfl rfl ⟨rfl,trivial⟩ qg rfl qh) ?_;rintro w ⟨b',rs,⟨rfl,rfl⟩,rfl⟩;refine ⟨aS _ _,(cW ?_)⟩;rw [Y5 b hn];exact ⟨rfl,rfl⟩):p:=h
theorem SV (c:Int) (hc:0≤c∧c≤255) (he:BM c) (q:RS) (hs:q.rest.length≤9223372036854775000):jR Tryz.prog 130 [.ptr 0 0,.int .u8 c] [qo q] (fun bs rs=>bs=[qo (bW c mn q).2]∧rs=[.val (.int .i64 (bW c mn q).1)]):=by
 obtain ⟨s,b⟩:=q
 replace hs:s.length≤9223372036854775000:=hs
 have hcb:((cb c).toNat:Int)=c:=by
  unfold cb;rw [Nat.toUInt8_eq,UInt8.toNat_ofNat'];omega
 have hce:∀ x:UInt8,(x.toNat:Int)=c↔x=cb c:=fun x=>by
  constructor
  ·intro h;exact UInt8.toNat_inj.1 aI
  ·intro h;rw [h,hcb]
 refine kP (C:=cxP 1 75 [0,1,4,5,6,7,28,37,47,61]) (aJ _ _ _) Tryz.func130 rfl bT rfl nZ bT rfl rfl (cW ?_);refine aX (aJ _ _ _) 21 (fun k=>k≤s.length∧∀ i,i<k→s.getD i 0≠cb c) (fun k=>⟨[(0,.ptr 0 0),(1,.int .u8 c),(5,.int .i64 (k:Nat))],[(0,.cells 164 [.str s,.bool b])],1⟩) ⟨Nat.zero_le _,fun i hi=>absurd hi (Nat.not_lt_zero _)⟩ ((aj [(0,.id 0)] rfl ⟨aQ,ah,ah,trivial⟩ ⟨aB,trivial⟩)) ?_;intro k hk hP;obtain ⟨hk1,hP⟩:=hP;have hek:(k:Int).toNat=k:=Int.toNat_natCast k;conv=>whnf
 refine And.intro (fun h=>⟨by omega,?_⟩) ?_
 ·have h':(decide ((k:Int)<(s.length:Int))&&decide ((k:Int)<21))=true:=h;rw [Bool.and_eq_true,decide_eq_true_eq] at h';exact h'.1
 conv=>whnf
 rw [hek];refine ⟨fun hd=>?_,fun hd=>?_⟩
 ·simp only [Bool.and_eq_true,decide_eq_true_eq,Bool.not_eq_true',decide_eq_false_iff_not,hce] at hd;conv=>whnf
  refine iO (cW ?_);refine up aI ⟨by omega,fun i hi=>?_⟩ ((aj [(0,.id 0)] rfl ⟨aQ,ah,ah,trivial⟩ ⟨aB,trivial⟩));by_cases h:i=k
  ·rw [h];exact hd.2
  ·exact hP i aI
 ·conv=>whnf
  refine ⟨fun h1=>?_,fun h1=>?_⟩
  ·have h1:=of_decide_eq_true h1;have hn:fD c mn s=none:=Ug (fun i h2 h3=>hP i (by omega));exact zt9
  ·have h1:=of_decide_eq_false h1;conv=>whnf
   refine iO (cW ?_);rw [hek];refine ⟨fun h2=>?_,fun h2=>?_⟩
   ·simp only [Bool.not_eq_true',decide_eq_false_iff_not] at h2;simp only [Bool.and_eq_false_iff,Bool.not_eq_false',decide_eq_true_eq,decide_eq_false_iff_not] at hd;have hn:fD c mn s=none:=Ug (fun i h3 h4=>hP i (by omega));exact zt9
   ·have h2:s.getD k 0=cb c:=by
     simp only [Bool.not_eq_false',decide_eq_true_eq] at h2;exact (hce _).1 h2
    have hb:=afm (s.take k) XR;conv=>whnf
    refine iO (cW ?_);simp only [Option.map_none,Option.map_some,cut];rw [hek];refine .any _ _ _ ⟨rfl,rfl⟩ (hb) vN uU ?_;rintro rs ⟨v,b',rfl,hB⟩;conv=>whnf
    refine ⟨fun h3=>?_,fun h3=>?_⟩
    ·have hn:fD c mn s=none:=Zu he hP h2 (hB.2 (by simpa using h3));exact zt9
    ·obtain ⟨hv,hi⟩:=hB.1 (by simpa using h3);have hn:=WE he (by omega) h2 hv hi;conv=>whnf
     refine iO (cW ?_);refine iO (cW ?_);rw [Zh b hn];have he1:((k:Int)+1).toNat=k+1:=by omega
     refine ⟨?_,rfl⟩;show [AB.cells 164 [.str (s.drop ((k:Int)+1).toNat),.bool b]]=_;rw [he1]
theorem Fj (c:Int) (hc:0≤c∧c≤255) (he:BM c) (q:RS) (hs:q.rest.length≤9223372036854775000):jR Tryz.prog 129 [.ptr 0 0,.int .u8 c] [qo q] (fun bs rs=>bs=[qo (bW c 0 q).2]∧rs=[.val (.int .i64 (bW c 0 q).1)]):=by
 have ha:=SV c hc he q hs;have hz:=Zf q he;generalize bW c mn q=x at *;obtain ⟨n,r,b⟩:=x;refine kP (C:=cxP 1 14 [0,1,4,5,10]) (aJ _ _ _) Tryz.func129 rfl bT rfl nZ bT rfl rfl (cW ?_);refine .raw _ _ rfl (fun h=>by cases h) (dJ (ha) [0] _ rfl rfl ⟨rfl,trivial⟩ qg rfl qh) ?_;rintro w ⟨b',rs,⟨rfl,rfl⟩,rfl⟩;refine ⟨aS _ _,(cW ?_)⟩;refine ⟨fun hn=>?_,fun hn=>?_⟩
 ·have hn:n<0:=of_decide_eq_true hn;conv=>whnf
  refine .raw _ _ rfl (fun h=>by cases h) (dJ (EN r b) [0] _ rfl rfl ⟨rfl,trivial⟩ qg rfl qh) ?_;rintro w ⟨b',rs,⟨rfl,rfl⟩,rfl⟩;refine ⟨aS _ _,(cW ?_)⟩;rw [hz,if_pos hn];exact ⟨rfl,rfl⟩
 ·have hn:¬ n<0:=of_decide_eq_false hn;conv=>whnf
  rw [hz,if_neg hn];exact ⟨rfl,rfl⟩
theorem aip {p:Prop}(h:p:=by
 conv=>whnf
 refine .raw _ _ rfl (fun h=>by cases h) (dJ (ha) [0] _ rfl rfl ⟨rfl,trivial⟩ qg rfl qh) ?_;rintro w ⟨b',rs,⟨rfl,rfl⟩,rfl⟩;refine ⟨aS _ _,(cW ?_)⟩;exact ⟨rfl,rfl⟩):p:=h
theorem aft (q:RS) (hs:q.rest.length≤9223372036854775000):jR Tryz.prog 43 [.ptr 0 0] [qo q] (fun bs rs=>bs=[qo (bW 59 0 q).2]∧rs=[.val (.int .i64 (bW 59 0 q).1)]):=by
 have ha:=Fj 59 (by decide) Gw q hs;generalize bW 59 0 q=x at *;refine kP (C:=cxP 1 5 [0,2]) (aJ _ _ _) Tryz.func43 rfl bT rfl nZ bT rfl rfl ?_;exact aip
theorem VG (q:RS) (hs:q.rest.length≤9223372036854775000):jR Tryz.prog 45 [.ptr 0 0] [qo q] (fun bs rs=>bs=[qo (aC q).2]∧rs=[.val (.int .i64 (aC q).1)]):=by
 have ha:=SV 59 (by decide) Gw q hs;show jR Tryz.prog 45 [.ptr 0 0] [qo q] (fun bs rs=>bs=[qo (bW 59 mn q).2]∧rs=[.val (.int .i64 (bW 59 mn q).1)]);generalize bW 59 mn q=x at *;refine kP (C:=cxP 1 5 [0,2]) (aJ _ _ _) Tryz.func45 rfl bT rfl nZ bT rfl rfl ?_;exact aip
theorem ahC {p:Prop}(h:p:=by
 conv=>whnf
 refine .raw _ _ rfl (fun h=>by cases h) (dJ (EN s b) [0] _ rfl rfl ⟨rfl,trivial⟩ qg rfl qh) ?_;rintro w ⟨b',rs,⟨rfl,rfl⟩,rfl⟩;refine ⟨aS _ _,(cW ?_)⟩;rw [hr];exact ⟨rfl,rfl⟩):p:=h
theorem PG (c:Int) (hc:0≤c∧c≤255) (s:List UInt8) (b:Bool):jR Tryz.prog 134 [.ptr 0 0,.int .u8 c] [.cells 164 [.str s,.bool b]] (fun bs rs=>bs=[qo (match fC [cb c] s with | some r=>⟨r,b⟩ | none=>⟨[],true⟩)]∧rs=[.val (.bool (fC [cb c] s).isSome)]):=by
 have hcb:((cb c).toNat:Int)=c:=by
  unfold cb;rw [Nat.toUInt8_eq,UInt8.toNat_ofNat'];omega
 have hce:∀ x:UInt8,(x.toNat:Int)=c↔x=cb c:=fun x=>by
  constructor
  ·intro h;exact UInt8.toNat_inj.1 aI
  ·intro h;rw [h,hcb]
 have hr:=F7 (cb c) s;refine kP (C:=cxP 1 30 [0,1,4,10,19]) (aJ _ _ _) Tryz.func134 rfl bT rfl nZ bT rfl rfl (cW ?_);refine ⟨fun h1=>?_,fun h1=>?_⟩
 ·have h1:=of_decide_eq_true h1;rw [if_neg (by omega)] at hr;exact ahC
 ·have h1:=of_decide_eq_false h1;conv=>whnf
  refine iO (cW ?_);refine ⟨fun h2=>?_,fun h2=>?_⟩
  ·simp only [Bool.not_eq_true',decide_eq_false_iff_not,hce] at h2;rw [if_neg (fun h=>h2 h.1)] at hr;exact ahC
  ·simp only [Bool.not_eq_false',decide_eq_true_eq,hce] at h2;rw [if_pos ⟨h2,by omega⟩] at hr;conv=>whnf
   refine And.intro ⟨by omega,by omega,by omega⟩ (cW ?_);rw [hr];exact ⟨rfl,rfl⟩
theorem I8 {c:Int} (hc:0≤c∧c≤255) {s r:List UInt8} {b:Bool} (h:fC [cb c] s=some r):jR Tryz.prog 134 [.ptr 0 0,.int .u8 c] [.cells 164 [.str s,.bool b]] (fun bs rs=>bs=[.cells 164 [.str r,.bool b]]∧rs=[.val (.bool true)]):=by
 have:=PG c hc s b;rw [h] at this;exact this
theorem Jc {c:Int} (hc:0≤c∧c≤255) {s:List UInt8} {b:Bool} (h:fC [cb c] s=none):jR Tryz.prog 134 [.ptr 0 0,.int .u8 c] [.cells 164 [.str s,.bool b]] (fun bs rs=>bs=[.cells 164 [.str [],.bool true]]∧rs=[.val (.bool false)]):=by
 have:=PG c hc s b;rw [h] at this;exact this
theorem Lc (e:UInt8):fC [e] []=none:=by
 rw [F7,if_neg (by simp)]
theorem Zi (q:RS) (hd:Dead q) (h:(bW 58 0 q).2.bad=true∨((bW 58 0 q).2.rest.length:Int)≤(bW 58 0 q).1):bC q=([],⟨[],true⟩):=by
 unfold bC;simp only;split
 ·rfl
 ·rename_i hlt;have hnil:(bW 58 0 q).2.rest.drop (bW 58 0 q).1.toNat=[]:=by
   rcases h with h | h
   ·rw [wI 58 0 q hd h];exact List.drop_nil
   ·rw [List.drop_eq_nil_iff];omega
  rw [hnil,Lc]
theorem abU (q:RS) (hd:Dead q) (hs:q.rest.length≤9223372036854775000):jR Tryz.prog 48 [.ptr 0 0] [qo q] (fun bs rs=>bs=[qo (bC q).2]∧rs=[.val (.str (bC q).1)]):=by
 have hn:=Fj 58 (by decide) Gw q hs;obtain ⟨h0,h1⟩:=jS 58 0 q (Int.le_refl _);have hout:=Zi q hd
 have hin:bC q=if ((bW 58 0 q).2.rest.length:Int)<(bW 58 0 q).1 then ([],⟨[],true⟩)
  else match fC [44] ((bW 58 0 q).2.rest.drop (bW 58 0 q).1.toNat) with
  | some r=>(if (bW 58 0 q).2.bad=true then [] else (bW 58 0 q).2.rest.take (bW 58 0 q).1.toNat,⟨r,(bW 58 0 q).2.bad⟩)
  | none=>([],⟨[],true⟩):=rfl
 generalize bW 58 0 q=x at *;obtain ⟨n,r,b⟩:=x;simp only at h0 h1 hout hin
 replace hn:jR Tryz.prog 129 [.ptr 0 0,.int .u8 58] [qo q] (fun bs rs=>bs=[.cells 164 [.str r,.bool b]]∧rs=[.val (.int .i64 n)]):=hn
 refine kP (C:=cxP 1 41 [0,2,3,4,19,39]) (aJ _ _ _) Tryz.func48 rfl bT rfl nZ bT rfl rfl (cW ?_);refine .raw _ _ rfl (fun h=>by cases h) (dJ (hn) [0] _ rfl rfl ⟨rfl,trivial⟩ qg rfl qh) ?_;rintro w ⟨b',rs,⟨rfl,rfl⟩,rfl⟩;refine ⟨aS _ _,(cW ?_)⟩;refine ⟨fun hx=>?_,fun hx=>?_⟩
 ·rw [Bool.or_eq_true,decide_eq_true_eq] at hx;conv=>whnf
  refine .raw _ _ rfl (fun h=>by cases h) (dJ (EN r b) [0] _ rfl rfl ⟨rfl,trivial⟩ qg rfl qh) ?_;rintro w ⟨b',rs,⟨rfl,rfl⟩,rfl⟩;refine ⟨aS _ _,(cW ?_)⟩;rw [hout hx];exact ⟨rfl,rfl⟩
 ·rw [Bool.or_eq_false_iff,decide_eq_false_iff_not] at hx;obtain ⟨rfl,hx⟩:=hx;rw [if_neg (by omega)] at hin;cases hcl:fC [44] (r.drop n.toNat) with
  | some r' =>
   rw [hcl] at hin;have hk:=I8 (c:=44) (b:=false) (by decide) hcl;conv=>whnf
   refine And.intro ⟨by omega,by omega,by omega⟩ (cW ?_);refine And.intro ⟨by omega,by omega,by omega⟩ (cW ?_);refine .raw _ _ rfl (fun h=>by cases h) (dJ (hk) [0] _ rfl rfl ⟨rfl,trivial⟩ qg rfl qh) ?_;rintro w ⟨b',rs,⟨rfl,rfl⟩,rfl⟩;refine ⟨aS _ _,(cW ?_)⟩;rw [hin];refine ⟨fun hb=>?_,fun hb=>?_⟩
   ·cases hb
   ·exact xK
  | none =>
   rw [hcl] at hin;have hk:=Jc (c:=44) (b:=false) (by decide) hcl;conv=>whnf
   refine And.intro ⟨by omega,by omega,by omega⟩ (cW ?_);refine And.intro ⟨by omega,by omega,by omega⟩ (cW ?_);refine .raw _ _ rfl (fun h=>by cases h) (dJ (hk) [0] _ rfl rfl ⟨rfl,trivial⟩ qg rfl qh) ?_;rintro w ⟨b',rs,⟨rfl,rfl⟩,rfl⟩;refine ⟨aS _ _,(cW ?_)⟩;rw [hin];refine ⟨fun hb=>?_,fun hb=>?_⟩
   ·exact xK
   ·cases hb
theorem UO {T:Type} {one:RS→T×RS} {q:RS} {r r':List UInt8} {l:List T} {n:Int} {q1:RS} (h1:bW 91 0 q=(n,q1)) (h2:gJ one q1 n.toNat=(⟨r,false⟩,l)) (h:fC [93] r=some r'):og one q=(some l,⟨r',false⟩):=by
 unfold og;simp only [h1,h2,h];rfl
theorem Jr {T:Type} {one:RS→T×RS} {q:RS} {r:List UInt8} {b:Bool} {l:List T} {n:Int} {q1:RS} (h1:bW 91 0 q=(n,q1)) (h2:gJ one q1 n.toNat=(⟨r,b⟩,l)) (h:fC [93] r=none):og one q=(none,⟨[],true⟩):=by
 unfold og;simp only [h1,h2,h]
def eu (q:RS):Int×RS:=(if ((ay q).2.rest.length:Int)<(ay q).1 then 0 else (ay q).1,(ay q).2)
theorem tN {T:Type} (one:RS→T×RS) (q:RS):bH one q=((dn one (eu q).2 (eu q).1.toNat).2,(dn one (eu q).2 (eu q).1.toNat).1):=by
 unfold bH eu;dsimp only;split<;>rfl
theorem ES (q:RS):0≤(eu q).1∧(eu q).1≤(eu q).2.rest.length∧(eu q).2.rest.length≤q.rest.length:=by
 have h1:=aZ q;have h2:0≤(ay q).1:=(jS 59 0 q (by omega)).1;unfold eu;dsimp only;split<;>omega
theorem dL {q:RS} (h:Dead q):Dead (ay q).2:=Ze.dead q h
theorem vW {q:RS} (h:Dead q):Dead (aC q).2:=G5.dead q h
theorem xY {q:RS} (h:Dead q):Dead (bC q).2:=Z7.dead q h
theorem xQ {q:RS} (h:Dead q):Dead (bD aC q).2:=(Y6 G5).dead q h
theorem vZ {q:RS} (h:Dead q):Dead (eu q).2:=by
 unfold eu;exact dL h
theorem tY {T:Type} {one:RS→T×RS} (h1:∀ q,Dead q→Dead (one q).2) {q:RS} (h:Dead q):∀ k,Dead (dn one q k).1
 | 0=>h
 | k+1=>h1 _ (tY h1 h k)
theorem Ap {T:Type} {one:RS→T×RS} (h1:∀ q,Dead q→Dead (one q).2) {q:RS} (h:Dead q):Dead (bH one q).2:=by
 rw [tN];exact tY h1 (vZ h) _
theorem Ui (q:RS) (h:Dead q):Dead (gQ q).2:=by
 unfold gQ;dsimp only;exact dL (dL h)
theorem SH (q:RS) (h:Dead q):Dead (jQ q).2:=by
 unfold jQ;dsimp only;exact dL (dL (dL h))
theorem acU (q:RS) (h:Dead q):Dead (jU q).2:=by
 unfold jU;dsimp only;exact dL (dL (dL (xY (dL h))))
theorem ac4 (q:RS) (h:Dead q):Dead (kG q).2:=by
 unfold kG;dsimp only;exact vW (dL (dL (dL (dL (dL h)))))
theorem abT (q:RS) (h:Dead q):Dead (iM q).2:=by
 unfold iM;dsimp only;exact dL (dL (dL (vW (vW (Ap Ui (vW (xQ (xQ (xY h)))))))))
theorem abH (q:RS) (h:Dead q):Dead (iU q).2:=by
 unfold iU;dsimp only;exact dL (Ap SH (xQ (dL (xY (dL h)))))
theorem jw (q:RS) (hs:q.rest.length≤100000000000):jR Tryz.prog 43 [.ptr 0 0] [qo q] (fun bs rs=>bs=[qo (ay q).2]∧rs=[.val (.int .i64 (ay q).1)]):=aft q (by omega)
theorem Ic (q:RS) (hs:q.rest.length≤100000000000):jR Tryz.prog 45 [.ptr 0 0] [qo q] (fun bs rs=>bs=[qo (aC q).2]∧rs=[.val (.int .i64 (aC q).1)]):=VG q (by omega)
theorem R_ (q:RS) (hd:Dead q) (hs:q.rest.length≤100000000000):jR Tryz.prog 48 [.ptr 0 0] [qo q] (fun bs rs=>bs=[qo (bC q).2]∧rs=[.val (.str (bC q).1)]):=abU q hd (by omega)
theorem Cb (q:RS) (hs:q.rest.length≤100000000000):jR Tryz.prog 46 [.ptr 0 0] [qo q] (fun bs rs=>bs=[qo (eu q).2]∧rs=[.val (.int .i64 (eu q).1)]):=by
 have g0:=jw q hs;unfold eu;obtain ⟨x,hx⟩:∃ x,x=ay q:=⟨_,rfl⟩;rw [← hx] at g0 ⊢;clear hx;obtain ⟨n,q1⟩:=x;have gl:=abk q1.rest q1.bad;dsimp only at g0 ⊢;refine kP (C:=cxP 1 11 [0,2,3,9]) (aJ _ _ _) Tryz.func46 rfl bT rfl nZ bT rfl rfl (cW ?_);refine .raw ([0]++[]) _ rfl (fun _=>⟨⟨_,[0]++[],_,_⟩,fun r'=>Iff.rfl,rfl⟩) (aF (g0) [0] [] rfl rfl ⟨rfl,trivial⟩ dS rfl (.inl rfl)) ?_;rintro _ rfl;refine ⟨aS _ _,(cW ?_)⟩;refine cO (fun _=>gl) (cW ?_);refine ⟨fun hc=>?_,fun hc=>?_⟩
 ·rw [if_pos (of_decide_eq_true hc)];exact xK
 ·rw [if_neg (of_decide_eq_false hc)];exact xK
theorem aad (q:RS) (hs:q.rest.length≤100000000000):jo Tryz.prog 44 [.ptr 0 0] [qo q] 1 (fun vs bs es=>vs=[.sl 1 encI 0 (bH ay q).1]∧bs=[qo (bH ay q).2]∧es=[]):=by
 have gm:=Cb q hs;have hm:=ES q;rw [tN];have hz:=fun k=>mg aZ (eu q).2 k
 have hzn:=fun k=>pX ay (eu q).2 k
 have hz0:dn ay (eu q).2 0=((eu q).2,[]):=rfl;have hzs:∀ k,dn ay (eu q).2 (k+1)=((ay (dn ay (eu q).2 k).1).2,(dn ay (eu q).2 k).2++[(ay (dn ay (eu q).2 k).1).1]):=fun _=>rfl
 obtain ⟨x,hx⟩:∃ x,x=eu q:=⟨_,rfl⟩;rw [← hx] at gm hm hz0 ⊢;simp only [← hx] at hz hzn hzs;clear hx;obtain ⟨n,q1⟩:=x;dsimp only at hm hz hz0 hzs hzn gm ⊢;obtain ⟨n0,n1,l0⟩:=hm;obtain ⟨Z,hZ⟩:∃ Z,Z=dn ay q1:=⟨_,rfl⟩;rw [← hZ] at hz0 ⊢;simp only [← hZ] at hz hzn hzs;clear hZ;have hn:n.toNat=n:=Int.toNat_of_nonneg n0;refine rO (aJ 1 19 [0,2,3,4,5,10]) Tryz.func44 ?_;conv=>whnf
 refine .raw ([0]++[]) _ rfl (fun _=>⟨⟨_,[0]++[],_,_⟩,fun r'=>Iff.rfl,rfl⟩) (aF (gm) [0] [] rfl rfl ⟨rfl,trivial⟩ dS rfl (.inl rfl)) ?_;rintro _ rfl;refine ⟨aS _ _,(cW ?_)⟩;refine aX (aJ _ _ _) n.toNat (fun _=>True) (fun k=>⟨[(0,.ptr 0 0),(3,.int .i64 n),(4,.own 1),(5,.int .i64 (k:Nat))],[(0,.cells 164 [.str (Z k).1.rest,.bool (Z k).1.bad]),(1,.row 3 1 encI 0 (Z k).2)],2⟩) trivial (by
  rw [hz0];exact (aj [(0,.id 0),(1,.nil)] rfl ⟨aQ,ah,kX,ah,trivial⟩ ⟨aB,⟨_,rfl,jA⟩,trivial⟩)) ?_
 intro k hk _;have hzk:=hz k;have hnk:=hzn k;have hsk:=hzs k;generalize hzz:Z k=z at *;obtain ⟨⟨rr,rb⟩,acc⟩:=z;have hnk:acc.length=k:=hnk;dsimp only at hzk hsk;conv=>whnf
 refine ⟨fun hd=>?_,fun hd=>?_⟩
 ·have hd:(k:Int)<n:=of_decide_eq_true hd;have hone:=jw ⟨rr,rb⟩ zQ;dsimp only [qo] at hone;generalize ay ⟨rr,rb⟩=y at *;conv=>whnf
  refine .raw ([0]++[]) _ rfl (fun _=>⟨⟨_,[0]++[],_,_⟩,fun r'=>Iff.rfl,rfl⟩) (aF (hone) [0] [] rfl rfl ⟨rfl,trivial⟩ dS rfl (.inl rfl)) ?_;rintro _ rfl;refine ⟨aS _ _,(cW ?_)⟩;refine And.intro rfl (cW ?_);refine And.intro ⟨rfl,rfl⟩ (And.intro (show (acc.length+1)*8≤140737488355328 by omega) (cW ?_));refine ⟨y.1,rfl,(cW ?_)⟩;refine iO (cW ?_);have e1:acc++[y.1]=(Z (k+1)).2:=by rw [hsk]
  have e2:y.2.rest=(Z (k+1)).1.rest:=by rw [hsk]
  have e3:y.2.bad=(Z (k+1)).1.bad:=by rw [hsk]
  refine up (show k<n.toNat by omega) trivial (by exact (aj [(0,.id 0),(1,.id 3)] rfl ⟨aQ,ah,(by first | exact wg0 | exact wh0 | exact wi0),ah,trivial⟩ ⟨⟨_,rfl,.cells _ _ _ _ rfl Oy rfl⟩,⟨_,rfl,OL⟩,trivial⟩))
 ·have hd:¬ (k:Int)<n:=of_decide_eq_false hd;have hkn:n.toNat=k:=by omega
  rw [hkn,hzz];conv=>whnf
  refine ⟨⟨[(2,.sl 1 encI 0 acc)],[(0,.cells 164 [.str rr,.bool rb])],1⟩,(dY [1]).trans (aj [(0,.id 0)] rfl ⟨ah,trivial⟩ ⟨aB,trivial⟩),rfl,rfl,?_⟩;exact dM
theorem ahO {p:Prop}(h:p:=by
 conv=>whnf
 refine ⟨fun hb=>?_,fun hb=>?_⟩
 ·conv=>whnf
  refine ⟨⟨[(2,.sl 1 encI 0 [])],[(0,.cells 164 [.str [],.bool true])],1⟩,(aj [(0,.id 0)] rfl ⟨.base (.leT _ _ (g_.nils_sl 1 encI 0) rfl),trivial⟩ ⟨aB,trivial⟩),rfl,rfl,?_⟩;exact dM
 ·cases hb):p:=h
theorem V4 (q:RS) (hd:Dead q) (hs:q.rest.length≤100000000000):jo Tryz.prog 132 [.ptr 0 0] [qo q] 1 (fun vs bs es=>vs=[.sl 1 encI 0 (bD aC q).1]∧bs=[qo (bD aC q).2]∧es=[]):=by
 unfold bD listOf;dsimp only;have hacc:=abb q (by omega);have hn:=Fj 91 (by decide) Gw q (by omega);obtain ⟨h0,h1⟩:=jS 91 0 q (Int.le_refl _);have h2:=uy 91 0 q;have hdd:=EI G5 _ (wI 91 0 q hd);generalize hx0:bW 91 0 q=x at *;obtain ⟨n,q1⟩:=x
 replace hn:jR Tryz.prog 129 [.ptr 0 0,.int .u8 91] [qo q] (fun bs rs=>bs=[qo q1]∧rs=[.val (.int .i64 n)]):=hn
 simp only at h0 h1 h2 hacc hdd;have hsr:=Ey DR q1;have hss:∀ k,gJ aC q1 (k+1)=if (gJ aC q1 k).1.bad=true then gJ aC q1 k else ((aC (gJ aC q1 k).1).2,(gJ aC q1 k).2++[(aC (gJ aC q1 k).1).1]):=fun _=>rfl
 have hst:∀ k,(gJ aC q1 k).1.bad=true→∀ s,gJ aC q1 (k+s)=gJ aC q1 k:=fun k h=>EJ h
 have hs0:gJ aC q1 0=(q1,[]):=rfl;generalize hZ:gJ aC q1=Z at *;refine rO (aJ 1 35 [0,2,3,4,5,17,33]) Tryz.func132 ?_;conv=>whnf
 refine .raw _ _ rfl (fun h=>by cases h) (dJ (hn) [0] _ rfl rfl ⟨rfl,trivial⟩ qg rfl qh) ?_;rintro w ⟨b',rs,⟨rfl,rfl⟩,rfl⟩;refine ⟨aS _ _,(cW ?_)⟩;refine aX (aJ _ _ _) n.toNat (fun _=>True) (fun k=>⟨[(0,.ptr 0 0),(3,.int .i64 n),(4,.own 1),(5,.int .i64 ((k:Nat):Int))],[(0,.cells 164 [.str (Z k).1.rest,.bool (Z k).1.bad]),(1,.row 3 1 encI 0 (Z k).2)],2⟩) trivial (by
  rw [hs0];exact (aj [(0,.id 0),(1,.nil)] rfl ⟨aQ,ah,kX,ah,trivial⟩ ⟨aB,⟨_,rfl,jA⟩,trivial⟩)) ?_
 intro k hk _;have hsk:=hss k;have hrk:=hsr k;have hak:=hacc k;have hstk:=hst k;have hddk:=hdd k;generalize hzk:Z k=z at *;obtain ⟨⟨r,b⟩,acc⟩:=z;simp only at hsk hrk hak hstk hddk;conv=>whnf
 refine ⟨fun hc=>?_,fun hc=>?_⟩
 ·replace hc:(decide ((k:Int)<n)&&!b)=true:=hc
  rw [Bool.and_eq_true,decide_eq_true_eq,Bool.not_eq_true'] at hc;obtain ⟨hc1,rfl⟩:=hc;rw [if_neg (by simp)] at hsk;have hone:=VG ⟨r,false⟩ (show r.length≤9223372036854775000 by omega)
  replace hone:jR Tryz.prog 45 [.ptr 0 0] [.cells 164 [.str r,.bool false]] (fun bs rs=>bs=[.cells 164 [.str (aC ⟨r,false⟩).2.rest,.bool (aC ⟨r,false⟩).2.bad]]∧rs=[.val (.int .i64 (aC ⟨r,false⟩).1)]):=hone
  generalize aC ⟨r,false⟩=x at *;conv=>whnf
  refine .raw ([0]++[]) _ rfl (fun _=>⟨⟨_,[0]++[],_,_⟩,fun r'=>Iff.rfl,rfl⟩) (aF (hone) [0] [] rfl rfl ⟨rfl,trivial⟩ dS rfl (.inl rfl)) ?_;rintro _ rfl;refine ⟨aS _ _,(cW ?_)⟩;refine And.intro rfl (cW ?_);refine And.intro ⟨rfl,rfl⟩ (And.intro (show (acc.length+1)*8≤140737488355328 by omega) (cW ?_));refine ⟨x.1,rfl,(cW ?_)⟩;refine iO (cW ?_);have e1:acc++[x.1]=(Z (k+1)).2:=by rw [hsk]
  have e2:x.2.rest=(Z (k+1)).1.rest:=by rw [hsk]
  have e3:x.2.bad=(Z (k+1)).1.bad:=by rw [hsk]
  refine up (show k<n.toNat by omega) trivial (by exact (aj [(0,.id 0),(1,.id 3)] rfl ⟨aQ,ah,(by first | exact wg0 | exact wh0 | exact wi0),.base (.tree _ _ (show AV.int .i64 _=AV.int .i64 _ by congr 1) rfl),trivial⟩ ⟨⟨_,rfl,.cells _ _ _ _ rfl Oy rfl⟩,⟨_,rfl,OL⟩,trivial⟩))
 ·replace hc:(decide ((k:Int)<n)&&!b)=false:=hc
  have hkn:Z n.toNat=(⟨r,b⟩,acc):=by
   rw [Bool.and_eq_false_iff,decide_eq_false_iff_not,Bool.not_eq_false'] at hc;rcases hc with h | h
   ·rw [show n.toNat=k by omega,hzk]
   ·rw [show n.toNat=k+(n.toNat-k) by omega,hstk h]
  cases b with
  | true =>
   have hr:=hddk rfl
   replace hr:r=[]:=hr
   have hq:=Jr (one:=aC) (r:=r) (b:=true) (l:=acc) hx0 (by rw [hZ];exact hkn) (by rw [hr];exact Lc 93);rw [hq];subst hr;conv=>whnf
   refine cF [.rop [.str [],.bool true],.int .u8 93] [.val (.bool true)] ?_;exact ahO
  | false =>
   cases hcl:fC [93] r with
   | some r' =>
    have hk2:=I8 (c:=93) (b:=false) (by decide) hcl;have hq:=UO (one:=aC) (r:=r) (l:=acc) hx0 (by rw [hZ];exact hkn) hcl;rw [hq];conv=>whnf
    refine .raw _ _ rfl (fun h=>by cases h) (dJ (hk2) [0] _ rfl rfl ⟨rfl,trivial⟩ qg rfl qh) ?_;rintro w ⟨b',rs,⟨rfl,rfl⟩,rfl⟩;refine ⟨aS _ _,(cW ?_)⟩;refine ⟨fun hb=>?_,fun hb=>?_⟩
    ·cases hb
    ·conv=>whnf
     refine ⟨⟨[(2,.sl 1 encI 0 acc)],[(0,.cells 164 [.str r',.bool false])],1⟩,(dY [1]).trans (aj [(0,.id 0)] rfl ⟨ah,trivial⟩ ⟨aB,trivial⟩),rfl,rfl,?_⟩;exact dM
   | none =>
    have hk2:=Jc (c:=93) (b:=false) (by decide) hcl;have hq:=Jr (one:=aC) (r:=r) (l:=acc) hx0 (by rw [hZ];exact hkn) hcl;rw [hq];conv=>whnf
    refine .raw _ _ rfl (fun h=>by cases h) (dJ (hk2) [0] _ rfl rfl ⟨rfl,trivial⟩ qg rfl qh) ?_;rintro w ⟨b',rs,⟨rfl,rfl⟩,rfl⟩;refine ⟨aS _ _,?_⟩;exact ahO
abbrev cLi (a:List UInt8) (b c:List Int) (d:Int) (v:AV) (e f g:Int) (h:Bool) (i:Int):List AV:=[.str a,.sl 1 encI 0 b,.sl 1 encI 0 c,.int .i64 d,v,.int .i64 e,.int .i64 f,.int .i64 g,.bool h,.int .i64 i]
abbrev cPr (a:Int) (b:List UInt8) (c:Int) (d:List Int) (v:AV) (e:Bool):List AV:=[.int .i64 a,.str b,.int .i64 c,.sl 1 encI 0 d,v,.bool e]
theorem agH {p:Prop} (h:p:=by first | exact g_.nils_sl 1 encI 0 | exact g_.nils_sl 2 gy fG | exact g_.nils_sl 3 gu eU):p:=h
theorem aij {p:Prop} (h:p:=by repeat (first | exact .nil | refine .cons (by first | exact .base (.tree _ _ rfl rfl) | exact .base (.own _ _ rfl) | exact .base (.ptr _ _ _ rfl) | exact .base (.map _ _ rfl) | exact .base (.nilown _ rfl) | exact .fn _ _ _ _ _ .nil vJ | exact .base (.tree _ _ agH rfl) | exact .base (.leT _ _ agH rfl)) ?_)):p:=h
theorem XY (q:RS) (hd:Dead q) (hs:q.rest.length≤100000000000):jo Tryz.prog 47 [.ptr 0 0] [qo q] 1 (fun vs bs es=>vs=[dW (iM q).1]∧bs=[qo (iM q).2]∧es=[.cells 47 (Df (iM q).1)]):=by
 obtain ⟨x1,hx1⟩:∃ x,x=bC q:=⟨_,rfl⟩;have gx1:=R_ q hd hs;have lx1:=tV q;have dx1:=xY hd;rw [← hx1] at gx1 lx1 dx1;obtain ⟨x2,hx2⟩:∃ x,x=bD aC x1.2:=⟨_,rfl⟩;have gx2:=V4 x1.2 dx1 (by omega);have lx2:=rG x1.2;have dx2:=xQ dx1;rw [← hx2] at gx2 lx2 dx2;obtain ⟨x3,hx3⟩:∃ x,x=bD aC x2.2:=⟨_,rfl⟩;have gx3:=V4 x2.2 dx2 (by omega);have lx3:=rG x2.2;have dx3:=xQ dx2;rw [← hx3] at gx3 lx3 dx3;obtain ⟨x4,hx4⟩:∃ x,x=aC x3.2:=⟨_,rfl⟩;have gx4:=Ic x3.2 (by omega);have lx4:=nJ x3.2;have dx4:=vW dx3;rw [← hx4] at gx4 lx4 dx4;have gmB:=Cb x4.2 (by omega);have hmB:=ES x4.2;have dmB:=vZ dx4;have emB:=tN gQ x4.2;have hzB:=fun k=>mg TM (eu x4.2).2 k
 have hznB:=fun k=>pX gQ (eu x4.2).2 k
 have hz0B:dn gQ (eu x4.2).2 0=((eu x4.2).2,[]):=rfl;have hzsB:∀ k,dn gQ (eu x4.2).2 (k+1)=((gQ (dn gQ (eu x4.2).2 k).1).2,(dn gQ (eu x4.2).2 k).2++[(gQ (dn gQ (eu x4.2).2 k).1).1]):=fun _=>rfl
 obtain ⟨y,hy⟩:∃ y,y=eu x4.2:=⟨_,rfl⟩;rw [← hy] at gmB hmB emB hz0B dmB;simp only [← hy] at hzB hznB hzsB;clear hy;obtain ⟨nB,qB⟩:=y;dsimp only at hmB hzB hz0B hzsB hznB gmB emB dmB;obtain ⟨naB,nbB,lqB⟩:=hmB;have hzdB:=tY Ui dmB;obtain ⟨ZB,hZ⟩:∃ Z,Z=dn gQ qB:=⟨_,rfl⟩;rw [← hZ] at emB hz0B;simp only [← hZ] at hzB hznB hzsB hzdB;clear hZ;have hnB:nB.toNat=nB:=Int.toNat_of_nonneg naB;have hzlB:=hzB nB.toNat;have hzdlB:=hzdB nB.toNat;have eaB:bH gQ x4.2=((ZB nB.toNat).2,(ZB nB.toNat).1):=emB;clear emB;obtain ⟨x6,hx6⟩:∃ x,x=aC (ZB nB.toNat).1:=⟨_,rfl⟩;have gx6:=Ic (ZB nB.toNat).1 (by omega);have lx6:=nJ (ZB nB.toNat).1;rw [← hx6] at gx6 lx6;obtain ⟨x7,hx7⟩:∃ x,x=aC x6.2:=⟨_,rfl⟩;have gx7:=Ic x6.2 (by omega);have lx7:=nJ x6.2;rw [← hx7] at gx7 lx7;obtain ⟨x8,hx8⟩:∃ x,x=ay x7.2:=⟨_,rfl⟩;have gx8:=jw x7.2 (by omega);have lx8:=aZ x7.2;rw [← hx8] at gx8 lx8;obtain ⟨x9,hx9⟩:∃ x,x=ay x8.2:=⟨_,rfl⟩;have gx9:=jw x8.2 (by omega);have lx9:=aZ x8.2;rw [← hx9] at gx9 lx9;obtain ⟨x10,hx10⟩:∃ x,x=ay x9.2:=⟨_,rfl⟩;have gx10:=jw x9.2 (by omega);have lx10:=aZ x9.2;rw [← hx10] at gx10 lx10;have hq:iM q=(⟨x1.1,x2.1,x3.1,x4.1,(ZB nB.toNat).2,x6.1,x7.1,x8.1,decide (x9.1=1),x10.1⟩,x10.2):=by
  unfold iM;dsimp only;rw [← hx1,← hx2,← hx3,← hx4,eaB];dsimp only;rw [← hx6,← hx7,← hx8,← hx9,← hx10]
 clear hx1 hx2 hx3 hx4 eaB hx6 hx7 hx8 hx9 hx10;rw [hq];dsimp only;refine rO (aJ 1 54 [0,2,3,4,5,6,23]) Tryz.func47 ?_;conv=>whnf
 refine .raw ([0]++[]) _ rfl (fun _=>⟨⟨_,[0]++[],_,_⟩,fun r'=>Iff.rfl,rfl⟩) (aF (gx1) [0] [] rfl rfl ⟨rfl,trivial⟩ dS rfl (.inl rfl)) ?_;rintro _ rfl;refine ⟨aS _ _,(cW ?_)⟩;refine cR (gx2) [0] (cW ?_);refine cR (gx3) [0] (cW ?_);refine .raw ([0]++[]) _ rfl (fun _=>⟨⟨_,[0]++[],_,_⟩,fun r'=>Iff.rfl,rfl⟩) (aF (gx4) [0] [] rfl rfl ⟨rfl,trivial⟩ dS rfl (.inl rfl)) ?_;rintro _ rfl;refine ⟨aS _ _,(cW ?_)⟩;refine .raw ([0]++[]) _ rfl (fun _=>⟨⟨_,[0]++[],_,_⟩,fun r'=>Iff.rfl,rfl⟩) (aF (gmB) [0] [] rfl rfl ⟨rfl,trivial⟩ dS rfl (.inl rfl)) ?_;rintro _ rfl;refine ⟨aS _ _,(cW ?_)⟩;refine aX (aJ _ _ _) nB.toNat (fun _=>True) (fun k=>⟨[(0,.ptr 0 0),(2,.ptr 1 0),(3,.ptr 2 0),(4,.int .i64 nB),(5,.int .i64 (k:Nat))],[(0,.cells 164 [.str (ZB k).1.rest,.bool (ZB k).1.bad]),(1,.cells 47 (Df eP)),(2,.cells 47 (cLi x1.1 x2.1 x3.1 x4.1 (.own 3) 0 0 0 false 0)),(3,.row 61 2 gy fG (ZB k).2)],4⟩) trivial (by
  rw [hz0B];exact (aj [(0,.id 0),(1,.id 1),(2,.id 2),(3,.nil)] rfl ⟨aQ,aQ,aQ,ah,ah,trivial⟩ ⟨aB,⟨_,rfl,.cells _ _ _ _ rfl aij rfl⟩,aB,⟨_,rfl,jA⟩,trivial⟩)) ?_
 intro k hk _;have hzk:=hzB k;have hnk:=hznB k;have hsk:=hzsB k;have hdk:=hzdB k;generalize hzz:ZB k=z at *;obtain ⟨⟨rr,rb⟩,acc⟩:=z;have hnk:acc.length=k:=hnk;dsimp only at hzk hsk hdk;conv=>whnf
 refine ⟨fun hd2=>?_,fun hd2=>?_⟩
 ·have hd2:(k:Int)<nB:=of_decide_eq_true hd2;have w0:=aZ ⟨rr,rb⟩;have k1:=jw ⟨rr,rb⟩ zQ;have k2:=jw (ay ⟨rr,rb⟩).2 (by dsimp only at w0 ⊢;omega);dsimp only [qo] at k1;unfold gQ at hsk;dsimp only at hsk;generalize ay ⟨rr,rb⟩=y1 at *;generalize ay y1.2=y2 at *;conv=>whnf
  refine .raw ([0]++[]) _ rfl (fun _=>⟨⟨_,[0]++[],_,_⟩,fun r'=>Iff.rfl,rfl⟩) (aF (k1) [0] [] rfl rfl ⟨rfl,trivial⟩ dS rfl (.inl rfl)) ?_;rintro _ rfl;refine ⟨aS _ _,(cW ?_)⟩;refine .eff ad0 (cW ?_);refine .raw ([0]++[]) _ rfl (fun _=>⟨⟨_,[0]++[],_,_⟩,fun r'=>Iff.rfl,rfl⟩) (aF (k2) [0] [] rfl rfl ⟨rfl,trivial⟩ dS rfl (.inl rfl)) ?_;rintro _ rfl;refine ⟨aS _ _,(cW ?_)⟩;refine And.intro rfl (cW ?_);refine And.intro ⟨rfl,rfl⟩ (And.intro (show (acc.length+1)*16≤140737488355328 by omega) (cW ?_));refine ⟨⟨y1.1,y2.1⟩,rfl,(cW ?_)⟩;refine ⟨by kernel_rfl,(cW ?_)⟩;refine iO (cW ?_);have e1:acc++[⟨y1.1,y2.1⟩]=(ZB (k+1)).2:=by rw [hsk]
  have e2:y2.2.rest=(ZB (k+1)).1.rest:=by rw [hsk]
  have e3:y2.2.bad=(ZB (k+1)).1.bad:=by rw [hsk]
  exact up (show k<nB.toNat by omega) trivial (by exact (aj [(0,.id 0),(1,.id 1),(2,.id 2),(3,.id 5)] rfl ⟨aQ,aQ,aQ,ah,ah,trivial⟩ ⟨⟨_,rfl,.cells _ _ _ _ rfl Oy rfl⟩,rE,rE,⟨_,rfl,OL⟩,trivial⟩))
 have hd2:¬ (k:Int)<nB:=of_decide_eq_false hd2;have hkn:nB.toNat=k:=by omega
 rw [hkn,hzz] at gx6 ⊢;dsimp only [qo] at gx6;conv=>whnf
 refine .raw ([0]++[]) _ rfl (fun _=>⟨⟨_,[0]++[],_,_⟩,fun r'=>Iff.rfl,rfl⟩) (aF (gx6) [0] [] rfl rfl ⟨rfl,trivial⟩ dS rfl (.inl rfl)) ?_;rintro _ rfl;refine ⟨aS _ _,(cW ?_)⟩;refine .raw ([0]++[]) _ rfl (fun _=>⟨⟨_,[0]++[],_,_⟩,fun r'=>Iff.rfl,rfl⟩) (aF (gx7) [0] [] rfl rfl ⟨rfl,trivial⟩ dS rfl (.inl rfl)) ?_;rintro _ rfl;refine ⟨aS _ _,(cW ?_)⟩;refine .raw ([0]++[]) _ rfl (fun _=>⟨⟨_,[0]++[],_,_⟩,fun r'=>Iff.rfl,rfl⟩) (aF (gx8) [0] [] rfl rfl ⟨rfl,trivial⟩ dS rfl (.inl rfl)) ?_;rintro _ rfl;refine ⟨aS _ _,(cW ?_)⟩;refine .raw ([0]++[]) _ rfl (fun _=>⟨⟨_,[0]++[],_,_⟩,fun r'=>Iff.rfl,rfl⟩) (aF (gx9) [0] [] rfl rfl ⟨rfl,trivial⟩ dS rfl (.inl rfl)) ?_;rintro _ rfl;refine ⟨aS _ _,(cW ?_)⟩;refine .raw ([0]++[]) _ rfl (fun _=>⟨⟨_,[0]++[],_,_⟩,fun r'=>Iff.rfl,rfl⟩) (aF (gx10) [0] [] rfl rfl ⟨rfl,trivial⟩ dS rfl (.inl rfl)) ?_;rintro _ rfl;refine ⟨aS _ _,(cW ?_)⟩;refine ⟨⟨[(2,.ptr 1 0)],[(0,.cells 164 [.str x10.2.rest,.bool x10.2.bad]),(1,.cells 47 [.str x1.1,.sl 1 encI 0 x2.1,.sl 1 encI 0 x3.1,.int .i64 x4.1,.sl 2 gy fG acc,.int .i64 x6.1,.int .i64 x7.1,.int .i64 x8.1,.bool (decide (x9.1=1)),.int .i64 x10.1])],2⟩,(dY [3]).trans (aj [(0,.id 0),(1,.id 1)] rfl ⟨aQ,trivial⟩ ⟨aB,aB,trivial⟩),rfl,rfl,?_⟩;exact dM
theorem Y9 (q:RS) (hd:Dead q) (hs:q.rest.length≤100000000000):jo Tryz.prog 49 [.ptr 0 0] [qo q] 1 (fun vs bs es=>vs=[eF (iU q).1]∧bs=[qo (iU q).2]∧es=[.cells 64 (CQ (iU q).1)]):=by
 obtain ⟨x1,hx1⟩:∃ x,x=ay q:=⟨_,rfl⟩;have gx1:=jw q (by omega);have lx1:=aZ q;have dx1:=dL hd;rw [← hx1] at gx1 lx1 dx1;obtain ⟨x2,hx2⟩:∃ x,x=bC x1.2:=⟨_,rfl⟩;have gx2:=R_ x1.2 dx1 (by omega);have lx2:=tV x1.2;have dx2:=xY dx1;rw [← hx2] at gx2 lx2 dx2;obtain ⟨x3,hx3⟩:∃ x,x=ay x2.2:=⟨_,rfl⟩;have gx3:=jw x2.2 (by omega);have lx3:=aZ x2.2;have dx3:=dL dx2;rw [← hx3] at gx3 lx3 dx3;obtain ⟨x4,hx4⟩:∃ x,x=bD aC x3.2:=⟨_,rfl⟩;have gx4:=V4 x3.2 dx3 (by omega);have lx4:=rG x3.2;have dx4:=xQ dx3;rw [← hx4] at gx4 lx4 dx4;have gmB:=Cb x4.2 (by omega);have hmB:=ES x4.2;have dmB:=vZ dx4;have emB:=tN jQ x4.2;have hzB:=fun k=>mg RJ (eu x4.2).2 k
 have hznB:=fun k=>pX jQ (eu x4.2).2 k
 have hz0B:dn jQ (eu x4.2).2 0=((eu x4.2).2,[]):=rfl;have hzsB:∀ k,dn jQ (eu x4.2).2 (k+1)=((jQ (dn jQ (eu x4.2).2 k).1).2,(dn jQ (eu x4.2).2 k).2++[(jQ (dn jQ (eu x4.2).2 k).1).1]):=fun _=>rfl
 obtain ⟨y,hy⟩:∃ y,y=eu x4.2:=⟨_,rfl⟩;rw [← hy] at gmB hmB emB hz0B dmB;simp only [← hy] at hzB hznB hzsB;clear hy;obtain ⟨nB,qB⟩:=y;dsimp only at hmB hzB hz0B hzsB hznB gmB emB dmB;obtain ⟨naB,nbB,lqB⟩:=hmB;have hzdB:=tY SH dmB;obtain ⟨ZB,hZ⟩:∃ Z,Z=dn jQ qB:=⟨_,rfl⟩;rw [← hZ] at emB hz0B;simp only [← hZ] at hzB hznB hzsB hzdB;clear hZ;have hnB:nB.toNat=nB:=Int.toNat_of_nonneg naB;have hzlB:=hzB nB.toNat;have hzdlB:=hzdB nB.toNat;have eaB:bH jQ x4.2=((ZB nB.toNat).2,(ZB nB.toNat).1):=emB;clear emB;obtain ⟨x6,hx6⟩:∃ x,x=ay (ZB nB.toNat).1:=⟨_,rfl⟩;have gx6:=jw (ZB nB.toNat).1 (by omega);have lx6:=aZ (ZB nB.toNat).1;rw [← hx6] at gx6 lx6;have hq:iU q=(⟨x1.1,x2.1,x3.1,x4.1,(ZB nB.toNat).2,decide (x6.1=1)⟩,x6.2):=by
  unfold iU;dsimp only;rw [← hx1,← hx2,← hx3,← hx4,eaB];dsimp only;rw [← hx6]
 clear hx1 hx2 hx3 hx4 eaB hx6;rw [hq];dsimp only;refine rO (aJ 1 47 [0,2,3,4,5,6,23]) Tryz.func49 ?_;conv=>whnf
 refine .raw ([0]++[]) _ rfl (fun _=>⟨⟨_,[0]++[],_,_⟩,fun r'=>Iff.rfl,rfl⟩) (aF (gx1) [0] [] rfl rfl ⟨rfl,trivial⟩ dS rfl (.inl rfl)) ?_;rintro _ rfl;refine ⟨aS _ _,(cW ?_)⟩;refine .raw ([0]++[]) _ rfl (fun _=>⟨⟨_,[0]++[],_,_⟩,fun r'=>Iff.rfl,rfl⟩) (aF (gx2) [0] [] rfl rfl ⟨rfl,trivial⟩ dS rfl (.inl rfl)) ?_;rintro _ rfl;refine ⟨aS _ _,(cW ?_)⟩;refine .raw ([0]++[]) _ rfl (fun _=>⟨⟨_,[0]++[],_,_⟩,fun r'=>Iff.rfl,rfl⟩) (aF (gx3) [0] [] rfl rfl ⟨rfl,trivial⟩ dS rfl (.inl rfl)) ?_;rintro _ rfl;refine ⟨aS _ _,(cW ?_)⟩;refine cR (gx4) [0] (cW ?_);refine .raw ([0]++[]) _ rfl (fun _=>⟨⟨_,[0]++[],_,_⟩,fun r'=>Iff.rfl,rfl⟩) (aF (gmB) [0] [] rfl rfl ⟨rfl,trivial⟩ dS rfl (.inl rfl)) ?_;rintro _ rfl;refine ⟨aS _ _,(cW ?_)⟩;refine aX (aJ _ _ _) nB.toNat (fun _=>True) (fun k=>⟨[(0,.ptr 0 0),(2,.ptr 1 0),(3,.ptr 2 0),(4,.int .i64 nB),(5,.int .i64 (k:Nat))],[(0,.cells 164 [.str (ZB k).1.rest,.bool (ZB k).1.bad]),(1,.cells 64 (CQ fB)),(2,.cells 64 (cPr x1.1 x2.1 x3.1 x4.1 (.own 3) false)),(3,.row 66 3 gu eU (ZB k).2)],4⟩) trivial (by
  rw [hz0B];exact (aj [(0,.id 0),(1,.id 1),(2,.id 2),(3,.nil)] rfl ⟨aQ,aQ,aQ,ah,ah,trivial⟩ ⟨aB,⟨_,rfl,.cells _ _ _ _ rfl aij rfl⟩,aB,⟨_,rfl,jA⟩,trivial⟩)) ?_
 intro k hk _;have hzk:=hzB k;have hnk:=hznB k;have hsk:=hzsB k;have hdk:=hzdB k;generalize hzz:ZB k=z at *;obtain ⟨⟨rr,rb⟩,acc⟩:=z;have hnk:acc.length=k:=hnk;dsimp only at hzk hsk hdk;conv=>whnf
 refine ⟨fun hd2=>?_,fun hd2=>?_⟩
 ·have hd2:(k:Int)<nB:=of_decide_eq_true hd2;have w0:=aZ ⟨rr,rb⟩;have w1:=aZ (ay ⟨rr,rb⟩).2;have k1:=jw ⟨rr,rb⟩ zQ;have k2:=jw (ay ⟨rr,rb⟩).2 (by dsimp only at w0 ⊢;omega);have k3:=jw (ay (ay ⟨rr,rb⟩).2).2 (by dsimp only at w0 w1 ⊢;omega);dsimp only [qo] at k1;unfold jQ at hsk;dsimp only at hsk;generalize ay ⟨rr,rb⟩=y1 at *;generalize ay y1.2=y2 at *;generalize ay y2.2=y3 at *;conv=>whnf
  refine .raw ([0]++[]) _ rfl (fun _=>⟨⟨_,[0]++[],_,_⟩,fun r'=>Iff.rfl,rfl⟩) (aF (k1) [0] [] rfl rfl ⟨rfl,trivial⟩ dS rfl (.inl rfl)) ?_;rintro _ rfl;refine ⟨aS _ _,(cW ?_)⟩;refine .raw ([0]++[]) _ rfl (fun _=>⟨⟨_,[0]++[],_,_⟩,fun r'=>Iff.rfl,rfl⟩) (aF (k2) [0] [] rfl rfl ⟨rfl,trivial⟩ dS rfl (.inl rfl)) ?_;rintro _ rfl;refine ⟨aS _ _,(cW ?_)⟩;refine .raw ([0]++[]) _ rfl (fun _=>⟨⟨_,[0]++[],_,_⟩,fun r'=>Iff.rfl,rfl⟩) (aF (k3) [0] [] rfl rfl ⟨rfl,trivial⟩ dS rfl (.inl rfl)) ?_;rintro _ rfl;refine ⟨aS _ _,(cW ?_)⟩;refine And.intro rfl (cW ?_);refine And.intro ⟨rfl,rfl⟩ (And.intro (show (acc.length+1)*24≤140737488355328 by omega) (cW ?_));refine ⟨⟨y1.1,y2.1,decide (y3.1=1)⟩,rfl,(cW ?_)⟩;refine iO (cW ?_);have e1:acc++[⟨y1.1,y2.1,decide (y3.1=1)⟩]=(ZB (k+1)).2:=by rw [hsk]
  have e2:y3.2.rest=(ZB (k+1)).1.rest:=by rw [hsk]
  have e3:y3.2.bad=(ZB (k+1)).1.bad:=by rw [hsk]
  exact up (show k<nB.toNat by omega) trivial (by exact (aj [(0,.id 0),(1,.id 1),(2,.id 2),(3,.id 6)] rfl ⟨aQ,aQ,aQ,ah,ah,trivial⟩ ⟨⟨_,rfl,.cells _ _ _ _ rfl Oy rfl⟩,rE,rE,⟨_,rfl,OL⟩,trivial⟩))
 have hd2:¬ (k:Int)<nB:=of_decide_eq_false hd2;have hkn:nB.toNat=k:=by omega
 rw [hkn,hzz] at gx6 ⊢;dsimp only [qo] at gx6;conv=>whnf
 refine .raw ([0]++[]) _ rfl (fun _=>⟨⟨_,[0]++[],_,_⟩,fun r'=>Iff.rfl,rfl⟩) (aF (gx6) [0] [] rfl rfl ⟨rfl,trivial⟩ dS rfl (.inl rfl)) ?_;rintro _ rfl;refine ⟨aS _ _,(cW ?_)⟩;refine ⟨⟨[(2,.ptr 1 0)],[(0,.cells 164 [.str x6.2.rest,.bool x6.2.bad]),(1,.cells 64 [.int .i64 x1.1,.str x2.1,.int .i64 x3.1,.sl 1 encI 0 x4.1,.sl 3 gu eU acc,.bool (decide (x6.1=1))])],2⟩,(dY [3]).trans (aj [(0,.id 0),(1,.id 1)] rfl ⟨aQ,trivial⟩ ⟨aB,aB,trivial⟩),rfl,rfl,?_⟩;exact dM
def Dx (a b n:Int):Bool:=decide (a≤n)&&decide (n≤b)
theorem J6 (a b n:Int):inB a b [n]=Dx a b n:=by
 rw [Bool.eq_iff_iff];unfold Dx;simp only [Bool.and_eq_true,decide_eq_true_eq,A_,List.mem_singleton,forall_eq]
theorem uT (n a b:Int):ak Tryz.prog 71 [.int .i64 n,.int .i64 a,.int .i64 b] (.bool (inB a b [n])):=by
 rw [J6];unfold Dx;refine aO (au 15 [0,1,2,6]) Tryz.func71 ?_;conv=>whnf
 rfl
theorem Ii (n:Int):ak Tryz.prog 69 [.int .i64 n] (.bool (kJ n)):=by
 have g:=uT n 0 200000;unfold kJ;refine aO (au 5 [0,2]) Tryz.func69 ?_;conv=>whnf
 refine cO (fun _=>g) (cW ?_);rfl
def oC (t:Int) (l:List Int):Int:=(kR t l).getD (-1)
theorem ZH {t:Int} {l:List Int} {k:Nat} {s:Int} (hk:k<l.length) (h1:kR t (l.take k)=some s) (h2:¬ (0≤l.getD k 0∧l.getD k 0≤gX-s)):kR t l=none:=by
 induction l generalizing t k with
 | nil=>simp at hk
 | cons n l ih =>
  cases k with
  | zero =>
   simp [kR] at h1;subst h1;unfold kR;rw [if_neg tJ]
  | succ k =>
   rw [List.take_succ_cons] at h1;unfold kR at h1 ⊢;split at h1
   ·rename_i hc;rw [if_pos hc];exact ih SK h1 tJ
   ·cases h1
theorem YH {t:Int} {l:List Int} {k:Nat} {s:Int} (hk:k<l.length) (h1:kR t (l.take k)=some s) (h2:0≤l.getD k 0∧l.getD k 0≤gX-s):kR t (l.take (k+1))=some (s+l.getD k 0):=by
 induction l generalizing t k with
 | nil=>simp at hk
 | cons n l ih =>
  cases k with
  | zero =>
   simp [kR] at h1;subst h1;rw [List.take_succ_cons];unfold kR;rw [if_pos tJ];simp [kR]
  | succ k =>
   rw [List.take_succ_cons] at h1 ⊢;unfold kR at h1 ⊢;split at h1
   ·rename_i hc;rw [if_pos hc];simpa using ih SK h1 tJ
   ·cases h1
theorem Dn (l:List Int) (t:Int) (hl:l.length≤9223372036854775807) (ht:0≤t∧t≤gX):ak Tryz.prog 70 [.sl 1 encI 0 l,.int .i64 t] (.int .i64 (oC t l)):=by
 have hM:gX=1000000000000000000:=rfl;unfold oC;refine aO (au 38 [0,1,4,5,13,30]) Tryz.func70 ?_;conv=>whnf
 refine dO (au _ _) (σ:=Nat×Int) (fun s=>s.1≤l.length∧kR t (l.take s.1)=some s.2∧0≤s.2∧s.2≤gX) (fun s=>l.length-s.1) (fun s=>⟨[(0,.sl 1 encI 0 l),(1,.int .i64 (s.2)),(4,.int .i64 0),(5,.int .i64 ((s.1):Nat))],[],0⟩) (0,t) ⟨Nat.zero_le _,rfl,ht⟩ Gt ?_;rintro ⟨k,s⟩ ⟨hk,hP,h0,h1⟩;simp only at hk hP h0 h1;show fQ _ _ (⟨[(0,.sl 1 encI 0 l),(1,.int .i64 s),(4,.int .i64 0),(5,.int .i64 (k:Nat))],[],0⟩) _;conv=>whnf
 refine ⟨fun hc=>?_,fun hc=>?_⟩
 ·simp only [Bool.and_eq_true,decide_eq_true_eq] at hc;have hlt:k<l.length:=by omega
  have hek:(k:Int).toNat=k:=Int.toNat_natCast k;have g:=uT (l.getD k 0) 0 1000000000000000000;rw [J6] at g;conv=>whnf
  refine iO (cW ?_);refine And.intro rfl (cW ?_);try (rw [hek];conv=>whnf)
  refine cO (fun _=>g) (cW ?_);refine And.intro aI (And.intro rfl (cW ?_));refine And.intro (fun _=>⟨by omega,by omega⟩) (cW ?_);try (rw [hek];conv=>whnf)
  refine ⟨fun hd=>?_,fun hd=>?_⟩
  ·have hn:¬ (0≤l.getD k 0∧l.getD k 0≤gX-s):=by
    unfold Dx at hd;simp only [Bool.or_eq_true,Bool.not_eq_true',Bool.and_eq_false_iff,decide_eq_false_iff_not,decide_eq_true_eq] at hd;omega
   rw [ZH hlt hP hn];conv=>whnf
   rfl
  ·have hn:0≤l.getD k 0∧l.getD k 0≤gX-s:=by
    unfold Dx at hd;simp only [Bool.or_eq_false_iff,Bool.not_eq_false',Bool.and_eq_true,decide_eq_false_iff_not,decide_eq_true_eq] at hd;omega
   conv=>whnf
   refine iO (cW ?_);refine And.intro rfl (cW ?_);try (rw [hek];conv=>whnf)
   refine iO (cW ?_);refine iO (cW ?_);refine ⟨(k+1,s+l.getD k 0),⟨hlt,YH hlt hP hn,by dsimp only;omega,by dsimp only;omega⟩,by show l.length-(k+1)<l.length-k;omega,by exact (aj [] rfl ⟨ah,ah,ah,ah,trivial⟩ trivial)⟩
 ·simp only [Bool.and_eq_false_iff,decide_eq_false_iff_not] at hc;obtain rfl:k=l.length:=by omega
  exact Qq
theorem Kw (l:List Int) (n:Int) (hl:l.length≤9223372036854775807):ak Tryz.prog 149 [.sl 1 encI 0 l,.int .i64 n] (.bool (jk n l)):=by
 have hall:∀ l:List Int,inB 0 1000000000 l=l.all fun n=>Dx 0 1000000000 n:=fun l=>by
  rw [Bool.eq_iff_iff];unfold Dx;simp only [Bool.and_eq_true,decide_eq_true_eq,A_,List.all_eq_true]
 unfold jk;rw [hall];refine aO (au 27 [0,1,4,5,14,22]) Tryz.func149 ?_;conv=>whnf
 refine aX (au _ _) l.length (fun k=>(l.take k).all (fun n=>Dx 0 1000000000 n)=true) (fun k=>⟨[(0,.sl 1 encI 0 l),(1,.int .i64 n),(4,.bool false),(5,.int .i64 (k:Nat))],[],0⟩) rfl Gt ?_;intro k hk hP;conv=>whnf
 refine ⟨fun hc=>?_,fun hc=>?_⟩
 ·simp only [Bool.and_eq_true,decide_eq_true_eq] at hc;have hlt:k<l.length:=by omega
  have hek:(k:Int).toNat=k:=Int.toNat_natCast k;have g:=uT (l.getD k 0) 0 1000000000;rw [J6] at g;conv=>whnf
  refine iO (cW ?_);refine And.intro rfl (cW ?_);try (rw [hek];conv=>whnf)
  refine cO (fun _=>g) (cW ?_);refine ⟨fun hd=>?_,fun hd=>?_⟩
  ·have hz:(fun n=>Dx 0 1000000000 n) (l.getD k 0)=false:=by simpa using hd
   rw [Bd hlt hz,Bool.and_false];conv=>whnf
   rfl
  ·have hz:(fun n=>Dx 0 1000000000 n) (l.getD k 0)=true:=by simpa using hd
   conv=>whnf
   refine iO (cW ?_);refine up hlt ?_ Gt;rw [qJ (d:=0) hlt,hP];exact hz
 ·simp only [Bool.and_eq_false_iff,decide_eq_false_iff_not] at hc;conv=>whnf
  by_cases hn:(l.length:Int)=n
  ·obtain rfl:k=l.length:=by omega
   rw [List.take_length] at hP;rw [hP,decide_eq_true hn];rfl
  ·rw [decide_eq_false hn];rfl
theorem ahW (f:Fac) (hn:f.name.length≤9223372036854775807):ak Tryz.prog 147 [eG f] (.bool (j_ f)):=by
 have h:=EW f.name hn;have e:j_ f=(decide (0≤f.issuer)&&decide (f.issuer<60)&&nameB f.name&&decide (0≤f.period)&&decide (f.period≤f.day)&&decide (f.day≤200000)&&decide (0≤f.value)&&decide (f.value≤1000000000000000)):=by
  unfold j_;generalize decide (0≤f.issuer)=a;generalize decide (f.issuer<60)=b;generalize nameB f.name=c;generalize decide (0≤f.period)=d;generalize decide (f.period≤f.day)=e;generalize decide (f.day≤200000)=g;generalize decide (0≤f.value)=h;generalize decide (f.value≤1000000000000000)=i;revert a b c d e g h i;decide
 rw [e];refine aO (au 43 [0,1,2]) Tryz.func147 ?_;exact E_
theorem PW (b:Brc):pY b=!(!inB 0 3 [b.stage]||!kJ b.since):=by
 unfold pY;cases inB 0 3 [b.stage]<;>cases kJ b.since<;>rfl
theorem Rx (n:Int) (v:Vot):t_ n v=!(!inB 0 (n-1) [v.seat]||!kJ v.day):=by
 unfold t_;cases inB 0 (n-1) [v.seat]<;>cases kJ v.day<;>rfl
theorem Ql {p:Prop}(h:p:=by
 rw [← decide_not];exact decide_eq_decide.2 aI):p:=h
theorem acn (seats:Int) (x:Lin) {er:Int} (hp:decide (er=0)=wP x.text) :
  mJ seats x=(!(!decide (er=0)||!jk seats x.units||(decide (0<(x.noted.length:Int))&&!jk seats x.noted)||!inB (-1) 5000 [x.notedAt]||decide (500<(x.stages.length:Int))||!inB (-1) 200000 [x.fast]||!inB (-1) 200000 [x.called]||!inB 0 10000 [x.price]||!kJ x.since)&&x.stages.all pY):=by
 have e1:decide (0<(x.noted.length:Int))=!decide (x.noted=[]):=by
  cases x.noted with
  | nil=>rfl
  | cons a l =>
   rw [decide_eq_true (show (0:Int)<((a::l).length:Int) by rw [List.length_cons];omega),decide_eq_false (show ¬ (a::l=[]) by simp)];rfl
 have e2:decide (500<(x.stages.length:Int))=!decide (x.stages.length≤500):=by
  exact Ql
 have e3:inB (-1) 200000 [x.fast,x.called]=(inB (-1) 200000 [x.fast]&&inB (-1) 200000 [x.called]):=by
  unfold inB;simp
 unfold mJ;rw [← hp,e1,e2,e3];generalize decide (er=0)=a;generalize jk seats x.units=b;generalize decide (x.noted=[])=c;generalize jk seats x.noted=d;generalize inB (-1) 5000 [x.notedAt]=e;generalize decide (x.stages.length≤500)=f;generalize inB (-1) 200000 [x.fast]=g;generalize inB (-1) 200000 [x.called]=h;generalize inB 0 10000 [x.price]=i;generalize kJ x.since=j;generalize x.stages.all pY=k;clear hp e1 e2 e3;cases a<;>cases b<;>cases c<;>cases d<;>cases e<;>cases f<;>cases g<;>cases h<;>cases i<;>cases j<;>cases k<;>rfl
theorem afj (lines seats:Int) (p:Pro) :
  qK lines seats p=(!(!inB 0 (lines-1) [p.issue]||decide (4000<(p.text.length:Int))||!kJ p.day||!jk seats p.units||decide (2000<(p.votes.length:Int)))&&p.votes.all (t_ seats)):=by
 have e1:decide (4000<(p.text.length:Int))=!decide (p.text.length≤4000):=by
  exact Ql
 have e2:decide (2000<(p.votes.length:Int))=!decide (p.votes.length≤2000):=by
  exact Ql
 unfold qK;rw [e1,e2];generalize inB 0 (lines-1) [p.issue]=a;generalize decide (p.text.length≤4000)=b;generalize kJ p.day=c;generalize jk seats p.units=d;generalize decide (p.votes.length≤2000)=e;generalize p.votes.all (t_ seats)=f;cases a<;>cases b<;>cases c<;>cases d<;>cases e<;>cases f<;>rfl
theorem Ya (s:List UInt8) (hs:s.length≤9223372036854775807):∃ x p e,bM Tryz.prog 148 [.str s] (fun rs=>rs=[.val (N8 x),.val (.int .i64 p),.val (.int .i64 e)])∧decide (e=0)=wP s:=by
 have h:=aaq s hs;unfold wP;cases hp:iK s with
 | error e =>
  rw [hp] at h;exact ⟨_,_,_,h,decide_eq_false (Un hp)⟩
 | ok x =>
  rw [hp] at h;exact ⟨_,_,_,h,rfl⟩
theorem ahH (x:Lin) (seats:Int) (hx:x.text.length≤9223372036854775807∧x.units.length≤9223372036854775807∧x.noted.length≤9223372036854775807∧x.stages.length≤9223372036854775807):ak Tryz.prog 73 [dW x,.int .i64 seats] (.bool (mJ seats x)):=by
 obtain ⟨y,po,er,gp,hp⟩:=Ya x.text hx.1;have g1:=Kw x.units seats hx.2.1;have g2:=Kw x.noted seats hx.2.2.1;have g3:=uT x.notedAt (-1) 5000;have g4:=uT x.fast (-1) 200000;have g5:=uT x.called (-1) 200000;have g6:=uT x.price 0 10000;have g7:=Ii x.since;obtain ⟨hx1,hx2,hx3,hx4⟩:=hx;rw [acn seats x hp];refine aO (au 99 [0,1,2,4,7,8,73,78,98]) Tryz.func73 ?_;conv=>whnf
 refine cO (fun _=>gp) (cW ?_);refine cO (fun _=>g1) (cW ?_);refine cO (fun _=>g2) (cW ?_);refine cO (fun _=>g3) (cW ?_);refine cO (fun _=>g4) (cW ?_);refine cO (fun _=>g5) (cW ?_);refine cO (fun _=>g6) (cW ?_);refine cO (fun _=>g7) (cW ?_);refine ⟨fun hc=>?_,fun hc=>?_⟩
 ·rw [hc];conv=>whnf
  rfl
 rw [hc];clear hc;conv=>whnf
 refine aX (au _ _) x.stages.length (fun k=>(x.stages.take k).all pY=true) (fun k=>⟨[(2,.ptr 0 0),(4,.bool false),(8,.int .i64 (k:Nat))],[(0,.cells 47 (Df x))],1⟩) rfl NH ?_;intro k hk hP;conv=>whnf
 refine ⟨fun hd=>?_,fun hd=>?_⟩
 ·have hd:=of_decide_eq_true hd;have hlt:k<x.stages.length:=by omega
  have hek:(k:Int).toNat=k:=Int.toNat_natCast k;have k1:=uT (x.stages.getD k fG).stage 0 3;have k2:=Ii (x.stages.getD k fG).since;conv=>whnf
  refine iO (cW ?_);refine And.intro rfl (cW ?_);try (rw [hek];conv=>whnf)
  refine cO (fun _=>k1) (cW ?_);refine And.intro aI (And.intro rfl (cW ?_));try (rw [hek];conv=>whnf)
  refine cO (fun _=>k2) (cW ?_);refine ⟨fun he=>?_,fun he=>?_⟩
  ·have hz:pY (x.stages.getD k fG)=false:=by rw [PW,he];rfl
   exact QB
  ·have hz:pY (x.stages.getD k fG)=true:=by rw [PW,he];rfl
   conv=>whnf
   refine iO (cW ?_);refine up hlt ?_ NH;rw [qJ (d:=fG) hlt,hP,hz];rfl
 have hd:=of_decide_eq_false hd;obtain rfl:k=x.stages.length:=by omega
 exact Qq
theorem ahD {p:Prop} (h:p:=by exact (aj [(0,.id 0)] rfl ⟨ah,aQ,ah,ah,trivial⟩ ⟨rE,trivial⟩)):p:=h
theorem ajt (p:Pro) (lines seats:Int) (hl:0≤lines∧lines≤9223372036854775807) (hs:0≤seats∧seats≤9223372036854775807) (hx:p.text.length≤9223372036854775807∧p.units.length≤9223372036854775807∧p.votes.length≤9223372036854775807):ak Tryz.prog 74 [eF p,.int .i64 lines,.int .i64 seats] (.bool (qK lines seats p)):=by
 have g1:=uT p.issue 0 (lines-1);have g2:=Ii p.day;have g3:=Kw p.units seats hx.2.1;obtain ⟨hx1,hx2,hx3⟩:=hx;rw [afj];refine aO (au 66 [0,1,2,3,6,7,38,43,65]) Tryz.func74 ?_;conv=>whnf
 refine iO (cW ?_);refine cO (fun _=>g1) (cW ?_);refine cO (fun _=>g2) (cW ?_);refine cO (fun _=>g3) (cW ?_);refine ⟨fun hc=>?_,fun hc=>?_⟩
 ·rw [hc];conv=>whnf
  rfl
 rw [hc];clear hc;conv=>whnf
 refine aX (au _ _) p.votes.length (fun k=>(p.votes.take k).all (t_ seats)=true) (fun k=>⟨[(2,.int .i64 seats),(3,.ptr 0 0),(6,.bool false),(7,.int .i64 (k:Nat))],[(0,.cells 64 (CQ p))],1⟩) rfl ahD ?_;intro k hk hP;conv=>whnf
 refine ⟨fun hd=>?_,fun hd=>?_⟩
 ·have hd:=of_decide_eq_true hd;have hlt:k<p.votes.length:=by omega
  have hek:(k:Int).toNat=k:=Int.toNat_natCast k;have k1:=uT (p.votes.getD k eU).seat 0 (seats-1);have k2:=Ii (p.votes.getD k eU).day;conv=>whnf
  refine iO (cW ?_);refine And.intro rfl (cW ?_);refine iO (cW ?_);try (rw [hek];conv=>whnf)
  refine cO (fun _=>k1) (cW ?_);refine And.intro aI (And.intro rfl (cW ?_));try (rw [hek];conv=>whnf)
  refine cO (fun _=>k2) (cW ?_);refine ⟨fun he=>?_,fun he=>?_⟩
  ·have hz:t_ seats (p.votes.getD k eU)=false:=by rw [Rx,he];rfl
   exact QB
  ·have hz:t_ seats (p.votes.getD k eU)=true:=by rw [Rx,he];rfl
   conv=>whnf
   refine iO (cW ?_);refine up hlt ?_ ahD;rw [qJ (d:=eU) hlt,hP,hz];rfl
 have hd:=of_decide_eq_false hd;obtain rfl:k=p.votes.length:=by omega
 exact Qq
theorem aaE {p:Prop} (h:p:=by exact (aj [] rfl ⟨ah,ah,ah,trivial⟩ trivial)):p:=h
theorem af5 (l:List Fac) (hl:l.length≤9223372036854775807) (hn:∀ f∈l,f.name.length≤9223372036854775807):ak Tryz.prog 72 [.sl 5 eG fa0 l] (.bool (qy l)):=by
 unfold qy;refine aO (au 37 [0,2,3,6,10,36]) Tryz.func72 ?_;conv=>whnf
 refine ⟨fun hc=>?_,fun hc=>?_⟩
 ·exact ad5
 have hc:=of_decide_eq_false hc;rw [decide_eq_true (show l.length≤10000 by omega)];conv=>whnf
 refine aX (au _ _) l.length (fun k=>mF (if k=0 then 0 else (l.getD (k-1) fa0).day) (l.drop k)=mF 0 l) (fun k=>⟨[(0,.sl 5 eG fa0 l),(2,.bool false),(3,.int .i64 (k:Nat))],[],0⟩) rfl aaE ?_;intro k hk hP;conv=>whnf
 refine ⟨fun hd=>?_,fun hd=>?_⟩
 ·have hd:=of_decide_eq_true hd;have hlt:k<l.length:=by omega
  have hek:(k:Int).toNat=k:=Int.toNat_natCast k;have g:=ahW (l.getD k fa0) (hn _ (getD_mem (d:=fa0) hlt));rw [Aa fa0 hlt,mF] at hP;rcases k with _ | k
  ·have h0:(j_ (l.getD 0 fa0)&&decide (0≤(l.getD 0 fa0).day))=j_ (l.getD 0 fa0):=by
    cases h:j_ (l.getD 0 fa0) with
    | false=>rfl
    | true =>
     unfold j_ at h;simp only [Bool.and_eq_true,decide_eq_true_eq] at h;rw [decide_eq_true (by omega)];rfl
   rw [if_pos rfl,h0] at hP;cases hq:j_ (l.getD 0 fa0) with
   | false =>
    rw [hq] at g hP;rw [← hP];conv=>whnf
    refine .quiet bZ (cW ?_);refine iO (cW ?_);refine And.intro rfl (cW ?_);try (rw [hek];conv=>whnf)
    refine .mk _ _ _ _ (fun _=>g) vN rfl (cW ?_);refine And.intro (fun _=>⟨by omega,by omega⟩) (cW ?_);refine ⟨fun h=>absurd h bT,rfl,(cW ?_)⟩;refine And.intro aI (And.intro rfl (cW ?_));refine gT (cW ?_);rfl
   | true =>
    rw [hq] at g hP;conv=>whnf
    refine .quiet bZ (cW ?_);refine iO (cW ?_);refine And.intro rfl (cW ?_);try (rw [hek];conv=>whnf)
    refine .mk _ _ _ _ (fun _=>g) vN rfl (cW ?_);refine And.intro (fun _=>⟨by omega,by omega⟩) (cW ?_);refine ⟨fun h=>absurd h bT,rfl,(cW ?_)⟩;refine And.intro aI (And.intro rfl (cW ?_));rw [show decide ((0:Int)<((0:Nat):Int))=false from rfl];refine gF (cW ?_);refine iO (cW ?_);rw [Bool.true_and] at hP;exact up hlt hP aaE
  ·rw [if_neg (by omega),Nat.add_sub_cancel] at hP;have he1:(((k+1:Nat):Int)-1).toNat=k:=by omega
   conv=>whnf
   refine .quiet bZ (cW ?_);refine iO (cW ?_);refine And.intro rfl (cW ?_);try (rw [hek];conv=>whnf)
   refine .mk _ _ _ _ (fun _=>g) vN rfl (cW ?_);refine And.intro (fun _=>⟨by omega,by omega⟩) (cW ?_);refine And.intro aI (And.intro rfl (cW ?_));refine And.intro aI (And.intro rfl (cW ?_));rw [hek,he1,decide_eq_true (show (0:Int)<((k+1:Nat):Int) by omega)];refine ⟨fun he=>?_,fun he=>?_⟩
   ·have hz:(j_ (l.getD (k+1) fa0)&&decide ((l.getD k fa0).day≤(l.getD (k+1) fa0).day))=false:=by
     cases hq:j_ (l.getD (k+1) fa0) with
     | false=>rfl
     | true =>
      rw [hq] at he;rw [decide_eq_false (by simpa using he)];rfl
    rw [hz,Bool.false_and] at hP;rw [← hP];conv=>whnf
    rfl
   ·have hz:(j_ (l.getD (k+1) fa0)&&decide ((l.getD k fa0).day≤(l.getD (k+1) fa0).day))=true:=by
     simp only [Bool.or_eq_false_iff,Bool.not_eq_false',Bool.true_and,decide_eq_false_iff_not] at he;rw [he.1,decide_eq_true (by omega)];rfl
    rw [hz,Bool.true_and] at hP;conv=>whnf
    refine iO (cW ?_);exact up hlt hP aaE
 ·exact aex
theorem Nk {t:Int} {l:List Int} (ht:0≤t∧t≤gX):-1≤oC t l∧oC t l≤gX∧(oC t l<0↔kR t l=none):=by
 have hM:gX=1000000000000000000:=rfl;unfold oC;cases h:kR t l with
 | none =>
  exact ⟨by decide,by decide,⟨fun _=>rfl,fun _=>by decide⟩⟩
 | some v =>
  obtain ⟨a,b,c⟩:=(vV l t v ht.1 ht.2).1 h;have:=zA a;simp only [Option.getD_some,reduceCtorEq,iff_false];omega
theorem afu (s:Sta):(xU s).isSome=!(decide (oC (max (oC 0 s.cash) 0) s.purses<0)||decide (oC 0 s.cash<0)):=by
 have hM:gX=1000000000000000000:=rfl;obtain ⟨a1,a2,a3⟩:=Nk (t:=0) (l:=s.cash) ⟨by decide,by decide⟩;unfold xU;cases h:kR 0 s.cash with
 | none =>
  rw [decide_eq_true (a3.2 h),Bool.or_true];rfl
 | some t =>
  have hn:¬ oC 0 s.cash<0:=fun hc=>by
   have:=a3.1 hc;rw [h] at this;cases this
  have ht:oC 0 s.cash=t:=by unfold oC;rw [h];rfl
  rw [decide_eq_false hn,Bool.or_false,ht,show max t 0=t by omega];obtain ⟨b1,b2,b3⟩:=Nk (t:=t) (l:=s.purses) ⟨by omega,by omega⟩;show (kR t s.purses).isSome=_;cases h2:kR t s.purses with
  | none=>rw [decide_eq_true (b3.2 h2)];rfl
  | some v =>
   rw [decide_eq_false (fun hc=>by
    have:=b3.1 hc;rw [h2] at this;cases this)]
   rfl
theorem VA (lines seats:Int) (p:Pay):jE lines seats p=!(!inB 0 (lines-1) [p.issue]||!inB 0 (seats-1) [p.seat]||!kJ p.day||!inB 0 1000000000000000000 [p.due]||!inB 0 p.due [p.paid]||!inB (-1) 5000 [p.period]):=by
 unfold jE;rw [show gX=1000000000000000000 from rfl];cases inB 0 (lines-1) [p.issue]<;>cases inB 0 (seats-1) [p.seat]<;>cases kJ p.day<;>cases inB 0 1000000000000000000 [p.due]<;>cases inB 0 p.due [p.paid]<;>cases inB (-1) 5000 [p.period]<;>rfl
def QD (s:Sta):Bool:=!kJ s.day||decide (60<(s.cash.length:Int))||decide (20000<(s.purses.length:Int))||decide (oC (max (oC 0 s.cash) 0) s.purses<0)||decide (oC 0 s.cash<0)||!inB (-1000000000000000000) 1000000000000000000 [s.outside]
def QE (s:Sta):Bool:=decide (400<(s.lines.length:Int))||!qy s.facts||decide (100000<(s.payments.length:Int))||decide (10000<(s.proposals.length:Int))
theorem Zt (s:Sta):fM s=(!QD s&&(!QE s&&(s.lines.all (mJ s.purses.length)&&(s.payments.all (jE s.lines.length s.purses.length)&&s.proposals.all (qK s.lines.length s.purses.length))))):=by
 have le:∀ (a:Nat) (b:Int) (c:Nat),b=c→decide (b<(a:Int))=!decide (a≤c):=fun a b c h=>by
  exact Ql
 unfold fM QD QE;rw [afu,le s.cash.length 60 60 rfl,le s.purses.length 20000 20000 rfl,le s.lines.length 400 400 rfl,le s.payments.length 100000 100000 rfl,le s.proposals.length 10000 10000 rfl,show gX=1000000000000000000 from rfl];generalize decide (oC (max (oC 0 s.cash) 0) s.purses<0)=a;generalize decide (oC 0 s.cash<0)=b;generalize kJ s.day=c;generalize decide (s.cash.length≤60)=d;generalize decide (s.purses.length≤20000)=e;generalize inB (-1000000000000000000) 1000000000000000000 [s.outside]=f;generalize decide (s.lines.length≤400)=g;generalize decide (s.payments.length≤100000)=h;generalize decide (s.proposals.length≤10000)=i;generalize qy s.facts=j;generalize s.lines.all (mJ s.purses.length)=k;generalize s.payments.all (jE s.lines.length s.purses.length)=l;generalize s.proposals.all (qK s.lines.length s.purses.length)=m;clear le;cases a<;>cases b<;>(try rfl)<;>cases c<;>(try rfl)<;>cases d<;>(try rfl)<;>cases e<;>(try rfl)<;>cases f<;>(try rfl)<;>cases g<;>(try rfl)<;>cases h<;>(try rfl)<;>cases i<;>(try rfl)<;>cases j<;>(try rfl)<;>cases k<;>(try rfl)<;>cases l<;>(try rfl)<;>cases m<;>rfl
theorem M_ {p:Prop} (h:p:=by exact (aj [(0,.id 0)] rfl ⟨aQ,ah,ah,ah,ah,trivial⟩ ⟨rE,trivial⟩)):p:=h
theorem MS (s:Sta) (o:OkS s):ak Tryz.prog 14 [mW s] (.bool (fM s)):=by
 have hM:gX=1000000000000000000:=rfl;have ol:0≤(s.lines.length:Int)∧(s.lines.length:Int)≤9223372036854775807:=⟨by omega,by have:=o.lines;omega⟩;have os:0≤(s.purses.length:Int)∧(s.purses.length:Int)≤9223372036854775807:=⟨by omega,by have:=o.purses;omega⟩;have hc:=o.cash;have hp:=o.purses;have hl:=o.lines;have hf:=o.facts;have hy:=o.payments;have hq:=o.proposals;obtain ⟨a1,a2,a3⟩:=Nk (t:=0) (l:=s.cash) ⟨by decide,by decide⟩;have g1:=Ii s.day;have g2:=Dn s.cash 0 hc ⟨by decide,by decide⟩;have g3:=Dn s.purses (max (oC 0 s.cash) 0) hp ⟨by omega,by omega⟩;have g4:=uT s.outside (-1000000000000000000) 1000000000000000000;have g5:=af5 s.facts hf o.fact;rw [Zt];refine aO (au 152 [0,1,2,3,4,5,6,7,8,50,70,73,83,88,135,140,151]) Tryz.func14 ?_;conv=>whnf
 refine .quiet bZ (cW ?_);refine .mk _ _ _ _ (fun _=>g1) vN rfl (cW ?_);refine .mk _ _ _ _ (fun _=>g2) vN rfl (cW ?_);refine .mk _ _ _ _ (fun _=>g3) vN rfl (cW ?_);refine .mk _ _ _ _ (fun _=>g2) vN rfl (cW ?_);refine .mk _ _ _ _ (fun _=>g4) vN rfl (cW ?_);refine ⟨fun hz=>?_,fun hz=>?_⟩
 ·rw [show QD s=true from hz];conv=>whnf
  rfl
 rw [show QD s=false from hz];clear hz;conv=>whnf
 refine cO (fun _=>g5) (cW ?_);refine ⟨fun hz=>?_,fun hz=>?_⟩
 ·rw [show QE s=true from hz];conv=>whnf
  rfl
 rw [show QE s=false from hz];clear hz;conv=>whnf
 refine aX (au _ _) s.lines.length (fun k=>(s.lines.take k).all (mJ s.purses.length)=true) (fun k=>⟨[(1,.ptr 0 0),(2,.bool false),(3,.int .i64 (s.lines.length:Nat)),(4,.int .i64 (s.purses.length:Nat)),(5,.int .i64 (k:Nat))],[(0,.cells 28 (jl s))],1⟩) rfl M_ ?_;intro k hk hP;conv=>whnf
 refine ⟨fun hd=>?_,fun hd=>?_⟩
 ·have hd:=of_decide_eq_true hd;have hlt:k<s.lines.length:=by omega
  have hek:(k:Int).toNat=k:=Int.toNat_natCast k;have hone:=ahH (s.lines.getD k eP) s.purses.length (o.line _ (getD_mem hlt));conv=>whnf
  refine iO (cW ?_);refine And.intro rfl (cW ?_);try (rw [hek];conv=>whnf)
  refine cO (fun _=>hone) (cW ?_);refine ⟨fun he=>?_,fun he=>?_⟩
  ·have hz:(mJ s.purses.length) (s.lines.getD k eP)=false:=by simpa using he
   rw [Bd hlt hz];exact Yc
  ·have hz:(mJ s.purses.length) (s.lines.getD k eP)=true:=by simpa using he
   conv=>whnf
   refine iO (cW ?_);refine up hlt ?_ M_;rw [qJ (d:=eP) hlt,hP,hz];rfl
 have hd:=of_decide_eq_false hd;obtain rfl:k=s.lines.length:=by omega
 rw [List.take_length] at hP;rw [hP];clear hd hP hk;conv=>whnf
 refine aX (au _ _) s.payments.length (fun k=>(s.payments.take k).all (jE s.lines.length s.purses.length)=true) (fun k=>⟨[(1,.ptr 0 0),(2,.bool false),(3,.int .i64 (s.lines.length:Nat)),(4,.int .i64 (s.purses.length:Nat)),(6,.int .i64 (k:Nat))],[(0,.cells 28 (jl s))],1⟩) rfl M_ ?_;intro k hk hP;conv=>whnf
 refine ⟨fun hd=>?_,fun hd=>?_⟩
 ·have hd:=of_decide_eq_true hd;have hlt:k<s.payments.length:=by omega
  have hek:(k:Int).toNat=k:=Int.toNat_natCast k;have k1:=uT (s.payments.getD k pa0).issue 0 ((s.lines.length:Int)-1);have k2:=uT (s.payments.getD k pa0).seat 0 ((s.purses.length:Int)-1);have k3:=Ii (s.payments.getD k pa0).day;have k4:=uT (s.payments.getD k pa0).due 0 1000000000000000000;have k5:=uT (s.payments.getD k pa0).paid 0 (s.payments.getD k pa0).due;have k6:=uT (s.payments.getD k pa0).period (-1) 5000;conv=>whnf
  refine iO (cW ?_);refine And.intro rfl (cW ?_);refine iO (cW ?_);try (rw [hek];conv=>whnf)
  refine cO (fun _=>k1) (cW ?_);refine And.intro (fun _=>⟨by omega,by omega⟩) (cW ?_);refine cO (fun _=>k2) (cW ?_);refine cO (fun _=>k3) (cW ?_);refine cO (fun _=>k4) (cW ?_);refine cO (fun _=>k5) (cW ?_);refine cO (fun _=>k6) (cW ?_);refine ⟨fun he=>?_,fun he=>?_⟩
  ·have hz:(jE s.lines.length s.purses.length) (s.payments.getD k pa0)=false:=by rw [VA,he];rfl
   rw [Bd hlt hz];exact Yc
  ·have hz:(jE s.lines.length s.purses.length) (s.payments.getD k pa0)=true:=by rw [VA,he];rfl
   conv=>whnf
   refine iO (cW ?_);refine up hlt ?_ M_;rw [qJ (d:=pa0) hlt,hP,hz];rfl
 have hd:=of_decide_eq_false hd;obtain rfl:k=s.payments.length:=by omega
 rw [List.take_length] at hP;rw [hP];clear hd hP hk;conv=>whnf
 refine aX (au _ _) s.proposals.length (fun k=>(s.proposals.take k).all (qK s.lines.length s.purses.length)=true) (fun k=>⟨[(1,.ptr 0 0),(2,.bool false),(3,.int .i64 (s.lines.length:Nat)),(4,.int .i64 (s.purses.length:Nat)),(8,.int .i64 (k:Nat))],[(0,.cells 28 (jl s))],1⟩) rfl M_ ?_;intro k hk hP;conv=>whnf
 refine ⟨fun hd=>?_,fun hd=>?_⟩
 ·have hd:=of_decide_eq_true hd;have hlt:k<s.proposals.length:=by omega
  have hek:(k:Int).toNat=k:=Int.toNat_natCast k;have hone:=ajt (s.proposals.getD k fB) s.lines.length s.purses.length ol os (o.proposal _ (getD_mem hlt));conv=>whnf
  refine iO (cW ?_);refine And.intro rfl (cW ?_);try (rw [hek];conv=>whnf)
  refine cO (fun _=>hone) (cW ?_);refine ⟨fun he=>?_,fun he=>?_⟩
  ·have hz:(qK s.lines.length s.purses.length) (s.proposals.getD k fB)=false:=by simpa using he
   rw [Bd hlt hz];exact Yc
  ·have hz:(qK s.lines.length s.purses.length) (s.proposals.getD k fB)=true:=by simpa using he
   conv=>whnf
   refine iO (cW ?_);refine up hlt ?_ M_;rw [qJ (d:=fB) hlt,hP,hz];rfl
 have hd:=of_decide_eq_false hd;obtain rfl:k=s.proposals.length:=by omega
 rw [List.take_length] at hP;rw [hP];clear hd hP hk;conv=>whnf
 rfl
def uQ {T:Type} (f:T→List UInt8) (t:List UInt8) (l:List T) (k:Nat):List UInt8:=t++(l.take k).flatMap f
theorem BD {T:Type} (f:T→List UInt8) (t:List UInt8) (l:List T):uQ f t l 0=t:=by
 unfold uQ;simp
theorem ug {T:Type} (f:T→List UInt8) (t:List UInt8) (l:List T) (d:T) (k:Nat) (h:k<l.length):uQ f t l (k+1)=uQ f t l k++f (l.getD k d):=by
 unfold uQ;rw [wM (d:=d) h,List.flatMap_append,← List.append_assoc];simp
theorem wB {T:Type} (f:T→List UInt8) (t:List UInt8) (l:List T):uQ f t l l.length=t++l.flatMap f:=by
 unfold uQ;rw [List.take_length]
theorem xZ {T:Type} {f:T→List UInt8} {l:List T} {B:Nat} (t:List UInt8) (h:∀ x∈l,(f x).length≤B) (k:Nat):(uQ f t l k).length≤t.length+B*l.length:=by
 unfold uQ;have:=D_ (l.take k) (fun x hx=>h x (List.mem_of_mem_take hx));have h2:B*(l.take k).length≤B*l.length:=Nat.mul_le_mul_left _ XR;rw [List.length_append];omega
theorem kV (l:List Int) (hl:∀ n∈l,N0 n) (hn:l.length≤1000000):ak Tryz.prog 94 [.sl 1 encI 0 l] (.str (bn l)):=by
 have z0:=BD dK [] l;have zs:=ug dK [] l 0;have za:=wB dK [] l;have zl:=xZ (f:=dK) (l:=l) (B:=21) [] (fun n hn=>wW (hl n hn));rw [List.nil_append] at za;rw [List.length_nil] at zl;unfold bn;rw [← za];clear za;generalize uQ dK [] l=Z at *;refine aO (au 19 [0,2,3,4,8]) Tryz.func94 ?_;conv=>whnf
 refine aX (au _ _) l.length (fun _=>True) (fun k=>⟨[(0,.sl 1 encI 0 l),(2,.str []),(3,.str (Z k)),(4,.int .i64 (k:Nat))],[],0⟩) trivial (by exact (aj [] rfl ⟨ah,ah,.base (.tree _ _ (show AV.str _=AV.str _ by rw [z0]) rfl),ah,trivial⟩ trivial)) ?_;intro k hk _;have zk:=zl k;have zk1:=zl (k+1);have zs:=zs k;conv=>whnf
 refine ⟨fun hd=>?_,fun hd=>?_⟩
 ·have hd:=of_decide_eq_true hd;have hlt:k<l.length:=by omega
  have hek:(k:Int).toNat=k:=Int.toNat_natCast k;have g:=JW (l.getD k 0) (hl _ (getD_mem hlt)).2;have zs:=zs hlt;rw [zs,List.length_append] at zk1;conv=>whnf
  refine iO (cW ?_);refine And.intro rfl (cW ?_);try (rw [hek];conv=>whnf)
  refine cO (fun _=>g) (cW ?_);refine And.intro iY (cW ?_);refine iO (cW ?_);exact up hlt trivial (by exact (aj [] rfl ⟨ah,ah,.base (.tree _ _ (show AV.str _=AV.str _ by rw [zs]) rfl),ah,trivial⟩ trivial))
 have hd:=of_decide_eq_false hd;obtain rfl:k=l.length:=by omega
 conv=>whnf
 rfl
theorem Oc (b:Bool):ak Tryz.prog 98 [.bool b] (.str (dK (jy b))):=by
 have g1:=JW 1 ⟨by decide,by decide⟩;have g0:=JW 0 ⟨by decide,by decide⟩;cases b with
 | true =>
  refine aO (au 6 [0,2,3]) Tryz.func98 ?_;conv=>whnf
  refine gT (cW ?_);refine cO (fun _=>g1) (cW ?_);rfl
 | false =>
  refine aO (au 6 [0,2,3]) Tryz.func98 ?_;conv=>whnf
  refine gF (cW ?_);refine cO (fun _=>g0) (cW ?_);rfl
end Go.Proofs.YtgaallgiaachlaaGreatDoor
