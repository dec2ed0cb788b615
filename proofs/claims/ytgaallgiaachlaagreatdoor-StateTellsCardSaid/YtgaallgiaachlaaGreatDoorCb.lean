import Derived.Test.YtgaallgiaachlaaGreatDoorCa
import Derived.Test.YtgaallgiaachlaaGreatDoorLc
import Derived.Shelf.Strings.Builder1
import Derived.KernelRfl
import Derived.Test.YtgaallgiaachlaaGreatDoorProg
import Derived.Lib.ItoaLen
import Derived.Lib.IndexLaws
import Derived.Lib.AtoiAllCases
namespace Go.Proofs.YtgaallgiaachlaaGreatDoor
open Go.Own
set_option maxHeartbeats 40000000
set_option maxRecDepth 100000
def fA (s:List UInt8) (p:Nat):Nat:=p+dQ Dw (s.drop p)
def oh (s:List UInt8):Nat→Nat→List Tok→Except Er (List Tok)
 | 0,_,l=>.ok l
 | f+1,p,l =>
  if fA s p=s.length then .ok (l++[⟨3,[],0,(s.length:Nat)⟩])
  else match nextR (s.drop (fA s p)) with
   | .error e=>.error ((fA s p:Nat),e)
   | .ok t=>oh s f (fA s p+t.text.length) (l++[⟨t.kind,t.text,t.n,(fA s p:Nat)⟩])
def jr (s:List UInt8):Except Er (List Tok):=if 4000<s.length then .error (0,6) else oh s (s.length+1) 0 []
def Nl:Except Er (List Tok)→List AR
 | .ok l=>[.val (Gx l),.val (.int .i64 0),.val (.int .i64 0)]
 | .error e=>[.val .nils,.val (.int .i64 e.1),.val (.int .i64 e.2)]
theorem Zr:∀ p∈signs,1≤p.length:=by decide
theorem zD {p:Int→Bool} {s:List UInt8} (hs:s≠[]) (h:p ((s.getD 0 0).toNat:Int)=true):1≤dQ p s:=by
 cases s with
 | nil=>exact (hs rfl).elim
 | cons c s =>
  have h:p (c.toNat:Int)=true:=h;unfold dQ;rw [List.takeWhile_cons,if_pos h];simp
theorem EH {s:List UInt8} (hs:s≠[]) {t:Tok} (h:nextR s=.ok t):1≤t.text.length∧t.text <+: s:=by
 unfold nextR at h;split at h
 ·rename_i hl;split at h
  ·cases h;have:=zD (p:=fun c=>iI c||dH c) hs (by simp only [hl,Bool.true_or]);have hle:=lK (fun c=>iI c||dH c) s;exact ⟨by show 1≤(jD s).length;unfold jD;rw [List.length_take];omega,List.take_prefix _ _⟩
  ·cases h
 split at h
 ·rename_i hd;split at h
  ·cases h;have:=zD hs hd;have hle:=lK dH s;exact ⟨by show 1≤(ru s).length;unfold ru;rw [List.length_take];omega,List.take_prefix _ _⟩
  ·cases h
 split at h
 ·rename_i p hp;cases h;refine ⟨Zr _ (List.mem_of_find?_eq_some hp),?_⟩;have:=List.find?_some hp;unfold xP at this;simp only [Bool.and_eq_true,decide_eq_true_eq] at this;show p <+: s;rw [← this.2];exact List.take_prefix _ _
 ·cases h
theorem JH {s:List UInt8} {e:Int} (h:nextR s=.error e):e=11∨e=3∨e=10:=by
 unfold nextR at h;split at h
 ·split at h
  ·cases h
  ·cases h;omega
 split at h
 ·split at h
  ·cases h
  ·cases h;omega
 split at h
 ·cases h
 ·cases h;omega
theorem SL {p:Prop}(h:p:=by
 have:=congrArg List.length h;rw [List.length_drop] at this;simp only [List.length_nil] at this;omega):p:=h
theorem ac7 {p:Prop} (h:p:=by show (l.length+1)*40≤140737488355328;omega):p:=h
theorem ah9 {p:Prop}(h:p:=by
 conv=>whnf
 refine And.intro rfl (cW ?_);refine And.intro ⟨rfl,rfl⟩ (And.intro ac7 (cW ?_));refine Exists.intro ⟨3,[],0,(s.length:Nat)⟩ (And.intro rfl (cW ?_));refine ⟨_,dY [2],(cW ?_)⟩;rfl):p:=h
theorem QU {p:Prop}(h:p:=by
 refine ⟨_,Wk.refl _,(cW ?_)⟩;rfl):p:=h
theorem adA {p:Prop}(h:p:=by
 conv=>whnf
 rw [decide_eq_false (show ¬ e=0 by omega)];refine gT (cW ?_);exact QU):p:=h
theorem adY {p:Prop}(h:p:=by
 conv=>whnf
 rw [decide_eq_true (show (4000:Int)<((s.length:Nat):Int) by omega)];refine gT (cW ?_);exact QU):p:=h
theorem Xn {p:Prop} (h:p:=by rw [List.length_drop];omega):p:=h
theorem adp (s:List UInt8) (hs:s.length≤9223372036854775807):bM Tryz.prog 157 [.str s] (fun rs=>rs=Nl (jr s)):=by
 cases h4:decide (4000<s.length) with
 | true =>
  have h4':=of_decide_eq_true h4;have hr:jr s=.error (0,6):=by unfold jr;rw [if_pos h4']
  rw [hr];refine aW (au 49 [0,2,3,4,5,6,7,8,11,21,35]) Tryz.func157 ?_;exact adY
 | false =>
  have h4':=of_decide_eq_false h4;have hr:jr s=oh s (s.length+1) 0 []:=by unfold jr;rw [if_neg h4']
  refine aW (au 49 [0,2,3,4,5,6,7,8,11,21,35]) Tryz.func157 ?_;conv=>whnf
  rw [decide_eq_false (show ¬ (4000:Int)<((s.length:Nat):Int) by omega)];refine gF (cW ?_);refine dO (au _ _) (fun x:Nat×(Nat×List Tok)=>x.2.1≤s.length∧s.length<x.2.1+x.1∧x.2.2.length≤x.2.1∧jr s=oh s x.1 x.2.1 x.2.2) (fun x=>x.1) (fun x=>⟨[(0,.str s),(5,.own 0),(6,.int .i64 ((x.2.1):Nat))],[(0,.row 198 4 yQ t0 (x.2.2))],1⟩) (s.length+1,(0,[])) ⟨by show 0≤_;omega,by show _<0+(_+1);omega,by simp,hr⟩ ((aj [(0,.nil)] rfl ⟨ah,kX,ah,trivial⟩ ⟨⟨_,rfl,jA⟩,trivial⟩)) ?_;rintro ⟨f,p,l⟩ ⟨hp,hpf,hl,hsp⟩;dsimp only at hp hpf hl hsp ⊢;obtain ⟨f,rfl⟩:∃ g,f=g+1:=⟨f-1,by omega⟩;have hbl:=Ei (s.drop p) 194 _ abr Xn;have hbn:=lK Dw (s.drop p);rw [List.length_drop] at hbn;conv=>whnf
  refine iO (cW ?_);refine cO (fun _=>hbl) (cW ?_);refine iO (cW ?_);have hq:(p:Int)+(dQ Dw (s.drop p):Nat)=((fA s p:Nat):Int):=(Int.natCast_add _ _).symm;have hqle:fA s p≤s.length:=by unfold fA;omega
  have hqp:p≤fA s p:=by unfold fA;omega
  rw [hq];cases he:decide (fA s p=s.length) with
  | true =>
   have he':=of_decide_eq_true he;rw [decide_eq_true (show ((fA s p:Nat):Int)=((s.length:Nat):Int) by omega)];have hs':jr s=.ok (l++[⟨3,[],0,(s.length:Nat)⟩]):=by rw [hsp,oh,if_pos he']
   rw [hs',he'];refine gT ?_;exact ah9
  | false =>
   have he':=of_decide_eq_false he;rw [decide_eq_false (show ¬ ((fA s p:Nat):Int)=((s.length:Nat):Int) by omega)];have hne:s.drop (fA s p)≠[]:=fun h=>by
    exact SL
   have hnx:=agP (s.drop (fA s p)) hne Xn;refine gF (cW ?_);refine iO (cW ?_);cases hN:nextR (s.drop (fA s p)) with
   | error e =>
    rw [hN] at hnx;have hs':jr s=.error ((fA s p:Nat),e):=by rw [hsp,oh,if_neg he',hN]
    have hen:=JH hN;rw [hs'];unfold Yr at hnx;refine cO (fun _=>hnx) ?_;exact adA
   | ok t =>
    rw [hN] at hnx;obtain ⟨ht1,htp⟩:=EH hne hN;have htl:=htp.length_le;rw [List.length_drop] at htl;have hs':jr s=oh s f (fA s p+t.text.length) (l++[⟨t.kind,t.text,t.n,(fA s p:Nat)⟩]):=by rw [hsp,oh,if_neg he',hN]
    unfold Yr at hnx;refine cO (fun _=>hnx) (cW ?_);refine gF (cW ?_);refine And.intro rfl (cW ?_);refine And.intro ⟨rfl,rfl⟩ (And.intro ac7 (cW ?_));refine Exists.intro ⟨t.kind,t.text,t.n,(fA s p:Nat)⟩ (And.intro rfl (cW ?_));refine iO (cW ?_);exact ⟨(f,(fA s p+t.text.length,l++[⟨t.kind,t.text,t.n,(fA s p:Nat)⟩])),⟨(by show fA s p+t.text.length≤s.length;omega),(by show s.length<fA s p+t.text.length+f;omega),(by show (l++[_]).length≤fA s p+t.text.length;rw [List.length_append];show l.length+1≤_;omega),hs'⟩,Nat.lt_succ_self f,(aj [(0,.id 3)] rfl ⟨ah,kX,ah,trivial⟩ ⟨⟨_,rfl,jA⟩,trivial⟩)⟩
theorem abP (s:List UInt8):∀ c∈ru s,dH (c.toNat:Int)=true:=by
 intro c hc;have h1:ru s=s.takeWhile fun b=>dH (b.toNat:Int):=by
  unfold ru dQ;exact (List.prefix_iff_eq_take.1 (List.takeWhile_prefix _)).symm
 rw [h1] at hc;exact (List.all_eq_true.1 (List.all_takeWhile (p:=fun b:UInt8=>dH (b.toNat:Int)) (l:=s))) _ hc
theorem SN {s:List UInt8} {t:Tok} (h:nextR s=.ok t):t.kind≠3∧0≤t.n∧t.n≤1000000000000000:=by
 unfold nextR at h;split at h
 ·split at h
  ·cases h;exact ⟨by simp,by simp,by simp⟩
  ·cases h
 split at h
 ·split at h
  ·rename_i n hn;cases h;unfold qj at hn;split at hn
   ·rename_i hc;cases hn;exact ⟨by simp,(J8 _ (abP s)).1,hc.2⟩
   ·cases hn
  ·cases h
 split at h
 ·cases h;exact ⟨by simp,by simp,by simp⟩
 ·cases h
theorem YR {l:List Tok} {t:Tok} (h:∀ x∈l,x.kind≠3) (ht:t.kind=3):Fin1 (l++[t]):=by
 induction l with
 | nil=>exact ht
 | cons x l ih =>
  have h1:=ih fun y hy=>h y (List.mem_cons_of_mem _ hy)
  have h2:=h x List.mem_cons_self;cases l with
  | nil=>exact ⟨h2,h1⟩
  | cons y l=>exact ⟨h2,h1⟩
theorem aej {p:Prop}(h:p:=by
 have:=lK Dw (s.drop p);rw [List.length_drop] at this;unfold fA;omega):p:=h
theorem afH {s:List UInt8}:∀ (f p:Nat) (l T:List Tok),(∀ t∈l,t.kind≠3∧t.text.length≤4000∧0≤t.n∧t.n≤1000000000000000)→s.length≤4000→p≤s.length→s.length<p+f→l.length≤p→oh s f p l=.ok T→Fin1 T∧T.length≤s.length+1∧∀ t∈T,t.text.length≤4000∧0≤t.n∧t.n≤1000000000000000:=by
 intro f;induction f with
 | zero=>intro p l T _ _ hp hf;omega
 | succ f ih =>
  intro p l T hl h4 hp hf hlp h;unfold oh at h;split at h
  ·cases h;refine ⟨YR (fun x hx=>(hl x hx).1) rfl,by rw [List.length_append];simp;omega,fun t ht=>?_⟩;rcases List.mem_append.1 ht with ht | ht
   ·exact (hl t ht).2
   ·have:t=_:=List.mem_singleton.1 ht;subst this;exact ⟨by simp,by simp,by simp⟩
  ·rename_i hne';split at h
   ·cases h
   ·rename_i t hN;have hq:fA s p≤s.length:=by
     exact aej
    have hqp:p≤fA s p:=by unfold fA;omega
    have hne:s.drop (fA s p)≠[]:=fun h=>by
     exact SL
    obtain ⟨t1,t2⟩:=EH hne hN;obtain ⟨k1,k2,k3⟩:=SN hN;have t3:=t2.length_le;rw [List.length_drop] at t3;refine ih _ _ T (fun x hx=>?_) h4 (by omega) (by omega) (by rw [List.length_append];simp;omega) h;rcases List.mem_append.1 hx with hx | hx
    ·exact hl x hx
    ·have:x=_:=List.mem_singleton.1 hx;subst this;exact ⟨k1,by show t.text.length≤4000;omega,k2,k3⟩
theorem Vj {s:List UInt8} {T:List Tok} (h:jr s=.ok T):PSt T T:=by
 unfold jr at h;split at h
 ·cases h
 ·rename_i h4;obtain ⟨a,b,c⟩:=afH _ _ _ T (fun t ht=>by cases ht) (by omega) (by omega) (by omega) (by simp) h;exact ⟨List.suffix_refl _,a,by omega,c⟩
theorem afr (s:List UInt8) (hs:s.length≤9223372036854775807) {T:List Tok} (h:jr s=.ok T):jo Tryz.prog 116 [.str s] [] 0 (fun vs bs es=>vs=[.ptr 0 0,.int .i64 0,.int .i64 0]∧bs=[]∧es=[cu T T]):=by
 have hl:=adp s hs;rw [h] at hl;unfold Nl at hl;refine rO (aJ 0 19 [0,2,3,4,5,6,7]) Tryz.func116 ?_;conv=>whnf
 refine cO (fun _=>hl) (cW ?_);refine ⟨⟨[(2,.ptr 0 0),(3,.int .i64 0),(4,.int .i64 0)],[(0,.cells 183 (dw T T))],1⟩,(aj [(0,.id 0)] rfl ⟨aQ,ah,ah,trivial⟩ ⟨⟨_,rfl,.cells _ _ _ _ rfl (by repeat (first | exact .nil | refine .cons (by first | exact .base (.tree _ _ rfl rfl) | exact .base (.own _ _ rfl) | exact .base (.ptr _ _ _ rfl) | exact .base (.map _ _ rfl) | exact .base (.nilown _ rfl) | exact .fn _ _ _ _ _ .nil vJ | exact .base (.tree _ _ (congrArg (AV.int .i64) (by rw [Nat.sub_self];rfl)) rfl) | exact .base (.leT _ _ (congrArg (AV.int .i64) (by rw [Nat.sub_self];rfl)) rfl)) ?_)) rfl⟩,trivial⟩),rfl,rfl,?_⟩;exact dM
theorem agm (s:List UInt8) (hs:s.length≤9223372036854775807) {e:Er} (h:jr s=.error e):jo Tryz.prog 116 [.str s] [] 0 (fun vs bs es=>vs=[.ptr 0 0,.int .i64 e.1,.int .i64 e.2]∧bs=[]∧es=[.cells 183 [.nils,.int .i64 0]]):=by
 have hl:=adp s hs;rw [h] at hl;unfold Nl at hl;refine rO (aJ 0 19 [0,2,3,4,5,6,7]) Tryz.func116 ?_;conv=>whnf
 refine cO (fun _=>hl) ?_;exact J9
theorem Zo (a b c d:Int):jo Tryz.prog 118 [.ival 185 [.int .i64 a,.int .i64 b],.ptr 0 0,.ptr 1 0] [.cells 3 [.int .i64 c],.cells 31 [.int .i64 d]] 2
  (fun vs bs es=>vs=[.bool true]∧bs=[.cells 3 [.int .i64 a],.cells 31 [.int .i64 b]]∧es=[]):=by
 refine rO (aJ 2 31 [0,1,2,6,7,8,19,21]) Tryz.func118 ?_;conv=>whnf
 refine gF (cW ?_);refine gT (cW ?_);refine .eff ad0 (cW ?_);refine ⟨by kernel_rfl,(cW (cW ?_))⟩;refine ⟨⟨[(6,.bool true)],[(0,.cells 3 [.int .i64 a]),(1,.cells 31 [.int .i64 b])],2⟩,(aj [(0,.id 0),(1,.id 1)] rfl ⟨ah,trivial⟩ ⟨aB,aB,trivial⟩),rfl,rfl,?_⟩;exact dM
theorem Zm (c d:Int):jo Tryz.prog 118 [.ifc true,.ptr 0 0,.ptr 1 0] [.cells 3 [.int .i64 c],.cells 31 [.int .i64 d]] 2
  (fun vs bs es=>vs=[.bool false]∧bs=[.cells 3 [.int .i64 c],.cells 31 [.int .i64 d]]∧es=[]):=by
 refine rO (aJ 2 31 [0,1,2,6,7,8,19,21]) Tryz.func118 ?_;conv=>whnf
 refine gF (cW ?_);refine gF (cW ?_);refine ⟨⟨[(6,.bool false)],[(0,.cells 3 [.int .i64 c]),(1,.cells 31 [.int .i64 d])],2⟩,(aj [(0,.id 0),(1,.id 1)] rfl ⟨ah,trivial⟩ ⟨aB,aB,trivial⟩),rfl,rfl,?_⟩;exact dM
def iK (s:List UInt8):Except Er Ind:=match jr s with
 | .error e=>.error e
 | .ok T=>match bP T with
  | .error e=>.error e
  | .ok (x,_)=>.ok x
def MR:Except Er Ind→List AR
 | .ok x=>[.val (N8 x),.val (.int .i64 0),.val (.int .i64 0)]
 | .error e=>[.val (N8 i0),.val (.int .i64 e.1),.val (.int .i64 e.2)]
theorem N9 {s:List UInt8} {e:Er} (h:jr s=.error e):e.2≠0:=by
 unfold jr at h;split at h
 ·cases h;simp
 ·rename_i h4;have:∀ (f p:Nat) (l:List Tok),oh s f p l=.error e→e.2≠0:=by
   intro f;induction f with
   | zero=>intro p l h;cases h
   | succ f ih =>
    intro p l h;unfold oh at h;split at h
    ·cases h
    ·split at h
     ·rename_i e' he;cases h;have:=JH he;show e'≠0;omega
     ·exact ih _ _ h
  exact this _ _ _ h
theorem ais {p:Prop} (h:p:=by first | exact g_.nils_lsl 5 rfl | exact g_.nils_sl 6 mY l0 | exact g_.nils_sl 7 pJ c0 | exact g_.nils_sl 1 encS [] | exact g_.nils_sl 2 zH k0):p:=h
theorem aa4 {p:Prop} (h:p:=by repeat (first | exact .nil | refine .cons (by first | exact .base (.tree _ _ rfl rfl) | exact .base (.own _ _ rfl) | exact .base (.ptr _ _ _ rfl) | exact .base (.map _ _ rfl) | exact .base (.nilown _ rfl) | exact .fn _ _ _ _ _ .nil vJ | exact .base (.tree _ _ ais rfl) | exact .base (.leT _ _ ais rfl)) ?_)):p:=h
theorem YK (s:List UInt8) (hs:s.length≤9223372036854775807) {e:Er} (h:jr s=.error e):bM Tryz.prog 23 [.str s] (fun rs=>rs=MR (.error e)):=by
 have ho:=agm s hs h;have hne:=N9 h;refine aW (au 20 [0,2,3,4,5,13]) Tryz.func23 ?_;conv=>whnf
 refine cR (ho) [] (cW ?_);rw [decide_eq_false hne];refine gT (cW ?_);refine .eff ad0 (cW ?_);refine ⟨by kernel_rfl,(cW (cW ?_))⟩;refine ⟨⟨[(2,.ptr 0 0),(3,.ptr 1 0),(4,.ptr 2 0)],[(0,.cells 56 (su i0)),(1,.cells 3 [.int .i64 e.1]),(2,.cells 31 [.int .i64 e.2])],3⟩,(aj [(0,.id 0),(1,.id 1),(2,.id 2)] rfl ⟨aQ,aQ,aQ,trivial⟩ ⟨⟨_,rfl,.cells _ _ _ _ rfl aa4 rfl⟩,aB,aB,trivial⟩),(cW ?_)⟩;rfl
abbrev LJ:List AV:=[.str [],.str [],.int .i64 0,.int .i64 0,.int .i64 0,.int .i64 0,.int .i64 0,.int .i64 0,.int .i64 0,.int .i64 0,.nils,.int .i64 0,.int .i64 0,.int .i64 0,.str [],.nils,.int .i64 0,.nils,.nils,.int .i64 0,.nils,.int .i64 0,.int .i64 0,.int .i64 0,.int .i64 0]
noncomputable abbrev cP:Cx:=cxP 3 20 [0,2,3,4,5,13]
theorem aeF {p:Prop}(h:p:=by
 conv=>whnf
 exact (aj [(0,.id 0),(1,.id 1),(2,.id 2),(3,.id 3)] rfl ⟨aQ,aQ,aQ,aQ,trivial⟩ ⟨aB,aB,aB,aB,trivial⟩)):p:=h
theorem adZ {p:Prop}(h:p:=by
 exact afz (C:=cP) (fn:=Tryz.f23) (a':={ tmps:=a'.tmps,defers:=[] }) (aJ _ _ _) (Nat.le_of_ble_eq_true rfl) hb' hq):p:=h
theorem nZ {p:Prop} (h:p:=by exact Nat.le_of_ble_eq_true rfl):p:=h
theorem aaK (s:List UInt8) (hs:s.length≤9223372036854775807) {T:List Tok} (h:jr s=.ok T):bM Tryz.prog 23 [.str s] (fun rs=>rs=MR (iK s)):=by
 have ho:=afr s hs h;have hp:=Vj h;have hfit:∀ {F:Fr},F.pin=(fun _=>none)→F.fits 3:=fun {F} e i v hv=>by rw [e] at hv;cases hv
 refine afh (C:=cP) Tryz.func23 rfl bT rfl nZ ?_;intro S w a hrel;have hstart:=hrel;refine Hy (aJ _ _ _) (C:=cP) (hfit rfl) (st1:=⟨[(0,.str s),(2,.ptr 0 0),(3,.ptr 1 0),(4,.ptr 2 0)],[(0,.cells 56 LJ),(1,.cells 3 [.int .i64 0]),(2,.cells 31 [.int .i64 0])],3⟩) (Rr:=fun _=>False) ?_ (fun _ h=>h) ?_ (fun _ _ _ _ h=>h.elim) a w hrel
 ·conv=>whnf
  exact (aj [(0,.id 0),(1,.id 1),(2,.id 2)] rfl ⟨ah,aQ,aQ,aQ,trivial⟩ ⟨aB,aB,aB,trivial⟩)
 intro a w1 hrel;refine Hy (aJ _ _ _) (C:=cP) (hfit rfl) (st1:=⟨[(2,.ptr 0 0),(3,.ptr 1 0),(4,.ptr 2 0),(5,.ptr 3 0)],[(0,.cells 56 LJ),(1,.cells 3 [.int .i64 0]),(2,.cells 31 [.int .i64 0]),(3,.cells 183 (dw T T))],4⟩) (Rr:=fun _=>False) ?_ (fun _ h=>h) ?_ (fun _ _ _ _ h=>h.elim) a w1 hrel
 ·conv=>whnf
  refine cR (ho) [] ?_;exact aeF
 intro a w1 hrel;refine Hy (aJ _ _ _) (C:=cP) (hfit rfl) (st1:=⟨[(2,.ptr 0 0),(3,.ptr 1 0),(4,.ptr 2 0),(5,.ptr 3 0)],[(0,.cells 56 LJ),(1,.cells 3 [.int .i64 0]),(2,.cells 31 [.int .i64 0]),(3,.cells 183 (dw T T))],4⟩) (Rr:=fun _=>False) ?_ (fun _ h=>h) ?_ (fun _ _ _ _ h=>h.elim) a w1 hrel
 ·conv=>whnf
  refine gF ?_;exact aeF
 intro a w1 hrel;obtain ⟨m,S1,hc,hsz,hds,hr⟩:=hrel;have hsz20:a.tmps.size=20:=hsz;have p2:RelV m S1 w1 (a.tmps.getD 2 undef) (.ptr 0 0):=hr 2;have p3:RelV m S1 w1 (a.tmps.getD 3 undef) (.ptr 1 0):=hr 3;have p4:RelV m S1 w1 (a.tmps.getD 4 undef) (.ptr 2 0):=hr 4;have hR0:Rel (Fr.inner ⟨w,fun _=>False,S,fun _=>none,[]⟩ m 3) 20 (⟨[(2,.ptr 0 0),(3,.ptr 1 0),(4,.ptr 2 0),(5,.ptr 3 0)],[(0,.cells 56 LJ),(1,.cells 3 [.int .i64 0]),(2,.cells 31 [.int .i64 0]),(3,.cells 183 (dw T T))],4⟩) a w1:=⟨m,S1,LW hc 3,hsz,hds,hr⟩;have hlt17:17<a.tmps.size:=by omega
 refine wp_seq (abv (t:=17) (g:=117) rfl rfl rfl rfl rfl rfl hlt17 ?_);have hR1:=OQ (t:=17) (v:=.func (.func 117) #[] (#[Operand.tmp 3,Operand.tmp 4,Operand.tmp 2].map a.eval)) (d:={ target:=.fn (.func 117) (#[Operand.tmp 3,Operand.tmp 4,Operand.tmp 2].map a.eval),args:=#[] }) hR0 rfl;have hcap:#[Operand.tmp 3,Operand.tmp 4,Operand.tmp 2].map a.eval=#[a.tmps.getD 3 undef,a.tmps.getD 4 undef,a.tmps.getD 2 undef]:=by
  rw [List.map_toArray];rfl
 cases hi:bP T with
 | ok v =>
  obtain ⟨x,r⟩:=v;have hs:iK s=.ok x:=by unfold iK;rw [h];simp only [hi]
  rw [hs];have hfit3:=Fr.inner_fits ⟨w,fun _=>False,S,fun _=>none,[]⟩ m 3;refine wp_mono (gY (C:=cP) (aJ _ _ _) (F:=⟨w,fun _=>False,S,(Fr.inner ⟨w,fun _=>False,S,fun _=>none,[]⟩ m 3).pin,[_]⟩) hfit3 _ _ (fun e st'=>match e with
   | .ret=>Wk 3 20 st' (⟨[(2,.ptr 0 0),(3,.ptr 1 0),(4,.ptr 2 0)],[(0,.cells 56 (su x)),(1,.cells 3 [.int .i64 0]),(2,.cells 31 [.int .i64 0])],3⟩)
   | _=>False) ?_ _ _ hR1) ?_
  ·conv=>whnf
   refine cR ((bG (adM hp) hi)) [3] (cW ?_);exact (aj [(0,.id 0),(1,.id 1),(2,.id 2)] rfl ⟨aQ,aQ,aQ,trivial⟩ ⟨aB,aB,aB,trivial⟩)
  rintro e a' w' ⟨st',h1,h2⟩;have h2:=D5 (fun _ h=>h) h2;cases e with
  | ret =>
   obtain ⟨m',S',hc',hsz',hd',hr'⟩:=h2 ⟨w,fun _=>False,S,(Fr.inner ⟨w,fun _=>False,S,fun _=>none,[]⟩ m 3).pin,[_]⟩ a' w' hfit3 h1;have hmm:∀ i,i<3→∀ u,m i=some u→m' i=some u:=fun i hi u hu=>hc'.pins i u (by show (if i<3 then m i else none)=some u;rw [if_pos hi,hu])
   show Leaves Tryz.prog Tryz.f23 a'.tmps _ a'.defers .returning w';rw [hd'];refine leaves_cons (u:=.returning) (fun h=>by cases h) (f:=117) (args:=#[a.tmps.getD 3 undef,a.tmps.getD 4 undef,a.tmps.getD 2 undef]) ?_ ?_
   ·rw [hcap];simp [invoke]
   have hc0:Core (Fr.mk w (fun _=>False) S (fun _=>none) []) m' S' w' (⟨[(2,.ptr 0 0),(3,.ptr 1 0),(4,.ptr 2 0)],[(0,.cells 56 (su x)),(1,.cells 3 [.int .i64 0]),(2,.cells 31 [.int .i64 0])],3⟩:St).heap 3:=⟨hc'.good,hc'.free,hc'.far,hc'.owns,hc'.ro,hc'.ro0,fun i v (h:none=some v)=>nomatch h⟩;refine (GU (C:=cxP 3 6 [0,1,2,4]) (aJ _ _ _) Tryz.func117 rfl rfl rfl (t:=3) rfl rfl rfl bT (F:=Fr.inner (Fr.mk w (fun _=>False) S (fun _=>none) []) m' 3) (Fr.inner_fits _ _ _) rfl (env:=(⟨[(0,.ptr 1 0),(1,.ptr 2 0),(2,.ptr 0 0)],[(0,.cells 56 (su x)),(1,.cells 3 [.int .i64 0]),(2,.cells 31 [.int .i64 0])],3⟩:St).env) (H:=(⟨[(0,.ptr 1 0),(1,.ptr 2 0),(2,.ptr 0 0)],[(0,.cells 56 (su x)),(1,.cells 3 [.int .i64 0]),(2,.cells 31 [.int .i64 0])],3⟩:St).heap) (nx:=3) (rv:=.ifc true) (stE:=⟨[(2,.ptr 0 0)],[(0,.cells 56 (su x)),(1,.cells 3 [.int .i64 0]),(2,.cells 31 [.int .i64 0])],3⟩) (fun _ h=>h) ?_ (LW hc0 3) (Nat.le_of_ble_eq_true rfl) (ad9 (qE p3 (hmm 1 aI)) (qE p4 (hmm 2 aI)) (qE p2 (hmm 0 aI))) (u:=.returning) (u':=.returning) (v:=.nilIface) ?_ ?_).mono ?_
   ·conv=>whnf
    refine cR ((Zm 0 0)) [1,2] (cW ?_);refine gF (cW ?_);exact (aj [(0,.id 0),(1,.id 1),(2,.id 2)] rfl ⟨aQ,trivial⟩ ⟨aB,aB,aB,trivial⟩)
   ·exact .t _ _ (by constructor<;>rfl)
   ·intro c₀ cs hu;simp [recoverD,hu]
   ·rintro e u' w'' ⟨⟨r,rfl⟩,rfl,a'',hE⟩;have hb:=RD (l:=[(2,0),(3,1),(4,2)]) (by decide) hsz' hr' hE;have hb':Rel (Fr.mk w (fun _=>False) S (fun i=>if i<3 then m' i else none) []) 20 (⟨[(2,.ptr 0 0),(3,.ptr 1 0),(4,.ptr 2 0)],[(0,.cells 56 (su x)),(1,.cells 3 [.int .i64 0]),(2,.cells 31 [.int .i64 0])],3⟩) { tmps:=a'.tmps,defers:=[] } w'':=hb;have hq:nV tab Tryz.f23.results.toList (⟨[(2,.ptr 0 0),(3,.ptr 1 0),(4,.ptr 2 0)],[(0,.cells 56 (su x)),(1,.cells 3 [.int .i64 0]),(2,.cells 31 [.int .i64 0])],3⟩) [] [] (fun rs=>rs=MR (.ok x)):=by
     conv=>whnf
     rfl
    exact adZ
  | _=>exact h2.elim
 | error er =>
  have hs:iK s=.error er:=by unfold iK;rw [h];simp only [hi]
  rw [hs];obtain ⟨m0,S0,hc0,_,_,_⟩:=hstart;have hS0:∀ g,S g→g<w.heap.size:=fun g hg=>(hc0.good.ro g (hc0.ro0 g hg)).1
  have hT0:TabAt S w:=fun g Q hg=>by
   obtain ⟨h1,h2⟩:=hc0.good.tab g Q hg;rcases hc0.ro g h1 with h3 | h3 | h3
   ·exact ⟨h3,h2⟩
   ·exact h3.elim
   ·have h3:w.heap.size≤g:=h3;have:=(hc0.good.ro g h1).1;omega
  have ca:=XO hc [0,1,2] [];have hA:Rel (Fr.aside S1 w1 m (iL [0,1,2] (⟨[(2,.ptr 0 0),(3,.ptr 1 0),(4,.ptr 2 0),(5,.ptr 3 0)],[(0,.cells 56 LJ),(1,.cells 3 [.int .i64 0]),(2,.cells 31 [.int .i64 0]),(3,.cells 183 (dw T T))],4⟩:St).heap) []) 20 ⟨[(5,.ptr 3 0)],iL [0,1,2] (⟨[(2,.ptr 0 0),(3,.ptr 1 0),(4,.ptr 2 0),(5,.ptr 3 0)],[(0,.cells 56 LJ),(1,.cells 3 [.int .i64 0]),(2,.cells 31 [.int .i64 0]),(3,.cells 183 (dw T T))],4⟩:St).heap,4⟩ a w1:=⟨m,S1,ca,hsz20,hds,fun s=>(by
   by_cases e5:s=5
   ·subst e5;exact hr 5
   ·have:lk [(5,AV.ptr 3 0)] s=.undef:=by
     unfold lk;rw [show Nat.beq 5 s=false from by
      cases hb:Nat.beq 5 s with
      | false=>rfl
      | true=>exact (e5 (Nat.eq_of_beq_eq_true hb).symm).elim]
     rfl
    show RelV m S1 w1 _ (lk [(5,AV.ptr 3 0)] s);rw [this];exact .t _ _ (.undef _))⟩
  have hB:=OQ (t:=17) (v:=.func (.func 117) #[] (#[Operand.tmp 3,Operand.tmp 4,Operand.tmp 2].map a.eval)) (d:={ target:=.fn (.func 117) (#[Operand.tmp 3,Operand.tmp 4,Operand.tmp 2].map a.eval),args:=#[] }) hA rfl;refine wp_seq (wp_mono (UN (C:=cxX (fun ch=>ch=dP er) 0 20 [0,2,3,4,5,13]) Kz (Q:=fun _=>False) ?_ (L:=[2,3,4]) bT hB) ?_)
  ·conv=>whnf
   exact CallG.stop rfl (aG ((bK (adM hp) hi)) [3] rfl rfl rfl ab0) ((fun ch hc=>hc))
  rintro e a' w' ⟨⟨st',hR,hq⟩,hK⟩;cases e with
  | panic ch =>
   have hq:ch=dP er:=hq;subst hq;obtain ⟨m2,S2,hc2,hsz2,hd2,_⟩:=hR;have hk2:a'.tmps.getD 2 undef=a.tmps.getD 2 undef:=(hK 2 (by decide)).trans (by show (a.tmps.setIfInBounds 17 _).getD 2 undef=_;rw [pV hlt17,if_neg (by decide)]);have hk3:a'.tmps.getD 3 undef=a.tmps.getD 3 undef:=(hK 3 (by decide)).trans (by show (a.tmps.setIfInBounds 17 _).getD 3 undef=_;rw [pV hlt17,if_neg (by decide)]);have hk4:a'.tmps.getD 4 undef=a.tmps.getD 4 undef:=(hK 4 (by decide)).trans (by show (a.tmps.setIfInBounds 17 _).getD 4 undef=_;rw [pV hlt17,if_neg (by decide)]);have hkeep:=aat (F:=Fr.mk w (fun _=>False) S (fun _=>none) []) (fun _ h=>h) hT0 hS0 hc (K:=[0,1,2]) (H3:=(⟨[(0,.ptr 1 0),(1,.ptr 2 0),(2,.ptr 0 0)],[(0,.cells 56 LJ),(1,.cells 3 [.int .i64 0]),(2,.cells 31 [.int .i64 0])],4⟩:St).heap) (fun id=>(by
    match id with
    | 0=>rfl
    | 1=>rfl
    | 2=>rfl
    | n+3 =>
     rw [if_neg (by simp)];rfl)) (fun id hid=>(by
    simp only [List.mem_cons,List.not_mem_nil,or_false] at hid;rcases hid with rfl | rfl | rfl
    ·exact ⟨_,_,rfl,by decide⟩
    ·exact ⟨_,_,rfl,by decide⟩
    ·exact ⟨_,_,rfl,by decide⟩)) hc2.far 3
   show Leaves Tryz.prog Tryz.f23 a'.tmps _ a'.defers (.panicking (dP er)) w';rw [hd2];refine leaves_cons (u:=.panicking (dP er)) (fun h=>by cases h) (f:=117) (args:=#[a.tmps.getD 3 undef,a.tmps.getD 4 undef,a.tmps.getD 2 undef]) ?_ ?_
   ·rw [hcap];simp [invoke]
   refine (GU (C:=cxP 3 6 [0,1,2,4]) (aJ _ _ _) Tryz.func117 rfl rfl rfl (t:=3) rfl rfl rfl bT (F:=Fr.inner (Fr.mk w (fun _=>False) S (fun _=>none) []) m 3) (Fr.inner_fits _ _ _) rfl (env:=(⟨[(0,.ptr 1 0),(1,.ptr 2 0),(2,.ptr 0 0)],[(0,.cells 56 LJ),(1,.cells 3 [.int .i64 0]),(2,.cells 31 [.int .i64 0])],4⟩:St).env) (H:=(⟨[(0,.ptr 1 0),(1,.ptr 2 0),(2,.ptr 0 0)],[(0,.cells 56 LJ),(1,.cells 3 [.int .i64 0]),(2,.cells 31 [.int .i64 0])],4⟩:St).heap) (nx:=4) (rv:=.ival 185 [.int .i64 er.1,.int .i64 er.2]) (stE:=⟨[(2,.ptr 0 0)],[(0,.cells 56 (su i0)),(1,.cells 3 [.int .i64 er.1]),(2,.cells 31 [.int .i64 er.2])],4⟩) (fun _ h=>h) ?_ hkeep (Nat.le_of_ble_eq_true rfl) (ad9 (qE p3 (fun _ h=>h)) (qE p4 (fun _ h=>h)) (qE p2 (fun _ h=>h))) (u:=.panicking (dP er)) (u':=.panicking [{ v:=.iface 185 (.agg #[.int .i64 er.1,.int .i64 er.2]),recovered:=true }]) (v:=.iface 185 (.agg #[.int .i64 er.1,.int .i64 er.2])) ?_ ?_).mono ?_
   ·conv=>whnf
    refine cR ((Zo er.1 er.2 0 0)) [1,2] (cW ?_);refine gT (cW ?_);exact (aj [(0,.id 0),(1,.id 1),(2,.id 2)] rfl ⟨aQ,trivial⟩ ⟨⟨_,rfl,.cells _ _ _ _ rfl aa4 rfl⟩,aB,aB,trivial⟩)
   ·refine .t _ _ (.ival 185 _ _ rfl fun j c a hj ha=>?_);match j with
    | 0=>cases hj;cases ha;exact .int _ _
    | 1=>cases hj;cases ha;exact .int _ _
    | n+2=>simp at ha
   ·intro c₀ cs hu;simp [recoverD,hu,dP]
   ·rintro e u' w'' ⟨⟨r,rfl⟩,rfl,a'',hE⟩;have hb:=RD (m:=m) (S:=S) (w:=w') (a:=a') (l:=[(2,0),(3,1),(4,2)]) (by decide) hsz2 (fun s=>(by
     match s with
     | 0=>exact .t _ _ (.undef _)
     | 1=>exact .t _ _ (.undef _)
     | 2=>rw [hk2];exact qE p2 (fun _ h=>h)
     | 3=>rw [hk3];exact qE p3 (fun _ h=>h)
     | 4=>rw [hk4];exact qE p4 (fun _ h=>h)
     | n+5=>exact .t _ _ (.undef _))) hE
    have hb':Rel (Fr.mk w (fun _=>False) S (fun i=>if i<3 then m i else none) []) 20 (⟨[(2,.ptr 0 0),(3,.ptr 1 0),(4,.ptr 2 0)],[(0,.cells 56 (su i0)),(1,.cells 3 [.int .i64 er.1]),(2,.cells 31 [.int .i64 er.2])],4⟩) { tmps:=a'.tmps,defers:=[] } w'':=hb;have hq:nV tab Tryz.f23.results.toList (⟨[(2,.ptr 0 0),(3,.ptr 1 0),(4,.ptr 2 0)],[(0,.cells 56 (su i0)),(1,.cells 3 [.int .i64 er.1]),(2,.cells 31 [.int .i64 er.2])],4⟩) [] [] (fun rs=>rs=MR (.error er)):=by
     conv=>whnf
     rfl
    exact adZ
  | _=>exact hq.elim
open Go.Proofs Go.Shelf Go.RowKit
theorem Tryz.sizeB:(Tryz.prog.info? 173).map (·.size)=some 2:=by kernel_rfl
theorem Tryz.liesB:liesAt Tryz.prog Tryz.prog.depth 173 (2 / Tryz.prog.cellsOf 173) 0 173 1=true:=by kernel_rfl
theorem Tryz.mixedO:Tryz.prog.follows .mixedOrders=true:=by kernel_rfl
set_option maxHeartbeats 1000000 in
set_option maxRecDepth 100000 in
theorem Tryz.copy_used_calls (b:Nat) (w:World) (h0:w.cell? ⟨b,0,none⟩=some (.pointer (some ⟨b,0,none⟩))) :
  Calls Tryz.prog 188 #[.pointer (some ⟨b,0,none⟩)] w fun e w'=>e=.returned (.tuple #[])∧w'=w:=by
 obtain ⟨j,hj,_⟩:=Option.map_eq_some_iff.1 Tryz.sizeB;have mixed:=Tryz.mixedO
 go_enter Tryz.func188,Tryz.ntmps188
 go_wp2
 rw [Lib.run_neq_ptr_same w _ Tryz.underlying170 hj]
 go_wp2
 go_end0
 exact ⟨rfl,rfl⟩
set_option maxHeartbeats 1000000 in
set_option maxRecDepth 100000 in
theorem Tryz.copy_fresh_calls (b:Nat) (w:World) (h0:w.cell? ⟨b,0,none⟩=some (.pointer none)) (hsh:w.shape? b=some (173,2)) (hfz:w.frozen? ⟨b,0,none⟩=false) :
  Calls Tryz.prog 188 #[.pointer (some ⟨b,0,none⟩)] w fun e w'=>e=.returned (.tuple #[])∧w'=w.setCell ⟨b,0,none⟩ (.pointer (some ⟨b,0,none⟩)):=by
 obtain ⟨j,hj,hjs⟩:=Option.map_eq_some_iff.1 Tryz.sizeB;have mixed:=Tryz.mixedO
 go_enter Tryz.func188,Tryz.ntmps188
 go_wp2
 rw [Lib.run_to_unsafe w ⟨b,0,none⟩ Tryz.underlying170 Tryz.underlying237 hj (by rw [hjs];decide) hsh (Nat.zero_lt_succ 1)];simp only [Result.andThen];rw [Oper.upon_value]
 go_wp2
 rw [run_callFunc_extern Tryz.func228 bZ bZ bZ (e:=Extern.AbiNoEscape.same) bZ];rw [Lib.run_noEscape];simp only [Result.andThen];rw [Oper.upon_value]
 go_wp2
 rw [Lib.run_from_unsafe w ⟨b,0,none⟩ Tryz.underlying237 Tryz.underlying170 hj hsh Tryz.liesB];simp only [Result.andThen];rw [Oper.upon_value]
 go_wp2
 go_end0
 exact ⟨rfl,rfl⟩
set_option maxHeartbeats 4000000
theorem Ny:zN Tryz.prog 188:=⟨_,Tryz.func188,rfl,by decide⟩
theorem qH (b s:List UInt8) (hs:b.length+s.length≤140737488355328) :
  jo Tryz.prog 150 [.ptr 0 0,.str s] [.cells 173 [.ptr 0 0,.own 1],.lst 5 1 (aY b)] 1 (fun vs bs es=>vs=[.int .i64 s.length,.ifc true]∧bs=[.cells 173 [.ptr 0 0,.own 1]]∧es=[.lst 5 1 (aY (b++s))]):=by
 refine rO (aJ 1 19 [0,1,4,5]) Tryz.func150 ?_;conv=>whnf
 refine .raw _ _ rfl (fun h=>by cases h) (PO (e:=173) (x:=.own 1) Tryz.copy_used_calls Ny rfl) ?_;rintro r rfl;refine ⟨Nat.le_refl _,(cW ?_)⟩;refine ⟨⟨rfl,rfl⟩,by rw [qG];exact hs,(cW ?_)⟩;refine ⟨⟨[(4,.int .i64 s.length),(5,.ifc true)],[(0,.cells 173 [.ptr 0 0,.own 1]),(1,.lst 5 1 (aY (b++s)))],2⟩,(aj [(0,.id 0),(1,.id 2)] rfl ⟨ah,ah,trivial⟩ ⟨aB,⟨_,rfl,.lst _ _ _ _ _ rfl ((zL b s).symm)⟩,trivial⟩),rfl,rfl,?_⟩;exact dM
theorem VF (S:Blocks) (w:World) (h:TabAt S w) (g:Nat) (hg:Tabs.held g=some isErr):∃ ev,w.cell? ⟨g,0,none⟩=some ev∧(ev=.nilIface∨∃ te pe,ev=.iface te pe):=by
 obtain ⟨_,cs,e,fz,h1,te,pe,h2⟩:=h g _ hg;refine ⟨.iface te pe,?_,.inr ⟨te,pe,rfl⟩⟩;rw [Lib.cell_of_heap h1];exact h2
theorem ah4 (s:List UInt8) (hs:s.length≤281474976710656):bM Tryz.prog 175 [.str s] (fun rs=>rs=(Mc s).map .val) :=
 afg Tryz.atoiA ⟨_,Tryz.func175,rfl,by decide⟩ (fun S w h=>⟨VF S w h 2 rfl,VF S w h 3 rfl⟩) s hs
theorem agd (s:List UInt8) (c:Int):ak Tryz.prog 174 [.str s,.int .u8 c] (.int .i64 (Lib.indexByte s c.toNat.toUInt8)) :=
 Go.Own.index_ok Tryz.indexA ⟨_,Tryz.func174,rfl,by decide⟩ s c
theorem cut_c (s p:List UInt8):bM Tryz.prog 177 [.str s,.str p] (fun rs=>rs=[.val (.str (Lib.trimPrefix s p)),.val (.bool (Lib.hasPrefix s p))]) :=
 ahg Tryz.cutA ⟨_,Tryz.func177,rfl,by decide⟩ s p
theorem xK {p:Prop}(h:p:=by
 conv=>whnf
 exact ⟨rfl,rfl⟩):p:=h
theorem X8 {p:Prop}(h:p:=by
 conv=>whnf
 refine ⟨rfl,rfl,rfl,?_⟩;exact xK):p:=h
theorem qX (s:List UInt8) (hs:s.length≤140737488355328):jT Tryz.prog 150 [.ptr 0 0,.str s] [(0,.cells 173 [.nilp,.nils])] 1 [0]
  (fun r=>r=⟨.tup [.int .i64 s.length,.ifc true],[0],[(0,.cells 173 [.ptr 0 0,.own 1]),(1,.lst 5 1 (aY s))],2⟩):=by
 refine NJ (C:=cxP 1 19 [0,1,4,5]) (aJ _ _ _) [0] [1] Tryz.func150 rfl bT rfl nZ bT rfl rfl (cW ?_);refine .raw _ _ rfl (fun h=>by cases h) (XD (e:=173) (x:=.nils) Tryz.copy_fresh_calls Ny rfl) ?_;rintro r rfl;refine ⟨Nat.le_refl _,(cW ?_)⟩;refine ⟨hs,?_⟩;exact X8
theorem Vw (b s:List UInt8) (hs:b.length+s.length≤140737488355328):jT Tryz.prog 150 [.ptr 0 0,.str s] [(0,.cells 173 [.ptr 0 0,.own 1]),(1,.lst 5 1 (aY b))] 2 [0,1]
  (fun r=>r=⟨.tup [.int .i64 s.length,.ifc true],[0,1],[(0,.cells 173 [.ptr 0 0,.own 2]),(1,.dead),(2,.lst 5 1 (aY b++aY s))],3⟩):=by
 refine NJ (C:=cxP 2 19 [0,1,4,5]) (aJ _ _ _) [0,1] [2] Tryz.func150 rfl bT rfl nZ bT rfl rfl (cW ?_);refine .raw _ _ rfl (fun h=>by cases h) (PO (e:=173) (x:=.own 1) Tryz.copy_used_calls Ny rfl) ?_;rintro r rfl;refine ⟨Nat.le_refl _,(cW ?_)⟩;refine ⟨⟨rfl,rfl⟩,by rw [qG];exact hs,?_⟩;exact X8
theorem Af (b:List UInt8) (hb:b≠[]):jT Tryz.prog 151 [.ptr 0 0] [(0,.cells 173 [.ptr 0 0,.own 1]),(1,.lst 5 1 (aY b))] 2 [0,1]
  (fun r=>r=⟨.str b,[0,1],[(0,.cells 173 [.ptr 0 0,.own 1]),(1,.dead)],2⟩):=by
 have hb1:0<(aY b).length:=by rw [qG];exact List.length_pos_iff.2 hb
 refine NJ (C:=cxP 2 14 [0,2]) (aJ _ _ _) [0,1] [] Tryz.func151 rfl bT rfl nZ bT rfl rfl (cW ?_);refine .eff ad0 (cW ?_);refine ⟨hb1,(cW ?_)⟩;refine ⟨⟨rfl,rfl⟩,hb1,rfl,b,rfl,(cW ?_)⟩;refine ⟨by kernel_rfl,?_⟩;exact X8
set_option maxHeartbeats 1000000
theorem FW [Tabs] {P:Program} {f:FuncId} {avs:List AV} {H H':Heap} {nx:Nat} {t:List Nat} {Rr:Res→Prop} (h:jT P f avs H nx t Rr) (he:∀ id∈t,aA H id=aA H' id):jT P f avs H' nx t Rr :=
 ⟨h.1,fun m S w H₂ vs hG ht=>h.2 m S w H₂ vs hG fun id hid=>by rw [ht id hid,he id hid]⟩
def b_ (n:Int):List UInt8:=Lib.itoa n++[59]
def dK (n:Int):List UInt8:=if n<0 then [] else b_ n
def textS (s:List UInt8):List UInt8:=Lib.itoa s.length++[58]++s++[44]
def xE (n:Nat):List UInt8:=Lib.itoa n++[91]
def iG {T:Type} (f:T→List UInt8) (l:List T):List UInt8:=xE l.length++l.flatMap f++[93]
def jL {T:Type} (f:T→List UInt8) (l:List T) (k:Nat):List UInt8:=xE l.length++(l.take k).flatMap f
theorem adC {p:Prop}(h:p:=by
 rw [List.take_add_one,List.getElem?_eq_getElem h,List.getD_eq_getElem?_getD,List.getElem?_eq_getElem h];rfl):p:=h
theorem MJ {T:Type} {f:T→List UInt8} {l:List T} {k:Nat} {d:T} (h:k<l.length):jL f l (k+1)=jL f l k++f (l.getD k d):=by
 unfold jL;have:l.take (k+1)=l.take k++[l.getD k d]:=by
  exact adC
 rw [this,List.flatMap_append,List.append_assoc];simp
theorem Qp {p:Prop}(h:p:=by
 simp only [List.length_append];omega):p:=h
theorem CZ {T:Type} {f:T→List UInt8} {l:List T} (k:Nat):(jL f l k).length≤(iG f l).length:=by
 have h:l.flatMap f=(l.take k).flatMap f++(l.drop k).flatMap f:=by rw [← List.flatMap_append,List.take_append_drop]
 unfold jL iG;rw [h];exact Qp
theorem acg {T:Type} (f:T→List UInt8) (l:List T) (k:Nat):jL f l k≠[]:=by
 unfold jL xE;simp
theorem BL (n:Int) (hn:dG n):ak Tryz.prog 82 [.int .i64 n] (.str (b_ n)):=by
 have hi:=D6 n hn.1 hn.2;have hl:=Lib.itoa_length_le n hn.1 hn.2;refine aO (au 6 [0,2]) Tryz.func82 ?_;conv=>whnf
 refine cO (fun _=>hi) (cW ?_);refine And.intro (show (((Lib.itoa n).length+1:Nat):Int)≤9223372036854775807 by omega) (cW ?_);rfl
theorem aek {p:Prop}(h:p:=by
 conv=>whnf
 refine ⟨fun hc=>?_,fun hc=>?_⟩
 ·conv=>whnf
  unfold dK;rw [if_pos (of_decide_eq_true hc)];rfl
 ·conv=>whnf
  refine cO (fun _=>hi) (cW ?_);unfold dK;rw [if_neg (of_decide_eq_false hc)];rfl):p:=h
theorem tX (n:Int) (hn:dG n):ak Tryz.prog 93 [.int .i64 n] (.str (dK n)):=by
 have hi:=BL n hn;refine aO (au 7 [0,2,4]) Tryz.func93 ?_;exact aek
theorem NW (s:List UInt8) (hs:s.length≤9223372036854775000):ak Tryz.prog 80 [.str s] (.str (textS s)):=by
 have hi:=D6 s.length (by omega) (by omega);have hl:=Lib.itoa_length_le s.length (by omega) (by omega);refine aO (au 10 [0,2]) Tryz.func80 ?_;conv=>whnf
 refine cO (fun _=>hi) (cW ?_);refine And.intro (show (((Lib.itoa s.length).length+1:Nat):Int)≤9223372036854775807 by omega) (cW ?_);have e1:(Lib.itoa s.length++[58]).length=(Lib.itoa s.length).length+1:=by rw [List.length_append];rfl
 refine And.intro (show (((Lib.itoa s.length++[58]).length+s.length:Nat):Int)≤9223372036854775807 by omega) (cW ?_);have e2:((Lib.itoa s.length++[58])++s).length=(Lib.itoa s.length).length+1+s.length:=by rw [List.length_append,e1]
 refine And.intro nC (cW ?_);rfl
theorem H_ {p:Prop}(h:p:=by
 rw [hps,List.length_append] at hpl1;omega):p:=h
theorem aeQ {p:Prop}(h:p:=by
 refine iO (cW ?_);refine up hkl trivial ((aj [(0,.id 0),(1,.id 2)] rfl ⟨ah,.fn _ _ _ _ _ fP fP,aQ,ah,ah,ah,trivial⟩ ⟨aB,⟨_,rfl,.lst _ _ _ _ _ rfl (hpe)⟩,trivial⟩))):p:=h
theorem Az {p:Prop}(h:p:=by
 have:=of_decide_eq_true hd;omega):p:=h
theorem Am {p:Prop}(h:p:=by
 have:=of_decide_eq_false hd;omega):p:=h
theorem ah_ {p:Prop} (h:p:=by rw [List.getD_eq_getElem?_getD,List.getElem?_eq_getElem hkl];exact List.getElem_mem hkl):p:=h
theorem aci (l:List Int) (hl:∀ n∈l,dG n) (hn:l.length≤9223372036854775807) (hT:(iG b_ l).length≤140737488355328):ak Tryz.prog 153 [.sl 1 encI 0 l,.fn (.func 82) [] []] (.str (iG b_ l)):=by
 have hi:=D6 l.length (by omega) (by omega);have hil:=Lib.itoa_length_le l.length (by omega) (by omega);refine aO (au 26 [0,1,4,5,7,13,14,15,16]) Tryz.func153 ?_;conv=>whnf
 refine cO (fun _=>hi) (cW ?_);refine And.intro (show (((Lib.itoa l.length).length+1:Nat):Int)≤9223372036854775807 by omega) (cW ?_);refine .raw _ _ rfl (fun h=>by cases h) (qX (xE l.length) (by unfold xE;simp;omega)) ?_;rintro r rfl;refine ⟨Nat.le_of_ble_eq_true rfl,(cW ?_)⟩;have hp0:aY (xE l.length)=aY (jL b_ l 0):=by unfold jL;simp
 refine aX (au _ _) l.length (fun _=>True) (fun k=>⟨[(0,.sl 1 encI 0 l),(1,.fn (.func 82) [] []),(5,.ptr 0 0),(13,.sl 1 encI 0 l),(14,.int .i64 l.length),(15,.int .i64 (k:Nat))],[(0,.cells 173 [.ptr 0 0,.own 1]),(1,.lst 5 1 (aY (jL b_ l k)))],2⟩) trivial ((aj [(0,.id 0),(1,.id 1)] rfl ⟨ah,.fn _ _ _ _ _ fP fP,aQ,ah,ah,ah,trivial⟩ ⟨aB,⟨_,rfl,.lst _ _ _ _ _ rfl (hp0)⟩,trivial⟩)) ?_;intro k hk _;have hps:=fun h:k<l.length=>MJ (f:=b_) (d:=0) h
 have hpl:=CZ (f:=b_) (l:=l) k;have hpl1:=CZ (f:=b_) (l:=l) (k+1);conv=>whnf
 refine ⟨fun hd=>?_,fun hd=>?_⟩
 ·have hkl:k<l.length:=by
   exact Az
  have hps:=hps hkl;have hek:(k:Int).toNat=k:=Int.toNat_natCast k;have hx:=BL (l.getD k 0) (hl _ ah_);conv=>whnf
  refine iO (cW ?_);refine And.intro rfl (cW ?_);rw [hek];refine cO (fun _=>hx) (cW ?_);have hlen:(jL b_ l k).length+(b_ (l.getD k 0)).length≤140737488355328:=by
   exact H_
  refine .raw _ _ rfl (fun h=>by cases h) (FW (Vw (jL b_ l k) (b_ (l.getD k 0)) hlen) (fun id hid=>by
   simp only [List.mem_cons,List.not_mem_nil,or_false] at hid;rcases hid with rfl | rfl<;>rfl)) ?_
  rintro r rfl;refine ⟨Nat.le_of_ble_eq_true rfl,(cW ?_)⟩;have hpe:aY (jL b_ l k)++aY (b_ (l.getD k 0))=aY (jL b_ l (k+1)):=by rw [hps,zL]
  exact aeQ
 ·have hke:k=l.length:=by
   exact Am
  conv=>whnf
  refine .raw _ _ rfl (fun h=>by cases h) (Af (jL b_ l k) (acg b_ l k)) ?_;rintro r rfl;refine ⟨Nat.le_of_ble_eq_true rfl,(cW ?_)⟩;refine And.intro (show (((jL b_ l k).length+1:Nat):Int)≤9223372036854775807 by omega) (cW ?_);have hfe:jL b_ l k++[93]=iG b_ l:=by
   unfold jL iG;rw [hke,List.take_length]
  rw [← hfe];rfl
theorem MV (l:List Int) (hl:∀ n∈l,dG n) (hn:l.length≤9223372036854775807) (hT:(iG b_ l).length≤140737488355328):ak Tryz.prog 81 [.sl 1 encI 0 l] (.str (iG b_ l)):=by
 have hi:=aci l hl hn hT;refine aO (au 5 [0,2]) Tryz.func81 ?_;conv=>whnf
 refine cO (fun _=>hi) (cW ?_);rfl
theorem Nu (s:List UInt8) (b:Bool):jR Tryz.prog 125 [.ptr 0 0] [.cells 155 [.str s,.bool b]] (fun bs rs=>bs=[.cells 155 [.str [],.bool true]]∧rs=[]):=by
 refine kP (C:=cxP 1 8 [0]) (aJ _ _ _) Tryz.func125 rfl bT rfl nZ bT rfl rfl ?_;exact xK
theorem left_ok (s:List UInt8) (b:Bool):jR Tryz.prog 121 [.ptr 0 0] [.cells 155 [.str s,.bool b]] (fun bs rs=>bs=[.cells 155 [.str s,.bool b]]∧rs=[.val (.int .i64 s.length)]):=by
 refine kP (C:=cxP 1 8 [0,2]) (aJ _ _ _) Tryz.func121 rfl bT rfl nZ bT rfl rfl ?_;exact xK
def fD (c:Int) (least:Int) (s:List UInt8):Option (Int×List UInt8) :=
 let at_:=Lib.indexByte (s.take (min s.length 21)) c.toNat.toUInt8
 if at_<0 then none
 else match Lib.atoiAll ((s.take (min s.length 21)).take at_.toNat) with
  | .ok n=>if Lib.itoa n=(s.take (min s.length 21)).take at_.toNat∧least≤n then some (n,s.drop (at_.toNat+1)) else none
  | _=>none
def fC (e s:List UInt8):Option (List UInt8):=if Lib.hasPrefix s e=true then some (Lib.trimPrefix s e) else none
def rd (o:Option (List UInt8)) (b:Bool):AB :=
 match o with
 | some r=>.cells 155 [.str r,.bool b]
 | none=>.cells 155 [.str [],.bool true]
theorem qh {p:Prop} (h:p:=by first | exact .inl rfl | exact .inr (fun b rs h=>by first | obtain ⟨rfl,rfl⟩:=h | obtain ⟨_,_,_,rfl,rfl⟩:=h;exact ⟨by repeat (first | exact Ou | refine MK zp7 ?_),by repeat (first | exact flats0 | refine flats1 (by first | exact flatB_row (fun _=>rfl) | exact flatB_lst (fun _=>rfl) | exact flatB_smap (fun _=>rfl) | exact flatB_imap (fun _=>rfl) | exact flatB_cells rfl) ?_)⟩)):p:=h
theorem qg {p:Prop} (h:p:=by repeat (first | exact .nil | (apply BorL.cons;first | exact .map _ _ rfl | exact .ptr _ _ _ rfl | exact .own _ _ rfl | exact .fnp _ _ _ _ rfl | (apply BorIO.lend;first | exact lS rfl | exact lR rfl | exact lM rfl rfl | exact lL rfl | exact lX rfl | exact lN | exact Zn | exact ZO rfl | exact ZY rfl | exact lGm rfl | exact lP rfl | exact lQ rfl | exact lB rfl rfl rfl)))):p:=h
theorem SA (e s:List UInt8) (b:Bool):jR Tryz.prog 126 [.ptr 0 0,.str e] [.cells 155 [.str s,.bool b]] (fun bs rs=>bs=[rd (fC e s) b]∧rs=[]):=by
 have hc:=cut_c s e;refine kP (C:=cxP 1 23 [0,1,4,5,20]) (aJ _ _ _) Tryz.func126 rfl bT rfl nZ bT rfl rfl (cW ?_);refine cO (fun _=>hc) (cW ?_);refine ⟨fun hd=>?_,fun hd=>?_⟩
 ·have hR:fC e s=none:=by unfold fC;rw [if_neg (by simpa using hd)]
  rw [hR];conv=>whnf
  refine .raw _ _ rfl (fun h=>by cases h) (dJ (Nu (Lib.trimPrefix s e) b) [0] _ rfl rfl ⟨rfl,trivial⟩ qg rfl qh) ?_;rintro r ⟨b',rs,⟨rfl,rfl⟩,rfl⟩;refine ⟨aS _ _,?_⟩;exact xK
 ·have hR:fC e s=some (Lib.trimPrefix s e):=by unfold fC;rw [if_pos (by simpa using hd)]
  rw [hR];exact xK
theorem zt3 {p:Prop}(h:p:=by
 conv=>whnf
 refine .raw _ _ rfl (fun h=>by cases h) (dJ (Nu s b) [0] _ rfl rfl ⟨rfl,trivial⟩ qg rfl qh) ?_;rintro r ⟨b',rs,⟨rfl,rfl⟩,rfl⟩;refine ⟨aS _ _,(cW ?_)⟩;exact ⟨rfl,rfl⟩):p:=h
theorem ah7 {p:Prop}(h:p:=by
 refine cO (fun _=>hat) (cW ?_);refine .quiet bZ (cW ?_);refine .mk _ _ _ _ (fun _=>hit) vN rfl (cW ?_);refine And.intro (fun _=>⟨by omega,by omega⟩) (cW ?_);refine ⟨fun hx=>?_,fun hx=>?_⟩
 ·exact zt3
 ·simp at hx):p:=h
theorem OZ (c least:Int) (s:List UInt8) (b:Bool) (hs:s.length≤9223372036854775000):jR Tryz.prog 120 [.ptr 0 0,.int .u8 c,.int .i64 least] [.cells 155 [.str s,.bool b]] (fun bs rs=>bs=[rd ((fD c least s).map (·.2)) b]∧rs=[.val (.int .i64 (((fD c least s).map (·.1)).getD 0))]):=by
 have hm:(min (s.length:Int) 21).toNat=min s.length 21:=by omega
 have hi:=agd (s.take (min (s.length:Int) 21).toNat) c
 have hR:fD c least s=if Lib.indexByte (s.take (min s.length 21)) c.toNat.toUInt8<0 then none
   else match Lib.atoiAll ((s.take (min s.length 21)).take (Lib.indexByte (s.take (min s.length 21)) c.toNat.toUInt8).toNat) with
    | .ok n=>if Lib.itoa n=(s.take (min s.length 21)).take (Lib.indexByte (s.take (min s.length 21)) c.toNat.toUInt8).toNat∧least≤n then some (n,s.drop ((Lib.indexByte (s.take (min s.length 21)) c.toNat.toUInt8).toNat+1)) else none
    | _=>none:=rfl
 rw [hm] at hi;have hml:(s.take (min s.length 21)).length=min s.length 21:=by rw [List.length_take];omega
 generalize hh:s.take (min s.length 21)=h at *;generalize ha:Lib.indexByte h c.toNat.toUInt8=p at *;have hcut:s.take (min (s.length:Int) 21).toNat=h:=by rw [hm,hh]
 refine kP (C:=cxP 1 64 [0,1,2,6,7,8,9,10,26,50]) (aJ _ _ _) Tryz.func120 rfl bT rfl nZ bT rfl rfl (cW ?_);refine .quiet bZ (cW ?_);refine iO (cW ?_);simp only [Option.map_none,Option.map_some,cut];rw [hcut];refine cO (fun _=>hi) (cW ?_);refine ⟨fun hd=>?_,fun hd=>?_⟩
 ·rw [if_pos (of_decide_eq_true hd)] at hR;rw [hR];exact zt3
 ·have hp0:¬ p<0:=of_decide_eq_false hd;rw [if_neg hp0] at hR;obtain ⟨o,rfl⟩:∃ o:Nat,p=(o:Int):=⟨p.toNat,by omega⟩;have hol:o<h.length:=(List.getElem?_eq_some_iff.1 (Lib.indexByte_some ha).1).1;rw [Int.toNat_natCast] at hR;have hat:=ah4 (h.take o) XR;have het:(o:Int).toNat=o:=Int.toNat_natCast o;generalize ht:h.take o=t at *;have hcut2:h.take (o:Int).toNat=t:=by rw [het,ht]
  conv=>whnf
  refine And.intro ⟨by omega,by omega,by omega⟩ (cW ?_);simp only [Option.map_none,Option.map_some,cut];rw [hcut2];unfold Mc at hat;rcases hr:Lib.atoiAll t with n | _ | _
  ·rw [hr] at hat hR;obtain ⟨n0,n1⟩:=Lib.atoiAll_bounds hr;have hit:=D6 n n0 n1;refine cO (fun _=>hat) (cW ?_);refine .quiet bZ (cW ?_);refine .mk _ _ _ _ (fun _=>hit) vN rfl (cW ?_);refine And.intro (fun _=>⟨by omega,by omega⟩) (cW ?_);simp only [Option.map_none,Option.map_some,cut]
   replace hR:fD c least s=if Lib.itoa n=t∧least≤n then some (n,s.drop (o+1)) else none:=hR
   by_cases hok:Lib.itoa n=t∧least≤n
   ·rw [if_pos hok] at hR;rw [hR];refine ⟨fun hx=>?_,fun hx=>?_⟩
    ·simp [hok.1,ht] at hx;omega
    ·conv=>whnf
     refine And.intro aI (cW ?_);refine And.intro ⟨by omega,by omega,by omega⟩ (cW ?_);have he1:((o:Int)+1).toNat=o+1:=by omega
     refine ⟨?_,rfl⟩;show [AB.cells 155 [.str (s.drop ((o:Int)+1).toNat),.bool b]]=_;rw [he1];rfl
   ·rw [if_neg hok] at hR;rw [hR];refine ⟨fun hx=>?_,fun hx=>?_⟩
    ·exact zt3
    ·simp [ht] at hx;exact (hok ⟨hx.1,by omega⟩).elim
  ·rw [hr] at hat hR;rw [hR];have hit:=D6 0 (by omega) (by omega);exact ah7
  ·rw [hr] at hat hR;rw [hR];have hit:=D6 (Lib.atoiSat t) (Lib.atoiSat_bounds t).1 (Lib.atoiSat_bounds t).2;exact ah7
abbrev OD (s:List UInt8) (b:Bool):AB:=.cells 155 [.str s,.bool b]
theorem Dy {c least:Int} {s r:List UInt8} {n:Int} {b:Bool} (hs:s.length≤9223372036854775000) (h:fD c least s=some (n,r)):jR Tryz.prog 120 [.ptr 0 0,.int .u8 c,.int .i64 least] [OD s b] (fun bs rs=>bs=[OD r b]∧rs=[.val (.int .i64 n)]):=by
 have:=OZ c least s b hs;rw [h] at this;exact this
theorem Dt {c least:Int} {s:List UInt8} {b:Bool} (hs:s.length≤9223372036854775000) (h:fD c least s=none):jR Tryz.prog 120 [.ptr 0 0,.int .u8 c,.int .i64 least] [OD s b] (fun bs rs=>bs=[OD [] true]∧rs=[.val (.int .i64 0)]):=by
 have:=OZ c least s b hs;rw [h] at this;exact this
theorem close_some {e s r:List UInt8} {b:Bool} (h:fC e s=some r):jR Tryz.prog 126 [.ptr 0 0,.str e] [OD s b] (fun bs rs=>bs=[OD r b]∧rs=[]):=by
 have:=SA e s b;rw [h] at this;exact this
theorem L8 {e s:List UInt8} {b:Bool} (h:fC e s=none):jR Tryz.prog 126 [.ptr 0 0,.str e] [OD s b] (fun bs rs=>bs=[OD [] true]∧rs=[]):=by
 have:=SA e s b;rw [h] at this;exact this
structure RS where
 rest:List UInt8
 bad:Bool
def bW (c least:Int) (q:RS):Int×RS :=
 match fD c least q.rest with
 | some (n,r)=>(n,⟨r,q.bad⟩)
 | none=>(0,⟨[],true⟩)
abbrev ro (q:RS):AB:=.cells 155 [.str q.rest,.bool q.bad]
theorem zt4 {p:Prop}(h:p:=by
 conv=>whnf
 refine .raw _ _ rfl (fun h=>by cases h) (dJ (hn) [0] _ rfl rfl ⟨rfl,trivial⟩ qg rfl qh) ?_;rintro r ⟨b',rs,⟨rfl,rfl⟩,rfl⟩;refine ⟨aS _ _,(cW ?_)⟩;exact ⟨rfl,rfl⟩):p:=h
theorem aeL {p:Prop}(h:p:=by
 refine kP (C:=cxP 1 5 [0,2]) (aJ _ _ _) Tryz.func27 rfl bT rfl nZ bT rfl rfl ?_;exact zt4):p:=h
theorem afL (q:RS) (hs:q.rest.length≤9223372036854775000):jR Tryz.prog 27 [.ptr 0 0] [ro q] (fun bs rs=>bs=[ro (bW 59 0 q).2]∧rs=[.val (.int .i64 (bW 59 0 q).1)]):=by
 unfold bW;cases h:fD 59 0 q.rest with
 | some x =>
  have hn:=Dy (b:=q.bad) (r:=x.2) (n:=x.1) hs h;exact aeL
 | none =>
  have hn:=Dt (b:=q.bad) hs h;exact aeL
theorem adz {p:Prop}(h:p:=by
 refine kP (C:=cxP 1 5 [0,2]) (aJ _ _ _) Tryz.func29 rfl bT rfl nZ bT rfl rfl ?_;exact zt4):p:=h
theorem Vq (q:RS) (hs:q.rest.length≤9223372036854775000):jR Tryz.prog 29 [.ptr 0 0] [ro q] (fun bs rs=>bs=[ro (bW 59 (-9223372036854775808) q).2]∧rs=[.val (.int .i64 (bW 59 (-9223372036854775808) q).1)]):=by
 unfold bW;cases h:fD 59 (-9223372036854775808) q.rest with
 | some x =>
  have hn:=Dy (b:=q.bad) (r:=x.2) (n:=x.1) hs h;exact adz
 | none =>
  have hn:=Dt (b:=q.bad) hs h;exact adz
theorem YT {c least:Int} {s r:List UInt8} {n:Int} (h:fD c least s=some (n,r)):least≤n∧r.length≤s.length:=by
 unfold fD at h;simp only at h;split at h
 ·cases h
 ·split at h
  ·split at h
   ·rename_i hk;cases h;exact ⟨hk.2,by rw [List.length_drop];omega⟩
   ·cases h
  ·cases h
def bC (q:RS):List UInt8×RS :=
 let x:=bW 58 0 q
 if (x.2.rest.length:Int)<x.1 then ([],⟨[],true⟩)
 else match fC [44] (x.2.rest.drop x.1.toNat) with
  | some r=>(if x.2.bad=true then [] else x.2.rest.take x.1.toNat,⟨r,x.2.bad⟩)
  | none=>([],⟨[],true⟩)
theorem afb (c least:Int) (q:RS) (hs:q.rest.length≤9223372036854775000):jR Tryz.prog 120 [.ptr 0 0,.int .u8 c,.int .i64 least] [ro q] (fun bs rs=>bs=[ro (bW c least q).2]∧rs=[.val (.int .i64 (bW c least q).1)]):=by
 unfold bW;cases h:fD c least q.rest with
 | some x=>exact Dy (b:=q.bad) (r:=x.2) (n:=x.1) hs h
 | none=>exact Dt (b:=q.bad) hs h
theorem jS (c least:Int) (q:RS) (hl:least≤0):least≤(bW c least q).1∧(bW c least q).2.rest.length≤q.rest.length:=by
 unfold bW;cases h:fD c least q.rest with
 | some x=>exact YT (r:=x.2) (n:=x.1) h
 | none=>exact ⟨hl,Nat.zero_le _⟩
theorem ag4 {p:Prop}(h:p:=by
 rintro w ⟨b',rs,⟨rfl,rfl⟩,rfl⟩;refine ⟨aS _ _,(cW ?_)⟩;refine ⟨fun hb=>?_,fun hb=>?_⟩
 ·conv=>whnf
  refine ⟨rfl,?_⟩;rw [if_pos hb];rfl
 ·conv=>whnf
  refine ⟨rfl,?_⟩;rw [if_neg (by rw [hb];simp)];rfl):p:=h
theorem ae7 {p:Prop}(h:p:=by
 rintro w ⟨b',rs,⟨rfl,rfl⟩,rfl⟩;refine ⟨aS _ _,(cW ?_)⟩;refine ⟨fun hb=>?_,fun hb=>?_⟩
 ·exact xK
 ·cases hb):p:=h
theorem acT (q:RS) (hs:q.rest.length≤9223372036854775000):jR Tryz.prog 35 [.ptr 0 0] [ro q] (fun bs rs=>bs=[ro (bC q).2]∧rs=[.val (.str (bC q).1)]):=by
 have hn:=afb 58 0 q hs;obtain ⟨h0,h1⟩:=jS 58 0 q (Int.le_refl _);unfold bC;simp only;generalize bW 58 0 q=x at *;obtain ⟨n,r,b⟩:=x
 replace hn:jR Tryz.prog 120 [.ptr 0 0,.int .u8 58,.int .i64 0] [ro q] (fun bs rs=>bs=[.cells 155 [.str r,.bool b]]∧rs=[.val (.int .i64 n)]):=hn
 simp only at h0 h1 ⊢;have hen:(n.toNat:Int)=n:=Int.toNat_of_nonneg h0;by_cases hc:(r.length:Int)<n
 ·rw [if_pos hc];refine kP (C:=cxP 1 38 [0,2,3,4,13,36]) (aJ _ _ _) Tryz.func35 rfl bT rfl nZ bT rfl rfl (cW ?_);refine .raw _ _ rfl (fun h=>by cases h) (dJ (hn) [0] _ rfl rfl ⟨rfl,trivial⟩ qg rfl qh) ?_;rintro w ⟨b',rs,⟨rfl,rfl⟩,rfl⟩;refine ⟨aS _ _,(cW ?_)⟩;refine ⟨fun hx=>?_,fun hx=>?_⟩
  ·conv=>whnf
   refine .raw _ _ rfl (fun h=>by cases h) (dJ (Nu r b) [0] _ rfl rfl ⟨rfl,trivial⟩ qg rfl qh) ?_;rintro w ⟨b',rs,⟨rfl,rfl⟩,rfl⟩;refine ⟨aS _ _,?_⟩;exact xK
  ·have:=of_decide_eq_false hx;exact (this hc).elim
 ·rw [if_neg hc];cases hcl:fC [44] (r.drop n.toNat) with
  | some r' =>
   have hk:=close_some (b:=b) hcl;refine kP (C:=cxP 1 38 [0,2,3,4,13,36]) (aJ _ _ _) Tryz.func35 rfl bT rfl nZ bT rfl rfl (cW ?_);refine .raw _ _ rfl (fun h=>by cases h) (dJ (hn) [0] _ rfl rfl ⟨rfl,trivial⟩ qg rfl qh) ?_;rintro w ⟨b',rs,⟨rfl,rfl⟩,rfl⟩;refine ⟨aS _ _,(cW ?_)⟩;refine ⟨fun hx=>?_,fun hx=>?_⟩
   ·exact (hc (of_decide_eq_true hx)).elim
   ·conv=>whnf
    refine And.intro ⟨by omega,by omega,by omega⟩ (cW ?_);refine And.intro ⟨by omega,by omega,by omega⟩ (cW ?_);refine .raw _ _ rfl (fun h=>by cases h) (dJ (hk) [0] _ rfl rfl ⟨rfl,trivial⟩ qg rfl qh) ?_;exact ag4
  | none =>
   have hk:=L8 (b:=b) hcl;refine kP (C:=cxP 1 38 [0,2,3,4,13,36]) (aJ _ _ _) Tryz.func35 rfl bT rfl nZ bT rfl rfl (cW ?_);refine .raw _ _ rfl (fun h=>by cases h) (dJ (hn) [0] _ rfl rfl ⟨rfl,trivial⟩ qg rfl qh) ?_;rintro w ⟨b',rs,⟨rfl,rfl⟩,rfl⟩;refine ⟨aS _ _,(cW ?_)⟩;refine ⟨fun hx=>?_,fun hx=>?_⟩
   ·exact (hc (of_decide_eq_true hx)).elim
   ·conv=>whnf
    refine And.intro ⟨by omega,by omega,by omega⟩ (cW ?_);refine And.intro ⟨by omega,by omega,by omega⟩ (cW ?_);refine .raw _ _ rfl (fun h=>by cases h) (dJ (hk) [0] _ rfl rfl ⟨rfl,trivial⟩ qg rfl qh) ?_;exact ae7
theorem wC (q:RS):jR Tryz.prog 121 [.ptr 0 0] [ro q] (fun bs rs=>bs=[ro q]∧rs=[.val (.int .i64 q.rest.length)]):=left_ok q.rest q.bad
theorem abM (q:RS):jR Tryz.prog 41 [.ptr 0 0] [ro q] (fun bs rs=>bs=[ro q]∧rs=[.val (.bool (!q.bad&&decide (q.rest=[])))]):=by
 refine kP (C:=cxP 1 15 [0,2]) (aJ _ _ _) Tryz.func41 rfl bT rfl nZ bT rfl rfl ?_;exact xK
def gJ {T:Type} (one:RS→T×RS) (q:RS):Nat→RS×List T
 | 0=>(q,[])
 | k+1=>if (gJ one q k).1.bad=true then gJ one q k else ((one (gJ one q k).1).2,(gJ one q k).2++[(one (gJ one q k).1).1])
theorem EJ {T:Type} {one:RS→T×RS} {q:RS} {k:Nat} (h:(gJ one q k).1.bad=true):∀ s,gJ one q (k+s)=gJ one q k
 | 0=>rfl
 | s+1=>by
  have ih:=EJ h s;show (if (gJ one q (k+s)).1.bad=true then gJ one q (k+s) else _)=_;rw [ih,if_pos h]
theorem Vk {T:Type} {one:RS→T×RS} (hone:∀ q,q.bad=false→(one q).2.bad=false→(one q).2.rest.length<q.rest.length) (hbad:∀ q,(one q).2.bad=true→q.bad=true∨(one q).2.rest.length≤q.rest.length) {q:RS} (hq:q.bad=false) :
  ∀ k,(gJ one q k).2.length≤q.rest.length+1∧((gJ one q k).1.bad=false→(gJ one q k).2.length+(gJ one q k).1.rest.length≤q.rest.length)
 | 0=>by simp [gJ]
 | k+1=>by
  obtain ⟨h1,h2⟩:=Vk hone hbad hq k;unfold gJ;split
  ·exact ⟨h1,h2⟩
  ·rename_i hb;have hb':(gJ one q k).1.bad=false:=by simpa using hb
   have h2:=h2 hb';refine ⟨by simp;omega,fun hn=>?_⟩;have:=hone _ hb' hn;simp only [List.length_append,List.length_singleton];omega
abbrev aC:RS→Int×RS:=bW 59 (-9223372036854775808)
def og {T:Type} (one:RS→T×RS) (q:RS):Option (List T)×RS :=
 let x:=bW 91 0 q
 let y:=gJ one x.2 x.1.toNat
 match fC [93] y.1.rest with
 | some r=>(if y.1.bad=true then none else some y.2,⟨r,y.1.bad⟩)
 | none=>(none,⟨[],true⟩)
def acw {T:Type} (enc:T→AV) (d:T) (e E:Nat):Option (List T)→AR
 | some l=>.new (.row e E enc d l)
 | none=>.val .nils
theorem Ey {T:Type} {one:RS→T×RS} (hle:∀ q,(one q).2.rest.length≤q.rest.length) (q:RS):∀ k,(gJ one q k).1.rest.length≤q.rest.length
 | 0=>Nat.le_refl _
 | k+1=>by
  have ih:=Ey hle q k;unfold gJ;split
  ·exact ih
  ·exact Nat.le_trans (hle _) ih
theorem uy (c least:Int) (q:RS):(bW c least q).1≤9223372036854775807:=by
 unfold bW;cases h:fD c least q.rest with
 | none=>show (0:Int)≤_;omega
 | some x =>
  show x.1≤_;unfold fD at h;simp only at h;split at h
  ·cases h
  ·split at h
   ·rename_i v hv;split at h
    ·cases h;exact (Lib.atoiAll_bounds hv).2
    ·cases h
   ·cases h
theorem DR (q:RS):(aC q).2.rest.length≤q.rest.length:=(jS 59 (-9223372036854775808) q (by omega)).2
theorem Oy {p:Prop} (h:p:=by repeat (first | exact .nil | refine .cons (by first | exact .base (.tree _ _ rfl rfl) | exact .base (.own _ _ rfl) | exact .base (.ptr _ _ _ rfl) | exact .base (.map _ _ rfl) | exact .base (.nilown _ rfl) | exact .fn _ _ _ _ _ .nil vJ | exact .base (.tree _ _ (by first | rw [e2] | rw [e3]) rfl) | exact .base (.leT _ _ (by first | rw [e2] | rw [e3]) rfl)) ?_)):p:=h
theorem OL {p:Prop} (h:p:=by first | exact .row _ _ _ _ _ _ _ rfl (e1) | exact .lstrow _ _ _ _ _ _ _ rfl (e1) | exact .nilrow _ _ _ _ _ (e1) | exact .truncrow _ _ _ _ _ _ _ _ rfl (by omega) (e1)):p:=h
theorem ZW (q:RS) (hs:q.rest.length≤1000000000000) (hacc:∀ k,(gJ aC (bW 91 0 q).2 k).2.length≤1000000000001):jR Tryz.prog 176 [.ptr 0 0,.fn (.func 29) [.ptr 0 0] []] [ro q] (fun bs rs=>bs=[ro (og aC q).2]∧rs=[acw encI 0 3 1 (og aC q).1]):=by
 have hn:=afb 91 0 q (by omega);obtain ⟨h0,h1⟩:=jS 91 0 q (Int.le_refl _);have h2:=uy 91 0 q;unfold og;simp only;generalize bW 91 0 q=x at *;obtain ⟨n,q1⟩:=x
 replace hn:jR Tryz.prog 120 [.ptr 0 0,.int .u8 91,.int .i64 0] [ro q] (fun bs rs=>bs=[ro q1]∧rs=[.val (.int .i64 n)]):=hn
 simp only at h0 h1 h2 hacc ⊢;have hsr:=Ey DR q1;have hss:∀ k,gJ aC q1 (k+1)=if (gJ aC q1 k).1.bad=true then gJ aC q1 k else ((aC (gJ aC q1 k).1).2,(gJ aC q1 k).2++[(aC (gJ aC q1 k).1).1]):=fun _=>rfl
 have hst:∀ k,(gJ aC q1 k).1.bad=true→∀ s,gJ aC q1 (k+s)=gJ aC q1 k:=fun k h=>EJ h
 have hs0:gJ aC q1 0=(q1,[]):=rfl;generalize gJ aC q1=Z at *;refine kP (C:=cxP 1 32 [0,1,4,5,6,17,30]) (aJ _ _ _) Tryz.func176 rfl bT rfl nZ bT rfl rfl (cW ?_);refine .raw _ _ rfl (fun h=>by cases h) (dJ (hn) [0] _ rfl rfl ⟨rfl,trivial⟩ qg rfl qh) ?_;rintro w ⟨b',rs,⟨rfl,rfl⟩,rfl⟩;refine ⟨aS _ _,(cW ?_)⟩;refine aX (aJ _ _ _) n.toNat (fun _=>True) (fun k=>⟨[(0,.ptr 0 0),(1,.fn (.func 29) [.ptr 0 0] []),(5,.own 1),(6,.int .i64 (n-(k:Nat)))],[(0,.cells 155 [.str (Z k).1.rest,.bool (Z k).1.bad]),(1,.row 3 1 encI 0 (Z k).2)],2⟩) trivial (by
  rw [hs0];exact (aj [(0,.id 0),(1,.nil)] rfl ⟨aQ,.fn _ _ _ _ _ fP fP,kX,.base (.tree _ _ (show AV.int .i64 _=AV.int .i64 _ by simp) rfl),trivial⟩ ⟨aB,⟨_,rfl,jA⟩,trivial⟩)) ?_
 intro k hk _;have hsk:=hss k;have hrk:=hsr k;have hak:=hacc k;have hstk:=hst k;generalize hzk:Z k=z at *;obtain ⟨⟨r,b⟩,acc⟩:=z;simp only at hsk hrk hak hstk;conv=>whnf
 refine ⟨fun hc=>?_,fun hc=>?_⟩
 ·replace hc:(decide (0<n-(k:Int))&&!b)=true:=hc
  rw [Bool.and_eq_true,decide_eq_true_eq,Bool.not_eq_true'] at hc;obtain ⟨hc1,rfl⟩:=hc;rw [if_neg (by simp)] at hsk;have hone:=Vq ⟨r,false⟩ (show r.length≤9223372036854775000 by omega)
  replace hone:jR Tryz.prog 29 [.ptr 0 0] [.cells 155 [.str r,.bool false]] (fun bs rs=>bs=[.cells 155 [.str (aC ⟨r,false⟩).2.rest,.bool (aC ⟨r,false⟩).2.bad]]∧rs=[.val (.int .i64 (aC ⟨r,false⟩).1)]):=hone
  generalize aC ⟨r,false⟩=x at *;conv=>whnf
  refine .raw _ _ rfl (fun h=>by cases h) (dJ (hone) [0] _ rfl rfl ⟨rfl,trivial⟩ qg rfl qh) ?_;rintro w ⟨b',rs,⟨rfl,rfl⟩,rfl⟩;refine ⟨aS _ _,(cW ?_)⟩;refine And.intro rfl (cW ?_);refine And.intro ⟨rfl,rfl⟩ (And.intro (show (acc.length+1)*8≤140737488355328 by omega) (cW ?_));refine ⟨x.1,rfl,(cW ?_)⟩;refine iO (cW ?_);have e1:acc++[x.1]=(Z (k+1)).2:=by rw [hsk]
  have e2:x.2.rest=(Z (k+1)).1.rest:=by rw [hsk]
  have e3:x.2.bad=(Z (k+1)).1.bad:=by rw [hsk]
  refine up (show k<n.toNat by omega) trivial ((aj [(0,.id 0),(1,.id 3)] rfl ⟨aQ,.fn _ _ _ _ _ fP fP,kX,.base (.tree _ _ (show AV.int .i64 _=AV.int .i64 _ by congr 1;omega) rfl),trivial⟩ ⟨⟨_,rfl,.cells _ _ _ _ rfl Oy rfl⟩,⟨_,rfl,OL⟩,trivial⟩))
 ·replace hc:(decide (0<n-(k:Int))&&!b)=false:=hc
  have hkn:Z n.toNat=Z k:=by
   rw [Bool.and_eq_false_iff,decide_eq_false_iff_not,Bool.not_eq_false'] at hc;rcases hc with h | h
   ·rw [show n.toNat=k by omega]
   ·rw [show n.toNat=k+(n.toNat-k) by omega,hstk h,hzk]
  rw [hkn,hzk];cases hcl:fC [93] r with
  | some r' =>
   have hk2:=close_some (b:=b) hcl;conv=>whnf
   refine .raw _ _ rfl (fun h=>by cases h) (dJ (hk2) [0] _ rfl rfl ⟨rfl,trivial⟩ qg rfl qh) ?_;exact ag4
  | none =>
   have hk2:=L8 (b:=b) hcl;conv=>whnf
   refine .raw _ _ rfl (fun h=>by cases h) (dJ (hk2) [0] _ rfl rfl ⟨rfl,trivial⟩ qg rfl qh) ?_;exact ae7
theorem Ph {e s r:List UInt8} (h:fC e s=some r):r.length≤s.length:=by
 unfold fC at h;split at h
 ·cases h;unfold Lib.trimPrefix;split<;>simp
 ·cases h
theorem acE (q:RS):(bC q).2.rest.length≤q.rest.length:=by
 have h1:=(jS 58 0 q (Int.le_refl _)).2;unfold bC;simp only;split
 ·exact Nat.zero_le _
 ·split
  ·rename_i r hr;have:=Ph hr;rw [List.length_drop] at this;show r.length≤_;omega
  ·exact Nat.zero_le _
theorem Va {c least:Int} {s r:List UInt8} {n:Int} (h:fD c least s=some (n,r)):r.length<s.length:=by
 unfold fD at h;simp only at h;split at h
 ·cases h
 ·rename_i hp;obtain ⟨o,ho⟩:∃ o:Nat,Lib.indexByte (s.take (min s.length 21)) c.toNat.toUInt8=(o:Int):=⟨_,(Int.toNat_of_nonneg (by omega)).symm⟩;have hol:=(List.getElem?_eq_some_iff.1 (Lib.indexByte_some ho).1).1;rw [List.length_take] at hol;split at h
  ·split at h
   ·cases h;rw [List.length_drop];omega
   ·cases h
  ·cases h
theorem agb {c least:Int} {q:RS} (h:(bW c least q).2.bad=false):(bW c least q).2.rest.length<q.rest.length:=by
 unfold bW at h ⊢;cases hn:fD c least q.rest with
 | none=>rw [hn] at h;cases h
 | some x=>exact Va (r:=x.2) (n:=x.1) hn
theorem abb (q:RS) (hs:q.rest.length≤1000000000000) (k:Nat):(gJ aC (bW 91 0 q).2 k).2.length≤1000000000001:=by
 cases hb:(bW 91 0 q).2.bad with
 | false =>
  have h1:=(Vk (one:=aC) (fun q _ h=>agb h) (fun q h=>.inr (DR q)) hb k).1;have h2:=(jS 91 0 q (Int.le_refl _)).2;omega
 | true =>
  have:=EJ (one:=aC) (k:=0) (q:=(bW 91 0 q).2) hb k;rw [Nat.zero_add] at this;rw [this];exact Nat.zero_le _
theorem AL:∀ (k u:Nat),1≤k→u<10 ^ k→Lib.nDigits u≤k
 | 0,_,h,_=>absurd h (by decide)
 | k+1,u,_,h=>by
  by_cases hu:u<10
  ·rw [Lib.nDigits_small hu];omega
  ·have hk:1≤k:=by
    rcases Nat.eq_zero_or_pos k with rfl | h'
    ·rw [Nat.zero_add,Nat.pow_one] at h;omega
    ·exact h'
   rw [Lib.nDigits_big hu];rw [Nat.pow_succ] at h;have:=AL k (u / 10) hk (by omega);omega
theorem pI (n:Int) (h:dG n):(Lib.itoa n).length≤20:=by
 obtain ⟨h0,h1⟩:=h;by_cases hneg:n<0
 ·obtain ⟨u,rfl⟩:∃ u:Nat,n=-(u:Int):=⟨n.natAbs,by omega⟩;rw [Lib.itoa_neg u (by omega),List.length_cons,Lib.decDigits_length];have:=AL 19 u (by omega) (by omega);omega
 ·obtain ⟨u,rfl⟩:∃ u:Nat,n=u:=⟨n.toNat,by omega⟩;rw [Lib.itoa_nonneg,Lib.decDigits_length];have:=AL 19 u (by omega) (by omega);omega
theorem rH (u:Nat):Lib.decDigits u=if u<10 then [UInt8.ofNat (48+u)] else Lib.decDigits (u / 10)++[UInt8.ofNat (48+u % 10)]:=by
 rw [Lib.decDigits];split<;>rfl
theorem xI (d:Nat) (h:d<10):(UInt8.ofNat (48+d)).toNat=48+d:=by
 rw [UInt8.toNat_ofNat'];omega
theorem rJ (u:Nat):∀ b∈Lib.decDigits u,48≤b.toNat∧b.toNat≤57:=by
 induction u using Nat.strongRecOn with
 | _ u ih =>
  intro b hb;rw [rH] at hb;split at hb
  ·rename_i hu;simp only [List.mem_cons,List.not_mem_nil,or_false] at hb;subst hb;rw [xI u hu];omega
  ·rename_i hu;rw [List.mem_append] at hb;rcases hb with hb | hb
   ·exact ih (u / 10) aI b hb
   ·simp only [List.mem_cons,List.not_mem_nil,or_false] at hb;subst hb;rw [xI _ (Nat.mod_lt _ (by decide))];have:=Nat.mod_lt u (show 0<10 by decide);omega
theorem Bv (u:Nat):Lib.decDigits u≠[]:=by
 rw [rH];split<;>simp
def LY (e:Lib.NumEnd Nat) (f:Nat→Lib.NumEnd Nat):Lib.NumEnd Nat :=
 match e with
 | .ok v=>f v
 | e=>e
theorem Gl:∀ (a b:List UInt8) (acc:Nat),Lib.parseUint10 acc (a++b)=LY (Lib.parseUint10 acc a) (fun v=>Lib.parseUint10 v b)
 | [],b,acc=>rfl
 | c::a,b,acc=>by
  have ih:=fun k=>Gl a b k
  rw [List.cons_append];by_cases h1:48≤c.toNat∧c.toNat≤57
  ·by_cases h2:1844674407370955162≤acc
   ·simp only [Lib.parseUint10,if_pos h1,if_pos h2,LY]
   ·by_cases h3:18446744073709551616≤acc*10+(c.toNat-48)
    ·simp only [Lib.parseUint10,if_pos h1,if_neg h2,if_pos h3,LY]
    ·simp only [Lib.parseUint10,if_pos h1,if_neg h2,if_neg h3];exact ih _
  ·simp only [Lib.parseUint10,if_neg h1,LY]
theorem YJ (u:Nat) (hu:u<18446744073709551616):Lib.parseUint10 0 (Lib.decDigits u)=.ok u:=by
 induction u using Nat.strongRecOn with
 | _ u ih =>
  rw [rH];split
  ·rename_i h;simp only [Lib.parseUint10];rw [xI u h,if_pos (by omega),if_neg (by omega),if_neg (by omega)];congr 1
   omega
  ·rename_i h;rw [Gl,ih (u / 10) (by omega) (by omega)];simp only [LY,Lib.parseUint10];have:=Nat.mod_lt u (show 0<10 by decide);rw [xI _ this,if_pos (by omega),if_neg (by omega),if_neg (by omega)];congr 1
   omega
theorem VX (u:Nat) (hu:u<18446744073709551616):Lib.parseMag (Lib.decDigits u)=.ok u:=by
 unfold Lib.parseMag;rw [if_neg (Bv u),YJ u hu]
theorem aav (n:Int) (h:dG n):Lib.atoiAll (Lib.itoa n)=.ok n:=by
 obtain ⟨h0,h1⟩:=h;by_cases hneg:n<0
 ·obtain ⟨u,rfl⟩:∃ u:Nat,n=-(u:Int):=⟨n.natAbs,by omega⟩;rw [Lib.itoa_neg u (by omega),Lib.atoiAll_minus,VX u (by omega)];show (if 9223372036854775808<u then Lib.NumEnd.range else Lib.NumEnd.ok (-(u:Int)))=_;rw [if_neg (by omega)]
 ·obtain ⟨u,rfl⟩:∃ u:Nat,n=u:=⟨n.toNat,by omega⟩;rw [Lib.itoa_nonneg];have hm:=rJ u;have hp:=VX u (by omega);cases hd:Lib.decDigits u with
  | nil=>exact absurd hd (Bv u)
  | cons c r =>
   rw [hd] at hm hp;have hc:=hm c (List.mem_cons_self ..);rw [Lib.atoiAll_plain c r (by omega) (by omega),hp];show (if 9223372036854775808≤u then Lib.NumEnd.range else Lib.NumEnd.ok (u:Int))=_;rw [if_neg (by omega)]
theorem RZ (n:Int):∀ b∈Lib.itoa n,b.toNat≤57:=by
 intro b hb;by_cases hneg:n<0
 ·obtain ⟨u,rfl⟩:∃ u:Nat,n=-(u:Int):=⟨n.natAbs,by omega⟩;rw [Lib.itoa_neg u (by omega),List.mem_cons] at hb;rcases hb with rfl | hb
  ·decide
  ·exact (rJ u b hb).2
 ·obtain ⟨u,rfl⟩:∃ u:Nat,n=u:=⟨n.toNat,by omega⟩;rw [Lib.itoa_nonneg] at hb;exact (rJ u b hb).2
theorem Gm:∀ (a:List UInt8) (c:UInt8) (r:List UInt8),c∉a→Lib.indexByte (a++c::r) c=(a.length:Int)
 | [],c,r,_=>by
  rw [List.nil_append];unfold Lib.indexByte;rw [if_pos (by simp)];rfl
 | b::a,c,r,h=>by
  rw [List.mem_cons,not_or] at h;rw [List.cons_append];unfold Lib.indexByte;rw [Gm a c r h.2,if_neg (by simp;exact fun h'=>h.1 h'.symm),if_neg (by simp)];simp
def BM (c:Int):Prop:=57<c.toNat.toUInt8.toNat
abbrev cb (c:Int):UInt8:=c.toNat.toUInt8
theorem C_ (c least n:Int) (r:List UInt8) (hn:dG n) (hl:least≤n) (hc:BM c):fD c least (Lib.itoa n++cb c::r)=some (n,r):=by
 have hlen:=pI n hn;have hmem:cb c∉Lib.itoa n:=fun h=>by
  have:=RZ n _ h;unfold BM at hc;unfold cb at this;omega
 have htk:(Lib.itoa n++cb c::r).take (min (Lib.itoa n++cb c::r).length 21)=Lib.itoa n++cb c::r.take (min (Lib.itoa n++cb c::r).length 21-(Lib.itoa n).length-1):=by
  rw [List.take_append,List.take_of_length_le nC];have:min (Lib.itoa n++cb c::r).length 21-(Lib.itoa n).length=(min (Lib.itoa n++cb c::r).length 21-(Lib.itoa n).length-1)+1:=by
   simp only [List.length_append,List.length_cons];omega
  rw [this,List.take_succ_cons];rfl
 unfold fD;simp only;rw [htk,Gm _ _ _ hmem,if_neg (by omega),Int.toNat_natCast,List.take_append_of_le_length (Nat.le_refl _),List.take_length,aav n hn];simp only;rw [if_pos ⟨trivial,hl⟩];congr 2
 rw [List.drop_append];simp
theorem Bj {c least n:Int} {s r:List UInt8} (h:fD c least s=some (n,r)):s=Lib.itoa n++cb c::r∧dG n∧least≤n:=by
 unfold fD at h;simp only at h;split at h
 ·cases h
 ·rename_i hp;obtain ⟨o,ho⟩:∃ o:Nat,Lib.indexByte (s.take (min s.length 21)) c.toNat.toUInt8=(o:Int):=⟨_,(Int.toNat_of_nonneg (by omega)).symm⟩;have hat:=(Lib.indexByte_some ho).1;rw [ho,Int.toNat_natCast] at h;split at h
  ·rename_i v hv;split at h
   ·rename_i hk;cases h;have hol:=(List.getElem?_eq_some_iff.1 hat).1;rw [List.length_take] at hol;rw [List.getElem?_take] at hat;rw [if_pos (by omega)] at hat;rw [List.take_take,show min o (min s.length 21)=o by omega] at hk;obtain ⟨hlt,hge⟩:=List.getElem?_eq_some_iff.1 hat;refine ⟨?_,Lib.atoiAll_bounds hv,hk.2⟩;rw [hk.1];have e:s.drop o=c.toNat.toUInt8::s.drop (o+1):=by
     rw [List.drop_eq_getElem_cons hlt,hge]
    show s=s.take o++c.toNat.toUInt8::s.drop (o+1);rw [← e,List.take_append_drop]
   ·cases h
  ·cases h
theorem DF (e:UInt8) (r:List UInt8):fC [e] (e::r)=some r:=by
 have h:Lib.hasPrefix (e::r) [e]=true:=by
  simp [Lib.hasPrefix]
 unfold fC;rw [if_pos h];unfold Lib.trimPrefix;rw [if_pos h];rfl
theorem uI {e:UInt8} {s r:List UInt8} (h:fC [e] s=some r):s=e::r:=by
 unfold fC at h;split at h
 ·rename_i hp;cases h;unfold Lib.trimPrefix;rw [if_pos hp];cases s with
  | nil=>simp [Lib.hasPrefix] at hp
  | cons a s =>
   simp [Lib.hasPrefix] at hp;rw [hp];rfl
 ·cases h
theorem Dl (c least n:Int) (r:List UInt8) (b:Bool) (hn:dG n) (hl:least≤n) (hc:BM c):bW c least ⟨Lib.itoa n++cb c::r,b⟩=(n,⟨r,b⟩):=by
 unfold bW;rw [C_ c least n r hn hl hc]
theorem Fa {c least:Int} {q:RS} (h:(bW c least q).2.bad=false):q.bad=false∧q.rest=Lib.itoa (bW c least q).1++cb c::(bW c least q).2.rest∧dG (bW c least q).1∧least≤(bW c least q).1:=by
 unfold bW at h ⊢;cases hn:fD c least q.rest with
 | none=>rw [hn] at h;cases h
 | some x =>
  rw [hn] at h;exact ⟨h,Bj (r:=x.2) (n:=x.1) hn⟩
def Dead (q:RS):Prop:=q.bad=true→q.rest=[]
theorem wI (c least:Int) (q:RS) (h:Dead q):Dead (bW c least q).2:=by
 unfold bW;cases hn:fD c least q.rest with
 | none=>exact fun _=>rfl
 | some x =>
  intro hb;rw [h hb] at hn;have:=Va (r:=x.2) (n:=x.1) hn;exact absurd this (Nat.not_lt_zero _)
structure Codec {T:Type} (one:RS→T×RS) (f:T→List UInt8) (P:T→Prop):Prop where
 back:∀ x r,P x→one ⟨f x++r,false⟩=(x,⟨r,false⟩)
 inv:∀ q,(one q).2.bad=false→q.bad=false∧q.rest=f (one q).1++(one q).2.rest
 dead:∀ q,Dead q→Dead (one q).2
theorem Gw {p:Prop} (h:p:=by unfold BM;decide):p:=h
theorem G5:Codec aC b_ dG:=by
 refine ⟨fun x r h=>?_,fun q h=>?_,fun q h=>wI _ _ q h⟩
 ·unfold b_;rw [List.append_assoc];exact Dl 59 _ x r false h h.1 Gw
 ·obtain ⟨h1,h2,_,_⟩:=Fa h;refine ⟨h1,?_⟩;rw [h2];unfold b_;rw [List.append_assoc];rfl
theorem Ze:Codec (bW 59 0) dK (fun n=>0≤n∧dG n):=by
 refine ⟨fun x r h=>?_,fun q h=>?_,fun q h=>wI _ _ q h⟩
 ·unfold dK b_;rw [if_neg (by omega),List.append_assoc];exact Dl 59 _ x r false h.2 h.1 Gw
 ·obtain ⟨h1,h2,_,h4⟩:=Fa h;refine ⟨h1,?_⟩;rw [h2];unfold dK b_;rw [if_neg (by omega),List.append_assoc];rfl
theorem zT {p:Prop} (h:p:=by unfold dG;omega):p:=h
theorem Z7:Codec bC textS (fun s=>s.length≤9223372036854775000):=by
 refine ⟨fun x r h=>?_,fun q h=>?_,fun q h=>?_⟩
 ·have e:textS x++r=Lib.itoa x.length++cb 58::(x++44::r):=by
   unfold textS;simp only [List.append_assoc];rfl
  have hn:=Dl 58 0 x.length (x++44::r) false zT (by omega) Gw;unfold bC;simp only;rw [e,hn];simp only [Int.toNat_natCast];rw [if_neg nC,List.drop_append_of_le_length (Nat.le_refl _),List.drop_length,List.nil_append,DF];simp
 ·unfold bC at h ⊢;simp only at h ⊢;split at h
  ·cases h
  ·rename_i hc;rw [if_neg hc];cases hcl:fC [44] ((bW 58 0 q).2.rest.drop (bW 58 0 q).1.toNat) with
   | none=>rw [hcl] at h;cases h
   | some r =>
    rw [hcl] at h;have hb:(bW 58 0 q).2.bad=false:=h;obtain ⟨h1,h2,h3,h4⟩:=Fa (c:=58) (least:=0) (q:=q) hb;have h5:=uI hcl;refine ⟨h1,?_⟩;simp only [hb];rw [if_neg (by simp)];generalize bW 58 0 q=y at *;obtain ⟨n,q1,b1⟩:=y;simp only at hc h2 h4 h5 ⊢;have hlen:(q1.take n.toNat).length=n.toNat:=by rw [List.length_take];omega
    unfold textS;rw [h2,hlen,Int.toNat_of_nonneg h4];have e:q1=q1.take n.toNat++44::r:=by rw [← h5,List.take_append_drop]
    simp only [List.append_assoc];rw [show Lib.itoa n++cb 58::q1=Lib.itoa n++cb 58::(q1.take n.toNat++44::r) by rw [← e]];rfl
 ·unfold bC;simp only;split
  ·exact fun _=>rfl
  ·cases hcl:fC [44] ((bW 58 0 q).2.rest.drop (bW 58 0 q).1.toNat) with
   | none=>exact fun _=>rfl
   | some r =>
    intro hb;have hb:(bW 58 0 q).2.bad=true:=hb;have:=wI 58 0 q h hb;rw [this,List.drop_nil] at hcl;have:=uI hcl;cases this
theorem QG {T:Type} {one:RS→T×RS} {f:T→List UInt8} {P:T→Prop} (hc:Codec one f P) (l:List T) (hl:∀ x∈l,P x) (r:List UInt8):∀ k,k≤l.length→gJ one ⟨l.flatMap f++r,false⟩ k=(⟨(l.drop k).flatMap f++r,false⟩,l.take k)
 | 0,_=>by simp [gJ]
 | k+1,hk=>by
  have ih:=QG hc l hl r k (by omega);have hlt:k<l.length:=by omega
  unfold gJ;rw [ih,if_neg (by simp)];simp only;rw [List.drop_eq_getElem_cons hlt,List.flatMap_cons,List.append_assoc,hc.back _ _ (hl _ (List.getElem_mem hlt))];simp only;rw [List.take_add_one,List.getElem?_eq_getElem hlt];rfl
theorem U_ {T:Type} {one:RS→T×RS} {f:T→List UInt8} {P:T→Prop} (hc:Codec one f P) (q:RS):∀ k,(gJ one q k).1.bad=false→q.bad=false∧q.rest=(gJ one q k).2.flatMap f++(gJ one q k).1.rest∧(gJ one q k).2.length=k
 | 0,h=>⟨h,rfl,rfl⟩
 | k+1,h=>by
  unfold gJ at h ⊢;split at h
  ·rename_i hb;rw [hb] at h;cases h
  ·rename_i hb;rw [if_neg hb];obtain ⟨h1,h2,h3⟩:=U_ hc q k Gs;obtain ⟨_,h4⟩:=hc.inv _ h;refine ⟨h1,?_,by simp [h3]⟩;rw [h2,List.flatMap_append,List.append_assoc];congr 1
   rw [h4];simp
theorem EI {T:Type} {one:RS→T×RS} {f:T→List UInt8} {P:T→Prop} (hc:Codec one f P) (q:RS) (hq:Dead q):∀ k,Dead (gJ one q k).1
 | 0=>hq
 | k+1=>by
  unfold gJ;split
  ·exact EI hc q hq k
  ·exact hc.dead _ (EI hc q hq k)
def listOf {T:Type} (o:Option (List T)):List T:=o.getD []
def bD {T:Type} (one:RS→T×RS) (q:RS):List T×RS:=(listOf (og one q).1,(og one q).2)
theorem Y6 {T:Type} {one:RS→T×RS} {f:T→List UInt8} {P:T→Prop} (hc:Codec one f P):Codec (bD one) (iG f) (fun l=>(∀ x∈l,P x)∧l.length≤9223372036854775807):=by
 refine ⟨fun l r h=>?_,fun q h=>?_,fun q h=>?_⟩
 ·have e:iG f l++r=Lib.itoa l.length++cb 91::(l.flatMap f++93::r):=by
   unfold iG xE;simp only [List.append_assoc];rfl
  have hn:=Dl 91 0 l.length (l.flatMap f++93::r) false zT (by omega) Gw;unfold bD og;simp only;rw [e,hn];simp only [Int.toNat_natCast];rw [QG hc l h.1 (93::r) l.length (Nat.le_refl _)];simp only [List.drop_length,List.flatMap_nil,List.nil_append,DF,List.take_length];simp [listOf]
 ·unfold bD og at h ⊢;simp only at h ⊢;cases hcl:fC [93] (gJ one (bW 91 0 q).2 (bW 91 0 q).1.toNat).1.rest with
  | none=>rw [hcl] at h;cases h
  | some r =>
   rw [hcl] at h;have hb:(gJ one (bW 91 0 q).2 (bW 91 0 q).1.toNat).1.bad=false:=h;obtain ⟨h1,h2,h3⟩:=U_ hc _ _ hb;obtain ⟨h4,h5,h6,h7⟩:=Fa (c:=91) (least:=0) (q:=q) h1;have h8:=uI hcl;refine ⟨h4,?_⟩;simp only [hb];rw [if_neg (by simp)];simp only [listOf,Option.getD_some];unfold iG xE;rw [h3,Int.toNat_of_nonneg h7,h5,h2,h8];simp only [List.append_assoc];rfl
 ·unfold bD og;simp only;cases hcl:fC [93] (gJ one (bW 91 0 q).2 (bW 91 0 q).1.toNat).1.rest with
  | none=>exact fun _=>rfl
  | some r =>
   intro hb;have hb:(gJ one (bW 91 0 q).2 (bW 91 0 q).1.toNat).1.bad=true:=hb;have:=EI hc _ (wI 91 0 q h) _ hb;rw [this] at hcl;have:=uI hcl;cases this
structure Brc where
 stage:Int
 since:Int
structure Vot where
 seat:Int
 day:Int
 yes:Bool
structure Pay where
 issue:Int
 seat:Int
 day:Int
 due:Int
 paid:Int
 period:Int
structure Pro where
 issue:Int
 text:List UInt8
 day:Int
 units:List Int
 votes:List Vot
 closed:Bool
structure Lin where
 text:List UInt8
 units:List Int
 noted:List Int
 notedAt:Int
 stages:List Brc
 fast:Int
 called:Int
 price:Int
 ended:Bool
 since:Int
structure Fac where
 issuer:Int
 name:List UInt8
 period:Int
 value:Int
 day:Int
structure Sta where
 day:Int
 cash:List Int
 purses:List Int
 outside:Int
 lines:List Lin
 facts:List Fac
 payments:List Pay
 proposals:List Pro
abbrev fG:Brc:=⟨0,0⟩
abbrev eU:Vot:=⟨0,0,false⟩
abbrev pa0:Pay:=⟨0,0,0,0,0,0⟩
abbrev fB:Pro:=⟨0,[],0,[],[],false⟩
abbrev eP:Lin:=⟨[],[],[],0,[],0,0,0,false,0⟩
abbrev fa0:Fac:=⟨0,[],0,0,0⟩
abbrev st0:Sta:=⟨0,[],[],0,[],[],[],[]⟩
def gy (b:Brc):AV:=.agg [.int .i64 b.stage,.int .i64 b.since]
def gu (v:Vot):AV:=.agg [.int .i64 v.seat,.int .i64 v.day,.bool v.yes]
def fZ (p:Pay):AV:=.agg [.int .i64 p.issue,.int .i64 p.seat,.int .i64 p.day,.int .i64 p.due,.int .i64 p.paid,.int .i64 p.period]
def eF (p:Pro):AV:=.agg [.int .i64 p.issue,.str p.text,.int .i64 p.day,.sl 1 encI 0 p.units,.sl 3 gu eU p.votes,.bool p.closed]
def dW (x:Lin):AV:=.agg [.str x.text,.sl 1 encI 0 x.units,.sl 1 encI 0 x.noted,.int .i64 x.notedAt,.sl 2 gy fG x.stages,.int .i64 x.fast,.int .i64 x.called,.int .i64 x.price,.bool x.ended,.int .i64 x.since]
def eG (f:Fac):AV:=.agg [.int .i64 f.issuer,.str f.name,.int .i64 f.period,.int .i64 f.value,.int .i64 f.day]
def jl (s:Sta):List AV:=[.int .i64 s.day,.sl 1 encI 0 s.cash,.sl 1 encI 0 s.purses,.int .i64 s.outside,.sl 10 dW eP s.lines,.sl 5 eG fa0 s.facts,.sl 6 fZ pa0 s.payments,.sl 6 eF fB s.proposals]
def mW (s:Sta):AV:=.agg [.int .i64 s.day,.sl 1 encI 0 s.cash,.sl 1 encI 0 s.purses,.int .i64 s.outside,.sl 10 dW eP s.lines,.sl 5 eG fa0 s.facts,.sl 6 fZ pa0 s.payments,.sl 6 eF fB s.proposals]
def gX:Int:=1000000000000000000
def kR:Int→List Int→Option Int
 | t,[]=>some t
 | t,n::l=>if 0≤n∧n≤gX-t then kR (t+n) l else none
def xU (s:Sta):Option Int:=(kR 0 s.cash).bind fun t=>kR t s.purses
def kJ (n:Int):Bool:=inB 0 200000 [n]
def jk (seats:Int) (l:List Int):Bool:=decide ((l.length:Int)=seats)&&inB 0 1000000000 l
def pY (b:Brc):Bool:=inB 0 3 [b.stage]&&kJ b.since
def wP (s:List UInt8):Bool:=match iK s with
 | .ok _=>true
 | .error _=>false
def mJ (seats:Int) (x:Lin):Bool :=
 wP x.text&&(jk seats x.units&&(decide (x.noted=[])||jk seats x.noted)&&inB (-1) 5000 [x.notedAt])&&(inB (-1) 200000 [x.fast,x.called]&&inB 0 10000 [x.price]&&kJ x.since)&&decide (x.stages.length≤500)&&x.stages.all pY
def jE (lines seats:Int) (p:Pay):Bool:=inB 0 (lines-1) [p.issue]&&inB 0 (seats-1) [p.seat]&&kJ p.day&&inB 0 gX [p.due]&&inB 0 p.due [p.paid]&&inB (-1) 5000 [p.period]
def t_ (seats:Int) (v:Vot):Bool:=inB 0 (seats-1) [v.seat]&&kJ v.day
def qK (lines seats:Int) (p:Pro):Bool:=inB 0 (lines-1) [p.issue]&&decide (p.text.length≤4000)&&kJ p.day&&jk seats p.units&&decide (p.votes.length≤2000)&&p.votes.all (t_ seats)
def j_ (f:Fac):Bool:=decide (0≤f.issuer)&&decide (f.issuer<60)&&(decide (0≤f.period)&&decide (f.period≤f.day)&&decide (f.day≤200000))&&decide (0≤f.value)&&decide (f.value≤1000000000000000)&&nameB f.name
def mF:Int→List Fac→Bool
 | _,[]=>true
 | last,f::l=>j_ f&&decide (last≤f.day)&&mF f.day l
def qy (l:List Fac):Bool:=decide (l.length≤10000)&&mF 0 l
def fM (s:Sta):Bool :=
 (xU s).isSome&&kJ s.day&&decide (s.cash.length≤60)&&decide (s.purses.length≤20000)&&inB (-gX) gX [s.outside] &&
 (decide (s.lines.length≤400)&&decide (s.payments.length≤100000)&&decide (s.proposals.length≤10000)&&qy s.facts) &&
 (s.lines.all (mJ s.purses.length)&&s.payments.all (jE s.lines.length s.purses.length)&&s.proposals.all (qK s.lines.length s.purses.length))
def uZ (s:Sta):Int:=if fM s=true then (xU s).getD 0 else 0
def jy (b:Bool):Int:=if b=true then 1 else 0
def bn (l:List Int):List UInt8:=l.flatMap dK
def fO {T:Type} (f:T→List UInt8) (l:List T):List UInt8:=dK l.length++l.flatMap f
def lW (b:Brc):List UInt8:=bn [b.stage,b.since]
def lC (x:Lin):List UInt8:=textS x.text++iG b_ x.units++iG b_ x.noted++b_ x.notedAt++fO lW x.stages++b_ x.fast++b_ x.called++bn [x.price,jy x.ended,x.since]
def lI (f:Fac):List UInt8:=bn [f.issuer]++textS f.name++bn [f.period,f.value,f.day]
def lG (p:Pay):List UInt8:=bn [p.issue,p.seat,p.day,p.due,p.paid]++b_ p.period
def lT (v:Vot):List UInt8:=bn [v.seat,v.day,jy v.yes]
def lu (p:Pro):List UInt8:=bn [p.issue]++textS p.text++bn [p.day]++iG b_ p.units++fO lT p.votes++bn [jy p.closed]
def Jw (s:Sta):List UInt8:=bn [s.day]++fO dK s.cash++fO dK s.purses++b_ s.outside++fO lC s.lines++fO lI s.facts++fO lG s.payments++fO lu s.proposals
def vk (s:Sta):List UInt8:=if fM s=true then Jw s else []
abbrev ay:RS→Int×RS:=bW 59 0
def dn {T:Type} (one:RS→T×RS) (q:RS):Nat→RS×List T
 | 0=>(q,[])
 | k+1=>((one (dn one q k).1).2,(dn one q k).2++[(one (dn one q k).1).1])
def bH {T:Type} (one:RS→T×RS) (q:RS):List T×RS :=
 if ((ay q).2.rest.length:Int)<(ay q).1 then ([],(ay q).2) else ((dn one (ay q).2 (ay q).1.toNat).2,(dn one (ay q).2 (ay q).1.toNat).1)
def gQ (q:RS):Brc×RS :=
 let a:=ay q
 let b:=ay a.2
 (⟨a.1,b.1⟩,b.2)
def jQ (q:RS):Vot×RS :=
 let a:=ay q
 let b:=ay a.2
 let c:=ay b.2
 (⟨a.1,b.1,decide (c.1=1)⟩,c.2)
def iM (q:RS):Lin×RS :=
 let a:=bC q
 let b:=bD aC a.2
 let c:=bD aC b.2
 let d:=aC c.2
 let e:=bH gQ d.2
 let f:=aC e.2
 let g:=aC f.2
 let h:=ay g.2
 let i:=ay h.2
 let j:=ay i.2
 (⟨a.1,b.1,c.1,d.1,e.1,f.1,g.1,h.1,decide (i.1=1),j.1⟩,j.2)
def jU (q:RS):Fac×RS :=
 let a:=ay q
 let b:=bC a.2
 let c:=ay b.2
 let d:=ay c.2
 let e:=ay d.2
 (⟨a.1,b.1,c.1,d.1,e.1⟩,e.2)
def kG (q:RS):Pay×RS :=
 let a:=ay q
 let b:=ay a.2
 let c:=ay b.2
 let d:=ay c.2
 let e:=ay d.2
 let f:=aC e.2
 (⟨a.1,b.1,c.1,d.1,e.1,f.1⟩,f.2)
def iU (q:RS):Pro×RS :=
 let a:=ay q
 let b:=bC a.2
 let c:=ay b.2
 let d:=bD aC c.2
 let e:=bH jQ d.2
 let f:=ay e.2
 (⟨a.1,b.1,c.1,d.1,e.1,decide (f.1=1)⟩,f.2)
def Hl (q:RS):Sta×RS :=
 let a:=ay q
 let b:=bH ay a.2
 let c:=bH ay b.2
 let d:=aC c.2
 let e:=bH iM d.2
 let f:=bH jU e.2
 let g:=bH kG f.2
 let h:=bH iU g.2
 (⟨a.1,b.1,c.1,d.1,e.1,f.1,g.1,h.1⟩,h.2)
def Qw (q:RS):Bool:=!q.bad&&decide (q.rest=[])
def readB (t:List UInt8):Bool:=!decide (t=[])&&Qw (Hl ⟨t,false⟩).2&&decide (vk (Hl ⟨t,false⟩).1=t)
def Bk {T:Type} (one:RS→T×RS) (f:T→List UInt8) (P:T→Prop):Prop:=∀ x r,P x→one ⟨f x++r,false⟩=(x,⟨r,false⟩)
def N0 (n:Int):Prop:=0≤n∧dG n
theorem jc:Bk ay dK N0:=Ze.back
theorem Ie:Bk aC b_ dG:=G5.back
theorem Nv:Bk bC textS (fun s=>s.length≤9223372036854775000):=Z7.back
theorem Nh:Bk (bD aC) (iG b_) (fun l=>(∀ x∈l,dG x)∧l.length≤9223372036854775807):=(Y6 G5).back
theorem yD {n:Int} (h:0≤n):dK n≠[]:=by
 unfold dK b_;rw [if_neg (by omega)];simp
theorem Uh {T:Type} {one:RS→T×RS} {f:T→List UInt8} {P:T→Prop} (hb:Bk one f P) (l:List T) (hl:∀ x∈l,P x) (r:List UInt8):∀ k,k≤l.length→dn one ⟨l.flatMap f++r,false⟩ k=(⟨(l.drop k).flatMap f++r,false⟩,l.take k)
 | 0,_=>by simp [dn]
 | k+1,hk=>by
  have ih:=Uh hb l hl r k (by omega);have hlt:k<l.length:=by omega
  unfold dn;rw [ih];simp only;rw [List.drop_eq_getElem_cons hlt,List.flatMap_cons,List.append_assoc,hb _ _ (hl _ (List.getElem_mem hlt))];simp only;rw [List.take_add_one,List.getElem?_eq_getElem hlt];rfl
theorem QZ {T:Type} {f:T→List UInt8}:∀ (l:List T),(∀ x∈l,f x≠[])→l.length≤(l.flatMap f).length
 | [],_=>Nat.le_refl _
 | x::l,h=>by
  have h1:=QZ l fun y hy=>h y (by simp [hy])
  have h2:=List.length_pos_iff.2 (h x (by simp));rw [List.flatMap_cons,List.length_append,List.length_cons];omega
theorem wR {T:Type} {one:RS→T×RS} {f:T→List UInt8} {P:T→Prop} (hb:Bk one f P) (hne:∀ x,P x→f x≠[]):Bk (bH one) (fO f) (fun l=>(∀ x∈l,P x)∧l.length≤1000000000):=by
 intro l r h;have hn:=jc (l.length:Int) (l.flatMap f++r) ⟨by omega,by unfold dG;omega⟩;have hlen:=QZ l fun x hx=>hne x (h.1 x hx)
 unfold bH fO;rw [List.append_assoc,hn];simp only [Int.toNat_natCast];rw [if_neg (by rw [List.length_append];omega),Uh hb l h.1 r l.length (Nat.le_refl _)];simp
theorem oQ (b:Bool):N0 (jy b):=by cases b<;>exact ⟨by decide,by unfold dG;decide⟩
theorem Oj (b:Bool):decide (jy b=1)=b:=by cases b<;>rfl
theorem ajj:Bk gQ lW (fun b=>N0 b.stage∧N0 b.since):=by
 rintro ⟨a,b⟩ r ⟨h1,h2⟩;unfold gQ lW bn;simp only [List.flatMap_cons,List.flatMap_nil,List.append_nil,List.append_assoc] at *;rw [jc _ _ h1];simp only;rw [jc _ _ h2]
theorem aiQ:Bk jQ lT (fun v=>N0 v.seat∧N0 v.day):=by
 rintro ⟨a,b,c⟩ r ⟨h1,h2⟩;unfold jQ lT bn;simp only [List.flatMap_cons,List.flatMap_nil,List.append_nil,List.append_assoc] at *;rw [jc _ _ h1];simp only;rw [jc _ _ h2];simp only;rw [jc _ _ (oQ c)];simp only [Oj]
def LiW (x:Lin):Prop:=x.text.length≤9223372036854775000∧((∀ n∈x.units,dG n)∧x.units.length≤9223372036854775807)∧((∀ n∈x.noted,dG n)∧x.noted.length≤9223372036854775807)∧dG x.notedAt∧((∀ b∈x.stages,N0 b.stage∧N0 b.since)∧x.stages.length≤1000000000)∧dG x.fast∧dG x.called∧N0 x.price∧N0 x.since
theorem aeA {p:Prop}(h:p:=by
 simp only [List.flatMap_cons];intro e;exact yD h.1.1 (List.append_eq_nil_iff.1 e).1):p:=h
theorem agX (b:Brc) (h:N0 b.stage∧N0 b.since):lW b≠[]:=by
 unfold lW bn;exact aeA
theorem ail (v:Vot) (h:N0 v.seat∧N0 v.day):lT v≠[]:=by
 unfold lT bn;exact aeA
theorem aiF:Bk iM lC LiW:=by
 rintro ⟨a,b,c,d,e,f,g,h,i,j⟩ r ⟨h1,h2,h3,h4,h5,h6,h7,h8,h9⟩;unfold iM lC bn;simp only [List.flatMap_cons,List.flatMap_nil,List.append_nil,List.append_assoc] at *;rw [Nv _ _ h1];simp only;rw [Nh _ _ h2];simp only;rw [Nh _ _ h3];simp only;rw [Ie _ _ h4];simp only;rw [wR ajj agX _ _ h5];simp only;rw [Ie _ _ h6];simp only;rw [Ie _ _ h7];simp only;rw [jc _ _ h8];simp only;rw [jc _ _ (oQ i)];simp only;rw [jc _ _ h9];simp only [Oj]
def FaW (f:Fac):Prop:=N0 f.issuer∧f.name.length≤9223372036854775000∧N0 f.period∧N0 f.value∧N0 f.day
theorem ai8:Bk jU lI FaW:=by
 rintro ⟨a,b,c,d,e⟩ r ⟨h1,h2,h3,h4,h5⟩;unfold jU lI bn;simp only [List.flatMap_cons,List.flatMap_nil,List.append_nil,List.append_assoc] at *;rw [jc _ _ h1];simp only;rw [Nv _ _ h2];simp only;rw [jc _ _ h3];simp only;rw [jc _ _ h4];simp only;rw [jc _ _ h5]
def YW (p:Pay):Prop:=N0 p.issue∧N0 p.seat∧N0 p.day∧N0 p.due∧N0 p.paid∧dG p.period
theorem ajk:Bk kG lG YW:=by
 rintro ⟨a,b,c,d,e,f⟩ r ⟨h1,h2,h3,h4,h5,h6⟩;unfold kG lG bn;simp only [List.flatMap_cons,List.flatMap_nil,List.append_nil,List.append_assoc] at *;rw [jc _ _ h1];simp only;rw [jc _ _ h2];simp only;rw [jc _ _ h3];simp only;rw [jc _ _ h4];simp only;rw [jc _ _ h5];simp only;rw [Ie _ _ h6]
def PrW (p:Pro):Prop:=N0 p.issue∧p.text.length≤9223372036854775000∧N0 p.day∧((∀ n∈p.units,dG n)∧p.units.length≤9223372036854775807)∧((∀ v∈p.votes,N0 v.seat∧N0 v.day)∧p.votes.length≤1000000000)
theorem ajc:Bk iU lu PrW:=by
 rintro ⟨a,b,c,d,e,f⟩ r ⟨h1,h2,h3,h4,h5⟩;unfold iU lu bn;simp only [List.flatMap_cons,List.flatMap_nil,List.append_nil,List.append_assoc] at *;rw [jc _ _ h1];simp only;rw [Nv _ _ h2];simp only;rw [jc _ _ h3];simp only;rw [Nh _ _ h4];simp only;rw [wR aiQ ail _ _ h5];simp only;rw [jc _ _ (oQ f)];simp only [Oj]
theorem abe (s:List UInt8):textS s≠[]:=by unfold textS;simp
theorem ag1 (x:Lin) (_:LiW x):lC x≠[]:=by
 unfold lC;simp only [List.append_assoc];intro e;exact abe _ (List.append_eq_nil_iff.1 e).1
theorem Xd {p:Prop}(h:p:=by
 simp only [List.flatMap_cons,List.append_assoc];intro e;exact yD h.1.1 (List.append_eq_nil_iff.1 e).1):p:=h
theorem ahh (f:Fac) (h:FaW f):lI f≠[]:=by
 unfold lI bn;exact Xd
theorem ahy (p:Pay) (h:YW p):lG p≠[]:=by
 unfold lG bn;exact Xd
theorem agL (p:Pro) (h:PrW p):lu p≠[]:=by
 unfold lu bn;exact Xd
structure StW (s:Sta):Prop where
 day:N0 s.day
 cash:(∀ n∈s.cash,N0 n)∧s.cash.length≤1000000000
 purses:(∀ n∈s.purses,N0 n)∧s.purses.length≤1000000000
 outside:dG s.outside
 lines:(∀ x∈s.lines,LiW x)∧s.lines.length≤1000000000
 facts:(∀ x∈s.facts,FaW x)∧s.facts.length≤1000000000
 payments:(∀ x∈s.payments,YW x)∧s.payments.length≤1000000000
 proposals:(∀ x∈s.proposals,PrW x)∧s.proposals.length≤1000000000
theorem ajv:Bk Hl Jw StW:=by
 rintro ⟨a,b,c,d,e,f,g,h⟩ r ⟨h1,h2,h3,h4,h5,h6,h7,h8⟩;unfold Hl Jw bn;simp only [List.flatMap_cons,List.flatMap_nil,List.append_nil,List.append_assoc] at *;rw [jc _ _ h1];simp only;rw [wR jc (fun n hn=>yD hn.1) _ _ h2];simp only;rw [wR jc (fun n hn=>yD hn.1) _ _ h3];simp only;rw [Ie _ _ h4];simp only;rw [wR aiF ag1 _ _ h5];simp only;rw [wR ai8 ahh _ _ h6];simp only;rw [wR ajk ahy _ _ h7];simp only;rw [wR ajc agL _ _ h8]
theorem adV {p:Prop}(h:p:=by
 have a:=h m (by simp);have b:=ih fun k hk=>h k (by simp [hk])
 rw [List.sum_cons];omega):p:=h
theorem vV:∀ (l:List Int) (t v:Int),0≤t→t≤gX→(kR t l=some v↔(∀ n∈l,0≤n)∧t+l.sum≤gX∧v=t+l.sum)
 | [],t,v,h0,h1=>by
  unfold kR;simp;constructor
  ·intro h;exact ⟨h1,h.symm⟩
  ·rintro ⟨_,h⟩;exact h.symm
 | n::l,t,v,h0,h1=>by
  unfold kR;have pos:(∀ m∈l,0≤m)→0≤l.sum:=by
   clear h0 h1;induction l with
   | nil=>intro _;simp
   | cons m l ih =>
    intro h;exact adV
  rw [List.sum_cons];by_cases hc:0≤n∧n≤gX-t
  ·rw [if_pos hc,vV l (t+n) v (by omega) (by omega)];constructor
   ·rintro ⟨a,b,c⟩;refine ⟨fun m hm=>?_,by omega,by omega⟩;rcases List.mem_cons.1 hm with rfl | hm
    ·exact hc.1
    ·exact a m hm
   ·rintro ⟨a,b,c⟩;exact ⟨fun m hm=>a m (List.mem_cons_of_mem _ hm),by omega,by omega⟩
  ·rw [if_neg hc];constructor
   ·intro h;cases h
   ·rintro ⟨a,b,_⟩;have hn:=a n (by simp);have hp:=pos fun m hm=>a m (List.mem_cons_of_mem _ hm)
    exact absurd ⟨hn,by omega⟩ hc
theorem zA {l:List Int} (h:∀ n∈l,0≤n):0≤l.sum:=by
 induction l with
 | nil=>simp
 | cons m l ih =>
  exact adV
theorem Sj (s:Sta) (v:Int):xU s=some v↔((∀ n∈s.cash,0≤n)∧∀ n∈s.purses,0≤n)∧s.cash.sum+s.purses.sum≤gX∧v=s.cash.sum+s.purses.sum:=by
 unfold xU;have h0:(0:Int)≤gX:=by decide
 rw [Option.bind_eq_some_iff];constructor
 ·rintro ⟨t,h1,h2⟩;obtain ⟨a,b,c⟩:=(vV s.cash 0 t (Int.le_refl _) h0).1 h1;have hn:=zA a;obtain ⟨d,e,f⟩:=(vV s.purses t v (by omega) (by omega)).1 h2;exact ⟨⟨a,d⟩,by omega,by omega⟩
 ·rintro ⟨⟨a,d⟩,b,c⟩;have hn:=zA a;have hp:=zA d;exact ⟨s.cash.sum,(vV s.cash 0 _ (Int.le_refl _) h0).2 ⟨a,by omega,by omega⟩,(vV s.purses _ v aI aI).2 ⟨d,by omega,by omega⟩⟩
theorem aao (s:Sta):(xU s).isSome=true↔((∀ n∈s.cash,0≤n)∧∀ n∈s.purses,0≤n)∧s.cash.sum+s.purses.sum≤gX:=by
 rw [Option.isSome_iff_exists];constructor
 ·rintro ⟨v,h⟩;obtain ⟨a,b,_⟩:=(Sj s v).1 h;exact ⟨a,b⟩
 ·rintro ⟨a,b⟩;exact ⟨_,(Sj s _).2 ⟨a,b,rfl⟩⟩
theorem L_ {l:List Int} (h:∀ n∈l,0≤n):∀ n∈l,n≤l.sum:=by
 induction l with
 | nil=>intro n hn;cases hn
 | cons m l ih =>
  intro n hn;have a:=h m (by simp);have b:=zA fun k hk=>h k (List.mem_cons_of_mem m hk)
  rw [List.sum_cons];rcases List.mem_cons.1 hn with rfl | hn
  ·omega
  ·have:=ih (fun k hk=>h k (List.mem_cons_of_mem m hk)) n hn;omega
theorem A_ {a b:Int} {l:List Int}:inB a b l=true↔∀ n∈l,a≤n∧n≤b:=by
 unfold inB;simp
theorem sZ {a b n:Int} (h:inB a b [n]=true) (ha:0≤a) (hb:b≤9223372036854775807):N0 n:=by
 have:=A_.1 h n (by simp);unfold N0 dG;omega
theorem Ea {a b n:Int} {l:List Int} (h:inB a b l=true) (hn:n∈l) (ha:-9223372036854775808≤a) (hb:b≤9223372036854775807):dG n:=by
 have:=A_.1 h n hn;unfold dG;omega
theorem Yi {s:List UInt8} {T:List Tok} (h:jr s=.ok T):s.length≤4000:=by
 unfold jr at h;split at h
 ·cases h
 ·omega
theorem Gz {s:List UInt8} (h:wP s=true):s.length≤4000:=by
 unfold wP iK at h;cases hl:jr s with
 | error e=>rw [hl] at h;cases h
 | ok T=>exact Yi hl
theorem G8:∀ (l:List Fac) (k:Int),mF k l=true→∀ f∈l,j_ f=true
 | [],_,_,f,hf=>by cases hf
 | g::l,k,h,f,hf=>by
  unfold mF at h;simp only [Bool.and_eq_true] at h;rcases List.mem_cons.1 hf with rfl | hf
  ·exact h.1.1
  ·exact G8 l _ h.2 f hf
theorem Vt {s:Sta} (h:fM s=true):StW s:=by
 unfold fM at h;simp only [Bool.and_eq_true,decide_eq_true_eq,List.all_eq_true] at h;obtain ⟨⟨⟨⟨⟨⟨hsum,hday⟩,hcl⟩,hpl⟩,hout⟩,⟨⟨hll,hpay⟩,hpro⟩,hfac⟩,⟨hl,hp⟩,hq⟩:=h;obtain ⟨⟨c0,p0⟩,hm⟩:=(aao s).1 hsum;have cs:=zA c0;have ps:=zA p0;have hM:gX=1000000000000000000:=rfl;have uni:∀ {k:Int} {l:List Int},jk k l=true→∀ n∈l,dG n:=fun h n hn=>by
  unfold jk at h;simp only [Bool.and_eq_true] at h;exact Ea h.2 hn bT bT
 have ul:∀ {k:Int} {l:List Int},jk k l=true→k≤20000→l.length≤9223372036854775807:=fun h hk=>by
  unfold jk at h;simp only [Bool.and_eq_true,decide_eq_true_eq] at h;omega
 refine ⟨sZ hday (by decide) (by decide),⟨fun n hn=>?_,by omega⟩,⟨fun n hn=>?_,by omega⟩,Ea hout (by simp) (by decide) (by decide),⟨fun x hx=>?_,by omega⟩,⟨fun x hx=>?_,?_⟩,⟨fun x hx=>?_,by omega⟩,⟨fun x hx=>?_,by omega⟩⟩
 ·have a:=c0 n hn;have b:=L_ c0 n hn;unfold N0 dG;omega
 ·have a:=p0 n hn;have b:=L_ p0 n hn;unfold N0 dG;omega
 ·have h:=hl x hx;unfold mJ at h;simp only [Bool.and_eq_true,decide_eq_true_eq,List.all_eq_true,Bool.or_eq_true] at h;obtain ⟨⟨⟨⟨hp,⟨hu,hn⟩,hna⟩,⟨hfc,hpr⟩,hsi⟩,hsl⟩,hst⟩:=h;refine ⟨by have:=Gz hp;omega,⟨uni hu,ul hu (by omega)⟩,?_,Ea hna (by simp) (by decide) (by decide),⟨fun b hb=>?_,by omega⟩,Ea hfc (by simp) (by decide) (by decide),Ea hfc (by simp) (by decide) (by decide),sZ hpr (by decide) (by decide),sZ hsi (by decide) (by decide)⟩
  ·rcases hn with hn | hn
   ·rw [hn];exact ⟨fun n hn=>(by cases hn),by simp⟩
   ·exact ⟨uni hn,ul hn aI⟩
  ·have h:=hst b hb;unfold pY at h;simp only [Bool.and_eq_true] at h;exact ⟨sZ h.1 bT bT,sZ h.2 bT bT⟩
 ·unfold qy at hfac;simp only [Bool.and_eq_true,decide_eq_true_eq] at hfac;have h:=G8 _ _ hfac.2 x hx;unfold j_ at h;simp only [Bool.and_eq_true,decide_eq_true_eq] at h;obtain ⟨⟨⟨⟨⟨a,b⟩,⟨c,d⟩,e⟩,f⟩,g⟩,n⟩:=h;have hnl:=Uf n;refine ⟨?_,by omega,?_,?_,?_⟩<;>unfold N0 dG<;>omega
 ·unfold qy at hfac;simp only [Bool.and_eq_true,decide_eq_true_eq] at hfac;omega
 ·have h:=hp x hx;unfold jE at h;simp only [Bool.and_eq_true] at h;obtain ⟨⟨⟨⟨⟨a,b⟩,c⟩,d⟩,e⟩,f⟩:=h;have hd:=A_.1 d x.due (by simp);exact ⟨sZ a (by decide) (by omega),sZ b (by decide) (by omega),sZ c (by decide) (by decide),sZ d (by decide) (by decide),sZ e (by decide) (by omega),Ea f (by simp) (by decide) (by decide)⟩
 ·have h:=hq x hx;unfold qK at h;simp only [Bool.and_eq_true,decide_eq_true_eq,List.all_eq_true] at h;obtain ⟨⟨⟨⟨⟨a,b⟩,c⟩,d⟩,e⟩,f⟩:=h;refine ⟨sZ a bT aI,by omega,sZ c bT bT,⟨uni d,ul d aI⟩,⟨fun v hv=>?_,by omega⟩⟩;have h:=f v hv;unfold t_ at h;simp only [Bool.and_eq_true] at h;exact ⟨sZ h.1 bT aI,sZ h.2 bT bT⟩
theorem agS {s:Sta} (h:N0 s.day):Jw s≠[]:=by
 unfold Jw bn;simp only [List.flatMap_cons,List.append_assoc];intro e;exact yD h.1 (List.append_eq_nil_iff.1 e).1
theorem YD {s:Sta} (h:fM s=true):vk s≠[]∧Hl ⟨vk s,false⟩=(s,⟨[],false⟩)∧readB (vk s)=true:=by
 have w:=Vt h;have e:vk s=Jw s:=by unfold vk;rw [if_pos h]
 have hb:=ajv s [] w;rw [List.append_nil] at hb;have hne:vk s≠[]:=by rw [e];exact agS w.day
 refine ⟨hne,by rw [e];exact hb,?_⟩;unfold readB;rw [decide_eq_false hne,e,hb];simp only [Qw];rw [e];simp
theorem agh (n a b:Int):ak Tryz.prog 136 [.int .i64 n,.rop [.int .i64 a],.rop [.int .i64 b]] (.bool (decide (n<a)||decide (b<n))):=by
 refine aO (au 13 [0,1,2,4]) Tryz.func136 ?_;conv=>whnf
 rfl
theorem TP (a b:Int) (l:List Int) (hl:l.length≤9223372036854775807):ak Tryz.prog 56 [.int .i64 a,.int .i64 b,.sl 1 encI 0 l] (.bool (inB a b l)):=by
 have h:=ags l 136 a b (fun n=>decide (n<a)||decide (b<n)) (fun e _=>agh e a b) hl;have he:inB a b l=!(l.any fun n=>decide (n<a)||decide (b<n)):=by
  unfold inB;clear h hl;induction l with
  | nil=>rfl
  | cons x l ih =>
   simp only [List.all_cons,List.any_cons];rw [ih];have e1:decide (x<a)=!decide (a≤x):=by by_cases h:a≤x<;>simp [h]<;>omega
   have e2:decide (b<x)=!decide (x≤b):=by by_cases h:x≤b<;>simp [h]<;>omega
   rw [e1,e2];cases decide (a≤x)<;>cases decide (x≤b)<;>simp
 refine aO (au 11 [0,1,2,3,4,6]) Tryz.func56 ?_;conv=>whnf
 refine .one _ _ _ (fun _=>h) (.cons (lS rfl) (.cons (.fn _ _ _ _ _ _ _ .nil (.cons (.box _ _ _ _ _ _ rfl (.cons (.base (.same _ rfl)) .nil) (fun q hq=>(by rcases List.mem_singleton.1 hq with rfl;rfl))) (.cons (.box _ _ _ _ _ _ rfl (.cons (.base (.same _ rfl)) .nil) (fun q hq=>(by rcases List.mem_singleton.1 hq with rfl;rfl))) .nil))) .nil)) (.inr fun r hr=>Tn) (.inl rfl) (cW ?_);rw [he];rfl
abbrev Ub:AV:=.fn (.func 55) [] []
abbrev unV (seats:Int):AV:=.fn (.func 57) [] [.rop [.int .i64 seats]]
theorem afX (l:List Brc) (c:AV) (ht:c.tree=true) (h1:c.one=true) (p:Brc→Bool) (hf:∀ e∈l,ak Tryz.prog 138 [gy e,.rop [c]] (.bool (p e))) (hl:l.length≤9223372036854775807) :
  ak Tryz.prog 180 [.sl 2 gy fG l,.fn (.func 138) [] [.rop [c]]] (.int .i64 (dN p l)):=by
 refine aO (au 19 [0,1,4,5,7,8,9,16]) Tryz.func180 ?_;conv=>whnf
 refine aX (au _ _) l.length (fun k=>∀ j,j<k→p (l.getD j fG)=false) (fun k=>⟨[(0,.sl 2 gy fG l),(1,.fn (.func 138) [] [.rop [c]]),(7,.int .i64 (l.length:Nat)),(8,.int .i64 (k:Nat))],[],0⟩) mZ ((aj [] rfl ⟨ah,.fn _ _ _ _ _ fP fP,ah,ah,trivial⟩ trivial)) ?_;intro k hk hP;conv=>whnf
 refine ⟨fun hd=>?_,fun hd=>?_⟩
 ·have hd:=of_decide_eq_true hd;have hlt:k<l.length:=by omega
  have hek:(k:Int).toNat=k:=Int.toNat_natCast k;have hc:=hf _ (getD_mem (d:=fG) hlt);exact Uz
 ·exact Ko
theorem T_ {p:Prop}(h:p:=by
 conv=>whnf
 refine .one _ _ _ (fun _=>h) BI uU uO (cW ?_);show [AR.val (AV.bool (decide (dN p l ≥ 0)))]=_;rw [← Kr p l]):p:=h
theorem agr (l:List Brc) (p:Brc→Bool) (hf:∀ e∈l,ak Tryz.prog 138 [gy e,.rop [.fn (.func 60) [] [.rop [.fn (.func 55) [] []]]]] (.bool (p e))) (hl:l.length≤9223372036854775807) :
  ak Tryz.prog 137 [.sl 2 gy fG l,.fn (.func 138) [] [.rop [.fn (.func 60) [] [.rop [.fn (.func 55) [] []]]]]] (.bool (l.any p)):=by
 have h:=afX l (.fn (.func 60) [] [.rop [.fn (.func 55) [] []]]) rfl rfl p hf hl;refine aO (au 9 [0,1,4]) Tryz.func137 ?_;exact T_
theorem RP {p:Prop}(h:p:=by
 conv=>whnf
 refine .one _ _ _ (fun _=>h) BI uU uO (cW ?_);rfl):p:=h
theorem afS (l:List Brc) (p:Brc→Bool) (hf:∀ e∈l,ak Tryz.prog 60 [gy e,.rop [.fn (.func 55) [] []]] (.bool (p e))) (hl:l.length≤9223372036854775807) :
  ak Tryz.prog 61 [.sl 2 gy fG l,.fn (.func 60) [] [.rop [.fn (.func 55) [] []]]] (.bool (l.all p)):=by
 have hc:∀ e∈l,ak Tryz.prog 138 [gy e,.rop [.fn (.func 60) [] [.rop [.fn (.func 55) [] []]]]] (.bool (!p e)):=fun e he=>by
  have h:=hf e he;refine aO (au 8 [0,1,2,3]) Tryz.func138 ?_;exact E_
 have h:=agr l (fun e=>!p e) hc hl;have he:l.all p=!(l.any fun e=>!p e):=by rw [List.not_any_eq_all_not];simp
 rw [he];refine aO (au 9 [0,1,3,4]) Tryz.func61 ?_;exact RP
theorem afq (l:List Vot) (c:AV) (ht:c.tree=true) (h1:c.one=true) (p:Vot→Bool) (hf:∀ e∈l,ak Tryz.prog 140 [gu e,.rop [c]] (.bool (p e))) (hl:l.length≤9223372036854775807) :
  ak Tryz.prog 181 [.sl 3 gu eU l,.fn (.func 140) [] [.rop [c]]] (.int .i64 (dN p l)):=by
 refine aO (au 19 [0,1,4,5,7,8,9,16]) Tryz.func181 ?_;conv=>whnf
 refine aX (au _ _) l.length (fun k=>∀ j,j<k→p (l.getD j eU)=false) (fun k=>⟨[(0,.sl 3 gu eU l),(1,.fn (.func 140) [] [.rop [c]]),(7,.int .i64 (l.length:Nat)),(8,.int .i64 (k:Nat))],[],0⟩) mZ ((aj [] rfl ⟨ah,.fn _ _ _ _ _ fP fP,ah,ah,trivial⟩ trivial)) ?_;intro k hk hP;conv=>whnf
 refine ⟨fun hd=>?_,fun hd=>?_⟩
 ·have hd:=of_decide_eq_true hd;have hlt:k<l.length:=by omega
  have hek:(k:Int).toNat=k:=Int.toNat_natCast k;have hc:=hf _ (getD_mem (d:=eU) hlt);exact Uz
 ·exact Ko
theorem agl (l:List Vot) (seats:Int) (p:Vot→Bool) (hf:∀ e∈l,ak Tryz.prog 140 [gu e,.rop [.fn (.func 64) [] [.rop [.int .i64 seats],.rop [.fn (.func 55) [] []]]]] (.bool (p e))) (hl:l.length≤9223372036854775807) :
  ak Tryz.prog 139 [.sl 3 gu eU l,.fn (.func 140) [] [.rop [.fn (.func 64) [] [.rop [.int .i64 seats],.rop [.fn (.func 55) [] []]]]]] (.bool (l.any p)):=by
 have h:=afq l (.fn (.func 64) [] [.rop [.int .i64 seats],.rop [.fn (.func 55) [] []]]) rfl rfl p hf hl;refine aO (au 9 [0,1,4]) Tryz.func139 ?_;exact T_
theorem afF (l:List Vot) (seats:Int) (p:Vot→Bool) (hf:∀ e∈l,ak Tryz.prog 64 [gu e,.rop [.int .i64 seats],.rop [.fn (.func 55) [] []]] (.bool (p e))) (hl:l.length≤9223372036854775807) :
  ak Tryz.prog 65 [.sl 3 gu eU l,.fn (.func 64) [] [.rop [.int .i64 seats],.rop [.fn (.func 55) [] []]]] (.bool (l.all p)):=by
 have hc:∀ e∈l,ak Tryz.prog 140 [gu e,.rop [.fn (.func 64) [] [.rop [.int .i64 seats],.rop [.fn (.func 55) [] []]]]] (.bool (!p e)):=fun e he=>by
  have h:=hf e he;refine aO (au 8 [0,1,2,3]) Tryz.func140 ?_;exact E_
 have h:=agl l seats (fun e=>!p e) hc hl;have he:l.all p=!(l.any fun e=>!p e):=by rw [List.not_any_eq_all_not];simp
 rw [he];refine aO (au 9 [0,1,3,4]) Tryz.func65 ?_;exact RP
theorem acj (l:List Lin) (c:AV) (ht:c.tree=true) (h1:c.one=true) (p:Lin→Bool) (hf:∀ e∈l,ak Tryz.prog 142 [dW e,.rop [c]] (.bool (p e))) (hl:l.length≤9223372036854775807) :
  ak Tryz.prog 182 [.sl 10 dW eP l,.fn (.func 142) [] [.rop [c]]] (.int .i64 (dN p l)):=by
 refine aO (au 19 [0,1,4,5,7,8,9,16]) Tryz.func182 ?_;conv=>whnf
 refine aX (au _ _) l.length (fun k=>∀ j,j<k→p (l.getD j eP)=false) (fun k=>⟨[(0,.sl 10 dW eP l),(1,.fn (.func 142) [] [.rop [c]]),(7,.int .i64 (l.length:Nat)),(8,.int .i64 (k:Nat))],[],0⟩) mZ ((aj [] rfl ⟨ah,.fn _ _ _ _ _ fP fP,ah,ah,trivial⟩ trivial)) ?_;intro k hk hP;conv=>whnf
 refine ⟨fun hd=>?_,fun hd=>?_⟩
 ·have hd:=of_decide_eq_true hd;have hlt:k<l.length:=by omega
  have hek:(k:Int).toNat=k:=Int.toNat_natCast k;have hc:=hf _ (getD_mem (d:=eP) hlt);exact Uz
 ·exact Ko
theorem adb (l:List Lin) (seats:Int) (p:Lin→Bool) (hf:∀ e∈l,ak Tryz.prog 142 [dW e,.rop [.fn (.func 59) [] [.rop [.fn (.func 55) [] []],.rop [.fn (.func 57) [] [.rop [.int .i64 seats]]]]]] (.bool (p e))) (hl:l.length≤9223372036854775807) :
  ak Tryz.prog 141 [.sl 10 dW eP l,.fn (.func 142) [] [.rop [.fn (.func 59) [] [.rop [.fn (.func 55) [] []],.rop [.fn (.func 57) [] [.rop [.int .i64 seats]]]]]]] (.bool (l.any p)):=by
 have h:=acj l (.fn (.func 59) [] [.rop [.fn (.func 55) [] []],.rop [.fn (.func 57) [] [.rop [.int .i64 seats]]]]) rfl rfl p hf hl;refine aO (au 9 [0,1,4]) Tryz.func141 ?_;exact T_
theorem ac2 (l:List Lin) (seats:Int) (p:Lin→Bool) (hf:∀ e∈l,ak Tryz.prog 59 [dW e,.rop [.fn (.func 55) [] []],.rop [.fn (.func 57) [] [.rop [.int .i64 seats]]]] (.bool (p e))) (hl:l.length≤9223372036854775807) :
  ak Tryz.prog 66 [.sl 10 dW eP l,.fn (.func 59) [] [.rop [.fn (.func 55) [] []],.rop [.fn (.func 57) [] [.rop [.int .i64 seats]]]]] (.bool (l.all p)):=by
 have hc:∀ e∈l,ak Tryz.prog 142 [dW e,.rop [.fn (.func 59) [] [.rop [.fn (.func 55) [] []],.rop [.fn (.func 57) [] [.rop [.int .i64 seats]]]]]] (.bool (!p e)):=fun e he=>by
  have h:=hf e he;refine aO (au 8 [0,1,2,3]) Tryz.func142 ?_;exact E_
 have h:=adb l seats (fun e=>!p e) hc hl;have he:l.all p=!(l.any fun e=>!p e):=by rw [List.not_any_eq_all_not];simp
 rw [he];refine aO (au 9 [0,1,3,4]) Tryz.func66 ?_;exact RP
theorem af6 (l:List Pay) (c:AV) (ht:c.tree=true) (h1:c.one=true) (p:Pay→Bool) (hf:∀ e∈l,ak Tryz.prog 144 [fZ e,.rop [c]] (.bool (p e))) (hl:l.length≤9223372036854775807) :
  ak Tryz.prog 183 [.sl 6 fZ pa0 l,.fn (.func 144) [] [.rop [c]]] (.int .i64 (dN p l)):=by
 refine aO (au 19 [0,1,4,5,7,8,9,16]) Tryz.func183 ?_;conv=>whnf
 refine aX (au _ _) l.length (fun k=>∀ j,j<k→p (l.getD j pa0)=false) (fun k=>⟨[(0,.sl 6 fZ pa0 l),(1,.fn (.func 144) [] [.rop [c]]),(7,.int .i64 (l.length:Nat)),(8,.int .i64 (k:Nat))],[],0⟩) mZ ((aj [] rfl ⟨ah,.fn _ _ _ _ _ fP fP,ah,ah,trivial⟩ trivial)) ?_;intro k hk hP;conv=>whnf
 refine ⟨fun hd=>?_,fun hd=>?_⟩
 ·have hd:=of_decide_eq_true hd;have hlt:k<l.length:=by omega
  have hek:(k:Int).toNat=k:=Int.toNat_natCast k;have hc:=hf _ (getD_mem (d:=pa0) hlt);exact Uz
 ·exact Ko
theorem agf (l:List Pay) (lines seats:Int) (p:Pay→Bool) (hf:∀ e∈l,ak Tryz.prog 144 [fZ e,.rop [.fn (.func 62) [] [.rop [.int .i64 lines],.rop [.int .i64 seats],.rop [.fn (.func 55) [] []]]]] (.bool (p e))) (hl:l.length≤9223372036854775807) :
  ak Tryz.prog 143 [.sl 6 fZ pa0 l,.fn (.func 144) [] [.rop [.fn (.func 62) [] [.rop [.int .i64 lines],.rop [.int .i64 seats],.rop [.fn (.func 55) [] []]]]]] (.bool (l.any p)):=by
 have h:=af6 l (.fn (.func 62) [] [.rop [.int .i64 lines],.rop [.int .i64 seats],.rop [.fn (.func 55) [] []]]) rfl rfl p hf hl;refine aO (au 9 [0,1,4]) Tryz.func143 ?_;exact T_
theorem afZ (l:List Pay) (lines seats:Int) (p:Pay→Bool) (hf:∀ e∈l,ak Tryz.prog 62 [fZ e,.rop [.int .i64 lines],.rop [.int .i64 seats],.rop [.fn (.func 55) [] []]] (.bool (p e))) (hl:l.length≤9223372036854775807) :
  ak Tryz.prog 67 [.sl 6 fZ pa0 l,.fn (.func 62) [] [.rop [.int .i64 lines],.rop [.int .i64 seats],.rop [.fn (.func 55) [] []]]] (.bool (l.all p)):=by
 have hc:∀ e∈l,ak Tryz.prog 144 [fZ e,.rop [.fn (.func 62) [] [.rop [.int .i64 lines],.rop [.int .i64 seats],.rop [.fn (.func 55) [] []]]]] (.bool (!p e)):=fun e he=>by
  have h:=hf e he;refine aO (au 8 [0,1,2,3]) Tryz.func144 ?_;exact E_
 have h:=agf l lines seats (fun e=>!p e) hc hl;have he:l.all p=!(l.any fun e=>!p e):=by rw [List.not_any_eq_all_not];simp
 rw [he];refine aO (au 9 [0,1,3,4]) Tryz.func67 ?_;exact RP
theorem afn (l:List Pro) (c:AV) (ht:c.tree=true) (h1:c.one=true) (p:Pro→Bool) (hf:∀ e∈l,ak Tryz.prog 146 [eF e,.rop [c]] (.bool (p e))) (hl:l.length≤9223372036854775807) :
  ak Tryz.prog 184 [.sl 6 eF fB l,.fn (.func 146) [] [.rop [c]]] (.int .i64 (dN p l)):=by
 refine aO (au 19 [0,1,4,5,7,8,9,16]) Tryz.func184 ?_;conv=>whnf
 refine aX (au _ _) l.length (fun k=>∀ j,j<k→p (l.getD j fB)=false) (fun k=>⟨[(0,.sl 6 eF fB l),(1,.fn (.func 146) [] [.rop [c]]),(7,.int .i64 (l.length:Nat)),(8,.int .i64 (k:Nat))],[],0⟩) mZ ((aj [] rfl ⟨ah,.fn _ _ _ _ _ fP fP,ah,ah,trivial⟩ trivial)) ?_;intro k hk hP;conv=>whnf
 refine ⟨fun hd=>?_,fun hd=>?_⟩
 ·have hd:=of_decide_eq_true hd;have hlt:k<l.length:=by omega
  have hek:(k:Int).toNat=k:=Int.toNat_natCast k;have hc:=hf _ (getD_mem (d:=fB) hlt);exact Uz
 ·exact Ko
theorem af9 (l:List Pro) (lines seats:Int) (p:Pro→Bool) (hf:∀ e∈l,ak Tryz.prog 146 [eF e,.rop [.fn (.func 63) [] [.rop [.int .i64 seats],.rop [.fn (.func 55) [] []],.rop [.int .i64 lines],.rop [.fn (.func 57) [] [.rop [.int .i64 seats]]]]]] (.bool (p e))) (hl:l.length≤9223372036854775807) :
  ak Tryz.prog 145 [.sl 6 eF fB l,.fn (.func 146) [] [.rop [.fn (.func 63) [] [.rop [.int .i64 seats],.rop [.fn (.func 55) [] []],.rop [.int .i64 lines],.rop [.fn (.func 57) [] [.rop [.int .i64 seats]]]]]]] (.bool (l.any p)):=by
 have h:=afn l (.fn (.func 63) [] [.rop [.int .i64 seats],.rop [.fn (.func 55) [] []],.rop [.int .i64 lines],.rop [.fn (.func 57) [] [.rop [.int .i64 seats]]]]) rfl rfl p hf hl;refine aO (au 9 [0,1,4]) Tryz.func145 ?_;exact T_
theorem agq (l:List Pro) (lines seats:Int) (p:Pro→Bool) (hf:∀ e∈l,ak Tryz.prog 63 [eF e,.rop [.int .i64 seats],.rop [.fn (.func 55) [] []],.rop [.int .i64 lines],.rop [.fn (.func 57) [] [.rop [.int .i64 seats]]]] (.bool (p e))) (hl:l.length≤9223372036854775807) :
  ak Tryz.prog 68 [.sl 6 eF fB l,.fn (.func 63) [] [.rop [.int .i64 seats],.rop [.fn (.func 55) [] []],.rop [.int .i64 lines],.rop [.fn (.func 57) [] [.rop [.int .i64 seats]]]]] (.bool (l.all p)):=by
 have hc:∀ e∈l,ak Tryz.prog 146 [eF e,.rop [.fn (.func 63) [] [.rop [.int .i64 seats],.rop [.fn (.func 55) [] []],.rop [.int .i64 lines],.rop [.fn (.func 57) [] [.rop [.int .i64 seats]]]]]] (.bool (!p e)):=fun e he=>by
  have h:=hf e he;refine aO (au 8 [0,1,2,3]) Tryz.func146 ?_;exact E_
 have h:=af9 l lines seats (fun e=>!p e) hc hl;have he:l.all p=!(l.any fun e=>!p e):=by rw [List.not_any_eq_all_not];simp
 rw [he];refine aO (au 9 [0,1,3,4]) Tryz.func68 ?_;exact RP
theorem nT (a b n:Int):ak Tryz.prog 56 [.int .i64 a,.int .i64 b,.sl 1 encI 0 [n]] (.bool (inB a b [n])):=TP a b [n] (by simp)
theorem afO (a b n m:Int):ak Tryz.prog 56 [.int .i64 a,.int .i64 b,.sl 1 encI 0 [n,m]] (.bool (inB a b [n,m])):=TP a b [n,m] (by simp)
theorem AQ (n:Int):ak Tryz.prog 55 [.int .i64 n] (.bool (kJ n)):=by
 have h:=nT 0 200000 n;refine aO (au 6 [0,2]) Tryz.func55 ?_;exact E_
theorem F6 (seats:Int) (l:List Int) (hl:l.length≤9223372036854775807):ak Tryz.prog 57 [.sl 1 encI 0 l,.rop [.int .i64 seats]] (.bool (jk seats l)):=by
 have h:=TP 0 1000000000 l hl;refine aO (au 12 [0,1,3]) Tryz.func57 ?_;exact E_
theorem aac (b:Brc):ak Tryz.prog 60 [gy b,.rop [Ub]] (.bool (pY b)):=by
 have h:=nT 0 3 b.stage;have h2:=AQ b.since;refine aO (au 14 [0,1,2,3]) Tryz.func60 ?_;conv=>whnf
 refine cO (fun _=>h) ?_;exact Qx
theorem abE (seats:Int) (hs:0≤seats∧seats≤9223372036854775807) (v:Vot):ak Tryz.prog 64 [gu v,.rop [.int .i64 seats],.rop [Ub]] (.bool (t_ seats v)):=by
 have h:=nT 0 (seats-1) v.seat;have h2:=AQ v.day;refine aO (au 17 [0,1,2,3,4]) Tryz.func64 ?_;conv=>whnf
 refine iO (cW ?_);refine cO (fun _=>h) ?_;exact Qx
theorem ahe {p:Prop}(h:p:=by
 refine aO (au 46 [0,1,2,3,4,5]) Tryz.func62 ?_;conv=>whnf
 refine iO (cW ?_);refine cO (fun _=>g1) (cW ?_);refine And.intro (fun _=>⟨by omega,by omega⟩) (cW ?_);refine nE (cW ?_);refine cO (fun _=>g2) (cW ?_);refine cO (fun _=>g3) (cW ?_);refine nE (cW ?_);refine cO (fun _=>g4) (cW ?_);refine nE (cW ?_);refine cO (fun _=>g5) (cW ?_);refine nE (cW ?_);refine cO (fun _=>g6) (cW ?_);rfl):p:=h
theorem ac1 {p:Prop}(h:p:=by
 conv=>whnf
 refine nD (cW ?_);refine cF [.int .i64 0,.int .i64 1000000000000000000,.undef] [.val (.bool false)] (cW ?_);refine nD (cW ?_);refine cF [.int .i64 0,.int .i64 p.due,.undef] [.val (.bool false)] (cW ?_);refine nD (cW ?_);refine cF [.int .i64 (-1),.int .i64 5000,.undef] [.val (.bool false)] (cW ?_);rfl):p:=h
theorem adN {p:Prop}(h:p:=by
 conv=>whnf
 refine nD (cW ?_);refine cF [.int .i64 (-1),.int .i64 5000,.undef] [.val (.bool false)] (cW ?_);rfl):p:=h
theorem afR (lines seats:Int) (h1:0≤lines∧lines≤9223372036854775807) (hs:0≤seats∧seats≤9223372036854775807) (p:Pay):ak Tryz.prog 62 [fZ p,.rop [.int .i64 lines],.rop [.int .i64 seats],.rop [Ub]] (.bool (jE lines seats p)):=by
 have g1:=nT 0 (lines-1) p.issue;have g2:=nT 0 (seats-1) p.seat;have g3:=AQ p.day;have g4:=nT 0 1000000000000000000 p.due;have g5:=nT 0 p.due p.paid;have g6:=nT (-1) 5000 p.period;have hM:gX=1000000000000000000:=rfl;cases e1:inB 0 (lines-1) [p.issue] with
 | false =>
  rw [e1] at g1;rw [show jE lines seats p=false by simp [jE,hM,e1]];refine aO (au 46 [0,1,2,3,4,5]) Tryz.func62 ?_;conv=>whnf
  refine iO (cW ?_);refine cO (fun _=>g1) (cW ?_);refine And.intro (fun _=>⟨by omega,by omega⟩) (cW ?_);refine nD (cW ?_);refine cF [.int .i64 0,.int .i64 (seats-1),.undef] [.val (.bool false)] (cW ?_);refine cF [.int .i64 p.day] [.val (.bool false)] ?_;exact ac1
 | true =>
  rw [e1] at g1;cases e2:inB 0 (seats-1) [p.seat] with
  | false =>
   rw [e2] at g2;rw [show jE lines seats p=false by simp [jE,hM,e1,e2]];refine aO (au 46 [0,1,2,3,4,5]) Tryz.func62 ?_;conv=>whnf
   refine iO (cW ?_);refine cO (fun _=>g1) (cW ?_);refine And.intro (fun _=>⟨by omega,by omega⟩) (cW ?_);refine nE (cW ?_);refine cO (fun _=>g2) (cW ?_);refine cF [.int .i64 p.day] [.val (.bool false)] ?_;exact ac1
  | true =>
   rw [e2] at g2;cases e3:kJ p.day with
   | false =>
    rw [e3] at g3;rw [show jE lines seats p=false by simp [jE,hM,e1,e2,e3]];refine aO (au 46 [0,1,2,3,4,5]) Tryz.func62 ?_;conv=>whnf
    refine iO (cW ?_);refine cO (fun _=>g1) (cW ?_);refine And.intro (fun _=>⟨by omega,by omega⟩) (cW ?_);refine nE (cW ?_);refine cO (fun _=>g2) (cW ?_);refine cO (fun _=>g3) ?_;exact ac1
   | true =>
    rw [e3] at g3;cases e4:inB 0 1000000000000000000 [p.due] with
    | false =>
     rw [e4] at g4;rw [show jE lines seats p=false by simp [jE,hM,e1,e2,e3,e4]];refine aO (au 46 [0,1,2,3,4,5]) Tryz.func62 ?_;conv=>whnf
     refine iO (cW ?_);refine cO (fun _=>g1) (cW ?_);refine And.intro (fun _=>⟨by omega,by omega⟩) (cW ?_);refine nE (cW ?_);refine cO (fun _=>g2) (cW ?_);refine cO (fun _=>g3) (cW ?_);refine nE (cW ?_);refine cO (fun _=>g4) (cW ?_);refine nD (cW ?_);refine cF [.int .i64 0,.int .i64 p.due,.undef] [.val (.bool false)] ?_;exact adN
    | true =>
     rw [e4] at g4;cases e5:inB 0 p.due [p.paid] with
     | false =>
      rw [e5] at g5;rw [show jE lines seats p=false by simp [jE,hM,e1,e2,e3,e4,e5]];refine aO (au 46 [0,1,2,3,4,5]) Tryz.func62 ?_;conv=>whnf
      refine iO (cW ?_);refine cO (fun _=>g1) (cW ?_);refine And.intro (fun _=>⟨by omega,by omega⟩) (cW ?_);refine nE (cW ?_);refine cO (fun _=>g2) (cW ?_);refine cO (fun _=>g3) (cW ?_);refine nE (cW ?_);refine cO (fun _=>g4) (cW ?_);refine nE (cW ?_);refine cO (fun _=>g5) ?_;exact adN
     | true =>
      rw [e5] at g5;cases e6:inB (-1) 5000 [p.period] with
      | false =>
       rw [e6] at g6;rw [show jE lines seats p=false by simp [jE,hM,e1,e2,e3,e4,e5,e6]];exact ahe
      | true =>
       rw [e6] at g6;rw [show jE lines seats p=true by simp [jE,hM,e1,e2,e3,e4,e5,e6]];exact ahe
def yO:Int→List (List Int)→Option Int
 | t,[]=>some t
 | t,l::L=>(kR t l).bind fun u=>yO u L
def ajU:Option Int→List AR
 | some v=>[.val (.int .i64 v),.val (.bool true)]
 | none=>[.val (.int .i64 0),.val (.bool false)]
theorem OW (s:Sta):yO 0 [s.cash,s.purses]=xU s:=by
 unfold xU;simp only [yO];congr 1
 funext t;cases kR t s.purses<;>rfl
def He (l:List Int):AV:=.sl 1 encI 0 l
theorem Aa {α:Type} {l:List α} {k:Nat} (d:α) (h:k<l.length):l.drop k=l.getD k d::l.drop (k+1):=by
 rw [List.drop_eq_getElem_cons h];simp [List.getD,List.getElem?_eq_getElem h]
theorem U8 (L:List (List Int)) (hL:L.length≤9223372036854775807) (hl:∀ l∈L,l.length≤9223372036854775807):bM Tryz.prog 58 [.sl 1 He [] L] (fun rs=>rs=ajU (yO 0 L)):=by
 refine aO (au 33 [0,2,3,4,6,8,9,10,11,12,15,16,17,18,26]) Tryz.func58 ?_;conv=>whnf
 refine dO (au _ _) (σ:=Nat×Int) (fun s=>s.1≤L.length∧0≤s.2∧s.2≤gX∧yO s.2 (L.drop s.1)=yO 0 L) (fun s=>L.length-s.1) (fun s=>⟨[(4,.int .i64 (s.2)),(9,.sl 1 He [] L),(10,.int .i64 (L.length:Nat)),(11,.int .i64 ((s.1):Nat))],[],0⟩) (0,0) ⟨Nat.zero_le _,Int.le_refl _,by decide,rfl⟩ ((aj [] rfl ⟨ah,ah,ah,ah,trivial⟩ trivial)) ?_;rintro ⟨i,t⟩ ⟨hi,h0,hm,hP⟩;simp only at hi h0 hm hP;show fQ _ _ (⟨[(4,.int .i64 t),(9,.sl 1 He [] L),(10,.int .i64 (L.length:Nat)),(11,.int .i64 (i:Nat))],[],0⟩) _;have hM:gX=1000000000000000000:=rfl;conv=>whnf
 refine ⟨fun hc=>?_,fun hc=>?_⟩
 ·have hc:=of_decide_eq_true hc;have hlt:i<L.length:=by omega
  have hek:(i:Int).toNat=i:=Int.toNat_natCast i;have hll:=hl _ (getD_mem (d:=[]) hlt);rw [Aa [] hlt] at hP;simp only [yO] at hP;conv=>whnf
  refine iO (cW ?_);refine And.intro rfl (cW ?_);rw [hek];generalize L.getD i []=l at *;conv=>whnf
  refine dO (au _ _) (σ:=Nat×Int) (fun s=>s.1≤l.length∧0≤s.2∧s.2≤gX∧((kR s.2 (l.drop s.1)).bind fun u=>yO u (L.drop (i+1)))=yO 0 L) (fun s=>l.length-s.1) (fun s=>⟨[(4,.int .i64 (s.2)),(9,.sl 1 He [] L),(10,.int .i64 (L.length:Nat)),(11,.int .i64 (i:Nat)),(15,.sl 1 encI 0 l),(16,.int .i64 (l.length:Nat)),(17,.int .i64 ((s.1):Nat))],[],0⟩) (0,t) ⟨Nat.zero_le _,h0,hm,hP⟩ ((aj [] rfl ⟨ah,ah,ah,ah,ah,ah,ah,trivial⟩ trivial)) ?_;rintro ⟨k,u⟩ ⟨hk,h0,hm,hP⟩;simp only at hk h0 hm hP;show fQ _ _ (⟨[(4,.int .i64 u),(9,.sl 1 He [] L),(10,.int .i64 (L.length:Nat)),(11,.int .i64 (i:Nat)),(15,.sl 1 encI 0 l),(16,.int .i64 (l.length:Nat)),(17,.int .i64 (k:Nat))],[],0⟩) _;conv=>whnf
  refine ⟨fun hd=>?_,fun hd=>?_⟩
  ·have hd:=of_decide_eq_true hd;have hlk:k<l.length:=by omega
   have hekk:(k:Int).toNat=k:=Int.toNat_natCast k;rw [Aa 0 hlk,kR] at hP;have hin:=nT 0 (1000000000000000000-u) (l.getD k 0);have hib:inB 0 (1000000000000000000-u) [l.getD k 0]=true↔0≤l.getD k 0∧l.getD k 0≤gX-u:=by rw [A_,hM];simp
   conv=>whnf
   refine iO (cW ?_);refine And.intro rfl (cW ?_);refine iO (cW ?_);rw [hekk];generalize l.getD k 0=n at *;conv=>whnf
   refine cO (fun _=>hin) (cW ?_);refine ⟨fun he=>?_,fun he=>?_⟩
   ·rw [if_neg (fun h=>by rw [hib.2 h] at he;cases he)] at hP;rw [← hP];conv=>whnf
    rfl
   ·have he:inB 0 (1000000000000000000-u) [n]=true:=by simpa using he
    have hn:=hib.1 he;rw [if_pos hn] at hP;conv=>whnf
    refine iO (cW ?_);refine iO (cW ?_);refine ⟨(k+1,u+n),⟨hlk,by show 0≤u+n;omega,by show u+n≤gX;omega,hP⟩,by show l.length-(k+1)<l.length-k;omega,(aj [] rfl ⟨ah,ah,ah,ah,ah,ah,ah,trivial⟩ trivial)⟩
  ·have hd:=of_decide_eq_false hd;obtain rfl:k=l.length:=by omega
   rw [List.drop_length,kR] at hP;conv=>whnf
   refine iO (cW ?_);refine ⟨(i+1,u),⟨hlt,h0,hm,hP⟩,by show L.length-(i+1)<L.length-i;omega,(aj [] rfl ⟨ah,ah,ah,ah,trivial⟩ trivial)⟩
 ·have hc:=of_decide_eq_false hc;obtain rfl:i=L.length:=by omega
  rw [List.drop_length,yO] at hP;rw [← hP];conv=>whnf
  rfl
structure Sr where
 r:List Tok
 er:Option Er
def aH (s:Sr):Tok:=match s.er with
 | none=>bV s.r
 | some _=>t0
def dD (e:Int) (s:Sr):Sr:=match s.er with
 | none=>⟨s.r,some ((bV s.r).pos,e)⟩
 | some _=>s
def isS (w:List UInt8) (s:Sr):Bool:=decide ((aH s).kind≠3)&&decide ((aH s).text=w)
def aK (s:Sr):Sr:=⟨s.r.tail,s.er⟩
def XH (w:List UInt8) (s:Sr):Sr:=if isS w s=true then aK s else s
def aU (w:List UInt8) (s:Sr):Sr:=if isS w s=true then aK s else dD 12 s
def gB (s:Sr):Bool:=decide ((aH s).kind=0)&&nameB (aH s).text
def lg (s:Sr):List UInt8×Sr:=if gB s=true then ((aH s).text,aK s) else ([],dD 12 s)
def fJ (a b:Int) (s:Sr):Int×Sr :=
 if (aH s).kind≠1 then (0,dD 12 s) else if a≤(aH s).n∧(aH s).n≤b then ((aH s).n,aK s) else (0,dD 3 s)
abbrev iC:=Int→Sr→Exp×Sr
def pW (s:Sr):Int×Sr :=
 if isS [99,111,105,110,115] s=true then (1,aK s)
 else if isS [100,97,121,115] s=true then (3,aK s)
 else if isS [109,105,108,108,101] s=true then (2,aK s)
 else (0,s)
def iR (ex:iC) (op:Int) (s:Sr):Exp×Sr :=
 (.mk op (fJ 1 1000 s).1 0 [] [(ex 0 (aU [40] (fJ 1 1000 s).2)).1],aU [41] (ex 0 (aU [40] (fJ 1 1000 s).2)).2)
def o7 (op:Int) (s:Sr):Exp×Sr:=(.mk op 0 0 (lg s).1 [],(lg s).2)
def sU (ex:iC) (op:Int) (s:Sr):Exp×Sr :=
 (.mk op 0 0 [] [(ex 0 (aU [40] s)).1,(ex 0 (aU [44] (ex 0 (aU [40] s)).2)).1],aU [41] (ex 0 (aU [44] (ex 0 (aU [40] s)).2)).2)
def vM (ex:iC) (s:Sr):Exp×Sr:=((ex 0 s).1,aU [41] (ex 0 s).2)
def sJ (ex:iC) (s:Sr):Exp×Sr :=
 if (aH s).kind=1 then (.mk 0 (aH s).n (pW (aK s)).1 [] [],(pW (aK s)).2)
 else if isS [116,114,117,101] s=true then (.mk 0 1 4 [] [],aK s)
 else if isS [102,97,108,115,101] s=true then (.mk 0 0 4 [] [],aK s)
 else if isS [102,97,99,116] s=true then o7 2 (aK s)
 else if isS [114,97,116,101] s=true then o7 3 (aK s)
 else if isS [101,118,101,114] s=true then iR ex 16 (aK s)
 else if isS [108,111,110,103] s=true then iR ex 17 (aK s)
 else if isS [115,111,111,110] s=true then iR ex 18 (aK s)
 else if isS [109,105,110] s=true then sU ex 8 (aK s)
 else if isS [109,97,120] s=true then sU ex 9 (aK s)
 else if isS [40] s=true then vM ex (aK s)
 else o7 1 s
def fF (t:Tok):Int×Int :=
 if t.kind=3 then (-1,0)
 else if t.text=[111,114] then (14,1)
 else if t.text=[97,110,100] then (13,2)
 else if t.text=[61,61] then (11,4)
 else if t.text=[60] then (10,4)
 else if t.text=[43] then (4,5)
 else if t.text=[45] then (5,5)
 else if t.text=[42] then (6,6)
 else if t.text=[47] then (7,6)
 else (-1,0)
def loopS (ex:iC) (form:Int):Nat→Exp→Sr→Exp×Sr
 | 0,e,s=>(e,s)
 | f+1,e,s =>
  if (fF (aH s)).1<0∨(fF (aH s)).2≠form then (e,s)
  else if form=4 then (.mk (fF (aH s)).1 0 0 [] [e,(ex (form+1) (aK s)).1],(ex (form+1) (aK s)).2)
  else loopS ex form f (.mk (fF (aH s)).1 0 0 [] [e,(ex (form+1) (aK s)).1]) (ex (form+1) (aK s)).2
def KJ (ex:iC) (s:Sr):Exp×Sr :=
 (.mk 15 0 0 [] [(ex 0 s).1,(ex 0 (aU [116,104,101,110] (ex 0 s).2)).1,(ex 0 (aU [101,108,115,101] (ex 0 (aU [116,104,101,110] (ex 0 s).2)).2)).1],
  (ex 0 (aU [101,108,115,101] (ex 0 (aU [116,104,101,110] (ex 0 s).2)).2)).2)
def notS (ex:iC) (s:Sr):Exp×Sr:=(.mk 12 0 0 [] [(ex 3 s).1],(ex 3 s).2)
def yJ (ex:iC) (form:Int) (s:Sr):Exp×Sr :=
 if s.er.isSome=true then (Es,s)
 else if form=0∧isS [105,102] s=true then KJ ex (aK s)
 else if form=0 then ex 1 s
 else if form=3∧isS [110,111,116] s=true then notS ex (aK s)
 else if form=7 then sJ ex s
 else if form=3 then ex 4 s
 else loopS ex form (ex (form+1) s).2.r.length (ex (form+1) s).1 (ex (form+1) s).2
def SC:Nat→iC
 | 0,_,s=>(Es,s)
 | f+1,form,s=>yJ (SC f) form s
def okE (s:Sr):Prop:=∀ e,s.er=some e→e.2≠0
structure SS (s s':Sr):Prop where
 suf:iw s.r s'.r
 ok:okE s→okE s'
 keep:∀ e,s.er=some e→s'.er=some e
theorem SS.bad {s s':Sr} (h:SS s s') (hs:s.er.isSome=true):s'.er.isSome=true:=by
 obtain ⟨e,he⟩:=Option.isSome_iff_exists.1 hs;rw [h.keep e he];rfl
theorem SS.refl (s:Sr):SS s s:=⟨.refl _,id,fun _=>id⟩
theorem SS.trans {a b c:Sr} (h:SS a b) (h':SS b c):SS a c:=⟨h.suf.trans h'.suf,fun x=>h'.ok (h.ok x),fun e x=>h'.keep e (h.keep e x)⟩
structure SSt (T:List Tok) (s:Sr):Prop where
 st:PSt T s.r
 ok:okE s
 e3:∀ t∈T,t.kind=3→t.text=[]
theorem SSt.to {T:List Tok} {s s':Sr} (h:SSt T s) (hs:SS s s'):SSt T s':=⟨h.st.to hs.suf,hs.ok h.ok,h.e3⟩
theorem iT (e:Int) (he:e≠0) (s:Sr):SS s (dD e s):=by
 rcases s with ⟨r,_ | x⟩
 ·exact ⟨.refl _,fun _ y hy=>by cases hy;exact he,fun _ h=>by cases h⟩
 ·exact .refl _
theorem rD {s:Sr} (h:(aH s).kind≠3) (h0:s.er=none):SS s (aK s):=by
 rcases s with ⟨r,_ | x⟩
 ·exact ⟨.tail h,(fun _ y hy=>by cases hy),(fun _ h=>by cases h)⟩
 ·cases h0
theorem uw {w:List UInt8} {s:Sr} (hw:w≠[]) (h:isS w s=true):s.er=none:=by
 rcases s with ⟨r,_ | x⟩
 ·rfl
 ·unfold isS at h;simp only [Bool.and_eq_true,decide_eq_true_eq] at h;exact absurd h.2.symm hw
theorem afK {w:List UInt8} {s:Sr} (h:isS w s=true):(aH s).kind≠3:=by
 unfold isS at h;simp only [Bool.and_eq_true,decide_eq_true_eq] at h;exact h.1
theorem fV {w:List UInt8} {s:Sr} (hw:w≠[]) (h:isS w s=true):SS s (aK s):=rD (afK h) (uw hw h)
theorem aP (w:List UInt8) (hw:w≠[]) (s:Sr):SS s (aU w s):=by
 unfold aU;split
 ·rename_i h;exact fV hw h
 ·exact iT _ bT _
theorem kind_none {s:Sr} (h:(aH s).kind=1):s.er=none:=by
 rcases s with ⟨r,_ | x⟩
 ·rfl
 ·exact absurd (show (0:Int)=1 from h) (by decide)
theorem LX {s:Sr} (h:gB s=true):s.er=none:=by
 rcases s with ⟨r,_ | x⟩
 ·rfl
 ·unfold gB at h;simp only [Bool.and_eq_true] at h;exact absurd (show nameB []=true from h.2) (by decide)
theorem uD (s:Sr):SS s (lg s).2:=by
 unfold lg;split
 ·rename_i h;refine rD ?_ (LX h);unfold gB at h;simp only [Bool.and_eq_true,decide_eq_true_eq] at h;show (aH s).kind≠3;rw [h.1];decide
 ·exact iT _ bT _
theorem iZ (a b:Int) (s:Sr):SS s (fJ a b s).2:=by
 unfold fJ;split
 ·exact iT _ bT _
 ·rename_i h;have h:=Decidable.of_not_not h;split
  ·exact rD (by rw [h];decide) (kind_none h)
  ·exact iT _ bT _
theorem afi (a b:Int) (s:Sr):(fJ a b s).1=0∨a≤(fJ a b s).1∧(fJ a b s).1≤b:=by
 unfold fJ;split
 ·exact .inl rfl
 ·split
  ·rename_i h;exact .inr h
  ·exact .inl rfl
def mS (s:Sr):Nat:=if s.er.isSome=true then 0 else s.r.length
theorem SS.le {s s':Sr} (h:SS s s'):mS s'≤mS s:=by
 unfold mS;cases h1:s.er.isSome with
 | true=>rw [h.bad h1];exact Nat.le_refl _
 | false =>
  split
  ·exact Nat.zero_le _
  ·exact h.suf.le
theorem ahV {T:List Tok} {s:Sr} (h:SSt T s) (h0:s.er=none):mS (aK s)<mS s:=by
 unfold mS aK;rw [h0];exact lJ h.st.fin
def jW (ex:iC):Prop:=∀ form s,SS s (ex form s).2
theorem afG (s:Sr):SS s (pW s).2:=by
 unfold pW;split
 ·rename_i h;exact fV (by decide) h
 split
 ·rename_i h;exact fV (by decide) h
 split
 ·rename_i h;exact fV (by decide) h
 ·exact .refl _
theorem aay {ex:iC} (h:jW ex) (op:Int) (s:Sr):SS s (iR ex op s).2 :=
 (((iZ 1 1000 s).trans (aP [40] (by decide) _)).trans (h _ _)).trans (aP [41] (by decide) _)
theorem Vy {ex:iC} (h:jW ex) (op:Int) (s:Sr):SS s (sU ex op s).2 :=
 ((((aP [40] (by decide) _).trans (h _ _)).trans (aP [44] (by decide) _)).trans (h _ _)).trans (aP [41] (by decide) _)
theorem aco {ex:iC} (h:jW ex) (s:Sr):SS s (vM ex s).2:=(h _ _).trans (aP [41] (by decide) _)
theorem Yl {p:Prop}(h:p:=by
 rename_i hb;exact (fV (by decide) hb).trans (aay h _ _)):p:=h
theorem afD {ex:iC} (h:jW ex) (s:Sr):SS s (sJ ex s).2:=by
 unfold sJ;split
 ·rename_i hk;exact (rD (by rw [hk];decide) (kind_none hk)).trans (afG _)
 split
 ·rename_i hb;exact fV (by decide) hb
 split
 ·rename_i hb;exact fV (by decide) hb
 split
 ·rename_i hb;exact (fV (by decide) hb).trans (uD _)
 split
 ·rename_i hb;exact (fV (by decide) hb).trans (uD _)
 split
 ·exact Yl
 split
 ·exact Yl
 split
 ·exact Yl
 split
 ·rename_i hb;exact (fV (by decide) hb).trans (Vy h _ _)
 split
 ·rename_i hb;exact (fV (by decide) hb).trans (Vy h _ _)
 split
 ·rename_i hb;exact (fV (by decide) hb).trans (aco h _)
 ·exact uD _
theorem CJ {s:Sr} (h:¬ (fF (aH s)).1<0):s.er=none:=by
 rcases s with ⟨r,_ | x⟩
 ·rfl
 ·exact absurd (show (fF t0).1<0 by decide) h
theorem Fe {s:Sr} (h:¬ (fF (aH s)).1<0):(aH s).kind≠3:=by
 intro hk;unfold fF at h;rw [if_pos hk] at h;exact h bT
theorem Iu {ex:iC} (h:jW ex) (form:Int):∀ (f:Nat) (e:Exp) (s:Sr),SS s (loopS ex form f e s).2
 | 0,_,s=>.refl s
 | f+1,e,s=>by
  unfold loopS;split
  ·exact .refl _
  rename_i hc;have hc:¬ (fF (aH s)).1<0:=fun x=>hc (.inl x)
  have h1:SS s (aK s):=rD (Fe hc) (CJ hc);split
  ·exact h1.trans (h _ _)
  ·exact (h1.trans (h _ _)).trans (Iu h form f _ _)
theorem agt {ex:iC} (h:jW ex):jW (yJ ex):=by
 intro form s;unfold yJ;split
 ·exact .refl _
 split
 ·rename_i hb;exact ((((fV bT hb.2).trans (h _ _)).trans ((aP _ bT _).trans (h _ _))).trans ((aP _ bT _))).trans (h _ _)
 split
 ·exact h _ _
 split
 ·rename_i hb;exact (fV bT hb.2).trans (h _ _)
 split
 ·exact afD h _
 split
 ·exact h _ _
 ·exact (h _ _).trans (Iu h _ _ _ _)
theorem Iz:∀ f:Nat,jW (SC f)
 | 0=>fun _ s=>.refl s
 | f+1=>agt (Iz f)
def dU (form:Int) (s:Sr):Nat:=if s.er.isSome=true then 0 else 9*s.r.length+(8-form).toNat
theorem pU {c:Prop} [Decidable c] {α:Type} {a b d e:α} (h1:c→a=b) (h2:¬ c→d=e):(if c then a else d)=(if c then b else e):=by
 by_cases h:c
 ·rw [if_pos h,if_pos h];exact h1 h
 ·rw [if_neg h,if_neg h];exact h2 h
def NG (ex ex':iC) (n:Nat):Prop:=∀ form s,0≤form→form≤7→Fin1 s.r→dU form s<n→ex form s=ex' form s
theorem SS.fin {s s':Sr} (h:SS s s') (hf:Fin1 s.r):Fin1 s'.r:=h.suf.2 hf
theorem Bo {s s':Sr} (hf:Fin1 s.r) (h0:s.er=none) (h:SS (aK s) s') (form form':Int) (h1:0≤form'):dU form' s'<dU form s:=by
 have h2:dU form s=9*s.r.length+(8-form).toNat:=by unfold dU;rw [h0];rfl
 rw [h2];have h3:=lJ hf;have h4:s'.r.length≤s.r.tail.length:=h.suf.le;unfold dU;split<;>omega
theorem Bc {s:Sr} (h0:s.er=none) {form form':Int} (h:form<form') (h1:form<8):dU form' s<dU form s:=by
 unfold dU;rw [h0];show 9*s.r.length+_<9*s.r.length+_;omega
theorem afx {s:Sr} (h:¬ s.er.isSome=true):s.er=none:=by
 cases he:s.er with
 | none=>rfl
 | some x=>exact (h (by rw [he];rfl)).elim
theorem Uu {ex ex':iC} {n:Nat} (hA:NG ex ex' n) (op:Int) {s:Sr} (hf:Fin1 s.r) (hn:∀ s',SS s s'→∀ form,0≤form→dU form s'<n):iR ex op s=iR ex' op s:=by
 have h1:=(iZ 1 1000 s).trans (aP [40] (by decide) _);unfold iR;rw [hA 0 _ (by omega) (by omega) (h1.fin hf) (hn _ h1 0 (by omega))]
theorem KU {ex ex':iC} {n:Nat} (hA:NG ex ex' n) (hS:jW ex) (op:Int) {s:Sr} (hf:Fin1 s.r) (hn:∀ s',SS s s'→∀ form,0≤form→dU form s'<n):sU ex op s=sU ex' op s:=by
 have h1:=aP [40] (by decide) s;have e1:=hA 0 _ (by omega) (by omega) (h1.fin hf) (hn _ h1 0 (by omega));have h2:=(h1.trans (hS 0 _)).trans (aP [44] (by decide) _);have e2:=hA 0 _ (by omega) (by omega) (h2.fin hf) (hn _ h2 0 (by omega));unfold sU;rw [e2,e1]
theorem U7 {ex ex':iC} {n:Nat} (hA:NG ex ex' n) {s:Sr} (hf:Fin1 s.r) (hn:∀ s',SS s s'→∀ form,0≤form→dU form s'<n):vM ex s=vM ex' s:=by
 unfold vM;rw [hA 0 _ (by omega) (by omega) hf (hn _ (.refl _) 0 (by omega))]
theorem X3 {p:Prop}(h:p:=by
 obtain ⟨a,b⟩:=key (by decide) hb;exact Uu hA _ a b):p:=h
theorem W_ {ex ex':iC} {n:Nat} (hA:NG ex ex' n) (hS:jW ex) {s:Sr} (hf:Fin1 s.r) (hn:s.er=none→dU 7 s≤n):sJ ex s=sJ ex' s:=by
 have key:∀ {w:List UInt8},w≠[]→isS w s=true→Fin1 (aK s).r∧∀ s',SS (aK s) s'→∀ form,0≤form→dU form s'<n:=by
  intro w hw hb;have h0:=uw hw hb;exact ⟨(fV hw hb).fin hf,fun s' hs form h1=>Nat.lt_of_lt_of_le (Bo hf h0 hs 7 form h1) (hn h0)⟩
 unfold sJ;refine pU (fun _=>rfl) fun _=>?_
 refine pU (fun _=>rfl) fun _=>?_
 refine pU (fun _=>rfl) fun _=>?_
 refine pU (fun _=>rfl) fun _=>?_
 refine pU (fun _=>rfl) fun _=>?_
 refine pU (fun hb=>?_) fun _=>?_
 ·exact X3
 refine pU (fun hb=>?_) fun _=>?_
 ·exact X3
 refine pU (fun hb=>?_) fun _=>?_
 ·exact X3
 refine pU (fun hb=>?_) fun _=>?_
 ·obtain ⟨a,b⟩:=key (by decide) hb;exact KU hA hS _ a b
 refine pU (fun hb=>?_) fun _=>?_
 ·obtain ⟨a,b⟩:=key (by decide) hb;exact KU hA hS _ a b
 refine pU (fun hb=>?_) fun _=>rfl
 obtain ⟨a,b⟩:=key (by decide) hb;exact U7 hA a b
theorem KO {ex ex':iC} {n:Nat} (hA:NG ex ex' n) (hS:jW ex) (form:Int) (h0:0≤form) (h6:form≤6):∀ (f:Nat) (e:Exp) (s:Sr),Fin1 s.r→(s.er=none→9*s.r.length≤n)→loopS ex form f e s=loopS ex' form f e s
 | 0,_,_,_,_=>rfl
 | f+1,e,s,hf,hn=>by
  unfold loopS;refine pU (fun _=>rfl) fun hc=>?_
  have hc:¬ (fF (aH s)).1<0:=fun x=>hc (.inl x)
  have h1:SS s (aK s):=rD (Fe hc) (CJ hc);have hx:=CJ hc;have e1:=hA (form+1) (aK s) (by omega) (by omega) (h1.fin hf) (by
   have h2:=Bo (form:=8) hf hx (.refl _) (form+1) (by omega);have h3:dU 8 s=9*s.r.length:=by unfold dU;rw [hx];rfl
   have h4:=hn hx;omega)
  rw [e1];refine pU (fun _=>rfl) fun _=>?_
  ·rw [← e1];have h3:=h1.trans (hS (form+1) _);refine KO hA hS form h0 h6 f _ _ (h3.fin hf) fun h4=>?_
   have h5:(ex (form+1) (aK s)).2.r.length≤s.r.length:=h3.suf.le;have:=hn hx;omega
theorem KQ {ex ex':iC} {n:Nat} (hS:jW ex) {form:Int} {s:Sr} (hf:Fin1 s.r) (h0:0≤form) (h7:form≤7) (hA:NG ex ex' n) (hn:dU form s≤n):yJ ex form s=yJ ex' form s:=by
 unfold yJ;refine pU (fun _=>rfl) fun he=>?_
 have he:=afx he;have key:∀ {w:List UInt8},w≠[]→isS w s=true→Fin1 (aK s).r∧∀ s',SS (aK s) s'→∀ form',0≤form'→dU form' s'<n:=by
  intro w hw hb;exact ⟨(fV hw hb).fin hf,fun s' hs form' h1=>Nat.lt_of_lt_of_le (Bo hf he hs form form' h1) hn⟩
 refine pU (fun hb=>?_) fun _=>?_
 ·obtain ⟨a,b⟩:=key (by decide) hb.2;have s1:=(hS 0 (aK s)).trans (aP [116,104,101,110] (by decide) _);have s2:=s1.trans ((hS 0 _).trans (aP [101,108,115,101] (by decide) _));have e1:=hA 0 _ (by omega) (by omega) a (b _ (.refl _) 0 (by omega));have e2:=hA 0 _ (by omega) (by omega) (s1.fin a) (b _ s1 0 (by omega));have e3:=hA 0 _ (by omega) (by omega) (s2.fin a) (b _ s2 0 (by omega));unfold KJ;rw [e3,e2,e1]
 refine pU (fun h=>?_) fun _=>?_
 ·rw [h] at hn;exact hA 1 s aI aI hf (Nat.lt_of_lt_of_le (Bc he aI aI) hn)
 refine pU (fun hb=>?_) fun _=>?_
 ·obtain ⟨a,b⟩:=key (by decide) hb.2;unfold notS;rw [hA 3 _ (by omega) (by omega) a (b _ (.refl _) 3 (by omega))]
 refine pU (fun h=>?_) fun _=>?_
 ·rw [h] at hn;exact W_ hA hS hf fun _=>hn
 refine pU (fun h=>?_) fun _=>?_
 ·rw [h] at hn;exact hA 4 s aI aI hf (Nat.lt_of_lt_of_le (Bc he aI aI) hn)
 ·have e1:=hA (form+1) s (by omega) (by omega) hf (Nat.lt_of_lt_of_le (Bc he (by omega) (by omega)) hn);rw [e1];have s1:=hS (form+1) s;rw [e1] at s1;refine KO hA hS form h0 aI _ _ _ (s1.fin hf) fun _=>?_
  have h5:=s1.suf.le;have h6:dU form s=9*s.r.length+(8-form).toNat:=by unfold dU;rw [he];rfl
  omega
theorem Pe:∀ (F F':Nat) (form:Int) (s:Sr),0≤form→form≤7→Fin1 s.r→dU form s<F→dU form s<F'→SC F form s=SC F' form s
 | 0,_,_,_,_,_,_,h,_=>absurd h (Nat.not_lt_zero _)
 | _+1,0,_,_,_,_,_,_,h=>absurd h (Nat.not_lt_zero _)
 | F+1,F'+1,form,s,h0,h7,hf,h,h'=>KQ (n:=dU form s) (Iz F) hf h0 h7 (fun form' s' a b c d=>Pe F F' form' s' a b c (by omega) (by omega)) (Nat.le_refl _)
def kY (form:Int) (s:Sr):Exp×Sr:=SC (dU form s+1) form s
theorem zi:jW kY:=fun form s=>Iz _ form s
theorem Hq {form:Int} {s:Sr} (h0:0≤form) (h7:form≤7) (hf:Fin1 s.r):kY form s=yJ kY form s :=
 KQ (n:=dU form s) (Iz _) hf h0 h7 (fun form' s' a b c d=>Pe _ _ form' s' a b c d (Nat.lt_succ_self _)) (Nat.le_refl _)
def lH (w:List UInt8) (s:Sr):Exp×Sr :=
 let a:=kY 0 s
 if a.2.er.isSome=true then a
 else if (w=[]∧(aH a.2).kind≠3)∨(w≠[]∧isS w a.2=false) then (a.1,dD 12 a.2)
 else if 12<((jP a.1:Nat):Int) then (a.1,dD 6 a.2)
 else if w≠[] then (a.1,aK a.2)
 else a
def iy (w:List UInt8) (a b:Int) (s:Sr):Int×Sr:=((fJ a b (aU w s)).1,aU [59] (fJ a b (aU w s)).2)
def nH (w:List UInt8) (a n0:Int) (s:Sr):Int×Sr:=if isS w s=true then iy w 0 a s else (n0,s)
def yI (w:List UInt8) (ws:List (List UInt8)) (s:Sr):Int×Sr :=
 let i:=dN (fun x=>isS x (aU w s)) ws
 if i<0 then (0,dD 12 (aU w s)) else (i,aU [59] (aK (aU w s)))
def nK (least:Int) (s:Sr):Int×Sr :=
 let y:=fJ 0 1000000000000000 s
 let m:=fJ 0 1000000000000000 (aU [45] y.2)
 let s4:=aU [45] m.2
 if (aH s4).kind≠1 then (0,dD 12 s4)
 else if (dayOf y.1 m.1 (aH s4).n).2≠0 then (0,dD 23 s4)
 else if (dayOf y.1 m.1 (aH s4).n).1≤least then (0,dD 3 s4)
 else ((dayOf y.1 m.1 (aH s4).n).1,aK s4)
def dR (names:List (List UInt8)) (s:Sr):List UInt8×Sr :=
 if gB s=false then ([],dD 12 s) else if (aH s).text∈names then ([],dD 5 s) else ((aH s).text,aK s)
def sO:Nat→List LetE→Sr→List LetE×Sr
 | 0,ls,s=>(ls,s)
 | f+1,ls,s =>
  if isS [108,101,116] s=false then (ls,s)
  else if (ls.length:Int)=20 then ([],dD 6 s)
  else
   let a:=dR (ls.map LetE.name) (aK s)
   let b:=lH [59] (aU [61] a.2)
   sO f (ls++[⟨a.1,b.1⟩]) b.2
def sS:Nat→List Cov→Sr→List Cov×Sr
 | 0,ls,s=>(ls,s)
 | f+1,ls,s =>
  if isS [99,111,118,101,110,97,110,116] s=false then (ls,s)
  else if (ls.length:Int)=20 then ([],dD 6 s)
  else
   let a:=dR (ls.map Cov.name) (aK s)
   let b:=lH [103,114,97,99,101] (aU [109,117,115,116] a.2)
   let n:=fJ 0 1000 b.2
   sS f (ls++[⟨a.1,b.1,n.1⟩]) (aU [59] n.2)
def zO:Nat→List (List UInt8)→Sr→List (List UInt8)×Sr
 | 0,ls,s=>(ls,aU [59] s)
 | f+1,ls,s =>
  if s.er.isSome=false∧((ls.length:Int)=0∨isS [59] s=false) then
   if (ls.length:Int)=20∧gB s=true then ([],dD 6 s)
   else zO f (ls++[(dR ls s).1]) (dR ls s).2
  else (ls,aU [59] s)
def yw (s:Sr):List (List UInt8)×Sr :=
 if isS [102,97,118,111,117,114] s=false then ([],s) else zO (mS (aK s)+1) [] (aK s)
def o8:Nat→List CallE→Sr→List CallE×Sr
 | 0,ls,s=>(ls,s)
 | f+1,ls,s =>
  if isS [99,97,108,108] s=false then (ls,s)
  else if (ls.length:Int)=20 then ([],dD 6 s)
  else
   let a:=nK (-1) (aK s)
   let n:=fJ 0 10000 (aU [97,116] a.2)
   o8 f (ls++[⟨a.1,n.1⟩]) (aU [59] n.2)
theorem XT {b:Bool} (h:¬ b=false):b=true:=by cases b with | true=>rfl | false=>exact (h rfl).elim
theorem ou (w:List UInt8) (s:Sr):SS s (lH w s).2:=by
 unfold lH;dsimp only;have h1:=zi 0 s;split
 ·exact h1
 rename_i h0;split
 ·exact h1.trans (iT _ bT _)
 rename_i hb;split
 ·exact h1.trans (iT _ bT _)
 split
 ·rename_i hw;have hi:isS w (kY 0 s).2=true:=by
   cases hi:isS w (kY 0 s).2 with
   | true=>rfl
   | false=>exact (hb (.inr ⟨hw,hi⟩)).elim
  exact h1.trans (fV hw hi)
 ·exact h1
theorem jH (w:List UInt8) (hw:w≠[]) (a b:Int) (s:Sr):SS s (iy w a b s).2:=((aP w hw s).trans (iZ a b _)).trans (aP _ (by decide) _)
theorem qQ (w:List UInt8) (hw:w≠[]) (a n0:Int) (s:Sr):SS s (nH w a n0 s).2:=by
 unfold nH;split
 ·exact jH w hw _ _ _
 ·exact .refl _
theorem Ee (w:List UInt8) (hw:w≠[]) (ws:List (List UInt8)) (hws:∀ x∈ws,x≠[]) (s:Sr):SS s (yI w ws s).2:=by
 unfold yI;dsimp only;split
 ·exact (aP w hw s).trans (iT _ bT _)
 rename_i hi;have hlt:=DV (fun x=>isS x (aU w s)) [] ws;rcases hlt with hlt | hlt
 ·exact (hi hlt).elim
 have hm:ws.getD (dN (fun x=>isS x (aU w s)) ws).toNat []≠[]:=by
  apply hws;rw [List.getD_eq_getElem?_getD,List.getElem?_eq_getElem hlt.1];exact List.getElem_mem _
 exact ((aP w hw s).trans (fV hm hlt.2)).trans (aP _ bT _)
theorem wV (least:Int) (s:Sr):SS s (nK least s).2:=by
 unfold nK;dsimp only;have h4:=(((iZ 0 1000000000000000 s).trans (aP [45] (by decide) _)).trans (iZ 0 1000000000000000 _)).trans (aP [45] (by decide) _);split
 ·exact h4.trans (iT _ bT _)
 rename_i hk;have hk:=Decidable.of_not_not hk;split
 ·exact h4.trans (iT _ bT _)
 split
 ·exact h4.trans (iT _ bT _)
 ·exact h4.trans (rD (by rw [hk];decide) (kind_none hk))
theorem XW {s:Sr} (h:gB s=true):(aH s).kind≠3:=by
 unfold gB at h;simp only [Bool.and_eq_true,decide_eq_true_eq] at h;rw [h.1];decide
theorem yg (names:List (List UInt8)) (s:Sr):SS s (dR names s).2:=by
 unfold dR;split
 ·exact iT _ bT _
 rename_i hn;have hn:gB s=true:=by simpa using hn
 split
 ·exact iT _ bT _
 ·exact rD (XW hn) (LX hn)
theorem Em:∀ (f:Nat) (ls:List LetE) (s:Sr),SS s (sO f ls s).2
 | 0,_,s=>.refl s
 | f+1,ls,s=>by
  unfold sO;split
  ·exact .refl _
  rename_i hb;split
  ·exact iT _ bT _
  ·exact ((((fV bT (XT hb)).trans (yg _ _)).trans (aP _ bT _)).trans (ou _ _)).trans (Em f _ _)
theorem DU:∀ (f:Nat) (ls:List Cov) (s:Sr),SS s (sS f ls s).2
 | 0,_,s=>.refl s
 | f+1,ls,s=>by
  unfold sS;split
  ·exact .refl _
  rename_i hb;split
  ·exact iT _ bT _
  ·exact ((((((fV bT (XT hb)).trans (yg _ _)).trans (aP _ bT _)).trans (ou _ _)).trans (iZ _ _ _)).trans (aP _ bT _)).trans (DU f _ _)
theorem IJ:∀ (f:Nat) (ls:List (List UInt8)) (s:Sr),SS s (zO f ls s).2
 | 0,_,s=>aP _ (by decide) s
 | f+1,ls,s=>by
  unfold zO;split
  ·split
   ·exact iT _ bT _
   ·exact (yg _ _).trans (IJ f _ _)
  ·exact aP _ bT s
theorem RY (s:Sr):SS s (yw s).2:=by
 unfold yw;split
 ·exact .refl _
 rename_i hb;exact (fV bT (XT hb)).trans (IJ _ _ _)
theorem Cj:∀ (f:Nat) (ls:List CallE) (s:Sr),SS s (o8 f ls s).2
 | 0,_,s=>.refl s
 | f+1,ls,s=>by
  unfold o8;split
  ·exact .refl _
  rename_i hb;split
  ·exact iT _ bT _
  ·exact (((((fV bT (XT hb)).trans (wV _ _)).trans (aP _ bT _)).trans (iZ _ _ _)).trans (aP _ bT _)).trans (Cj f _ _)
def sD (s:Sr):Int:=match s.er with
 | none=>0
 | some e=>e.2
def abJ (s:Sr):Int:=match s.er with
 | none=>0
 | some e=>e.1
abbrev bU (T:List Tok) (s:Sr):List AV:=[Gx T,.int .i64 ((T.length-s.r.length:Nat):Int),.int .i64 (sD s),.int .i64 (abJ s)]
abbrev Um (T:List Tok) (s:Sr):AB:=.cells 212 (bU T s)
abbrev KX (f:FuncId) (args:List AV) (T:List Tok) (s:Sr) (rs:List AV) (s':Sr) (E:List AB):Prop :=
 jo Tryz.prog f (.ptr 0 0::args) [Um T s] 1 (fun vs bs es=>vs=rs∧bs=[Um T s']∧es=E)
theorem adv (r:List Tok):decide (sD ⟨r,none⟩=0)=true:=rfl
theorem jJ {T:List Tok} {s:Sr} (h:SSt T s):ak Tryz.prog 226 [.rop (bU T s)] (yQ (aH s)):=by
 rcases s with ⟨r,_ | x⟩
 ·have h1:=h.st.pos;have h2:=h.st.le;have h3:=h.st.big;have hg:=h.st.get;have ht:(((T.length-r.length:Nat):Int)).toNat=T.length-r.length:=Int.toNat_natCast _;dsimp only at h1 h2 hg;refine aO (au 19 [0,2,7]) Tryz.func226 ?_;conv=>whnf
  rw [adv r];refine gF (cW ?_);refine .eff ad0 (cW ?_);refine And.intro ⟨uN,uN⟩ (cW ?_);refine And.intro rfl (cW ?_);refine And.intro rfl (cW ?_);rw [ht,hg];rfl
 ·have hx:decide (sD ⟨r,some x⟩=0)=false:=decide_eq_false (h.ok x rfl);refine aO (au 19 [0,2,7]) Tryz.func226 ?_;conv=>whnf
  rw [hx];refine gT (cW ?_);rfl
theorem mM {T:List Tok} {s:Sr} (h:SSt T s) (e:Int):KX 227 [.int .i64 e] T s [] (dD e s) []:=by
 have hn:=jJ h;rcases s with ⟨r,_ | x⟩
 ·refine rO (aJ 1 19 [0,1,8]) Tryz.func227 ?_;conv=>whnf
  rw [adv r];refine gT (cW ?_);refine cO (fun _=>hn) ?_;exact J9
 ·have hx:decide (sD ⟨r,some x⟩=0)=false:=decide_eq_false (h.ok x rfl);refine rO (aJ 1 19 [0,1,8]) Tryz.func227 ?_;conv=>whnf
  rw [hx];refine gF ?_;exact J9
theorem J_ {T:List Tok} {s:Sr} (h:SSt T s) (w:List UInt8):ak Tryz.prog 257 [.rop (bU T s),.str w] (.bool (isS w s)):=by
 have hn:=jJ h;unfold isS;cases hk:decide ((aH s).kind=3) with
 | true =>
  have e:decide ((aH s).kind≠3)=false:=by simpa using hk
  rw [e];refine aO (au 16 [0,1,4]) Tryz.func257 ?_;exact adt
 | false =>
  have e:decide ((aH s).kind≠3)=true:=by simpa using hk
  rw [e];refine aO (au 16 [0,1,4]) Tryz.func257 ?_;exact aeX
theorem SSt.at {T:List Tok} {s:Sr} (h:SSt T s):((T.length-s.r.length:Nat):Int)+1=((T.length-(aK s).r.length:Nat):Int):=h.st.at
theorem adl {T:List Tok} {s:Sr} (h:SSt T s) (w:List UInt8):KX 255 [.str w] T s [.bool (isS w s)] (XH w s) []:=by
 have hn:=J_ h w;have hat:=h.at
 have h1:=h.st.pos;have h2:=h.st.le;have h3:=h.st.big;unfold XH;cases hb:isS w s with
 | false =>
  rw [hb] at hn;refine rO (aJ 1 16 [0,1,4,8]) Tryz.func255 ?_;conv=>whnf
  refine cO (fun _=>hn) ?_;exact KH
 | true =>
  rw [hb] at hn;refine rO (aJ 1 16 [0,1,4,8]) Tryz.func255 ?_;exact adU
theorem nI {T:List Tok} {s:Sr} (h:SSt T s) {w:List UInt8} (hb:isS w s=true):KX 255 [.str w] T s [.bool true] (aK s) []:=by
 have:=adl h w;unfold XH at this;rw [hb] at this;exact this
theorem bY {T:List Tok} {s:Sr} (h:SSt T s) {w:List UInt8} (hb:isS w s=false):KX 255 [.str w] T s [.bool false] s []:=by
 have:=adl h w;unfold XH at this;rw [hb] at this;exact this
theorem f_ {T:List Tok} {s:Sr} (h:SSt T s) (w:List UInt8):KX 212 [.str w] T s [] (aU w s) []:=by
 unfold aU;cases hb:isS w s with
 | true =>
  refine rO (aJ 1 10 [0,1,7]) Tryz.func212 ?_;conv=>whnf
  refine cR ((nI h hb)) [0] (cW ?_);refine gF ?_;exact J9
 | false =>
  refine rO (aJ 1 10 [0,1,7]) Tryz.func212 ?_;conv=>whnf
  refine cR ((bY h hb)) [0] (cW ?_);refine gT (cW ?_);refine cR ((mM h 12)) [0] ?_;exact J9
theorem SSt.tlen {T:List Tok} {s:Sr} (h:SSt T s):(aH s).text.length≤4000:=by
 rcases s with ⟨r,_ | x⟩
 ·exact h.st.tlen
 ·exact Nat.zero_le _
theorem agW {p:Prop}(h:p:=by
 conv=>whnf
 refine gT (cW ?_);refine cR ((mM h 12)) [0] (cW ?_);refine ⟨⟨[(2,.str [])],[(0,.cells 212 (bU T (dD 12 s)))],1⟩,(aj [(0,.id 0)] rfl ⟨ah,trivial⟩ ⟨aB,trivial⟩),rfl,rfl,?_⟩;exact dM):p:=h
theorem DY {T:List Tok} {s:Sr} (h:SSt T s):KX 213 [] T s [.str (lg s).1] (lg s).2 []:=by
 have hx:=jJ h;have hm:=EW (aH s).text (by have:=h.tlen;omega);have hat:=h.at
 have h1:=h.st.pos;have h2:=h.st.le;have h3:=h.st.big;cases hk:decide ((aH s).kind=0) with
 | false =>
  have hs:lg s=([],dD 12 s):=by unfold lg gB;rw [hk];rfl
  rw [hs];refine rO (aJ 1 26 [0,2,3,14]) Tryz.func213 ?_;conv=>whnf
  refine cO (fun _=>hx) (cW ?_);rw [hk];refine cF [.str (aH s).text] [.val (.bool false)] ?_;exact agW
 | true =>
  cases hb:nameB (aH s).text with
  | false =>
   rw [hb] at hm;have hs:lg s=([],dD 12 s):=by unfold lg gB;rw [hk,hb];rfl
   rw [hs];refine rO (aJ 1 26 [0,2,3,14]) Tryz.func213 ?_;conv=>whnf
   refine cO (fun _=>hx) (cW ?_);rw [hk];refine cO (fun _=>hm) ?_;exact agW
  | true =>
   rw [hb] at hm;have hs:lg s=((aH s).text,aK s):=by unfold lg gB;rw [hk,hb];rfl
   rw [hs];refine rO (aJ 1 26 [0,2,3,14]) Tryz.func213 ?_;conv=>whnf
   refine cO (fun _=>hx) (cW ?_);rw [hk];refine cO (fun _=>hm) (cW ?_);refine gF (cW ?_);refine iO (cW ?_);rw [hat];refine ⟨⟨[(2,.str (aH s).text)],[(0,.cells 212 (bU T (aK s)))],1⟩,(aj [(0,.id 0)] rfl ⟨ah,trivial⟩ ⟨aB,trivial⟩),rfl,rfl,?_⟩;exact dM
theorem EX {T:List Tok} {s:Sr} (h:SSt T s) (a b:Int):KX 216 [.int .i64 a,.int .i64 b] T s [.int .i64 (fJ a b s).1] (fJ a b s).2 []:=by
 have hx:=jJ h;have hat:=h.at
 have h1:=h.st.pos;have h2:=h.st.le;have h3:=h.st.big;cases hk:decide ((aH s).kind=1) with
 | false =>
  have hs:fJ a b s=(0,dD 12 s):=if_pos (of_decide_eq_false hk);rw [hs];refine rO (aJ 1 36 [0,1,2,6,7,12,24]) Tryz.func216 ?_;conv=>whnf
  refine cO (fun _=>hx) (cW ?_);rw [hk];refine gT (cW ?_);refine cR ((mM h 12)) [0] (cW ?_);refine ⟨⟨[(6,.int .i64 0)],[(0,.cells 212 (bU T ((dD 12 s))))],1⟩,(aj [(0,.id 0)] rfl ⟨ah,trivial⟩ ⟨aB,trivial⟩),rfl,rfl,?_⟩;exact dM
 | true =>
  have hs:fJ a b s=if a≤(aH s).n∧(aH s).n≤b then ((aH s).n,aK s) else (0,dD 3 s):=if_neg (by simpa using of_decide_eq_true hk)
  by_cases hr:a≤(aH s).n∧(aH s).n≤b
  ·rw [hs,if_pos hr];refine rO (aJ 1 36 [0,1,2,6,7,12,24]) Tryz.func216 ?_;conv=>whnf
   refine cO (fun _=>hx) (cW ?_);rw [hk];refine gF (cW ?_);rw [show (decide ((aH s).n<a)||decide (b<(aH s).n))=false by simp;omega];refine gF (cW ?_);refine iO (cW ?_);rw [hat];refine ⟨⟨[(6,.int .i64 ((aH s).n))],[(0,.cells 212 (bU T ((aK s))))],1⟩,(aj [(0,.id 0)] rfl ⟨ah,trivial⟩ ⟨aB,trivial⟩),rfl,rfl,?_⟩;exact dM
  ·rw [hs,if_neg hr];refine rO (aJ 1 36 [0,1,2,6,7,12,24]) Tryz.func216 ?_;conv=>whnf
   refine cO (fun _=>hx) (cW ?_);rw [hk];refine gF (cW ?_);rw [show (decide ((aH s).n<a)||decide (b<(aH s).n))=true by simp;omega];refine gT (cW ?_);refine cR ((mM h 3)) [0] (cW ?_);refine ⟨⟨[(6,.int .i64 0)],[(0,.cells 212 (bU T ((dD 3 s))))],1⟩,(aj [(0,.id 0)] rfl ⟨ah,trivial⟩ ⟨aB,trivial⟩),rfl,rfl,?_⟩;exact dM
def uP (T:List Tok) (n:Nat) (ex:iC):Prop:=∀ form s,0≤form→form≤7→SSt T s→dU form s<n→KX 259 [.int .i64 form] T s [iJ (ex form s).1] (ex form s).2 [.cells 51 (cellsE (ex form s).1)]
abbrev Eo (T:List Tok) (s:Sr) (v:Exp×Sr):Prop:=KX 272 [] T s [iJ v.1] v.2 [.cells 51 (cellsE v.1)]
abbrev WiK (T:List Tok) (s:Sr) (op:Int) (v:Exp×Sr):Prop:=KX 284 [.int .i64 op] T s [iJ v.1] v.2 [.cells 51 (cellsE v.1)]
def QX (n:Nat) (s:Sr):Prop:=∀ q,SS s q→∀ form,0≤form→dU form q<n
theorem QX.to {n:Nat} {s s':Sr} (h:QX n s) (hs:SS s s'):QX n s':=fun a b c d=>h a (hs.trans b) c d
theorem tq {T:List Tok} {n:Nat} {s:Sr} (h:SSt T s) (h0:s.er=none) {form:Int} (hn:dU form s≤n):QX n (aK s) :=
 fun _ hs f hf=>Nat.lt_of_lt_of_le (Bo h.st.fin h0 hs form f hf) hn
theorem JK {T:List Tok} {s:Sr} {n:Nat} {ex:iC} (hS:jW ex) (hX:uP T n ex) (h:SSt T s) (hn:QX n s) (op:Int):WiK T s op (iR ex op s):=by
 have q1:=iZ 1 1000 s;have q2:=q1.trans (aP [40] (by decide) _);have q3:=q2.trans (hS 0 _);have h1:=h.to q1;have h2:=h.to q2;have h3:=h.to q3;refine rO (aJ 1 20 [0,1,4,5,6]) Tryz.func284 ?_;conv=>whnf
 refine cR ((EX h 1 1000)) [0] (cW ?_);refine cR ((f_ h1 [40])) [0] (cW ?_);refine cR ((hX 0 _ aI aI h2 (hn _ q2 0 aI))) [0] (cW ?_);refine cR ((f_ h3 [41])) [0] (cW ?_);refine ⟨⟨[(4,.ptr 1 0)],[(0,.cells 212 (bU T (iR ex op s).2)),(1,.cells 51 (cellsE (iR ex op s).1))],2⟩,(dY [4]).trans (aj [(0,.id 0),(1,.id 1)] rfl ⟨aQ,trivial⟩ ⟨aB,⟨_,rfl,.cells _ _ _ _ rfl (by repeat (first | exact .nil | refine .cons (by first | exact .base (.tree _ _ rfl rfl) | exact .base (.own _ _ rfl) | exact .base (.ptr _ _ _ rfl) | exact .base (.map _ _ rfl) | exact .base (.nilown _ rfl) | exact .fn _ _ _ _ _ .nil vJ | exact .base (.tree _ _ (args1 op (fJ 1 1000 s).1 0 [] (ex 0 (aU [40] (fJ 1 1000 s).2)).1) rfl) | exact .base (.leT _ _ (args1 op (fJ 1 1000 s).1 0 [] (ex 0 (aU [40] (fJ 1 1000 s).2)).1) rfl)) ?_)) rfl⟩,trivial⟩),rfl,rfl,?_⟩;exact dM
theorem xR {T:List Tok} {s:Sr} (h:SSt T s) {w:List UInt8} (hw:w≠[]):decide ((aH s).text=w)=isS w s:=by
 unfold isS;cases hk:decide ((aH s).kind≠3) with
 | true=>rfl
 | false =>
  rcases s with ⟨r,_ | x⟩
  ·have hk3:(bV r).kind=3:=Decidable.of_not_not (of_decide_eq_false hk);have:=h.e3 _ h.st.hd hk3;refine decide_eq_false fun he=>hw ?_
   rw [← he];exact this
  ·exact decide_eq_false fun he=>hw he.symm
structure NoS (s:Sr) (k:Nat):Prop where
 kd:(aH s).kind≠1
 w0:0<k→isS [116,114,117,101] s=false
 w1:1<k→isS [102,97,108,115,101] s=false
 w2:2<k→isS [102,97,99,116] s=false
 w3:3<k→isS [114,97,116,101] s=false
 w4:4<k→isS [101,118,101,114] s=false
 w5:5<k→isS [108,111,110,103] s=false
 w6:6<k→isS [115,111,111,110] s=false
theorem afV {T:List Tok} {s:Sr} (h:SSt T s) (hk:decide ((aH s).kind=1)=true):Eo T s (.mk 0 (aH s).n (pW (aK s)).1 [] [],(pW (aK s)).2):=by
 have hx:=jJ h;have hat:=h.at
 have h1:=h.st.pos;have h2:=h.st.le;have h3:=h.st.big;have hk1:=of_decide_eq_true hk;have q:=h.to (rD (by rw [hk1];decide) (kind_none hk1));cases b0:isS [99,111,105,110,115] (aK s) with
 | true =>
  have hu:pW (aK s)=(1,aK (aK s)):=by unfold pW;rw [b0];rfl
  rw [hu];refine rO (aJ 1 107 [0,2,3,4,5,6,7,12,24,27,30,34,37,40,45,50,54,58,68,88,98]) Tryz.func272 ?_;conv=>whnf
  refine cO (fun _=>hx) (cW ?_);rw [hk];refine gT (cW ?_);refine iO (cW ?_);rw [hat];conv=>whnf
  refine cR ((nI q b0)) [0] (cW ?_);refine gT (cW ?_);refine ⟨⟨[(2,.ptr 1 0)],[(0,.cells 212 (bU T ((aK (aK s))))),(1,.cells 51 (cellsE (.mk 0 (aH s).n 1 [] [])))],2⟩,(aj [(0,.id 0),(1,.id 1)] rfl ⟨aQ,trivial⟩ ⟨aB,wf0,trivial⟩),rfl,rfl,?_⟩;exact dM
 | false =>
 cases b1:isS [100,97,121,115] (aK s) with
 | true =>
  have hu:pW (aK s)=(3,aK (aK s)):=by unfold pW;rw [b0,b1];rfl
  rw [hu];refine rO (aJ 1 107 [0,2,3,4,5,6,7,12,24,27,30,34,37,40,45,50,54,58,68,88,98]) Tryz.func272 ?_;conv=>whnf
  refine cO (fun _=>hx) (cW ?_);rw [hk];refine gT (cW ?_);refine iO (cW ?_);rw [hat];conv=>whnf
  refine cR ((bY q b0)) [0] (cW ?_);refine gF (cW ?_);refine cR ((nI q b1)) [0] (cW ?_);refine gT (cW ?_);refine ⟨⟨[(2,.ptr 1 0)],[(0,.cells 212 (bU T ((aK (aK s))))),(1,.cells 51 (cellsE (.mk 0 (aH s).n 3 [] [])))],2⟩,(aj [(0,.id 0),(1,.id 1)] rfl ⟨aQ,trivial⟩ ⟨aB,wf0,trivial⟩),rfl,rfl,?_⟩;exact dM
 | false =>
 cases b2:isS [109,105,108,108,101] (aK s) with
 | true =>
  have hu:pW (aK s)=(2,aK (aK s)):=by unfold pW;rw [b0,b1,b2];rfl
  rw [hu];refine rO (aJ 1 107 [0,2,3,4,5,6,7,12,24,27,30,34,37,40,45,50,54,58,68,88,98]) Tryz.func272 ?_;conv=>whnf
  refine cO (fun _=>hx) (cW ?_);rw [hk];refine gT (cW ?_);refine iO (cW ?_);rw [hat];conv=>whnf
  refine cR ((bY q b0)) [0] (cW ?_);refine gF (cW ?_);refine cR ((bY q b1)) [0] (cW ?_);refine gF (cW ?_);refine cR ((nI q b2)) [0] (cW ?_);refine gT (cW ?_);refine ⟨⟨[(2,.ptr 1 0)],[(0,.cells 212 (bU T ((aK (aK s))))),(1,.cells 51 (cellsE (.mk 0 (aH s).n 2 [] [])))],2⟩,(aj [(0,.id 0),(1,.id 1)] rfl ⟨aQ,trivial⟩ ⟨aB,wf0,trivial⟩),rfl,rfl,?_⟩;exact dM
 | false =>
  have hu:pW (aK s)=(0,aK s):=by unfold pW;rw [b0,b1,b2];rfl
  rw [hu];refine rO (aJ 1 107 [0,2,3,4,5,6,7,12,24,27,30,34,37,40,45,50,54,58,68,88,98]) Tryz.func272 ?_;conv=>whnf
  refine cO (fun _=>hx) (cW ?_);rw [hk];refine gT (cW ?_);refine iO (cW ?_);rw [hat];conv=>whnf
  refine cR ((bY q b0)) [0] (cW ?_);refine gF (cW ?_);refine cR ((bY q b1)) [0] (cW ?_);refine gF (cW ?_);refine cR ((bY q b2)) [0] (cW ?_);refine gF (cW ?_);refine ⟨⟨[(2,.ptr 1 0)],[(0,.cells 212 (bU T ((aK s)))),(1,.cells 51 (cellsE (.mk 0 (aH s).n 0 [] [])))],2⟩,(aj [(0,.id 0),(1,.id 1)] rfl ⟨aQ,trivial⟩ ⟨aB,wf0,trivial⟩),rfl,rfl,?_⟩;exact dM
theorem WT {T:List Tok} {s:Sr} (h:SSt T s) (hw:NoS s 0) (hb:isS [116,114,117,101] s=true):Eo T s ((.mk 0 1 4 [] [],aK s)):=by
 have hx:=jJ h;have hk:decide ((aH s).kind=1)=false:=decide_eq_false hw.kd;have q:=h.to (fV (by decide) hb);refine rO (aJ 1 107 [0,2,3,4,5,6,7,12,24,27,30,34,37,40,45,50,54,58,68,88,98]) Tryz.func272 ?_;conv=>whnf
 refine cO (fun _=>hx) (cW ?_);rw [hk];refine gF (cW ?_);refine cR ((nI h hb)) [0] (cW ?_);refine gT (cW ?_);refine ⟨⟨[(2,.ptr 1 0)],[(0,.cells 212 (bU T (aK s))),(1,.cells 51 (cellsE (.mk 0 1 4 [] [])))],2⟩,(aj [(0,.id 0),(1,.id 1)] rfl ⟨aQ,trivial⟩ ⟨aB,wf0,trivial⟩),rfl,rfl,?_⟩;exact dM
theorem UF {T:List Tok} {s:Sr} (h:SSt T s) (hw:NoS s 1) (hb:isS [102,97,108,115,101] s=true):Eo T s ((.mk 0 0 4 [] [],aK s)):=by
 have hx:=jJ h;have hk:decide ((aH s).kind=1)=false:=decide_eq_false hw.kd;have q:=h.to (fV (by decide) hb);refine rO (aJ 1 107 [0,2,3,4,5,6,7,12,24,27,30,34,37,40,45,50,54,58,68,88,98]) Tryz.func272 ?_;conv=>whnf
 refine cO (fun _=>hx) (cW ?_);rw [hk];refine gF (cW ?_);refine cR ((bY h (hw.w0 aI))) [0] (cW ?_);refine gF (cW ?_);refine cR ((nI h hb)) [0] (cW ?_);refine gT (cW ?_);refine ⟨⟨[(2,.ptr 1 0)],[(0,.cells 212 (bU T (aK s))),(1,.cells 51 (cellsE (.mk 0 0 4 [] [])))],2⟩,(aj [(0,.id 0),(1,.id 1)] rfl ⟨aQ,trivial⟩ ⟨aB,wf0,trivial⟩),rfl,rfl,?_⟩;exact dM
theorem WX {T:List Tok} {s:Sr} (h:SSt T s) (hw:NoS s 2) (hb:isS [102,97,99,116] s=true):Eo T s (o7 2 (aK s)):=by
 have hx:=jJ h;have hk:decide ((aH s).kind=1)=false:=decide_eq_false hw.kd;have q:=h.to (fV (by decide) hb);refine rO (aJ 1 107 [0,2,3,4,5,6,7,12,24,27,30,34,37,40,45,50,54,58,68,88,98]) Tryz.func272 ?_;conv=>whnf
 refine cO (fun _=>hx) (cW ?_);rw [hk];refine gF (cW ?_);refine cR ((bY h (hw.w0 aI))) [0] (cW ?_);refine gF (cW ?_);refine cR ((bY h (hw.w1 aI))) [0] (cW ?_);refine gF (cW ?_);refine cR ((nI h hb)) [0] (cW ?_);refine gT (cW ?_);refine cR ((DY q)) [0] (cW ?_);refine ⟨⟨[(2,.ptr 1 0)],[(0,.cells 212 (bU T (o7 2 (aK s)).2)),(1,.cells 51 (cellsE (o7 2 (aK s)).1))],2⟩,(aj [(0,.id 0),(1,.id 1)] rfl ⟨aQ,trivial⟩ ⟨aB,wf0,trivial⟩),rfl,rfl,?_⟩;exact dM
theorem V_ {T:List Tok} {s:Sr} (h:SSt T s) (hw:NoS s 3) (hb:isS [114,97,116,101] s=true):Eo T s (o7 3 (aK s)):=by
 have hx:=jJ h;have hk:decide ((aH s).kind=1)=false:=decide_eq_false hw.kd;have q:=h.to (fV (by decide) hb);refine rO (aJ 1 107 [0,2,3,4,5,6,7,12,24,27,30,34,37,40,45,50,54,58,68,88,98]) Tryz.func272 ?_;conv=>whnf
 refine cO (fun _=>hx) (cW ?_);rw [hk];refine gF (cW ?_);refine cR ((bY h (hw.w0 aI))) [0] (cW ?_);refine gF (cW ?_);refine cR ((bY h (hw.w1 aI))) [0] (cW ?_);refine gF (cW ?_);refine cR ((bY h (hw.w2 aI))) [0] (cW ?_);refine gF (cW ?_);refine cR ((nI h hb)) [0] (cW ?_);refine gT (cW ?_);refine cR ((DY q)) [0] (cW ?_);refine ⟨⟨[(2,.ptr 1 0)],[(0,.cells 212 (bU T (o7 3 (aK s)).2)),(1,.cells 51 (cellsE (o7 3 (aK s)).1))],2⟩,(aj [(0,.id 0),(1,.id 1)] rfl ⟨aQ,trivial⟩ ⟨aB,wf0,trivial⟩),rfl,rfl,?_⟩;exact dM
theorem Xy {T:List Tok} {s:Sr} {n:Nat} {ex:iC} (hS:jW ex) (hX:uP T n ex) (h:SSt T s) (hw:NoS s 4) (hn:dU 7 s≤n) (hb:isS [101,118,101,114] s=true):Eo T s (iR ex 16 (aK s)):=by
 have hx:=jJ h;have hk:decide ((aH s).kind=1)=false:=decide_eq_false hw.kd;have q:=h.to (fV (by decide) hb);refine rO (aJ 1 107 [0,2,3,4,5,6,7,12,24,27,30,34,37,40,45,50,54,58,68,88,98]) Tryz.func272 ?_;conv=>whnf
 refine cO (fun _=>hx) (cW ?_);rw [hk];refine gF (cW ?_);refine cR ((bY h (hw.w0 aI))) [0] (cW ?_);refine gF (cW ?_);refine cR ((bY h (hw.w1 aI))) [0] (cW ?_);refine gF (cW ?_);refine cR ((bY h (hw.w2 aI))) [0] (cW ?_);refine gF (cW ?_);refine cR ((bY h (hw.w3 aI))) [0] (cW ?_);refine gF (cW ?_);refine cR ((nI h hb)) [0] (cW ?_);refine gT (cW ?_);refine cR ((JK hS hX q (tq h (uw bT hb) hn) 16)) [0] (cW ?_);refine ⟨⟨[(2,.ptr 1 0)],[(0,.cells 212 (bU T (iR ex 16 (aK s)).2)),(1,.cells 51 (cellsE (iR ex 16 (aK s)).1))],2⟩,(aj [(0,.id 0),(1,.id 1)] rfl ⟨aQ,trivial⟩ ⟨aB,aB,trivial⟩),rfl,rfl,?_⟩;exact dM
theorem Xp {T:List Tok} {s:Sr} {n:Nat} {ex:iC} (hS:jW ex) (hX:uP T n ex) (h:SSt T s) (hw:NoS s 5) (hn:dU 7 s≤n) (hb:isS [108,111,110,103] s=true):Eo T s (iR ex 17 (aK s)):=by
 have hx:=jJ h;have hk:decide ((aH s).kind=1)=false:=decide_eq_false hw.kd;have q:=h.to (fV (by decide) hb);refine rO (aJ 1 107 [0,2,3,4,5,6,7,12,24,27,30,34,37,40,45,50,54,58,68,88,98]) Tryz.func272 ?_;conv=>whnf
 refine cO (fun _=>hx) (cW ?_);rw [hk];refine gF (cW ?_);refine cR ((bY h (hw.w0 aI))) [0] (cW ?_);refine gF (cW ?_);refine cR ((bY h (hw.w1 aI))) [0] (cW ?_);refine gF (cW ?_);refine cR ((bY h (hw.w2 aI))) [0] (cW ?_);refine gF (cW ?_);refine cR ((bY h (hw.w3 aI))) [0] (cW ?_);refine gF (cW ?_);refine cR ((bY h (hw.w4 aI))) [0] (cW ?_);refine gF (cW ?_);refine cR ((nI h hb)) [0] (cW ?_);refine gT (cW ?_);refine cR ((JK hS hX q (tq h (uw bT hb) hn) 17)) [0] (cW ?_);refine ⟨⟨[(2,.ptr 1 0)],[(0,.cells 212 (bU T (iR ex 17 (aK s)).2)),(1,.cells 51 (cellsE (iR ex 17 (aK s)).1))],2⟩,(aj [(0,.id 0),(1,.id 1)] rfl ⟨aQ,trivial⟩ ⟨aB,aB,trivial⟩),rfl,rfl,?_⟩;exact dM
theorem X6 {T:List Tok} {s:Sr} {n:Nat} {ex:iC} (hS:jW ex) (hX:uP T n ex) (h:SSt T s) (hw:NoS s 6) (hn:dU 7 s≤n) (hb:isS [115,111,111,110] s=true):Eo T s (iR ex 18 (aK s)):=by
 have hx:=jJ h;have hk:decide ((aH s).kind=1)=false:=decide_eq_false hw.kd;have q:=h.to (fV (by decide) hb);refine rO (aJ 1 107 [0,2,3,4,5,6,7,12,24,27,30,34,37,40,45,50,54,58,68,88,98]) Tryz.func272 ?_;conv=>whnf
 refine cO (fun _=>hx) (cW ?_);rw [hk];refine gF (cW ?_);refine cR ((bY h (hw.w0 aI))) [0] (cW ?_);refine gF (cW ?_);refine cR ((bY h (hw.w1 aI))) [0] (cW ?_);refine gF (cW ?_);refine cR ((bY h (hw.w2 aI))) [0] (cW ?_);refine gF (cW ?_);refine cR ((bY h (hw.w3 aI))) [0] (cW ?_);refine gF (cW ?_);refine cR ((bY h (hw.w4 aI))) [0] (cW ?_);refine gF (cW ?_);refine cR ((bY h (hw.w5 aI))) [0] (cW ?_);refine gF (cW ?_);refine cR ((nI h hb)) [0] (cW ?_);refine gT (cW ?_);refine cR ((JK hS hX q (tq h (uw bT hb) hn) 18)) [0] (cW ?_);refine ⟨⟨[(2,.ptr 1 0)],[(0,.cells 212 (bU T (iR ex 18 (aK s)).2)),(1,.cells 51 (cellsE (iR ex 18 (aK s)).1))],2⟩,(aj [(0,.id 0),(1,.id 1)] rfl ⟨aQ,trivial⟩ ⟨aB,aB,trivial⟩),rfl,rfl,?_⟩;exact dM
theorem Zl {T:List Tok} {s:Sr} {n:Nat} {ex:iC} (hS:jW ex) (hX:uP T n ex) (h:SSt T s) (hw:NoS s 7) (hn:dU 7 s≤n) (hb:isS [109,105,110] s=true):Eo T s (sU ex 8 (aK s)):=by
 have hx:=jJ h;have hk:decide ((aH s).kind=1)=false:=decide_eq_false hw.kd;have q:=h.to (fV (by decide) hb);have ri:=tq h (uw (by decide) hb) hn;have q1:=aP [40] (by decide) (aK s);have q2:=q1.trans (hS 0 _);have q3:=q2.trans (aP [44] (by decide) _);have q4:=q3.trans (hS 0 _);have hat:=h.at
 have h1:=h.st.pos;have h2:=h.st.le;have h3:=h.st.big;have tx:decide ((aH s).text=[109,105,110])=true:=(xR h (by decide)).trans hb;refine rO (aJ 1 107 [0,2,3,4,5,6,7,12,24,27,30,34,37,40,45,50,54,58,68,88,98]) Tryz.func272 ?_;conv=>whnf
 refine cO (fun _=>hx) (cW ?_);rw [hk];refine gF (cW ?_);refine cR ((bY h (hw.w0 aI))) [0] (cW ?_);refine gF (cW ?_);refine cR ((bY h (hw.w1 aI))) [0] (cW ?_);refine gF (cW ?_);refine cR ((bY h (hw.w2 aI))) [0] (cW ?_);refine gF (cW ?_);refine cR ((bY h (hw.w3 aI))) [0] (cW ?_);refine gF (cW ?_);refine cR ((bY h (hw.w4 aI))) [0] (cW ?_);refine gF (cW ?_);refine cR ((bY h (hw.w5 aI))) [0] (cW ?_);refine gF (cW ?_);refine cR ((bY h (hw.w6 aI))) [0] (cW ?_);refine gF (cW ?_);rw [tx];refine gT (cW ?_);refine iO (cW ?_);rw [hat];conv=>whnf
 refine cR ((f_ q [40])) [0] (cW ?_);refine cR ((hX 0 _ aI aI (q.to q1) (ri _ q1 0 aI))) [0] (cW ?_);refine cR ((f_ (q.to q2) [44])) [0] (cW ?_);refine cR ((hX 0 _ aI aI (q.to q3) (ri _ q3 0 aI))) [0] (cW ?_);refine cR ((f_ (q.to q4) [41])) [0] (cW ?_);rw [tx];refine gT (cW ?_);refine ⟨⟨[(2,.ptr 1 0)],[(0,.cells 212 (bU T (sU ex 8 (aK s)).2)),(1,.cells 51 (cellsE (sU ex 8 (aK s)).1))],2⟩,(dY [7]).trans (aj [(0,.id 0),(1,.id 1)] rfl ⟨aQ,trivial⟩ ⟨aB,⟨_,rfl,.cells _ _ _ _ rfl (by repeat (first | exact .nil | refine .cons (by first | exact .base (.tree _ _ rfl rfl) | exact .base (.own _ _ rfl) | exact .base (.ptr _ _ _ rfl) | exact .base (.map _ _ rfl) | exact .base (.nilown _ rfl) | exact .fn _ _ _ _ _ .nil vJ | exact .base (.tree _ _ (args2 8 0 0 [] (ex 0 (aU [40] (aK s))).1 (ex 0 (aU [44] (ex 0 (aU [40] (aK s))).2)).1) rfl) | exact .base (.leT _ _ (args2 8 0 0 [] (ex 0 (aU [40] (aK s))).1 (ex 0 (aU [44] (ex 0 (aU [40] (aK s))).2)).1) rfl)) ?_)) rfl⟩,trivial⟩),rfl,rfl,?_⟩;exact dM
theorem Yz {T:List Tok} {s:Sr} {n:Nat} {ex:iC} (hS:jW ex) (hX:uP T n ex) (h:SSt T s) (hw:NoS s 7) (hn:dU 7 s≤n) (b7:isS [109,105,110] s=false) (hb:isS [109,97,120] s=true):Eo T s (sU ex 9 (aK s)):=by
 have hx:=jJ h;have hk:decide ((aH s).kind=1)=false:=decide_eq_false hw.kd;have q:=h.to (fV (by decide) hb);have ri:=tq h (uw (by decide) hb) hn;have q1:=aP [40] (by decide) (aK s);have q2:=q1.trans (hS 0 _);have q3:=q2.trans (aP [44] (by decide) _);have q4:=q3.trans (hS 0 _);have hat:=h.at
 have h1:=h.st.pos;have h2:=h.st.le;have h3:=h.st.big;have tx:decide ((aH s).text=[109,105,110])=false:=(xR h (by decide)).trans b7;have ty:decide ((aH s).text=[109,97,120])=true:=(xR h (by decide)).trans hb;refine rO (aJ 1 107 [0,2,3,4,5,6,7,12,24,27,30,34,37,40,45,50,54,58,68,88,98]) Tryz.func272 ?_;conv=>whnf
 refine cO (fun _=>hx) (cW ?_);rw [hk];refine gF (cW ?_);refine cR ((bY h (hw.w0 aI))) [0] (cW ?_);refine gF (cW ?_);refine cR ((bY h (hw.w1 aI))) [0] (cW ?_);refine gF (cW ?_);refine cR ((bY h (hw.w2 aI))) [0] (cW ?_);refine gF (cW ?_);refine cR ((bY h (hw.w3 aI))) [0] (cW ?_);refine gF (cW ?_);refine cR ((bY h (hw.w4 aI))) [0] (cW ?_);refine gF (cW ?_);refine cR ((bY h (hw.w5 aI))) [0] (cW ?_);refine gF (cW ?_);refine cR ((bY h (hw.w6 aI))) [0] (cW ?_);refine gF (cW ?_);rw [tx];conv=>whnf
 rw [ty];refine gT (cW ?_);refine iO (cW ?_);rw [hat];conv=>whnf
 refine cR ((f_ q [40])) [0] (cW ?_);refine cR ((hX 0 _ aI aI (q.to q1) (ri _ q1 0 aI))) [0] (cW ?_);refine cR ((f_ (q.to q2) [44])) [0] (cW ?_);refine cR ((hX 0 _ aI aI (q.to q3) (ri _ q3 0 aI))) [0] (cW ?_);refine cR ((f_ (q.to q4) [41])) [0] (cW ?_);rw [tx];refine gF (cW ?_);refine ⟨⟨[(2,.ptr 1 0)],[(0,.cells 212 (bU T (sU ex 9 (aK s)).2)),(1,.cells 51 (cellsE (sU ex 9 (aK s)).1))],2⟩,(dY [7]).trans (aj [(0,.id 0),(1,.id 1)] rfl ⟨aQ,trivial⟩ ⟨aB,⟨_,rfl,.cells _ _ _ _ rfl (by repeat (first | exact .nil | refine .cons (by first | exact .base (.tree _ _ rfl rfl) | exact .base (.own _ _ rfl) | exact .base (.ptr _ _ _ rfl) | exact .base (.map _ _ rfl) | exact .base (.nilown _ rfl) | exact .fn _ _ _ _ _ .nil vJ | exact .base (.tree _ _ (args2 9 0 0 [] (ex 0 (aU [40] (aK s))).1 (ex 0 (aU [44] (ex 0 (aU [40] (aK s))).2)).1) rfl) | exact .base (.leT _ _ (args2 9 0 0 [] (ex 0 (aU [40] (aK s))).1 (ex 0 (aU [44] (ex 0 (aU [40] (aK s))).2)).1) rfl)) ?_)) rfl⟩,trivial⟩),rfl,rfl,?_⟩;exact dM
theorem U6 {T:List Tok} {s:Sr} {n:Nat} {ex:iC} (hS:jW ex) (hX:uP T n ex) (h:SSt T s) (hw:NoS s 7) (hn:dU 7 s≤n) (b7:isS [109,105,110] s=false) (b8:isS [109,97,120] s=false) (b9:isS [40] s=true):Eo T s (vM ex (aK s)):=by
 have hx:=jJ h;have hk:decide ((aH s).kind=1)=false:=decide_eq_false hw.kd;have q:=h.to (fV (by decide) b9);have ri:=tq h (uw (by decide) b9) hn;have q1:=hS 0 (aK s);have tx:decide ((aH s).text=[109,105,110])=false:=(xR h (by decide)).trans b7;have ty:decide ((aH s).text=[109,97,120])=false:=(xR h (by decide)).trans b8;refine rO (aJ 1 107 [0,2,3,4,5,6,7,12,24,27,30,34,37,40,45,50,54,58,68,88,98]) Tryz.func272 ?_;conv=>whnf
 refine cO (fun _=>hx) (cW ?_);rw [hk];refine gF (cW ?_);refine cR ((bY h (hw.w0 aI))) [0] (cW ?_);refine gF (cW ?_);refine cR ((bY h (hw.w1 aI))) [0] (cW ?_);refine gF (cW ?_);refine cR ((bY h (hw.w2 aI))) [0] (cW ?_);refine gF (cW ?_);refine cR ((bY h (hw.w3 aI))) [0] (cW ?_);refine gF (cW ?_);refine cR ((bY h (hw.w4 aI))) [0] (cW ?_);refine gF (cW ?_);refine cR ((bY h (hw.w5 aI))) [0] (cW ?_);refine gF (cW ?_);refine cR ((bY h (hw.w6 aI))) [0] (cW ?_);refine gF (cW ?_);rw [tx];conv=>whnf
 rw [ty];refine gF (cW ?_);refine cR ((nI h b9)) [0] (cW ?_);refine gT (cW ?_);refine cR ((hX 0 _ aI aI q (ri _ (.refl _) 0 aI))) [0] (cW ?_);refine cR ((f_ (q.to q1) [41])) [0] (cW ?_);refine ⟨⟨[(2,.ptr 1 0)],[(0,.cells 212 (bU T (vM ex (aK s)).2)),(1,.cells 51 (cellsE (vM ex (aK s)).1))],2⟩,(aj [(0,.id 0),(1,.id 1)] rfl ⟨aQ,trivial⟩ ⟨aB,aB,trivial⟩),rfl,rfl,?_⟩;exact dM
theorem Wx {T:List Tok} {s:Sr} (h:SSt T s) (hw:NoS s 7) (b7:isS [109,105,110] s=false) (b8:isS [109,97,120] s=false) (b9:isS [40] s=false):Eo T s (o7 1 s):=by
 have hx:=jJ h;have hk:decide ((aH s).kind=1)=false:=decide_eq_false hw.kd;have tx:decide ((aH s).text=[109,105,110])=false:=(xR h (by decide)).trans b7;have ty:decide ((aH s).text=[109,97,120])=false:=(xR h (by decide)).trans b8;refine rO (aJ 1 107 [0,2,3,4,5,6,7,12,24,27,30,34,37,40,45,50,54,58,68,88,98]) Tryz.func272 ?_;conv=>whnf
 refine cO (fun _=>hx) (cW ?_);rw [hk];refine gF (cW ?_);refine cR ((bY h (hw.w0 aI))) [0] (cW ?_);refine gF (cW ?_);refine cR ((bY h (hw.w1 aI))) [0] (cW ?_);refine gF (cW ?_);refine cR ((bY h (hw.w2 aI))) [0] (cW ?_);refine gF (cW ?_);refine cR ((bY h (hw.w3 aI))) [0] (cW ?_);refine gF (cW ?_);refine cR ((bY h (hw.w4 aI))) [0] (cW ?_);refine gF (cW ?_);refine cR ((bY h (hw.w5 aI))) [0] (cW ?_);refine gF (cW ?_);refine cR ((bY h (hw.w6 aI))) [0] (cW ?_);refine gF (cW ?_);rw [tx];conv=>whnf
 rw [ty];refine gF (cW ?_);refine cR ((bY h b9)) [0] (cW ?_);refine gF (cW ?_);refine cR ((DY h)) [0] (cW ?_);refine ⟨⟨[(2,.ptr 1 0)],[(0,.cells 212 (bU T (o7 1 s).2)),(1,.cells 51 (cellsE (o7 1 s).1))],2⟩,(aj [(0,.id 0),(1,.id 1)] rfl ⟨aQ,trivial⟩ ⟨aB,wf0,trivial⟩),rfl,rfl,?_⟩;exact dM
theorem ag_ {T:List Tok} {s:Sr} {n:Nat} {ex:iC} (hS:jW ex) (hX:uP T n ex) (h:SSt T s) (hn:dU 7 s≤n):Eo T s (sJ ex s):=by
 unfold sJ;by_cases hk:(aH s).kind=1
 ·rw [if_pos hk];exact afV h (decide_eq_true hk)
 rw [if_neg hk];cases b0:isS [116,114,117,101] s with
 | true =>
  rw [if_pos rfl];exact WT h ⟨hk,by omega,by omega,by omega,by omega,by omega,by omega,by omega⟩ b0
 | false =>
 rw [if_neg (by decide)];cases b1:isS [102,97,108,115,101] s with
 | true =>
  rw [if_pos rfl];exact UF h ⟨hk,fun _=>b0,by omega,by omega,by omega,by omega,by omega,by omega⟩ b1
 | false =>
 rw [if_neg (by decide)];cases b2:isS [102,97,99,116] s with
 | true =>
  rw [if_pos rfl];exact WX h ⟨hk,fun _=>b0,fun _=>b1,by omega,by omega,by omega,by omega,by omega⟩ b2
 | false =>
 rw [if_neg (by decide)];cases b3:isS [114,97,116,101] s with
 | true =>
  rw [if_pos rfl];exact V_ h ⟨hk,fun _=>b0,fun _=>b1,fun _=>b2,by omega,by omega,by omega,by omega⟩ b3
 | false =>
 rw [if_neg (by decide)];cases b4:isS [101,118,101,114] s with
 | true =>
  rw [if_pos rfl];exact Xy hS hX h ⟨hk,fun _=>b0,fun _=>b1,fun _=>b2,fun _=>b3,by omega,by omega,by omega⟩ hn b4
 | false =>
 rw [if_neg (by decide)];cases b5:isS [108,111,110,103] s with
 | true =>
  rw [if_pos rfl];exact Xp hS hX h ⟨hk,fun _=>b0,fun _=>b1,fun _=>b2,fun _=>b3,fun _=>b4,by omega,by omega⟩ hn b5
 | false =>
 rw [if_neg (by decide)];cases b6:isS [115,111,111,110] s with
 | true =>
  rw [if_pos rfl];exact X6 hS hX h ⟨hk,fun _=>b0,fun _=>b1,fun _=>b2,fun _=>b3,fun _=>b4,fun _=>b5,by omega⟩ hn b6
 | false =>
 rw [if_neg (by decide)];have hw:NoS s 7:=⟨hk,fun _=>b0,fun _=>b1,fun _=>b2,fun _=>b3,fun _=>b4,fun _=>b5,fun _=>b6⟩;cases b7:isS [109,105,110] s with
 | true =>
  rw [if_pos rfl];exact Zl hS hX h hw hn b7
 | false =>
 rw [if_neg (by decide)];cases b8:isS [109,97,120] s with
 | true =>
  rw [if_pos rfl];exact Yz hS hX h hw hn b7 b8
 | false =>
 rw [if_neg (by decide)];cases b9:isS [40] s with
 | true =>
  rw [if_pos rfl];exact U6 hS hX h hw hn b7 b8 b9
 | false =>
  rw [if_neg (by decide)];exact Wx h hw b7 b8 b9
def abh (t:Tok):List AR:=[.val (.int .i64 (fF t).1),.val (.int .i64 (fF t).2)]
theorem ai2 (t:Tok):bM Tryz.prog 273 [yQ t] (fun rs=>rs=abh t):=by
 unfold abh fF;refine aO (au 25 [0,1,2,3,6,8,9,11,13,15,17,19,21,23]) Tryz.func273 ?_;conv=>whnf
 refine ⟨fun hk=>?_,fun hk=>?_⟩
 ·have hk:=of_decide_eq_true hk;rw [if_pos hk];conv=>whnf
  rfl
 have hk:=of_decide_eq_false hk;rw [if_neg hk];conv=>whnf
 refine ⟨fun b0=>?_,fun b0=>?_⟩
 ·rw [if_pos (of_decide_eq_true b0)];conv=>whnf
  rfl
 rw [if_neg (of_decide_eq_false b0)];conv=>whnf
 refine ⟨fun b1=>?_,fun b1=>?_⟩
 ·rw [if_pos (of_decide_eq_true b1)];conv=>whnf
  rfl
 rw [if_neg (of_decide_eq_false b1)];conv=>whnf
 refine ⟨fun b2=>?_,fun b2=>?_⟩
 ·rw [if_pos (of_decide_eq_true b2)];conv=>whnf
  rfl
 rw [if_neg (of_decide_eq_false b2)];conv=>whnf
 refine ⟨fun b3=>?_,fun b3=>?_⟩
 ·rw [if_pos (of_decide_eq_true b3)];conv=>whnf
  rfl
 rw [if_neg (of_decide_eq_false b3)];conv=>whnf
 refine ⟨fun b4=>?_,fun b4=>?_⟩
 ·rw [if_pos (of_decide_eq_true b4)];conv=>whnf
  rfl
 rw [if_neg (of_decide_eq_false b4)];conv=>whnf
 refine ⟨fun b5=>?_,fun b5=>?_⟩
 ·rw [if_pos (of_decide_eq_true b5)];conv=>whnf
  rfl
 rw [if_neg (of_decide_eq_false b5)];conv=>whnf
 refine ⟨fun b6=>?_,fun b6=>?_⟩
 ·rw [if_pos (of_decide_eq_true b6)];conv=>whnf
  rfl
 rw [if_neg (of_decide_eq_false b6)];conv=>whnf
 refine ⟨fun b7=>?_,fun b7=>?_⟩
 ·rw [if_pos (of_decide_eq_true b7)];conv=>whnf
  rfl
 rw [if_neg (of_decide_eq_false b7)];conv=>whnf
 rfl
abbrev MF (T:List Tok) (s:Sr) (form:Int) (v:Exp×Sr):Prop:=KX 259 [.int .i64 form] T s [iJ v.1] v.2 [.cells 51 (cellsE v.1)]
theorem agj {T:List Tok} {s:Sr} (h:SSt T s) {x:Er} (he:s.er=some x) (form:Int):MF T s form (Es,s):=by
 have hx:decide (sD s=0)=false:=decide_eq_false (by unfold sD;rw [he];exact h.ok x he);refine rO (aJ 1 95 [0,1,4,5,6,7,8,9,10,15,22,39,47,53,61,74,92]) Tryz.func259 ?_;conv=>whnf
 rw [hx];refine gT (cW ?_);refine ⟨⟨[(4,.ptr 1 0)],[(0,.cells 212 (bU T s)),(1,.cells 51 (cellsE Es))],2⟩,(aj [(0,.id 0),(1,.id 1)] rfl ⟨aQ,trivial⟩ ⟨aB,wf0,trivial⟩),rfl,rfl,?_⟩;exact dM
theorem oJ {s:Sr} (he:s.er=none):decide (sD s=0)=true:=decide_eq_true (by unfold sD;rw [he])
theorem agy {T:List Tok} {s:Sr} {n:Nat} {ex:iC} (hS:jW ex) (hX:uP T n ex) (h:SSt T s) (he:s.er=none) {form:Int} (hn:dU form s≤n) (hf:decide (form=0)=true) (hb:isS [105,102] s=true):MF T s form (KJ ex (aK s)):=by
 have q:=h.to (fV (by decide) hb);have ri:=tq h he hn;have q1:=hS 0 (aK s);have q2:=q1.trans (aP [116,104,101,110] (by decide) _);have q3:=q2.trans (hS 0 _);have q4:=q3.trans (aP [101,108,115,101] (by decide) _);refine rO (aJ 1 95 [0,1,4,5,6,7,8,9,10,15,22,39,47,53,61,74,92]) Tryz.func259 ?_;conv=>whnf
 rw [oJ he];refine gF (cW ?_);rw [hf];refine cR ((nI h hb)) [0] (cW ?_);refine gT (cW ?_);refine cR ((hX 0 _ aI aI q (ri _ (.refl _) 0 aI))) [0] (cW ?_);refine cR ((f_ (q.to q1) [116,104,101,110])) [0] (cW ?_);refine cR ((hX 0 _ aI aI (q.to q2) (ri _ q2 0 aI))) [0] (cW ?_);refine cR ((f_ (q.to q3) [101,108,115,101])) [0] (cW ?_);refine cR ((hX 0 _ aI aI (q.to q4) (ri _ q4 0 aI))) [0] (cW ?_);refine ⟨⟨[(4,.ptr 1 0)],[(0,.cells 212 (bU T (KJ ex (aK s)).2)),(1,.cells 51 (cellsE (KJ ex (aK s)).1))],2⟩,(dY [8]).trans (aj [(0,.id 0),(1,.id 1)] rfl ⟨aQ,trivial⟩ ⟨aB,⟨_,rfl,.cells _ _ _ _ rfl (by repeat (first | exact .nil | refine .cons (by first | exact .base (.tree _ _ rfl rfl) | exact .base (.own _ _ rfl) | exact .base (.ptr _ _ _ rfl) | exact .base (.map _ _ rfl) | exact .base (.nilown _ rfl) | exact .fn _ _ _ _ _ .nil vJ | exact .base (.tree _ _ (Qz 15 0 0 [] _ _ _) rfl) | exact .base (.leT _ _ (Qz 15 0 0 [] _ _ _) rfl)) ?_)) rfl⟩,trivial⟩),rfl,rfl,?_⟩;exact dM
theorem ai4 {T:List Tok} {s:Sr} {n:Nat} {ex:iC} (hX:uP T n ex) (h:SSt T s) (he:s.er=none) {form:Int} (hn:dU form s≤n) (hf:decide (form=0)=true) (hb:isS [105,102] s=false):MF T s form (ex 1 s):=by
 have h1:dU 1 s<n:=Nat.lt_of_lt_of_le (Bc he (by have:=of_decide_eq_true hf;omega) (by have:=of_decide_eq_true hf;omega)) hn;refine rO (aJ 1 95 [0,1,4,5,6,7,8,9,10,15,22,39,47,53,61,74,92]) Tryz.func259 ?_;conv=>whnf
 rw [oJ he];refine gF (cW ?_);rw [hf];refine cR ((bY h hb)) [0] (cW ?_);refine gF (cW ?_);rw [hf];refine gT (cW ?_);refine cR ((hX 1 s aI aI h h1)) [0] (cW ?_);refine ⟨⟨[(4,.ptr 1 0)],[(0,.cells 212 (bU T (ex 1 s).2)),(1,.cells 51 (cellsE (ex 1 s).1))],2⟩,(aj [(0,.id 0),(1,.id 1)] rfl ⟨aQ,trivial⟩ ⟨aB,aB,trivial⟩),rfl,rfl,?_⟩;exact dM
theorem afJ {T:List Tok} {s:Sr} {n:Nat} {ex:iC} (hX:uP T n ex) (h:SSt T s) (he:s.er=none) {form:Int} (hn:dU form s≤n) (hf:decide (form=0)=false) (h3:decide (form=3)=true) (hb:isS [110,111,116] s=true):MF T s form (notS ex (aK s)):=by
 have q:=h.to (fV (by decide) hb);have ri:=tq h he hn;refine rO (aJ 1 95 [0,1,4,5,6,7,8,9,10,15,22,39,47,53,61,74,92]) Tryz.func259 ?_;conv=>whnf
 rw [oJ he];refine gF (cW ?_);rw [hf];refine cF [.rop (bU T s),.str [105,102]] [.val (.bool false)] (cW ?_);refine gF (cW ?_);rw [hf];refine gF (cW ?_);rw [h3];refine cR ((nI h hb)) [0] (cW ?_);refine gT (cW ?_);refine cR ((hX 3 _ aI aI q (ri _ (.refl _) 3 aI))) [0] (cW ?_);refine ⟨⟨[(4,.ptr 1 0)],[(0,.cells 212 (bU T (notS ex (aK s)).2)),(1,.cells 51 (cellsE (notS ex (aK s)).1))],2⟩,(dY [3]).trans (aj [(0,.id 0),(1,.id 1)] rfl ⟨aQ,trivial⟩ ⟨aB,⟨_,rfl,.cells _ _ _ _ rfl (by repeat (first | exact .nil | refine .cons (by first | exact .base (.tree _ _ rfl rfl) | exact .base (.own _ _ rfl) | exact .base (.ptr _ _ _ rfl) | exact .base (.map _ _ rfl) | exact .base (.nilown _ rfl) | exact .fn _ _ _ _ _ .nil vJ | exact .base (.tree _ _ (args1 12 0 0 [] _) rfl) | exact .base (.leT _ _ (args1 12 0 0 [] _) rfl)) ?_)) rfl⟩,trivial⟩),rfl,rfl,?_⟩;exact dM
theorem aiI {T:List Tok} {s:Sr} {n:Nat} {ex:iC} (hS:jW ex) (hX:uP T n ex) (h:SSt T s) (he:s.er=none) {form:Int} (hn:dU form s≤n) (hf:decide (form=0)=false) (h3:decide (form=3)=false) (h7:decide (form=7)=true):MF T s form (sJ ex s):=by
 have hp:=ag_ hS hX h (by rw [← of_decide_eq_true h7];exact hn);refine rO (aJ 1 95 [0,1,4,5,6,7,8,9,10,15,22,39,47,53,61,74,92]) Tryz.func259 ?_;conv=>whnf
 rw [oJ he];refine gF (cW ?_);rw [hf];refine cF [.rop (bU T s),.str [105,102]] [.val (.bool false)] (cW ?_);refine gF (cW ?_);rw [hf];refine gF (cW ?_);rw [h3];refine cF [.rop (bU T s),.str [110,111,116]] [.val (.bool false)] (cW ?_);refine gF (cW ?_);rw [h7];refine gT (cW ?_);refine cR (hp) [0] (cW ?_);refine ⟨⟨[(4,.ptr 1 0)],[(0,.cells 212 (bU T (sJ ex s).2)),(1,.cells 51 (cellsE (sJ ex s).1))],2⟩,(aj [(0,.id 0),(1,.id 1)] rfl ⟨aQ,trivial⟩ ⟨aB,aB,trivial⟩),rfl,rfl,?_⟩;exact dM
theorem XF {ex:iC} {form:Int} {f:Nat} {e:Exp} {s:Sr} (h:(fF (aH s)).1<0∨(fF (aH s)).2≠form):loopS ex form (f+1) e s=(e,s):=by
 rw [loopS,if_pos h]
theorem acD {ex:iC} {form:Int} {f:Nat} {e:Exp} {s:Sr} (h:¬ ((fF (aH s)).1<0∨(fF (aH s)).2≠form)):loopS ex form (f+1) e s =
  if form=4 then (.mk (fF (aH s)).1 0 0 [] [e,(ex (form+1) (aK s)).1],(ex (form+1) (aK s)).2)
  else loopS ex form f (.mk (fF (aH s)).1 0 0 [] [e,(ex (form+1) (aK s)).1]) (ex (form+1) (aK s)).2:=by
 rw [loopS,if_neg h]
theorem ajh {T:List Tok} {s:Sr} {n:Nat} {ex:iC} (hX:uP T n ex) (h:SSt T s) (he:s.er=none) {form:Int} (hn:dU form s≤n) (hf:decide (form=0)=false) (h3:decide (form=3)=true) (hb:isS [110,111,116] s=false):MF T s form (ex 4 s):=by
 have e3:=of_decide_eq_true h3;have h1:dU 4 s<n:=Nat.lt_of_lt_of_le (Bc he (by omega) (by omega)) hn;have h7:decide (form=7)=false:=decide_eq_false (by omega);have h4:form+1=4:=by omega
 refine rO (aJ 1 95 [0,1,4,5,6,7,8,9,10,15,22,39,47,53,61,74,92]) Tryz.func259 ?_;conv=>whnf
 rw [oJ he];refine gF (cW ?_);rw [hf];refine cF [.rop (bU T s),.str [105,102]] [.val (.bool false)] (cW ?_);refine gF (cW ?_);rw [hf];refine gF (cW ?_);rw [h3];refine cR ((bY h hb)) [0] (cW ?_);refine gF (cW ?_);rw [h7];refine gF (cW ?_);refine iO (cW ?_);rw [h4];refine cR ((hX 4 s aI aI h h1)) [0] (cW ?_);refine dO (aJ _ _ _) (fun _:Unit=>True) (fun _=>0) (fun _=>⟨[(0,.ptr 0 0),(1,.int .i64 form),(4,.ptr 1 0),(8,.ptr 2 0)],[(0,.cells 212 (bU T (ex 4 s).2)),(1,.cells 51 [.int .i64 0,.int .i64 0,.int .i64 0,.str [],.nils]),(2,.cells 51 (cellsE (ex 4 s).1))],3⟩) () trivial ((aj [(0,.id 0),(1,.id 1),(2,.id 3)] rfl ⟨aQ,ah,aQ,aQ,trivial⟩ ⟨aB,aB,aB,trivial⟩)) ?_;intro _ _;conv=>whnf
 rw [h3];refine gF (cW ?_);refine ⟨⟨[(4,.ptr 1 0)],[(0,.cells 212 (bU T (ex 4 s).2)),(1,.cells 51 (cellsE (ex 4 s).1))],2⟩,(aj [(0,.id 0),(1,.id 1)] rfl ⟨aQ,trivial⟩ ⟨aB,aB,trivial⟩),rfl,rfl,?_⟩;exact dM
theorem ahq {p:Prop} (h:p:=by repeat (first | exact .nil | refine .cons (by first | exact .base (.tree _ _ rfl rfl) | exact .base (.own _ _ rfl) | exact .base (.ptr _ _ _ rfl) | exact .base (.map _ _ rfl) | exact .base (.nilown _ rfl) | exact .fn _ _ _ _ _ .nil vJ | exact .base (.tree _ _ (args2 (fF (aH q)).1 0 0 [] e _) rfl) | exact .base (.leT _ _ (args2 (fF (aH q)).1 0 0 [] e _) rfl)) ?_)):p:=h
theorem ajC {T:List Tok} {s:Sr} {n:Nat} {ex:iC} (hS:jW ex) (hX:uP T n ex) (h:SSt T s) (he:s.er=none) {form:Int} (hf0:0≤form) (hf7:form≤7) (hn:dU form s≤n) (hf:decide (form=0)=false) (h3:decide (form=3)=false) (h7:decide (form=7)=false):MF T s form (loopS ex form (ex (form+1) s).2.r.length (ex (form+1) s).1 (ex (form+1) s).2):=by
 have n3:=of_decide_eq_false h3;have n7:=of_decide_eq_false h7;have h1:dU (form+1) s<n:=Nat.lt_of_lt_of_le (Bc he (by omega) (by omega)) hn;have hle:=(hS (form+1) s).suf.le;have hns:9*s.r.length+(8-form).toNat≤n:=by
  have:dU form s=9*s.r.length+(8-form).toNat:=by unfold dU;rw [he];rfl
  omega
 refine rO (aJ 1 95 [0,1,4,5,6,7,8,9,10,15,22,39,47,53,61,74,92]) Tryz.func259 ?_;conv=>whnf
 rw [oJ he];refine gF (cW ?_);rw [hf];refine cF [.rop (bU T s),.str [105,102]] [.val (.bool false)] (cW ?_);refine gF (cW ?_);rw [hf];refine gF (cW ?_);rw [h3];refine cF [.rop (bU T s),.str [110,111,116]] [.val (.bool false)] (cW ?_);refine gF (cW ?_);rw [h7];refine gF (cW ?_);refine iO (cW ?_);refine cR ((hX (form+1) s aI aI h h1)) [0] (cW ?_);obtain ⟨v,hv⟩:∃ v,v=loopS ex form (ex (form+1) s).2.r.length (ex (form+1) s).1 (ex (form+1) s).2:=⟨_,rfl⟩;rw [← hv];refine dO (aJ _ _ _) (fun s:Nat×(Exp×Sr)=>SSt T s.2.2∧s.2.2.r.length≤s.1∧9*s.2.2.r.length≤n∧v=loopS ex form s.1 s.2.1 s.2.2) (fun s=>s.1) (fun s=>⟨[(0,.ptr 0 0),(1,.int .i64 form),(4,.ptr 1 0),(8,.ptr 2 0)],[(0,.cells 212 (bU T (s.2.2))),(1,.cells 51 [.int .i64 0,.int .i64 0,.int .i64 0,.str [],.nils]),(2,.cells 51 (cellsE (s.2.1)))],3⟩) ((ex (form+1) s).2.r.length,ex (form+1) s) ⟨h.to (hS _ _),Nat.le_refl _,by show 9*(ex (form+1) s).2.r.length≤n;omega,hv⟩ ((aj [(0,.id 0),(1,.id 1),(2,.id 3)] rfl ⟨aQ,ah,aQ,aQ,trivial⟩ ⟨aB,aB,aB,trivial⟩)) ?_;rintro ⟨f,e,q⟩ ⟨hq,hqf,hqn,hsp⟩;dsimp only at hq hqf hqn hsp ⊢;obtain ⟨f,rfl⟩:∃ g,f=g+1:=⟨f-1,by have:=hq.st.pos;omega⟩;have hx:=jJ hq;have hs:=ai2 (aH q);unfold abh at hs;conv=>whnf
 rw [h3];refine gT (cW ?_);refine cO (fun _=>hx) (cW ?_);refine cO (fun _=>hs) (cW ?_);have hdec:(decide ((fF (aH q)).1<0)||!decide ((fF (aH q)).2=form))=decide ((fF (aH q)).1<0∨(fF (aH q)).2≠form):=by
  simp only [Bool.decide_or,ne_eq,decide_not]
 rw [hdec];cases hc:decide ((fF (aH q)).1<0∨(fF (aH q)).2≠form) with
 | true =>
  have hc:=of_decide_eq_true hc;rw [XF hc] at hsp;subst hsp;refine gT (cW ?_);refine ⟨⟨[(4,.ptr 1 0)],[(0,.cells 212 (bU T ((e,q)).2)),(1,.cells 51 (cellsE ((e,q)).1))],2⟩,(aj [(0,.id 0),(1,.id 1)] rfl ⟨aQ,trivial⟩ ⟨aB,aB,trivial⟩),rfl,rfl,?_⟩;exact dM
 | false =>
  have hc:=of_decide_eq_false hc;have hc0:¬ (fF (aH q)).1<0:=fun x=>hc (.inl x)
  have hq0:=CJ hc0;have hqa:=hq.to (rD (Fe hc0) hq0);have hat:=hq.at
  have hqp:=hq.st.pos;have hqle:=hq.st.le;have hbig:=hq.st.big;have htl:=lJ hq.st.fin;rw [acD hc] at hsp;have ri:dU (form+1) (aK q)<n:=by
   have:=Bo (form:=8) hq.st.fin hq0 (.refl _) (form+1) (by omega);have h8:dU 8 q=9*q.r.length:=by unfold dU;rw [hq0];rfl
   omega
  refine gF (cW ?_);refine iO (cW ?_);rw [hat];conv=>whnf
  refine .eff ad0 (cW ?_);refine iO (cW ?_);refine cR ((hX (form+1) (aK q) aI aI hqa ri)) [0] (cW ?_);refine ⟨by kernel_rfl,(cW ?_)⟩;cases h4:decide (form=4) with
  | true =>
   rw [if_pos (of_decide_eq_true h4)] at hsp;subst hsp;refine gT (cW ?_);refine ⟨⟨[(4,.ptr 1 0)],[(0,.cells 212 (bU T ((Exp.mk (fF (aH q)).1 0 0 [] [e,(ex (form+1) (aK q)).1],(ex (form+1) (aK q)).2)).2)),(1,.cells 51 (cellsE ((Exp.mk (fF (aH q)).1 0 0 [] [e,(ex (form+1) (aK q)).1],(ex (form+1) (aK q)).2)).1))],2⟩,(dY [4]).trans (aj [(0,.id 0),(1,.id 1)] rfl ⟨aQ,trivial⟩ ⟨aB,⟨_,rfl,.cells _ _ _ _ rfl ahq rfl⟩,trivial⟩),rfl,rfl,?_⟩;exact dM
  | false =>
   rw [if_neg (of_decide_eq_false h4)] at hsp;refine gF (cW ?_);have s2:=hS (form+1) (aK q);have l2:(ex (form+1) (aK q)).2.r.length≤q.r.tail.length:=s2.suf.le;exact ⟨(f,(Exp.mk (fF (aH q)).1 0 0 [] [e,(ex (form+1) (aK q)).1],(ex (form+1) (aK q)).2)),⟨hqa.to s2,(by show (ex (form+1) (aK q)).2.r.length≤f;omega),(by show 9*(ex (form+1) (aK q)).2.r.length≤n;omega),hsp⟩,Nat.lt_succ_self f,(dY [4]).trans (aj [(0,.id 0),(1,.id 1),(2,.id 2)] rfl ⟨aQ,ah,aQ,aQ,trivial⟩ ⟨aB,aB,⟨_,rfl,.cells _ _ _ _ rfl ahq rfl⟩,trivial⟩)⟩
theorem ahu {T:List Tok} {n:Nat} {ex:iC} (hS:jW ex) (hX:uP T n ex) {form:Int} {s:Sr} (h0:0≤form) (h7:form≤7) (h:SSt T s) (hn:dU form s≤n):MF T s form (yJ ex form s):=by
 unfold yJ;cases he:s.er with
 | some x =>
  rw [if_pos (show (some x).isSome=true from rfl)];exact agj h he form
 | none =>
 rw [if_neg (by decide)];by_cases f0:form=0
 ·cases hb:isS [105,102] s with
  | true =>
   rw [if_pos (show form=0∧true=true from ⟨f0,rfl⟩)];exact agy hS hX h he hn (decide_eq_true f0) hb
  | false =>
   rw [if_neg (show ¬ (form=0∧false=true) from fun x=>Bool.noConfusion x.2),if_pos f0];exact ai4 hX h he hn (decide_eq_true f0) hb
 rw [if_neg (fun x=>f0 x.1),if_neg f0];by_cases f3:form=3
 ·cases hb:isS [110,111,116] s with
  | true =>
   rw [if_pos (show form=3∧true=true from ⟨f3,rfl⟩)];exact afJ hX h he hn (decide_eq_false f0) (decide_eq_true f3) hb
  | false =>
   rw [if_neg (show ¬ (form=3∧false=true) from fun x=>Bool.noConfusion x.2),if_neg (show ¬ form=7 by omega),if_pos f3];exact ajh hX h he hn (decide_eq_false f0) (decide_eq_true f3) hb
 rw [if_neg (fun x=>f3 x.1)];by_cases f7:form=7
 ·rw [if_pos f7];exact aiI hS hX h he hn (decide_eq_false f0) (decide_eq_false f3) (decide_eq_true f7)
 rw [if_neg f7,if_neg f3];exact ajC hS hX h he h0 h7 hn (decide_eq_false f0) (decide_eq_false f3) (decide_eq_false f7)
theorem ad8 (T:List Tok):∀ n:Nat,uP T n kY
 | 0=>fun _ _ _ _ _ h=>absurd h (Nat.not_lt_zero _)
 | n+1=>fun form s h0 h7 h hn=>by
  have:=ahu zi (ad8 T n) h0 h7 h (Nat.le_of_lt_succ hn);rw [← Hq h0 h7 h.st.fin] at this;exact this
theorem aiE {T:List Tok} {s:Sr} (h:SSt T s) {form:Int} (h0:0≤form) (h7:form≤7):MF T s form (kY form s):=ad8 T _ form s h0 h7 h (Nat.lt_succ_self _)
abbrev sN (r:List Tok):Sr:=⟨r,none⟩
def Ag {α:Type}:Ps α→α×Sr→Prop
 | .ok (v,r'),g=>g=(v,sN r')
 | .error e,g=>g.2.er=some e
def FN:Except Er (List Tok)→Sr→Prop
 | .ok r',s=>s=sN r'
 | .error e,s=>s.er=some e
theorem kQ {α β:Type} {e:Er} {f:Ps α} {g:α×Sr} {g':β×Sr} (h:Ag f g) (he:f=.error e) (hs:SS g.2 g'.2):Ag (.error e:Ps β) g':=by
 subst he;exact hs.keep e h
theorem kH {β:Type} {e:Er} {f:Except Er (List Tok)} {s:Sr} {g':β×Sr} (h:FN f s) (he:f=.error e) (hs:SS s g'.2):Ag (.error e:Ps β) g':=by
 subst he;exact hs.keep e h
theorem d_ {α:Type} {v:α} {r':List Tok} {f:Ps α} {g:α×Sr} (h:Ag f g) (he:f=.ok (v,r')):g=(v,sN r'):=by
 subst he;exact h
theorem gV {r':List Tok} {f:Except Er (List Tok)} {s:Sr} (h:FN f s) (he:f=.ok r'):s=sN r':=by
 subst he;exact h
theorem fK (w:List UInt8) (r:List Tok):FN (aT w r) (aU w (sN r)):=by
 unfold aT aU;have:isS w (sN r)=aV w r:=rfl;rw [this];try (cases aV w r<;>rfl)
theorem Oi (r:List Tok):Ag (nameP r) (lg (sN r)):=by
 unfold nameP lg;have:gB (sN r)=mD r:=rfl;rw [this];try (cases mD r<;>rfl)
theorem BU (a b:Int) (r:List Tok):Ag (iV a b r) (fJ a b (sN r)):=by
 unfold iV fJ;have:aH (sN r)=bV r:=rfl;rw [this];split
 ·rfl
 split<;>rfl
theorem agu (r:List Tok):pW (sN r)=((jM r).1,sN (jM r).2):=by
 unfold pW jM;have:∀ w,isS w (sN r)=aV w r:=fun _=>rfl
 rw [this,this,this];try (cases aV [99,111,105,110,115] r<;>cases aV [100,97,121,115] r<;>cases aV [109,105,108,108,101] r<;>rfl)
def HA (n:Nat) (ex:Rec) (exR:iC):Prop:=∀ form r,0≤form→form≤7→Fin1 r→r.length≤n→Ag (ex form r) (exR form (sN r))
theorem JO (op:Int) (r:List Tok):Ag (kF op r) (o7 op (sN r)):=by
 have h:=Oi r;unfold kF o7;cases e1:nameP r with
 | error e=>exact kQ h e1 (.refl _)
 | ok v =>
  obtain ⟨s,r1⟩:=v;rw [d_ h e1];rfl
theorem Hz {n:Nat} {ex:Rec} {exR:iC} (hA:HA n ex exR) (hS:iP ex) (hR:jW exR) (op:Int) {r:List Tok} (hf:Fin1 r) (hn:r.length≤n):Ag (gU ex op r) (iR exR op (sN r)):=by
 have a1:=BU 1 1000 r;unfold gU;cases e1:iV 1 1000 r with
 | error e=>exact kQ a1 e1 (((aP [40] (by decide) _).trans (hR 0 _)).trans (aP [41] (by decide) _))
 | ok v =>
 obtain ⟨k,r1⟩:=v;have s1:=(iD e1).1;unfold iR;rw [d_ a1 e1];dsimp only;have a2:=fK [40] r1;cases e2:aT [40] r1 with
 | error e=>exact kH a2 e2 ((hR 0 _).trans (aP [41] (by decide) _))
 | ok r2 =>
 have s2:=s1.trans (aN e2);rw [gV a2 e2];dsimp only;have a3:=hA 0 r2 (by omega) (by omega) (s2.2 hf) (Nat.le_trans s2.le hn);cases e3:ex 0 r2 with
 | error e=>exact kQ a3 e3 (aP [41] (by decide) _)
 | ok v =>
 obtain ⟨x,r3⟩:=v;rw [d_ a3 e3];dsimp only;have a4:=fK [41] r3;cases e4:aT [41] r3 with
 | error e=>exact kH a4 e4 (.refl _)
 | ok r4 =>
 rw [gV a4 e4];rfl
theorem VL {n:Nat} {ex:Rec} {exR:iC} (hA:HA n ex exR) (hS:iP ex) (hR:jW exR) (op:Int) {r:List Tok} (hf:Fin1 r) (hn:r.length≤n):Ag (oH ex op r) (sU exR op (sN r)):=by
 have a1:=fK [40] r;unfold oH;have t5:=fun s=>aP [41] (by decide) s
 have t4:=fun s=>(hR 0 s).trans (t5 _)
 have t3:=fun s=>(aP [44] (by decide) s).trans (t4 _)
 have t2:=fun s=>(hR 0 s).trans (t3 _)
 cases e1:aT [40] r with
 | error e=>exact kH a1 e1 (t2 _)
 | ok r1 =>
 have s1:=aN e1;unfold sU;rw [gV a1 e1];dsimp only;have a2:=hA 0 r1 (by omega) (by omega) (s1.2 hf) (Nat.le_trans s1.le hn);cases e2:ex 0 r1 with
 | error e=>exact kQ a2 e2 (t3 _)
 | ok v =>
 obtain ⟨x,r2⟩:=v;have s2:=s1.trans (hS _ _ _ _ e2);rw [d_ a2 e2];dsimp only;have a3:=fK [44] r2;cases e3:aT [44] r2 with
 | error e=>exact kH a3 e3 (t4 _)
 | ok r3 =>
 have s3:=s2.trans (aN e3);rw [gV a3 e3];dsimp only;have a4:=hA 0 r3 (by omega) (by omega) (s3.2 hf) (Nat.le_trans s3.le hn);cases e4:ex 0 r3 with
 | error e=>exact kQ a4 e4 (t5 _)
 | ok v =>
 obtain ⟨y,r4⟩:=v;rw [d_ a4 e4];dsimp only;have a5:=fK [41] r4;cases e5:aT [41] r4 with
 | error e=>exact kH a5 e5 (.refl _)
 | ok r5 =>
 rw [gV a5 e5];rfl
theorem acz {n:Nat} {ex:Rec} {exR:iC} (hA:HA n ex exR) {r:List Tok} (hf:Fin1 r) (hn:r.length≤n):Ag (rP ex r) (vM exR (sN r)):=by
 unfold rP vM;have a2:=hA 0 r (by omega) (by omega) hf hn;cases e2:ex 0 r with
 | error e=>exact kQ a2 e2 (aP [41] (by decide) _)
 | ok v =>
 obtain ⟨x,r2⟩:=v;rw [d_ a2 e2];dsimp only;have a3:=fK [41] r2;cases e3:aT [41] r2 with
 | error e=>exact kH a3 e3 (.refl _)
 | ok r3 =>
 rw [gV a3 e3];rfl
theorem aiA {n:Nat} {ex:Rec} {exR:iC} (hA:HA n ex exR) (hS:iP ex) (hR:jW exR) {r:List Tok} (hf:Fin1 r) (hn:r.length≤n):Ag (zx ex r) (KJ exR (sN r)):=by
 unfold zx;have t4:=fun s=>hR 0 s
 have t3:=fun s=>(aP [101,108,115,101] (by decide) s).trans (t4 _)
 have t2:=fun s=>(hR 0 s).trans (t3 _)
 have t1:=fun s=>(aP [116,104,101,110] (by decide) s).trans (t2 _)
 have a1:=hA 0 r (by omega) (by omega) hf hn;cases e1:ex 0 r with
 | error e=>exact kQ a1 e1 (t1 _)
 | ok v =>
 obtain ⟨x,r1⟩:=v;have s1:=hS _ _ _ _ e1;unfold KJ;rw [d_ a1 e1];dsimp only;have a2:=fK [116,104,101,110] r1;cases e2:aT [116,104,101,110] r1 with
 | error e=>exact kH a2 e2 (t2 _)
 | ok r2 =>
 have s2:=s1.trans (aN e2);rw [gV a2 e2];dsimp only;have a3:=hA 0 r2 (by omega) (by omega) (s2.2 hf) (Nat.le_trans s2.le hn);cases e3:ex 0 r2 with
 | error e=>exact kQ a3 e3 (t3 _)
 | ok v =>
 obtain ⟨y,r3⟩:=v;have s3:=s2.trans (hS _ _ _ _ e3);rw [d_ a3 e3];dsimp only;have a4:=fK [101,108,115,101] r3;cases e4:aT [101,108,115,101] r3 with
 | error e=>exact kH a4 e4 (t4 _)
 | ok r4 =>
 have s4:=s3.trans (aN e4);rw [gV a4 e4];dsimp only;have a5:=hA 0 r4 (by omega) (by omega) (s4.2 hf) (Nat.le_trans s4.le hn);cases e5:ex 0 r4 with
 | error e=>exact kQ a5 e5 (.refl _)
 | ok v =>
 obtain ⟨z,r5⟩:=v;rw [d_ a5 e5];rfl
theorem ahT {n:Nat} {ex:Rec} {exR:iC} (hA:HA n ex exR) {r:List Tok} (hf:Fin1 r) (hn:r.length≤n):Ag (notP ex r) (notS exR (sN r)):=by
 unfold notP notS;have a1:=hA 3 r (by omega) (by omega) hf hn;cases e1:ex 3 r with
 | error e=>exact kQ a1 e1 (.refl _)
 | ok v =>
 obtain ⟨x,r1⟩:=v;rw [d_ a1 e1];rfl
theorem afP {n:Nat} {ex:Rec} {exR:iC} (hA:HA n ex exR) (hS:iP ex) (hR:jW exR) {r:List Tok} (hf:Fin1 r) (hn:r.length≤n+1):Ag (iW ex r) (sJ exR (sN r)):=by
 have hl:=lJ hf;have ht:r.tail.length≤n:=by omega
 have key:∀ {w:List UInt8},aV w r=true→Fin1 r.tail:=fun h=>hf.tail (bf h)
 have hi:∀ w,isS w (sN r)=aV w r:=fun _=>rfl
 have hx:aH (sN r)=bV r:=rfl;have ha:aK (sN r)=sN r.tail:=rfl;unfold iW sJ;simp only [hi,hx,ha];by_cases hk:(bV r).kind=1
 ·rw [if_pos hk,if_pos hk,agu];rfl
 rw [if_neg hk,if_neg hk];cases b0:aV [116,114,117,101] r with
 | true=>rfl
 | false =>
 cases b1:aV [102,97,108,115,101] r with
 | true=>rfl
 | false =>
 cases b2:aV [102,97,99,116] r with
 | true=>exact JO 2 r.tail
 | false =>
 cases b3:aV [114,97,116,101] r with
 | true=>exact JO 3 r.tail
 | false =>
 cases b4:aV [101,118,101,114] r with
 | true=>exact Hz hA hS hR 16 (key b4) ht
 | false =>
 cases b5:aV [108,111,110,103] r with
 | true=>exact Hz hA hS hR 17 (key b5) ht
 | false =>
 cases b6:aV [115,111,111,110] r with
 | true=>exact Hz hA hS hR 18 (key b6) ht
 | false =>
 cases b7:aV [109,105,110] r with
 | true =>
  have bx:aV [109,97,120] r=false:=by
   exact aeW
  rw [bx];exact VL hA hS hR 8 (key b7) ht
 | false =>
 cases b8:aV [109,97,120] r with
 | true=>exact VL hA hS hR 9 (key b8) ht
 | false =>
 cases b9:aV [40] r with
 | true=>exact acz hA (key b9) ht
 | false=>exact JO 1 r
theorem Fp (t:Tok):(fF t).1<0∨1≤(fF t).2∧(fF t).2≤6∧(fF t).2≠3:=by
 unfold fF;repeat' split
 all_goals decide
theorem ahZ (r:List Tok):if iE r<0 then (fF (bV r)).1<0 else fF (bV r)=((opAt (iE r)).op,(opAt (iE r)).form):=by
 unfold iE opAt fF m_ aV;by_cases hk:(bV r).kind=3
 ·rw [if_pos hk];simp [hk,dN]
 rw [if_neg hk];by_cases b0:(bV r).text=[111,114]
 ·simp [hk,dN,b0]
 by_cases b1:(bV r).text=[97,110,100]
 ·simp [hk,dN,b1]
 by_cases b2:(bV r).text=[61,61]
 ·simp [hk,dN,b2]
 by_cases b3:(bV r).text=[60]
 ·simp [hk,dN,b3]
 by_cases b4:(bV r).text=[43]
 ·simp [hk,dN,b4]
 by_cases b5:(bV r).text=[45]
 ·simp [hk,dN,b5]
 by_cases b6:(bV r).text=[42]
 ·simp [hk,dN,b6]
 by_cases b7:(bV r).text=[47]
 ·simp [hk,dN,b7]
 simp [hk,dN,b0,b1,b2,b3,b4,b5,b6,b7]
def kL (ex:iC):Nat→Int→Exp→Sr→Exp×Sr
 | 0,_,e,s=>(e,s)
 | n+1,form,e,s=>loopS ex form (kL ex n (form+1) e s).2.r.length (kL ex n (form+1) e s).1 (kL ex n (form+1) e s).2
theorem Ik {ex:iC} (h:jW ex):∀ (n:Nat) (form:Int) (e:Exp) (s:Sr),SS s (kL ex n form e s).2
 | 0,_,_,s=>.refl s
 | n+1,form,e,s=>(Ik h n (form+1) e s).trans (Iu h _ _ _ _)
theorem En {ex:iC} {form:Int} {f:Nat} {e:Exp} {s:Sr} (h:(fF (aH s)).1<0∨(fF (aH s)).2≠form):loopS ex form f e s=(e,s):=by
 cases f with
 | zero=>rfl
 | succ f=>rw [loopS,if_pos h]
theorem Iw {ex:iC} {e:Exp} {s:Sr}:∀ (n:Nat) (form:Int),((fF (aH s)).1<0∨(fF (aH s)).2<form∨form+n≤(fF (aH s)).2)→kL ex n form e s=(e,s)
 | 0,_,_=>rfl
 | n+1,form,h=>by
  have ih:=Iw (ex:=ex) (e:=e) n (form+1) (by
   rcases h with h | h | h
   ·exact .inl h
   ·exact .inr (.inl aI)
   ·exact .inr (.inr aI))
  unfold kL;rw [ih];refine En ?_;dsimp only;rcases h with h | h | h
  ·exact .inl h
  ·exact .inr (by show ¬ _=form;omega)
  ·exact .inr (by show ¬ _=form;omega)
theorem ER {ex:iC} {e:Exp} {s:Sr} (b:Nat):∀ (a:Nat) (form:Int),kL ex (a+b) form e s=kL ex a form (kL ex b (form+a) e s).1 (kL ex b (form+a) e s).2
 | 0,form=>by
  rw [Nat.zero_add,show form+((0:Nat):Int)=form by omega];rfl
 | a+1,form=>by
  rw [show a+1+b=(a+b)+1 by omega];rw [kL,ER b a (form+1),kL];rw [show form+1+(a:Int)=form+((a+1:Nat):Int) by omega]
theorem MH {ex:iC} (hS:jW ex) {form:Int}:∀ (f f':Nat) (e:Exp) (s:Sr),Fin1 s.r→s.r.length≤f→s.r.length≤f'→loopS ex form f e s=loopS ex form f' e s
 | 0,_,_,s,hf,h,_=>absurd (List.length_pos_iff.2 hf.ne) (by omega)
 | _+1,0,_,s,hf,_,h=>absurd (List.length_pos_iff.2 hf.ne) (by omega)
 | f+1,f'+1,e,s,hf,h,h'=>by
  unfold loopS;refine pU (fun _=>rfl) fun hc=>?_
  have hc:¬ (fF (aH s)).1<0:=fun x=>hc (.inl x)
  have h1:=(rD (Fe hc) (CJ hc)).trans (hS (form+1) (aK s));have h2:(ex (form+1) (aK s)).2.r.length≤s.r.tail.length:=(hS (form+1) (aK s)).suf.le;have h3:=lJ hf;exact pU (fun _=>rfl) fun _=>MH hS f f' _ _ (h1.fin hf) aI aI
def xB (own:Int):Int:=if own=4 then 3 else if own=7 then 6 else own
theorem Vh {n:Nat} {ex:Rec} {exR:iC} (hA:HA n ex exR) (hS:iP ex) (hR:jW exR) {form:Int} (h0:0≤form):∀ (f:Nat) (own:Int) (e:Exp) (r:List Tok),0≤own→own≤7→Fin1 r→r.length≤f→r.length≤n+1 →
  Ag (kZ ex form f e own r) (kL exR (xB own+1-form).toNat form e (sN r))
 | 0,_,_,r,_,_,hf,h,_=>absurd (List.length_pos_iff.2 hf.ne) (by omega)
 | f+1,own,e,r,w0,w7,hf,hl,hn=>by
  have hop:=ahZ r;have hx:aH (sN r)=bV r:=rfl;by_cases hi:iE r<0
  ·rw [if_pos hi] at hop;rw [kZ,if_pos hi];exact Iw _ _ (.inl hop)
  rw [if_neg hi] at hop;obtain ⟨hi1,hi2⟩:=H8 hi;have hfm:=QH hi1;have hoa:opAt (iE r)=m_.getD (iE r).toNat o0:=rfl;rw [← hoa] at hfm;have hsy:(fF (aH (sN r))).2=(opAt (iE r)).form:=by rw [hx,hop]
  have hsy1:(fF (aH (sN r))).1=(opAt (iE r)).op:=by rw [hx,hop]
  have hsf:=Fp (aH (sN r));have hnn:¬ (fF (aH (sN r))).1<0:=by
   rw [hsy1];have:∀ i,i<8→¬ (m_.getD i o0).op<0:=by decide
   exact this _ hi1
  have hn3:(opAt (iE r)).form≠3:=by
   rcases hsf with h | h
   ·exact (hnn h).elim
   ·rw [← hsy];exact h.2.2
  rw [kZ,if_neg hi];dsimp only;by_cases hc:(opAt (iE r)).form<form∨own<(opAt (iE r)).form∨own=4∧(opAt (iE r)).form=4
  ·rw [if_pos hc];refine Iw _ _ (.inr ?_);rw [hsy];unfold xB;rcases hc with h | h | h
   ·exact .inl h
   ·refine (Int.lt_or_le (opAt (iE r)).form form).imp id fun hge=>?_
    split
    ·omega
    split<;>omega
   ·refine (Int.lt_or_le (opAt (iE r)).form form).imp id fun hge=>?_
    rw [if_pos h.1];omega
  rw [if_neg hc];have c1:form≤(opAt (iE r)).form:=by omega
  have c2:(opAt (iE r)).form≤xB own:=by
   unfold xB;split
   ·omega
   split<;>omega
  generalize hF:(opAt (iE r)).form=F at *;have hk:=bf hi2;have hft:=hf.tail hk;have htl:=lJ hf;have ha:=hA (F+1) r.tail (by omega) (by omega) hft (by omega);have hcount:(xB own+1-form).toNat=(F-form).toNat+((xB own-F).toNat+1):=by omega
  have hFa:form+((F-form).toNat:Int)=F:=by omega
  have hgo:¬ ((fF (aH (sN r))).1<0∨(fF (aH (sN r))).2≠F):=by
   rintro (h | h)
   ·exact hnn h
   ·exact h hsy
  rw [hcount,ER,hFa];rw [kL,Iw (xB own-F).toNat (F+1) (.inr (.inl (by rw [hsy];omega)))];dsimp only;obtain ⟨g,hg⟩:∃ g,r.length=g+1:=⟨r.length-1,by have:=List.length_pos_iff.2 hf.ne;omega⟩;rw [hg,loopS,if_neg hgo];rw [hsy1];have hadv:aK (sN r)=sN r.tail:=rfl;rw [hadv];cases e1:ex (F+1) r.tail with
  | error e' =>
   dsimp only;refine kQ ha e1 ?_;split
   ·exact Ik hR _ _ _ _
   ·exact (Iu hR _ _ _ _).trans (Ik hR _ _ _ _)
  | ok v =>
  obtain ⟨y,r'⟩:=v;dsimp only;have s1:=hS _ _ _ _ e1;rw [d_ ha e1];dsimp only;have hl':r'.length≤f:=by have:=s1.le;omega
  have ih:=Vh hA hS hR h0 f F (.mk (opAt (iE r)).op 0 0 [] [e,y]) r' (by omega) (by omega) (s1.2 hft) hl' (by have:=s1.le;omega);by_cases h4:F=4
  ·rw [if_pos h4];have ht:xB F=3:=by rw [h4];rfl
   rw [ht,show (3+1-form).toNat=(F-form).toNat by omega] at ih;exact ih
  ·rw [if_neg h4];have ht:xB F=F:=by unfold xB;rw [if_neg h4,if_neg (show ¬ F=7 by omega)]
   rw [ht,show (F+1-form).toNat=(F-form).toNat+1 by omega,ER,hFa] at ih;rw [kL,kL] at ih;dsimp only at ih;rw [MH hR g r'.length _ _ (s1.2 hft) (by show r'.length≤g;have:=s1.le;omega) (Nat.le_refl _)];exact ih
theorem acQ {form:Int} {r:List Tok} (h0:0≤form) (h7:form<7) (hf:Fin1 r) (hi:form=0→aV [105,102] r=false) (h3:form=3→aV [110,111,116] r=false) :
  kY form (sN r)=loopS kY form (kY (form+1) (sN r)).2.r.length (kY (form+1) (sN r)).1 (kY (form+1) (sN r)).2:=by
 have hsf:=Fp (aH (kY (form+1) (sN r)).2);have hid:form=0∨form=3→(fF (aH (kY (form+1) (sN r)).2)).1<0∨(fF (aH (kY (form+1) (sN r)).2)).2≠form:=by
  intro h;rcases hsf with h' | h'
  ·exact .inl h'
  ·exact .inr aI
 have e1:∀ w,isS w (sN r)=aV w r:=fun _=>rfl
 rw [Hq (form:=form) (s:=sN r) h0 (by omega) hf];unfold yJ;rw [if_neg (show ¬ (sN r).er.isSome=true from fun h=>Bool.noConfusion h)];rw [e1,e1];by_cases f0:form=0
 ·rw [hi f0,if_neg (by simp),if_pos f0,En (hid (.inl f0)),f0];rfl
 rw [if_neg (fun x=>f0 x.1),if_neg f0];by_cases f3:form=3
 ·rw [h3 f3,if_neg (by simp),if_neg (show ¬ form=7 by omega),if_pos f3,En (hid (.inr f3)),f3];rfl
 rw [if_neg (fun x=>f3 x.1),if_neg (show ¬ form=7 by omega),if_neg f3]
theorem Kq {r:List Tok} (hf:Fin1 r):∀ (k:Nat) (form:Int),0≤form→form+k≤7→(form=0→aV [105,102] r=false∨k=0)→(aV [110,111,116] r=false∨form+k≤3∨3<form) →
  kY form (sN r)=kL kY k form (kY (form+k) (sN r)).1 (kY (form+k) (sN r)).2
 | 0,form,_,_,_,_=>by
  rw [show form+((0:Nat):Int)=form by omega];rfl
 | k+1,form,h0,h7,hi,hn=>by
  have ih:=Kq hf k (form+1) (by omega) (by omega) (fun h=>by omega) (hn.imp id (fun h=>by omega));rw [show form+1+(k:Int)=form+((k+1:Nat):Int) by omega] at ih;rw [kL,← ih];exact acQ h0 aI hf (fun h=>(hi h).resolve_right aI) (fun h=>hn.resolve_right aI)
theorem ahf {r:List Tok} (hf:Fin1 r) (hb:aV [105,102] r=true):kY 0 (sN r)=KJ kY (sN r.tail):=by
 rw [Hq (form:=0) (s:=sN r) (by omega) (by omega) hf];unfold yJ;rw [if_neg (show ¬ (sN r).er.isSome=true from fun h=>Bool.noConfusion h),if_pos ⟨rfl,hb⟩];rfl
theorem afv {r:List Tok} (hf:Fin1 r) (hb:aV [110,111,116] r=true):kY 3 (sN r)=notS kY (sN r.tail):=by
 rw [Hq (form:=3) (s:=sN r) (by omega) (by omega) hf];unfold yJ;rw [if_neg (show ¬ (sN r).er.isSome=true from fun h=>Bool.noConfusion h),if_neg (fun x=>absurd x.1 (by decide)),if_neg (by decide),if_pos ⟨rfl,hb⟩];rfl
theorem aiZ {r:List Tok} (hf:Fin1 r):kY 7 (sN r)=sJ kY (sN r):=by
 rw [Hq (form:=7) (s:=sN r) (by omega) (by omega) hf];unfold yJ;rw [if_neg (show ¬ (sN r).er.isSome=true from fun h=>Bool.noConfusion h),if_neg (fun x=>absurd x.1 (by decide)),if_neg (by decide),if_neg (fun x=>absurd x.1 (by decide)),if_pos rfl]
theorem MX {n:Nat} {ex:Rec} (hA:HA n ex kY) (hS:iP ex) {form own:Int} (h0:0≤form) (w0:0≤own) (w7:own≤7) {r:List Tok} {p:Ps Exp} {g:Exp×Sr} (ha:Ag p g) (hp:∀ x r',p=.ok (x,r')→iw r r') (hf:Fin1 r) (hn:r.length≤n+1) :
  Ag (match p with
   | .error e=>.error e
   | .ok (e,r')=>kZ ex form r'.length e own r') (kL kY (xB own+1-form).toNat form g.1 g.2):=by
 cases e1:p with
 | error e=>exact kQ ha e1 (Ik zi _ _ _ _)
 | ok v =>
  obtain ⟨x,r'⟩:=v;have s1:=hp _ _ e1;rw [d_ ha e1];exact Vh hA hS zi h0 r'.length own x r' w0 w7 (s1.2 hf) (Nat.le_refl _) (Nat.le_trans s1.le hn)
theorem TU:∀ n:Nat,HA n (xX n) kY
 | 0,form,r,_,_,hf,hn=>absurd (List.length_pos_iff.2 hf.ne) (by omega)
 | n+1,form,r,h0,h7,hf,hn=>by
  have hA:=TU n;have hS:=xM n;have htl:=lJ hf;show Ag (yH (xX n) form r) _;unfold yH yR;by_cases c1:form=0∧aV [105,102] r=true
  ·rw [if_pos c1];have:=MX hA hS h0 (own:=0) (by omega) (by omega) (aiA hA hS zi (hf.tail (bf c1.2)) (show r.tail.length≤n by omega)) (fun x r' h=>(iw.tail (bf c1.2)).trans (Vz hS h)) hf hn;rw [c1.1] at this ⊢;rw [ahf hf c1.2];rw [show (xB 0+1-0).toNat=0+1 from rfl,kL] at this;dsimp only [kL] at this;rw [En (by
    rcases Fp (aH (KJ kY (sN r.tail)).2) with h | h
    ·exact .inl h
    ·exact .inr aI)] at this
   cases e1:zx (xX n) r.tail with
   | error e=>rw [e1] at this;exact this
   | ok v=>rw [e1] at this;exact this
  rw [if_neg c1];have hi:form=0→aV [105,102] r=false:=fun h=>by
   cases hb:aV [105,102] r with
   | true=>exact (c1 ⟨h,hb⟩).elim
   | false=>rfl
  by_cases c2:form≤3∧aV [110,111,116] r=true
  ·rw [if_pos c2];have:=MX hA hS h0 (own:=3) (by omega) (by omega) (ahT hA (hf.tail (bf c2.2)) (show r.tail.length≤n by omega)) (fun x r' h=>(iw.tail (bf c2.2)).trans (QL hS h)) hf hn;rw [Kq hf (3-form).toNat form h0 (by omega) (fun h=>.inl (hi h)) (.inr (.inl (by omega))),show form+((3-form).toNat:Int)=3 by omega,afv hf c2.2];rw [show (xB 3+1-form).toNat=(3-form).toNat+1 by show (3+1-form).toNat=_;omega,ER,show form+((3-form).toNat:Int)=3 by omega,kL] at this;dsimp only [kL] at this;rw [En (by
    rcases Fp (aH (notS kY (sN r.tail)).2) with h | h
    ·exact .inl h
    ·exact .inr aI)] at this
   cases e1:notP (xX n) r.tail with
   | error e=>rw [e1] at this;exact this
   | ok v=>rw [e1] at this;exact this
  ·rw [if_neg c2];have:=MX hA hS h0 (own:=7) (by omega) (by omega) (afP hA hS zi hf hn) (fun x r' h=>O8 hS h) hf hn;have hd:aV [110,111,116] r=false∨form+((7-form).toNat:Int)≤3∨3<form:=by
    cases hb:aV [110,111,116] r with
    | true =>
     refine .inr (.inr ?_);by_cases h:form≤3
     ·exact (c2 ⟨h,hb⟩).elim
     ·omega
    | false=>exact .inl rfl
   rw [Kq hf (7-form).toNat form h0 (by omega) (fun h=>.inl (hi h)) hd,show form+((7-form).toNat:Int)=7 by omega,aiZ hf];rw [show (xB 7+1-form).toNat=(7-form).toNat by show (6+1-form).toNat=_;omega] at this;cases e1:iW (xX n) r with
   | error e=>rw [e1] at this;exact this
   | ok v=>rw [e1] at this;exact this
end Go.Proofs.YtgaallgiaachlaaGreatDoor
