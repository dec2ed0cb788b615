import Derived.Test.YtgaallgiaachlaaGreatDoorLb
import Derived.Shelf.SortM.Plain
import Derived.Shelf.SortM.SortNone
import Derived.Shelf.Slices.CompactI
import Derived.Lib.SlKeysI
import Derived.ProofKit
import Derived.Deep.Slices
import Derived.Shelf.SlIter.Nil
import Derived.Shelf.SlIterI.Nil
import Derived.Shelf.Strconv.Itoa3
import Derived.Shelf.Strconv.AtoiAll
import Derived.Shelf.Small.Wraps
import Derived.Shelf.Small.Strs
import Derived.Lib.Builder
import Derived.Recover
import Derived.Shelf.Strings.OnBuilder
import Derived.Shelf.Strings.Split
import Derived.Shelf.Strings.Prefix
import Derived.Shelf.Vars
namespace Go.Own
theorem any_beq {d:Nat} {l:List Nat} (h:d∈l):(l.any fun j=>Nat.beq d j)=true:=List.any_eq_true.2 ⟨d,h,by simp⟩
theorem dstIn_true {o:Option Nat} {d:Nat} {l:List Nat} (ho:o=some d) (h:d∈l):dstIn o l=true:=by subst ho;exact any_beq h
theorem meets_true {a b:List Nat} {i:Nat} (h:i∈a) (h':i∈b):meets a b=true:=List.any_eq_true.2 ⟨i,h,any_beq h'⟩
theorem Hist.suffix [Tabs] {C:Cx} {ops:Array Oper} {env:Env} {H:Heap} {nx:Nat} {T:List Rec}:∀ {R:List Rec},Hist C ops env H nx R→T <:+ R→Hist C ops env H nx T
 | [],h,hs=>by rw [List.suffix_nil.1 hs];trivial
 | x::R,h,hs=>by
  rcases List.suffix_cons_iff.1 hs with rfl | hs'
  ·exact h
  ·exact Hist.suffix h.1 hs'
theorem Hist.nx_le [Tabs] {C:Cx} {ops:Array Oper} {env:Env} {H:Heap} {nx:Nat}:∀ {R:List Rec},Hist C ops env H nx R→nx≤nxR nx R
 | [],h=>Nat.le_refl _
 | x::R,h=>by
  have:=Hist.nx_le h.1
  obtain ⟨_,_,_,h1,h2,_⟩:=h
  show nx≤x.n1
  omega
theorem Hist.n1_le [Tabs] {C:Cx} {ops:Array Oper} {env:Env} {H:Heap} {nx:Nat} {r:Rec} {B:List Rec}:∀ {R:List Rec},Hist C ops env H nx R→(r::B) <:+ R→r.n1≤nxR nx R
 | [],h,hs=>by simp at hs
 | x::R,h,hs=>by
  rcases List.suffix_cons_iff.1 hs with e | hs'
  ·cases e;exact Nat.le_refl _
  ·have:=Hist.n1_le h.1 hs'
   obtain ⟨_,_,_,h1,h2,_⟩:=h
   show r.n1≤x.n1
   omega
structure InvD [Tabs] (C:Cx) (F:Fr) (env:Env) (H:Heap) (nx:Nat) (R:List Rec) (E:Nat→Bool) (m:Ids) (S:Blocks) (H₂:Heap) (a:Act) (w:World):Prop where
 good:Good m S w H₂
 far:Far F.F0 F.w0 w
 owns:∀ k,own m H₂ k→F.F0 k∨F.w0.heap.size≤k
 ro:∀ g,S g→F.S0 g∨F.F0 g∨F.w0.heap.size≤g
 ro0:∀ g,F.S0 g→S g
 pins:∀ i v,F.pin i=some v→m i=some v
 free:∀ i,m i≠none→i<nx∨∃ r B,(r::B) <:+ R∧E B.length=true∧r.n0≤i∧i<r.n1
 heap:∀ id,lkH H₂ id=lay (fH id) (lkH H id) E R
 size:a.tmps.size=C.N
 defers:a.defers=F.ds
 tmps:∀ s,RelV m S w (a.tmps.getD s undef) (lay (fE s) (lk env s) E R)
def Preds (E:Nat→Bool) (o:Oper):Prop:=∀ e∈o.after,Region.binds .any e=true→E e.on=true
theorem ordered [Tabs] {C:Cx} {ops:Array Oper} {env:Env} {H:Heap} {nx:Nat} {R:List Rec} {E:Nat→Bool} (hH:Hist C ops env H nx R) (hO:ordB ops (R.map sigOf)=true) (hE:Closed ops E) {r r':Rec} {B B':List Rec}
  (hr:(r::B) <:+ R) (hr':(r'::B') <:+ B) (hc:clash ops.toList (sigOf r') (sigOf r)=true) (hp:Preds E r.o):E B'.length=true:=by
 have h1:=pairsB_spec (ordR_spec hO r B hr).2 r' B' hr' hc
 have hidx:ops[B.length]?=some r.o:=(hH.suffix hr).2.1
 refine masksF_spec hE ops.toList [] (fun k=>by simp) (fun j i h=>by simp at h) B.length B'.length h1 (fun o ho=>?_)
 rw [hidx] at ho
 cases ho
 exact hp
theorem suffix_same {r r':Rec} {B B' R:List Rec} (h:(r::B) <:+ R) (h':(r'::B') <:+ R) (hl:B'.length=B.length):r'=r∧B'=B:=by
 have:=(List.suffix_of_suffix_length_le h' h (by simp [hl])).eq_of_length (by simp [hl])
 cases this
 exact ⟨rfl,rfl⟩
theorem suffix_tail {r:Rec} {B R:List Rec} (h:(r::B) <:+ R):B <:+ R:=(List.suffix_cons r B).trans h
structure At [Tabs] (C:Cx) (ops:Array Oper) (env:Env) (H:Heap) (nx:Nat) (R:List Rec) (E:Nat→Bool) (r:Rec) (B:List Rec):Prop where
 hist:Hist C ops env H nx R
 ord:ordB ops (R.map sigOf)=true
 clo:Closed ops E
 here:(r::B) <:+ R
 not:E B.length=false
 preds:Preds E r.o
section
variable {C:Cx} {ops:Array Oper} {env:Env} {H:Heap} {nx:Nat} {R:List Rec} {E:Nat→Bool} {r:Rec} {B:List Rec}
theorem At.later [Tabs] (h:At C ops env H nx R E r B) {r':Rec} {B':List Rec} (h':(r'::B') <:+ R) (hl:B.length<B'.length) (hc:clash ops.toList (sigOf r) (sigOf r')=true):E B'.length=false:=by
 cases hb:E B'.length with
 | false=>rfl
 | true =>
  have hs:(r::B) <:+ B':=List.suffix_of_suffix_length_le h.here (suffix_tail h') zp21
  have hidx:ops[B'.length]?=some r'.o:=(h.hist.suffix h').2.1
  have:=ordered h.hist h.ord h.clo h' hs hc (h.clo _ _ hidx hb)
  rw [h.not] at this
  cases this
theorem At.read [Tabs] {X:Type _} (h:At C ops env H nx R E r B) {f:Rec→Option X} {x0:X} (hf:∀ r',f r'≠none→clash ops.toList (sigOf r) (sigOf r')=true∧clash ops.toList (sigOf r') (sigOf r)=true):lay f x0 E R=lay f x0 (fun _=>true) B:=by
 rw [lay_cut (suffix_tail h.here) fun r' B' h' hl hn=>?_]
 ·exact lay_congr fun r' B' h' hn=>ordered h.hist h.ord h.clo h.here h' (hf r' hn).2 h.preds
 ·by_cases e:B'.length=B.length
  ·rw [e];exact h.not
  ·exact h.later h' (by omega) (hf r' hn).1
def setE (E:Nat→Bool) (j:Nat):Nat→Bool:=fun i=>if i=j then true else E i
theorem At.write [Tabs] {X:Type _} (h:At C ops env H nx R E r B) {f:Rec→Option X} {x0 x:X} (hf:∀ r',f r'≠none→clash ops.toList (sigOf r) (sigOf r')=true) (hx:f r=some x):lay f x0 (setE E B.length) R=x:=by
 rw [lay_cut h.here fun r' B' h' hl hn=>?_,lay_cons]
 ·simp [setE,hx]
 ·have hl':B.length<B'.length:=by simp at hl;omega
  have:B'.length≠B.length:=by omega
  simp only [setE,this,if_false]
  exact h.later h' hl' (hf r' hn)
theorem At.same [Tabs] {X:Type _} (h:At C ops env H nx R E r B) {f:Rec→Option X} {x0:X} (hx:f r=none):lay f x0 (setE E B.length) R=lay f x0 E R:=by
 refine lay_congr fun r' B' h' hn=>?_
 by_cases e:B'.length=B.length
 ·obtain ⟨rfl,_⟩:=suffix_same h.here h' e
  exact (hn hx).elim
 ·simp [setE,e]
theorem fE_dst {s:Nat} {r:Rec} (h:fE s r≠none):r.o.dst=some s:=by
 unfold fE at h
 split at h
 ·exact (h rfl).elim
 ·split at h
  ·rename_i hd e;rw [hd,e]
  ·exact (h rfl).elim
theorem clash_read {s:Nat} {r r':Rec} (hs:s∈looksOf ops.toList r.o) (h:r'.o.dst=some s):clash ops.toList (sigOf r) (sigOf r')=true∧clash ops.toList (sigOf r') (sigOf r)=true:=by
 have h1:=dstIn_true h hs
 simp [clash,sigOf,h1]
theorem clash_touch {i:Nat} {r r':Rec} (hs:i∈r.touch) (h:fH i r'≠none):clash ops.toList (sigOf r) (sigOf r')=true∧clash ops.toList (sigOf r') (sigOf r)=true:=by
 have h1:=meets_true (findW_mem h) hs
 simp [clash,sigOf,h1]
theorem clash_wr {i:Nat} {r r':Rec} (hs:fH i r≠none) (h:fH i r'≠none):clash ops.toList (sigOf r) (sigOf r')=true:=by
 have h1:=meets_true (findW_mem hs) (findW_mem h)
 simp [clash,sigOf,h1]
theorem clash_dst {s:Nat} {r r':Rec} (hs:r.o.dst=some s) (h:r'.o.dst=some s):clash ops.toList (sigOf r) (sigOf r')=true:=by
 have:dstSame (some s) (some s)=true:=by simp [dstSame]
 simp [clash,sigOf,hs,h,this]
theorem looks_mem {ops:List Oper} {o:Oper} {x:Operand} {s:Nat} (hx:x∈o.op.operands.toList) (he:x=.tmp s):s∈looksOf ops o:=by
 subst he
 exact List.mem_append_right _ (List.mem_filterMap.2 ⟨.tmp s,hx,rfl⟩)
theorem looks_guard {ops:List Oper} {o oj:Oper} {j t:Nat} {pol:Bool} (hg:o.guard=some (j,pol)) (hj:ops[j]?=some oj) (ht:oj.dst=some t):t∈looksOf ops o:=by
 refine List.mem_append_left _ ?_
 simp [hg,hj,ht]
theorem zt133 {p:Prop}(h:p:=by
 rcases hI.free i (by rw [hm];simp) with h1 | ⟨r,B,hr,_,_,h1⟩
 ·have:=hH.nx_le
  omega
 ·have:=hH.n1_le hr
  omega):p:=h
theorem InvD.core [Tabs] {F:Fr} {m:Ids} {S:Blocks} {H₂:Heap} {a:Act} {w:World} (hI:InvD C F env H nx R E m S H₂ a w) (hH:Hist C ops env H nx R):Core F m S w H₂ (nxR nx R):=by
 refine ⟨hI.good,fun i hi=>?_,hI.far,hI.owns,hI.ro,hI.ro0,hI.pins⟩
 cases hm:m i with
 | none=>rfl
 | some v =>
  exact zt133
theorem Ext.flat [Tabs] {m m':Ids} {S S':Blocks} {w w':World} {H H':Heap} {n:Nat} (h:Ext m S w H n n m' S' w' H') (k:Nat):Ext m S w H k k m' S' w' H' :=
 ⟨h.ids,fun i _=>h.same i (by omega),h.ros,h.fresh,h.far,h.owns,h.good⟩
theorem zt38 {p:Prop}(h:p:=by
 obtain ⟨x,hx,rfl⟩:=List.mem_map.1 hu
 cases x with
 | tmp s =>
  have:=hI.tmps s
  rw [h.read fun r' hn=>clash_read (looks_mem hx rfl) (fE_dst hn),← lk_envR] at this
  exact this
 | const v=>exact .t _ _ (relT_avOf S w v)
 | global g=>exact .t _ _ (.undef _)
 | func f=>exact .t _ _ (.fn _ _ _ _ _ rfl rfl (fun j c x hj=>by simp at hj) (fun j c x hj=>by simp at hj))):p:=h
theorem zt81 {p:Prop}(h:p:=by
 rcases hw with hg | ⟨j,pol,oj,t,hg,hj,ht,hl⟩
 ·simp [Region.wanted,hg]
 ·rw [gate hg hj ht]
  have hsl:=slot t (looks_guard hg zp16 ht)
  rw [hl] at hsl
  rw [yieldT_eq (relV_bool hsl)]
  simp):p:=h
theorem zt121 {p:Prop}(h:p:=by
 have hy:yielded ops a.tmps j=yieldT a.tmps t:=by
  unfold yielded yieldT
  rw [hj]
  simp [ht]
  rfl
 simp only [Region.wanted,hg,hy]):p:=h
theorem zt134 {p:Prop}(h:p:=by
 rcases hI.free i hi with h1 | ⟨r',B',h',hE',h1⟩
 ·exact .inl h1
 ·exact .inr ⟨r',B',h',by simp [setE,hE'],h1⟩):p:=h
theorem zt163 {p:Prop}(h:p:=by
 intro t ht
 have:=hI.tmps t
 rwa [h.read fun r' hn=>clash_read ht (fE_dst hn),← lk_envR] at this):p:=h
theorem stepD [Tabs] {F:Fr} {m:Ids} {S:Blocks} {H₂:Heap} {a:Act} {w:World} {K:Act→World→Prop} {Q:Exit→Act→World→Prop} (h:At C ops env H nx R E r B) (hI:InvD C F env H nx R E m S H₂ a w)
  (hK:∀ m' S' H' a' w',InvD C F env H nx R (setE E B.length) m' S' H' a' w'→K a' w')
  (hP:∀ (m':Ids) (S':Blocks) (H':Heap) (w':World) (ch:List PanicEntry),C.px ch→Core F m' S' w' H' (nxR nx R)→Q (.panic ch) a w') :
  (Region.wanted r.o (yielded ops a.tmps)=true∧r.o.wp C.P a w K Q)∨(Region.wanted r.o (yielded ops a.tmps)=false∧K (a.put r.o.dst undef) w):=by
 obtain ⟨hHB,hidx,hdst,hn0,hn01,hsem⟩:=h.hist.suffix h.here
 have slot:∀ t,t∈looksOf ops.toList r.o→RelV m S w (a.tmps.getD t undef) (lk (envR env B) t):=by
  exact zt163
 have gate:∀ {j:Nat} {pol:Bool} {oj:Oper} {t:Nat},r.o.guard=some (j,pol)→ops[j]?=some oj→oj.dst=some t→Region.wanted r.o (yielded ops a.tmps)=(yieldT a.tmps t == some pol):=by
  intro j pol oj t hg hj ht
  exact zt121
 rcases hsem with ⟨hw,hsem⟩ | ⟨hs,hv,hwr,hn⟩
 rotate_left
 ·right
  have hwf:Region.wanted r.o (yielded ops a.tmps)=false:=by
   obtain ⟨j,pol,oj,t,hg,hj,ht,hl⟩:=hs
   rw [gate hg hj ht]
   have hsl:=slot t (looks_guard hg zp16 ht)
   rcases hl with hl | hl
   ·rw [hl] at hsl
    rw [yieldT_eq (relV_bool hsl)]
    cases pol<;>rfl
   ·rw [hl] at hsl
    have:a.tmps.getD t undef=undef:=by
     generalize a.tmps.getD t undef=v at hsl
     cases hsl with
     | t _ _ h=>cases h;rfl
    rw [yieldT_undef this]
    rfl
  refine ⟨hwf,hK m S H₂ _ w ⟨hI.good,hI.far,hI.owns,hI.ro,hI.ro0,hI.pins,fun i hi=>?_,fun id=>?_,?_,?_,fun s=>?_⟩⟩
  ·exact zt134
  ·rw [h.same (f:=fH id) (by simp [fH,hwr,findW])]
   exact hI.heap id
  ·cases hd:r.o.dst<;>simp [Act.put,hI.size]
  ·cases hd:r.o.dst<;>simp [Act.put,hI.defers]
  ·have old:=hI.tmps s
   cases hd:r.o.dst with
   | none =>
    rw [h.same (f:=fE s) (by simp [fE,hd])]
    exact old
   | some d =>
    have hlt:d<a.tmps.size:=by rw [hI.size];exact hdst d hd
    show RelV m S w ((a.tmps.setIfInBounds d undef).getD s undef) _
    rw [getD_set hlt]
    by_cases e:d=s
    ·subst e
     rw [if_pos rfl,h.write (f:=fE d) (x:=r.v) (fun r' hn=>clash_dst hd (fE_dst hn)) (by simp [fE,hd]),hv]
     exact .t _ _ .skip
    ·rw [if_neg e,h.same (f:=fE s) (by simp [fE,hd,e])]
     exact old
 left
 refine ⟨?_,?_⟩
 ·exact zt81
 refine hsem m S w a H₂ K Q hI.good (fun id hid=>?_) (fun i hi hlt=>?_) (fun u hu _=>?_) ?_ (fun ch hx m' S' w' wr hE=>hP m' S' _ w' ch hx ((hI.core h.hist).step (hE.flat _) (Nat.le_refl _)))
 ·rw [hI.heap id,lkH_heapR]
  exact h.read fun r' hn=>clash_touch hid hn
 ·obtain ⟨r',rfl,hlt⟩:=hlt
  cases hm:m i with
  | none=>rfl
  | some v =>
   rcases hI.free i (by rw [hm];simp) with h1 | ⟨r',B',h',hE',h1,h2⟩
   ·have:=hHB.nx_le
    omega
   ·have hlt':i<r.n1:=hlt
    by_cases e:B'.length=B.length
    ·rw [e,h.not] at hE';cases hE'
    ·by_cases hl:B'.length<B.length
     ·have hs:(r'::B') <:+ B:=List.suffix_of_suffix_length_le h' (suffix_tail h.here) zp21
      have:=hHB.n1_le hs
      omega
     ·have hs:(r::B) <:+ B':=List.suffix_of_suffix_length_le h.here (suffix_tail h') zp21
      obtain ⟨hH',_,_,hn0',_⟩:=h.hist.suffix h'
      have:=hH'.n1_le hs
      omega
 ·exact zt38
 ·rintro r' rfl v m' S' w' hX hV
  refine hK m' S' _ _ w' ⟨hX.good,?_,fun k hk=>?_,fun g hg=>?_,fun g hg=>hX.ros g (hI.ro0 g hg),fun i v hi=>hX.ids i v (hI.pins i v hi),fun i hi=>?_,fun id=>?_,?_,?_,fun s=>?_⟩
  ·refine hI.far.trans hX.far fun i hi ho=>?_
   rcases hI.owns i ho with h | h
   ·exact h
   ·omega
  ·rcases hX.owns k hk with h1 | h1
   ·exact hI.owns k h1
   ·exact .inr (Nat.le_trans hI.far.size h1)
  ·rcases hX.fresh g hg with h1 | h1 | h1
   ·exact hI.ro g h1
   ·exact .inr (hI.owns g h1)
   ·exact .inr (.inr (Nat.le_trans hI.far.size h1))
  ·by_cases hr:r.n0≤i∧i<r.n1
   ·exact .inr ⟨r,B,h.here,by simp [setE],hr⟩
   ·rw [hX.same i hr] at hi
    exact zt134
  ·rw [lkH_append]
   cases hf:findW r.wr id with
   | none =>
    rw [h.same (f:=fH id) hf]
    exact hI.heap id
   | some b =>
    rw [h.write (f:=fH id) (fun r' hn=>clash_wr (by rw [show fH id r=_ from hf];simp) hn) hf]
    rfl
  ·cases hd:r.o.dst<;>simp [Act.put,hI.size]
  ·cases hd:r.o.dst<;>simp [Act.put,hI.defers]
  ·have old:RelV m' S' w' (a.tmps.getD s undef) (lay (fE s) (lk env s) E R):=hX.relV hI.good (hI.tmps s)
   cases hd:r.o.dst with
   | none =>
    rw [h.same (f:=fE s) (by simp [fE,hd])]
    exact old
   | some d =>
    have hlt:d<a.tmps.size:=by rw [hI.size];exact hdst d hd
    show RelV m' S' w' ((a.tmps.setIfInBounds d v).getD s undef) _
    rw [getD_set hlt]
    by_cases e:d=s
    ·subst e
     rw [if_pos rfl,h.write (f:=fE d) (x:=r.v) (fun r' hn=>clash_dst hd (fE_dst hn)) (by simp [fE,hd])]
     exact hV
    ·rw [if_neg e,h.same (f:=fE s) (by simp [fE,hd,e])]
     exact old
end
theorem evOpD_sound [Tabs] {C:Cx} (hT:TabOk C.P C.T) {rd:Operand→AV} {H:Heap} {nx:Nat} {o:Oper} {k:Res→Prop} (h:evOpD C rd H nx o k):Shown C.P C.px true none rd H nx o k:=by
 unfold evOpD at h
 split at h
 ·rename_i c x y hop
  exact shown_pure' (us:=[(c,true,rd c),(x,true,rd x),(y,true,rd y)]) (uses_all (l:=[c,x,y]) (by simp [hop,Op.operands])) (evPickD_sound hop h)
 ·exact evOp_sound hT h
theorem zt137 {p:Prop}(h:p:=by
 have:=hl (j+1)
 rw [List.getElem?_cons_succ] at this
 rw [this]
 simp [Nat.add_assoc,Nat.add_comm 1 j]):p:=h
theorem zt168 {p:Prop}(h:p:=by
 intro d hd'
 simp only [dstOk,hd',Bool.and_eq_true] at hd
 simpa [Nat.blt_eq] using hd.1):p:=h
theorem evOpsD_sound [Tabs] {C:Cx} (hT:TabOk C.P C.T) {ops:Array Oper} {env0:Env} {H0:Heap} {nx0:Nat} {k:Sig→Env→Heap→Nat→Prop}:∀ (rest:List Oper) (R:List Rec),Hist C ops env0 H0 nx0 R→(∀ j,rest[j]?=ops[R.length+j]?) →
  evOpsD C ops.toList rest (envR env0 R) (heapR H0 R) (nxR nx0 R) (R.map sigOf) k →
  ∃ R',Hist C ops env0 H0 nx0 R'∧R'.length=R.length+rest.length∧k (R'.map sigOf) (envR env0 R') (heapR H0 R') (nxR nx0 R')
 | [],R,hH,_,h=>⟨R,hH,rfl,h⟩
 | o::rest,R,hH,hl,h=>by
  unfold evOpsD at h
  split at h
  ·exact h.elim
  ·rename_i hd
   have hidx:ops[R.length]?=some o:=by have:=hl 0;simpa using this.symm
   have hdst:∀ d,o.dst=some d→d<C.N:=by
    exact zt168
   rcases gateK_sound h with ⟨hw,h⟩ | ⟨hsk,h⟩
   ·obtain ⟨touch,Rr,h1,_,h3,h4⟩:=evOpD_sound hT h
    obtain ⟨r,hr,ht⟩:=h3 rfl
    obtain ⟨hn,hk⟩:=h4 r ((hr r).2 rfl)
    obtain ⟨v,touch',wr,n1⟩:=r
    simp only at hk ht
    subst ht
    rw [idsK_iff] at hk
    have hRr:Rr=fun r'=>r'=⟨v,touch',wr,n1⟩:=funext fun r'=>propext (hr r')
    subst hRr
    have hsem:=h1 trivial
    refine (evOpsD_sound hT rest (⟨o,v,touch',wr,nxR nx0 R,n1⟩::R) ⟨hH,hidx,hdst,rfl,hn,.inl ⟨hw,hsem⟩⟩ (fun j=>?_) ?_).imp fun R' h=>⟨h.1,by have:=h.2.1;simp at this ⊢;omega,h.2.2⟩
    ·exact zt137
    ·exact pushK_iff.1 (putEK_iff.1 hk)
   ·refine (evOpsD_sound hT rest (⟨o,.skip,[],[],nxR nx0 R,nxR nx0 R⟩::R) ⟨hH,hidx,hdst,rfl,Nat.le_refl _,.inr ⟨hsk,rfl,rfl,rfl⟩⟩ (fun j=>?_) ?_).imp fun R' h=>⟨h.1,by have:=h.2.1;simp at this ⊢;omega,h.2.2⟩
    ·exact zt137
    ·exact pushK_iff.1 (putEK_iff.1 (idsK_iff.1 h))
theorem nth_suffix {R:List Rec} {j:Nat} (h:j<R.length):∃ r B,(r::B) <:+ R∧B.length=j:=by
 have hs:=List.drop_suffix (R.length-1-j) R
 cases hd:R.drop (R.length-1-j) with
 | nil =>
  have:=congrArg List.length hd
  simp at this
  omega
 | cons r B =>
  rw [hd] at hs
  refine ⟨r,B,hs,?_⟩
  have:=congrArg List.length hd
  simp at this
  omega
theorem setE_eq {listed:Array Bool} {j:Nat} (h:j<listed.size):(fun i=>(listed.setIfInBounds j true).getD i false)=setE (fun i=>listed.getD i false) j:=by
 funext i
 unfold setE
 by_cases e:i=j
 ·subst e;simp [h]
 ·rw [if_neg e,getD_set_ne false (fun h=>e h.symm)]
theorem closed_set {ops:Array Oper} {E:Nat→Bool} {j:Nat} {o:Oper} (h:Closed ops E) (ho:ops[j]?=some o) (hp:Preds E o):Closed ops (setE E j):=by
 intro i o' ho' hi e he hb
 have:E e.on=true:=by
  by_cases e':i=j
  ·subst e'
   rw [ho] at ho'
   cases ho'
   exact hp e he hb
  ·simp only [setE,e',if_false] at hi
   exact h i o' ho' hi e he hb
 simp [setE,this]
theorem zt34 {p:Prop}(h:p:=by
 rw [Array.toList_setIfInBounds,List.count_set (by simpa using hls)]
 have:listed.toList[j]'(by simpa using hls)=false:=by simpa using hf
 rw [this]
 have hc':listed.toList.count false=fuel+1:=hc
 rw [hc']
 rfl):p:=h
theorem zt32 {p:Prop}(h:p:=by
 obtain ⟨_,hidx,_⟩:=hH.suffix hr
 have hed:=edgesB_spec (ordR_spec hO r B hr).1
 have:j∈Region.ready .any ops listed:=by
  rw [mem_ready]
  refine ⟨?_,r.o,by rw [← hB];exact hidx,fun e he hbe=>?_⟩
  ·have hlt:j<listed.size:=by omega
   simp [Array.getD,hlt] at hb ⊢
   exact hb
  ·have hlt:=hed e (by simpa using he) hbe
   exact ih e.on (by omega) (by omega)
 rw [h0] at this
 simp at this):p:=h
theorem zt46 {p:Prop}(h:p:=by
 apply List.eq_nil_iff_forall_not_mem.2
 intro j hj
 obtain ⟨h1,o,ho,_⟩:=mem_ready.1 hj
 have hlt:j<listed.size:=by rw [hs];exact (Array.getElem?_eq_some_iff.1 ho).1
 simp [Array.getD,hlt] at h1
 have:false∈listed.toList:=by rw [← h1];simp
 have:=List.count_pos_iff.2 this
 omega):p:=h
theorem zt182 {p:Prop}(h:p:=by
 rw [setE_eq hls]
 exact closed_set hcl ho hpre):p:=h
theorem zt164 {p:Prop}(h:p:=by
 simp only [hw,if_true]
 exact .inl hst):p:=h
theorem drawLoop [Tabs] {C:Cx} {F:Fr} {ops:Array Oper} {env:Env} {H:Heap} {nx:Nat} {R:List Rec} (hH:Hist C ops env H nx R) (hO:ordB ops (R.map sigOf)=true) (hlen:R.length=ops.size) {Q:Exit→Act→World→Prop}
  (hQ:∀ (E:Nat→Bool) m S H₂ a w,(∀ j,j<ops.size→E j=true)→InvD C F env H nx R E m S H₂ a w→Q .normal a w)
  (hP:∀ (m:Ids) (S:Blocks) (H':Heap) (a:Act) (w:World) (ch:List PanicEntry),C.px ch→Core F m S w H' (nxR nx R)→a.tmps.size=C.N→a.defers=F.ds→Q (.panic ch) a w) :
  ∀ (fuel:Nat) (listed:Array Bool) m S H₂ a w,listed.size=ops.size→listed.toList.count false=fuel→Closed ops (fun i=>listed.getD i false)→InvD C F env H nx R (fun i=>listed.getD i false) m S H₂ a w →
   wpAny C.P .any ops Q fuel listed a w:=by
 have done:∀ (listed:Array Bool) m S H₂ a w,listed.size=ops.size→InvD C F env H nx R (fun i=>listed.getD i false) m S H₂ a w→Region.ready .any ops listed=[]→Q .normal a w:=by
  intro listed m S H₂ a w hs hI h0
  refine hQ _ m S H₂ a w (fun j=>?_) hI
  induction j using Nat.strongRecOn with
  | _ j ih =>
   intro hj
   cases hb:listed.getD j false with
   | true=>rfl
   | false =>
    exfalso
    obtain ⟨r,B,hr,hB⟩:=nth_suffix (R:=R) (j:=j) (by omega)
    exact zt32
 intro fuel
 induction fuel with
 | zero =>
  intro listed m S H₂ a w hs hc hcl hI
  have h0:Region.ready .any ops listed=[]:=by
   exact zt46
  exact ⟨h0,done listed m S H₂ a w hs hI h0⟩
 | succ fuel ih =>
  intro listed m S H₂ a w hs hc hcl hI
  refine ⟨fun h0=>done listed m S H₂ a w hs hI h0,fun j hj=>?_⟩
  obtain ⟨h1,o,ho,hpre⟩:=mem_ready.1 hj
  have hlt:j<ops.size:=(Array.getElem?_eq_some_iff.1 ho).1
  have hls:j<listed.size:=by omega
  obtain ⟨r,B,hr,hB⟩:=nth_suffix (R:=R) (j:=j) (by omega)
  obtain ⟨_,hidx,_⟩:=hH.suffix hr
  have hro:o=r.o:=by rw [hB,ho] at hidx;cases hidx;rfl
  subst hro
  have hf:listed[j]=false:=by simpa [Array.getD,hls] using h1
  have hat:At C ops env H nx R (fun i=>listed.getD i false) r B:=⟨hH,hO,hcl,hr,by simp [hB,hls,hf],hpre⟩
  unfold wpOp
  rw [ho]
  have next:∀ m' S' H' a' w',InvD C F env H nx R (setE (fun i=>listed.getD i false) B.length) m' S' H' a' w'→wpAny C.P .any ops Q fuel (listed.setIfInBounds j true) a' w':=?next
  rcases stepD (Q:=Q) hat hI next (fun m' S' H' w' ch hx hc=>hP m' S' H' a w' ch hx hc hI.size hI.defers) with ⟨hw,hst⟩ | ⟨hw,hst⟩
  ·exact zt164
  ·simp only [hw,if_false,Bool.false_eq_true]
   exact hst
  intro m' S' H' a' w' hI'
  rw [hB,← setE_eq hls] at hI'
  refine ih _ m' S' H' a' w' (by simp [hs]) ?_ ?_ hI'
  ·exact zt34
  ·exact zt182
theorem rep_false (n i:Nat):(Array.replicate n false).getD i false=false:=by
 by_cases h:i<n<;>simp [Array.getD,h]
theorem good_congr [Tabs] {m:Ids} {S:Blocks} {w:World} {H H':Heap} (h:Good m S w H) (he:∀ id,lkH H id=lkH H' id):Good m S w H' :=
 ⟨fun id=>by rw [← he id];exact h.rel id,fun i j vi vj k hi hj=>h.sep i j vi vj k (by rw [he i];exact hi) (by rw [he j];exact hj),fun g hg=>⟨(h.ro g hg).1,fun i v hl=>(h.ro g hg).2 i v (by rw [he i];exact hl)⟩,h.tab⟩
theorem zt98 {p:Prop}(h:p:=by
 rw [lay_cut (List.nil_suffix) fun r B _ _ _=>rep_false _ _]
 rfl):p:=h
theorem zt143 {p:Prop}(h:p:=by
 intro j o ho hj
 have hj':(Array.replicate ops.size false).getD j false=true:=hj
 rw [rep_false] at hj'
 cases hj'):p:=h
theorem zt172 {p:Prop}(h:p:=by
 left
 cases Nat.lt_or_ge i nx with
 | inl h=>exact h
 | inr h=>exact (hi (hc'.free i h)).elim):p:=h
theorem DrawG.eff [Tabs] {C:Cx} (hC:CxOk C) {id:Nat} {ops:Array Oper} {env:Env} {H:Heap} {nx:Nat} {Q:St→Prop}
  (h:evOpsD C ops.toList ops.toList env H nx [] fun sg env H nx=>ordB ops sg=true∧flushK C.keep [] env [] fun env=>Q ⟨env,H,nx⟩):DrawG C id ops env H nx Q:=by
 refine .any fun F a w _ ⟨m,S,hc,hs,hd,hrel⟩=>?_
 obtain ⟨R,hH,hlen,hO,hk⟩:=evOpsD_sound hC.tab (ops:=ops) ops.toList [] trivial (by simp) h
 refine wp_region_any hC.mixed ?_
 have e:=ext_below (nx:=nx) (w':={ w with drawn:=w.drawn+1 }) hc.good ⟨rfl,rfl,rfl,Nat.le_refl _,fun _ _=>rfl⟩
 have hc':=hc.step e (Nat.le_refl _)
 refine drawLoop hH hO (by simpa using hlen) (F:=F) ?_ (fun m S H' a w ch hx hc hs hd=>⟨⟨[],H',nxR nx R⟩,⟨m,S,hc,hs,hd,fun s=>.t _ _ (.undef _)⟩,hx⟩) ops.size _ m S H a _ (by simp) (by simp) ?_ ⟨hc'.good,hc'.far,hc'.owns,hc'.ro,hc'.ro0,hc'.pins,fun i hi=>?_,fun id=>?_,hs,hd,fun s=>?_⟩
 ·intro E m S H₂ a w hall hI
  have hall':∀ {X:Type _} (f:Rec→Option X) (x0:X),lay f x0 E R=lay f x0 (fun _=>true) R:=fun f x0=>lay_congr fun r B hr _=>hall _ (by
   have:=hr.length_le
   simp at this hlen
   omega)
  have hheap:∀ id,lkH H₂ id=lkH (heapR H R) id:=fun id=>by rw [hI.heap id,hall',lkH_heapR]
  have hown:∀ k,own m (heapR H R) k→own m H₂ k:=fun k ⟨i,v,h1,h2⟩=>⟨i,v,by rw [hheap];exact h1,h2⟩
  have henv:∀ s,RelV m S w (a.tmps.getD s undef) (lk (envR env R) s):=fun s=>by
   have:=hI.tmps s
   rwa [hall',← lk_envR] at this
  obtain ⟨env',hq,he⟩:=flushK_sound (stk:=[]) (Rel.run (F:=F) (st:=⟨envR env R,heapR H R,nxR nx R⟩) hI.size henv) _ _ _ hk (fun s=>.t _ _ (.undef _))
  refine ⟨⟨env',heapR H R,nxR nx R⟩,⟨m,S,⟨good_congr hI.good hheap,fun i hi=>?_,hI.far,fun k hk=>hI.owns k (hown k hk),hI.ro,hI.ro0,hI.pins⟩,hI.size,hI.defers,he⟩,hq⟩
  cases hm:m i with
  | none=>rfl
  | some v =>
   have hi':nxR nx R≤i:=hi
   exact zt133
 ·exact zt143
 ·exact zt172
 ·have:lay (fH id) (lkH H id) (fun i=>(Array.replicate ops.size false).getD i false) R=lkH H id:=by
   exact zt98
  rw [this]
 ·have:lay (fE s) (lk env s) (fun i=>(Array.replicate ops.size false).getD i false) R=lk env s:=by
   exact zt98
  rw [this]
  exact e.relV hc.good (hrel s)
theorem loop_up [Tabs] {C:Cx} (hT:CxOk C) {body:Code} {st0:St} {Q:Exit→St→Prop} (n:Nat) (P:Nat→Prop) (st:Nat→St) (h0:P 0) (hw:Wk C.pn C.N st0 (st 0))
  (round:∀ k,k≤n→P k→evCode C body (st k) (loopQ (fun k=>k≤n∧P k) (fun k=>n-k) (n-k) C.pn C.N st Q)):LoopG C body st0 Q :=
 loop_inv hT (σ:=Nat) (fun k=>k≤n∧P k) (fun k=>n-k) st 0 ⟨Nat.zero_le _,h0⟩ hw fun k ⟨h1,h2⟩=>round k h1 h2
theorem up [Tabs] {n k pn N:Nat} {P:Nat→Prop} {st:Nat→St} {st':St} (h:k<n) (hP:P (k+1)) (hw:Wk pn N st' (st (k+1))):∃ s,(s≤n∧P s)∧n-s<n-k∧Wk pn N st' (st s) :=
 ⟨k+1,⟨h,hP⟩,by omega,hw⟩
theorem getD_mem {α:Type _} {l:List α} {k:Nat} {d:α} (h:k<l.length):l.getD k d∈l:=by simp [List.getD,List.getElem?_eq_getElem h]
theorem mem_getD {α:Type _} {l:List α} {x d:α} (h:x∈l):∃ k,k<l.length∧l.getD k d=x:=by
 obtain ⟨k,hk,rfl⟩:=List.getElem_of_mem h
 exact ⟨k,hk,by simp [List.getD,List.getElem?_eq_getElem hk]⟩
theorem take_getD {α:Type _} {l:List α} {k:Nat} {d:α} (h:k<l.length):l.take (k+1)=l.take k++[l.getD k d]:=by
 rw [List.take_add_one]
 simp [List.getD,List.getElem?_eq_getElem h]
def freezeR:AR→AR
 | .val a=>.val a
 | .new (.lst _ E l)=>.val (.lsl E l)
 | .new (.row _ E enc d xs)=>.val (.sl E enc d xs)
 | .new (.smap ev dv es)=>.val (.rsmap ev dv es)
 | .new (.imap k ev dv es)=>.val (.rimap k ev dv es)
 | .new (.gmap k ev dv es)=>.val (.rgmap k ev dv es)
 | .new _=>.val .undef
theorem freezeR_rel {S S2:Blocks} {w:World} {B:Nat} {u:Value} {r:AR} (h:RelR S w B u r) (hS:∀ g,S g→S2 g) (hb:∀ b g,r=.new b→blk u=some g→S2 g):RelR S2 w B u (freezeR r):=by
 cases r with
 | val a=>exact RelT.more hS h
 | new b =>
  have hrel:=h.2.2 0
  have hbk:=fun g=>hb b g rfl
  cases b with
  | dead=>exact .undef u
  | cells e l=>exact .undef u
  | arr e k n f=>exact .undef u
  | que e E enc d xs=>exact .undef u
  | lst e E l =>
   obtain ⟨v,vs,hm,hr⟩:=hrel
   simp at hm
   subst hm
   exact hr.lent hS hbk
  | row e E enc d xs =>
   obtain ⟨v,vs,hm,hr⟩:=hrel
   simp at hm
   subst hm
   exact .sl _ _ _ _ _ (hr.lent hS hbk)
  | smap ev dv es =>
   obtain ⟨r,en,clock,hm,hr,hl,hst,hrel⟩:=hrel
   simp at hm
   subst hm
   exact .rsmap ev dv es r clock en (hbk r rfl) hr hl hst (fun j x p h1 h2=>(hrel j x p h1 h2).1) (fun j x p h1 h2=>(hrel j x p h1 h2).2.more hS)
  | imap k ev dv es =>
   obtain ⟨r,en,clock,hm,hr,hl,hst,hrel⟩:=hrel
   simp at hm
   subst hm
   exact .rimap k ev dv es r clock en (hbk r rfl) hr hl hst (fun j x p h1 h2=>(hrel j x p h1 h2).1) (fun j x p h1 h2=>(hrel j x p h1 h2).2.more hS)
  | gmap k ev dv es =>
   obtain ⟨r,en,clock,hm,hr,hl,hst,hrel⟩:=hrel
   simp at hm
   subst hm
   exact .rgmap k ev dv es r clock en (hbk r rfl) hr hl hst (fun j x p h1 h2=>(hrel j x p h1 h2).1) (fun j x p h1 h2=>(hrel j x p h1 h2).2.more hS)
theorem freezeR_val (r:AR):∃ a,freezeR r=.val a:=by
 cases r with
 | val a=>exact ⟨a,rfl⟩
 | new b=>cases b<;>exact ⟨_,rfl⟩
theorem Left.freeze {S S':Blocks} {w w':World} {us:List Value} {rs:List AR} (h:Left S w us rs S' w'):∃ S2,Left S w us (rs.map freezeR) S2 w':=by
 have hnew:∀ (j:Nat) (u:Value) (b:AB) (g:Nat),us[j]?=some u→rs[j]?=some (.new b)→blk u=some g→w.heap.size≤g∧g<w'.heap.size:=by
  intro j u b g hu hb hg
  obtain ⟨h1,h2,h3⟩:RelR S' w' w.heap.size u (.new b):=h.rel j u _ hu hb
  exact ⟨h2 g hg,(h3 0).blk_lt h1 (by simp) hg⟩
 refine ⟨fun g=>S' g∨∃ (j:Nat) (u:Value) (b:AB),us[j]?=some u∧rs[j]?=some (AR.new b)∧blk u=some g,⟨by simp [h.len],fun j u r hu hr=>?_,h.below,fun g hg=>.inl (h.ros g hg),fun g hg=>?_,fun g hg=>?_,fun i u b k hu hb=>?_⟩⟩
 ·rw [List.getElem?_map] at hr
  cases hr0:rs[j]? with
  | none=>rw [hr0] at hr;cases hr
  | some r0 =>
   rw [hr0] at hr
   cases hr
   exact freezeR_rel (h.rel j u r0 hu hr0) (fun g hg=>.inl hg) fun b g e hg=>.inr ⟨j,u,b,hu,by rw [hr0,e],hg⟩
 ·rcases hg with hg | ⟨j,u,b,h1,h2,h3⟩
  ·exact h.fresh g hg
  ·exact .inr (hnew j u b g h1 h2 h3).1
 ·rcases hg with hg | ⟨j,u,b,h1,h2,h3⟩
  ·exact h.lt g hg
  ·exact (hnew j u b g h1 h2 h3).2
 ·rw [List.getElem?_map] at hb
  cases hr0:rs[i]? with
  | none=>rw [hr0] at hb;cases hb
  | some r0 =>
   rw [hr0] at hb
   obtain ⟨a,ha⟩:=freezeR_val r0
   simp [ha] at hb
theorem APure.freeze [Tabs] {P:Program} {f:FuncId} {args:List AV} {R:List AR→Prop} (h:APure P f args R):APure P f args (fun rs'=>∃ rs,R rs∧rs'=rs.map freezeR) :=
 ⟨h.1,fun S w vs hS hT hv=>(h.2 S w vs hS hT hv).mono fun _ _ ⟨us,rs,S',he,hR,hl⟩=>let ⟨S2,hl2⟩:=hl.freeze;⟨us,_,S2,he,⟨rs,hR,rfl⟩,hl2⟩⟩
theorem APure.freeze1 [Tabs] {P:Program} {f:FuncId} {args:List AV} {rs0:List AR} (h:APure P f args (fun rs=>rs=rs0)):APure P f args (fun rs=>rs=rs0.map freezeR) :=
 h.freeze.mono fun rs ⟨rs',e,e'⟩=>by subst e;exact e'
inductive LeR:AR→AR→Prop
 | same (r:AR):LeR r r
 | nil {T:Type} (e E:Nat) (enc:T→AV) (d:T):LeR (.val .nils) (.new (.row e E enc d []))
 | nill (e E:Nat):LeR (.val .nils) (.new (.lst e E []))
 | lst {T:Type} (e E:Nat) (enc:T→AV) (d:T) (l:List AV) (xs:List T) (h:l=xs.map enc):LeR (.new (.lst e E l)) (.new (.row e E enc d xs))
 | nilsl {T:Type} (E:Nat) (enc:T→AV) (d:T):LeR (.val .nils) (.val (.sl E enc d []))
 | lsl {T:Type} (E:Nat) (enc:T→AV) (d:T) (l:List AV) (xs:List T) (h:l=xs.map enc):LeR (.val (.lsl E l)) (.val (.sl E enc d xs))
theorem zt73 {p:Prop}(h:p:=by
 have:u=.slice none 0 0:=by cases hr;rfl
 subst this
 exact ⟨⟨rfl,fun k hk=>by simp [blk] at hk,fun n=>⟨_,[],by simp,⟨World.ownsRow_nil w 0 e E,by simp,by simp [flat],by simp⟩⟩⟩,fun b' _ k hk=>by simp [blk] at hk⟩):p:=h
theorem LeR.rel {S:Blocks} {w:World} {B:Nat} {u:Value} {r r':AR} (h:LeR r r') (hr:RelR S w B u r):RelR S w B u r'∧∀ b',r'=.new b'→∀ k,blk u=some k→∃ b,r=.new b:=by
 cases h with
 | same r=>exact ⟨hr,fun b' e k _=>⟨b',e⟩⟩
 | nil e E enc d =>
  exact zt73
 | nill e E =>
  exact zt73
 | lst e E enc d l xs h =>
  subst h
  exact ⟨⟨rfl,hr.2.1,fun n=>hr.2.2 n⟩,fun b' _ k _=>⟨_,rfl⟩⟩
 | nilsl E enc d =>
  have:u=.slice none 0 0:=by cases hr;rfl
  subst this
  exact ⟨.sl _ _ _ _ _ (.lslnil E),fun b' e=>by cases e⟩
 | lsl E enc d l xs h =>
  subst h
  exact ⟨.sl _ _ _ _ _ hr,fun b' e=>by cases e⟩
theorem APure.le [Tabs] {P:Program} {f:FuncId} {args:List AV} {R R':List AR→Prop} (h:APure P f args R) (hle:∀ rs,R rs→∃ rs',R' rs'∧rs'.length=rs.length∧∀ (j:Nat) (r r':AR),rs[j]?=some r→rs'[j]?=some r'→LeR r r'):APure P f args R':=by
 refine ⟨h.1,fun S w vs hS hT hv=>(h.2 S w vs hS hT hv).mono fun _ _ ⟨us,rs,S',he,hR,hl⟩=>?_⟩
 obtain ⟨rs',hR',hlen,hr⟩:=hle rs hR
 have get:∀ (j:Nat) (u:Value) (r':AR),us[j]?=some u→rs'[j]?=some r'→∃ r,rs[j]?=some r∧LeR r r':=by
  intro j u r' hu hr'
  obtain ⟨r,hrj⟩:∃ r,rs[j]?=some r:=⟨_,List.getElem?_eq_getElem (by have:=(List.getElem?_eq_some_iff.1 hr').1;omega)⟩
  exact ⟨r,hrj,hr j r r' hrj hr'⟩
 refine ⟨us,rs',S',he,hR',⟨by rw [hlen];exact hl.len,fun j u r' hu hr'=>?_,hl.below,hl.ros,hl.fresh,hl.lt,fun i u b' k hu hb hk=>?_⟩⟩
 ·obtain ⟨r,hrj,hle⟩:=get j u r' hu hr'
  exact (hle.rel (hl.rel j u r hu hrj)).1
 ·obtain ⟨r,hrj,hle⟩:=get i u _ hu hb
  obtain ⟨b,rfl⟩:=(hle.rel (hl.rel i u r hu hrj)).2 b' rfl k hk
  obtain ⟨h1,h2⟩:=hl.apart i u b k hu hrj hk
  refine ⟨h1,fun j u' b'' hu' hb' hk'=>?_⟩
  obtain ⟨r2,hrj2,hle2⟩:=get j u' _ hu' hb'
  obtain ⟨b2,rfl⟩:=(hle2.rel (hl.rel j u' r2 hu' hrj2)).2 b'' rfl k hk'
  exact h2 j u' b2 hu' hrj2 hk'
theorem APure.le1 [Tabs] {P:Program} {f:FuncId} {args:List AV} {r r':AR} (h:APure P f args (fun rs=>rs=[r])) (hle:LeR r r'):APure P f args (fun rs=>rs=[r']) :=
 h.le fun rs e=>⟨[r'],rfl,by subst e;rfl,fun j a b h1 h2=>by
  subst e
  cases j with
  | zero=>simp at h1 h2;subst h1;subst h2;exact hle
  | succ j=>simp at h1⟩
theorem flats_nil:∀ r∈([]:List AR),r.flat:=fun r h=>by simp at h
theorem flats_cons {r:AR} {rs:List AR} (h:r.flat) (t:∀ x∈rs,x.flat):∀ x∈r::rs,x.flat:=fun x hx=>by
 rcases List.mem_cons.1 hx with rfl | hx
 ·exact h
 ·exact t x hx
theorem flat_val (a:AV) (h:a.scal=true):(AR.val a).flat:=h
theorem flat_row {T:Type} {e E:Nat} {enc:T→AV} {d:T} {xs:List T} (h:∀ x,(enc x).scal=true):(AR.new (.row e E enc d xs)).flat:=fun x _=>h x
theorem flat_lst {T:Type} {e E:Nat} {enc:T→AV} {xs:List T} (h:∀ x,(enc x).scal=true):(AR.new (.lst e E (xs.map enc))).flat:=fun y hy=>by
 obtain ⟨x,_,rfl⟩:=List.mem_map.1 hy
 exact h x
theorem lS {H:Heap} {a:AV} (h:a.tree=true):Lend H a a []:=.base (.base (.base (.same _ h)))
theorem lR {T:Type} {H:Heap} {id e E:Nat} {enc:T→AV} {d:T} {xs:List T} (h:lkH H id=.row e E enc d xs):Lend H (.own id) (.sl E enc d xs) [id]:=.base (.base (.base (.row _ _ _ _ _ _ h)))
theorem lL {H:Heap} {id e E:Nat} {l:List AV} (h:lkH H id=.lst e E l):Lend H (.own id) (.lsl E l) [id]:=.base (.base (.base (.lst _ _ _ _ h)))
theorem lM {T:Type} {H:Heap} {id e E:Nat} {l:List AV} {enc:T→AV} {d:T} {xs:List T} (h:lkH H id=.lst e E l) (hl:l=xs.map enc):Lend H (.own id) (.sl E enc d xs) [id]:=.base (.base (.base (.lstrow _ _ _ _ _ _ _ h hl)))
theorem lX {T:Type} {H:Heap} {E:Nat} {l:List AV} {enc:T→AV} {d:T} {xs:List T} (h:l=xs.map enc):Lend H (.lsl E l) (.sl E enc d xs) []:=.base (.base (.base (.lsl _ _ _ _ _ h)))
theorem lN {T:Type} {H:Heap} {E:Nat} {enc:T→AV} {d:T}:Lend H .nils (.sl E enc d []) []:=.base (.base (.base (.nils _ _ _)))
theorem lNl {H:Heap} {E:Nat}:Lend H .nils (.lsl E []) []:=.base (.base (.base (.nill _)))
theorem lSm {V:Type} {H:Heap} {id:Nat} {ev:V→AV} {dv:V} {es:List (List UInt8×V)} (h:lkH H id=.smap ev dv es):Lend H (.map id) (.rsmap ev dv es) [id]:=.base (.base (.base (.smap _ _ _ _ h)))
theorem lIm {V:Type} {H:Heap} {id:Nat} {k:IntKind} {ev:V→AV} {dv:V} {es:List (Int×V)} (h:lkH H id=.imap k ev dv es):Lend H (.map id) (.rimap k ev dv es) [id]:=.base (.base (.base (.imap _ _ _ _ _ h)))
theorem lGm {V:Type} {H:Heap} {id:Nat} {k:List KK} {ev:V→AV} {dv:V} {es:List (List KV×V)} (h:lkH H id=.gmap k ev dv es):Lend H (.map id) (.rgmap k ev dv es) [id]:=.base (.base (.base (.gmap _ _ _ _ _ h)))
theorem borL_same {H:Heap}:∀ {l:List AV},treesB l=true→BorL (Bor1 H (Bor H)) l l []
 | [],_=>.nil
 | a::l,h=>by
  have ha:=treesB_spec h a (List.mem_cons_self)
  have hl:treesB l=true:=by
   unfold treesB at h
   split at h
   ·exact h
   ·cases h
  exact .cons (t:=[]) (t':=[]) (.base (.same _ ha)) (borL_same hl)
theorem lB {H:Heap} {id e:Nat} {l:List AV} (h:lkH H id=.cells e l) (ht:treesB l=true) (h1:allOne l=true):Lend H (.ptr id 0) (.rop l) [id]:=.base (.box id 0 e l l [] h (borL_same ht) (allOne_spec h1))
theorem lP {T:Type} {H:Heap} {id n e E:Nat} {enc:T→AV} {d:T} {xs:List T} (h:lkH H id=.row e E enc d xs):Lend H (.pre id n) (.sl E enc d (xs.take n)) [id]:=.base (.base (.base (.pre _ _ _ _ _ _ _ h)))
theorem lQ {T:Type} {H:Heap} {id off n e E:Nat} {enc:T→AV} {d:T} {xs:List T} (h:lkH H id=.row e E enc d xs):Lend H (.part id E off n) (.sl E enc d ((xs.drop off).take n)) [id]:=.base (.base (.base (.part _ _ _ _ _ _ _ _ h)))
open Go.Proofs Go.Shelf Go.RowKit Go.Sort
open Go.ChangeShapes Go.WideShapes Go.RowKit
abbrev All (W:World):Blocks:=fun g=>g<W.heap.size
theorem row_of_apure [Tabs] {H:Type} {enc:TypeId×Value→H} {P:Program} {fn:Func} {f:FuncId} {s:ChangeSpec} {W:World} {args:Array Value} {ds:List (DataW H)} {before:List MemPlace} {tb:TypeId}
  (hl:laidOutB P=true) (hsv:s.vars=[]) (hW:DataW.Whole enc P fn.params.toList s.vars false W args.toList ds [] before) (hr:∀ t∈fn.params.toList,P.readableRec t=true∧t<P.types.size)
  (hres:fn.resultTypes=#[tb]) (htb:P.underlying tb=some .bool) (hspec:s.fn H (ds++[])={ results:=[.lit (.bool true)],args:=ds }) {avs:List AV} (hTb:TabAt (All W) W) (hA:APureV P f avs (.bool true)) (hT:RelTs (All W) W args.toList avs) :
  Calls P f args W fun e W'=>∃ v,e=.returned v∧s.post enc P fn false true false false W args v W':=by
 have hW':=hW
 obtain ⟨p,q,hAll,hV,hpq,_,_⟩:=hW
 rw [hsv] at hV
 have hq:q=[]:=by simpa [DataW.TrodVars] using hV
 subst hq
 have hlt:∀ x∈p,x.block<W.heap.size:=fun x hx=>by simpa using hW'.lt x (by rw [hpq];simp [hx])
 have carry:∀ (W':World),Below W.heap.size W W'→∀ (ts:List TypeId) (vs:List Value) (ds:List (DataW H)) (p:List MemPlace),(∀ t∈ts,P.readableRec t=true∧t<P.types.size)→(∀ x∈p,x.block<W.heap.size) →
   DataW.TrodAll enc P W 0 (fun _=>true) true ts vs ds p→DataW.TrodAll enc P W' 0 (fun b=>decide (b<W.heap.size)) true ts vs ds p:=by
  intro W' hb ts
  induction ts with
  | nil=>intro vs ds p _ _ h;cases vs<;>cases ds<;>first | exact h | exact h.elim
  | cons t ts ih =>
   intro vs ds p ht hlt h
   cases vs with
   | nil=>exact h.elim
   | cons v vs=>cases ds with
    | nil=>exact h.elim
    | cons d ds =>
     obtain ⟨p1,p2,h1,h2,rfl⟩:=h
     exact ⟨p1,p2,Below.trod hl (ht t (by simp)).1 (ht t (by simp)).2 h1 hb (fun x hx=>hlt x (by simp [hx])),ih vs ds p2 (fun t h=>ht t (by simp [h])) (fun x hx=>hlt x (by simp [hx])) h2,rfl⟩
 have hcall:=hA.2 (All W) W args.toList (fun _ h=>h) hTb hT
 have he:args.toList.toArray=args:=by simp
 rw [he] at hcall
 refine hcall.mono fun e W' ⟨us,rs,S',he,hrs,hL⟩=>?_
 subst hrs
 have hlen:=hL.len
 match us,hlen with
 | [u],_ =>
  have hu:RelT S' W' u (.bool true):=hL.rel 0 u _ rfl rfl
  have hub:u=.bool true:=by cases hu;rfl
  subst hub
  refine ⟨.bool true,he,ds,[],before,[]++[],p,[],hW',?_,?_,?_,hL.below.frame _,fun h=>by cases h⟩
  ·rw [hspec,hres]
   exact trodAll_mk1 (shut_bool htb _)
  ·rw [hspec]
   exact carry W' hL.below _ _ _ _ hr hlt hAll
  ·rw [hspec,hsv]
   rfl
def OpensR (P:Program) (t:TypeId) (n:Nat) (R:List AV→Prop):Prop :=
 P.cellsOf t=n∧∀ {H:Type} (ec:TypeId×Value→H) (W:World) (fuel:Nat) (cs:List Value) (x:DataW H×List MemPlace),DataW.trod ec P W 0 (fun _=>true) true fuel t cs=some x →
  ∃ l,R l∧cs.length=l.length∧l.length=n∧(∀ b∈l,b.one=true)∧∀ (j:Nat) (c:Value) (b:AV),cs[j]?=some c→l[j]?=some b→RelT (All W) W c b
theorem opensR_int {P:Program} {t:TypeId} {k:IntKind} (ht:P.underlying t=some (.int k)) (hc:P.cellsOf t=1):OpensR P t 1 (fun l=>∃ n,(k.min≤n∧n≤k.max)∧l=[.int k n]):=by
 refine ⟨hc,fun ec W fuel cs x h=>?_⟩
 obtain ⟨n,rfl,_,hw⟩:=DataW.trod_int ht h
 simp only [Lit.wf,Bool.and_eq_true,decide_eq_true_eq] at hw
 refine ⟨_,⟨n,hw,rfl⟩,rfl,rfl,by simp [AV.one],fun j c b hj hb=>?_⟩
 cases j with
 | zero=>simp at hj hb;subst hj;subst hb;exact .int _ _
 | succ j=>simp at hj
theorem opensR_bool {P:Program} {t:TypeId} (ht:P.underlying t=some .bool) (hc:P.cellsOf t=1):OpensR P t 1 (fun l=>∃ b,l=[.bool b]):=by
 refine ⟨hc,fun ec W fuel cs x h=>?_⟩
 obtain ⟨n,rfl,_⟩:=DataW.trod_bool ht h
 refine ⟨_,⟨n,rfl⟩,rfl,rfl,by simp [AV.one],fun j c b hj hb=>?_⟩
 cases j with
 | zero=>simp at hj hb;subst hj;subst hb;exact .bool _
 | succ j=>simp at hj
theorem opensR_str {P:Program} {t:TypeId} (ht:P.underlying t=some .string) (hc:P.cellsOf t=1):OpensR P t 1 (fun l=>∃ s:List UInt8,s.length≤9223372036854775807∧l=[.str s]):=by
 refine ⟨hc,fun ec W fuel cs x h=>?_⟩
 obtain ⟨s,rfl,_,hs⟩:=DataW.trod_string ht h
 have hs':s.data.toList.length≤9223372036854775807:=by
  show s.size≤_
  unfold maxLen at hs
  omega
 refine ⟨_,⟨s.data.toList,hs',rfl⟩,rfl,rfl,by simp [AV.one],fun j c b hj hb=>?_⟩
 cases j with
 | zero=>simp at hj hb;subst hj;subst hb;exact .str _ _ rfl
 | succ j=>simp at hj
def FieldsR (P:Program):Nat→List Field→List (Nat×(List AV→Prop))→Nat→Prop
 | off,[],[],n=>off=n
 | off,f::fs,(k,R)::Rs,n=>f.offset=off∧OpensR P f.type k R∧FieldsR P (off+k) fs Rs n
 | _,_,_,_=>False
def StrR:List (Nat×(List AV→Prop))→List AV→Prop
 | [],l=>l=[]
 | (_,R)::Rs,l=>∃ l1 l2,R l1∧StrR Rs l2∧l=l1++l2
theorem opensR_struct {P:Program} {t:TypeId} {fs:Array Field} {n:Nat} {Rs:List (Nat×(List AV→Prop))} (ht:P.underlying t=some (.struct fs)) (hc:P.cellsOf t=n) (hf:FieldsR P 0 fs.toList Rs n):OpensR P t n (StrR Rs):=by
 refine ⟨hc,fun {H} ec W fuel cs x h=>?_⟩
 obtain ⟨xs,m,_,_,hl,hlen,hfs⟩:=DataW.trod_struct ht h
 rw [hc] at hl
 have key:∀ (gs:List Field) (Rs:List (Nat×(List AV→Prop))) (off i:Nat),FieldsR P off gs Rs n→(∀ j,gs[j]?=fs[i+j]?)→off≤n →
   ∃ l,StrR Rs l∧off+l.length=n∧(∀ b∈l,b.one=true)∧∀ (j:Nat) (c:Value) (b:AV),cs[off+j]?=some c→l[j]?=some b→RelT (All W) W c b:=by
  intro gs
  induction gs with
  | nil =>
   intro Rs off i hF _ _
   cases Rs with
   | nil =>
    have:off=n:=hF
    exact ⟨[],rfl,by simpa using this,by simp,fun j c b _ h=>by simp at h⟩
   | cons p Rs=>exact hF.elim
  | cons f gs ih =>
   intro Rs off i hF hg hoff
   cases Rs with
   | nil=>exact hF.elim
   | cons p Rs =>
    obtain ⟨k,R⟩:=p
    obtain ⟨ho,⟨hck,hR⟩,hrest⟩:=hF
    have hfi:fs[i]?=some f:=by
     have:=hg 0
     simpa using this.symm
    have hi:=hfs i f hfi
    have hil:i<xs.length:=by
     rw [hlen]
     exact (Array.getElem?_eq_some_iff.1 hfi).1
    rw [List.getElem?_eq_getElem hil] at hi
    obtain ⟨l1,h1,h2,h3,h4,h5⟩:=hR ec W m _ _ hi
    have hk:k≤n-off:=by
     rw [ho,hck] at h2
     simp at h2
     omega
    obtain ⟨l2,g1,g2,g3,g4⟩:=ih Rs (off+k) (i+1) hrest (fun j=>by
     have:=hg (j+1)
     rw [List.getElem?_cons_succ] at this
     rw [this]
     congr 1
     omega) (by omega)
    refine ⟨l1++l2,⟨l1,l2,h1,g1,rfl⟩,by simp;omega,fun b hb=>?_,fun j c b hj hb=>?_⟩
    ·rcases List.mem_append.1 hb with hb | hb
     ·exact h4 b hb
     ·exact g3 b hb
    ·by_cases hjk:j<k
     ·rw [List.getElem?_append_left (by omega)] at hb
      refine h5 j c b ?_ hb
      rw [ho,hck]
      simp [hjk,hj]
     ·rw [List.getElem?_append_right (by omega)] at hb
      refine g4 (j-k) c b ?_ (by rw [h3] at hb;exact hb)
      rw [← hj]
      congr 1
      omega
 obtain ⟨l,h1,h2,h3,h4⟩:=key fs.toList Rs 0 0 hf (fun j=>by simp) (Nat.zero_le _)
 exact ⟨l,h1,by omega,by omega,h3,fun j c b hj hb=>h4 j c b (by rw [Nat.zero_add];exact hj) hb⟩
theorem OpensR.mono {P:Program} {t:TypeId} {n:Nat} {R R':List AV→Prop} (h:OpensR P t n R) (hR:∀ l,R l→R' l):OpensR P t n R' :=
 ⟨h.1,fun ec W fuel cs x hx=>let ⟨l,h1,h2⟩:=h.2 ec W fuel cs x hx;⟨l,hR l h1,h2⟩⟩
theorem cell_block {W:World} {a:Addr} {c:Value} (h:W.cell? a=some c):a.block<W.heap.size∧a.spot=none:=by
 unfold World.cell? at h
 split at h
 ·rename_i hb
  refine ⟨(Array.getElem?_eq_some_iff.1 hb).1,?_⟩
  cases hs:a.spot with
  | none=>rfl
  | some s=>rw [hs] at h;simp at h
 ·cases h
theorem addr_eta {a:Addr} (h:a.spot=none):a=⟨a.block,a.off,none⟩:=by
 cases a;simp at h;subst h;rfl
theorem opensR_slice {P:Program} {t e:TypeId} {E:Nat} {R:List AV→Prop} {X:Type} [Inhabited X] {enc:X→AV} {ok:X→Prop} (d0:X) (ht:P.underlying t=some (.slice e)) (hc:P.cellsOf t=1) (ho:OpensR P e E R) (hpos:0<E)
  (hX:∀ l,R l→∃ a,ok a∧(enc a).cells=l) (hE1:∀ a,(enc a).cells.length=E) :
  OpensR P t 1 (fun l=>∃ xs:List X,(∀ a∈xs,ok a)∧xs.length≤9223372036854775807∧l=[.sl E enc d0 xs]):=by
 refine ⟨hc,fun {H} ec W fuel cs x h=>?_⟩
 have fin:∀ {v:Value} {xs:List X},(∀ a∈xs,ok a)→xs.length≤9223372036854775807→RelT (All W) W v (.lsl E (xs.map enc))→cs=[v] →
   ∃ l,(∃ xs:List X,(∀ a∈xs,ok a)∧xs.length≤9223372036854775807∧l=[.sl E enc d0 xs])∧cs.length=l.length∧l.length=1∧(∀ b∈l,b.one=true)∧∀ (j:Nat) (c:Value) (b:AV),cs[j]?=some c→l[j]?=some b→RelT (All W) W c b:=by
  intro v xs h1 h2 h3 hcs
  refine ⟨_,⟨xs,h1,h2,rfl⟩,by rw [hcs];rfl,rfl,by simp [AV.one],fun j c b hj hb=>?_⟩
  rw [hcs] at hj
  cases j with
  | zero=>simp at hj hb;subst hj;subst hb;exact .sl _ _ _ _ _ h3
  | succ j=>simp at hj
 rcases Deep.open_slice ht h with ⟨hcs,_⟩ | ⟨a,len,cap,m,n,D,Pl,hcs,hb,hl,hm,hmm,_,hel⟩
 ·exact fin (xs:=[]) (by simp) (by simp) (.lslnil E) hcs
 ·simp only [if_true] at hmm
  subst hmm
  rw [ho.1] at hel
  by_cases hm0:m=0
  ·have hl0:len=0:=by omega
   subst hm0
   subst hl0
   exact fin (xs:=[]) (by simp) (by simp) (.lslz E a) hcs
  obtain ⟨c0,h0,_⟩:=hel 0 (by omega)
  obtain ⟨_,hlen0,hget0⟩:=World.cells?_some h0
  have hcell0:W.cell? a=some (c0[0]'(by omega)):=by
   have:=hget0 0 hpos
   rw [List.getElem?_eq_getElem (by omega)] at this
   simpa [Addr.add] using this
  obtain ⟨hlt,hspot⟩:=cell_block hcell0
  rw [addr_eta hspot] at hcs hel
  generalize a.block=g at *
  generalize a.off=o at *
  obtain ⟨A,hA⟩:=Deep.choose_lt (α:=X) (n:=len) (p:=fun i x=>ok x∧∃ cs',W.cells? 0 ((⟨g,o,none⟩:Addr).add (i*E)) E=some cs'∧cs'.length=(enc x).cells.length∧(∀ b∈(enc x).cells,b.one=true) ∧
    ∀ (j:Nat) (c:Value) (b:AV),cs'[j]?=some c→(enc x).cells[j]?=some b→RelT (All W) W c b) (fun i hi=>by
   obtain ⟨cs',h1,h2⟩:=hel i (by omega)
   obtain ⟨l,q1,q2,_,q3,q4⟩:=ho.2 ec W n cs' _ h2
   obtain ⟨x,hx,rfl⟩:=hX l q1
   exact ⟨x,hx,cs',h1,q2,q3,q4⟩)
  have cell:∀ i,i<len→∀ j,j<E→∃ c b,W.cell? ⟨g,o+(i*E+j),none⟩=some c∧(enc (A i)).cells[j]?=some b∧RelT (All W) W c b:=by
   intro i hi j hj
   obtain ⟨_,cs',h1,h2,_,h4⟩:=hA i hi
   obtain ⟨_,hlen,hget⟩:=World.cells?_some h1
   have hc:=hget j hj
   have hcj:cs'[j]?=some (cs'[j]'(by omega)):=List.getElem?_eq_getElem (by omega)
   have hbj:(enc (A i)).cells[j]?=some ((enc (A i)).cells[j]'(by rw [hE1];exact hj)):=List.getElem?_eq_getElem _
   refine ⟨_,_,?_,hbj,h4 j _ _ hcj hbj⟩
   rw [hcj,Deep.add_add] at hc
   have e:(⟨g,o+(i*E+j),none⟩:Addr)=(⟨g,o,none⟩:Addr).add (i*E+j):=by
    unfold Addr.add
    split
    ·rename_i h0;rw [h0];rfl
    ·rfl
   rw [e]
   exact hc
  have hsz:∀ x∈((List.range len).map A).map enc,x.cells.length=E:=by
   intro x hx
   obtain ⟨y,_,rfl⟩:=List.mem_map.1 hx
   exact hE1 y
  have split:∀ q,q<len*E→q / E<len∧q % E<E∧q=q / E*E+q % E:=by
   intro q hq
   refine ⟨Nat.div_lt_of_lt_mul (by rw [Nat.mul_comm];exact hq),Nat.mod_lt _ hpos,?_⟩
   have:=Nat.div_add_mod q E
   rw [Nat.mul_comm] at this
   omega
  have hflat:∀ i,i<len→∀ j,j<E→(flat (((List.range len).map A).map enc))[i*E+j]?=(enc (A i)).cells[j]?:=by
   intro i hi j hj
   exact flat_get _ hsz i j _ (by simp [hi]) hj
  refine fin (v:=.slice (some ⟨g,o,none⟩) len m) (xs:=(List.range len).map A) (fun x hx=>?_) (by simp;unfold maxLen at hm;omega) ?_ hcs
  ·obtain ⟨i,hi,rfl⟩:=List.mem_map.1 hx
   exact (hA i (List.mem_range.1 hi)).1
  ·have hL:(((List.range len).map A).map enc).length=len:=by simp
   have:=RelT.lsl (S:=All W) (w:=W) E (((List.range len).map A).map enc) g o m ((List.range (len*E)).map fun q=>(W.cell? ⟨g,o+q,none⟩).getD undef) hlt (by rw [hL];exact hl) hsz (fun b hb=>?_) (by simp) (fun j c hj=>?_) (fun j c b hj hb=>?_)
   ·rw [hL] at this
    exact this
   ·obtain ⟨x,hx,hbx⟩:=List.mem_flatMap.1 hb
    obtain ⟨y,hy,rfl⟩:=List.mem_map.1 hx
    obtain ⟨i,hi,rfl⟩:=List.mem_map.1 hy
    obtain ⟨_,_,_,_,h3,_⟩:=hA i (List.mem_range.1 hi)
    exact h3 b hbx
   ·have hq:j<len*E:=by
     have:=(List.getElem?_eq_some_iff.1 hj).1
     simpa using this
    obtain ⟨s1,s2,s3⟩:=split j hq
    obtain ⟨c',b',h1,_,_⟩:=cell _ s1 _ s2
    rw [← s3] at h1
    simp [hq,h1] at hj
    rw [h1,hj]
   ·have hq:j<len*E:=by
     have:=(List.getElem?_eq_some_iff.1 hj).1
     simpa using this
    obtain ⟨s1,s2,s3⟩:=split j hq
    obtain ⟨c',b',h1,h2,h3⟩:=cell _ s1 _ s2
    have hf:=hflat _ s1 _ s2
    rw [← s3] at h1 hf
    rw [hf,h2] at hb
    cases hb
    simp [hq,h1] at hj
    subst hj
    exact h3
def OpV (P:Program) (t:TypeId) (Q:AV→Prop):Prop :=
 ∀ {H:Type} {ec:TypeId×Value→H} {W:World} {base:Nat} {v:Value} {d:DataW H} {ps:List MemPlace},Value.okWide P W .any base t v→DataW.Trod ec P W 0 (fun _=>true) true t v d ps→∃ a,Q a∧RelT (All W) W v a
theorem OpV.mono {P:Program} {t:TypeId} {Q Q':AV→Prop} (h:OpV P t Q) (hQ:∀ a,Q a→Q' a):OpV P t Q':=fun h1 h2=>let ⟨a,q,r⟩:=h h1 h2;⟨a,hQ a q,r⟩
theorem opV_struct {P:Program} {t:TypeId} {fs:Array Field} {n:Nat} {R:List AV→Prop} (ht:P.underlying t=some (.struct fs)) (h:OpensR P t n R):OpV P t (fun a=>∃ l,R l∧a=.agg l):=by
 intro H ec W base v d ps hv hd
 obtain ⟨cs,rfl,_⟩:=okWide_struct ht hv
 obtain ⟨fuel,hf⟩:=hd
 obtain ⟨l,hx,h1,_,_,hr⟩:=h.2 ec W fuel _ _ hf
 exact ⟨_,⟨l,hx,rfl⟩,.agg cs l (by simpa [Value.cells] using h1) fun j c b hj hb=>hr j c b (by simpa [Value.cells] using hj) hb⟩
def OpVs (P:Program):List TypeId→List (AV→Prop)→Prop
 | [],[]=>True
 | t::ts,Q::Qs=>OpV P t Q∧OpVs P ts Qs
 | _,_=>False
def Alls:List (AV→Prop)→List AV→Prop
 | [],[]=>True
 | Q::Qs,a::l=>Q a∧Alls Qs l
 | _,_=>False
theorem opens_list {P:Program} {H:Type} {ec:TypeId×Value→H} {W:World} {base:Nat}:∀ (ts:List TypeId) (Qs:List (AV→Prop)) (vs:List Value) (ds:List (DataW H)) (ps:List MemPlace),OpVs P ts Qs →
  (∀ (j:Nat) t v,ts[j]?=some t→vs[j]?=some v→Value.okWide P W .any base t v)→DataW.TrodAll ec P W 0 (fun _=>true) true ts vs ds ps→∃ avs,Alls Qs avs∧RelTs (All W) W vs avs
 | [],[],vs,ds,ps,_,_,h=>by
  obtain ⟨rfl,_,_⟩:=trodAll_nil h
  exact ⟨[],trivial,rfl,fun j v a h=>by simp at h⟩
 | [],_::_,_,_,_,h,_,_=>h.elim
 | _::_,[],_,_,_,h,_,_=>h.elim
 | t::ts,Q::Qs,vs,ds,ps,hO,hv,h=>by
  obtain ⟨v,vs',d,ds',p,q,rfl,rfl,rfl,h1,h2⟩:=trodAll_cons h
  obtain ⟨a,ha,hr⟩:=hO.1 (hv 0 t v rfl rfl) h1
  obtain ⟨avs,hA,hR⟩:=opens_list ts Qs vs' ds' q hO.2 (fun j t v h1 h2=>hv (j+1) t v zp28 zp33) h2
  refine ⟨a::avs,⟨ha,hA⟩,by simp [hR.1],fun j v' a' h1 h2=>?_⟩
  cases j with
  | zero=>simp at h1 h2;subst h1;subst h2;exact hr
  | succ j=>exact hR.2 j v' a' zp28 zp33
theorem alls_cons {Q:AV→Prop} {Qs:List (AV→Prop)} {l:List AV} (h:Alls (Q::Qs) l):∃ a l',l=a::l'∧Q a∧Alls Qs l':=by
 cases l with
 | nil=>exact h.elim
 | cons a l=>exact ⟨a,l,rfl,h.1,h.2⟩
theorem alls_nil {l:List AV} (h:Alls [] l):l=[]:=by
 cases l with
 | nil=>rfl
 | cons a l=>exact h.elim
open Go.RowKit Go.Maps Go.Sort Go.Shelf Go.Proofs
theorem LeT.lsl {E:Nat} {l r:List AV} (hlen:r.length=l.length) (hE:∀ x∈r,x.cells.length=E) (h1:∀ a∈flat r,a.one=true) (h:LeTs (flat l) (flat r)):LeT (.lsl E l) (.lsl E r):=fun S w v hr=>by
 have e0:l=[]→r=[]:=fun e=>List.eq_nil_of_length_eq_zero (by rw [hlen,e];rfl)
 cases hr with
 | lslnil=>rw [e0 rfl];exact .lslnil E
 | lslz _ a=>rw [e0 rfl];exact .lslz E a
 | lsl _ _ g o cap cs hs hcap hE' h1' hl hc hrel =>
  rw [← hlen]
  exact .lsl E r g o cap cs hs (by rw [hlen];exact hcap) hE h1 (by rw [hlen];exact hl) hc (fun j c b hj hb=>by
   obtain ⟨a,ha,hab⟩:=h.get hb
   exact hab S w c (hrel j c a hj ha))
theorem APure.leT [Tabs] {P:Program} {f:FuncId} {args:List AV} {a b:AV} (h:APure P f args (fun rs=>rs=[.val a])) (hl:LeT a b):APure P f args (fun rs=>rs=[.val b]):=by
 refine ⟨h.1,fun S w vs hS hT hv=>(h.2 S w vs hS hT hv).mono fun _ _ ⟨us,rs,S',he,hR,hL⟩=>⟨us,[.val b],S',he,rfl,?_⟩⟩
 subst hR
 refine ⟨hL.len,fun j u r hu hr=>?_,hL.below,hL.ros,hL.fresh,hL.lt,fun i u b' k hu hb hk=>?_⟩
 ·cases j with
  | zero =>
   simp at hr
   subst hr
   exact hl _ _ _ (hL.rel 0 u _ hu rfl)
  | succ j=>simp at hr
 ·cases i with
  | zero=>simp at hb
  | succ i=>simp at hb
def numH:List AB→Nat→Heap
 | [],_=>[]
 | b::bs,i=>(i,b)::numH bs (i+1)
theorem lkH_numH:∀ (bs:List AB) (i j:Nat),lkH (numH bs i) j=if i≤j then bs.getD (j-i) .dead else .dead
 | [],i,j=>by simp [numH,lkH]
 | b::bs,i,j=>by
  rw [numH,lkH_cons,lkH_numH bs (i+1) j]
  by_cases h1:i=j
  ·subst h1;simp
  ·rw [if_neg h1]
   by_cases h2:i≤j
   ·rw [if_pos h2,if_pos (by omega)]
    obtain ⟨q,hq⟩:∃ q,j-i=q+1:=⟨j-i-1,by omega⟩
    rw [hq,show j-(i+1)=q by omega]
    simp
   ·rw [if_neg h2,if_neg (by omega)]
theorem lkH_num0 (bs:List AB) (j:Nat):lkH (numH bs 0) j=bs.getD j .dead:=by
 rw [lkH_numH,if_pos (Nat.zero_le _),Nat.sub_zero]
def livesB:List AB→Bool
 | []=>true
 | b::bs=>match b.live&&b.trees with
  | true=>livesB bs
  | false=>false
theorem livesB_spec:∀ {bs:List AB},livesB bs=true→∀ b∈bs,b.live=true∧b.trees=true
 | [],_,b,h=>by simp at h
 | a::bs,h,b,hb=>by
  unfold livesB at h
  split at h
  ·rename_i ha
   rw [Bool.and_eq_true] at ha
   rcases List.mem_cons.1 hb with rfl | hb
   ·exact ha
   ·exact livesB_spec h b hb
  ·cases h
structure LeftIO [Tabs] (m:Ids) (S:Blocks) (w:World) (bs:List AB) (us:List Value) (rs:List AR) (bs':List AB) (S':Blocks) (w':World):Prop where
 len:us.length=rs.length
 blen:bs'.length=bs.length
 lives:livesB bs'=true
 rel:∀ (j:Nat) (u:Value) (r:AR),us[j]?=some u→rs[j]?=some r→RelR S' w' w.heap.size u r
 far:Far (own m (numH bs 0)) w w'
 ros:∀ g,S g→S' g
 fresh:∀ g,S' g→S g∨w.heap.size≤g
 good:Good m S' w' (numH bs' 0)
 apart:∀ (i:Nat) (u:Value) (b:AB) (k:Nat),us[i]?=some u→rs[i]?=some (.new b)→blk u=some k→¬ S' k∧∀ (j:Nat) (u':Value) (b':AB),us[j]?=some u'→rs[j]?=some (.new b')→blk u'=some k→i=j
def AIO [Tabs] (P:Program) (f:FuncId) (args:List AV) (bs:List AB) (R:List AB→List AR→Prop):Prop :=
 FnOk P f∧∀ (m:Ids) (S:Blocks) (w:World) (vs:List Value),Good m S w (numH bs 0)→(∀ i,bs.length≤i→m i=none)→vs.length=args.length →
  (∀ (j:Nat) (v:Value) (a:AV),vs[j]?=some v→args[j]?=some a→RelV m S w v a) →
  Calls P f vs.toArray w fun e w'=>∃ us rs bs' S',e=.returned (retVal us)∧R bs' rs∧LeftIO m S w bs us rs bs' S' w'
theorem AIO.mono [Tabs] {P:Program} {f:FuncId} {args:List AV} {bs:List AB} {R R':List AB→List AR→Prop} (h:AIO P f args bs R) (hr:∀ b rs,R b rs→R' b rs):AIO P f args bs R' :=
 ⟨h.1,fun m S w vs h1 h2 h3 h4=>(h.2 m S w vs h1 h2 h3 h4).mono fun _ _ ⟨us,rs,b,S',he,hR,hl⟩=>⟨us,rs,b,S',he,hr _ _ hR,hl⟩⟩
def ioK (H:Heap):Nat→Nat→List AB→(List AB→Prop)→Prop
 | 0,_,acc,k=>k acc.reverse
 | n+1,i,acc,k=>match (lkH H i).live&&(lkH H i).trees with
  | true=>ioK H n (i+1) (lkH H i::acc) k
  | false=>False
def usedN:Nat→List Nat
 | 0=>[]
 | n+1=>n::usedN n
theorem usedN_mem:∀ {n i:Nat},i∈usedN n↔i<n
 | 0,i=>by simp [usedN]
 | n+1,i=>by rw [usedN,List.mem_cons,usedN_mem];omega
theorem ioK_sound (H:Heap):∀ (n i:Nat) (acc:List AB) (k:List AB→Prop),ioK H n i acc k→∃ bs,k (acc.reverse++bs)∧bs.length=n∧livesB bs=true∧∀ j,j<n→bs.getD j .dead=lkH H (i+j)
 | 0,i,acc,k,h=>⟨[],by simpa [ioK] using h,rfl,rfl,fun j hj=>by omega⟩
 | n+1,i,acc,k,h=>by
  unfold ioK at h
  split at h
  ·rename_i hb
   obtain ⟨bs,h1,h2,h3,h4⟩:=ioK_sound H n (i+1) _ k h
   refine ⟨lkH H i::bs,by simpa using h1,by simp [h2],by unfold livesB;rw [hb];exact h3,fun j hj=>?_⟩
   cases j with
   | zero=>simp
   | succ j =>
    rw [List.getD_cons_succ,h4 j (by omega)]
    congr 1
    omega
  ·exact h.elim
def retIO (T:Tab) (rs:Array ResultVar) (n:Nat) (R:List AB→List AR→Prop):Exit→St→Prop
 | .normal,st=>ioK st.heap n 0 [] fun bs=>resK T rs.toList st [] (usedN n) fun rs=>R bs rs
 | .ret,st=>ioK st.heap n 0 [] fun bs=>resK T rs.toList st [] (usedN n) fun rs=>R bs rs
 | _,_=>False
theorem live_some {m:Ids} {S:Blocks} {w:World} {id:Nat} {b:AB} (h:RelB m S w id b) (hl:b.live=true):∃ v,m id=some v:=by
 cases b with
 | dead=>simp [AB.live] at hl
 | cells e l=>obtain ⟨g,cs,hm,_⟩:=h;exact ⟨_,hm⟩
 | lst e E l=>obtain ⟨v,vs,hm,_⟩:=h;exact ⟨_,hm⟩
 | row e E enc d xs=>obtain ⟨v,vs,hm,_⟩:=h;exact ⟨_,hm⟩
 | smap ev dv es=>obtain ⟨r,en,c,hm,_⟩:=h;exact ⟨_,hm⟩
 | imap k ev dv es=>obtain ⟨r,en,c,hm,_⟩:=h;exact ⟨_,hm⟩
 | gmap k ev dv es=>obtain ⟨r,en,c,hm,_⟩:=h;exact ⟨_,hm⟩
 | arr e k n f=>obtain ⟨g,cs,hm,_⟩:=h;exact ⟨_,hm⟩
 | que e E enc d xs=>obtain ⟨g,o,cap,cur,hm,_⟩:=h;exact ⟨_,hm⟩
theorem getD_ge {bs:List AB} {i:Nat} (h:bs.length≤i):bs.getD i .dead=.dead:=by
 rw [List.getD_eq_getElem?_getD,List.getElem?_eq_none h]
 rfl
theorem getD_lt_mem {bs:List AB} {i:Nat} (h:i<bs.length):bs.getD i .dead∈bs:=by
 rw [List.getD_eq_getElem?_getD,List.getElem?_eq_getElem h]
 exact List.getElem_mem h
theorem zt135 {p:Prop}(h:p:=by
 cases e with
 | normal=>exact fin hq
 | ret=>exact fin hq
 | panic ch=>exact (hq.resolve_left (hpx ch)).elim
 | _=>exact hq.elim):p:=h
theorem aio_of [Tabs] {C : Cx} (hT : CxOk C) {f : FuncId} {fn : Func} {code : Code} {args : List AV} {bs : List AB} {R : List AB → List AR → Prop} (hf : C.P.funcs[f]? = some fn) (hb : fn.body = some code) (hname : (fn.name == "runtime.NumGoroutine") = false)
  (hN:C.N=fn.ntmps) (hle:args.length≤fn.ntmps) (hres:fn.results.size≤4) (hlive:livesB bs=true) (hpn:C.pn=bs.length) (h:evCode C code ⟨argEnv args 0,numH bs 0,bs.length⟩ (retIO C.T fn.results bs.length R)) (hpx:∀ ch,¬ C.px ch:=by exact fun _ h=>h):AIO C.P f args bs R:=by
 refine ⟨⟨fn,hf,by rw [hb];rfl,hname⟩,fun m S w vs hG hfree hlen hrel=>calls_of_wp hf hb ?_⟩
 let F:Fr:=⟨w,own m (numH bs 0),S,m,[]⟩
 have hfits:F.fits C.pn:=fun i v hi=>by
  rw [hpn]
  cases Nat.lt_or_ge i bs.length with
  | inl h=>exact h
  | inr h =>
   have:m i=some v:=hi
   rw [hfree i h] at this
   cases this
 have hrel0:Rel F C.N ⟨argEnv args 0,numH bs 0,bs.length⟩ { tmps:=vs.toArray++Array.replicate (fn.ntmps-vs.toArray.size) undef,defers:=[] } w:=by
  refine ⟨m,S,⟨hG,fun i hi=>hfree i hi,Far.refl _ _,fun k hk=>.inl hk,fun g hg=>.inl hg,fun g hg=>hg,fun i v hi=>hi⟩,by simp;omega,rfl,fun s=>?_⟩
  rw [lk_argEnv,if_pos (Nat.zero_le _),Nat.sub_zero]
  by_cases hs:s<args.length
  ·have h1:args[s]?=some (args.getD s .undef):=by simp [List.getD,List.getElem?_eq_getElem hs]
   have h2:vs[s]?=some ((vs.toArray++Array.replicate (fn.ntmps-vs.toArray.size) undef).getD s undef):=by
    exact zt101
   exact hrel s _ _ h2 h1
  ·have:args.getD s .undef=.undef:=by simp [List.getD,List.getElem?_eq_none (by omega:args.length≤s)]
   rw [this]
   exact .t _ _ (.undef _)
 refine wp_mono (evCode_sound hT (F:=F) hfits code _ _ h _ w hrel0) fun e a' w' ⟨st',⟨m',S',hc,hs,hd,hr⟩,hq⟩=>?_
 have fin:(ioK st'.heap bs.length 0 [] fun bs'=>resK C.T fn.results.toList st' [] (usedN bs.length) fun rs=>R bs' rs)→a'.defers=[]∧∃ v,(results fn a'.tmps).run C.P w'=.ok v w'∧∃ us rs bs' S',Ending.returned v=.returned (retVal us)∧R bs' rs∧LeftIO m S w bs us rs bs' S' w':=by
  intro hq
  obtain ⟨bs',hq,hbl,hbv,hbe⟩:=ioK_sound _ _ _ _ _ hq
  rw [List.reverse_nil,List.nil_append] at hq
  obtain ⟨rs,ids,h1,h2,h3,h4,h5,h6,h7⟩:=resK_sound hT.tab hc.good hr _ _ _ _ hq
  have hlenv:(slotVals C.P fn.results.toList a' w').length=rs.length:=by rw [h2];simp [slotVals]
  -- the handed objects,now
  have hbi:∀ i,i<bs.length→(bs'.getD i .dead).live=true∧(bs'.getD i .dead).trees=true∧lkH st'.heap i=bs'.getD i .dead:=fun i hi=>by
   have hm:=getD_lt_mem (bs:=bs') (i:=i) (by omega)
   have:=livesB_spec hbv _ hm
   refine ⟨this.1,this.2,?_⟩
   have:=hbe i hi
   rw [Nat.zero_add] at this
   exact this.symm
  have hmi:∀ i,i<bs.length→∃ v,m i=some v∧m' i=some v:=fun i hi=>by
   have hl:=(livesB_spec hlive _ (getD_lt_mem (bs:=bs) hi)).1
   have hrb:=hG.rel i
   rw [lkH_num0] at hrb
   obtain ⟨v,hv⟩:=live_some hrb hl
   exact ⟨v,hv,hc.pins i v hv⟩
  have hS':∀ g,S' g→S g∨w.heap.size≤g:=fun g hg=>by
   rcases hc.ro g hg with h | h | h
   ·exact .inl h
   ·exfalso
    obtain ⟨i,v,hl,hv,hk⟩:=h
    have hi:i<bs.length:=by
     cases Nat.lt_or_ge i bs.length with
     | inl h=>exact h
     | inr h=>rw [hfree i h] at hv;cases hv
    obtain ⟨v1,e1,e2⟩:=hmi i hi
    rw [e1] at hv
    cases hv
    obtain ⟨b1,_,b3⟩:=hbi i hi
    exact (hc.good.ro g hg).2 i v (by rw [b3];exact b1) e2 hk
   ·exact .inr h
  have hgood:Good m S' w' (numH bs' 0):=by
   have lv:∀ i,(lkH (numH bs' 0) i).live=true→i<bs.length:=fun i hl=>by
    cases Nat.lt_or_ge i bs.length with
    | inl h=>exact h
    | inr h=>rw [lkH_num0,getD_ge (by omega)] at hl;cases hl
   have up:∀ i v,(lkH (numH bs' 0) i).live=true→m i=some v→(lkH st'.heap i).live=true∧m' i=some v:=fun i v hl hv=>by
    have hi:=lv i hl
    obtain ⟨v1,e1,e2⟩:=hmi i hi
    rw [e1] at hv
    cases hv
    rw [(hbi i hi).2.2]
    exact ⟨(hbi i hi).1,e2⟩
   refine ⟨fun i=>?_,fun i j vi vj k hli hlj hvi hvj hki hkj=>?_,fun g hg=>⟨(hc.good.ro g hg).1,fun i v hl hv=>?_⟩,hc.good.tab⟩
   ·cases Nat.lt_or_ge i bs.length with
    | inl hi =>
     obtain ⟨v,e1,e2⟩:=hmi i hi
     obtain ⟨b1,b2,b3⟩:=hbi i hi
     have hrb:=hc.good.rel i
     rw [b3] at hrb
     rw [lkH_num0]
     exact relB_move hrb e2 e1 b2
    | inr hi=>rw [lkH_num0,getD_ge (by omega)];trivial
   ·obtain ⟨l1,e1⟩:=up i vi hli hvi
    obtain ⟨l2,e2⟩:=up j vj hlj hvj
    exact hc.good.sep i j vi vj k l1 l2 e1 e2 hki hkj
   ·obtain ⟨l1,e1⟩:=up i v hl hv
    exact (hc.good.ro g hg).2 i v l1 e1
  refine ⟨hd,_,run_results h7 hres,slotVals C.P fn.results.toList a' w',rs,bs',S',rfl,by simpa using h1,⟨hlenv,hbl,hbv,fun j u r hu hr'=>?_,hc.far,hc.ro0,hS',hgood,fun i u b k hu hb hk=>?_⟩⟩
  ·obtain ⟨o,ho⟩:∃ o,ids[j]?=some o:=⟨_,List.getElem?_eq_getElem (by
    have:=(List.getElem?_eq_some_iff.1 hr').1
    omega)⟩
   cases h4 j u r o hu hr' ho with
   | val a h=>exact h
   | obj id b hm hl hlive' hb =>
    refine ⟨hlive',fun k hk=>?_,relB_single (by rw [← hl];exact hc.good.rel id) hm hb⟩
    rcases hc.owns k ⟨id,u,by rw [hl];exact hlive',hm,hk⟩ with h | h
    ·exfalso
     obtain ⟨i,v,hl2,hv2,hk2⟩:=h
     have hi:i<bs.length:=by
      cases Nat.lt_or_ge i bs.length with
      | inl h=>exact h
      | inr h=>rw [hfree i h] at hv2;cases hv2
     obtain ⟨v1,e1,e2⟩:=hmi i hi
     rw [e1] at hv2
     cases hv2
     obtain ⟨b1,_,b3⟩:=hbi i hi
     have:=hc.good.sep i id v u k (by rw [b3];exact b1) (by rw [hl];exact hlive') e2 hm hk2 hk
     subst this
     exact h6 i (List.mem_of_getElem? ho) (usedN_mem.2 hi)
    ·exact h
  ·obtain ⟨o,ho⟩:∃ o,ids[i]?=some o:=⟨_,List.getElem?_eq_getElem (by
    have:=(List.getElem?_eq_some_iff.1 hb).1
    omega)⟩
   cases h4 i u (.new b) o hu hb ho with
   | obj id _ hm hl hlive' hbc =>
    refine ⟨fun hSk=>(hc.good.ro k hSk).2 id u (by rw [hl];exact hlive') hm hk,fun j u' b' hu' hb' hk'=>?_⟩
    obtain ⟨o',ho'⟩:∃ o,ids[j]?=some o:=⟨_,List.getElem?_eq_getElem (by
     have:=(List.getElem?_eq_some_iff.1 hb').1
     omega)⟩
    cases h4 j u' (.new b') o' hu' hb' ho' with
    | obj id' _ hm' hl' hlive2 hbc' =>
     have:=hc.good.sep id id' u u' k (by rw [hl];exact hlive') (by rw [hl'];exact hlive2) hm hm' hk hk'
     subst this
     exact h5 i j id ho ho'
 exact zt135
inductive BorIO (H:Heap) (ids:List Nat):AV→AV→List Nat→Prop
 | lend (a a':AV) (t:List Nat) (h:Lend H a a' t):BorIO H ids a a' t
 | map (i id:Nat) (h:ids[i]?=some id):BorIO H ids (.map id) (.map i) []
 | ptr (i id off:Nat) (h:ids[i]?=some id):BorIO H ids (.ptr id off) (.ptr i off) []
 | own (i id:Nat) (h:ids[i]?=some id):BorIO H ids (.own id) (.own i) []
 | fnp (f:Fn) (i id off:Nat) (h:ids[i]?=some id):BorIO H ids (.fn f [.ptr id off] []) (.fn f [.ptr i off] []) []
def zipH:List Nat→List AB→List (Nat×AB)
 | i::is,b::bs=>(i,b)::zipH is bs
 | _,_=>[]
def nodupB:List Nat→Bool
 | []=>true
 | i::is=>match notIn i is with
  | true=>nodupB is
  | false=>false
theorem nodupB_spec:∀ {l:List Nat},nodupB l=true→l.Nodup
 | [],_=>List.nodup_nil
 | i::is,h=>by
  unfold nodupB at h
  split at h
  ·rename_i hi
   exact List.nodup_cons.2 ⟨fun hm=>notIn_spec hi _ hm rfl,nodupB_spec h⟩
  ·cases h
theorem lkH_zip:∀ {ids:List Nat} {bs:List AB} {H:Heap} {j:Nat},ids.length=bs.length→j∉ids→lkH (zipH ids bs++H) j=lkH H j
 | [],[],H,j,_,_=>rfl
 | [],_::_,H,j,h,_=>by simp at h
 | _::_,[],H,j,h,_=>by simp at h
 | i::is,b::bs,H,j,h,hn=>by
  have hij:¬ i=j:=fun e=>hn (by rw [e];exact List.mem_cons_self)
  show lkH ((i,b)::(zipH is bs++H)) j=_
  rw [lkH_cons,if_neg hij]
  exact lkH_zip zp19 (fun hm=>hn (List.mem_cons_of_mem _ hm))
theorem lkH_zip_at:∀ {ids:List Nat} {bs:List AB} {H:Heap} {k id:Nat},ids.length=bs.length→ids.Nodup→ids[k]?=some id→lkH (zipH ids bs++H) id=bs.getD k .dead
 | [],_,H,k,id,_,_,h=>by simp at h
 | _::_,[],H,k,id,h,_,_=>by simp at h
 | i::is,b::bs,H,k,id,h,hn,hk=>by
  rw [List.nodup_cons] at hn
  show lkH ((i,b)::(zipH is bs++H)) id=_
  rw [lkH_cons]
  cases k with
  | zero =>
   simp at hk
   subst hk
   rw [if_pos rfl]
   simp
  | succ k =>
   have hk':is[k]?=some id:=by simpa using hk
   rw [if_neg (fun e=>hn.1 (by rw [e];exact List.mem_of_getElem? hk')),List.getD_cons_succ]
   exact lkH_zip_at zp19 hn.2 hk'
def sameObjs (H:Heap):List Nat→List AB→Prop
 | i::is,b::bs=>lkH H i=b∧sameObjs H is bs
 | [],[]=>True
 | _,_=>False
theorem sameObjs_len {H:Heap}:∀ {ids:List Nat} {bs:List AB},sameObjs H ids bs→ids.length=bs.length
 | [],[],_=>rfl
 | [],_::_,h=>h.elim
 | _::_,[],h=>h.elim
 | _::_,_::_,h=>by simp [sameObjs_len h.2]
theorem sameObjs_get {H:Heap}:∀ {ids:List Nat} {bs:List AB},sameObjs H ids bs→∀ (k id:Nat),ids[k]?=some id→lkH H id=bs.getD k .dead
 | [],[],_,k,id,h=>by simp at h
 | [],_::_,h,_,_,_=>h.elim
 | _::_,[],h,_,_,_=>h.elim
 | i::is,b::bs,h,k,id,hk=>by
  cases k with
  | zero =>
   simp at hk
   subst hk
   simpa using h.1
  | succ k =>
   rw [List.getD_cons_succ]
   exact sameObjs_get h.2 k id (by simpa using hk)
theorem zp50 {p:Prop} (h:p:=by rw [hmc i id h];exact hm):p:=h
theorem borIO_sound [Tabs] {H:Heap} {ids:List Nat} {l l':List AV} {touch:List Nat} (h:BorL (BorIO H ids) l l' touch):l'.length=l.length ∧
  ∀ (m mc:Ids) (S:Blocks) (w:World) (H₂:Heap) (S₂:Blocks),Good m S w H₂→(∀ id∈touch,lkH H₂ id=lkH H id)→(∀ (k id:Nat),ids[k]?=some id→mc k=m id)→(∀ g,S g→S₂ g)→(∀ g,lent m H₂ touch g→S₂ g) →
  ∀ (cs:List Value),cs.length=l.length→(∀ (j:Nat) (c:Value) (a:AV),cs[j]?=some c→l[j]?=some a→RelV m S w c a)→∀ (j:Nat) (c:Value) (a:AV),cs[j]?=some c→l'[j]?=some a→RelV mc S₂ w c a:=by
 induction h with
 | nil=>exact ⟨rfl,fun m mc S w H₂ S₂ _ _ _ _ _ cs hlen _ j c a hj ha=>by simp at ha⟩
 | cons h hl ih =>
  rename_i a a' l l' t t'
  refine ⟨by simp [ih.1],fun m mc S w H₂ S₂ hG ht hmc hS hle cs hlen hr j c x hj hx=>?_⟩
  cases cs with
  | nil=>simp at hj
  | cons c0 cs =>
   cases j with
   | zero =>
    simp at hj hx
    subst hj
    subst hx
    have h0:RelV m S w c0 a:=hr 0 _ _ rfl rfl
    cases h with
    | lend _ _ _ h=>exact .t _ _ (lend_ok H a _ t h m S w H₂ S₂ _ hG (fun id hid=>ht id (by simp [hid])) hS (fun g ⟨id,v,h1,h2⟩=>hle g ⟨id,v,by simp [h1],h2⟩) h0)
    | map i id h=>cases h0 with
     | t _ _ h=>cases h
     | map _ r hm=>exact .map i r zp50
    | ptr i id off h=>cases h0 with
     | t _ _ h=>cases h
     | ptr _ _ g hm=>exact .ptr i off g zp50
    | own i id h=>cases h0 with
     | t _ _ h=>cases h
     | own _ n cap ad hm=>exact .own i n cap ad zp50
    | fnp f i id off h =>
     obtain ⟨fs,cs',rfl,hfl,hcl,r1,_⟩:=relV_fn h0
     have hf0:fs[0]?=some (fs[0]'(by have h1:fs.size=1:=hfl;omega)):=Array.getElem?_eq_getElem (show 0<fs.size by have h1:fs.size=1:=hfl;omega)
     have hp:=r1 0 _ _ hf0 rfl
     refine .fn f fs cs' _ _ hfl hcl (fun q c a hq ha=>?_) (fun q c a hq ha=>by simp at ha)
     match q,ha with
     | 0,ha =>
      simp at ha
      subst ha
      rw [hf0] at hq
      cases hq
      generalize fs[0]'(by have h1:fs.size=1:=hfl;omega)=c at hp
      cases hp with
      | t _ _ h=>cases h
      | ptr _ _ g hm=>exact .ptr i off g zp50
   | succ j =>
    simp at hj hx
    exact ih.2 m mc S w H₂ S₂ hG (fun id hid=>ht id (by simp [hid])) hmc hS (fun g ⟨id,v,h1,h2⟩=>hle g ⟨id,v,by simp [h1],h2⟩) cs (by simpa using hlen)
     (fun j c a h1 h2=>hr (j+1) c a zp28 zp33) j c x hj hx
def disjB (t ids:List Nat):Bool:=t.all fun i=>notIn i ids
theorem callio_sem [Tabs] {P:Program} {f:FuncId} {avs args:List AV} {H:Heap} {nx:Nat} {bs:List AB} {R:List AB→List AR→Prop} (hc:AIO P f args bs R) (ids t:List Nat) (hnd:nodupB ids=true) (hlive:livesB bs=true) (hso:sameObjs H ids bs)
  (hb:BorL (BorIO H ids) avs args t) (hdis:disjB t ids=true) (hflat:t=[]∨∀ b rs,R b rs→(∀ r∈rs,r.flat)∧∀ x∈b,AR.flat (.new x)) :
  CallSem P f avs H nx (ids++t) (fun r=>∃ b rs,R b rs∧r=⟨valR (tv rs nx),ids++t,tw rs nx++zipH ids b,tn rs nx⟩):=by
 obtain ⟨hfn,hcall⟩:=hc
 refine ⟨hfn,fun m S w H₂ vs hG ht hfree hlen hrel=>?_⟩
 have hnd':=nodupB_spec hnd
 have hil:=sameObjs_len hso
 have hdis':∀ i∈t,i∉ids:=fun i hi hm=>by
  have:=List.all_eq_true.1 hdis i hi
  exact notIn_spec this _ hm rfl
 have hobj:∀ (k id:Nat),ids[k]?=some id→lkH H₂ id=bs.getD k .dead:=fun k id hk=>by
  rw [ht id (List.mem_append.2 (.inl (List.mem_of_getElem? hk)))]
  exact sameObjs_get hso k id hk
 have hlv:∀ (k id:Nat),ids[k]?=some id→(bs.getD k .dead).live=true∧(bs.getD k .dead).trees=true:=fun k id hk=>by
  have:k<ids.length:=(List.getElem?_eq_some_iff.1 hk).1
  exact livesB_spec hlive _ (getD_lt_mem (by omega))
 let mc:Ids:=fun k=>match ids[k]? with
  | some id=>m id
  | none=>none
 have hmc:∀ (k id:Nat),ids[k]?=some id→mc k=m id:=fun k id hk=>by
  show (match ids[k]? with | some id=>m id | none=>none)=_
  rw [hk]
 have hmn:∀ k,bs.length≤k→mc k=none:=fun k hk=>by
  show (match ids[k]? with | some id=>m id | none=>none)=_
  rw [List.getElem?_eq_none (by omega)]
 have hSlt:∀ g,(S g∨lent m H₂ t g)→g<w.heap.size:=by
  exact zt105
 have hid:∀ k,k<bs.length→∃ id,ids[k]?=some id:=fun k hk=>⟨_,List.getElem?_eq_getElem (show k<ids.length by omega)⟩
 have lvn:∀ {bb:List AB} (k:Nat),bb.length=bs.length→(lkH (numH bb 0) k).live=true→k<bs.length:=fun {bb} k hbl hl=>by
  cases Nat.lt_or_ge k bs.length with
  | inl h=>exact h
  | inr h=>rw [lkH_num0,getD_ge (by omega)] at hl;cases hl
 have hGc:Good mc (fun g=>S g∨lent m H₂ t g) w (numH bs 0):=by
  have up:∀ k v,(lkH (numH bs 0) k).live=true→mc k=some v→∃ id,ids[k]?=some id∧(lkH H₂ id).live=true∧m id=some v:=fun k v hl hv=>by
   obtain ⟨id,hk⟩:=hid k (lvn k rfl hl)
   exact ⟨id,hk,by rw [hobj k id hk];exact (hlv k id hk).1,by rw [← hmc k id hk];exact hv⟩
  refine ⟨fun k=>?_,fun i j vi vj q hli hlj hvi hvj hki hkj=>?_,fun g hg=>⟨hSlt g hg,fun k v hl hv hk=>?_⟩,hG.tab.mono (fun _ h=>.inl h) fun _ _=>rfl⟩
  ·rw [lkH_num0]
   cases Nat.lt_or_ge k bs.length with
   | inr h=>rw [getD_ge h];trivial
   | inl h =>
    obtain ⟨id,hk⟩:=hid k h
    have hrb:=hG.rel id
    rw [hobj k id hk] at hrb
    obtain ⟨v,hv⟩:=live_some hrb (hlv k id hk).1
    exact (relB_move hrb hv (by rw [hmc k id hk];exact hv) (hlv k id hk).2).mono (fun _ _ h=>h) (fun _ h=>.inl h) (fun _ _=>rfl) (fun _ _ _ _ _=>rfl)
  ·obtain ⟨id1,a1,b1,c1⟩:=up i vi hli hvi
   obtain ⟨id2,a2,b2,c2⟩:=up j vj hlj hvj
   have:=hG.sep id1 id2 vi vj q b1 b2 c1 c2 hki hkj
   subst this
   exact (List.getElem?_inj (List.getElem?_eq_some_iff.1 a1).1 hnd').1 (by rw [a1,a2])
  ·obtain ⟨id1,a1,b1,c1⟩:=up k v hl hv
   rcases hg with h | ⟨i,u,hi,hl2,hm2,hk2⟩
   ·exact (hG.ro g h).2 id1 v b1 c1 hk
   ·have:=hG.sep i id1 u v g hl2 b1 hm2 c1 hk2 hk
    subst this
    exact hdis' i hi (List.mem_of_getElem? a1)
 obtain ⟨hal,hbor⟩:=borIO_sound hb
 refine (hcall mc (fun g=>S g∨lent m H₂ t g) w vs hGc hmn (by omega) (hbor m mc S w H₂ _ hG (fun id h=>ht id (List.mem_append.2 (.inr h))) hmc (fun g h=>.inl h) (fun g h=>.inr h) vs hlen hrel)).mono ?_
 rintro e w' ⟨us,rs,bs',S'',rfl,hR,hL⟩
 have hbl:=hL.blen
 have hnl:∀ g,S g→¬ lent m H₂ t g:=fun g hg ⟨i,v,hi,hl,hm,hk⟩=>(hG.ro g hg).2 i v hl hm hk
 have hownc:∀ k,own mc (numH bs 0) k→∃ id,id∈ids∧(lkH H₂ id).live=true∧∃ v,m id=some v∧blk v=some k:=by
  rintro k ⟨i,v,hl,hv,hk⟩
  obtain ⟨id,hi⟩:=hid i (lvn i rfl hl)
  exact ⟨id,List.mem_of_getElem? hi,by rw [hobj i id hi];exact (hlv i id hi).1,v,by rw [← hmc i id hi];exact hv,hk⟩
 have hkeepS:∀ g,g<w.heap.size→(∀ id v,id∈ids→(lkH H₂ id).live=true→m id=some v→blk v≠some g)→w'.heap[g]?=w.heap[g]?:=fun g hg hno=>hL.far.block g hg fun ho=>by
  obtain ⟨id,h1,h2,v,h3,h4⟩:=hownc g ho
  exact hno id v h1 h2 h3 h4
 have hSf:∀ g,S'' g→S g∨lent m H₂ t g∨w.heap.size≤g:=fun g hg=>by
  rcases hL.fresh g hg with (h | h) | h
  ·exact .inl h
  ·exact .inr (.inl h)
  ·exact .inr (.inr h)
 have hlv':∀ (k id:Nat),ids[k]?=some id→(bs'.getD k .dead).live=true∧(bs'.getD k .dead).trees=true:=fun k id hk=>by
  have:k<ids.length:=(List.getElem?_eq_some_iff.1 hk).1
  exact livesB_spec hL.lives _ (getD_lt_mem (by omega))
 have hrelR:∀ (j:Nat) (u:Value) (r:AR),us[j]?=some u→rs[j]?=some r→RelR (fun g=>S'' g∧¬ lent m H₂ t g) w' w.heap.size u r:=by
  intro j u r hu hr
  rcases hflat with h0 | h0
  ·exact zt158
  ·exact relR_flat (hL.rel j u r hu hr) ((h0 _ rs hR).1 r (List.mem_of_getElem? hr))
 have hl3:∀ id,(lkH (zipH ids bs'++H₂) id).live=true→(lkH H₂ id).live=true:=fun id hl=>by
  by_cases hm:id∈ids
  ·obtain ⟨k,hk⟩:=List.getElem?_of_mem hm
   rw [hobj k id hk]
   exact (hlv k id hk).1
  ·rwa [lkH_zip (by omega) hm] at hl
 have hG3:Good m (fun g=>S'' g∧¬ lent m H₂ t g) w' (zipH ids bs'++H₂):=by
  refine ⟨fun id=>?_,fun i j vi vj q hli hlj=>hG.sep i j vi vj q (hl3 i hli) (hl3 j hlj),fun g hg=>⟨(hL.good.ro g hg.1).1,fun id v hl hv hk=>?_⟩,fun g cs hg=>⟨⟨(hL.good.tab g cs hg).1,fun ⟨i,v,hi,hl,hm,hk⟩=>(hG.ro g (hG.tab g cs hg).1).2 i v hl hm hk⟩,(hL.good.tab g cs hg).2⟩⟩
  ·by_cases hm:id∈ids
   ·obtain ⟨k,hk⟩:=List.getElem?_of_mem hm
    rw [lkH_zip_at (by omega) hnd' hk]
    have hrb:=hL.good.rel k
    rw [lkH_num0] at hrb
    obtain ⟨v,hv⟩:=live_some hrb (hlv' k id hk).1
    have hmv:m id=some v:=by rw [← hmc k id hk];exact hv
    have hmove:=relB_move hrb hv hmv (hlv' k id hk).2
    rcases hflat with h0 | h0
    ·exact hmove.mono (fun _ _ h=>h) (fun g hg=>⟨hg,fun ⟨i,v,hi,_⟩=>by rw [h0] at hi;simp at hi⟩) (fun _ _=>rfl) (fun _ _ _ _ _=>rfl)
    ·have hfl:=(h0 _ rs hR).2 _ (getD_lt_mem (bs:=bs') (i:=k) (by have:=(List.getElem?_eq_some_iff.1 hk).1;omega))
     have hone:RelR S'' w' 0 v (.new (bs'.getD k .dead)):=⟨(hlv' k id hk).1,fun _ _=>Nat.zero_le _,fun n=>relB_move hrb hv (by simp) (hlv' k id hk).2⟩
     have:=(relR_flat (S':=fun g=>S'' g∧¬ lent m H₂ t g) hone hfl).2.2 id
     exact this.mono (fun i u h=>by
      by_cases e:i=id
      ·subst e
       simp at h
       subst h
       exact hmv
      ·simp [e] at h) (fun _ h=>h) (fun _ _=>rfl) (fun _ _ _ _ _=>rfl)
   ·rw [lkH_zip (by omega) hm]
    refine (hG.rel id).mono (fun _ _ h=>h) (fun g hg=>⟨hL.ros g (.inl hg),hnl g hg⟩) (fun g hg=>hkeepS g (hG.ro g hg).1 fun i v _ hl hv=>(hG.ro g hg).2 i v hl hv) (fun v k hl hv hk=>hkeepS k (hG.blk_lt hl hv hk) fun i u hi hl2 hu hk2=>?_)
    have:=hG.sep i id u v k hl2 hl hu hv hk2 hk
    subst this
    exact hm hi
  ·rcases hSf g hg.1 with h | h | h
   ·exact (hG.ro g h).2 id v (hl3 id hl) hv hk
   ·exact hg.2 h
   ·have:=hG.blk_lt (hl3 id hl) hv hk
    omega
 have hown3:∀ k,own m (zipH ids bs'++H₂) k→own m H₂ k:=fun k ⟨i,v,hl,hv,hk⟩=>⟨i,v,hl3 i hl,hv,hk⟩
 obtain ⟨m',g1,g2,g3,g4,g5,g6⟩:=take_sound (B:=w.heap.size) rs us nx m _ hG3 (fun i hi hlt=>hfree i hi ⟨_,⟨bs',rs,hR,rfl⟩,hlt⟩) hL.len hrelR (fun j u b k hu hr hk=>by
  obtain ⟨a1,a2⟩:=hL.apart j u b k hu hr hk
  refine ⟨fun h=>a1 h.1,fun ho=>?_,fun j' u' b' p q r=>a2 j' u' b' p q r⟩
  have h1:=hG.own_lt (hown3 k ho)
  have h2:RelR _ w' w.heap.size u (.new b):=hrelR j u _ hu hr
  have:=h2.2.1 k hk
  omega)
 refine ⟨retVal us,_,m',_,rfl,⟨bs',rs,hR,rfl⟩,⟨g2,g3,fun g hg=>⟨hL.ros g (.inl hg),hnl g hg⟩,fun g hg=>?_,?_,fun k hk=>?_,?_⟩,retVal_rel g5 g6⟩
 ·rcases hSf g hg.1 with h | h | h
  ·exact .inl h
  ·exact (hg.2 h).elim
  ·exact .inr (.inr h)
 ·exact ⟨hL.far.os,hL.far.tape,hL.far.output,hL.far.size,fun k hk hno=>hkeepS k hk fun id v _ hl hv hkv=>hno ⟨id,v,hl,hv,hkv⟩⟩
 ·rw [List.append_assoc] at hk
  rcases g4 k hk with h | h
  ·exact .inl (hown3 k h)
  ·exact .inr h
 ·rw [List.append_assoc]
  exact g1
theorem LeT.trans {a b c:AV} (h:LeT a b) (k:LeT b c):LeT a c:=fun S w v hr=>k S w v (h S w v hr)
theorem APure.rowT [Tabs] {P:Program} {f:FuncId} {args:List AV} {e:TypeId} {E:Nat} {l:List AV} {T:Type} {enc:T→AV} {d:T} {xs:List T} (h:APure P f args (fun rs=>rs=[.new (.lst e E l)]))
  (hlen:(xs.map enc).length=l.length) (hE:∀ x∈xs.map enc,x.cells.length=E) (h1:∀ a∈flat (xs.map enc),a.one=true) (ht:LeTs (flat l) (flat (xs.map enc))):APure P f args (fun rs=>rs=[.new (.row e E enc d xs)]):=by
 refine ⟨h.1,fun S w vs hS hT hv=>(h.2 S w vs hS hT hv).mono ?_⟩
 rintro en w' ⟨us,rs,S',he,rfl,hL⟩
 refine ⟨us,_,S',he,rfl,⟨by rw [hL.len];rfl,fun j u r hu hr=>?_,hL.below,hL.ros,hL.fresh,hL.lt,fun i u b k hu hb hk=>?_⟩⟩
 ·match j,hr with
  | 0,hr =>
   simp at hr
   subst hr
   obtain ⟨_,h2,h3⟩:=hL.rel 0 u _ hu rfl
   refine ⟨rfl,h2,fun n=>?_⟩
   obtain ⟨v,vs,hm,hr⟩:=h3 n
   exact ⟨v,vs,hm,hr.leT hlen hE h1 ht⟩
 ·match i,hb with
  | 0,_ =>
   obtain ⟨a1,a2⟩:=hL.apart 0 u _ k hu rfl hk
   refine ⟨a1,fun j u' b' hu' hb' hk'=>?_⟩
   match j,hb' with
   | 0,_=>rfl
def okI (t:List Nat) (i:Nat):Bool:=!notIn i t
theorem okI_spec {t:List Nat} {i:Nat} (h:okI t i=true):i∈t:=by
 induction t with
 | nil=>simp [okI,notIn] at h
 | cons j t ih =>
  by_cases e:i=j
  ·subst e;exact List.mem_cons_self
  ·refine List.mem_cons_of_mem _ (ih ?_)
   unfold okI notIn at h
   have:Nat.beq i j=false:=by cases hb:Nat.beq i j with | false=>rfl | true=>exact (e (Nat.eq_of_beq_eq_true hb)).elim
   rw [this] at h
   exact h
def okA0 (t:List Nat):AV→Bool
 | .ptr i _=>okI t i
 | .eptr i _ _ _=>okI t i
 | .own i=>okI t i
 | .pre i _=>okI t i
 | .part i _ _ _=>okI t i
 | .map i=>okI t i
 | .qptr i _ _=>okI t i
 | .csl i _=>okI t i
 | a=>a.tree1
def okA (t:List Nat):AV→Bool
 | .agg l=>l.all (okA0 t)
 | .tup l=>l.all (okA0 t)
 | .fn _ l l'=>l.all (okA0 t)&&l'.all (okA0 t)
 | a=>okA0 t a
theorem relV_ids0 {m m2:Ids} {S:Blocks} {w:World} {v:Value} {a:AV} {t:List Nat} (h:RelV m S w v a) (ho:okA0 t a=true) (hm:∀ i∈t,∀ u,m i=some u→m2 i=some u):RelV m2 S w v a:=by
 cases a with
 | ptr i o=>cases h with | t _ _ h=>cases h | ptr _ _ g hi=>exact .ptr i o g (hm i (okI_spec ho) _ hi)
 | eptr i E j o=>cases h with | t _ _ h=>cases h | eptr _ _ _ _ g n c hi=>exact .eptr i E j o g n c (hm i (okI_spec ho) _ hi)
 | own i=>cases h with | t _ _ h=>cases h | own _ n c a hi=>exact .own i n c a (hm i (okI_spec ho) _ hi)
 | pre i l=>cases h with | t _ _ h=>cases h | pre _ _ n c a hi hle=>exact .pre i l n c a (hm i (okI_spec ho) _ hi) hle
 | part i E o l=>cases h with
  | t _ _ h=>cases h
  | part _ _ _ _ g n cap c hi hle hc=>exact .part i E o l g n cap c (hm i (okI_spec ho) _ hi) hle hc
  | partE _ _ _ c g n cap hi=>exact .partE i E o c g n cap (hm i (okI_spec ho) _ hi)
  | partN=>exact .partN i E o
 | map i=>cases h with | t _ _ h=>cases h | map _ r hi=>exact .map i r (hm i (okI_spec ho) _ hi)
 | qptr i E j=>cases h with | t _ _ h=>cases h | qptr _ _ _ g o n c hi=>exact .qptr i E j g o n c (hm i (okI_spec ho) _ hi)
 | csl i n=>cases h with | t _ _ h=>cases h | csl _ _ g hi=>exact .csl i n g (hm i (okI_spec ho) _ hi)
 | _=>exact .t _ _ (h.toT1 ho)
theorem relV_ids {m m2:Ids} {S:Blocks} {w:World} {v:Value} {a:AV} {t:List Nat} (h:RelV m S w v a) (ho:okA t a=true) (hm:∀ i∈t,∀ u,m i=some u→m2 i=some u):RelV m2 S w v a:=by
 cases a with
 | agg l =>
  have hall:=List.all_eq_true.1 (show l.all (okA0 t)=true from ho)
  cases h with
  | t _ _ h=>exact .t _ _ h
  | agg cs _ hl hr=>exact .agg cs l hl fun j c a hj ha=>relV_ids0 (hr j c a hj ha) (hall a (List.mem_of_getElem? ha)) hm
 | tup l =>
  have hall:=List.all_eq_true.1 (show l.all (okA0 t)=true from ho)
  cases h with
  | t _ _ h=>exact .t _ _ h
  | tup cs _ hl hr=>exact .tup cs l hl fun j c a hj ha=>relV_ids0 (hr j c a hj ha) (hall a (List.mem_of_getElem? ha)) hm
 | fn f l l' =>
  have ho':(l.all (okA0 t)&&l'.all (okA0 t))=true:=ho
  rw [Bool.and_eq_true] at ho'
  have h1:=List.all_eq_true.1 ho'.1
  have h2:=List.all_eq_true.1 ho'.2
  cases h with
  | t _ _ h=>exact .t _ _ h
  | fn _ fs cs _ _ hl hl' r1 r2=>exact .fn f fs cs l l' hl hl' (fun j c a hj ha=>relV_ids0 (r1 j c a hj ha) (h1 a (List.mem_of_getElem? ha)) hm) (fun j c a hj ha=>relV_ids0 (r2 j c a hj ha) (h2 a (List.mem_of_getElem? ha)) hm)
 | _=>exact relV_ids0 h ho hm
def okB (t:List Nat):AB→Bool
 | .cells _ l=>l.all (okA t)
 | _=>true
theorem relB_ids {m m2:Ids} {S:Blocks} {w:World} {id:Nat} {b:AB} {t:List Nat} (h:RelB m S w id b) (ho:okB t b=true) (hid:id∈t) (hm:∀ i∈t,∀ u,m i=some u→m2 i=some u):RelB m2 S w id b:=by
 cases b with
 | dead=>trivial
 | cells e l =>
  have hall:=List.all_eq_true.1 (show l.all (okA t)=true from ho)
  obtain ⟨g,cs,hmi,hg,hl,h1,hr⟩:=h
  exact ⟨g,cs,hm _ hid _ hmi,hg,hl,h1,fun j c a p q=>relV_ids (hr j c a p q) (hall a (List.mem_of_getElem? q)) hm⟩
 | lst e E l=>obtain ⟨v,vs,hmi,hr⟩:=h;exact ⟨v,vs,hm _ hid _ hmi,hr⟩
 | row e E enc d xs=>obtain ⟨v,vs,hmi,hr⟩:=h;exact ⟨v,vs,hm _ hid _ hmi,hr⟩
 | smap ev dv es=>obtain ⟨r,en,c,hmi,hr⟩:=h;exact ⟨r,en,c,hm _ hid _ hmi,hr⟩
 | imap k ev dv es=>obtain ⟨r,en,c,hmi,hr⟩:=h;exact ⟨r,en,c,hm _ hid _ hmi,hr⟩
 | gmap k ev dv es=>obtain ⟨r,en,c,hmi,hr⟩:=h;exact ⟨r,en,c,hm _ hid _ hmi,hr⟩
 | arr e k n f=>obtain ⟨g,cs,hmi,hr⟩:=h;exact ⟨g,cs,hm _ hid _ hmi,hr⟩
 | que e E enc d xs=>obtain ⟨g,o,c,cur,hmi,hr⟩:=h;exact ⟨g,o,c,cur,hm _ hid _ hmi,hr⟩
def restr (H:Heap):List Nat→Heap
 | []=>[]
 | i::t=>(i,lkH H i)::restr H t
theorem lkH_restr {H:Heap}:∀ {t:List Nat} {i:Nat},i∈t→lkH (restr H t) i=lkH H i
 | [],i,h=>by simp at h
 | j::t,i,h=>by
  show lkH ((j,lkH H j)::restr H t) i=_
  rw [lkH_cons]
  by_cases e:j=i
  ·subst e;rw [if_pos rfl]
  ·rw [if_neg e]
   rcases List.mem_cons.1 h with h | h
   ·exact (e h.symm).elim
   ·exact lkH_restr h
theorem lkH_restr_app {H H₂:Heap}:∀ {t:List Nat} {i:Nat},i∉t→lkH (restr H t++H₂) i=lkH H₂ i
 | [],i,h=>rfl
 | j::t,i,h=>by
  show lkH ((j,lkH H j)::(restr H t++H₂)) i=_
  rw [lkH_cons,if_neg (fun e=>h (by rw [e];exact List.mem_cons_self)),lkH_restr_app (fun hm=>h (List.mem_cons_of_mem _ hm))]
theorem lkH_restr_app' {H H₂:Heap}:∀ {t:List Nat} {i:Nat},i∈t→lkH (restr H t++H₂) i=lkH H i
 | [],i,h=>by simp at h
 | j::t,i,h=>by
  show lkH ((j,lkH H j)::(restr H t++H₂)) i=_
  rw [lkH_cons]
  by_cases e:j=i
  ·subst e;rw [if_pos rfl]
  ·rw [if_neg e]
   rcases List.mem_cons.1 h with h | h
   ·exact (e h.symm).elim
   ·exact lkH_restr_app' h
theorem lkH_restr_no {H:Heap} {t:List Nat} {i:Nat} (h:i∉t):lkH (restr H t) i=.dead:=by
 have:=lkH_restr_app (H:=H) (H₂:=[]) h
 rw [List.append_nil] at this
 rw [this]
 rfl
def resI (T:Tab) (env:Env) (H:Heap) (nx:Nat):List ResultVar→List AV→(List AV→Prop)→Prop
 | [],acc,k=>k acc.reverse
 | .tmp t::r,acc,k=>resI T env H nx r (lk env t::acc) k
 | .cell t ty::r,acc,k=>evLoad T none H nx ty (lk env t) fun res=>match res with
  | ⟨v,_,_,_⟩=>forceAV v fun v=>resI T env H nx r (v::acc) k
theorem resI_sound [Tabs] {P:Program} {T:Tab} (hT:TabOk P T) {m:Ids} {S:Blocks} {w:World} {env:Env} {H:Heap} {nx:Nat} {a:Act} (hG:Good m S w H) (hrel:∀ s,RelV m S w (a.tmps.getD s undef) (lk env s)):∀ (rs:List ResultVar) (acc:List AV) (k:List AV→Prop),resI T env H nx rs acc k →
  ∃ l,k (acc.reverse++l)∧l.length=rs.length∧(∀ r∈rs,SlotRun P a w r)∧∀ (j:Nat) (u:Value) (x:AV),(slotVals P rs a w)[j]?=some u→l[j]?=some x→RelV m S w u x
 | [],acc,k,h=>⟨[],by simpa [resI] using h,rfl,by simp,fun j u x hu=>by simp [slotVals] at hu⟩
 | .tmp t::r,acc,k,h=>by
  obtain ⟨l,h1,h2,h3,h4⟩:=resI_sound hT hG hrel r (lk env t::acc) k h
  refine ⟨lk env t::l,by simpa using h1,by simp [h2],fun r0 hr0=>?_,fun j u x hu hx=>?_⟩
  ·rcases List.mem_cons.1 hr0 with rfl | hr0
   ·trivial
   ·exact h3 r0 hr0
  ·cases j with
   | zero =>
    simp [slotVals,slotVal] at hu hx
    subst hu
    subst hx
    have:=hrel t
    simpa using this
   | succ j=>exact h4 j u x (by simpa [slotVals] using hu) (by simpa using hx)
 | .cell t ty::r,acc,k,h=>by
  unfold resI at h
  let o : Oper := { dst := none, op := .load ty (.tmp t), type := 0, pos := "", after := #[], guard := none }
  obtain ⟨res,hsem,_,h⟩:=evLoad_sound (P:=P) (T:=T) hT (g:=none) (rd:=fun x=>match x with | .tmp s=>lk env s | _=>.undef) (o:=o) (x:=.tmp t) rfl h
  obtain ⟨v,touch,wr,nx'⟩:=res
  simp only [forceAV_iff] at h
  obtain ⟨_,hsem⟩:=hsem trivial
  obtain ⟨u,hu,hru⟩:=hsem m S w a H hG (fun _ _=>rfl) (fun x hx _=>by
   simp only [List.mem_singleton] at hx
   subst hx
   exact hrel t)
  have hu:=hu w ⟨Nat.le_refl _,fun _ _=>rfl⟩
  have hld:∃ p,a.tmps.getD t undef=.pointer (some p)∧(loadVar ty p).run P w=.ok u w:=by
   exact zt21
  obtain ⟨p,hp,hl⟩:=hld
  have hsv:slotVal P a w (.cell t ty)=u:=by simp only [slotVal,hp,hl]
  obtain ⟨l,h1,h2,h3,h4⟩:=resI_sound hT hG hrel r (v::acc) k h
  refine ⟨v::l,by simpa using h1,by simp [h2],fun r0 hr0=>?_,fun j u' x hu' hx=>?_⟩
  ·rcases List.mem_cons.1 hr0 with rfl | hr0
   ·exact ⟨p,u,hp,hl⟩
   ·exact h3 r0 hr0
  ·cases j with
   | zero =>
    simp only [slotVals,List.map_cons,List.getElem?_cons_zero,Option.some.injEq] at hu' hx
    rw [hsv] at hu'
    subst hu'
    subst hx
    exact hru
   | succ j=>exact h4 j u' x (by simpa [slotVals] using hu') (by simpa using hx)
def allB:List Bool→Bool
 | []=>true
 | b::l=>match b with
  | true=>allB l
  | false=>false
theorem allB_spec:∀ {l:List Bool},allB l=true→∀ b∈l,b=true
 | [],_,b,hb=>by simp at hb
 | a::l,h,b,hb=>by
  unfold allB at h
  split at h
  ·rcases List.mem_cons.1 hb with rfl | hb
   ·rfl
   ·exact allB_spec h b hb
  ·cases h
def endI (T:Tab) (rs:List ResultVar) (t news:List Nat) (nx:Nat) (Rr:Res→Prop) (st:St):Prop :=
 allB (news.map fun i=>Nat.ble nx i&&Nat.blt i st.nx)=true∧allB ((t++news).map fun i=>okB (t++news) (lkH st.heap i))=true∧Nat.ble nx st.nx=true ∧
  resI T st.env st.heap st.nx rs [] fun vs=>allB (vs.map (okA (t++news)))=true∧Rr ⟨valR vs,t,restr st.heap (t++news),st.nx⟩
def retI (T:Tab) (rs:Array ResultVar) (t news:List Nat) (nx:Nat) (Rr:Res→Prop):Exit→St→Prop
 | .normal,st=>endI T rs.toList t news nx Rr st
 | .ret,st=>endI T rs.toList t news nx Rr st
 | _,_=>False
theorem zt120 {p:Prop}(h:p:=by
 have:avs.getD s .undef=.undef:=by simp [List.getD,List.getElem?_eq_none (by omega:avs.length≤s)]
 rw [this]
 exact .t _ _ (.undef _)):p:=h
theorem zt154 {p:Prop}(h:p:=by
 rcases hc.owns k ⟨i,v,hl,hkm i hi v hv,hkv⟩ with h | h
 ·exact .inl (hF0 k h)
 ·exact .inr h):p:=h
theorem zt152 {p:Prop}(h:p:=by
 rcases hc.ro g hg with h | h | h
 ·exact .inl h
 ·exact .inr (.inl (hF0 g h))
 ·exact .inr (.inr h)):p:=h
theorem zt148 {p:Prop}(h:p:=by
 exact ⟨hc.far.os,hc.far.tape,hc.far.output,hc.far.size,fun k hk hno=>hc.far.block k hk fun ho=>hno (hF0 k ho)⟩):p:=h
theorem inl_sem [Tabs] {C : Cx} (hT : CxOk C) {f : FuncId} {fn : Func} {code : Code} {avs : List AV} {H : Heap} {nx : Nat} (t news : List Nat) {Rr : Res → Prop} (hf : C.P.funcs[f]? = some fn) (hb : fn.body = some code) (hname : (fn.name == "runtime.NumGoroutine") = false)
  (hN:C.N=fn.ntmps) (hle:avs.length≤fn.ntmps) (hres:fn.results.size≤4)
  (hlive:allB (t.map fun i=>(lkH H i).live&&okB t (lkH H i)&&Nat.blt i nx&&Nat.blt i C.pn)=true) (hav:allB (avs.map (okA t))=true)
  (h:evCode C code ⟨argEnv avs 0,restr H t,nx⟩ (retI C.T fn.results t news nx Rr)) (hpx:∀ ch,¬ C.px ch:=by exact fun _ h=>h):CallSem C.P f avs H nx t Rr:=by
 refine ⟨⟨fn,hf,by rw [hb];rfl,hname⟩,fun m S w H₂ vs hG ht hfree hlen hrel=>calls_of_wp hf hb ?_⟩
 have ht1:∀ i∈t,(lkH H i).live=true∧okB t (lkH H i)=true∧i<nx∧i<C.pn:=fun i hi=>by
  have:=allB_spec hlive _ (List.mem_map_of_mem (f:=fun i=>(lkH H i).live&&okB t (lkH H i)&&Nat.blt i nx&&Nat.blt i C.pn) hi)
  simp only [Bool.and_eq_true] at this
  exact ⟨this.1.1.1,this.1.1.2,Nat.blt_eq.mp this.1.2,Nat.blt_eq.mp this.2⟩
 let mc:Ids:=fun i=>if i∈t then m i else none
 have hmc:∀ i,i∈t→mc i=m i:=fun i hi=>if_pos hi
 have hmn:∀ i,i∉t→mc i=none:=fun i hi=>if_neg hi
 have hlk:∀ i,i∈t→lkH (restr H t) i=lkH H₂ i:=fun i hi=>by rw [lkH_restr hi,ht i hi]
 have hmt:∀ i,i∈t→∃ v,m i=some v:=fun i hi=>live_some (hG.rel i) (by rw [ht i hi];exact (ht1 i hi).1)
 have hownc:∀ k,own mc (restr H t) k→∃ i,i∈t∧(lkH H₂ i).live=true∧∃ v,m i=some v∧blk v=some k:=by
  rintro k ⟨i,v,hl,hv,hk⟩
  have hi:i∈t:=Classical.byContradiction fun h=>by rw [hmn i h] at hv;cases hv
  exact ⟨i,hi,by rw [ht i hi];exact (ht1 i hi).1,v,by rw [← hmc i hi];exact hv,hk⟩
 have hGc:Good mc S w (restr H t):=by
  have up:∀ i v,(lkH (restr H t) i).live=true→mc i=some v→i∈t∧(lkH H₂ i).live=true∧m i=some v:=fun i v hl hv=>by
   have hi:i∈t:=Classical.byContradiction fun h=>by rw [hmn i h] at hv;cases hv
   exact ⟨hi,by rw [← hlk i hi];exact hl,by rw [← hmc i hi];exact hv⟩
  refine ⟨fun i=>?_,fun i j vi vj k hli hlj hvi hvj hki hkj=>?_,fun g hg=>⟨(hG.ro g hg).1,fun i v hl hv=>?_⟩,hG.tab⟩
  ·by_cases hi:i∈t
   ·rw [hlk i hi]
    refine relB_ids (t:=t) (hG.rel i) (by rw [ht i hi];exact (ht1 i hi).2.1) hi fun j hj u hu=>by rw [hmc j hj];exact hu
   ·rw [lkH_restr_no hi];trivial
  ·obtain ⟨_,l1,e1⟩:=up i vi hli hvi
   obtain ⟨_,l2,e2⟩:=up j vj hlj hvj
   exact hG.sep i j vi vj k l1 l2 e1 e2 hki hkj
  ·obtain ⟨_,l1,e1⟩:=up i v hl hv
   exact (hG.ro g hg).2 i v l1 e1
 let F:Fr:=⟨w,own mc (restr H t),S,mc,[]⟩
 have hfits:F.fits C.pn:=fun i v hi=>by
  have:i∈t:=Classical.byContradiction fun h=>by
   have h2:mc i=some v:=hi
   rw [hmn i h] at h2
   cases h2
  exact (ht1 i this).2.2.2
 have hrel0:Rel F C.N ⟨argEnv avs 0,restr H t,nx⟩ { tmps:=vs.toArray++Array.replicate (fn.ntmps-vs.toArray.size) undef,defers:=[] } w:=by
  refine ⟨mc,S,⟨hGc,fun i hi=>hmn i fun hm=>by have:=(ht1 i hm).2.2.1;have h':nx≤i:=hi;omega,Far.refl _ _,fun k hk=>.inl hk,fun g hg=>.inl hg,fun g hg=>hg,fun i v hi=>hi⟩,by simp;omega,rfl,fun s=>?_⟩
  rw [lk_argEnv,if_pos (Nat.zero_le _),Nat.sub_zero]
  by_cases hs:s<avs.length
  ·have h1:avs[s]?=some (avs.getD s .undef):=by simp [List.getD,List.getElem?_eq_getElem hs]
   have h2:vs[s]?=some ((vs.toArray++Array.replicate (fn.ntmps-vs.toArray.size) undef).getD s undef):=by
    exact zt101
   refine relV_ids (t:=t) (hrel s _ _ h2 h1) (allB_spec hav _ (List.mem_map_of_mem (List.mem_of_getElem? h1))) fun j hj u hu=>by rw [hmc j hj];exact hu
  ·exact zt120
 refine wp_mono (evCode_sound hT (F:=F) hfits code _ _ h _ w hrel0) fun e a' w' ⟨st',⟨m',S',hc,hs,hd,hr⟩,hq⟩=>?_
 have fin:endI C.T fn.results.toList t news nx Rr st'→a'.defers=[]∧∃ v,(results fn a'.tmps).run C.P w'=.ok v w'∧∃ v' r m' S',Ending.returned v=.returned v'∧Rr r∧Ext m S w H₂ nx r.nx m' S' w' (r.wr++H₂)∧RelV m' S' w' v' r.v:=by
  rintro ⟨hnews,hobjs,hnx,hq⟩
  have hnx':nx≤st'.nx:=Nat.le_of_ble_eq_true hnx
  obtain ⟨l,⟨hl0,hR⟩,hll,hsr,hlr⟩:=resI_sound hT.tab hc.good hr _ _ _ hq
  rw [List.reverse_nil,List.nil_append] at hl0 hR
  have hnw:∀ i∈news,nx≤i∧i<st'.nx:=fun i hi=>by
   have:=allB_spec hnews _ (List.mem_map_of_mem (f:=fun i=>Nat.ble nx i&&Nat.blt i st'.nx) hi)
   simp only [Bool.and_eq_true] at this
   exact ⟨Nat.le_of_ble_eq_true this.1,Nat.blt_eq.mp this.2⟩
  have hob:∀ i∈t++news,okB (t++news) (lkH st'.heap i)=true:=fun i hi=>allB_spec hobjs _ (List.mem_map_of_mem (f:=fun i=>okB (t++news) (lkH st'.heap i)) hi)
  have hfr:∀ i,nx≤i→i<st'.nx→m i=none:=fun i h1 h2=>hfree i h1 ⟨_,hR,h2⟩
  let m2:Ids:=fun i=>if nx≤i∧i<st'.nx then m' i else m i
  have hm2n:∀ i,nx≤i→i<st'.nx→m2 i=m' i:=fun i h1 h2=>if_pos ⟨h1,h2⟩
  have hm2o:∀ i,¬ (nx≤i∧i<st'.nx)→m2 i=m i:=fun i h=>if_neg h
  have hm't:∀ i∈t,∃ v,m i=some v∧m' i=some v∧m2 i=some v:=fun i hi=>by
   obtain ⟨v,hv⟩:=hmt i hi
   refine ⟨v,hv,hc.pins i v (by show mc i=some v;rw [hmc i hi];exact hv),?_⟩
   rw [hm2o i fun h=>by have:=(ht1 i hi).2.2.1;omega]
   exact hv
  have hmk:∀ i∈t++news,∀ u,m' i=some u→m2 i=some u:=fun i hi u hu=>by
   rcases List.mem_append.1 hi with h | h
   ·obtain ⟨v,_,e1,e2⟩:=hm't i h
    rw [e1] at hu
    cases hu
    exact e2
   ·obtain ⟨a,b⟩:=hnw i h
    rw [hm2n i a b]
    exact hu
  have hkm:∀ i∈t++news,∀ u,m2 i=some u→m' i=some u:=fun i hi u hu=>by
   rcases List.mem_append.1 hi with h | h
   ·obtain ⟨v,_,e1,e2⟩:=hm't i h
    rw [e2] at hu
    cases hu
    exact e1
   ·obtain ⟨a,b⟩:=hnw i h
    rw [hm2n i a b] at hu
    exact hu
  have hF0:∀ k,own mc (restr H t) k→own m H₂ k:=fun k hk=>by
   obtain ⟨i,_,h2,v,h3,h4⟩:=hownc k hk
   exact ⟨i,v,h2,h3,h4⟩
  -- what is not handed over stands as it stood
  have hold:∀ i v,i∉t++news→(lkH H₂ i).live=true→m2 i=some v→m i=some v∧i∉t:=fun i v hi hl hv=>by
   refine ⟨?_,fun h=>hi (List.mem_append.2 (.inl h))⟩
   by_cases hh:nx≤i∧i<st'.nx
   ·obtain ⟨u,hu⟩:=live_some (hG.rel i) hl
    rw [hfr i hh.1 hh.2] at hu
    cases hu
   ·rw [← hm2o i hh];exact hv
  have hnF:∀ i v k,i∉t→(lkH H₂ i).live=true→m i=some v→blk v=some k→¬ own mc (restr H t) k:=fun i v k hi hl hv hk ho=>by
   obtain ⟨j,h1,h2,u,h3,h4⟩:=hownc k ho
   have:=hG.sep i j v u k hl h2 hv h3 hk h4
   subst this
   exact hi h1
  have hkeep:∀ i v k,i∉t→(lkH H₂ i).live=true→m i=some v→blk v=some k→w'.heap[k]?=w.heap[k]?:=fun i v k hi hl hv hk =>
   hc.far.block k (hG.blk_lt hl hv hk) (hnF i v k hi hl hv hk)
  have hkeepS:∀ g,S g→w'.heap[g]?=w.heap[g]?:=fun g hg=>hc.far.block g (hG.ro g hg).1 fun ho=>by
   obtain ⟨j,_,h2,u,h3,h4⟩:=hownc g ho
   exact (hG.ro g hg).2 j u h2 h3 h4
  have hgood:Good m2 S' w' (restr st'.heap (t++news)++H₂):=by
   refine ⟨fun i=>?_,fun i j vi vj k hli hlj hvi hvj hki hkj=>?_,fun g hg=>⟨(hc.good.ro g hg).1,fun i v hl hv hk=>?_⟩,hc.good.tab⟩
   ·by_cases hi:i∈t++news
    ·rw [lkH_restr_app' hi]
     exact relB_ids (t:=t++news) (hc.good.rel i) (hob i hi) hi hmk
    ·rw [lkH_restr_app hi]
     by_cases hl:(lkH H₂ i).live=true
     ·have hi':i∉t:=fun h=>hi (List.mem_append.2 (.inl h))
      refine (hG.rel i).mono (fun j u hu=>?_) hc.ro0 hkeepS fun v k _ hv hk=>hkeep i v k hi' hl hv hk
      by_cases hh:nx≤j∧j<st'.nx
      ·rw [hfr j hh.1 hh.2] at hu
       cases hu
      ·rw [hm2o j hh];exact hu
     ·cases hb:lkH H₂ i with
      | dead=>trivial
      | _=>rw [hb] at hl;exact (hl rfl).elim
   ·have two:∀ i j vi vj k,i∈t++news→j∉t++news→(lkH (restr st'.heap (t++news)++H₂) i).live=true→(lkH (restr st'.heap (t++news)++H₂) j).live=true→m2 i=some vi→m2 j=some vj→blk vi=some k→blk vj=some k→False:=by
     intro i j vi vj k hi hj hli hlj hvi hvj hki hkj
     rw [lkH_restr_app' hi] at hli
     rw [lkH_restr_app hj] at hlj
     obtain ⟨e1,e2⟩:=hold j vj hj hlj hvj
     rcases hc.owns k ⟨i,vi,hli,hkm i hi vi hvi,hki⟩ with h | h
     ·exact hnF j vj k e2 hlj e1 hkj h
     ·have:=hG.blk_lt hlj e1 hkj
      have h':w.heap.size≤k:=h
      omega
    by_cases hi:i∈t++news
    ·by_cases hj:j∈t++news
     ·rw [lkH_restr_app' hi] at hli
      rw [lkH_restr_app' hj] at hlj
      exact hc.good.sep i j vi vj k hli hlj (hkm i hi vi hvi) (hkm j hj vj hvj) hki hkj
     ·exact (two i j vi vj k hi hj hli hlj hvi hvj hki hkj).elim
    ·by_cases hj:j∈t++news
     ·exact (two j i vj vi k hj hi hlj hli hvj hvi hkj hki).elim
     ·rw [lkH_restr_app hi] at hli
      rw [lkH_restr_app hj] at hlj
      exact hG.sep i j vi vj k hli hlj (hold i vi hi hli hvi).1 (hold j vj hj hlj hvj).1 hki hkj
   ·by_cases hi:i∈t++news
    ·rw [lkH_restr_app' hi] at hl
     exact (hc.good.ro g hg).2 i v hl (hkm i hi v hv) hk
    ·rw [lkH_restr_app hi] at hl
     obtain ⟨e1,e2⟩:=hold i v hi hl hv
     rcases hc.ro g hg with h | h | h
     ·exact (hG.ro g h).2 i v hl e1 hk
     ·exact hnF i v g e2 hl e1 hk h
     ·have:=hG.blk_lt hl e1 hk
      have h':w.heap.size≤g:=h
      omega
  refine ⟨hd,_,run_results hsr hres,_,_,m2,S',rfl,hR,⟨fun i v hv=>?_,fun i hi=>hm2o i hi,hc.ro0,fun g hg=>?_,?_,fun k hk=>?_,hgood⟩,?_⟩
  ·by_cases hh:nx≤i∧i<st'.nx
   ·rw [hfr i hh.1 hh.2] at hv;cases hv
   ·rw [hm2o i hh];exact hv
  ·exact zt152
  ·exact zt148
  ·obtain ⟨i,v,hl,hv,hkv⟩:=hk
   by_cases hi:i∈t++news
   ·rw [lkH_restr_app' hi] at hl
    exact zt154
   ·rw [lkH_restr_app hi] at hl
    exact .inl ⟨i,v,hl,(hold i v hi hl hv).1,hkv⟩
  ·refine retVal_rel (by rw [hll];simp [slotVals]) fun j u x hu hx=>relV_ids (t:=t++news) (hlr j u x hu hx) (allB_spec hl0 _ (List.mem_map_of_mem (List.mem_of_getElem? hx))) hmk
 exact zt135
open Go.Proofs Go.Shelf Go.RowKit
def Plain (u:Value) (a:AV):Prop:=∀ S w,RelT S w u a
theorem apure_plain [Tabs] {P:Program} {f:FuncId} {args:List AV} {R:List AV→Prop} (hfn:FnOk P f)
  (h:∀ (S:Blocks) (w:World) (vs:List Value),TabAt S w→RelTs S w vs args→Calls P f vs.toArray w fun e w'=>∃ us l,e=.returned (retVal us)∧R l∧us.length=l.length∧(∀ (j:Nat) (u:Value) (a:AV),us[j]?=some u→l[j]?=some a→Plain u a)∧Below w.heap.size w w') :
  APure P f args (fun rs=>∃ l,R l∧rs=l.map .val):=by
 refine ⟨hfn,fun S w vs hS hT hv=>(h S w vs hT hv).mono ?_⟩
 rintro e w' ⟨us,l,he,hR,hl,hrel,hb⟩
 refine ⟨us,l.map .val,S,he,⟨l,hR,rfl⟩,⟨by rw [hl,List.length_map],fun j u r hu hr=>?_,hb,fun g h=>h,fun g h=>.inl h,fun g hg=>Nat.lt_of_lt_of_le (hS g hg) hb.size,fun i u b k hu hr hk=>?_⟩⟩
 ·rw [List.getElem?_map,Option.map_eq_some_iff] at hr
  obtain ⟨a,ha,rfl⟩:=hr
  exact hrel j u a hu ha S w'
 ·rw [List.getElem?_map,Option.map_eq_some_iff] at hr
  obtain ⟨a,_,h⟩:=hr
  cases h
theorem plain_int (k:IntKind) (n:Int):Plain (.int k n) (.int k n):=fun _ _=>.int k n
theorem plain_bool (b:Bool):Plain (.bool b) (.bool b):=fun _ _=>.bool b
theorem plain_str (l:List UInt8):Plain (.string ⟨l.toArray⟩) (.str l):=fun _ _=>.str _ l (by simp)
theorem plain_nilI:Plain .nilIface (.ifc true):=fun _ _=>.ifc0
theorem plain_iface (t:TypeId) (v:Value):Plain (.iface t v) (.ifc false):=fun _ _=>.ifc1 t v
theorem str_args [Tabs] {S:Blocks} {w:World} {vs:List Value} {l:List UInt8} (h:RelTs S w vs [.str l]):∃ q:ByteArray,vs=[.string q]∧q.data.toList=l:=by
 obtain ⟨h1,h2⟩:=h
 match vs,h1 with
 | [v],_ =>
  have:=h2 0 v _ rfl rfl
  cases this with
  | str q _ hq=>exact ⟨q,rfl,hq⟩
theorem size_str {q:ByteArray} {l:List UInt8} (h:q.data.toList=l):q.size=l.length:=by
 rw [← h,Array.length_toList]
 rfl
theorem below_grow (w:World) (k:Nat) (os:Array Obj):Below w.heap.size w (Go.Sort.grow (w.drewN k) os) :=
 ⟨rfl,rfl,rfl,by show w.heap.size≤(w.heap++os).size;simp,fun i hi=>by show (w.heap++os)[i]?=_;rw [Array.getElem?_append_left hi]⟩
variable {P:Program} {ρ:Go.Shelf.Ren}
theorem zp48 {p:Prop} (h:p:=by rintro rs ⟨l,rfl,rfl⟩;rfl):p:=h
theorem itoa_ok [Tabs] (L : LaysM.n171 P ρ) (hfn : FnOk P (ρ.f 171)) (htab : ∀ S w, TabAt S w → Lib.TabIs P w "internal/strconv.uint64pow10" .u64 Lib.pow10Tab) (n : Int) (h0 : -9223372036854775808 ≤ n) (h1 : n ≤ 9223372036854775807) :
  APureV P (ρ.f 171) [.int .i64 n] (.str (Lib.itoa n)):=by
 refine APure.mono (apure_plain (R:=fun l=>l=[.str (Lib.itoa n)]) hfn fun S w vs hT hv=>?_) zp48
 obtain ⟨hl,hr⟩:=hv
 match vs,hl with
 | [v],_ =>
  have:=hr 0 v _ rfl rfl
  cases this
  refine (Any.strconv_Itoa L n h0 h1 w (htab S w hT)).mono ?_
  rintro e w' ⟨rfl,k,os,rfl⟩
  refine ⟨[_],_,rfl,rfl,rfl,fun j u a hu ha=>?_,below_grow w k os⟩
  match j,hu,ha with
  | 0,hu,ha=>simp at hu ha;subst hu;subst ha;exact plain_str _
def atoiR (s:List UInt8):List AV :=
 match Lib.atoiAll s with
 | .ok v=>[.int .i64 v,.ifc true]
 | .range=>[.int .i64 (Lib.atoiSat s),.ifc false]
 | _=>[.int .i64 0,.ifc false]
theorem atoi_ok [Tabs] (L:LaysC.n172 P ρ) (hfn:FnOk P (ρ.f 172))
  (hv:∀ S w,TabAt S w→(∃ ev,w.cell? ⟨ρ.g 15,0,none⟩=some ev∧(ev=.nilIface∨∃ te pe,ev=.iface te pe))∧(∃ ev,w.cell? ⟨ρ.g 16,0,none⟩=some ev∧(ev=.nilIface∨∃ te pe,ev=.iface te pe)))
  (s:List UInt8) (hs:s.length≤281474976710656):APure P (ρ.f 172) [.str s] (fun rs=>rs=(atoiR s).map .val):=by
 refine APure.mono (apure_plain (R:=fun l=>l=atoiR s) hfn fun S w vs hT hvs=>?_) zp48
 obtain ⟨q,rfl,hq⟩:=str_args hvs
 have hsz:=size_str hq
 obtain ⟨⟨e1,c1,d1⟩,⟨e2,c2,d2⟩⟩:=hv S w hT
 have two:∀ (u1 u2:Value) (a1 a2:AV),Plain u1 a1→Plain u2 a2→∀ (j:Nat) (u:Value) (a:AV),[u1,u2][j]?=some u→[a1,a2][j]?=some a→Plain u a:=by
  intro u1 u2 a1 a2 h1 h2 j u a hu ha
  match j,hu,ha with
  | 0,hu,ha=>simp at hu ha;subst hu;subst ha;exact h1
  | 1,hu,ha=>simp at hu ha;subst hu;subst ha;exact h2
 unfold atoiR
 rcases hr:Lib.atoiAll s with v | _ | _
 ·refine (Any.strconv_Atoi_ok L q (by omega) v (by rw [hq];exact hr) w).mono ?_
  rintro e w' ⟨rfl,hw⟩
  refine ⟨[_,_],_,rfl,rfl,rfl,two _ _ _ _ (plain_int _ _) plain_nilI,?_⟩
  rcases hw with rfl | ⟨t,rfl⟩
  ·exact Below.refl _ _
  ·exact Lib.bytesWorld_below _ _ _
 ·refine (Any.strconv_Atoi_syntax L q (by omega) (by rw [hq];exact hr) e1 w c1 d1).mono ?_
  rintro e w' ⟨N,rfl,_,_,hb⟩
  exact ⟨[_,_],_,rfl,rfl,rfl,two _ _ _ _ (plain_int _ _) (plain_iface _ _),hb⟩
 ·refine (Any.strconv_Atoi_range L q (by omega) (by rw [hq];exact hr) e2 w c2 d2).mono ?_
  rintro e w' ⟨N,rfl,_,_,hb⟩
  refine ⟨[_,_],_,rfl,rfl,rfl,two _ _ _ _ ?_ (plain_iface _ _),hb⟩
  rw [hq]
  exact plain_int _ _
theorem index_ok [Tabs] (L:Lays.n137 P ρ) (hfn:FnOk P (ρ.f 137)) (s:List UInt8) (c:Int):APureV P (ρ.f 137) [.str s,.int .u8 c] (.int .i64 (Lib.indexByte s c.toNat.toUInt8)):=by
 refine APure.mono (apure_plain (R:=fun l=>l=[.int .i64 (Lib.indexByte s c.toNat.toUInt8)]) hfn fun S w vs hT hv=>?_) zp48
 obtain ⟨hl,hr⟩:=hv
 match vs,hl with
 | [v,v2],_ =>
  have h1:=hr 0 v _ rfl rfl
  have h2:=hr 1 v2 _ rfl rfl
  cases h1 with
  | str q _ hq =>
   cases h2
   refine (Any.strings_IndexByte L q c w).mono ?_
   rintro e w' ⟨rfl,rfl⟩
   refine ⟨[_],_,rfl,rfl,rfl,fun j u a hu ha=>?_,Below.refl _ _⟩
   match j,hu,ha with
   | 0,hu,ha=>simp at hu ha;subst hu;subst ha;rw [hq];exact plain_int _ _
theorem cut_ok [Tabs] (L:Lays.n103 P ρ) (hfn:FnOk P (ρ.f 103)) (s p:List UInt8):APure P (ρ.f 103) [.str s,.str p] (fun rs=>rs=[.val (.str (Lib.trimPrefix s p)),.val (.bool (Lib.hasPrefix s p))]):=by
 refine APure.mono (apure_plain (R:=fun l=>l=[.str (Lib.trimPrefix s p),.bool (Lib.hasPrefix s p)]) hfn fun S w vs hT hv=>?_) zp48
 obtain ⟨hl,hr⟩:=hv
 match vs,hl with
 | [v,v2],_ =>
  have h1:=hr 0 v _ rfl rfl
  have h2:=hr 1 v2 _ rfl rfl
  cases h1 with
  | str q _ hq =>
   cases h2 with
   | str q2 _ hq2 =>
    refine (Any.strings_CutPrefix L q q2 w).mono ?_
    rintro e w' ⟨rfl,rfl⟩
    refine ⟨[_,_],_,rfl,rfl,rfl,fun j u a hu ha=>?_,Below.refl _ _⟩
    match j,hu,ha with
    | 0,hu,ha=>simp at hu ha;subst hu;subst ha;rw [hq,hq2];exact plain_str _
    | 1,hu,ha=>simp at hu ha;subst hu;subst ha;rw [hq,hq2];exact plain_bool _
variable {P:Program}
theorem bld_cells [Tabs] {m:Ids} {S:Blocks} {w:World} {H H₂:Heap} (hG:Good m S w H₂) {id:Nat} (ht:lkH H₂ id=lkH H id) {e:TypeId} {p x:AV} (hid:lkH H id=.cells e [p,x]) :
  ∃ g cs u v,m id=some (.pointer (some ⟨g,0,none⟩))∧w.heap[g]?=some (.cells cs e (0,0))∧cs=#[u,v]∧p.one=true∧x.one=true∧RelV m S w u p∧RelV m S w v x:=by
 have hb:=hG.rel id
 rw [ht,hid] at hb
 obtain ⟨g,cs,hm,hg,hl,h1,hr⟩:=hb
 have hl2:cs.size=2:=hl
 have h0:cs[0]?=some (cs[0]'(by omega)):=Array.getElem?_eq_getElem (by omega)
 have h1':cs[1]?=some (cs[1]'(by omega)):=Array.getElem?_eq_getElem (by omega)
 refine ⟨g,cs,cs[0]'(by omega),cs[1]'(by omega),hm,hg,?_,h1 p (by simp),h1 x (by simp),hr 0 _ _ h0 rfl,hr 1 _ _ h1' rfl⟩
 apply Array.ext'
 apply List.ext_getElem?
 intro j
 match j with
 | 0=>simp
 | 1=>simp
 | j+2=>simp;omega
theorem copy_used [Tabs] {f:FuncId} {e:TypeId} (hcall:∀ (b:Nat) (w:World),w.cell? ⟨b,0,none⟩=some (.pointer (some ⟨b,0,none⟩))→Calls P f #[.pointer (some ⟨b,0,none⟩)] w fun e w'=>e=.returned (.tuple #[])∧w'=w) (hfn:FnOk P f) {id nx:Nat} {H:Heap} {x:AV} (hid:lkH H id=.cells e [.ptr id 0,x]) :
  CallSem P f [.ptr id 0] H nx [id] (fun r=>r=⟨.tup [],[id],[],nx⟩):=by
 refine ⟨hfn,fun m S w H₂ vs hG ht _ hlen hrel=>?_⟩
 obtain ⟨g,cs,u,v,hm,hg,rfl,_,_,hu,_⟩:=bld_cells hG (ht id (by simp)) hid
 have ptr:∀ {q:Value},RelV m S w q (.ptr id 0)→q=.pointer (some ⟨g,0,none⟩):=by
  intro q hq
  cases hq with
  | t _ _ h=>cases h
  | ptr _ _ g' hm'=>rw [hm] at hm';cases hm';rfl
 match vs,hlen with
 | [q],_ =>
  rw [ptr (hrel 0 q _ rfl rfl)]
  have h0:w.cell? ⟨g,0,none⟩=some (.pointer (some ⟨g,0,none⟩)):=by rw [Lib.cell_of_heap hg,ptr hu];rfl
  refine (hcall g w h0).mono ?_
  rintro _ w' ⟨rfl,rfl⟩
  exact ⟨_,_,m,S,rfl,rfl,Ext.refl hG nx,.t _ _ (.tup #[] [] rfl (fun j c a hj=>by simp at hj))⟩
theorem copy_fresh [Tabs] {f:FuncId} {e:TypeId} (hcall:∀ (b:Nat) (w:World),w.cell? ⟨b,0,none⟩=some (.pointer none)→w.shape? b=some (e,2)→w.frozen? ⟨b,0,none⟩=false→Calls P f #[.pointer (some ⟨b,0,none⟩)] w fun e w'=>e=.returned (.tuple #[])∧w'=w.setCell ⟨b,0,none⟩ (.pointer (some ⟨b,0,none⟩))) (hfn:FnOk P f) {id nx:Nat} {H:Heap} {x:AV} (hid:lkH H id=.cells e [.nilp,x]) :
  CallSem P f [.ptr id 0] H nx [id] (fun r=>r=⟨.tup [],[id],[(id,.cells e [.ptr id 0,x])],nx⟩):=by
 refine ⟨hfn,fun m S w H₂ vs hG ht _ hlen hrel=>?_⟩
 have ht':=ht id (by simp)
 obtain ⟨g,cs,u,v,hm,hg,rfl,_,hx1,hu,hv⟩:=bld_cells hG ht' hid
 have hlive:(lkH H₂ id).live=true:=by rw [ht',hid];rfl
 have hnS:∀ k,S k→k≠g:=fun k hk e=>(hG.ro k hk).2 id _ hlive hm (by rw [e];rfl)
 match vs,hlen with
 | [q],_ =>
  have hq:q=.pointer (some ⟨g,0,none⟩):=by
   have:=hrel 0 q _ rfl rfl
   cases this with
   | t _ _ h=>cases h
   | ptr _ _ g' hm'=>rw [hm] at hm';cases hm';rfl
  have hu0:u=.pointer none:=by
   cases hu with
   | t _ _ h=>cases h;rfl
  subst hq
  subst hu0
  have h0:w.cell? ⟨g,0,none⟩=some (.pointer none):=by rw [Lib.cell_of_heap hg];rfl
  refine (hcall g w h0 (by simp [World.shape?,hg]) (Lib.frozen_of_heap hg 0)).mono ?_
  rintro _ w' ⟨rfl,rfl⟩
  have hg':(w.setCell ⟨g,0,none⟩ (.pointer (some ⟨g,0,none⟩))).heap[g]?=some (.cells #[.pointer (some ⟨g,0,none⟩),v] e (0,0)):=by
   simp [World.setCell,Array.getElem?_modify,hg]
  have hother:∀ k,k≠g→(w.setCell ⟨g,0,none⟩ (.pointer (some ⟨g,0,none⟩))).heap[k]?=w.heap[k]?:=fun k hk=>RowKit.Below.heap_setCell w ⟨g,0,none⟩ _ k hk
  refine ⟨_,_,m,S,rfl,rfl,ext_upd (k0:=g) hG hlive hm rfl _ _ rfl rfl rfl (by simp [World.setCell]) (fun k _ hk=>hother k hk) ⟨g,_,hm,hg',rfl,?_,?_⟩,.t _ _ (.tup #[] [] rfl (fun j c a hj=>by simp at hj))⟩
  ·intro a ha
   simp at ha
   rcases ha with rfl | rfl
   ·rfl
   ·exact hx1
  ·intro j c a hj ha
   match j,hj,ha with
   | 0,hj,ha=>simp at hj ha;subst hj;subst ha;exact .ptr id 0 g hm
   | 1,hj,ha=>simp at hj ha;subst hj;subst ha;exact hv.mono (fun _ _ h=>h) (fun _ h=>h) (fun k hk=>hother k (hnS k hk))
theorem callio_one [Tabs] {P:Program} {f:FuncId} {avs args:List AV} {H:Heap} {nx:Nat} {bs b0:List AB} {r0:List AR} (hc:AIO P f args bs (fun b rs=>b=b0∧rs=r0)) (ids t:List Nat) (hnd:nodupB ids=true) (hlive:livesB bs=true) (hso:sameObjs H ids bs)
  (hb:BorL (BorIO H ids) avs args t) (hdis:disjB t ids=true) (hflat:t=[]∨((∀ r∈r0,r.flat)∧∀ x∈b0,AR.flat (.new x))) :
  CallSem P f avs H nx (ids++t) (fun r=>r=⟨valR (tv r0 nx),ids++t,tw r0 nx++zipH ids b0,tn r0 nx⟩):=by
 have h:=callio_sem (nx:=nx) hc ids t hnd hlive hso hb hdis (by
  rcases hflat with h | h
  ·exact .inl h
  ·exact .inr fun b rs hr=>by obtain ⟨rfl,rfl⟩:=hr;exact h)
 have e:(fun r:Res=>∃ b rs,(b=b0∧rs=r0)∧r=⟨valR (tv rs nx),ids++t,tw rs nx++zipH ids b,tn rs nx⟩)=(fun r=>r=⟨valR (tv r0 nx),ids++t,tw r0 nx++zipH ids b0,tn r0 nx⟩):=by
  funext r
  apply propext
  constructor
  ·rintro ⟨b,rs,⟨rfl,rfl⟩,rfl⟩
   rfl
  ·rintro rfl
   exact ⟨b0,r0,⟨rfl,rfl⟩,rfl⟩
 rw [e] at h
 exact h
inductive ObjEq:AB→AB→Prop
 | refl (b:AB):ObjEq b b
 | smap {V W:Type} (ev:V→AV) (dv:V) (es:List (List UInt8×V)) (ev':W→AV) (dv':W) (es':List (List UInt8×W)) (h:es=[]) (h':es'=[]):ObjEq (.smap ev dv es) (.smap ev' dv' es')
 | imap {V W:Type} (k:IntKind) (ev:V→AV) (dv:V) (es:List (Int×V)) (ev':W→AV) (dv':W) (es':List (Int×W)) (h:es=[]) (h':es'=[]):ObjEq (.imap k ev dv es) (.imap k ev' dv' es')
 | newimap {V W:Type} (k:IntKind) (ev:V→AV) (dv:V) (es:List (List UInt8×V)) (ev':W→AV) (dv':W) (es':List (Int×W)) (h:es=[]) (h':es'=[]):ObjEq (.smap ev dv es) (.imap k ev' dv' es')
 | newsmap {V W:Type} (k:IntKind) (ev:V→AV) (dv:V) (es:List (List UInt8×V)) (ev':W→AV) (dv':W) (es':List (Int×W)) (h:es=[]) (h':es'=[]):ObjEq (.imap k ev' dv' es') (.smap ev dv es)
 | newgmap {V W:Type} (k:List KK) (ev:V→AV) (dv:V) (es:List (List UInt8×V)) (ev':W→AV) (dv':W) (es':List (List KV×W)) (h:es=[]) (h':es'=[]):ObjEq (.smap ev dv es) (.gmap k ev' dv' es')
 | gnewsmap {V W:Type} (k:List KK) (ev:V→AV) (dv:V) (es:List (List UInt8×V)) (ev':W→AV) (dv':W) (es':List (List KV×W)) (h:es=[]) (h':es'=[]):ObjEq (.gmap k ev' dv' es') (.smap ev dv es)
theorem ObjEq.symm {a b:AB} (h:ObjEq a b):ObjEq b a:=by
 cases h with
 | refl=>exact .refl _
 | smap ev dv es ev' dv' es' h h'=>exact .smap _ _ _ _ _ _ h' h
 | imap k ev dv es ev' dv' es' h h'=>exact .imap _ _ _ _ _ _ _ h' h
 | newimap k ev dv es ev' dv' es' h h'=>exact .newsmap _ _ _ _ _ _ _ h h'
 | newsmap k ev dv es ev' dv' es' h h'=>exact .newimap _ _ _ _ _ _ _ h h'
 | newgmap k ev dv es ev' dv' es' h h'=>exact .gnewsmap _ _ _ _ _ _ _ h h'
 | gnewsmap k ev dv es ev' dv' es' h h'=>exact .newgmap _ _ _ _ _ _ _ h h'
theorem ObjEq.live {a b:AB} (h:ObjEq a b):a.live=b.live:=by cases h<;>rfl
theorem zt26 {p:Prop}(h:p:=by
 subst h;subst h'
 obtain ⟨r,en,c,h1,h2,h3,h4,_⟩:=hr
 exact ⟨r,en,c,h1,h2,h3,h4,fun j x p _ hp=>by simp at hp⟩):p:=h
theorem ObjEq.rel {a b:AB} (h:ObjEq a b) {m:Ids} {S:Blocks} {w:World} {id:Nat} (hr:RelB m S w id a):RelB m S w id b:=by
 cases h with
 | refl=>exact hr
 | smap ev dv es ev' dv' es' h h' =>
  exact zt26
 | imap k ev dv es ev' dv' es' h h' =>
  exact zt26
 | newimap k ev dv es ev' dv' es' h h' =>
  exact zt26
 | newsmap k ev dv es ev' dv' es' h h' =>
  exact zt26
 | newgmap k ev dv es ev' dv' es' h h' =>
  exact zt26
 | gnewsmap k ev dv es ev' dv' es' h h' =>
  exact zt26
def HeapEq (H H':Heap):Prop:=∀ id,ObjEq (lkH H id) (lkH H' id)
theorem HeapEq.symm {H H':Heap} (h:HeapEq H H'):HeapEq H' H:=fun id=>(h id).symm
theorem HeapEq.app {H H':Heap} (h:HeapEq H H'):∀ A:Heap,HeapEq (A++H) (A++H')
 | [],id=>h id
 | (i,b)::A,id=>by
  show ObjEq (lkH ((i,b)::(A++H)) id) (lkH ((i,b)::(A++H')) id)
  rw [lkH_cons,lkH_cons]
  split
  ·exact .refl _
  ·exact h.app A id
theorem HeapEq.good [Tabs] {H H':Heap} (h:HeapEq H H') {m:Ids} {S:Blocks} {w:World} (hg:Good m S w H):Good m S w H' :=
 ⟨fun id=>(h id).rel (hg.rel id),fun i j vi vj k hi hj=>hg.sep i j vi vj k (by rw [(h i).live];exact hi) (by rw [(h j).live];exact hj),fun g hgg=>⟨(hg.ro g hgg).1,fun i v hl=>(hg.ro g hgg).2 i v (by rw [(h i).live];exact hl)⟩,hg.tab⟩
theorem HeapEq.own {H H':Heap} (h:HeapEq H H') {m:Ids} {k:Nat} (ho:Own.own m H k):Own.own m H' k:=by
 obtain ⟨i,v,hl,h1,h2⟩:=ho
 exact ⟨i,v,by rw [← (h i).live];exact hl,h1,h2⟩
theorem HeapEq.ext [Tabs] {H H':Heap} (h:HeapEq H H') {m:Ids} {S:Blocks} {w:World} {nx nx':Nat} {m':Ids} {S':Blocks} {w':World} {A:Heap} (hE:Ext m S w H nx nx' m' S' w' (A++H)):Ext m S w H' nx nx' m' S' w' (A++H'):=by
 refine ⟨hE.ids,hE.same,hE.ros,fun g hg=>?_,⟨hE.far.os,hE.far.tape,hE.far.output,hE.far.size,fun k hk hn=>hE.far.block k hk fun ho=>hn (h.own ho)⟩,fun k hk=>?_,(h.app A).good hE.good⟩
 ·rcases hE.fresh g hg with h1 | h1 | h1
  ·exact .inl h1
  ·exact .inr (.inl (h.own h1))
  ·exact .inr (.inr h1)
 ·rcases hE.owns k ((h.app A).symm.own hk) with h1 | h1
  ·exact .inl (h.own h1)
  ·exact .inr h1
theorem callSemX_made [Tabs] {P:Program} {f:FuncId} {avs:List AV} {H H':Heap} {nx:Nat} {t:List Nat} {Rr:Res→Prop} {Px:List PanicEntry→Prop} (h:CallSemX P f avs H' nx t Rr Px) (he:∀ id∈t,ObjEq (lkH H id) (lkH H' id)):CallSemX P f avs H nx t Rr Px:=by
 refine ⟨h.1,fun m S w H₂ vs hG ht hf hl hv=>?_⟩
 have hq:HeapEq H₂ (restr H' t++H₂):=fun id=>by
  by_cases hi:id∈t
  ·rw [lkH_restr_app' hi,ht id hi]
   exact he id hi
  ·rw [lkH_restr_app hi]
   exact .refl _
 refine (h.2 m S w (restr H' t++H₂) vs (hq.good hG) (fun id hi=>lkH_restr_app' hi) hf hl hv).mono ?_
 rintro e w' (⟨v,r,m',S',h1,h2,hE,h4⟩ | ⟨ch,m',S',wr,h1,h2,hE⟩)
 ·exact .inl ⟨v,r,m',S',h1,h2,hq.symm.ext hE,h4⟩
 ·exact .inr ⟨ch,m',S',wr,h1,h2,hq.symm.ext hE⟩
theorem CallSemX.calm [Tabs] {P:Program} {f:FuncId} {avs:List AV} {H:Heap} {nx:Nat} {t:List Nat} {Rr:Res→Prop} {Px:List PanicEntry→Prop} (h:CallSemX P f avs H nx t Rr Px) (hp:∀ ch,¬ Px ch):CallSem P f avs H nx t Rr:=by
 refine ⟨h.1,fun m S w H₂ vs hG ht hf hl hv=>(h.2 m S w H₂ vs hG ht hf hl hv).mono ?_⟩
 rintro e w' (h | ⟨ch,m',S',wr,h1,h2,hE⟩)
 ·exact h
 ·exact (hp ch h2).elim
theorem CallSem.toX [Tabs] {P:Program} {f:FuncId} {avs:List AV} {H:Heap} {nx:Nat} {t:List Nat} {Rr:Res→Prop} {Px:List PanicEntry→Prop} (h:CallSem P f avs H nx t Rr):CallSemX P f avs H nx t Rr Px :=
 ⟨h.1,fun m S w H₂ vs hG ht hf hl hv=>(h.2 m S w H₂ vs hG ht hf hl hv).mono fun _ _ h=>.inl h⟩
theorem CallSemX.mono [Tabs] {P:Program} {f:FuncId} {avs:List AV} {H:Heap} {nx:Nat} {t:List Nat} {Rr Rr':Res→Prop} {Px Px':List PanicEntry→Prop} (h:CallSemX P f avs H nx t Rr Px) (hr:∀ r,Rr r→Rr' r) (hp:∀ ch,Px ch→Px' ch):CallSemX P f avs H nx t Rr' Px' :=
 ⟨h.1,fun m S w H₂ vs hG ht hf hl hv=>(h.2 m S w H₂ vs hG ht (fun i hi ⟨r,h1,h2⟩=>hf i hi ⟨r,hr r h1,h2⟩) hl hv).mono fun _ _ h=>h.imp (fun ⟨v,r,m',S',h1,h2,h3⟩=>⟨v,r,m',S',h1,hr r h2,h3⟩) fun ⟨ch,m',S',wr,h1,h2,h3⟩=>⟨ch,m',S',wr,h1,hp ch h2,h3⟩⟩
def rnI:List Nat→Nat→Nat→Nat
 | [],nx,i=>nx+i
 | a::_,_,0=>a
 | _::l,nx,i+1=>rnI l nx i
theorem rnI_lt:∀ {ids:List Nat} {nx i:Nat},i<ids.length→ids[i]?=some (rnI ids nx i)
 | [],_,_,h=>by simp at h
 | _::_,_,0,_=>rfl
 | _::l,nx,i+1,h=>by
  rw [List.getElem?_cons_succ]
  exact rnI_lt zp19
theorem rnI_ge:∀ {ids:List Nat} {nx i:Nat},ids.length≤i→rnI ids nx i=nx+(i-ids.length)
 | [],nx,i,_=>by simp [rnI]
 | _::l,nx,0,h=>by simp at h
 | _::l,nx,i+1,h=>by
  rw [rnI,rnI_ge zp19]
  simp
theorem rnI_inj {ids:List Nat} {nx i j:Nat} (hn:ids.Nodup) (hlt:∀ x∈ids,x<nx) (h:rnI ids nx i=rnI ids nx j):i=j:=by
 by_cases hi:i<ids.length<;>by_cases hj:j<ids.length
 ·have h1:=rnI_lt (nx:=nx) hi
  have h2:=rnI_lt (nx:=nx) hj
  rw [h] at h1
  rw [List.getElem?_eq_getElem hi] at h1
  rw [List.getElem?_eq_getElem hj] at h2
  simp only [Option.some.injEq] at h1 h2
  exact (List.getElem_inj hn).1 (h1.trans h2.symm)
 ·have h1:=hlt _ (List.mem_of_getElem? (rnI_lt (nx:=nx) hi))
  rw [rnI_ge (i:=j) (by omega)] at h
  omega
 ·have h1:=hlt _ (List.mem_of_getElem? (rnI_lt (nx:=nx) hj))
  rw [rnI_ge (i:=i) (by omega)] at h
  omega
 ·rw [rnI_ge (i:=i) (by omega),rnI_ge (i:=j) (by omega)] at h
  omega
def renA0 (σ:Nat→Nat):AV→AV
 | .ptr i o=>.ptr (σ i) o
 | .eptr i E j o=>.eptr (σ i) E j o
 | .own i=>.own (σ i)
 | .pre i l=>.pre (σ i) l
 | .part i E o l=>.part (σ i) E o l
 | .map i=>.map (σ i)
 | .qptr i E j=>.qptr (σ i) E j
 | .csl i n=>.csl (σ i) n
 | a=>a
def renA (σ:Nat→Nat):AV→AV
 | .agg l=>.agg (l.map (renA0 σ))
 | .tup l=>.tup (l.map (renA0 σ))
 | .fn f l l'=>.fn f (l.map (renA0 σ)) (l'.map (renA0 σ))
 | a=>renA0 σ a
def renB (σ:Nat→Nat):AB→AB
 | .cells e l=>.cells e (l.map (renA σ))
 | b=>b
theorem renB_live (σ:Nat→Nat) (b:AB):(renB σ b).live=b.live:=by cases b<;>rfl
theorem renA_one (σ:Nat→Nat) (a:AV):(renA σ a).one=a.one:=by cases a<;>rfl
theorem relV_ren0 {m m2:Ids} {S:Blocks} {w:World} {v:Value} {a:AV} {σ:Nat→Nat} {t:List Nat} (h:RelV m S w v a) (ho:okA0 t a=true) (hm:∀ i∈t,∀ u,m i=some u→m2 (σ i)=some u):RelV m2 S w v (renA0 σ a):=by
 cases a with
 | ptr i o=>cases h with | t _ _ h=>cases h | ptr _ _ g hi=>exact .ptr _ o g (hm i (okI_spec ho) _ hi)
 | eptr i E j o=>cases h with | t _ _ h=>cases h | eptr _ _ _ _ g n c hi=>exact .eptr _ E j o g n c (hm i (okI_spec ho) _ hi)
 | own i=>cases h with | t _ _ h=>cases h | own _ n c a hi=>exact .own _ n c a (hm i (okI_spec ho) _ hi)
 | pre i l=>cases h with | t _ _ h=>cases h | pre _ _ n c a hi hle=>exact .pre _ l n c a (hm i (okI_spec ho) _ hi) hle
 | part i E o l=>cases h with
  | t _ _ h=>cases h
  | part _ _ _ _ g n cap c hi hle hc=>exact .part _ E o l g n cap c (hm i (okI_spec ho) _ hi) hle hc
  | partE _ _ _ c g n cap hi=>exact .partE _ E o c g n cap (hm i (okI_spec ho) _ hi)
  | partN=>exact .partN _ E o
 | map i=>cases h with | t _ _ h=>cases h | map _ r hi=>exact .map _ r (hm i (okI_spec ho) _ hi)
 | qptr i E j=>cases h with | t _ _ h=>cases h | qptr _ _ _ g o n c hi=>exact .qptr _ E j g o n c (hm i (okI_spec ho) _ hi)
 | csl i n=>cases h with | t _ _ h=>cases h | csl _ _ g hi=>exact .csl _ n g (hm i (okI_spec ho) _ hi)
 | _=>exact .t _ _ (h.toT1 ho)
theorem relV_unren0 {m m2:Ids} {S:Blocks} {w:World} {v:Value} {a:AV} {σ:Nat→Nat} {t:List Nat} (h:RelV m2 S w v (renA0 σ a)) (ho:okA0 t a=true) (hm:∀ i∈t,∀ u,m2 (σ i)=some u→m i=some u):RelV m S w v a:=by
 cases a with
 | ptr i o=>cases h with | t _ _ h=>cases h | ptr _ _ g hi=>exact .ptr _ o g (hm i (okI_spec ho) _ hi)
 | eptr i E j o=>cases h with | t _ _ h=>cases h | eptr _ _ _ _ g n c hi=>exact .eptr _ E j o g n c (hm i (okI_spec ho) _ hi)
 | own i=>cases h with | t _ _ h=>cases h | own _ n c a hi=>exact .own _ n c a (hm i (okI_spec ho) _ hi)
 | pre i l=>cases h with | t _ _ h=>cases h | pre _ _ n c a hi hle=>exact .pre _ l n c a (hm i (okI_spec ho) _ hi) hle
 | part i E o l=>cases h with
  | t _ _ h=>cases h
  | part _ _ _ _ g n cap c hi hle hc=>exact .part _ E o l g n cap c (hm i (okI_spec ho) _ hi) hle hc
  | partE _ _ _ c g n cap hi=>exact .partE _ E o c g n cap (hm i (okI_spec ho) _ hi)
  | partN=>exact .partN _ E o
 | map i=>cases h with | t _ _ h=>cases h | map _ r hi=>exact .map _ r (hm i (okI_spec ho) _ hi)
 | qptr i E j=>cases h with | t _ _ h=>cases h | qptr _ _ _ g o n c hi=>exact .qptr _ E j g o n c (hm i (okI_spec ho) _ hi)
 | csl i n=>cases h with | t _ _ h=>cases h | csl _ _ g hi=>exact .csl _ n g (hm i (okI_spec ho) _ hi)
 | _=>exact .t _ _ (RelV.toT1 (m:=m2) h ho)
theorem map_get {α β:Type _} {f:α→β} {l:List α} {j:Nat} {b:β} (h:(l.map f)[j]?=some b):∃ a,l[j]?=some a∧f a=b:=by
 rw [List.getElem?_map,Option.map_eq_some_iff] at h
 exact h
theorem zt47 {p:Prop}(h:p:=by
 have ho':l.all (okA0 t)=true∧l'.all (okA0 t)=true:=by
  have:(l.all (okA0 t)&&l'.all (okA0 t))=true:=ho
  simpa only [Bool.and_eq_true] using this
 obtain ⟨fs,cs,rfl,hl,hl',r1,r2⟩:=relV_fn h
 exact .fn f fs cs _ _ zp40 (by simpa using hl') (each l fs ho'.1 r1) (each l' cs ho'.2 r2)):p:=h
theorem zt78 {p:Prop}(h:p:=by
 cases h with
 | t _ _ h=>cases h with
  | tup cs _ hl hr=>exact .tup cs _ zp40 (each l cs ho fun j c a p q=>.t _ _ (hr j c a p q))
 | tup cs _ hl hr=>exact .tup cs _ zp40 (each l cs ho hr)):p:=h
theorem zt178 {p:Prop}(h:p:=by
 obtain ⟨cs,rfl,hl,hr⟩:=relV_agg h
 exact .agg cs _ zp40 (each l cs ho hr)):p:=h
theorem relV_ren {m m2:Ids} {S:Blocks} {w:World} {v:Value} {a:AV} {σ:Nat→Nat} {t:List Nat} (h:RelV m S w v a) (ho:okA t a=true) (hm:∀ i∈t,∀ u,m i=some u→m2 (σ i)=some u):RelV m2 S w v (renA σ a):=by
 have each:∀ (l:List AV) (cs:Array Value),l.all (okA0 t)=true→(∀ (j:Nat) (c:Value) (a:AV),cs[j]?=some c→l[j]?=some a→RelV m S w c a)→∀ (j:Nat) (c:Value) (a:AV),cs[j]?=some c→(l.map (renA0 σ))[j]?=some a→RelV m2 S w c a:=by
  intro l cs ho hr j c a hj ha
  obtain ⟨a0,h0,rfl⟩:=map_get ha
  exact relV_ren0 (hr j c a0 hj h0) (List.all_eq_true.1 ho a0 (List.mem_of_getElem? h0)) hm
 cases a with
 | agg l =>
  exact zt178
 | tup l =>
  exact zt78
 | fn f l l' =>
  exact zt47
 | _=>exact relV_ren0 h ho hm
theorem relV_unren {m m2:Ids} {S:Blocks} {w:World} {v:Value} {a:AV} {σ:Nat→Nat} {t:List Nat} (h:RelV m2 S w v (renA σ a)) (ho:okA t a=true) (hm:∀ i∈t,∀ u,m2 (σ i)=some u→m i=some u):RelV m S w v a:=by
 have each:∀ (l:List AV) (cs:Array Value),l.all (okA0 t)=true→(∀ (j:Nat) (c:Value) (a:AV),cs[j]?=some c→(l.map (renA0 σ))[j]?=some a→RelV m2 S w c a)→∀ (j:Nat) (c:Value) (a:AV),cs[j]?=some c→l[j]?=some a→RelV m S w c a:=by
  intro l cs ho hr j c a hj ha
  exact relV_unren0 (hr j c _ hj (by rw [List.getElem?_map,ha];rfl)) (List.all_eq_true.1 ho a (List.mem_of_getElem? ha)) hm
 cases a with
 | agg l =>
  exact zt178
 | tup l =>
  exact zt78
 | fn f l l' =>
  exact zt47
 | _=>exact relV_unren0 h ho hm
theorem relB_ren {m m2:Ids} {S:Blocks} {w:World} {id:Nat} {b:AB} {σ:Nat→Nat} {t:List Nat} (h:RelB m S w id b) (ho:okB t b=true) (hid:id∈t) (hm:∀ i∈t,∀ u,m i=some u→m2 (σ i)=some u):RelB m2 S w (σ id) (renB σ b):=by
 cases b with
 | dead=>trivial
 | cells e l =>
  have hall:=List.all_eq_true.1 (show l.all (okA t)=true from ho)
  obtain ⟨g,cs,hmi,hg,hl,h1,hr⟩:=h
  refine ⟨g,cs,hm _ hid _ hmi,hg,by simpa using hl,fun a ha=>?_,fun j c a p q=>?_⟩
  ·obtain ⟨a0,h0,rfl⟩:=List.mem_map.1 ha
   rw [renA_one]
   exact h1 a0 h0
  ·obtain ⟨a0,h0,rfl⟩:=map_get q
   exact relV_ren (hr j c a0 p h0) (hall a0 (List.mem_of_getElem? h0)) hm
 | lst e E l=>obtain ⟨v,vs,hmi,hr⟩:=h;exact ⟨v,vs,hm _ hid _ hmi,hr⟩
 | row e E enc d xs=>obtain ⟨v,vs,hmi,hr⟩:=h;exact ⟨v,vs,hm _ hid _ hmi,hr⟩
 | smap ev dv es=>obtain ⟨r,en,c,hmi,hr⟩:=h;exact ⟨r,en,c,hm _ hid _ hmi,hr⟩
 | imap k ev dv es=>obtain ⟨r,en,c,hmi,hr⟩:=h;exact ⟨r,en,c,hm _ hid _ hmi,hr⟩
 | gmap k ev dv es=>obtain ⟨r,en,c,hmi,hr⟩:=h;exact ⟨r,en,c,hm _ hid _ hmi,hr⟩
 | arr e k n f=>obtain ⟨g,cs,hmi,hr⟩:=h;exact ⟨g,cs,hm _ hid _ hmi,hr⟩
 | que e E enc d xs=>obtain ⟨g,o,c,cur,hmi,hr⟩:=h;exact ⟨g,o,c,cur,hm _ hid _ hmi,hr⟩
theorem relB_unren {m m2:Ids} {S:Blocks} {w:World} {id:Nat} {b:AB} {σ:Nat→Nat} {t:List Nat} (h:RelB m2 S w (σ id) (renB σ b)) (ho:okB t b=true) (hid:id∈t) (hm:∀ i∈t,∀ u,m2 (σ i)=some u→m i=some u):RelB m S w id b:=by
 cases b with
 | dead=>trivial
 | cells e l =>
  have hall:=List.all_eq_true.1 (show l.all (okA t)=true from ho)
  obtain ⟨g,cs,hmi,hg,hl,h1,hr⟩:=h
  refine ⟨g,cs,hm _ hid _ hmi,hg,by simpa using hl,fun a ha=>?_,fun j c a p q=>?_⟩
  ·have:=h1 (renA σ a) (List.mem_map_of_mem ha)
   rwa [renA_one] at this
  ·exact relV_unren (hr j c _ p (by rw [List.getElem?_map,q];rfl)) (hall a (List.mem_of_getElem? q)) hm
 | lst e E l=>obtain ⟨v,vs,hmi,hr⟩:=h;exact ⟨v,vs,hm _ hid _ hmi,hr⟩
 | row e E enc d xs=>obtain ⟨v,vs,hmi,hr⟩:=h;exact ⟨v,vs,hm _ hid _ hmi,hr⟩
 | smap ev dv es=>obtain ⟨r,en,c,hmi,hr⟩:=h;exact ⟨r,en,c,hm _ hid _ hmi,hr⟩
 | imap k ev dv es=>obtain ⟨r,en,c,hmi,hr⟩:=h;exact ⟨r,en,c,hm _ hid _ hmi,hr⟩
 | gmap k ev dv es=>obtain ⟨r,en,c,hmi,hr⟩:=h;exact ⟨r,en,c,hm _ hid _ hmi,hr⟩
 | arr e k n f=>obtain ⟨g,cs,hmi,hr⟩:=h;exact ⟨g,cs,hm _ hid _ hmi,hr⟩
 | que e E enc d xs=>obtain ⟨g,o,c,cur,hmi,hr⟩:=h;exact ⟨g,o,c,cur,hm _ hid _ hmi,hr⟩
def rowH:Nat→List AB→Heap
 | _,[]=>[]
 | n,b::l=>(n,b)::rowH (n+1) l
def objsOf (H:Heap):Nat→Nat→List AB
 | _,0=>[]
 | a,k+1=>lkH H a::objsOf H (a+1) k
theorem objsOf_len (H:Heap):∀ (k a:Nat),(objsOf H a k).length=k
 | 0,_=>rfl
 | k+1,a=>by simp [objsOf,objsOf_len H k]
theorem objsOf_get (H:Heap):∀ (k a i:Nat),i<k→(objsOf H a k).getD i .dead=lkH H (a+i)
 | 0,_,i,h=>by omega
 | k+1,a,0,_=>by simp [objsOf]
 | k+1,a,i+1,h=>by
  rw [objsOf,List.getD_cons_succ,objsOf_get H k (a+1) i (by omega)]
  congr 1
  omega
theorem lkH_num_at:∀ (bs:List AB) (n:Nat) (H:Heap) (i:Nat),i<bs.length→lkH (rowH n bs++H) (n+i)=bs.getD i .dead
 | [],_,_,i,h=>by simp at h
 | b::bs,n,H,0,_=>by
  show lkH ((n,b)::(rowH (n+1) bs++H)) (n+0)=_
  rw [lkH_cons,if_pos (by omega)]
  simp
 | b::bs,n,H,i+1,h=>by
  show lkH ((n,b)::(rowH (n+1) bs++H)) (n+(i+1))=_
  rw [lkH_cons,if_neg (by omega),List.getD_cons_succ,← lkH_num_at bs (n+1) H i zp19]
  congr 1
  omega
theorem lkH_num_no:∀ (bs:List AB) (n:Nat) (H:Heap) (j:Nat),¬ (n≤j∧j<n+bs.length)→lkH (rowH n bs++H) j=lkH H j
 | [],_,_,_,_=>rfl
 | b::bs,n,H,j,h=>by
  show lkH ((n,b)::(rowH (n+1) bs++H)) j=_
  simp only [List.length_cons] at h
  rw [lkH_cons,if_neg (by omega)]
  exact lkH_num_no bs (n+1) H j (by omega)
theorem getD_map_ab (f:AB→AB) (hf:f .dead=.dead) (l:List AB) (i:Nat):(l.map f).getD i .dead=f (l.getD i .dead):=by
 simp only [List.getD,List.getElem?_map]
 cases l[i]?<;>simp [hf]
def RioR (R:List AV→List AB→List AB→Prop) (p:Nat) (ids:List Nat) (nx:Nat):Res→Prop:=fun r =>
 ∃ vs bs es,R vs bs es∧bs.length=(ids.take p).length∧r=⟨valR (vs.map (renA (rnI (ids.take p) nx))),ids,zipH (ids.take p) (bs.map (renB (rnI (ids.take p) nx)))++deads (ids.drop p) (rowH nx (es.map (renB (rnI (ids.take p) nx)))),nx+es.length⟩
def RIO [Tabs] (P:Program) (f:FuncId) (avs:List AV) (objs:List AB) (p:Nat) (R:List AV→List AB→List AB→Prop):Prop :=
 ∀ (H:Heap) (nx:Nat) (ids:List Nat),ids.length=objs.length→ids.Nodup→(∀ i∈ids,i<nx)→(∀ k id,ids[k]?=some id→ObjEq (lkH H id) (renB (rnI ids nx) (objs.getD k .dead))) →
  CallSem P f (avs.map (renA (rnI ids nx))) H nx ids (RioR R p ids nx)
def RIOX [Tabs] (P:Program) (f:FuncId) (avs:List AV) (objs:List AB) (p:Nat) (R:List AV→List AB→List AB→Prop) (Px:List PanicEntry→Prop):Prop :=
 ∀ (H:Heap) (nx:Nat) (ids:List Nat),ids.length=objs.length→ids.Nodup→(∀ i∈ids,i<nx)→(∀ k id,ids[k]?=some id→ObjEq (lkH H id) (renB (rnI ids nx) (objs.getD k .dead))) →
  CallSemX P f (avs.map (renA (rnI ids nx))) H nx ids (RioR R p ids nx) Px
theorem lkH_deads_app:∀ (ids:List Nat) (H H₂:Heap),deads ids H++H₂=deads ids (H++H₂)
 | [],_,_=>rfl
 | i::l,H,H₂=>by
  show (i,AB.dead)::(deads l H++H₂)=_
  rw [lkH_deads_app l H H₂]
  rfl
def endR (T:Tab) (n:Nat) (rs:List ResultVar) (R:List AV→List AB→List AB→Prop) (st:St):Prop :=
 Nat.ble n st.nx=true∧allB ((List.range st.nx).map fun i=>okB (List.range st.nx) (lkH st.heap i))=true ∧
  resI T st.env st.heap st.nx rs [] fun vs=>allB (vs.map (okA (List.range st.nx)))=true∧R vs (objsOf st.heap 0 n) (objsOf st.heap n (st.nx-n))
def retR [Tabs] (T:Tab) (pn N n:Nat) (rs:Array ResultVar) (R:List AV→List AB→List AB→Prop):Exit→St→Prop
 | .normal,st=>∃ st',Wk pn N st st'∧endR T n rs.toList R st'
 | .ret,st=>∃ st',Wk pn N st st'∧endR T n rs.toList R st'
 | _,_=>False
theorem riox_of [Tabs] {C : Cx} (hT : CxOk C) {f : FuncId} {fn : Func} {code : Code} {avs : List AV} {objs : List AB} {R : List AV → List AB → List AB → Prop} (hf : C.P.funcs[f]? = some fn) (hb : fn.body = some code) (hname : (fn.name == "runtime.NumGoroutine") = false)
  (hN:C.N=fn.ntmps) (hle:avs.length≤fn.ntmps) (hres:fn.results.size≤4)
  (hobj:allB (objs.map fun b=>b.live&&okB (List.range objs.length) b)=true) (hpn:Nat.ble C.pn objs.length=true) (hav:allB (avs.map (okA (List.range objs.length)))=true)
  (h:evCode C code ⟨argEnv avs 0,rowH 0 objs,objs.length⟩ (retR C.T C.pn C.N C.pn fn.results R)):RIOX C.P f avs objs C.pn R C.px:=by
 intro H nx ids hil hnd hlt hob
 have hpn:=Nat.le_of_ble_eq_true hpn
 refine callSemX_made (H':=zipH ids (objs.map (renB (rnI ids nx)))) ?_ (fun id hid=>?_)
 rotate_left
 ·obtain ⟨k,hk⟩:=List.getElem?_of_mem hid
  have:=lkH_zip_at (H:=[]) (bs:=objs.map (renB (rnI ids nx))) (by simpa using hil) hnd hk
  rw [List.append_nil] at this
  rw [this,getD_map_ab _ rfl]
  exact hob k id hk
 generalize hσd:rnI ids nx=σ
 generalize hτd:rnI (ids.take C.pn) nx=τ
 generalize hpd:C.pn=p at *
 generalize hnd':objs.length=n at *
 have htl:(ids.take p).length=p:=by rw [List.length_take];omega
 have hτ1:∀ i,i<p→(ids.take p)[i]?=some (τ i):=fun i hi=>by rw [← hτd];exact rnI_lt (by omega)
 have hτ2:∀ i,p≤i→τ i=nx+(i-p):=fun i hi=>by rw [← hτd,rnI_ge (by omega),htl]
 have hndt:(ids.take p).Nodup:=hnd.sublist (List.take_sublist _ _)
 have hltt:∀ i∈ids.take p,i<nx:=fun i hi=>hlt i (List.mem_of_mem_take hi)
 have hinjt:∀ i j,τ i=τ j→i=j:=fun i j e=>rnI_inj hndt hltt (by rw [hτd];exact e)
 have hσ1:∀ i,i<n→ids[i]?=some (σ i):=fun i hi=>by rw [← hσd];exact rnI_lt (by omega)
 have hσ2:∀ i,n≤i→σ i=nx+(i-n):=fun i hi=>by rw [← hσd,rnI_ge (by omega),hil]
 have hinj:∀ i j,σ i=σ j→i=j:=fun i j e=>rnI_inj hnd hlt (by rw [hσd];exact e)
 have hσl:∀ i,i<n→σ i∈ids∧σ i<nx:=fun i hi=>⟨List.mem_of_getElem? (hσ1 i hi),hlt _ (List.mem_of_getElem? (hσ1 i hi))⟩
 have hidx:∀ j∈ids,∃ i,i<n∧j=σ i:=fun j hj=>by
  obtain ⟨i,hi⟩:=List.getElem?_of_mem hj
  have hin:i<n:=by have:=(List.getElem?_eq_some_iff.1 hi).1;omega
  refine ⟨i,hin,?_⟩
  rw [hσ1 i hin] at hi
  cases hi
  rfl
 have hτσ:∀ i,i<p→τ i=σ i:=fun i hi=>by
  have h1:=hτ1 i hi
  rw [List.getElem?_take,if_pos hi,hσ1 i (by omega),Option.some.injEq] at h1
  exact h1.symm
 refine ⟨⟨fn,hf,by rw [hb];rfl,hname⟩,fun m S w H₂ vs hG ht hfree hlen hrel=>calls_of_wp hf hb ?_⟩
 have hcl:∀ i,i<n→lkH (rowH 0 objs) i=objs.getD i .dead:=fun i hi=>by
  have:=lkH_num_at objs 0 [] i (by omega)
  rwa [List.append_nil,Nat.zero_add] at this
 have hcn:∀ i,n≤i→lkH (rowH 0 objs) i=.dead:=fun i hi=>by
  have:=lkH_num_no objs 0 [] i (by omega)
  rw [List.append_nil] at this
  rw [this]
  rfl
 have ho1:∀ i,i<n→(objs.getD i .dead).live=true∧okB (List.range n) (objs.getD i .dead)=true:=fun i hi=>by
  have hm:objs.getD i .dead∈objs:=by
   have:i<objs.length:=by omega
   exact zt145
  have:=allB_spec hobj _ (List.mem_map_of_mem (f:=fun b=>b.live&&okB (List.range n) b) hm)
  simpa only [Bool.and_eq_true] using this
 have hlk:∀ i,i<n→lkH H₂ (σ i)=renB σ (lkH (rowH 0 objs) i):=fun i hi=>by
  rw [ht (σ i) (hσl i hi).1]
  have:=lkH_zip_at (H:=[]) (bs:=objs.map (renB σ)) (by simpa [hnd'] using hil) hnd (hσ1 i hi)
  rw [List.append_nil] at this
  rw [this,getD_map_ab _ rfl,hcl i hi]
 have hlv:∀ i,i<n→(lkH H₂ (σ i)).live=true:=fun i hi=>by rw [hlk i hi,renB_live,hcl i hi];exact (ho1 i hi).1
 have hmt:∀ i,i<n→∃ v,m (σ i)=some v:=fun i hi=>live_some (hG.rel _) (hlv i hi)
 let mc:Ids:=fun i=>if i<n then m (σ i) else none
 have hmc:∀ i,i<n→mc i=m (σ i):=fun i hi=>if_pos hi
 have hmn:∀ i,¬ i<n→mc i=none:=fun i hi=>if_neg hi
 have hown:∀ k,own mc (rowH 0 objs) k→∃ i,i<n∧∃ v,m (σ i)=some v∧blk v=some k:=by
  rintro k ⟨i,v,hl,hv,hk⟩
  have hi:i<n:=Classical.byContradiction fun h=>by rw [hmn i h] at hv;cases hv
  exact ⟨i,hi,v,by rw [← hmc i hi];exact hv,hk⟩
 have hGc:Good mc S w (rowH 0 objs):=by
  have up:∀ i v,(lkH (rowH 0 objs) i).live=true→mc i=some v→i<n∧m (σ i)=some v:=fun i v hl hv=>by
   have hi:i<n:=Classical.byContradiction fun h=>by rw [hmn i h] at hv;cases hv
   exact ⟨hi,by rw [← hmc i hi];exact hv⟩
  refine ⟨fun i=>?_,fun i j vi vj k hli hlj hvi hvj hki hkj=>?_,fun g hg=>⟨(hG.ro g hg).1,fun i v hl hv=>?_⟩,hG.tab⟩
  ·by_cases hi:i<n
   ·rw [hcl i hi]
    refine relB_unren (σ:=σ) (t:=List.range n) (m2:=m) (by rw [← hcl i hi,← hlk i hi];exact hG.rel (σ i)) (ho1 i hi).2 (List.mem_range.2 hi) fun j hj u hu=>by rw [hmc j (List.mem_range.1 hj)];exact hu
   ·rw [hcn i (by omega)];trivial
  ·obtain ⟨l1,e1⟩:=up i vi hli hvi
   obtain ⟨l2,e2⟩:=up j vj hlj hvj
   exact hinj i j (hG.sep _ _ vi vj k (hlv i l1) (hlv j l2) e1 e2 hki hkj)
  ·obtain ⟨l1,e1⟩:=up i v hl hv
   exact (hG.ro g hg).2 _ v (hlv i l1) e1
 let F:Fr:=⟨w,own mc (rowH 0 objs),S,fun i=>if i<p then mc i else none,[]⟩
 have hfits:F.fits p:=fun i v hi=>Classical.byContradiction fun h=>by
  have h2:(if i<p then mc i else none)=some v:=hi
  rw [if_neg h] at h2
  cases h2
 have hrel0:Rel F C.N ⟨argEnv avs 0,rowH 0 objs,n⟩ { tmps:=vs.toArray++Array.replicate (fn.ntmps-vs.toArray.size) undef,defers:=[] } w:=by
  rw [List.length_map] at hlen
  refine ⟨mc,S,⟨hGc,fun i hi=>hmn i (by have h':n≤i:=hi;omega),Far.refl _ _,fun k hk=>.inl hk,fun g hg=>.inl hg,fun g hg=>hg,fun i v hi=>by
   have h2:(if i<p then mc i else none)=some v:=hi
   split at h2
   ·exact h2
   ·cases h2⟩,by simp;omega,rfl,fun s=>?_⟩
  rw [lk_argEnv,if_pos (Nat.zero_le _),Nat.sub_zero]
  by_cases hs:s<avs.length
  ·have h1:avs[s]?=some (avs.getD s .undef):=by simp [List.getD,List.getElem?_eq_getElem hs]
   have h2:vs[s]?=some ((vs.toArray++Array.replicate (fn.ntmps-vs.toArray.size) undef).getD s undef):=by
    exact zt101
   refine relV_unren (σ:=σ) (t:=List.range n) (m2:=m) (hrel s _ _ h2 (by rw [List.getElem?_map,h1];rfl)) (allB_spec hav _ (List.mem_map_of_mem (List.mem_of_getElem? h1))) fun j hj u hu=>by rw [hmc j (List.mem_range.1 hj)];exact hu
  ·exact zt120
 refine wp_mono (evCode_sound hT (F:=F) (by rw [hpd];exact hfits) code _ _ h _ w hrel0) fun e a' w' ⟨st0,hr0,hq⟩=>?_
 have fin:∀ st',Rel F C.N st' a' w'→endR C.T p fn.results.toList R st'→a'.defers=[]∧∃ v,(results fn a'.tmps).run C.P w'=.ok v w'∧((∃ v' r m' S',Ending.returned v=.returned v'∧RioR R p ids nx r∧Ext m S w H₂ nx r.nx m' S' w' (r.wr++H₂)∧RelV m' S' w' v' r.v)∨∃ ch m' S' wr,Ending.returned v=.panicked ch∧C.px ch∧Ext m S w H₂ nx nx m' S' w' (wr++H₂)):=by
  rintro st' ⟨m',S',hc,hs,hd,hr⟩ ⟨hnx,hobjs,hq⟩
  have hnx':p≤st'.nx:=Nat.le_of_ble_eq_true hnx
  obtain ⟨K,hK⟩:∃ K,st'.nx=p+K:=⟨st'.nx-p,by omega⟩
  obtain ⟨l,⟨hl0,hR⟩,hll,hsr,hlr⟩:=resI_sound hT.tab hc.good hr _ _ _ hq
  rw [List.reverse_nil,List.nil_append] at hl0 hR
  rw [hK] at hobjs hl0 hR
  rw [Nat.add_sub_cancel_left] at hR
  have hob':∀ i,i<p+K→okB (List.range (p+K)) (lkH st'.heap i)=true:=fun i hi=>allB_spec hobjs _ (List.mem_map_of_mem (f:=fun i=>okB (List.range (p+K)) (lkH st'.heap i)) (List.mem_range.2 hi))
  let r:Res:=⟨valR (l.map (renA (rnI (ids.take p) nx))),ids,zipH (ids.take p) ((objsOf st'.heap 0 p).map (renB (rnI (ids.take p) nx)))++deads (ids.drop p) (rowH nx ((objsOf st'.heap p K).map (renB (rnI (ids.take p) nx)))),nx+(objsOf st'.heap p K).length⟩
  have hRr:RioR R p ids nx r:=⟨_,_,_,hR,by rw [objsOf_len,htl],rfl⟩
  have hrn:r.nx=nx+K:=by show nx+_=_;rw [objsOf_len]
  have hfr:∀ i,nx≤i→i<nx+K→m i=none:=fun i h1 h2=>hfree i h1 ⟨r,hRr,by rw [hrn];exact h2⟩
  let m2:Ids:=fun i=>if nx≤i∧i<nx+K then m' (p+(i-nx)) else m i
  have hm2n:∀ i,nx≤i→i<nx+K→m2 i=m' (p+(i-nx)):=fun i h1 h2=>if_pos ⟨h1,h2⟩
  have hm2o:∀ i,¬ (nx≤i∧i<nx+K)→m2 i=m i:=fun i h=>if_neg h
  have hm't:∀ i,i<p→∃ v,m (σ i)=some v∧m' i=some v∧m2 (τ i)=some v:=fun i hi=>by
   obtain ⟨v,hv⟩:=hmt i (by omega)
   refine ⟨v,hv,hc.pins i v (by show (if i<p then mc i else none)=some v;rw [if_pos hi,hmc i (by omega)];exact hv),?_⟩
   rw [hτσ i hi,hm2o _ fun h=>by have:=(hσl i (by omega)).2;omega]
   exact hv
  have hmk:∀ i∈List.range (p+K),∀ u,m' i=some u→m2 (τ i)=some u:=fun i hi u hu=>by
   have hi:=List.mem_range.1 hi
   by_cases hin:i<p
   ·obtain ⟨v,_,e1,e2⟩:=hm't i hin
    rw [e1] at hu
    cases hu
    exact e2
   ·rw [hτ2 i (by omega),hm2n _ (by omega) (by omega),show p+(nx+(i-p)-nx)=i by omega]
    exact hu
  have hkm:∀ i,i<p+K→∀ u,m2 (τ i)=some u→m' i=some u:=fun i hi u hu=>by
   by_cases hin:i<p
   ·obtain ⟨v,_,e1,e2⟩:=hm't i hin
    rw [e2] at hu
    cases hu
    exact e1
   ·rw [hτ2 i (by omega),hm2n _ (by omega) (by omega),show p+(nx+(i-p)-nx)=i by omega] at hu
    exact hu
  have hF0:∀ k,own mc (rowH 0 objs) k→own m H₂ k:=fun k hk=>by
   obtain ⟨i,h2,v,h3,h4⟩:=hown k hk
   exact ⟨σ i,v,hlv i h2,h3,h4⟩
  -- the new heap
  have hz:(ids.take p).length=((objsOf st'.heap 0 p).map (renB (rnI (ids.take p) nx))).length:=by rw [List.length_map,objsOf_len,htl]
  have hdrop:∀ j∈ids.drop p,∃ i,p≤i∧i<n∧j=σ i:=fun j hj=>by
   obtain ⟨k,hk⟩:=List.getElem?_of_mem hj
   rw [List.getElem?_drop] at hk
   have hin:p+k<n:=by have:=(List.getElem?_eq_some_iff.1 hk).1;omega
   refine ⟨p+k,by omega,hin,?_⟩
   rw [hσ1 _ hin] at hk
   cases hk
   rfl
  have htake:∀ j∈ids.take p,∃ i,i<p∧j=τ i:=fun j hj=>by
   obtain ⟨k,hk⟩:=List.getElem?_of_mem hj
   have hin:k<p:=by have:=(List.getElem?_eq_some_iff.1 hk).1;omega
   refine ⟨k,hin,?_⟩
   rw [hτ1 _ hin] at hk
   cases hk
   rfl
  have hWn:∀ i,i<p+K→lkH (r.wr++H₂) (τ i)=renB τ (lkH st'.heap i):=fun i hi=>by
   show lkH ((zipH (ids.take p) ((objsOf st'.heap 0 p).map (renB (rnI (ids.take p) nx)))++deads (ids.drop p) (rowH nx ((objsOf st'.heap p K).map (renB (rnI (ids.take p) nx)))))++H₂) (τ i)=_
   rw [List.append_assoc]
   by_cases hin:i<p
   ·rw [lkH_zip_at hz hndt (hτ1 i hin),getD_map_ab _ rfl,objsOf_get _ _ _ _ hin,Nat.zero_add,hτd]
   ·rw [lkH_zip hz (fun hm=>by
     obtain ⟨j,hj,e⟩:=htake _ hm
     have:=hinjt _ _ e
     omega),lkH_deads_app,lkH_deads,if_neg (fun hm=>by
     obtain ⟨j,_,hj,e⟩:=hdrop _ hm
     have:=(hσl j hj).2
     rw [hτ2 i (by omega)] at e
     omega),hτ2 i (by omega),lkH_num_at _ _ _ _ (by rw [List.length_map,objsOf_len];omega),getD_map_ab _ rfl,objsOf_get _ _ _ _ (by omega),hτd,show p+(i-p)=i by omega]
  have hWd:∀ j∈ids.drop p,lkH (r.wr++H₂) j=.dead:=fun j hj=>by
   show lkH ((zipH (ids.take p) ((objsOf st'.heap 0 p).map (renB (rnI (ids.take p) nx)))++deads (ids.drop p) (rowH nx ((objsOf st'.heap p K).map (renB (rnI (ids.take p) nx)))))++H₂) j=_
   rw [List.append_assoc,lkH_zip hz (fun hm=>by
    obtain ⟨a,ha,e⟩:=htake _ hm
    obtain ⟨b,hb1,hb2,e2⟩:=hdrop _ hj
    rw [e,hτσ a ha] at e2
    have:=hinj _ _ e2
    omega),lkH_deads_app,lkH_deads,if_pos hj]
  have hWo:∀ j,(∀ i,i<p+K→j≠τ i)→j∉ids.drop p→lkH (r.wr++H₂) j=lkH H₂ j:=fun j hj hnd2=>by
   show lkH ((zipH (ids.take p) ((objsOf st'.heap 0 p).map (renB (rnI (ids.take p) nx)))++deads (ids.drop p) (rowH nx ((objsOf st'.heap p K).map (renB (rnI (ids.take p) nx)))))++H₂) j=_
   rw [List.append_assoc,lkH_zip hz (fun hm=>by
       obtain ⟨i,hi,e⟩:=htake _ hm
       exact hj i (by omega) e),lkH_deads_app,lkH_deads,if_neg hnd2,lkH_num_no _ _ _ _ (fun hh=>by
       rw [List.length_map,objsOf_len] at hh
       exact hj (p+(j-nx)) (by omega) (by rw [hτ2 _ (by omega)];omega))]
  have hdec:∀ j,(∃ i,i<p+K∧j=τ i)∨j∈ids.drop p∨((∀ i,i<p+K→j≠τ i)∧j∉ids.drop p):=fun j=>by
   by_cases hx:∃ i,i<p+K∧j=τ i
   ·exact .inl hx
   ·by_cases hy:j∈ids.drop p
    ·exact .inr (.inl hy)
    ·exact .inr (.inr ⟨fun i hi e=>hx ⟨i,hi,e⟩,hy⟩)
  have hnσ:∀ j,(∀ i,i<p+K→j≠τ i)→j∉ids.drop p→∀ i,i<n→j≠σ i:=fun j hj hy i hi e=>by
   by_cases hip:i<p
   ·exact hj i (by omega) (by rw [hτσ i hip];exact e)
   ·refine hy (List.mem_of_getElem? (i:=i-p) ?_)
    rw [List.getElem?_drop,show p+(i-p)=i by omega,hσ1 i hi,e]
  -- what is not handed over stands as it stood
  have hold:∀ j v,(lkH H₂ j).live=true→m2 j=some v→m j=some v:=fun j v hl hv=>by
   by_cases hh:nx≤j∧j<nx+K
   ·obtain ⟨u,hu⟩:=live_some (hG.rel j) hl
    rw [hfr j hh.1 hh.2] at hu
    cases hu
   ·rw [← hm2o j hh];exact hv
  have hnF:∀ j v k,(∀ i,i<n→j≠σ i)→(lkH H₂ j).live=true→m j=some v→blk v=some k→¬ own mc (rowH 0 objs) k:=fun j v k hj hl hv hk ho=>by
   obtain ⟨i,h1,u,h3,h4⟩:=hown k ho
   exact hj i h1 (hG.sep j (σ i) v u k hl (hlv i h1) hv h3 hk h4)
  have hkeep:∀ j v k,(∀ i,i<n→j≠σ i)→(lkH H₂ j).live=true→m j=some v→blk v=some k→w'.heap[k]?=w.heap[k]?:=fun j v k hj hl hv hk =>
   hc.far.block k (hG.blk_lt hl hv hk) (hnF j v k hj hl hv hk)
  have hkeepS:∀ g,S g→w'.heap[g]?=w.heap[g]?:=fun g hg=>hc.far.block g (hG.ro g hg).1 fun ho=>by
   obtain ⟨i,h1,u,h3,h4⟩:=hown g ho
   exact (hG.ro g hg).2 _ u (hlv i h1) h3 h4
  have hgood:Good m2 S' w' (r.wr++H₂):=by
   have two:∀ i j vi vj k,i<p+K→((∀ i,i<p+K→j≠τ i)∧j∉ids.drop p)→(lkH st'.heap i).live=true→(lkH H₂ j).live=true→m2 (τ i)=some vi→m2 j=some vj→blk vi=some k→blk vj=some k→False:=by
    intro i j vi vj k hi hj hli hlj hvi hvj hki hkj
    have e1:=hold j vj hlj hvj
    rcases hc.owns k ⟨i,vi,hli,hkm i hi vi hvi,hki⟩ with h | h
    ·exact hnF j vj k (hnσ j hj.1 hj.2) hlj e1 hkj h
    ·have:=hG.blk_lt hlj e1 hkj
     have h':w.heap.size≤k:=h
     omega
   refine ⟨fun j=>?_,fun i j vi vj k hli hlj hvi hvj hki hkj=>?_,fun g hg=>⟨(hc.good.ro g hg).1,fun j v hl hv hk=>?_⟩,hc.good.tab⟩
   ·rcases hdec j with ⟨i,hi,rfl⟩ | hj | hj
    ·rw [hWn i hi]
     exact relB_ren (hc.good.rel i) (hob' i hi) (List.mem_range.2 hi) hmk
    ·rw [hWd j hj];trivial
    ·rw [hWo j hj.1 hj.2]
     by_cases hl:(lkH H₂ j).live=true
     ·refine (hG.rel j).mono (fun x u hu=>?_) hc.ro0 hkeepS fun v k _ hv hk=>hkeep j v k (hnσ j hj.1 hj.2) hl hv hk
      by_cases hh:nx≤x∧x<nx+K
      ·rw [hfr x hh.1 hh.2] at hu
       cases hu
      ·rw [hm2o x hh];exact hu
     ·cases hb:lkH H₂ j with
      | dead=>trivial
      | _=>rw [hb] at hl;exact (hl rfl).elim
   ·rcases hdec i with ⟨i,hi,rfl⟩ | hi | hi
    ·rw [hWn i hi,renB_live] at hli
     rcases hdec j with ⟨j,hj,rfl⟩ | hj | hj
     ·rw [hWn j hj,renB_live] at hlj
      rw [hc.good.sep i j vi vj k hli hlj (hkm i hi vi hvi) (hkm j hj vj hvj) hki hkj]
     ·rw [hWd j hj] at hlj
      cases hlj
     ·rw [hWo j hj.1 hj.2] at hlj
      exact (two i j vi vj k hi hj hli hlj hvi hvj hki hkj).elim
    ·rw [hWd i hi] at hli
     cases hli
    ·rw [hWo i hi.1 hi.2] at hli
     rcases hdec j with ⟨j,hj,rfl⟩ | hj | hj
     ·rw [hWn j hj,renB_live] at hlj
      exact (two j i vj vi k hj hi hlj hli hvj hvi hkj hki).elim
     ·rw [hWd j hj] at hlj
      cases hlj
     ·rw [hWo j hj.1 hj.2] at hlj
      exact hG.sep i j vi vj k hli hlj (hold i vi hli hvi) (hold j vj hlj hvj) hki hkj
   ·rcases hdec j with ⟨i,hi,rfl⟩ | hj | hj
    ·rw [hWn i hi,renB_live] at hl
     exact (hc.good.ro g hg).2 i v hl (hkm i hi v hv) hk
    ·rw [hWd j hj] at hl
     cases hl
    ·rw [hWo j hj.1 hj.2] at hl
     have e1:=hold j v hl hv
     rcases hc.ro g hg with h | h | h
     ·exact (hG.ro g h).2 j v hl e1 hk
     ·exact hnF j v g (hnσ j hj.1 hj.2) hl e1 hk h
     ·have:=hG.blk_lt hl e1 hk
      have h':w.heap.size≤g:=h
      omega
  refine ⟨hd,_,run_results hsr hres,.inl ⟨_,r,m2,S',rfl,hRr,⟨fun i v hv=>?_,fun i hi=>hm2o i (by rw [hrn] at hi;exact hi),hc.ro0,fun g hg=>?_,?_,fun k hk=>?_,hgood⟩,?_⟩⟩
  ·by_cases hh:nx≤i∧i<nx+K
   ·rw [hfr i hh.1 hh.2] at hv;cases hv
   ·rw [hm2o i hh];exact hv
  ·exact zt152
  ·exact zt148
  ·obtain ⟨j,v,hl,hv,hkv⟩:=hk
   rcases hdec j with ⟨i,hi,rfl⟩ | hj | hj
   ·rw [hWn i hi,renB_live] at hl
    exact zt154
   ·rw [hWd j hj] at hl
    cases hl
   ·rw [hWo j hj.1 hj.2] at hl
    exact .inl ⟨j,v,hl,hold j v hl hv,hkv⟩
  ·show RelV m2 S' w' _ (valR (l.map (renA (rnI (ids.take p) nx))))
   rw [hτd]
   refine retVal_rel (by rw [List.length_map,hll];simp [slotVals]) fun j u x hu hx=>?_
   obtain ⟨x0,h0,rfl⟩:=map_get hx
   exact relV_ren (hlr j u x0 hu h0) (allB_spec hl0 _ (List.mem_map_of_mem (List.mem_of_getElem? h0))) hmk
 cases e with
 | normal =>
  obtain ⟨st',hw,hq⟩:=hq
  exact fin st' (hw F _ _ hfits hr0) hq
 | ret =>
  obtain ⟨st',hw,hq⟩:=hq
  exact fin st' (hw F _ _ hfits hr0) hq
 | panic ch =>
  have hpx:C.px ch:=hq.resolve_right fun h=>h
  obtain ⟨m',S',hc,hs,hd,hr⟩:=hr0
  have hF0:∀ k,own mc (rowH 0 objs) k→own m H₂ k:=fun k hk=>by
   obtain ⟨i,h2,v,h3,h4⟩:=hown k hk
   exact ⟨σ i,v,hlv i h2,h3,h4⟩
  have hkeepS:∀ g,S g→w'.heap[g]?=w.heap[g]?:=fun g hg=>hc.far.block g (hG.ro g hg).1 fun ho=>by
   obtain ⟨i,h1,u,h3,h4⟩:=hown g ho
   exact (hG.ro g hg).2 _ u (hlv i h1) h3 h4
  have hW:∀ j,lkH (deads ids []++H₂) j=if j∈ids then .dead else lkH H₂ j:=fun j=>by rw [lkH_deads_app,lkH_deads];rfl
  have hout:∀ j,j∉ids→∀ i,i<n→j≠σ i:=fun j hj i hi e=>hj (e ▸ (hσl i hi).1)
  have hkeep:∀ j v k,j∉ids→(lkH H₂ j).live=true→m j=some v→blk v=some k→w'.heap[k]?=w.heap[k]?:=fun j v k hj hl hv hk =>
   hc.far.block k (hG.blk_lt hl hv hk) fun ho=>by
    obtain ⟨i,h1,u,h3,h4⟩:=hown k ho
    exact hout j hj i h1 (hG.sep j (σ i) v u k hl (hlv i h1) hv h3 hk h4)
  have hlw:∀ j,(lkH (deads ids []++H₂) j).live=true→j∉ids∧(lkH H₂ j).live=true:=fun j hl=>by
   rw [hW] at hl
   split at hl
   ·cases hl
   ·rename_i h;exact ⟨h,hl⟩
  refine ⟨hd,.inr ⟨ch,m,S,deads ids [],rfl,hpx,⟨fun _ _ h=>h,fun _ _=>rfl,fun _ h=>h,fun g hg=>.inl hg,⟨hc.far.os,hc.far.tape,hc.far.output,hc.far.size,fun k hk hno=>hc.far.block k hk fun ho=>hno (hF0 k ho)⟩,?_,?_⟩⟩⟩
  ·rintro k ⟨j,v,hl,hv,hk⟩
   exact .inl ⟨j,v,(hlw j hl).2,hv,hk⟩
  ·refine ⟨fun j=>?_,fun i j vi vj k hli hlj hvi hvj hki hkj=>hG.sep i j vi vj k (hlw i hli).2 (hlw j hlj).2 hvi hvj hki hkj,fun g hg=>⟨Nat.lt_of_lt_of_le (hG.ro g hg).1 hc.far.size,fun j v hl hv hk=>(hG.ro g hg).2 j v (hlw j hl).2 hv hk⟩,hG.tab.mono (fun _ h=>h) fun g hg=>hkeepS g hg⟩
   rw [hW]
   split
   ·trivial
   ·rename_i hj
    exact (hG.rel j).mono (fun _ _ h=>h) (fun _ h=>h) hkeepS fun v k hl hv hk=>hkeep j v k hj hl hv hk
 | _=>exact hq.elim
theorem rio_of [Tabs] {C : Cx} (hT : CxOk C) {f : FuncId} {fn : Func} {code : Code} {avs : List AV} {objs : List AB} {R : List AV → List AB → List AB → Prop} (hf : C.P.funcs[f]? = some fn) (hb : fn.body = some code) (hname : (fn.name == "runtime.NumGoroutine") = false)
  (hN:C.N=fn.ntmps) (hle:avs.length≤fn.ntmps) (hres:fn.results.size≤4)
  (hobj:allB (objs.map fun b=>b.live&&okB (List.range objs.length) b)=true) (hpn:Nat.ble C.pn objs.length=true) (hav:allB (avs.map (okA (List.range objs.length)))=true)
  (h:evCode C code ⟨argEnv avs 0,rowH 0 objs,objs.length⟩ (retR C.T C.pn C.N C.pn fn.results R)) (hpx:∀ ch,¬ C.px ch:=by exact fun _ h=>h):RIO C.P f avs objs C.pn R :=
 fun H nx ids h1 h2 h3 h4=>(riox_of hT hf hb hname hN hle hres hobj hpn hav h H nx ids h1 h2 h3 h4).calm hpx
def eqObjs (H:Heap) (σ:Nat→Nat):List Nat→List AB→Prop
 | i::is,b::bs=>ObjEq (lkH H i) (renB σ b)∧eqObjs H σ is bs
 | [],[]=>True
 | _,_=>False
theorem eqObjs_len {H:Heap} {σ:Nat→Nat}:∀ {ids:List Nat} {bs:List AB},eqObjs H σ ids bs→ids.length=bs.length
 | [],[],_=>rfl
 | [],_::_,h=>h.elim
 | _::_,[],h=>h.elim
 | _::_,_::_,h=>by simp [eqObjs_len h.2]
theorem eqObjs_get {H:Heap} {σ:Nat→Nat}:∀ {ids:List Nat} {bs:List AB},eqObjs H σ ids bs→∀ (k id:Nat),ids[k]?=some id→ObjEq (lkH H id) (renB σ (bs.getD k .dead))
 | [],[],_,k,id,h=>by simp at h
 | [],_::_,h,_,_,_=>h.elim
 | _::_,[],h,_,_,_=>h.elim
 | i::is,b::bs,h,k,id,hk=>by
  cases k with
  | zero =>
   simp at hk
   subst hk
   simpa using h.1
  | succ k =>
   rw [List.getD_cons_succ]
   exact eqObjs_get h.2 k id (by simpa using hk)
theorem zt104 {p:Prop}(h:p:=by
 subst ha
 exact h H nx ids (eqObjs_len ho) (nodupB_spec hn) (fun i hi=>Nat.blt_eq.mp (allB_spec hlt _ (List.mem_map_of_mem (f:=fun i=>Nat.blt i nx) hi))) (eqObjs_get ho)):p:=h
theorem rio_at [Tabs] {P:Program} {f:FuncId} {avs avs':List AV} {objs:List AB} {R:List AV→List AB→List AB→Prop} {p:Nat} (h:RIO P f avs objs p R) {H:Heap} {nx:Nat} (ids:List Nat) (ha:avs'=avs.map (renA (rnI ids nx)))
  (hn:nodupB ids=true) (hlt:allB (ids.map fun i=>Nat.blt i nx)=true) (ho:eqObjs H (rnI ids nx) ids objs):CallSem P f avs' H nx ids (RioR R p ids nx):=by
 exact zt104
theorem rio_one [Tabs] {P:Program} {f:FuncId} {avs avs':List AV} {objs:List AB} {V:List AV} {B E:List AB} {p:Nat} (h:RIO P f avs objs p (fun vs bs es=>vs=V∧bs=B∧es=E)) {H:Heap} {nx:Nat} (ids:List Nat) (ha:avs'=avs.map (renA (rnI ids nx)))
  (hn:nodupB ids=true) (hlt:allB (ids.map fun i=>Nat.blt i nx)=true) (ho:eqObjs H (rnI ids nx) ids objs) (hB:B.length=(ids.take p).length) :
  CallSem P f avs' H nx ids (fun r=>r=⟨valR (V.map (renA (rnI (ids.take p) nx))),ids,zipH (ids.take p) (B.map (renB (rnI (ids.take p) nx)))++deads (ids.drop p) (rowH nx (E.map (renB (rnI (ids.take p) nx)))),nx+E.length⟩):=by
 have e:RioR (fun vs bs es=>vs=V∧bs=B∧es=E) p ids nx=fun r=>r=⟨valR (V.map (renA (rnI (ids.take p) nx))),ids,zipH (ids.take p) (B.map (renB (rnI (ids.take p) nx)))++deads (ids.drop p) (rowH nx (E.map (renB (rnI (ids.take p) nx)))),nx+E.length⟩:=by
  funext r
  apply propext
  constructor
  ·rintro ⟨_,_,_,⟨rfl,rfl,rfl⟩,_,rfl⟩
   rfl
  ·rintro rfl
   exact ⟨_,_,_,⟨rfl,rfl,rfl⟩,hB,rfl⟩
 rw [← e]
 exact rio_at h ids ha hn hlt ho
theorem riox_at [Tabs] {P:Program} {f:FuncId} {avs avs':List AV} {objs:List AB} {R:List AV→List AB→List AB→Prop} {p:Nat} {Px:List PanicEntry→Prop} (h:RIOX P f avs objs p R Px) {H:Heap} {nx:Nat} (ids:List Nat) (ha:avs'=avs.map (renA (rnI ids nx)))
  (hn:nodupB ids=true) (hlt:allB (ids.map fun i=>Nat.blt i nx)=true) (ho:eqObjs H (rnI ids nx) ids objs):CallSemX P f avs' H nx ids (RioR R p ids nx) Px:=by
 exact zt104
inductive StopG [Tabs] (P:Program) (px:List PanicEntry→Prop) (f:FuncId) (avs:List AV) (H:Heap) (nx:Nat) (k:List Nat→Prop):Prop
 | mk (touch:List Nat) (Px:List PanicEntry→Prop) (hc:CallSemX P f avs H nx touch (fun _=>False) Px) (hp:∀ ch,Px ch→px ch) (hk:k touch)
def evStop [Tabs] (C:Cx) (rd:Operand→AV) (H:Heap) (nx:Nat) (o:Oper) (k:List Nat→Prop):Prop :=
 match o.op with
 | .call c=>match c.callee with
  | .value fop=>match rd fop with
   | .fn (.func f) first cap=>forceL (first++c.args.toList.map rd++cap) fun avs=>StopG C.P C.px f avs H nx k
   | _=>False
  | _=>False
 | _=>False
theorem evStop_sound [Tabs] {C:Cx} {rd:Operand→AV} {H:Heap} {nx:Nat} {o:Oper} {k:List Nat→Prop} (h:evStop C rd H nx o k) :
  ∃ touch,OpSemX C.P C.px o (usesOf rd o) H nx touch (fun _=>False)∧k touch:=by
 unfold evStop at h
 split at h
 ·rename_i c ho
  obtain ⟨callee,args,ats⟩:=c
  simp only at h
  split at h
  ·rename_i fop
   split at h
   ·rename_i f first cap hf
    rw [forceL_iff] at h
    obtain ⟨touch,Px,hc,hp,hk⟩:=h
    refine ⟨touch,opsem_uses (sem_callx ho hf hc hp) ?_,hk⟩
    have hops:o.op.operands.toList=fop::args.toList:=by rw [ho];simp [Op.operands,Call.operands]
    exact uses_all (l:=fop::args.toList) zp26
   ·exact h.elim
  ·exact h.elim
 ·exact h.elim
def strayB (T:Tab) (N:Nat) (pre:List Oper) (env:Env) (o:Oper):Bool :=
 match o.op,o.guard,o.dst with
 | .alloc t,none,some d=>(match lkT T t with
  | some _=>true
  | none=>false)&&Nat.blt d N&&(pre.all fun o'=>match o'.dst with
   | none=>true
   | some d'=>!Nat.beq d' d)&&(match lk env d with
   | .undef=>true
   | _=>false)
 | _,_,_=>false
theorem strayB_spec {T:Tab} {N:Nat} {pre:List Oper} {env:Env} {o:Oper} (h:strayB T N pre env o=true) :
  ∃ t d i,o.op=.alloc t∧o.guard=none∧o.dst=some d∧lkT T t=some i∧d<N∧(∀ o'∈pre,o'.dst≠some d)∧lk env d=.undef:=by
 unfold strayB at h
 split at h
 ·rename_i t d h1 h2 h3
  simp only [Bool.and_eq_true] at h
  obtain ⟨⟨⟨ha,hb⟩,hc⟩,hd⟩:=h
  split at ha
  ·rename_i i hi
   refine ⟨t,d,i,h1,h2,h3,hi,by simpa [Nat.blt_eq] using hb,fun o' ho' e=>?_,?_⟩
   ·have:=List.all_eq_true.1 hc o' ho'
    rw [e] at this
    simp at this
   ·split at hd
    ·assumption
    ·cases hd
  ·cases ha
 ·cases h
def lateB (T:Tab) (N:Nat) (env:Env) (ops:List Oper) (p:Nat):Bool:=(((masksF ops []).zip ops).drop (p+1)).all fun m=>Nat.testBit m.1 p||strayB T N (ops.take (p+1)) env m.2
theorem masksF_len:∀ (l:List Oper) (ms:List Nat),(masksF l ms).length=ms.length+l.length
 | [],ms=>rfl
 | o::l,ms=>by rw [masksF,masksF_len l];simp;omega
theorem lateB_spec {T:Tab} {N:Nat} {env:Env} {ops:Array Oper} {p:Nat} (h:lateB T N env ops.toList p=true) {E:Nat→Bool} (hE:Closed ops E) {j:Nat} {o:Oper} (hj:p<j) (ho:ops[j]?=some o) (hp:Preds E o):E p=true∨strayB T N (ops.toList.take (p+1)) env o=true:=by
 have hlt:j<ops.size:=(Array.getElem?_eq_some_iff.1 ho).1
 have hlen:=masksF_len ops.toList []
 have hb:(((masksF ops.toList []).getD j 0).testBit p||strayB T N (ops.toList.take (p+1)) env o)=true:=by
  unfold lateB at h
  rw [List.all_eq_true] at h
  have hjl:j<(masksF ops.toList []).length:=by rw [hlen];simpa using hlt
  rw [List.getD_eq_getElem?_getD,List.getElem?_eq_getElem hjl]
  refine h ((masksF ops.toList [])[j],o) ?_
  rw [List.mem_iff_getElem?]
  refine ⟨j-(p+1),?_⟩
  rw [List.getElem?_drop,show p+1+(j-(p+1))=j by omega,List.getElem?_zip_eq_some]
  exact ⟨List.getElem?_eq_getElem hjl,by simpa using ho⟩
 rcases Bool.or_eq_true_iff.1 hb with hb | hb
 rotate_left
 ·exact .inr hb
 left
 refine masksF_spec hE ops.toList [] (fun k=>by simp) (fun j i h=>by simp at h) j p hb fun o' ho' e he hbe=>?_
 rw [ho] at ho'
 cases ho'
 exact hp e he hbe
def StopAt [Tabs] (C:Cx) (ops:Array Oper) (p:Nat) (sg:Sig) (env:Env) (H:Heap) (nx:Nat):Prop :=
 match ops.toList[p]? with
 | none=>False
 | some o=>match dstOk C.N o.dst [] with
  | false=>False
  | true=>gateP ops.toList env o.guard (evStop C (rdOp [] env) H nx o fun touch=>ordB ops ((o,touch,[])::sg)=true∧lateB C.T C.N env ops.toList p=true) False
theorem evOpsD_soundP [Tabs] {C:Cx} (hT:TabOk C.P C.T) {ops:Array Oper} {env0:Env} {H0:Heap} {nx0:Nat} {k:Sig→Env→Heap→Nat→Prop}:∀ (rest:List Oper) (R:List Rec),Hist C ops env0 H0 nx0 R→(∀ j x,rest[j]?=some x→ops[R.length+j]?=some x) →
  evOpsD C ops.toList rest (envR env0 R) (heapR H0 R) (nxR nx0 R) (R.map sigOf) k →
  ∃ R',Hist C ops env0 H0 nx0 R'∧R'.length=R.length+rest.length∧k (R'.map sigOf) (envR env0 R') (heapR H0 R') (nxR nx0 R')
 | [],R,hH,_,h=>⟨R,hH,rfl,h⟩
 | o::rest,R,hH,hl,h=>by
  unfold evOpsD at h
  split at h
  ·exact h.elim
  ·rename_i hd
   have hidx:ops[R.length]?=some o:=hl 0 o rfl
   have hnext:∀ (r:Rec) j x,rest[j]?=some x→ops[(r::R).length+j]?=some x:=by
    intro r j x hx
    have:=hl (j+1) x (by rw [List.getElem?_cons_succ];exact hx)
    rw [List.length_cons,show R.length+1+j=R.length+(j+1) by omega]
    exact this
   have hdst:∀ d,o.dst=some d→d<C.N:=by
    exact zt168
   rcases gateK_sound h with ⟨hw,h⟩ | ⟨hsk,h⟩
   ·obtain ⟨touch,Rr,h1,_,h3,h4⟩:=evOpD_sound hT h
    obtain ⟨r,hr,ht⟩:=h3 rfl
    obtain ⟨hn,hk⟩:=h4 r ((hr r).2 rfl)
    obtain ⟨v,touch',wr,n1⟩:=r
    simp only at hk ht
    subst ht
    rw [idsK_iff] at hk
    have hRr:Rr=fun r'=>r'=⟨v,touch',wr,n1⟩:=funext fun r'=>propext (hr r')
    subst hRr
    have hsem:=h1 trivial
    refine (evOpsD_soundP hT rest (⟨o,v,touch',wr,nxR nx0 R,n1⟩::R) ⟨hH,hidx,hdst,rfl,hn,.inl ⟨hw,hsem⟩⟩ (hnext _) ?_).imp fun R' h=>⟨h.1,by have:=h.2.1;simp at this ⊢;omega,h.2.2⟩
    exact pushK_iff.1 (putEK_iff.1 hk)
   ·refine (evOpsD_soundP hT rest (⟨o,.skip,[],[],nxR nx0 R,nxR nx0 R⟩::R) ⟨hH,hidx,hdst,rfl,Nat.le_refl _,.inr ⟨hsk,rfl,rfl,rfl⟩⟩ (hnext _) ?_).imp fun R' h=>⟨h.1,by have:=h.2.1;simp at this ⊢;omega,h.2.2⟩
    exact pushK_iff.1 (putEK_iff.1 (idsK_iff.1 h))
section
variable {C:Cx} {ops:Array Oper} {env:Env} {H:Heap} {nx:Nat} {R:List Rec} {E:Nat→Bool} {r:Rec} {B:List Rec}
theorem stepStop [Tabs] {F:Fr} {m:Ids} {S:Blocks} {H₂:Heap} {a:Act} {w:World} {K:Act→World→Prop} {Q:Exit→Act→World→Prop} (h:At C ops env H nx R E r B) (hI:InvD C F env H nx R E m S H₂ a w)
  (hw:Want ops (envR env B) r.o) (hsem:OpSemX C.P C.px r.o (usesOf (rdOp [] (envR env B)) r.o) (heapR H B) r.n0 r.touch (fun _=>False))
  (hP:∀ (m':Ids) (S':Blocks) (H':Heap) (w':World) (ch:List PanicEntry),C.px ch→Core F m' S' w' H' (nxR nx R)→Q (.panic ch) a w') :
  Region.wanted r.o (yielded ops a.tmps)=true∧r.o.wp C.P a w K Q:=by
 obtain ⟨hHB,hidx,hdst,hn0,hn01,_⟩:=h.hist.suffix h.here
 have slot:∀ t,t∈looksOf ops.toList r.o→RelV m S w (a.tmps.getD t undef) (lk (envR env B) t):=by
  exact zt163
 have gate:∀ {j:Nat} {pol:Bool} {oj:Oper} {t:Nat},r.o.guard=some (j,pol)→ops[j]?=some oj→oj.dst=some t→Region.wanted r.o (yielded ops a.tmps)=(yieldT a.tmps t == some pol):=by
  intro j pol oj t hg hj ht
  exact zt121
 refine ⟨?_,?_⟩
 ·exact zt81
 refine hsem m S w a H₂ K Q hI.good (fun id hid=>?_) (fun i hi hlt=>?_) (fun u hu _=>?_) ?_ (fun ch hx m' S' w' wr hE=>hP m' S' _ w' ch hx ((hI.core h.hist).step (hE.flat _) (Nat.le_refl _)))
 ·rw [hI.heap id,lkH_heapR]
  exact h.read fun r' hn=>clash_touch hid hn
 ·obtain ⟨r',h',_⟩:=hlt
  exact h'.elim
 ·exact zt38
 ·rintro r' h'
  exact h'.elim
end
theorem alloc_run [Tabs] {P:Program} {T:Tab} (hT:TabOk P T) {t:TypeId} {i:TI} (hi:lkT T t=some i) {o:Oper} (ho:o.op=.alloc t) (ev:Operand→Value) (w:World):∃ v row,(execOp ev o).run P w=.ok (.value v) (w.alloc row):=by
 obtain ⟨_,j,hj,_,_,hz⟩:=hT t i hi
 refine ⟨.pointer (some ⟨w.heap.size,0,none⟩),.cells i.zero.cells t,?_⟩
 unfold execOp
 simp [ho,Instr.alloc,zeroValue,typeInfo,hj,hz,newVar,newRow]
theorem stepStray [Tabs] {C:Cx} (hT:TabOk C.P C.T) {F:Fr} {ops:Array Oper} {env:Env} {H:Heap} {nx:Nat} {R:List Rec} (hH:Hist C ops env H nx R) {E:Nat→Bool} {m:Ids} {S:Blocks} {H₂:Heap} {a:Act} {w:World} (hI:InvD C F env H nx R E m S H₂ a w)
  {o:Oper} {j:Nat} (hj:R.length≤j) {env':Env} (hs:strayB C.T C.N (ops.toList.take R.length) env' o=true) (he:∀ s,(∀ r B,(r::B) <:+ R→r.o.dst≠some s)→lk env' s=lk env s)
  {K:Act→World→Prop} {Q:Exit→Act→World→Prop} (hK:∀ m' S' H' a' w',InvD C F env H nx R (setE E j) m' S' H' a' w'→K a' w') :
  Region.wanted o (yielded ops a.tmps)=true∧o.wp C.P a w K Q:=by
 obtain ⟨t,d,i,h1,h2,h3,h4,h5,h6,h7⟩:=strayB_spec hs
 refine ⟨by simp [Region.wanted,h2],?_⟩
 obtain ⟨v,row,hrun⟩:=alloc_run hT h4 h1 a.eval w
 have hE:∀ r B,(r::B) <:+ R→E B.length=setE E j B.length:=by
  intro r B hr
  have:=hr.length_le
  simp only [List.length_cons] at this
  unfold setE
  rw [if_neg (by omega)]
 have hnd:∀ r B,(r::B) <:+ R→r.o.dst≠some d:=by
  intro r B hr
  obtain ⟨_,hidx,_⟩:=hH.suffix hr
  have hl:=hr.length_le
  simp only [List.length_cons] at hl
  refine h6 _ (List.mem_iff_getElem?.2 ⟨B.length,?_⟩)
  rw [List.getElem?_take,if_pos (by omega)]
  simpa using hidx
 have e:=ext_below (nx:=nxR nx R) hI.good ((RowKit.Below.refl _ w).alloc (Nat.le_refl _) row)
 have hc:=(hI.core hH).step e (Nat.le_refl _)
 unfold Oper.wp
 rw [hrun]
 refine hK m S H₂ (a.put o.dst v) (w.alloc row) ⟨hc.good,hc.far,hc.owns,hc.ro,hc.ro0,hc.pins,fun i hi=>?_,fun id=>?_,?_,?_,fun s=>?_⟩
 ·rcases hI.free i hi with h1 | ⟨r',B',h',hE',h1⟩
  ·exact .inl h1
  ·exact .inr ⟨r',B',h',by rw [← hE r' B' h'];exact hE',h1⟩
 ·rw [← lay_congr (E:=E) fun r B hr _=>hE r B hr]
  exact hI.heap id
 ·rw [h3];simp [Act.put,hI.size]
 ·rw [h3];simp [Act.put,hI.defers]
 ·have hlt:d<a.tmps.size:=by rw [hI.size];exact h5
  rw [h3]
  show RelV m S (w.alloc row) ((a.tmps.setIfInBounds d v).getD s undef) _
  rw [getD_set hlt]
  by_cases es:d=s
  ·subst es
   rw [if_pos rfl,lay_cut (List.nil_suffix) fun r B hr _ hn=>(hnd r B hr (fE_dst hn)).elim]
   show RelV m S (w.alloc row) v (lk env d)
   rw [← he d hnd,h7]
   exact .t _ _ (.undef _)
  ·rw [if_neg es,← lay_congr (E:=E) fun r B hr _=>hE r B hr]
   exact e.relV hI.good (hI.tmps s)
theorem stopLoop [Tabs] {C:Cx} (hT:TabOk C.P C.T) {F:Fr} {ops:Array Oper} {env:Env} {H:Heap} {nx:Nat} {rp:Rec} {R:List Rec} (hH:Hist C ops env H nx (rp::R)) (hO:ordB ops ((rp::R).map sigOf)=true)
  (hW:Want ops (envR env R) rp.o) (hS:OpSemX C.P C.px rp.o (usesOf (rdOp [] (envR env R)) rp.o) (heapR H R) rp.n0 rp.touch (fun _=>False)) (hL:lateB C.T C.N (envR env R) ops.toList R.length=true) {Q:Exit→Act→World→Prop}
  (hP:∀ (m:Ids) (S:Blocks) (H':Heap) (a:Act) (w:World) (ch:List PanicEntry),C.px ch→Core F m S w H' (nxR nx (rp::R))→a.tmps.size=C.N→a.defers=F.ds→Q (.panic ch) a w) :
  ∀ (fuel:Nat) (listed:Array Bool) m S H₂ a w,listed.size=ops.size→listed.toList.count false=fuel→Closed ops (fun i=>listed.getD i false)→listed.getD R.length false=false→InvD C F env H nx (rp::R) (fun i=>listed.getD i false) m S H₂ a w →
   wpAny C.P .any ops Q fuel listed a w:=by
 have hplt:R.length<ops.size:=by
  have:=hH.2.1
  exact (Array.getElem?_eq_some_iff.1 this).1
 have done:∀ (listed:Array Bool),listed.size=ops.size→listed.getD R.length false=false→Region.ready .any ops listed=[]→False:=by
  intro listed hs hp h0
  have all:∀ j,j≤R.length→listed.getD j false=true:=by
   intro j
   induction j using Nat.strongRecOn with
   | _ j ih =>
    intro hj
    cases hb:listed.getD j false with
    | true=>rfl
    | false =>
     exfalso
     obtain ⟨r,B,hr,hB⟩:=nth_suffix (R:=rp::R) (j:=j) zp21
     exact zt32
  have:=all R.length (Nat.le_refl _)
  rw [hp] at this
  cases this
 intro fuel
 induction fuel with
 | zero =>
  intro listed m S H₂ a w hs hc hcl hp hI
  have h0:Region.ready .any ops listed=[]:=by
   exact zt46
  exact (done listed hs hp h0).elim
 | succ fuel ih =>
  intro listed m S H₂ a w hs hc hcl hp hI
  refine ⟨fun h0=>(done listed hs hp h0).elim,fun j hj=>?_⟩
  obtain ⟨h1,o,ho,hpre⟩:=mem_ready.1 hj
  have hlt:j<ops.size:=(Array.getElem?_eq_some_iff.1 ho).1
  have hls:j<listed.size:=by omega
  have hf:listed[j]=false:=by simpa [Array.getD,hls] using h1
  unfold wpOp
  rw [ho]
  rcases Nat.lt_trichotomy j R.length with hjp | hjp | hjp
  ·obtain ⟨r,B,hr,hB⟩:=nth_suffix (R:=rp::R) (j:=j) zp21
   obtain ⟨_,hidx,_⟩:=hH.suffix hr
   have hro:o=r.o:=by rw [hB,ho] at hidx;cases hidx;rfl
   subst hro
   have hat:At C ops env H nx (rp::R) (fun i=>listed.getD i false) r B:=⟨hH,hO,hcl,hr,by simp [hB,hls,hf],hpre⟩
   have next:∀ m' S' H' a' w',InvD C F env H nx (rp::R) (setE (fun i=>listed.getD i false) B.length) m' S' H' a' w'→wpAny C.P .any ops Q fuel (listed.setIfInBounds j true) a' w':=?next
   rcases stepD (Q:=Q) hat hI next (fun m' S' H' w' ch hx hc=>hP m' S' H' a w' ch hx hc hI.size hI.defers) with ⟨hw,hst⟩ | ⟨hw,hst⟩
   ·exact zt164
   ·simp only [hw,if_false,Bool.false_eq_true]
    exact hst
   intro m' S' H' a' w' hI'
   rw [hB,← setE_eq hls] at hI'
   refine ih _ m' S' H' a' w' (by simp [hs]) ?_ ?_ ?_ hI'
   ·exact zt34
   ·exact zt182
   ·have:=congrFun (setE_eq hls) R.length
    rw [this]
    unfold setE
    rw [if_neg (by omega)]
    exact hp
  ·subst hjp
   have hro:o=rp.o:=by have:=hH.2.1;rw [ho] at this;cases this;rfl
   subst hro
   have hat:At C ops env H nx (rp::R) (fun i=>listed.getD i false) rp R:=⟨hH,hO,hcl,List.suffix_refl _,hp,hpre⟩
   obtain ⟨hw,hst⟩:=stepStop (K:=fun a' w'=>wpAny C.P .any ops Q fuel (listed.setIfInBounds R.length true) a' w') (Q:=Q) hat hI hW hS (fun m' S' H' w' ch hx hc=>hP m' S' H' a w' ch hx hc hI.size hI.defers)
   exact zt164
  ·rcases lateB_spec hL hcl hjp ho hpre with this | hst
   ·rw [hp] at this
    cases this
   obtain ⟨hw,hst⟩:=stepStray hT hH hI (j:=j) zp21 (env':=envR env R) hst (fun s hs=>by
    rw [lk_envR,lay_cut (List.nil_suffix) fun r B hr _ hn=>(hs r B (hr.trans (List.suffix_cons _ _)) (fE_dst hn)).elim]
    rfl) (K:=fun a' w'=>wpAny C.P .any ops Q fuel (listed.setIfInBounds j true) a' w') (Q:=Q) (fun m' S' H' a' w' hI'=>by
    rw [← setE_eq hls] at hI'
    refine ih _ m' S' H' a' w' (by simp [hs]) ?_ ?_ ?_ hI'
    ·exact zt34
    ·exact zt182
    ·have:=congrFun (setE_eq hls) R.length
     rw [this]
     unfold setE
     rw [if_neg (by omega)]
     exact hp)
   exact zt164
theorem DrawG.effp [Tabs] {C:Cx} (hC:CxOk C) {id:Nat} {ops:Array Oper} {env:Env} {H:Heap} {nx:Nat} {Q:St→Prop} (p:Nat)
  (h:evOpsD C ops.toList (ops.toList.take p) env H nx [] fun sg env H nx=>StopAt C ops p sg env H nx):DrawG C id ops env H nx Q:=by
 refine .any fun F a w _ ⟨m,S,hc,hs,hd,hrel⟩=>?_
 obtain ⟨R,hH,hlen,hk⟩:=evOpsD_soundP hC.tab (ops:=ops) (ops.toList.take p) [] trivial (fun j x hx=>by
  rw [List.getElem?_take] at hx
  split at hx
  ·simpa using hx
  ·cases hx) h
 unfold StopAt at hk
 split at hk
 ·exact hk.elim
 rename_i o ho
 split at hk
 ·exact hk.elim
 rename_i hdo
 have hop:ops[p]?=some o:=by simpa using ho
 have hplt:p<ops.size:=(Array.getElem?_eq_some_iff.1 hop).1
 have hRlen:R.length=p:=by
  rw [hlen]
  simp
  omega
 rcases gateP_sound hk with ⟨hw,hk⟩ | ⟨_,hk⟩
 rotate_left
 ·exact hk.elim
 obtain ⟨touch,hsem,hO,hL⟩:=evStop_sound hk
 have hdst:∀ d,o.dst=some d→d<C.N:=by
  intro d hd'
  simp only [dstOk,hd',Bool.and_eq_true] at hdo
  simpa [Nat.blt_eq] using hdo.1
 have hH':Hist C ops env H nx (⟨o,.undef,touch,[],nxR nx R,nxR nx R⟩::R) :=
  ⟨hH,by rw [hRlen];exact hop,hdst,rfl,Nat.le_refl _,.inl ⟨hw,fun m S w a H₂ K Q g1 g2 g3 g4 g5 g6=>hsem m S w a H₂ K Q g1 g2 (fun i hi hlt=>by obtain ⟨r',h',_⟩:=hlt;exact h'.elim) g4 (fun r hr=>hr.elim) g6⟩⟩
 refine wp_region_any hC.mixed ?_
 have e:=ext_below (nx:=nx) (w':={ w with drawn:=w.drawn+1 }) hc.good ⟨rfl,rfl,rfl,Nat.le_refl _,fun _ _=>rfl⟩
 have hc':=hc.step e (Nat.le_refl _)
 refine stopLoop hC.tab hH' hO hw hsem (by rw [hRlen];exact hL) (F:=F) (fun m S H' a w ch hx hc hs hd=>⟨⟨[],H',nxR nx R⟩,⟨m,S,hc,hs,hd,fun s=>.t _ _ (.undef _)⟩,hx⟩) ops.size _ m S H a _ (by simp) (by simp) ?_ (rep_false _ _) ⟨hc'.good,hc'.far,hc'.owns,hc'.ro,hc'.ro0,hc'.pins,fun i hi=>?_,fun id=>?_,hs,hd,fun s=>?_⟩
 ·exact zt143
 ·exact zt172
 ·have:lay (fH id) (lkH H id) (fun i=>(Array.replicate ops.size false).getD i false) (⟨o,.undef,touch,[],nxR nx R,nxR nx R⟩::R)=lkH H id:=by
   exact zt98
  rw [this]
 ·have:lay (fE s) (lk env s) (fun i=>(Array.replicate ops.size false).getD i false) (⟨o,.undef,touch,[],nxR nx R,nxR nx R⟩::R)=lk env s:=by
   exact zt98
  rw [this]
  exact e.relV hc.good (hrel s)
theorem RioR.imp {R R':List AV→List AB→List AB→Prop} {p:Nat} {ids:List Nat} {nx:Nat} (hr:∀ vs bs es,R vs bs es→R' vs bs es):∀ r,RioR R p ids nx r→RioR R' p ids nx r :=
 fun _ ⟨vs,bs,es,h,h'⟩=>⟨vs,bs,es,hr _ _ _ h,h'⟩
theorem RIOX.imp [Tabs] {P:Program} {f:FuncId} {avs:List AV} {objs:List AB} {p:Nat} {R R':List AV→List AB→List AB→Prop} {Px Px':List PanicEntry→Prop} (h:RIOX P f avs objs p R Px) (hr:∀ vs bs es,R vs bs es→R' vs bs es) (hp:∀ ch,Px ch→Px' ch):RIOX P f avs objs p R' Px' :=
 fun H nx ids h1 h2 h3 h4=>(h H nx ids h1 h2 h3 h4).mono (RioR.imp hr) hp
theorem RIOX.calm [Tabs] {P:Program} {f:FuncId} {avs:List AV} {objs:List AB} {p:Nat} {R R':List AV→List AB→List AB→Prop} {Px:List PanicEntry→Prop} (h:RIOX P f avs objs p R Px) (hr:∀ vs bs es,R vs bs es→R' vs bs es) (hp:∀ ch,¬ Px ch):RIO P f avs objs p R' :=
 fun H nx ids h1 h2 h3 h4=>((h H nx ids h1 h2 h3 h4).mono (RioR.imp hr) (fun _ h=>h)).calm hp
theorem RIO.imp [Tabs] {P:Program} {f:FuncId} {avs:List AV} {objs:List AB} {p:Nat} {R R':List AV→List AB→List AB→Prop} (h:RIO P f avs objs p R) (hr:∀ vs bs es,R vs bs es→R' vs bs es):RIO P f avs objs p R' :=
 fun H nx ids h1 h2 h3 h4=>((h H nx ids h1 h2 h3 h4).toX (Px:=fun _=>False)).mono (RioR.imp hr) (fun _ h=>h) |>.calm fun _ h=>h
theorem RIO.toX [Tabs] {P:Program} {f:FuncId} {avs:List AV} {objs:List AB} {p:Nat} {R:List AV→List AB→List AB→Prop} {Px:List PanicEntry→Prop} (h:RIO P f avs objs p R):RIOX P f avs objs p R Px :=
 fun H nx ids h1 h2 h3 h4=>(h H nx ids h1 h2 h3 h4).toX
theorem riox_stop [Tabs] {P:Program} {f:FuncId} {avs avs':List AV} {objs:List AB} {p:Nat} {Px:List PanicEntry→Prop} (h:RIOX P f avs objs p (fun _ _ _=>False) Px) {H:Heap} {nx:Nat} (ids:List Nat) (ha:avs'=avs.map (renA (rnI ids nx)))
  (hn:nodupB ids=true) (hlt:allB (ids.map fun i=>Nat.blt i nx)=true) (ho:eqObjs H (rnI ids nx) ids objs):CallSemX P f avs' H nx ids (fun _=>False) Px :=
 (riox_at h ids ha hn hlt ho).mono (fun _ ⟨_,_,_,h,_⟩=>h) fun _ h=>h
theorem CallG.stop [Tabs] {P:Program} {px:List PanicEntry→Prop} {f:FuncId} {avs:List AV} {H:Heap} {nx:Nat} {g:Option Bool} {k:Res→Prop} {touch:List Nat} {Px:List PanicEntry→Prop} (hd:g.getD true=true) (hc:CallSemX P f avs H nx touch (fun _=>False) Px) (hp:∀ ch,Px ch→px ch) :
  CallG P px f avs H nx g false k :=
 .pan touch (fun _=>False) Px hd (fun h=>by cases h) hc hp (fun _ h=>h.elim)
theorem wp_seq_ev [Tabs] {C:Cx} (hT:CxOk C) {F:Fr} (hF:F.fits C.pn) {x y:Code} {st st1:St} {Rr:St→Prop} {Q:Exit→Act→World→Prop}
  (h:evCode C x st (fun e st'=>match e with
   | .normal=>Wk C.pn C.N st' st1
   | .ret=>Rr st'
   | _=>False))
  (hpx:∀ ch,¬ C.px ch) (hy:∀ a w,Rel F C.N st1 a w→y.wp C.P Q a w) (hr:∀ a w st',Rel F C.N st' a w→Rr st'→Q .ret a w) :
  ∀ a w,Rel F C.N st a w→(x.seq y).wp C.P Q a w:=by
 intro a w hR
 refine wp_seq (wp_mono (evCode_sound hT hF x st _ h a w hR) fun e a' w' ⟨st',h1,h2⟩=>?_)
 have h2:=orP_off hpx h2
 cases e with
 | normal=>exact hy a' w' (h2 F a' w' hF h1)
 | ret=>exact hr a' w' st' h1 h2
 | _=>exact h2.elim
theorem wp_defer [Tabs] {P:Program} {id:Nat} {mk df:Oper} {t g:Nat} {caps:Array Operand} {ats:Array TypeId} {Q:Exit→Act→World→Prop} {a:Act} {w:World}
  (hm:mk.op=.makeFunc (.func g) #[] caps) (hmd:mk.dst=some t) (hmg:mk.guard=none) (hd:df.op=.defer { callee:=.value (.tmp t),args:=#[],argTypes:=ats }) (hdd:df.dst=none) (hdg:df.guard=none) (ht:t<a.tmps.size)
  (h:Q .normal { tmps:=a.tmps.setIfInBounds t (.func (.func g) #[] (caps.map a.eval)),defers:={ target:=.fn (.func g) (caps.map a.eval),args:=#[] }::a.defers } w) :
  (Code.region id #[mk,df] false).wp P Q a w:=by
 refine wp_region ?_
 show wpOps P #[mk,df] Q [0,1] a w
 have w1:Region.wanted mk (yielded #[mk,df] a.tmps)=true:=by simp [Region.wanted,hmg]
 simp only [wpOps,List.getElem?_toArray,List.getElem?_cons_zero,w1,if_true]
 left
 unfold Oper.wp
 have r1:(execOp a.eval mk).run P w=.ok (.value (.func (.func g) #[] (caps.map a.eval))) w:=by
  unfold execOp
  simp [hm,Instr.makeFunc]
 rw [r1]
 show wpOps P #[mk,df] Q [1] (a.put mk.dst _) w
 rw [hmd]
 have w2:Region.wanted df (yielded #[mk,df] (a.put (some t) (.func (.func g) #[] (caps.map a.eval))).tmps)=true:=by simp [Region.wanted,hdg]
 simp only [wpOps,List.getElem?_toArray,List.getElem?_cons_succ,List.getElem?_cons_zero,w2,if_true]
 left
 unfold Oper.wp
 have hv:(a.put (some t) (.func (.func g) #[] (caps.map a.eval))).eval (.tmp t)=.func (.func g) #[] (caps.map a.eval):=by
  show (a.tmps.setIfInBounds t _).getD t undef=_
  rw [getD_set ht,if_pos rfl]
 have r2:(execOp (a.put (some t) (.func (.func g) #[] (caps.map a.eval))).eval df).run P w=.ok (.defer { target:=.fn (.func g) (caps.map a.eval),args:=#[] }) w:=by
  unfold execOp
  simp [hd,resolve,hv,Deferred.ofValue]
 rw [r2]
 show Q .normal _ w
 rw [hdd]
 exact h
theorem opsS_one {P:Program} {ops:Array Oper} {Q:Exit→Act→List Frame→World→Prop} {i:Nat} {a:Act} {cs:List Frame} {w:World} (hl:∀ a w,¬ Q .outgrown a cs w) (h:wpOps P ops (fun e a' w'=>Q e a' cs w') [i] a w) :
  wpOpsS P ops Q [i] a cs w:=by
 simp only [wpOps,wpOpsS] at h ⊢
 cases ho:ops[i]? with
 | none=>simp only [ho] at h ⊢;exact h
 | some o =>
  simp only [ho] at h ⊢
  split
  ·rename_i hw
   rw [if_pos hw] at h
   rcases h with h | ⟨_,h⟩
   ·unfold Oper.wp at h
    generalize (execOp a.eval o).run P w=r at h
    split
    ·exact h.elim
    ·exact h
   ·obtain ⟨a0,w0,h⟩:=h
    exact (hl a0 w0 h).elim
  ·rename_i hw
   rw [if_neg hw] at h
   exact h
theorem closure_runs [Tabs] {C:Cx} (hT:CxOk C) {g:FuncId} {fn:Func} {id:Nat} {rc o1:Oper} {rest:Code} {t:Nat} (hf:C.P.funcs[g]?=some fn) (hb:fn.body=some ((Code.region id #[rc,o1] false).seq rest)) (hN:C.N=fn.ntmps) (hres:fn.results=#[]) {ats:Array TypeId}
  (hrc:rc.op=.call { callee:=.builtin .recover,args:=#[],argTypes:=ats }) (hrd:rc.dst=some t) (hrg:rc.guard=none) (htN:t<fn.ntmps)
  {F:Fr} (hF:F.fits C.pn) (hds:F.ds=[]) {env:Env} {H:Heap} {nx:Nat} {rv:AV} {stE:St} (hpx:∀ ch,¬ C.px ch)
  (hev:evOps C false [rc,o1] [o1] [(t,0,rv)] [] env H nx fun loc H nx=>flushK C.keep loc env [] fun env=>evCode C rest ⟨env,H,nx⟩ fun e st'=>match e with
   | .normal=>Wk C.pn C.N st' stE
   | _=>False)
  {m:Ids} {S:Blocks} {w:World} (hc:Core F m S w H nx) {args:Array Value} (hsz:args.size≤fn.ntmps) (henv:∀ s,RelV m S w ((args++Array.replicate (fn.ntmps-args.size) undef).getD s undef) (lk env s))
  {u u':FrameMode} {v:Value} (hv:RelV m S w v rv)
  (hrec:∀ (c₀:Frame) (cs:List Frame),c₀.mode=u→(match recoverD (c₀::cs) with
   | some (v',cs')=>v'=v∧cs'={ c₀ with mode:=u' }::cs
   | none=>v=.nilIface∧u'=u)) :
  CallsD C.P g args u w fun e u'' w'=>(∃ r,e=.returned r)∧u''=u'∧∃ a',Rel F C.N stE a' w':=by
 refine callsD_of_wpS hf hb fun c₀ cs hu=>?_
 have hsz0:(args++Array.replicate (fn.ntmps-args.size) undef).size=C.N:=by rw [hN];simp;omega
 -- what is left,once `recover()` gave its value
 have key:∀ (a:Act) (Q0:Exit→Act→World→Prop),a.tmps=((args++Array.replicate (fn.ntmps-args.size) undef).setIfInBounds t v)→a.defers=[] →
   (∀ a' w' st',Rel F C.N st' a' w'→(evCode C rest st' fun e st'=>match e with
    | .normal=>Wk C.pn C.N st' stE
    | _=>False)→Q0 .normal a' w')→wpOps C.P #[rc,o1] Q0 [1] a w:=by
  intro a Q0 ha hd hQ0
  have hl:[1]=List.range' 1 [o1].length:=rfl
  have hr0:RunI m S w C.N (args++Array.replicate (fn.ntmps-args.size) undef) [] env []:=⟨hsz0,fun s=>henv s,trivial⟩
  have hr1:=RunI.put (a:={ tmps:=args++Array.replicate (fn.ntmps-args.size) undef,defers:=[] }) (dst:=some t) hr0 (by simp [dstOk,notTag,Nat.blt_eq];omega) (.inl ⟨trivial,hv⟩)
  rw [hl]
  refine evOps_seq hT.tab (F:=F) (all:=[rc,o1]) [o1] 1 [(t,0,rv)] [] env H nx _ (fun j=>by rw [show 1+j=j+1 by omega,List.getElem?_cons_succ]) hev (fun m S w a loc stk H nx hk hc hr hd=>?_) (fun m S w a H nx ch hx _ _ _=>(hpx ch hx).elim) m S w a hc (by rw [ha];exact hr1) (by rw [hd,hds])
  obtain ⟨env',hq,he⟩:=flushK_sound hr _ _ _ hk (fun s=>.t _ _ (.undef _))
  exact hQ0 a w ⟨env',H,nx⟩ ⟨m,S,hc,hr.size,hd,he⟩ hq
 have fin:∀ (a:Act) (cs':List Frame),cs'={ c₀ with mode:=u' }::cs→a.tmps=((args++Array.replicate (fn.ntmps-args.size) undef).setIfInBounds t v)→a.defers=[] →
   wpOpsS C.P #[rc,o1] (Exit.thenS (rest.wpS C.P (bodyPostS C.P fn c₀ cs fun e u'' w'=>(∃ r,e=.returned r)∧u''=u'∧∃ a',Rel F C.N stE a' w')) (bodyPostS C.P fn c₀ cs fun e u'' w'=>(∃ r,e=.returned r)∧u''=u'∧∃ a',Rel F C.N stE a' w')) [1] a cs' w:=by
  intro a cs' hcs ha hd
  refine opsS_one (fun a w h=>?_) (key a _ ha hd fun a' w' st' h1 h2=>?_)
  ·obtain ⟨_,⟨r,hr⟩,_⟩:=h
   cases hr
  ·refine wpS_of_wp (wp_mono (evCode_sound hT hF rest st' _ h2 a' w' h1) fun e a'' w'' ⟨st'',h3,h4⟩=>?_)
   have h4:=orP_off hpx h4
   cases e with
   | normal =>
    have h5:=h4 F a'' w'' hF h3
    obtain ⟨_,_,_,_,hd5,_⟩:=h5
    obtain ⟨r,hr⟩:∃ r,(results fn a''.tmps).run C.P w''=.ok r w'':=by
     unfold results
     rw [hres]
     exact ⟨.tuple #[],by simp⟩
    exact ⟨by rw [hd5,hds],u',hcs,r,hr,⟨_,rfl⟩,rfl,a'',h4 F a'' w'' hF h3⟩
   | _=>exact h4.elim
 refine wpS_seq (wpS_region ?_)
 show wpOpsS C.P #[rc,o1] _ [0,1] _ (c₀::cs) w
 have w1:∀ tm,Region.wanted rc (yielded #[rc,o1] tm)=true:=fun tm=>by simp [Region.wanted,hrg]
 unfold wpOpsS
 simp only [List.getElem?_toArray,List.getElem?_cons_zero,w1,if_true]
 have r1:∀ ev:Operand→Value,(execOp ev rc).run C.P w=.ok .recover w:=fun ev=>by
  unfold execOp
  simp [hrc,resolve,invoke,builtin]
 rw [r1]
 have hh:=hrec c₀ cs hu
 cases hR:recoverD (c₀::cs) with
 | some p =>
  obtain ⟨v',cs'⟩:=p
  rw [hR] at hh
  obtain ⟨rfl,hcs⟩:=hh
  exact fin _ _ hcs (by rw [hrd];rfl) (by rw [hrd];rfl)
 | none =>
  rw [hR] at hh
  obtain ⟨rfl,rfl⟩:=hh
  exact fin _ _ (by subst hu;rfl) (by rw [hrd];rfl) (by rw [hrd];rfl)
def PureEnd (S:Blocks) (w:World) (R:List AR→Prop) (e:Ending) (w':World):Prop:=∃ us rs S',e=.returned (retVal us)∧R rs∧Left S w us rs S' w'
theorem ret_end [Tabs] {C:Cx} (hT:CxOk C) {fn:Func} {N:Nat} (hres:fn.results.size≤4) {S:Blocks} {w:World} {pin:Ids} {ds:List Deferred} {R:List AR→Prop} {st':St} {a':Act} {w':World}
  (hR:Rel ⟨w,fun _=>False,S,pin,ds⟩ N st' a' w') (hq:resK C.T fn.results.toList st' [] [] R):∃ v,(results fn a'.tmps).run C.P w'=.ok v w'∧PureEnd S w R (.returned v) w':=by
 obtain ⟨m,S',hc,hs,hd,hr⟩:=hR
 obtain ⟨rs,ids,h1,h2,h3,h4,h5,_,h7⟩:=resK_sound hT.tab hc.good hr _ _ _ _ hq
 have hlenv:(slotVals C.P fn.results.toList a' w').length=rs.length:=by rw [h2];simp [slotVals]
 refine ⟨_,run_results h7 hres,slotVals C.P fn.results.toList a' w',rs,S',rfl,by simpa using h1,⟨hlenv,fun j u r hu hr'=>?_,hc.far.below (fun k _ h=>h),hc.ro0,fun g hg=>(hc.ro g hg).elim .inl (fun h=>h.elim (fun h=>h.elim) .inr),fun g hg=>(hc.good.ro g hg).1,fun i u b k hu hb hk=>?_⟩⟩
 ·exact zt37
 ·exact zt20
theorem apure_d [Tabs] {C : Cx} {f : FuncId} {fn : Func} {code : Code} {args : List AV} {R : List AR → Prop} (hf : C.P.funcs[f]? = some fn) (hb : fn.body = some code) (hname : (fn.name == "runtime.NumGoroutine") = false)
  (hN:C.N=fn.ntmps) (hle:args.length≤fn.ntmps)
  (h:∀ (S:Blocks) (w:World) (a:Act),Rel ⟨w,fun _=>False,S,fun _=>none,[]⟩ C.N ⟨argEnv args 0,[],0⟩ a w→code.wp C.P (bodyPostD C.P fn (PureEnd S w R)) a w):APure C.P f args R:=by
 refine ⟨⟨fn,hf,by rw [hb];rfl,hname⟩,fun S w vs hS hTb ⟨hlen,hrel⟩=>calls_of_wp_defers hf hb ?_⟩
 refine h S w _ ?_
 exact zt12
theorem rel_defer [Tabs] {F:Fr} {N:Nat} {st:St} {a:Act} {w:World} {t:Nat} {v:Value} {d:Deferred} (h:Rel F N st a w) (ht:lk st.env t=.undef) :
  Rel ⟨F.w0,F.F0,F.S0,F.pin,d::F.ds⟩ N st { tmps:=a.tmps.setIfInBounds t v,defers:=d::a.defers } w:=by
 obtain ⟨m,S,hc,hs,hd,hr⟩:=h
 refine ⟨m,S,⟨hc.good,hc.free,hc.far,hc.owns,hc.ro,hc.ro0,hc.pins⟩,by simpa using hs,by show d::a.defers=d::F.ds;rw [hd],fun s=>?_⟩
 by_cases hlt:t<a.tmps.size
 ·show RelV m S w ((a.tmps.setIfInBounds t v).getD s undef) _
  rw [getD_set hlt]
  by_cases e:t=s
  ·subst e
   rw [if_pos rfl,ht]
   exact .t _ _ (.undef _)
  ·rw [if_neg e]
   exact hr s
 ·have:a.tmps.setIfInBounds t v=a.tmps:=by
   apply Array.ext
   ·simp
   ·intro i h1 h2
    rw [Array.getElem_setIfInBounds]
    rw [if_neg (by omega)]
  show RelV m S w ((a.tmps.setIfInBounds t v).getD s undef) _
  rw [this]
  exact hr s
def ptrE:List (Nat×Nat)→Env
 | []=>[]
 | (s,i)::r=>(s,.ptr i 0)::ptrE r
theorem lk_ptrE {k:Nat}:∀ {l:List (Nat×Nat)} {s:Nat},(∀ p∈l,p.2<k)→lk (ptrE l) s=.undef∨∃ i,lk (ptrE l) s=.ptr i 0∧i<k
 | [],s,_=>.inl rfl
 | (t,i)::r,s,h=>by
  show (match Nat.beq t s with | true=>AV.ptr i 0 | false=>lk (ptrE r) s)=_∨∃ j,(match Nat.beq t s with | true=>AV.ptr i 0 | false=>lk (ptrE r) s)=_∧_
  cases Nat.beq t s with
  | true=>exact .inr ⟨i,rfl,h (t,i) List.mem_cons_self⟩
  | false=>exact lk_ptrE fun p hp=>h p (List.mem_cons_of_mem _ hp)
def Fr.inner (F:Fr) (m:Ids) (k:Nat):Fr:=⟨F.w0,F.F0,F.S0,fun i=>if i<k then m i else none,[]⟩
theorem Fr.inner_fits (F:Fr) (m:Ids) (k:Nat):(F.inner m k).fits k:=by
 intro i v h
 have h:(if i<k then m i else none)=some v:=h
 split at h
 ·assumption
 ·cases h
theorem core_inner [Tabs] {F:Fr} {m:Ids} {S:Blocks} {w:World} {H:Heap} {nx:Nat} (h:Core F m S w H nx) (k:Nat):Core (F.inner m k) m S w H nx :=
 ⟨h.good,h.free,h.far,h.owns,h.ro,h.ro0,fun i v hi=>by
  have hi:(if i<k then m i else none)=some v:=hi
  split at hi
  ·exact hi
  ·cases hi⟩
theorem rel_back [Tabs] {F:Fr} {N:Nat} {m:Ids} {S:Blocks} {w:World} {a:Act} {l:List (Nat×Nat)} {k:Nat} (hl:∀ p∈l,p.2<k) (hs:a.tmps.size=N) (hr:∀ s,RelV m S w (a.tmps.getD s undef) (lk (ptrE l) s))
  {N':Nat} {st:St} {a':Act} {w':World} (h:Rel (F.inner m k) N' st a' w'):Rel (F.inner m k) N ⟨ptrE l,st.heap,st.nx⟩ { tmps:=a.tmps,defers:=[] } w':=by
 obtain ⟨m',S',hc,_,_,_⟩:=h
 refine ⟨m',S',hc,hs,rfl,fun s=>?_⟩
 have h1:=hr s
 show RelV m' S' w' (a.tmps.getD s undef) (lk (ptrE l) s)
 rcases lk_ptrE (s:=s) hl with e | ⟨i,e,hi⟩
 ·rw [e];exact .t _ _ (.undef _)
 ·rw [e] at h1 ⊢
  generalize a.tmps.getD s undef=v at h1
  cases h1 with
  | t _ _ h=>cases h
  | ptr id off g hm=>exact .ptr i 0 g (hc.pins i _ (by show (if i<k then m i else none)=_;rw [if_pos hi,hm]))
def flatV:AV→Bool
 | .bool _=>true
 | .int _ _=>true
 | .str _=>true
 | .nils=>true
 | _=>false
theorem flatV_rel {a:AV} (h:flatV a=true) {m m':Ids} {S S':Blocks} {w w':World} {v:Value} (hr:RelV m S w v a):RelV m' S' w' v a:=by
 cases a<;>simp only [flatV,Bool.false_eq_true] at h
 all_goals
  cases hr with
  | t _ _ h=>exact .t _ _ (by cases h;constructor<;>assumption)
def Fr.aside (S:Blocks) (w:World) (m:Ids) (H:Heap) (ds:List Deferred):Fr:=⟨w,own m H,S,fun _=>none,ds⟩
theorem core_aside [Tabs] {F:Fr} {m:Ids} {S:Blocks} {w:World} {H:Heap} {nx:Nat} (h:Core F m S w H nx) (K:List Nat) (ds:List Deferred):Core (Fr.aside S w m (deads K H) ds) m S w (deads K H) nx:=by
 have hl:∀ i,(lkH (deads K H) i).live=true→(lkH H i).live=true∧lkH (deads K H) i=lkH H i:=by
  intro i hi
  rw [lkH_deads] at hi ⊢
  split at hi
  ·cases hi
  ·rename_i hn
   rw [if_neg hn]
   exact ⟨hi,rfl⟩
 refine ⟨⟨fun id=>?_,fun i j vi vj k h1 h2=>h.good.sep i j vi vj k (hl i h1).1 (hl j h2).1,fun g hg=>⟨(h.good.ro g hg).1,fun i v hi=>(h.good.ro g hg).2 i v (hl i hi).1⟩,h.good.tab⟩,h.free,Far.refl _ _,fun k hk=>.inl hk,fun g hg=>.inl hg,fun g hg=>hg,fun i v hi=>by cases hi⟩
 rw [lkH_deads]
 split
 ·trivial
 ·exact h.good.rel id
theorem core_keep [Tabs] {F:Fr} (hF0:∀ g,¬ F.F0 g) (hT0:TabAt F.S0 F.w0) (hS0:∀ g,F.S0 g→g<F.w0.heap.size) {m:Ids} {S:Blocks} {w:World} {H:Heap} {nx:Nat} (h:Core F m S w H nx) {K:List Nat} {H3:Heap} (hH3:∀ id,lkH H3 id=if id∈K then lkH H id else .dead)
  (hflat:∀ id,id∈K→∃ e l,lkH H id=.cells e l∧∀ a∈l,flatV a=true) {w':World} (hfar:Far (own m (deads K H)) w w') (k:Nat):Core (F.inner m k) m F.S0 w' H3 nx:=by
 have hlive:∀ i,(lkH H3 i).live=true→i∈K∧(lkH H i).live=true:=by
  intro i hi
  rw [hH3] at hi
  split at hi
  ·rename_i hk;exact ⟨hk,hi⟩
  ·cases hi
 have hnS:∀ g,F.S0 g→¬ own m (deads K H) g:=by
  rintro g hg ⟨i,v,h1,h2,h3⟩
  rw [lkH_deads] at h1
  split at h1
  ·cases h1
  ·exact (h.good.ro g (h.ro0 g hg)).2 i v h1 h2 h3
 have hblk:∀ g,F.S0 g→w'.heap[g]?=F.w0.heap[g]?:=by
  intro g hg
  rw [hfar.block g (h.good.ro g (h.ro0 g hg)).1 (hnS g hg)]
  exact h.far.block g (hS0 g hg) (hF0 g)
 refine ⟨⟨fun id=>?_,fun i j vi vj k h1 h2=>h.good.sep i j vi vj k (hlive i h1).2 (hlive j h2).2,fun g hg=>⟨Nat.lt_of_lt_of_le (h.good.ro g (h.ro0 g hg)).1 hfar.size,fun i v hi=>(h.good.ro g (h.ro0 g hg)).2 i v (hlive i hi).2⟩,hT0.mono (fun _ h=>h) hblk⟩,h.free,?_,?_,fun g hg=>.inl hg,fun g hg=>hg,fun i v hi=>?_⟩
 ·rw [hH3]
  split
  ·rename_i hk
   obtain ⟨e,l,hl,hfl⟩:=hflat id hk
   have hrel:=h.good.rel id
   rw [hl] at hrel ⊢
   obtain ⟨g,cs,h1,h2,h3,h4,h5⟩:=hrel
   have hg:g<w.heap.size:=(Array.getElem?_eq_some_iff.1 h2).1
   refine ⟨g,cs,h1,?_,h3,h4,fun j c a hc ha=>flatV_rel (hfl a (List.mem_of_getElem? ha)) (h5 j c a hc ha)⟩
   rw [hfar.block g hg ?_]
   ·exact h2
   rintro ⟨i,v,hi1,hi2,hi3⟩
   rw [lkH_deads] at hi1
   split at hi1
   ·cases hi1
   ·rename_i hn
    have:i=id:=h.good.sep i id v _ g hi1 (by rw [hl];rfl) hi2 h1 hi3 rfl
    exact hn (this ▸ hk)
  ·trivial
 ·refine h.far.trans hfar fun i hi ⟨j,v,h1,h2,h3⟩=>?_
  rw [lkH_deads] at h1
  split at h1
  ·cases h1
  ·rcases h.owns i ⟨j,v,h1,h2,h3⟩ with h | h
   ·exact h
   ·omega
 ·rintro k ⟨i,v,h1,h2,h3⟩
  exact h.owns k ⟨i,v,(hlive i h1).2,h2,h3⟩
 ·have hi:(if i<k then m i else none)=some v:=hi
  split at hi
  ·exact hi
  ·cases hi
theorem zt55 {p:Prop}(h:p:=by
 obtain ⟨hn,hk⟩:=h4 r hR
 obtain ⟨rv,rt,rw,rn⟩:=r
 exact evOps_seqT hT hput rest (i+1) _ stk' env _ _ k hall' (pushK_iff.1 (putK_iff.1 hk)) hQ hP m' S' w' _ (hc.step hE hn) ((hr'.ext hc hE).put hdst (.inl ⟨hg,hV⟩)) (hdp v) (hKp v)):p:=h
theorem evOps_seqT [Tabs] {C:Cx} (hT:TabOk C.P C.T) {det:Bool} {F:Fr} {all:List Oper} {Q:Exit→Act→World→Prop} {K:Array Value→Prop} (hput:∀ (a:Act) (o:Oper) (v:Value),o∈all→K a.tmps→K (a.put o.dst v).tmps):∀ (rest:List Oper) (i:Nat) (loc:Loc) (stk:List Lay) (env:Env) (H:Heap) (nx:Nat) (k:Loc→Heap→Nat→Prop),(∀ j,rest[j]?=all[i+j]?)→evOps C det all rest loc stk env H nx k →
  (∀ (m:Ids) (S:Blocks) (w:World) (a:Act) (loc:Loc) (stk:List Lay) (H:Heap) (nx:Nat),k loc H nx→Core F m S w H nx→RunI m S w C.N a.tmps loc env stk→a.defers=F.ds→K a.tmps→Q .normal a w) →
  (∀ (m:Ids) (S:Blocks) (w:World) (a:Act) (H:Heap) (nx:Nat) (ch:List PanicEntry),C.px ch→Core F m S w H nx→a.tmps.size=C.N→a.defers=F.ds→K a.tmps→Q (.panic ch) a w) →
  ∀ (m:Ids) (S:Blocks) (w:World) (a:Act),Core F m S w H nx→RunI m S w C.N a.tmps loc env stk→a.defers=F.ds→K a.tmps→wpOps C.P all.toArray Q (List.range' i rest.length) a w
 | [],i,loc,stk,env,H,nx,k,_,h,hQ,_,m,S,w,a,hc,hr,hd,hK=>hQ m S w a loc stk H nx h hc hr hd hK
 | o::rest,i,loc,stk,env,H,nx,k,hall,h,hQ,hP,m,S,w,a,hc,hr,hd,hK=>by
  have hmem:o∈all:=by
   have:=hall 0
   exact List.mem_of_getElem? (i:=i) (by simpa using this.symm)
  have hKp:∀ v,K (a.put o.dst v).tmps:=fun v=>hput a o v hmem hK
  have hi:all.toArray[i]?=some o:=by
   have:=hall 0
   simpa using this.symm
  have hall':∀ j,rest[j]?=all[i+1+j]?:=fun j=>by
   exact zt177
  obtain ⟨stk',loc',h,hr',hwant,hdep,_⟩:=enter_sound h hr
  rw [List.length_cons,List.range'_succ]
  simp only [wpOps,hi]
  split at h
  ·exact h.elim
  ·rename_i hdst
   have skip:∀ (v:AV),¬ gOk (topG stk')→(∀ (hr2:RunI m S w C.N (a.put o.dst undef).tmps (putLoc o.dst stk'.length v loc') env stk'),wpOps C.P all.toArray Q (List.range' (i+1) rest.length) (a.put o.dst undef) w) →
     (if Region.wanted o (yielded all.toArray a.tmps)=true then o.wp C.P a w (wpOps C.P all.toArray Q (List.range' (i+1) rest.length)) Q∨(o.asks C.P a w∧LetsOut Q) else wpOps C.P all.toArray Q (List.range' (i+1) rest.length) (a.put o.dst undef) w):=by
    exact zt151
   have hdp:∀ (v:Value),(a.put o.dst v).defers=F.ds:=by
    intro v
    cases hdo:o.dst<;>simp [Act.put,hd]
   unfold stepK at h
   by_cases hg:gOk (topG stk')
   ·rw [if_pos (hwant.2 hg)]
    left
    split at h
    ·rename_i c x y ho
     obtain ⟨av,hk,hrun⟩:=evPick_sound (m:=m) (S:=S) (w:=w) (N:=C.N) (P:=C.P) ho h
     obtain ⟨v,he,hv⟩:=hrun a hr hr' hg
     unfold Oper.wp
     rw [he,Oper.upon_value]
     exact evOps_seqT hT hput rest (i+1) _ stk' env H nx k hall' (pushK_iff.1 (putK_iff.1 hk)) hQ hP m S w _ hc (hr'.put hdst (.inl ⟨hg,hv⟩)) (hdp v) (hKp v)
    ·split at h
     ·rename_i b hb
      have hg':=gated_some hb
      have hbt:b=true:=by rw [hg'] at hg;exact hg
      obtain ⟨touch,Rr,h1,h2,h3,h4⟩:=evOp_sound hT (h.1 hbt)
      refine h1 trivial m S w a H _ Q hc.good (fun _ _=>rfl) (fun i hi _=>hc.free i hi) (fun u hu _=>?_) (fun r hR v m' S' w' hE hV=>?_) (fun ch hx m' S' w' wr hE=>hP m' S' w' a (wr++H) nx ch hx (hc.step hE (Nat.le_refl _)) hr'.size hd hK)
      ·exact zt94
      ·exact zt55
     obtain ⟨touch,Rr,h1,h2,h3,h4⟩:=evOp_sound hT h
     refine h1 hg m S w a H _ Q hc.good (fun _ _=>rfl) (fun i hi _=>hc.free i hi) (fun u hu _=>?_) (fun r hR v m' S' w' hE hV=>?_) (fun ch hx m' S' w' wr hE=>hP m' S' w' a (wr++H) nx ch hx (hc.step hE (Nat.le_refl _)) hr'.size hd hK)
     ·exact zt94
     ·exact zt55
   ·split at h
    ·rename_i c x y ho
     obtain ⟨av,hk,_⟩:=evPick_sound (m:=m) (S:=S) (w:=w) (N:=C.N) (P:=C.P) ho h
     exact skip av hg fun hr2=>evOps_seqT hT hput rest (i+1) _ stk' env H nx k hall' (pushK_iff.1 (putK_iff.1 hk)) hQ hP m S w _ hc hr2 (hdp undef) (hKp undef)
    ·split at h
     ·rename_i b hb
      have hg':=gated_some hb
      have hbf:b=false:=by
       exact zt159
      exact skip .undef hg fun hr2=>evOps_seqT hT hput rest (i+1) _ stk' env H nx k hall' (pushK_iff.1 (putK_iff.1 (h.2 hbf))) hQ hP m S w _ hc hr2 (hdp undef) (hKp undef)
     obtain ⟨touch,Rr,h1,h2,h3,h4⟩:=evOp_sound hT h
     obtain ⟨r,hR,hwr,hnx⟩:=h2 hg
     obtain ⟨_,hk⟩:=h4 r ((hR r).2 rfl)
     obtain ⟨rv,rt,rw,rn⟩:=r
     simp only at hwr hnx
     subst hwr
     subst hnx
     refine skip rv hg fun hr2=>?_
     exact evOps_seqT hT hput rest (i+1) _ stk' env _ _ k hall' (pushK_iff.1 (putK_iff.1 hk)) hQ hP m S w _ hc hr2 (hdp undef) (hKp undef)
def keepsB (ops:List Oper) (L:List Nat):Bool:=ops.all fun o=>match o.dst with
 | none=>true
 | some d=>L.all fun s=>!Nat.beq d s
def Kept (L:List Nat) (a a':Act):Prop:=∀ s∈L,a'.tmps.getD s undef=a.tmps.getD s undef
theorem Kept.trans {L:List Nat} {a b c:Act} (h:Kept L a b) (h':Kept L b c):Kept L a c:=fun s hs=>(h' s hs).trans (h s hs)
theorem region_kept [Tabs] {C:Cx} (hT:TabOk C.P C.T) {id:Nat} {ops:Array Oper} {st:St} {Q:St→Prop} (h:evRegion C ops st Q) {L:List Nat} (hL:keepsB ops.toList L=true) {F:Fr} {a:Act} {w:World} (hr:Rel F C.N st a w) :
  (Code.region id ops false).wp C.P (fun e a' w'=>(∃ st',Rel F C.N st' a' w'∧regQ C.px Q e st')∧Kept L a a') a w:=by
 obtain ⟨m,S,hc,hs,hd,hrel⟩:=hr
 refine wp_region ?_
 obtain ⟨env,H,nx⟩:=st
 have:=evOps_seqT hT (F:=F) (all:=ops.toList) (K:=fun tm=>∀ s∈L,tm.getD s undef=a.tmps.getD s undef) (Q:=fun e a' w'=>(∃ st',Rel F C.N st' a' w'∧regQ C.px Q e st')∧Kept L a a') (fun b o v ho hk s hsL=>?_) ops.toList 0 [] [] env H nx _ (by simp) h ?_ (fun m S w a H nx ch hx hc hs hd hk=>⟨⟨⟨[],H,nx⟩,⟨m,S,hc,hs,hd,fun s=>.t _ _ (.undef _)⟩,hx⟩,hk⟩) m S w a hc (Rel.run (F:=F) (st:=⟨env,H,nx⟩) hs hrel) hd (fun s _=>rfl)
 ·rw [range'_eq]
  simpa using this
 ·cases hdo:o.dst with
  | none=>exact hk s hsL
  | some d =>
   have h1:=List.all_eq_true.1 hL o ho
   rw [hdo] at h1
   have h2:=List.all_eq_true.1 h1 s hsL
   have hne:d≠s:=fun e=>by subst e;simp at h2
   show (b.tmps.setIfInBounds d v).getD s undef=_
   rw [← hk s hsL]
   simp [Array.getD_eq_getD_getElem?,Array.getElem?_setIfInBounds,hne]
 ·intro m S w a loc stk H nx hk hc hr hd hK
  obtain ⟨env',hq,he⟩:=flushK_sound hr _ _ _ hk (fun s=>.t _ _ (.undef _))
  exact ⟨⟨⟨env',H,nx⟩,⟨m,S,hc,hr.size,hd,he⟩,hq⟩,hK⟩
theorem ptr_move {m m':Ids} {S S':Blocks} {w w':World} {v:Value} {i:Nat} (h:RelV m S w v (.ptr i 0)) (hm:∀ u,m i=some u→m' i=some u):RelV m' S' w' v (.ptr i 0):=by
 cases h with
 | t _ _ h=>cases h
 | ptr id off g hg=>exact .ptr i 0 g (hm _ hg)
theorem caps3 {m:Ids} {S:Blocks} {w:World} {v0 v1 v2:Value} {i0 i1 i2 n:Nat} (h0:RelV m S w v0 (.ptr i0 0)) (h1:RelV m S w v1 (.ptr i1 0)) (h2:RelV m S w v2 (.ptr i2 0)) (s:Nat) :
  RelV m S w ((#[v0,v1,v2]++Array.replicate n undef).getD s undef) (lk [(0,.ptr i0 0),(1,.ptr i1 0),(2,.ptr i2 0)] s):=by
 have e:∀ j,(#[v0,v1,v2]++Array.replicate n undef).getD j undef=if j=0 then v0 else if j=1 then v1 else if j=2 then v2 else undef:=by
  intro j
  rw [Array.getD_eq_getD_getElem?,Array.getElem?_append]
  match j with
  | 0=>rfl
  | 1=>rfl
  | 2=>rfl
  | j+3 =>
   rw [if_neg (by simp),if_neg (by omega),if_neg (by omega),if_neg (by omega),Array.getElem?_replicate]
   split<;>rfl
 rw [e]
 match s with
 | 0=>exact h0
 | 1=>exact h1
 | 2=>exact h2
 | s+3=>exact .t _ _ (.undef _)
theorem zp6 {p:Prop} (h:p:=by first | exact flat_val _ rfl | exact flat_row (fun _=>rfl) | exact flat_lst (fun _=>rfl)):p:=h
theorem zp61 {p:Prop} (h:p:=by repeat (first | exact flats_nil | refine flats_cons zp6 ?_)):p:=h
theorem cO [Tabs] {P:Program} {px:List PanicEntry→Prop} {f:FuncId} {avs:List AV} {H:Heap} {nx:Nat} {g:Option Bool} {det:Bool} {k:Res→Prop} {args':List AV} {touch:List Nat} {rs:List AR} (hc:gOk g→APure P f args' (fun r=>r=rs))
  (hk:takeR rs nx [] [] fun vs wr n=>k ⟨valR vs,touch,wr,n⟩) (hb:BorL (Lend H) avs args' touch:=by repeat (first | exact .nil | (apply BorL.cons;first | exact lS rfl | exact lR rfl | exact lM rfl rfl | exact lL rfl | exact lX rfl | exact lN | exact lNl | exact lSm rfl | exact lIm rfl | exact lGm rfl | exact lP rfl | exact lQ rfl | exact lB rfl rfl rfl))) (hflat:touch=[]∨∀ r∈rs,r.flat:=by first | exact .inl rfl | exact .inr zp61)
  (hg:g.getD true=true∨tw rs nx=[]:=by first | exact .inr rfl | exact .inl rfl):CallG P px f avs H nx g det k:=.one args' touch rs hc hb hflat hg hk
theorem cF [Tabs] {P:Program} {px:List PanicEntry→Prop} {f:FuncId} {avs:List AV} {H:Heap} {nx:Nat} {g:Option Bool} {det:Bool} {k:Res→Prop} (args':List AV) {touch:List Nat} (rs:List AR)
  (hk:takeR rs nx [] [] fun vs wr n=>k ⟨valR vs,touch,wr,n⟩) (hc:gOk g→APure P f args' (fun r=>r=rs):=by exact fun h=>(by have h0:(false:Bool)=true:=h;cases h0)) (hb:BorL (Lend H) avs args' touch:=by repeat (first | exact .nil | (apply BorL.cons;first | exact lS rfl | exact lR rfl | exact lM rfl rfl | exact lL rfl | exact lX rfl | exact lN | exact lNl | exact lSm rfl | exact lIm rfl | exact lGm rfl | exact lP rfl | exact lQ rfl | exact lB rfl rfl rfl))) (hflat:touch=[]∨∀ r∈rs,r.flat:=by first | exact .inl rfl | exact .inr zp61)
  (hg:g.getD true=true∨tw rs nx=[]:=by first | exact .inr rfl | exact .inl rfl):CallG P px f avs H nx g det k:=.one args' touch rs hc hb hflat hg hk
theorem zp36 {p:Prop} (h:p:=by first | exact .refl _ | exact .newgmap _ _ _ _ _ _ _ rfl rfl | exact .newimap _ _ _ _ _ _ _ rfl rfl | exact .smap _ _ _ _ _ _ rfl rfl):p:=h
theorem cR [Tabs] {P:Program} {px:List PanicEntry→Prop} {f:FuncId} {avs avs':List AV} {H:Heap} {nx:Nat} {g:Option Bool} {det:Bool} {k:Res→Prop} {objs:List AB} {V:List AV} {B E:List AB} {p:Nat} (h:RIO P f avs' objs p (fun vs bs es=>vs=V∧bs=B∧es=E)) (ids:List Nat)
  (hk:k ⟨valR (V.map (renA (rnI (ids.take p) nx))),ids,zipH (ids.take p) (B.map (renB (rnI (ids.take p) nx)))++deads (ids.drop p) (rowH nx (E.map (renB (rnI (ids.take p) nx)))),nx+E.length⟩)
  (ha:avs=avs'.map (renA (rnI ids nx)):=by exact rfl) (hn:nodupB ids=true:=by exact rfl) (hlt:allB (ids.map fun i=>Nat.blt i nx)=true:=by exact rfl) (ho:eqObjs H (rnI ids nx) ids objs:=by repeat (first | exact trivial | refine And.intro zp36 ?_)) (hB:B.length=(ids.take p).length:=by exact rfl) (hd:g.getD true=true:=by exact rfl) :
  CallG P px f avs H nx g det k :=
 .raw ids _ hd (fun _=>⟨⟨_,ids,_,_⟩,fun _=>Iff.rfl,rfl⟩) (rio_one h ids ha hn hlt ho hB) (by rintro _ rfl;exact ⟨Nat.le_add_right _ _,hk⟩)
theorem gT {g:Bool} {A B:Prop} (h:A) (hg:g=true:=by exact rfl):(g=true→A)∧(g=false→B):=⟨fun _=>h,fun e=>by rw [hg] at e;cases e⟩
theorem gF {g:Bool} {A B:Prop} (h:B) (hg:g=false:=by exact rfl):(g=true→A)∧(g=false→B):=⟨fun e=>(by rw [hg] at e;cases e),fun _=>h⟩
theorem om0 {p:Prop} (h:p:=by omega):p:=h
theorem cW {p q:Prop} (k:q) (h:q→p:=by intro h;(conv=>whnf);exact h):p:=h k
theorem dd0 {p:Prop} (h:p:=by decide):p:=h
theorem nD {p A q B:Prop} (h:B) (hp:¬ p:=by exact fun h=>absurd h (by decide)):(p→A)∧(q→B):=⟨fun x=>(hp x).elim,fun _=>h⟩
theorem nE {p A q B:Prop} (h:A) (hq:¬ q:=by exact fun h=>absurd h (by decide)):(p→A)∧(q→B):=⟨fun _=>h,fun x=>(hq x).elim⟩
theorem iO {p q r:Prop} (h:r) (hp:p∧q:=by exact ⟨by omega,by omega⟩):(p∧q)∧r:=⟨hp,h⟩
theorem aO [Tabs] {C:Cx} {f:FuncId} {fn:Func} {code:Code} {args:List AV} {R:List AR→Prop} (hT:CxOk C) (hf:C.P.funcs[f]?=some fn) (h:evCode C code ⟨argEnv args 0,[],0⟩ (retQ C.T fn.results R)) (hb:fn.body=some code:=by exact rfl)
  (hname : (fn.name == "runtime.NumGoroutine") = false := by decide) (hN : C.N = fn.ntmps := by exact rfl) (hle : args.length ≤ fn.ntmps := by exact Nat.le_of_ble_eq_true rfl) (hres : fn.results.size ≤ 4 := by decide) (hpx : ∀ ch, ¬ C.px ch := by exact fun _ h => h) : APure C.P f args R :=
 apure_of hT hf hb hname hN hle hres h hpx
theorem aW [Tabs] {C:Cx} {f:FuncId} {fn:Func} {code:Code} {args:List AV} {R:List AR→Prop} (hT:CxOk C) (hf:C.P.funcs[f]?=some fn) (h:evCode C code ⟨argEnv args 0,[],0⟩ (wkQ C.pn C.N (retQ C.T fn.results R))) (hb:fn.body=some code:=by exact rfl)
  (hname : (fn.name == "runtime.NumGoroutine") = false := by decide) (hN : C.N = fn.ntmps := by exact rfl) (hle : args.length ≤ fn.ntmps := by exact Nat.le_of_ble_eq_true rfl) (hres : fn.results.size ≤ 4 := by decide) (hpx : ∀ ch, ¬ C.px ch := by exact fun _ h => h) : APure C.P f args R :=
 apure_ofw hT hf hb hname hN hle hres h hpx
theorem rO [Tabs] {C:Cx} {f:FuncId} {fn:Func} {code:Code} {avs:List AV} {objs:List AB} {R:List AV→List AB→List AB→Prop} (hT:CxOk C) (hf:C.P.funcs[f]?=some fn)
  (h : evCode C code ⟨argEnv avs 0, rowH 0 objs, objs.length⟩ (retR C.T C.pn C.N C.pn fn.results R)) (hb : fn.body = some code := by exact rfl) (hname : (fn.name == "runtime.NumGoroutine") = false := by decide) (hN : C.N = fn.ntmps := by exact rfl)
  (hle:avs.length≤fn.ntmps:=by exact Nat.le_of_ble_eq_true rfl) (hres:fn.results.size≤4:=by decide) (hobj:allB (objs.map fun b=>b.live&&okB (List.range objs.length) b)=true:=by exact rfl) (hpn:Nat.ble C.pn objs.length=true:=by exact rfl)
  (hav:allB (avs.map (okA (List.range objs.length)))=true:=by exact rfl) (hpx:∀ ch,¬ C.px ch:=by exact fun _ h=>h):RIO C.P f avs objs C.pn R:=rio_of hT hf hb hname hN hle hres hobj hpn hav h hpx
theorem xO [Tabs] {C:Cx} {f:FuncId} {fn:Func} {code:Code} {avs:List AV} {objs:List AB} {R:List AV→List AB→List AB→Prop} (hT:CxOk C) (hf:C.P.funcs[f]?=some fn)
  (h : evCode C code ⟨argEnv avs 0, rowH 0 objs, objs.length⟩ (retR C.T C.pn C.N C.pn fn.results R)) (hb : fn.body = some code := by exact rfl) (hname : (fn.name == "runtime.NumGoroutine") = false := by decide) (hN : C.N = fn.ntmps := by exact rfl)
  (hle:avs.length≤fn.ntmps:=by exact Nat.le_of_ble_eq_true rfl) (hres:fn.results.size≤4:=by decide) (hobj:allB (objs.map fun b=>b.live&&okB (List.range objs.length) b)=true:=by exact rfl) (hpn:Nat.ble C.pn objs.length=true:=by exact rfl)
  (hav:allB (avs.map (okA (List.range objs.length)))=true:=by exact rfl):RIOX C.P f avs objs C.pn R C.px:=riox_of hT hf hb hname hN hle hres hobj hpn hav h
theorem zp7 {p:Prop} (h:p:=by repeat (first | exact .nil | refine .cons (by exact .ptr _ _ _ rfl) ?_)):p:=h
theorem zp60 {p:Prop} (h:p:=by first | exact .base (.tree _ _ rfl rfl) | exact .base (.own _ _ rfl) | exact .base (.ptr _ _ _ rfl) | exact .base (.map _ _ rfl) | exact .base (.nilown _ rfl) | exact .fn _ _ _ _ _ .nil zp7):p:=h
theorem aa0 {p:Prop} (h:p:=by repeat (first | exact .nil | refine .cons zp60 ?_)):p:=h
theorem ab0 {p:Prop} (h:p:=by repeat (first | exact trivial | refine And.intro zp36 ?_)):p:=h
theorem ac0 {p:Prop} (h:p:=by repeat (first | exact .nil | refine .cons (by first | exact .tree _ _ rfl rfl | exact .ptr _ _ _ rfl | exact .own _ _ rfl) ?_)):p:=h
theorem ad0 {p:Prop} (h:p:=by first | exact cxOk _ _ | exact cxPOk _ _ _ | exact cxXOk _ _ _ _):p:=h
theorem ae0 {p:Prop} (h:p:=by first | exact .row _ _ _ _ _ _ _ rfl rfl | exact .lstrow _ _ _ _ _ _ _ rfl rfl | exact .nilrow _ _ _ _ _ rfl | exact .truncrow _ _ _ _ _ _ _ _ rfl (by omega) rfl):p:=h
theorem af0 {p:Prop} (h:p:=by first | (simp only [List.length_append,List.length_cons,List.length_nil];omega) | omega | (simp;omega)):p:=h
theorem ag0 {p:Prop} (h:p:=by first | exact .base (.own _ _ rfl) | exact .base (.nilown _ rfl) | exact .base (.trunc _ _ _ rfl)):p:=h
theorem ah0 {p:Prop} (h:p:=by first | exact .inr rfl | exact .inl rfl):p:=h
theorem ai0 {p:Prop} (h:p:=by first | exact .inl rfl | exact .inr zp61):p:=h
theorem zp1 {p:Prop} (h:p:=by repeat (first | exact .nil | (apply BorL.cons;first | exact .same _ rfl | exact .row _ _ _ _ _ _ rfl | exact .lstrow _ _ _ _ _ _ _ rfl rfl | exact .lst _ _ _ _ rfl | exact .smap _ _ _ _ rfl | exact .imap _ _ _ _ _ rfl | exact .gmap _ _ _ _ _ rfl | exact .boxt _ _ _ rfl rfl rfl))):p:=h
theorem zp11 {p:Prop} (h:p:=by first | exact allOne_spec rfl | simp [AV.one]):p:=h
theorem zp0 {p:Prop} (h:p:=by repeat (first | exact .nil | (apply BorL.cons;first | exact .base (.same _ rfl) | exact .base (.row _ _ _ _ _ _ rfl) | exact .base (.smap _ _ _ _ rfl) | exact .base (.imap _ _ _ _ _ rfl) | exact .base (.gmap _ _ _ _ _ rfl) | exact .box _ _ _ _ _ _ rfl zp1 zp11 | exact .fn _ _ _ _ _ _ _ zp1 zp1))):p:=h
theorem zp57 {p:Prop} (h:p:=by repeat (first | exact .nil | (apply BorL.cons;first | exact .base (.base (.same _ rfl)) | exact .base (.base (.row _ _ _ _ _ _ rfl)) | exact .base (.base (.smap _ _ _ _ rfl)) | exact .base (.base (.imap _ _ _ _ _ rfl)) | exact .base (.base (.gmap _ _ _ _ _ rfl)) | exact .base (.base (.nils _ _ _)) | exact .base (.base (.lstrow _ _ _ _ _ _ _ rfl rfl)) | exact .box _ _ _ _ _ _ rfl zp0 zp11 | exact .fn _ _ _ _ _ _ _ zp0 zp0))):p:=h
theorem aj0 {p:Prop} (h:p:=by repeat (first | exact .nil | (apply BorL.cons;first | exact lS rfl | exact lR rfl | exact lM rfl rfl | exact lL rfl | exact lX rfl | exact lN | exact lNl | exact lSm rfl | exact lIm rfl | exact lGm rfl | exact lP rfl | exact lQ rfl | exact lB rfl rfl rfl | exact .fn _ _ _ _ _ _ _ zp57 zp57 | exact .box _ _ _ _ _ _ rfl zp57 zp11 | exact .agg _ _ _ zp57))):p:=h
theorem ak0 {p:Prop} (h:p:=by first | omega | (simp;omega)):p:=h
theorem al0 {p:Prop} (h:p:=by repeat (first | exact .nil | (apply BorL.cons;first | exact lS rfl | exact lR rfl | exact lM rfl rfl | exact lL rfl | exact lX rfl | exact lN | exact lNl | exact lSm rfl | exact lIm rfl | exact lGm rfl | exact lP rfl | exact lQ rfl | exact lB rfl rfl rfl))):p:=h
theorem am0 {p:Prop} (h:p:=by repeat (first | exact .nil | refine .cons (by first | exact .base (.tree _ _ rfl rfl) | exact .base (.own _ _ rfl) | exact .base (.ptr _ _ _ rfl) | exact .base (.map _ _ rfl) | exact .base (.nilown _ rfl) | exact .fn _ _ _ _ _ .nil zp7 | exact .base (.tree _ _ (LeT.nils_lsl 5 rfl) rfl) | exact .base (.leT _ _ (LeT.nils_lsl 5 rfl) rfl)) ?_)):p:=h
theorem an0 {p:Prop} (h:p:=by first | decide | exact fun _=>by decide):p:=h
theorem ao0 {p:Prop} (h:p:=by first | exact allOne_spec rfl | simp [AV.one]):p:=h
theorem wa0 {p:Prop} (h:p:=by exact .base (.tree _ _ rfl rfl)):p:=h
theorem wb0 {p:Prop} (h:p:=by exact ⟨_,rfl,.cells _ _ _ _ rfl aa0 rfl⟩):p:=h
theorem wc0 {p:Prop} (h:p:=by exact .base (.ptr _ _ _ rfl)):p:=h
theorem wd0 {p:Prop} (h:p:=by exact ⟨_,rfl,.cells _ _ _ _ rfl (by repeat (first | exact .nil | refine .cons zp60 ?_)) rfl⟩):p:=h
theorem we0 {p:Prop} (h:p:=by exact ⟨_,rfl,(by first | exact .row _ _ _ _ _ _ _ rfl rfl | exact .lstrow _ _ _ _ _ _ _ rfl rfl | exact .nilrow _ _ _ _ _ rfl | exact .truncrow _ _ _ _ _ _ _ _ rfl (by omega) rfl)⟩):p:=h
theorem wf0 {p:Prop} (h:p:=by exact ⟨_,rfl,.cells _ _ _ _ rfl am0 rfl⟩):p:=h
theorem wg0 {p:Prop} (h:p:=by exact .base (.own _ _ rfl)):p:=h
theorem wh0 {p:Prop} (h:p:=by exact .base (.nilown _ rfl)):p:=h
theorem wi0 {p:Prop} (h:p:=by exact .base (.trunc _ _ _ rfl)):p:=h
variable {P:Program} {ρ:Go.Shelf.Ren}
open Go.Proofs Go.Shelf Go.ChangeShapes Go.WideShapes Go.RowKit
theorem row_lifted_laid [Tabs] {C:Checked} {P:Program} (hC:C.prog=P) {os:Os} {f:FuncId} {fn:Func} {s:ChangeSpec} {conds:List PathCond} {H:Type} {enc:TypeId×Value→H} {tb:TypeId} (laid:List (String×DataW Unit)) {Qs:List (AV→Prop)}
  (own:ownKnob P.godebug=none) (started:os.Started) (noInit:P.inits.idxOf? f=none) (hfn:P.funcs[f]?=some fn)
  (witness:∃ (w:World) (tape:Tape) (i:Input),w.os=os∧(w.forCall tape i).Shaped P∧i.vars=[]∧Input.okWide P (w.forCall tape i) .any w.heap.size f i ∧
   ((s.pre enc P fn conds false (w.forCall tape i).memory i.args∧laidMet P laid (w.forCall tape i).memory)∧sizedMet enc P fn (OpenSpec.ofChange s) false (w.forCall tape i).memory i.args)∧({}:Assume).holds P (lone (Frame.enter P f i.args .normal) [] (w.forCall tape i)))
  (hl:laidOutB P=true) (hsv:s.vars=[]) (hr:(fn.params.toList.all fun t=>P.readableRec t&&decide (t<P.types.size))=true)
  (hres:fn.resultTypes=#[tb]) (htb:P.underlying tb=some .bool) (hspec:∀ ds:List (DataW H),ds.length=fn.params.size→s.fn H (ds++[])={ results:=[.lit (.bool true)],args:=ds })
  (hQ:OpVs P fn.params.toList Qs) (hA:∀ avs,Alls Qs avs→APureV P f avs (.bool true)) (hTb:∀ W,laidMet P laid W→TabAt (All W) W) :
  ReturnsInHanded {} C os f .any (fun w args=>(s.pre enc P fn conds false w args∧laidMet P laid w)∧sizedMet enc P fn (OpenSpec.ofChange s) false w args) (s.post enc P fn false true false false):=by
 subst hC
 refine returnsInHanded_of_change_and (X:=fun w _=>laidMet C.prog laid w) (fun _ _ _ hh h=>h.of_heap hh) own started noInit hfn witness ?_
 intro W base args ds gs before hval0 hW hcnd _ hLd _
 have hval:∀ (j:Nat) t v,fn.params[j]?=some t→args[j]?=some v→Value.okWide C.prog W .any base t v:=hval0
 have hW':=hW
 obtain ⟨p,q,hA0,hV,rfl,hfz,hnd⟩:=hW
 have hA1:DataW.TrodAll enc C.prog W 0 (fun _=>true) true fn.params.toList args.toList ds p:=hA0
 rw [hsv] at hV
 obtain ⟨rfl,rfl⟩:=trodVars_none hV
 obtain ⟨avs,h1,h2⟩:=opens_list fn.params.toList Qs args.toList ds p hQ (fun j t v h1 h2=>hval j t v zp28 zp33) hA1
 have hlen:∀ (ts:List TypeId) (vs:List Value) (ds:List (DataW H)) (ps:List MemPlace),DataW.TrodAll enc C.prog W 0 (fun _=>true) true ts vs ds ps→ds.length=ts.length:=by
  intro ts
  induction ts with
  | nil=>intro vs ds ps h;obtain ⟨_,rfl,_⟩:=trodAll_nil h;rfl
  | cons t ts ih =>
   intro vs ds ps h
   obtain ⟨v,vs',d,ds',p,q,rfl,rfl,rfl,_,h2⟩:=trodAll_cons h
   simp [ih _ _ _ h2]
 have hr':∀ t∈fn.params.toList,C.prog.readableRec t=true∧t<C.prog.types.size:=by
  intro t ht
  have:=List.all_eq_true.1 hr t ht
  simpa using this
 exact row_of_apure hl hsv hW' hr' hres htb (hspec ds (by simpa using hlen _ _ _ _ hA1)) (hTb W hLd) (hA avs h1) h2
variable {P:Program} {ρ:Go.Shelf.Ren}
end Go.Own
