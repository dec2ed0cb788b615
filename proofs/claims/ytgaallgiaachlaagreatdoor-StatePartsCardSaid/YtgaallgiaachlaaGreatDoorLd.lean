import Derived.Test.YtgaallgiaachlaaGreatDoorLc
import Derived.Recover
import Derived.Shelf.Strings.OnBuilder
import Derived.Shelf.Strconv.Itoa3
import Derived.Shelf.Strings.Split
import Derived.Shelf.Strings.Prefix
import Derived.Shelf.Vars
namespace Go.Own
inductive StopG [Tabs] (P:Program) (px:List PanicEntry→Prop) (f:FuncId) (avs:List AV) (H:Heap) (nx:Nat) (k:List Nat→Prop):Prop
 | mk (touch:List Nat) (Px:List PanicEntry→Prop) (hc:CallSemX P f avs H nx touch (fun _=>False) Px) (hp:∀ ch,Px ch→px ch) (hk:k touch)
def evStop [Tabs] (C:Cx) (rd:Operand→AV) (H:Heap) (nx:Nat) (o:Oper) (k:List Nat→Prop):Prop :=
 match o.op with
 | .call c=>match c.callee with
  | .value fop=>match rd fop with
   | .fn (.func f) first cap=>forceL (first++c.args.toList.map rd++cap) fun avs=>StopG C.P C.px f avs H nx k
   | _=>False
  | _=>False
 | _=>False
theorem evStop_sound [Tabs] {C:Cx} {rd:Operand→AV} {H:Heap} {nx:Nat} {o:Oper} {k:List Nat→Prop} (h:evStop C rd H nx o k) :
  ∃ touch,OpSemX C.P C.px o (usesOf rd o) H nx touch (fun _=>False)∧k touch:=by
 unfold evStop at h
 split at h
 ·rename_i c ho
  obtain ⟨callee,args,ats⟩:=c
  simp only at h
  split at h
  ·rename_i fop
   split at h
   ·rename_i f first cap hf
    rw [forceL_iff] at h
    obtain ⟨touch,Px,hc,hp,hk⟩:=h
    refine ⟨touch,opsem_uses (sem_callx ho hf hc hp) ?_,hk⟩
    have hops:o.op.operands.toList=fop::args.toList:=by rw [ho];simp [Op.operands,Call.operands]
    exact uses_all (l:=fop::args.toList) (by rw [hops];simp)
   ·exact h.elim
  ·exact h.elim
 ·exact h.elim
def strayB (T:Tab) (N:Nat) (pre:List Oper) (env:Env) (o:Oper):Bool :=
 match o.op,o.guard,o.dst with
 | .alloc t,none,some d=>(match lkT T t with
  | some _=>true
  | none=>false)&&Nat.blt d N&&(pre.all fun o'=>match o'.dst with
   | none=>true
   | some d'=>!Nat.beq d' d)&&(match lk env d with
   | .undef=>true
   | _=>false)
 | _,_,_=>false
theorem strayB_spec {T:Tab} {N:Nat} {pre:List Oper} {env:Env} {o:Oper} (h:strayB T N pre env o=true) :
  ∃ t d i,o.op=.alloc t∧o.guard=none∧o.dst=some d∧lkT T t=some i∧d<N∧(∀ o'∈pre,o'.dst≠some d)∧lk env d=.undef:=by
 unfold strayB at h
 split at h
 ·rename_i t d h1 h2 h3
  simp only [Bool.and_eq_true] at h
  obtain ⟨⟨⟨ha,hb⟩,hc⟩,hd⟩:=h
  split at ha
  ·rename_i i hi
   refine ⟨t,d,i,h1,h2,h3,hi,by simpa [Nat.blt_eq] using hb,fun o' ho' e=>?_,?_⟩
   ·have:=List.all_eq_true.1 hc o' ho'
    rw [e] at this
    simp at this
   ·split at hd
    ·assumption
    ·cases hd
  ·cases ha
 ·cases h
def lateB (T:Tab) (N:Nat) (env:Env) (ops:List Oper) (p:Nat):Bool:=(((masksF ops []).zip ops).drop (p+1)).all fun m=>Nat.testBit m.1 p||strayB T N (ops.take (p+1)) env m.2
theorem masksF_len:∀ (l:List Oper) (ms:List Nat),(masksF l ms).length=ms.length+l.length
 | [],ms=>rfl
 | o::l,ms=>by rw [masksF,masksF_len l];simp;omega
theorem lateB_spec {T:Tab} {N:Nat} {env:Env} {ops:Array Oper} {p:Nat} (h:lateB T N env ops.toList p=true) {E:Nat→Bool} (hE:Closed ops E) {j:Nat} {o:Oper} (hj:p<j) (ho:ops[j]?=some o) (hp:Preds E o):E p=true∨strayB T N (ops.toList.take (p+1)) env o=true:=by
 have hlt:j<ops.size:=(Array.getElem?_eq_some_iff.1 ho).1
 have hlen:=masksF_len ops.toList []
 have hb:(((masksF ops.toList []).getD j 0).testBit p||strayB T N (ops.toList.take (p+1)) env o)=true:=by
  unfold lateB at h
  rw [List.all_eq_true] at h
  have hjl:j<(masksF ops.toList []).length:=by rw [hlen];simpa using hlt
  rw [List.getD_eq_getElem?_getD,List.getElem?_eq_getElem hjl]
  refine h ((masksF ops.toList [])[j],o) ?_
  rw [List.mem_iff_getElem?]
  refine ⟨j-(p+1),?_⟩
  rw [List.getElem?_drop,show p+1+(j-(p+1))=j by omega,List.getElem?_zip_eq_some]
  exact ⟨List.getElem?_eq_getElem hjl,by simpa using ho⟩
 rcases Bool.or_eq_true_iff.1 hb with hb | hb
 rotate_left
 ·exact .inr hb
 left
 refine masksF_spec hE ops.toList [] (fun k=>by simp) (fun j i h=>by simp at h) j p hb fun o' ho' e he hbe=>?_
 rw [ho] at ho'
 cases ho'
 exact hp e he hbe
def StopAt [Tabs] (C:Cx) (ops:Array Oper) (p:Nat) (sg:Sig) (env:Env) (H:Heap) (nx:Nat):Prop :=
 match ops.toList[p]? with
 | none=>False
 | some o=>match dstOk C.N o.dst [] with
  | false=>False
  | true=>gateP ops.toList env o.guard (evStop C (rdOp [] env) H nx o fun touch=>ordB ops ((o,touch,[])::sg)=true∧lateB C.T C.N env ops.toList p=true) False
theorem evOpsD_soundP [Tabs] {C:Cx} (hT:TabOk C.P C.T) {ops:Array Oper} {env0:Env} {H0:Heap} {nx0:Nat} {k:Sig→Env→Heap→Nat→Prop}:∀ (rest:List Oper) (R:List Rec),Hist C ops env0 H0 nx0 R→(∀ j x,rest[j]?=some x→ops[R.length+j]?=some x) →
  evOpsD C ops.toList rest (envR env0 R) (heapR H0 R) (nxR nx0 R) (R.map sigOf) k →
  ∃ R',Hist C ops env0 H0 nx0 R'∧R'.length=R.length+rest.length∧k (R'.map sigOf) (envR env0 R') (heapR H0 R') (nxR nx0 R')
 | [],R,hH,_,h=>⟨R,hH,rfl,h⟩
 | o::rest,R,hH,hl,h=>by
  unfold evOpsD at h
  split at h
  ·exact h.elim
  ·rename_i hd
   have hidx:ops[R.length]?=some o:=hl 0 o rfl
   have hnext:∀ (r:Rec) j x,rest[j]?=some x→ops[(r::R).length+j]?=some x:=by
    intro r j x hx
    have:=hl (j+1) x (by rw [List.getElem?_cons_succ];exact hx)
    rw [List.length_cons,show R.length+1+j=R.length+(j+1) by omega]
    exact this
   have hdst:∀ d,o.dst=some d→d<C.N:=by
    intro d hd'
    simp only [dstOk,hd',Bool.and_eq_true] at hd
    simpa [Nat.blt_eq] using hd.1
   rcases gateK_sound h with ⟨hw,h⟩ | ⟨hsk,h⟩
   ·obtain ⟨touch,Rr,h1,_,h3,h4⟩:=evOpD_sound hT h
    obtain ⟨r,hr,ht⟩:=h3 rfl
    obtain ⟨hn,hk⟩:=h4 r ((hr r).2 rfl)
    obtain ⟨v,touch',wr,n1⟩:=r
    simp only at hk ht
    subst ht
    rw [idsK_iff] at hk
    have hRr:Rr=fun r'=>r'=⟨v,touch',wr,n1⟩:=funext fun r'=>propext (hr r')
    subst hRr
    have hsem:=h1 trivial
    refine (evOpsD_soundP hT rest (⟨o,v,touch',wr,nxR nx0 R,n1⟩::R) ⟨hH,hidx,hdst,rfl,hn,.inl ⟨hw,hsem⟩⟩ (hnext _) ?_).imp fun R' h=>⟨h.1,by have:=h.2.1;simp at this ⊢;omega,h.2.2⟩
    exact pushK_iff.1 (putEK_iff.1 hk)
   ·refine (evOpsD_soundP hT rest (⟨o,.skip,[],[],nxR nx0 R,nxR nx0 R⟩::R) ⟨hH,hidx,hdst,rfl,Nat.le_refl _,.inr ⟨hsk,rfl,rfl,rfl⟩⟩ (hnext _) ?_).imp fun R' h=>⟨h.1,by have:=h.2.1;simp at this ⊢;omega,h.2.2⟩
    exact pushK_iff.1 (putEK_iff.1 (idsK_iff.1 h))
section
variable {C:Cx} {ops:Array Oper} {env:Env} {H:Heap} {nx:Nat} {R:List Rec} {E:Nat→Bool} {r:Rec} {B:List Rec}
theorem stepStop [Tabs] {F:Fr} {m:Ids} {S:Blocks} {H₂:Heap} {a:Act} {w:World} {K:Act→World→Prop} {Q:Exit→Act→World→Prop} (h:At C ops env H nx R E r B) (hI:InvD C F env H nx R E m S H₂ a w)
  (hw:Want ops (envR env B) r.o) (hsem:OpSemX C.P C.px r.o (usesOf (rdOp [] (envR env B)) r.o) (heapR H B) r.n0 r.touch (fun _=>False))
  (hP:∀ (m':Ids) (S':Blocks) (H':Heap) (w':World) (ch:List PanicEntry),C.px ch→Core F m' S' w' H' (nxR nx R)→Q (.panic ch) a w') :
  Region.wanted r.o (yielded ops a.tmps)=true∧r.o.wp C.P a w K Q:=by
 obtain ⟨hHB,hidx,hdst,hn0,hn01,_⟩:=h.hist.suffix h.here
 have slot:∀ t,t∈looksOf ops.toList r.o→RelV m S w (a.tmps.getD t undef) (lk (envR env B) t):=by
  intro t ht
  have:=hI.tmps t
  rwa [h.read fun r' hn=>clash_read ht (fE_dst hn),← lk_envR] at this
 have gate:∀ {j:Nat} {pol:Bool} {oj:Oper} {t:Nat},r.o.guard=some (j,pol)→ops[j]?=some oj→oj.dst=some t→Region.wanted r.o (yielded ops a.tmps)=(yieldT a.tmps t == some pol):=by
  intro j pol oj t hg hj ht
  have hy:yielded ops a.tmps j=yieldT a.tmps t:=by
   unfold yielded yieldT
   rw [hj]
   simp [ht]
   rfl
  simp only [Region.wanted,hg,hy]
 refine ⟨?_,?_⟩
 ·rcases hw with hg | ⟨j,pol,oj,t,hg,hj,ht,hl⟩
  ·simp [Region.wanted,hg]
  ·rw [gate hg hj ht]
   have hsl:=slot t (looks_guard hg (by simpa using hj) ht)
   rw [hl] at hsl
   rw [yieldT_eq (relV_bool hsl)]
   simp
 refine hsem m S w a H₂ K Q hI.good (fun id hid=>?_) (fun i hi hlt=>?_) (fun u hu _=>?_) ?_ (fun ch hx m' S' w' wr hE=>hP m' S' _ w' ch hx ((hI.core h.hist).step (hE.flat _) (Nat.le_refl _)))
 ·rw [hI.heap id,lkH_heapR]
  exact h.read fun r' hn=>clash_touch hid hn
 ·obtain ⟨r',h',_⟩:=hlt
  exact h'.elim
 ·obtain ⟨x,hx,rfl⟩:=List.mem_map.1 hu
  cases x with
  | tmp s =>
   have:=hI.tmps s
   rw [h.read fun r' hn=>clash_read (looks_mem hx rfl) (fE_dst hn),← lk_envR] at this
   exact this
  | const v=>exact .t _ _ (relT_avOf S w v)
  | global g=>exact .t _ _ (.undef _)
  | func f=>exact .t _ _ (.fn _ _ _ _ _ rfl rfl (fun j c x hj=>by simp at hj) (fun j c x hj=>by simp at hj))
 ·rintro r' h'
  exact h'.elim
end
theorem alloc_run [Tabs] {P:Program} {T:Tab} (hT:TabOk P T) {t:TypeId} {i:TI} (hi:lkT T t=some i) {o:Oper} (ho:o.op=.alloc t) (ev:Operand→Value) (w:World):∃ v row,(execOp ev o).run P w=.ok (.value v) (w.alloc row):=by
 obtain ⟨_,j,hj,_,_,hz⟩:=hT t i hi
 refine ⟨.pointer (some ⟨w.heap.size,0,none⟩),.cells i.zero.cells t,?_⟩
 unfold execOp
 simp [ho,Instr.alloc,zeroValue,typeInfo,hj,hz,newVar,newRow]
theorem stepStray [Tabs] {C:Cx} (hT:TabOk C.P C.T) {F:Fr} {ops:Array Oper} {env:Env} {H:Heap} {nx:Nat} {R:List Rec} (hH:Hist C ops env H nx R) {E:Nat→Bool} {m:Ids} {S:Blocks} {H₂:Heap} {a:Act} {w:World} (hI:InvD C F env H nx R E m S H₂ a w)
  {o:Oper} {j:Nat} (hj:R.length≤j) {env':Env} (hs:strayB C.T C.N (ops.toList.take R.length) env' o=true) (he:∀ s,(∀ r B,(r::B) <:+ R→r.o.dst≠some s)→lk env' s=lk env s)
  {K:Act→World→Prop} {Q:Exit→Act→World→Prop} (hK:∀ m' S' H' a' w',InvD C F env H nx R (setE E j) m' S' H' a' w'→K a' w') :
  Region.wanted o (yielded ops a.tmps)=true∧o.wp C.P a w K Q:=by
 obtain ⟨t,d,i,h1,h2,h3,h4,h5,h6,h7⟩:=strayB_spec hs
 refine ⟨by simp [Region.wanted,h2],?_⟩
 obtain ⟨v,row,hrun⟩:=alloc_run hT h4 h1 a.eval w
 have hE:∀ r B,(r::B) <:+ R→E B.length=setE E j B.length:=by
  intro r B hr
  have:=hr.length_le
  simp only [List.length_cons] at this
  unfold setE
  rw [if_neg (by omega)]
 have hnd:∀ r B,(r::B) <:+ R→r.o.dst≠some d:=by
  intro r B hr
  obtain ⟨_,hidx,_⟩:=hH.suffix hr
  have hl:=hr.length_le
  simp only [List.length_cons] at hl
  refine h6 _ (List.mem_iff_getElem?.2 ⟨B.length,?_⟩)
  rw [List.getElem?_take,if_pos (by omega)]
  simpa using hidx
 have e:=ext_below (nx:=nxR nx R) hI.good ((RowKit.Below.refl _ w).alloc (Nat.le_refl _) row)
 have hc:=(hI.core hH).step e (Nat.le_refl _)
 unfold Oper.wp
 rw [hrun]
 refine hK m S H₂ (a.put o.dst v) (w.alloc row) ⟨hc.good,hc.far,hc.owns,hc.ro,hc.ro0,hc.pins,fun i hi=>?_,fun id=>?_,?_,?_,fun s=>?_⟩
 ·rcases hI.free i hi with h1 | ⟨r',B',h',hE',h1⟩
  ·exact .inl h1
  ·exact .inr ⟨r',B',h',by rw [← hE r' B' h'];exact hE',h1⟩
 ·rw [← lay_congr (E:=E) fun r B hr _=>hE r B hr]
  exact hI.heap id
 ·rw [h3];simp [Act.put,hI.size]
 ·rw [h3];simp [Act.put,hI.defers]
 ·have hlt:d<a.tmps.size:=by rw [hI.size];exact h5
  rw [h3]
  show RelV m S (w.alloc row) ((a.tmps.setIfInBounds d v).getD s undef) _
  rw [getD_set hlt]
  by_cases es:d=s
  ·subst es
   rw [if_pos rfl,lay_cut (List.nil_suffix) fun r B hr _ hn=>(hnd r B hr (fE_dst hn)).elim]
   show RelV m S (w.alloc row) v (lk env d)
   rw [← he d hnd,h7]
   exact .t _ _ (.undef _)
  ·rw [if_neg es,← lay_congr (E:=E) fun r B hr _=>hE r B hr]
   exact e.relV hI.good (hI.tmps s)
theorem stopLoop [Tabs] {C:Cx} (hT:TabOk C.P C.T) {F:Fr} {ops:Array Oper} {env:Env} {H:Heap} {nx:Nat} {rp:Rec} {R:List Rec} (hH:Hist C ops env H nx (rp::R)) (hO:ordB ops ((rp::R).map sigOf)=true)
  (hW:Want ops (envR env R) rp.o) (hS:OpSemX C.P C.px rp.o (usesOf (rdOp [] (envR env R)) rp.o) (heapR H R) rp.n0 rp.touch (fun _=>False)) (hL:lateB C.T C.N (envR env R) ops.toList R.length=true) {Q:Exit→Act→World→Prop}
  (hP:∀ (m:Ids) (S:Blocks) (H':Heap) (a:Act) (w:World) (ch:List PanicEntry),C.px ch→Core F m S w H' (nxR nx (rp::R))→a.tmps.size=C.N→a.defers=F.ds→Q (.panic ch) a w) :
  ∀ (fuel:Nat) (listed:Array Bool) m S H₂ a w,listed.size=ops.size→listed.toList.count false=fuel→Closed ops (fun i=>listed.getD i false)→listed.getD R.length false=false→InvD C F env H nx (rp::R) (fun i=>listed.getD i false) m S H₂ a w →
   wpAny C.P .any ops Q fuel listed a w:=by
 have hplt:R.length<ops.size:=by
  have:=hH.2.1
  exact (Array.getElem?_eq_some_iff.1 this).1
 have done:∀ (listed:Array Bool),listed.size=ops.size→listed.getD R.length false=false→Region.ready .any ops listed=[]→False:=by
  intro listed hs hp h0
  have all:∀ j,j≤R.length→listed.getD j false=true:=by
   intro j
   induction j using Nat.strongRecOn with
   | _ j ih =>
    intro hj
    cases hb:listed.getD j false with
    | true=>rfl
    | false =>
     exfalso
     obtain ⟨r,B,hr,hB⟩:=nth_suffix (R:=rp::R) (j:=j) (by simp;omega)
     obtain ⟨_,hidx,_⟩:=hH.suffix hr
     have hed:=edgesB_spec (ordR_spec hO r B hr).1
     have:j∈Region.ready .any ops listed:=by
      rw [mem_ready]
      refine ⟨?_,r.o,by rw [← hB];exact hidx,fun e he hbe=>?_⟩
      ·have hlt:j<listed.size:=by omega
       simp [Array.getD,hlt] at hb ⊢
       exact hb
      ·have hlt:=hed e (by simpa using he) hbe
       exact ih e.on (by omega) (by omega)
     rw [h0] at this
     simp at this
  have:=all R.length (Nat.le_refl _)
  rw [hp] at this
  cases this
 intro fuel
 induction fuel with
 | zero =>
  intro listed m S H₂ a w hs hc hcl hp hI
  have h0:Region.ready .any ops listed=[]:=by
   apply List.eq_nil_iff_forall_not_mem.2
   intro j hj
   obtain ⟨h1,o,ho,_⟩:=mem_ready.1 hj
   have hlt:j<listed.size:=by rw [hs];exact (Array.getElem?_eq_some_iff.1 ho).1
   simp [Array.getD,hlt] at h1
   have:false∈listed.toList:=by rw [← h1];simp
   have:=List.count_pos_iff.2 this
   omega
  exact (done listed hs hp h0).elim
 | succ fuel ih =>
  intro listed m S H₂ a w hs hc hcl hp hI
  refine ⟨fun h0=>(done listed hs hp h0).elim,fun j hj=>?_⟩
  obtain ⟨h1,o,ho,hpre⟩:=mem_ready.1 hj
  have hlt:j<ops.size:=(Array.getElem?_eq_some_iff.1 ho).1
  have hls:j<listed.size:=by omega
  have hf:listed[j]=false:=by simpa [Array.getD,hls] using h1
  unfold wpOp
  rw [ho]
  rcases Nat.lt_trichotomy j R.length with hjp | hjp | hjp
  ·obtain ⟨r,B,hr,hB⟩:=nth_suffix (R:=rp::R) (j:=j) (by simp;omega)
   obtain ⟨_,hidx,_⟩:=hH.suffix hr
   have hro:o=r.o:=by rw [hB,ho] at hidx;cases hidx;rfl
   subst hro
   have hat:At C ops env H nx (rp::R) (fun i=>listed.getD i false) r B:=⟨hH,hO,hcl,hr,by simp [hB,hls,hf],hpre⟩
   have next:∀ m' S' H' a' w',InvD C F env H nx (rp::R) (setE (fun i=>listed.getD i false) B.length) m' S' H' a' w'→wpAny C.P .any ops Q fuel (listed.setIfInBounds j true) a' w':=?next
   rcases stepD (Q:=Q) hat hI next (fun m' S' H' w' ch hx hc=>hP m' S' H' a w' ch hx hc hI.size hI.defers) with ⟨hw,hst⟩ | ⟨hw,hst⟩
   ·simp only [hw,if_true]
    exact .inl hst
   ·simp only [hw,if_false,Bool.false_eq_true]
    exact hst
   intro m' S' H' a' w' hI'
   rw [hB,← setE_eq hls] at hI'
   refine ih _ m' S' H' a' w' (by simp [hs]) ?_ ?_ ?_ hI'
   ·rw [Array.toList_setIfInBounds,List.count_set (by simpa using hls)]
    have:listed.toList[j]'(by simpa using hls)=false:=by simpa using hf
    rw [this]
    have hc':listed.toList.count false=fuel+1:=hc
    rw [hc']
    rfl
   ·rw [setE_eq hls]
    exact closed_set hcl ho hpre
   ·have:=congrFun (setE_eq hls) R.length
    rw [this]
    unfold setE
    rw [if_neg (by omega)]
    exact hp
  ·subst hjp
   have hro:o=rp.o:=by have:=hH.2.1;rw [ho] at this;cases this;rfl
   subst hro
   have hat:At C ops env H nx (rp::R) (fun i=>listed.getD i false) rp R:=⟨hH,hO,hcl,List.suffix_refl _,hp,hpre⟩
   obtain ⟨hw,hst⟩:=stepStop (K:=fun a' w'=>wpAny C.P .any ops Q fuel (listed.setIfInBounds R.length true) a' w') (Q:=Q) hat hI hW hS (fun m' S' H' w' ch hx hc=>hP m' S' H' a w' ch hx hc hI.size hI.defers)
   simp only [hw,if_true]
   exact .inl hst
  ·rcases lateB_spec hL hcl hjp ho hpre with this | hst
   ·rw [hp] at this
    cases this
   obtain ⟨hw,hst⟩:=stepStray hT hH hI (j:=j) (by simp;omega) (env':=envR env R) hst (fun s hs=>by
    rw [lk_envR,lay_cut (List.nil_suffix) fun r B hr _ hn=>(hs r B (hr.trans (List.suffix_cons _ _)) (fE_dst hn)).elim]
    rfl) (K:=fun a' w'=>wpAny C.P .any ops Q fuel (listed.setIfInBounds j true) a' w') (Q:=Q) (fun m' S' H' a' w' hI'=>by
    rw [← setE_eq hls] at hI'
    refine ih _ m' S' H' a' w' (by simp [hs]) ?_ ?_ ?_ hI'
    ·rw [Array.toList_setIfInBounds,List.count_set (by simpa using hls)]
     have:listed.toList[j]'(by simpa using hls)=false:=by simpa using hf
     rw [this]
     have hc':listed.toList.count false=fuel+1:=hc
     rw [hc']
     rfl
    ·rw [setE_eq hls]
     exact closed_set hcl ho hpre
    ·have:=congrFun (setE_eq hls) R.length
     rw [this]
     unfold setE
     rw [if_neg (by omega)]
     exact hp)
   simp only [hw,if_true]
   exact .inl hst
theorem DrawG.effp [Tabs] {C:Cx} (hC:CxOk C) {id:Nat} {ops:Array Oper} {env:Env} {H:Heap} {nx:Nat} {Q:St→Prop} (p:Nat)
  (h:evOpsD C ops.toList (ops.toList.take p) env H nx [] fun sg env H nx=>StopAt C ops p sg env H nx):DrawG C id ops env H nx Q:=by
 refine .any fun F a w _ ⟨m,S,hc,hs,hd,hrel⟩=>?_
 obtain ⟨R,hH,hlen,hk⟩:=evOpsD_soundP hC.tab (ops:=ops) (ops.toList.take p) [] trivial (fun j x hx=>by
  rw [List.getElem?_take] at hx
  split at hx
  ·simpa using hx
  ·cases hx) h
 unfold StopAt at hk
 split at hk
 ·exact hk.elim
 rename_i o ho
 split at hk
 ·exact hk.elim
 rename_i hdo
 have hop:ops[p]?=some o:=by simpa using ho
 have hplt:p<ops.size:=(Array.getElem?_eq_some_iff.1 hop).1
 have hRlen:R.length=p:=by
  rw [hlen]
  simp
  omega
 rcases gateP_sound hk with ⟨hw,hk⟩ | ⟨_,hk⟩
 rotate_left
 ·exact hk.elim
 obtain ⟨touch,hsem,hO,hL⟩:=evStop_sound hk
 have hdst:∀ d,o.dst=some d→d<C.N:=by
  intro d hd'
  simp only [dstOk,hd',Bool.and_eq_true] at hdo
  simpa [Nat.blt_eq] using hdo.1
 have hH':Hist C ops env H nx (⟨o,.undef,touch,[],nxR nx R,nxR nx R⟩::R) :=
  ⟨hH,by rw [hRlen];exact hop,hdst,rfl,Nat.le_refl _,.inl ⟨hw,fun m S w a H₂ K Q g1 g2 g3 g4 g5 g6=>hsem m S w a H₂ K Q g1 g2 (fun i hi hlt=>by obtain ⟨r',h',_⟩:=hlt;exact h'.elim) g4 (fun r hr=>hr.elim) g6⟩⟩
 refine wp_region_any hC.mixed ?_
 have e:=ext_below (nx:=nx) (w':={ w with drawn:=w.drawn+1 }) hc.good ⟨rfl,rfl,rfl,Nat.le_refl _,fun _ _=>rfl⟩
 have hc':=hc.step e (Nat.le_refl _)
 refine stopLoop hC.tab hH' hO hw hsem (by rw [hRlen];exact hL) (F:=F) (fun m S H' a w ch hx hc hs hd=>⟨⟨[],H',nxR nx R⟩,⟨m,S,hc,hs,hd,fun s=>.t _ _ (.undef _)⟩,hx⟩) ops.size _ m S H a _ (by simp) (by simp) ?_ (rep_false _ _) ⟨hc'.good,hc'.far,hc'.owns,hc'.ro,hc'.ro0,hc'.pins,fun i hi=>?_,fun id=>?_,hs,hd,fun s=>?_⟩
 ·intro j o ho hj
  have hj':(Array.replicate ops.size false).getD j false=true:=hj
  rw [rep_false] at hj'
  cases hj'
 ·left
  cases Nat.lt_or_ge i nx with
  | inl h=>exact h
  | inr h=>exact (hi (hc'.free i h)).elim
 ·have:lay (fH id) (lkH H id) (fun i=>(Array.replicate ops.size false).getD i false) (⟨o,.undef,touch,[],nxR nx R,nxR nx R⟩::R)=lkH H id:=by
   rw [lay_cut (List.nil_suffix) fun r B _ _ _=>rep_false _ _]
   rfl
  rw [this]
 ·have:lay (fE s) (lk env s) (fun i=>(Array.replicate ops.size false).getD i false) (⟨o,.undef,touch,[],nxR nx R,nxR nx R⟩::R)=lk env s:=by
   rw [lay_cut (List.nil_suffix) fun r B _ _ _=>rep_false _ _]
   rfl
  rw [this]
  exact e.relV hc.good (hrel s)
theorem RioR.imp {R R':List AV→List AB→List AB→Prop} {p:Nat} {ids:List Nat} {nx:Nat} (hr:∀ vs bs es,R vs bs es→R' vs bs es):∀ r,RioR R p ids nx r→RioR R' p ids nx r :=
 fun _ ⟨vs,bs,es,h,h'⟩=>⟨vs,bs,es,hr _ _ _ h,h'⟩
theorem RIOX.imp [Tabs] {P:Program} {f:FuncId} {avs:List AV} {objs:List AB} {p:Nat} {R R':List AV→List AB→List AB→Prop} {Px Px':List PanicEntry→Prop} (h:RIOX P f avs objs p R Px) (hr:∀ vs bs es,R vs bs es→R' vs bs es) (hp:∀ ch,Px ch→Px' ch):RIOX P f avs objs p R' Px' :=
 fun H nx ids h1 h2 h3 h4=>(h H nx ids h1 h2 h3 h4).mono (RioR.imp hr) hp
theorem RIOX.calm [Tabs] {P:Program} {f:FuncId} {avs:List AV} {objs:List AB} {p:Nat} {R R':List AV→List AB→List AB→Prop} {Px:List PanicEntry→Prop} (h:RIOX P f avs objs p R Px) (hr:∀ vs bs es,R vs bs es→R' vs bs es) (hp:∀ ch,¬ Px ch):RIO P f avs objs p R' :=
 fun H nx ids h1 h2 h3 h4=>((h H nx ids h1 h2 h3 h4).mono (RioR.imp hr) (fun _ h=>h)).calm hp
theorem RIO.imp [Tabs] {P:Program} {f:FuncId} {avs:List AV} {objs:List AB} {p:Nat} {R R':List AV→List AB→List AB→Prop} (h:RIO P f avs objs p R) (hr:∀ vs bs es,R vs bs es→R' vs bs es):RIO P f avs objs p R' :=
 fun H nx ids h1 h2 h3 h4=>((h H nx ids h1 h2 h3 h4).toX (Px:=fun _=>False)).mono (RioR.imp hr) (fun _ h=>h) |>.calm fun _ h=>h
theorem RIO.toX [Tabs] {P:Program} {f:FuncId} {avs:List AV} {objs:List AB} {p:Nat} {R:List AV→List AB→List AB→Prop} {Px:List PanicEntry→Prop} (h:RIO P f avs objs p R):RIOX P f avs objs p R Px :=
 fun H nx ids h1 h2 h3 h4=>(h H nx ids h1 h2 h3 h4).toX
theorem riox_stop [Tabs] {P:Program} {f:FuncId} {avs avs':List AV} {objs:List AB} {p:Nat} {Px:List PanicEntry→Prop} (h:RIOX P f avs objs p (fun _ _ _=>False) Px) {H:Heap} {nx:Nat} (ids:List Nat) (ha:avs'=avs.map (renA (rnI ids nx)))
  (hn:nodupB ids=true) (hlt:allB (ids.map fun i=>Nat.blt i nx)=true) (ho:eqObjs H (rnI ids nx) ids objs):CallSemX P f avs' H nx ids (fun _=>False) Px :=
 (riox_at h ids ha hn hlt ho).mono (fun _ ⟨_,_,_,h,_⟩=>h) fun _ h=>h
theorem CallG.stop [Tabs] {P:Program} {px:List PanicEntry→Prop} {f:FuncId} {avs:List AV} {H:Heap} {nx:Nat} {g:Option Bool} {k:Res→Prop} {touch:List Nat} {Px:List PanicEntry→Prop} (hd:g.getD true=true) (hc:CallSemX P f avs H nx touch (fun _=>False) Px) (hp:∀ ch,Px ch→px ch) :
  CallG P px f avs H nx g false k :=
 .pan touch (fun _=>False) Px hd (fun h=>by cases h) hc hp (fun _ h=>h.elim)
theorem wp_seq_ev [Tabs] {C:Cx} (hT:CxOk C) {F:Fr} (hF:F.fits C.pn) {x y:Code} {st st1:St} {Rr:St→Prop} {Q:Exit→Act→World→Prop}
  (h:evCode C x st (fun e st'=>match e with
   | .normal=>Wk C.pn C.N st' st1
   | .ret=>Rr st'
   | _=>False))
  (hpx:∀ ch,¬ C.px ch) (hy:∀ a w,Rel F C.N st1 a w→y.wp C.P Q a w) (hr:∀ a w st',Rel F C.N st' a w→Rr st'→Q .ret a w) :
  ∀ a w,Rel F C.N st a w→(x.seq y).wp C.P Q a w:=by
 intro a w hR
 refine wp_seq (wp_mono (evCode_sound hT hF x st _ h a w hR) fun e a' w' ⟨st',h1,h2⟩=>?_)
 have h2:=orP_off hpx h2
 cases e with
 | normal=>exact hy a' w' (h2 F a' w' hF h1)
 | ret=>exact hr a' w' st' h1 h2
 | _=>exact h2.elim
theorem wp_defer [Tabs] {P:Program} {id:Nat} {mk df:Oper} {t g:Nat} {caps:Array Operand} {ats:Array TypeId} {Q:Exit→Act→World→Prop} {a:Act} {w:World}
  (hm:mk.op=.makeFunc (.func g) #[] caps) (hmd:mk.dst=some t) (hmg:mk.guard=none) (hd:df.op=.defer { callee:=.value (.tmp t),args:=#[],argTypes:=ats }) (hdd:df.dst=none) (hdg:df.guard=none) (ht:t<a.tmps.size)
  (h:Q .normal { tmps:=a.tmps.setIfInBounds t (.func (.func g) #[] (caps.map a.eval)),defers:={ target:=.fn (.func g) (caps.map a.eval),args:=#[] }::a.defers } w) :
  (Code.region id #[mk,df] false).wp P Q a w:=by
 refine wp_region ?_
 show wpOps P #[mk,df] Q [0,1] a w
 have w1:Region.wanted mk (yielded #[mk,df] a.tmps)=true:=by simp [Region.wanted,hmg]
 simp only [wpOps,List.getElem?_toArray,List.getElem?_cons_zero,w1,if_true]
 left
 unfold Oper.wp
 have r1:(execOp a.eval mk).run P w=.ok (.value (.func (.func g) #[] (caps.map a.eval))) w:=by
  unfold execOp
  simp [hm,Instr.makeFunc]
 rw [r1]
 show wpOps P #[mk,df] Q [1] (a.put mk.dst _) w
 rw [hmd]
 have w2:Region.wanted df (yielded #[mk,df] (a.put (some t) (.func (.func g) #[] (caps.map a.eval))).tmps)=true:=by simp [Region.wanted,hdg]
 simp only [wpOps,List.getElem?_toArray,List.getElem?_cons_succ,List.getElem?_cons_zero,w2,if_true]
 left
 unfold Oper.wp
 have hv:(a.put (some t) (.func (.func g) #[] (caps.map a.eval))).eval (.tmp t)=.func (.func g) #[] (caps.map a.eval):=by
  show (a.tmps.setIfInBounds t _).getD t undef=_
  rw [getD_set ht,if_pos rfl]
 have r2:(execOp (a.put (some t) (.func (.func g) #[] (caps.map a.eval))).eval df).run P w=.ok (.defer { target:=.fn (.func g) (caps.map a.eval),args:=#[] }) w:=by
  unfold execOp
  simp [hd,resolve,hv,Deferred.ofValue]
 rw [r2]
 show Q .normal _ w
 rw [hdd]
 exact h
theorem opsS_one {P:Program} {ops:Array Oper} {Q:Exit→Act→List Frame→World→Prop} {i:Nat} {a:Act} {cs:List Frame} {w:World} (hl:∀ a w,¬ Q .outgrown a cs w) (h:wpOps P ops (fun e a' w'=>Q e a' cs w') [i] a w) :
  wpOpsS P ops Q [i] a cs w:=by
 simp only [wpOps,wpOpsS] at h ⊢
 cases ho:ops[i]? with
 | none=>simp only [ho] at h ⊢;exact h
 | some o =>
  simp only [ho] at h ⊢
  split
  ·rename_i hw
   rw [if_pos hw] at h
   rcases h with h | ⟨_,h⟩
   ·unfold Oper.wp at h
    generalize (execOp a.eval o).run P w=r at h
    split
    ·exact h.elim
    ·exact h
   ·obtain ⟨a0,w0,h⟩:=h
    exact (hl a0 w0 h).elim
  ·rename_i hw
   rw [if_neg hw] at h
   exact h
theorem closure_runs [Tabs] {C:Cx} (hT:CxOk C) {g:FuncId} {fn:Func} {id:Nat} {rc o1:Oper} {rest:Code} {t:Nat} (hf:C.P.funcs[g]?=some fn) (hb:fn.body=some ((Code.region id #[rc,o1] false).seq rest)) (hN:C.N=fn.ntmps) (hres:fn.results=#[]) {ats:Array TypeId}
  (hrc:rc.op=.call { callee:=.builtin .recover,args:=#[],argTypes:=ats }) (hrd:rc.dst=some t) (hrg:rc.guard=none) (htN:t<fn.ntmps)
  {F:Fr} (hF:F.fits C.pn) (hds:F.ds=[]) {env:Env} {H:Heap} {nx:Nat} {rv:AV} {stE:St} (hpx:∀ ch,¬ C.px ch)
  (hev:evOps C false [rc,o1] [o1] [(t,0,rv)] [] env H nx fun loc H nx=>flushK C.keep loc env [] fun env=>evCode C rest ⟨env,H,nx⟩ fun e st'=>match e with
   | .normal=>Wk C.pn C.N st' stE
   | _=>False)
  {m:Ids} {S:Blocks} {w:World} (hc:Core F m S w H nx) {args:Array Value} (hsz:args.size≤fn.ntmps) (henv:∀ s,RelV m S w ((args++Array.replicate (fn.ntmps-args.size) undef).getD s undef) (lk env s))
  {u u':FrameMode} {v:Value} (hv:RelV m S w v rv)
  (hrec:∀ (c₀:Frame) (cs:List Frame),c₀.mode=u→(match recoverD (c₀::cs) with
   | some (v',cs')=>v'=v∧cs'={ c₀ with mode:=u' }::cs
   | none=>v=.nilIface∧u'=u)) :
  CallsD C.P g args u w fun e u'' w'=>(∃ r,e=.returned r)∧u''=u'∧∃ a',Rel F C.N stE a' w':=by
 refine callsD_of_wpS hf hb fun c₀ cs hu=>?_
 have hsz0:(args++Array.replicate (fn.ntmps-args.size) undef).size=C.N:=by rw [hN];simp;omega
 -- what is left,once `recover()` gave its value
 have key:∀ (a:Act) (Q0:Exit→Act→World→Prop),a.tmps=((args++Array.replicate (fn.ntmps-args.size) undef).setIfInBounds t v)→a.defers=[] →
   (∀ a' w' st',Rel F C.N st' a' w'→(evCode C rest st' fun e st'=>match e with
    | .normal=>Wk C.pn C.N st' stE
    | _=>False)→Q0 .normal a' w')→wpOps C.P #[rc,o1] Q0 [1] a w:=by
  intro a Q0 ha hd hQ0
  have hl:[1]=List.range' 1 [o1].length:=rfl
  have hr0:RunI m S w C.N (args++Array.replicate (fn.ntmps-args.size) undef) [] env []:=⟨hsz0,fun s=>henv s,trivial⟩
  have hr1:=RunI.put (a:={ tmps:=args++Array.replicate (fn.ntmps-args.size) undef,defers:=[] }) (dst:=some t) hr0 (by simp [dstOk,notTag,Nat.blt_eq];omega) (.inl ⟨trivial,hv⟩)
  rw [hl]
  refine evOps_seq hT.tab (F:=F) (all:=[rc,o1]) [o1] 1 [(t,0,rv)] [] env H nx _ (fun j=>by rw [show 1+j=j+1 by omega,List.getElem?_cons_succ]) hev (fun m S w a loc stk H nx hk hc hr hd=>?_) (fun m S w a H nx ch hx _ _ _=>(hpx ch hx).elim) m S w a hc (by rw [ha];exact hr1) (by rw [hd,hds])
  obtain ⟨env',hq,he⟩:=flushK_sound hr _ _ _ hk (fun s=>.t _ _ (.undef _))
  exact hQ0 a w ⟨env',H,nx⟩ ⟨m,S,hc,hr.size,hd,he⟩ hq
 have fin:∀ (a:Act) (cs':List Frame),cs'={ c₀ with mode:=u' }::cs→a.tmps=((args++Array.replicate (fn.ntmps-args.size) undef).setIfInBounds t v)→a.defers=[] →
   wpOpsS C.P #[rc,o1] (Exit.thenS (rest.wpS C.P (bodyPostS C.P fn c₀ cs fun e u'' w'=>(∃ r,e=.returned r)∧u''=u'∧∃ a',Rel F C.N stE a' w')) (bodyPostS C.P fn c₀ cs fun e u'' w'=>(∃ r,e=.returned r)∧u''=u'∧∃ a',Rel F C.N stE a' w')) [1] a cs' w:=by
  intro a cs' hcs ha hd
  refine opsS_one (fun a w h=>?_) (key a _ ha hd fun a' w' st' h1 h2=>?_)
  ·obtain ⟨_,⟨r,hr⟩,_⟩:=h
   cases hr
  ·refine wpS_of_wp (wp_mono (evCode_sound hT hF rest st' _ h2 a' w' h1) fun e a'' w'' ⟨st'',h3,h4⟩=>?_)
   have h4:=orP_off hpx h4
   cases e with
   | normal =>
    have h5:=h4 F a'' w'' hF h3
    obtain ⟨_,_,_,_,hd5,_⟩:=h5
    obtain ⟨r,hr⟩:∃ r,(results fn a''.tmps).run C.P w''=.ok r w'':=by
     unfold results
     rw [hres]
     exact ⟨.tuple #[],by simp⟩
    exact ⟨by rw [hd5,hds],u',hcs,r,hr,⟨_,rfl⟩,rfl,a'',h4 F a'' w'' hF h3⟩
   | _=>exact h4.elim
 refine wpS_seq (wpS_region ?_)
 show wpOpsS C.P #[rc,o1] _ [0,1] _ (c₀::cs) w
 have w1:∀ tm,Region.wanted rc (yielded #[rc,o1] tm)=true:=fun tm=>by simp [Region.wanted,hrg]
 unfold wpOpsS
 simp only [List.getElem?_toArray,List.getElem?_cons_zero,w1,if_true]
 have r1:∀ ev:Operand→Value,(execOp ev rc).run C.P w=.ok .recover w:=fun ev=>by
  unfold execOp
  simp [hrc,resolve,invoke,builtin]
 rw [r1]
 have hh:=hrec c₀ cs hu
 cases hR:recoverD (c₀::cs) with
 | some p =>
  obtain ⟨v',cs'⟩:=p
  rw [hR] at hh
  obtain ⟨rfl,hcs⟩:=hh
  exact fin _ _ hcs (by rw [hrd];rfl) (by rw [hrd];rfl)
 | none =>
  rw [hR] at hh
  obtain ⟨rfl,rfl⟩:=hh
  exact fin _ _ (by subst hu;rfl) (by rw [hrd];rfl) (by rw [hrd];rfl)
def PureEnd (S:Blocks) (w:World) (R:List AR→Prop) (e:Ending) (w':World):Prop:=∃ us rs S',e=.returned (retVal us)∧R rs∧Left S w us rs S' w'
theorem ret_end [Tabs] {C:Cx} (hT:CxOk C) {fn:Func} {N:Nat} (hres:fn.results.size≤4) {S:Blocks} {w:World} {pin:Ids} {ds:List Deferred} {R:List AR→Prop} {st':St} {a':Act} {w':World}
  (hR:Rel ⟨w,fun _=>False,S,pin,ds⟩ N st' a' w') (hq:resK C.T fn.results.toList st' [] [] R):∃ v,(results fn a'.tmps).run C.P w'=.ok v w'∧PureEnd S w R (.returned v) w':=by
 obtain ⟨m,S',hc,hs,hd,hr⟩:=hR
 obtain ⟨rs,ids,h1,h2,h3,h4,h5,_,h7⟩:=resK_sound hT.tab hc.good hr _ _ _ _ hq
 have hlenv:(slotVals C.P fn.results.toList a' w').length=rs.length:=by rw [h2];simp [slotVals]
 refine ⟨_,run_results h7 hres,slotVals C.P fn.results.toList a' w',rs,S',rfl,by simpa using h1,⟨hlenv,fun j u r hu hr'=>?_,hc.far.below (fun k _ h=>h),hc.ro0,fun g hg=>(hc.ro g hg).elim .inl (fun h=>h.elim (fun h=>h.elim) .inr),fun g hg=>(hc.good.ro g hg).1,fun i u b k hu hb hk=>?_⟩⟩
 ·obtain ⟨o,ho⟩:∃ o,ids[j]?=some o:=⟨_,List.getElem?_eq_getElem (by
   have:=(List.getElem?_eq_some_iff.1 hr').1
   omega)⟩
  cases h4 j u r o hu hr' ho with
  | val a h=>exact h
  | obj id b hm hl hlive hb =>
   refine ⟨hlive,fun k hk=>?_,relB_single (by rw [← hl];exact hc.good.rel id) hm hb⟩
   rcases hc.owns k ⟨id,u,by rw [hl];exact hlive,hm,hk⟩ with h | h
   ·exact h.elim
   ·exact h
 ·obtain ⟨o,ho⟩:∃ o,ids[i]?=some o:=⟨_,List.getElem?_eq_getElem (by
   have:=(List.getElem?_eq_some_iff.1 hb).1
   omega)⟩
  cases h4 i u (.new b) o hu hb ho with
  | obj id _ hm hl hlive hbc =>
   refine ⟨fun hSk=>(hc.good.ro k hSk).2 id u (by rw [hl];exact hlive) hm hk,fun j u' b' hu' hb' hk'=>?_⟩
   obtain ⟨o',ho'⟩:∃ o,ids[j]?=some o:=⟨_,List.getElem?_eq_getElem (by
    have:=(List.getElem?_eq_some_iff.1 hb').1
    omega)⟩
   cases h4 j u' (.new b') o' hu' hb' ho' with
   | obj id' _ hm' hl' hlive' hbc' =>
    have:=hc.good.sep id id' u u' k (by rw [hl];exact hlive) (by rw [hl'];exact hlive') hm hm' hk hk'
    subst this
    exact h5 i j id ho ho'
theorem apure_d [Tabs] {C : Cx} {f : FuncId} {fn : Func} {code : Code} {args : List AV} {R : List AR → Prop} (hf : C.P.funcs[f]? = some fn) (hb : fn.body = some code) (hname : (fn.name == "runtime.NumGoroutine") = false)
  (hN:C.N=fn.ntmps) (hle:args.length≤fn.ntmps)
  (h:∀ (S:Blocks) (w:World) (a:Act),Rel ⟨w,fun _=>False,S,fun _=>none,[]⟩ C.N ⟨argEnv args 0,[],0⟩ a w→code.wp C.P (bodyPostD C.P fn (PureEnd S w R)) a w):APure C.P f args R:=by
 refine ⟨⟨fn,hf,by rw [hb];rfl,hname⟩,fun S w vs hS hTb ⟨hlen,hrel⟩=>calls_of_wp_defers hf hb ?_⟩
 refine h S w _ ?_
 refine ⟨fun _=>none,S,⟨⟨fun id=>trivial,fun i j vi vj k hl=>by simp [lkH,AB.live] at hl,fun g hg=>⟨hS g hg,fun i v hl=>by simp [lkH,AB.live] at hl⟩,hTb⟩,fun _ _=>rfl,Far.refl _ _,fun k ⟨i,v,hl,_⟩=>by simp [lkH,AB.live] at hl,fun g hg=>.inl hg,fun g hg=>hg,fun i v h=>by cases h⟩,by simp;omega,rfl,fun s=>?_⟩
 rw [lk_argEnv,if_pos (Nat.zero_le _),Nat.sub_zero]
 by_cases hs:s<args.length
 ·have h1:args[s]?=some (args.getD s .undef):=by simp [List.getD,List.getElem?_eq_getElem hs]
  have h2:vs[s]?=some ((vs.toArray++Array.replicate (fn.ntmps-vs.toArray.size) undef).getD s undef):=by
   have:s<vs.length:=by omega
   simp [Array.getElem?_append,this]
  exact .t _ _ (hrel s _ _ h2 h1)
 ·have:args.getD s .undef=.undef:=by simp [List.getD,List.getElem?_eq_none (by omega:args.length≤s)]
  rw [this]
  exact .t _ _ (.undef _)
theorem rel_defer [Tabs] {F:Fr} {N:Nat} {st:St} {a:Act} {w:World} {t:Nat} {v:Value} {d:Deferred} (h:Rel F N st a w) (ht:lk st.env t=.undef) :
  Rel ⟨F.w0,F.F0,F.S0,F.pin,d::F.ds⟩ N st { tmps:=a.tmps.setIfInBounds t v,defers:=d::a.defers } w:=by
 obtain ⟨m,S,hc,hs,hd,hr⟩:=h
 refine ⟨m,S,⟨hc.good,hc.free,hc.far,hc.owns,hc.ro,hc.ro0,hc.pins⟩,by simpa using hs,by show d::a.defers=d::F.ds;rw [hd],fun s=>?_⟩
 by_cases hlt:t<a.tmps.size
 ·show RelV m S w ((a.tmps.setIfInBounds t v).getD s undef) _
  rw [getD_set hlt]
  by_cases e:t=s
  ·subst e
   rw [if_pos rfl,ht]
   exact .t _ _ (.undef _)
  ·rw [if_neg e]
   exact hr s
 ·have:a.tmps.setIfInBounds t v=a.tmps:=by
   apply Array.ext
   ·simp
   ·intro i h1 h2
    rw [Array.getElem_setIfInBounds]
    rw [if_neg (by omega)]
  show RelV m S w ((a.tmps.setIfInBounds t v).getD s undef) _
  rw [this]
  exact hr s
def ptrE:List (Nat×Nat)→Env
 | []=>[]
 | (s,i)::r=>(s,.ptr i 0)::ptrE r
theorem lk_ptrE {k:Nat}:∀ {l:List (Nat×Nat)} {s:Nat},(∀ p∈l,p.2<k)→lk (ptrE l) s=.undef∨∃ i,lk (ptrE l) s=.ptr i 0∧i<k
 | [],s,_=>.inl rfl
 | (t,i)::r,s,h=>by
  show (match Nat.beq t s with | true=>AV.ptr i 0 | false=>lk (ptrE r) s)=_∨∃ j,(match Nat.beq t s with | true=>AV.ptr i 0 | false=>lk (ptrE r) s)=_∧_
  cases Nat.beq t s with
  | true=>exact .inr ⟨i,rfl,h (t,i) List.mem_cons_self⟩
  | false=>exact lk_ptrE fun p hp=>h p (List.mem_cons_of_mem _ hp)
def Fr.inner (F:Fr) (m:Ids) (k:Nat):Fr:=⟨F.w0,F.F0,F.S0,fun i=>if i<k then m i else none,[]⟩
theorem Fr.inner_fits (F:Fr) (m:Ids) (k:Nat):(F.inner m k).fits k:=by
 intro i v h
 have h:(if i<k then m i else none)=some v:=h
 split at h
 ·assumption
 ·cases h
theorem core_inner [Tabs] {F:Fr} {m:Ids} {S:Blocks} {w:World} {H:Heap} {nx:Nat} (h:Core F m S w H nx) (k:Nat):Core (F.inner m k) m S w H nx :=
 ⟨h.good,h.free,h.far,h.owns,h.ro,h.ro0,fun i v hi=>by
  have hi:(if i<k then m i else none)=some v:=hi
  split at hi
  ·exact hi
  ·cases hi⟩
theorem rel_back [Tabs] {F:Fr} {N:Nat} {m:Ids} {S:Blocks} {w:World} {a:Act} {l:List (Nat×Nat)} {k:Nat} (hl:∀ p∈l,p.2<k) (hs:a.tmps.size=N) (hr:∀ s,RelV m S w (a.tmps.getD s undef) (lk (ptrE l) s))
  {N':Nat} {st:St} {a':Act} {w':World} (h:Rel (F.inner m k) N' st a' w'):Rel (F.inner m k) N ⟨ptrE l,st.heap,st.nx⟩ { tmps:=a.tmps,defers:=[] } w':=by
 obtain ⟨m',S',hc,_,_,_⟩:=h
 refine ⟨m',S',hc,hs,rfl,fun s=>?_⟩
 have h1:=hr s
 show RelV m' S' w' (a.tmps.getD s undef) (lk (ptrE l) s)
 rcases lk_ptrE (s:=s) hl with e | ⟨i,e,hi⟩
 ·rw [e];exact .t _ _ (.undef _)
 ·rw [e] at h1 ⊢
  generalize a.tmps.getD s undef=v at h1
  cases h1 with
  | t _ _ h=>cases h
  | ptr id off g hm=>exact .ptr i 0 g (hc.pins i _ (by show (if i<k then m i else none)=_;rw [if_pos hi,hm]))
def flatV:AV→Bool
 | .bool _=>true
 | .int _ _=>true
 | .str _=>true
 | .nils=>true
 | _=>false
theorem flatV_rel {a:AV} (h:flatV a=true) {m m':Ids} {S S':Blocks} {w w':World} {v:Value} (hr:RelV m S w v a):RelV m' S' w' v a:=by
 cases a<;>simp only [flatV,Bool.false_eq_true] at h
 all_goals
  cases hr with
  | t _ _ h=>exact .t _ _ (by cases h;constructor<;>assumption)
def Fr.aside (S:Blocks) (w:World) (m:Ids) (H:Heap) (ds:List Deferred):Fr:=⟨w,own m H,S,fun _=>none,ds⟩
theorem core_aside [Tabs] {F:Fr} {m:Ids} {S:Blocks} {w:World} {H:Heap} {nx:Nat} (h:Core F m S w H nx) (K:List Nat) (ds:List Deferred):Core (Fr.aside S w m (deads K H) ds) m S w (deads K H) nx:=by
 have hl:∀ i,(lkH (deads K H) i).live=true→(lkH H i).live=true∧lkH (deads K H) i=lkH H i:=by
  intro i hi
  rw [lkH_deads] at hi ⊢
  split at hi
  ·cases hi
  ·rename_i hn
   rw [if_neg hn]
   exact ⟨hi,rfl⟩
 refine ⟨⟨fun id=>?_,fun i j vi vj k h1 h2=>h.good.sep i j vi vj k (hl i h1).1 (hl j h2).1,fun g hg=>⟨(h.good.ro g hg).1,fun i v hi=>(h.good.ro g hg).2 i v (hl i hi).1⟩,h.good.tab⟩,h.free,Far.refl _ _,fun k hk=>.inl hk,fun g hg=>.inl hg,fun g hg=>hg,fun i v hi=>by cases hi⟩
 rw [lkH_deads]
 split
 ·trivial
 ·exact h.good.rel id
theorem core_keep [Tabs] {F:Fr} (hF0:∀ g,¬ F.F0 g) (hT0:TabAt F.S0 F.w0) (hS0:∀ g,F.S0 g→g<F.w0.heap.size) {m:Ids} {S:Blocks} {w:World} {H:Heap} {nx:Nat} (h:Core F m S w H nx) {K:List Nat} {H3:Heap} (hH3:∀ id,lkH H3 id=if id∈K then lkH H id else .dead)
  (hflat:∀ id,id∈K→∃ e l,lkH H id=.cells e l∧∀ a∈l,flatV a=true) {w':World} (hfar:Far (own m (deads K H)) w w') (k:Nat):Core (F.inner m k) m F.S0 w' H3 nx:=by
 have hlive:∀ i,(lkH H3 i).live=true→i∈K∧(lkH H i).live=true:=by
  intro i hi
  rw [hH3] at hi
  split at hi
  ·rename_i hk;exact ⟨hk,hi⟩
  ·cases hi
 have hnS:∀ g,F.S0 g→¬ own m (deads K H) g:=by
  rintro g hg ⟨i,v,h1,h2,h3⟩
  rw [lkH_deads] at h1
  split at h1
  ·cases h1
  ·exact (h.good.ro g (h.ro0 g hg)).2 i v h1 h2 h3
 have hblk:∀ g,F.S0 g→w'.heap[g]?=F.w0.heap[g]?:=by
  intro g hg
  rw [hfar.block g (h.good.ro g (h.ro0 g hg)).1 (hnS g hg)]
  exact h.far.block g (hS0 g hg) (hF0 g)
 refine ⟨⟨fun id=>?_,fun i j vi vj k h1 h2=>h.good.sep i j vi vj k (hlive i h1).2 (hlive j h2).2,fun g hg=>⟨Nat.lt_of_lt_of_le (h.good.ro g (h.ro0 g hg)).1 hfar.size,fun i v hi=>(h.good.ro g (h.ro0 g hg)).2 i v (hlive i hi).2⟩,hT0.mono (fun _ h=>h) hblk⟩,h.free,?_,?_,fun g hg=>.inl hg,fun g hg=>hg,fun i v hi=>?_⟩
 ·rw [hH3]
  split
  ·rename_i hk
   obtain ⟨e,l,hl,hfl⟩:=hflat id hk
   have hrel:=h.good.rel id
   rw [hl] at hrel ⊢
   obtain ⟨g,cs,h1,h2,h3,h4,h5⟩:=hrel
   have hg:g<w.heap.size:=(Array.getElem?_eq_some_iff.1 h2).1
   refine ⟨g,cs,h1,?_,h3,h4,fun j c a hc ha=>flatV_rel (hfl a (List.mem_of_getElem? ha)) (h5 j c a hc ha)⟩
   rw [hfar.block g hg ?_]
   ·exact h2
   rintro ⟨i,v,hi1,hi2,hi3⟩
   rw [lkH_deads] at hi1
   split at hi1
   ·cases hi1
   ·rename_i hn
    have:i=id:=h.good.sep i id v _ g hi1 (by rw [hl];rfl) hi2 h1 hi3 rfl
    exact hn (this ▸ hk)
  ·trivial
 ·refine h.far.trans hfar fun i hi ⟨j,v,h1,h2,h3⟩=>?_
  rw [lkH_deads] at h1
  split at h1
  ·cases h1
  ·rcases h.owns i ⟨j,v,h1,h2,h3⟩ with h | h
   ·exact h
   ·omega
 ·rintro k ⟨i,v,h1,h2,h3⟩
  exact h.owns k ⟨i,v,(hlive i h1).2,h2,h3⟩
 ·have hi:(if i<k then m i else none)=some v:=hi
  split at hi
  ·exact hi
  ·cases hi
theorem evOps_seqT [Tabs] {C:Cx} (hT:TabOk C.P C.T) {det:Bool} {F:Fr} {all:List Oper} {Q:Exit→Act→World→Prop} {K:Array Value→Prop} (hput:∀ (a:Act) (o:Oper) (v:Value),o∈all→K a.tmps→K (a.put o.dst v).tmps):∀ (rest:List Oper) (i:Nat) (loc:Loc) (stk:List Lay) (env:Env) (H:Heap) (nx:Nat) (k:Loc→Heap→Nat→Prop),(∀ j,rest[j]?=all[i+j]?)→evOps C det all rest loc stk env H nx k →
  (∀ (m:Ids) (S:Blocks) (w:World) (a:Act) (loc:Loc) (stk:List Lay) (H:Heap) (nx:Nat),k loc H nx→Core F m S w H nx→RunI m S w C.N a.tmps loc env stk→a.defers=F.ds→K a.tmps→Q .normal a w) →
  (∀ (m:Ids) (S:Blocks) (w:World) (a:Act) (H:Heap) (nx:Nat) (ch:List PanicEntry),C.px ch→Core F m S w H nx→a.tmps.size=C.N→a.defers=F.ds→K a.tmps→Q (.panic ch) a w) →
  ∀ (m:Ids) (S:Blocks) (w:World) (a:Act),Core F m S w H nx→RunI m S w C.N a.tmps loc env stk→a.defers=F.ds→K a.tmps→wpOps C.P all.toArray Q (List.range' i rest.length) a w
 | [],i,loc,stk,env,H,nx,k,_,h,hQ,_,m,S,w,a,hc,hr,hd,hK=>hQ m S w a loc stk H nx h hc hr hd hK
 | o::rest,i,loc,stk,env,H,nx,k,hall,h,hQ,hP,m,S,w,a,hc,hr,hd,hK=>by
  have hmem:o∈all:=by
   have:=hall 0
   exact List.mem_of_getElem? (i:=i) (by simpa using this.symm)
  have hKp:∀ v,K (a.put o.dst v).tmps:=fun v=>hput a o v hmem hK
  have hi:all.toArray[i]?=some o:=by
   have:=hall 0
   simpa using this.symm
  have hall':∀ j,rest[j]?=all[i+1+j]?:=fun j=>by
   have:=hall (j+1)
   rw [List.getElem?_cons_succ] at this
   rw [this]
   congr 1
   omega
  obtain ⟨stk',loc',h,hr',hwant,hdep,_⟩:=enter_sound h hr
  rw [List.length_cons,List.range'_succ]
  simp only [wpOps,hi]
  split at h
  ·exact h.elim
  ·rename_i hdst
   have skip:∀ (v:AV),¬ gOk (topG stk')→(∀ (hr2:RunI m S w C.N (a.put o.dst undef).tmps (putLoc o.dst stk'.length v loc') env stk'),wpOps C.P all.toArray Q (List.range' (i+1) rest.length) (a.put o.dst undef) w) →
     (if Region.wanted o (yielded all.toArray a.tmps)=true then o.wp C.P a w (wpOps C.P all.toArray Q (List.range' (i+1) rest.length)) Q∨(o.asks C.P a w∧LetsOut Q) else wpOps C.P all.toArray Q (List.range' (i+1) rest.length) (a.put o.dst undef) w):=by
    intro v hg hnext
    rw [if_neg (fun hw=>hg (hwant.1 hw))]
    exact hnext (hr'.put hdst (.inr ⟨hg,rfl⟩))
   have hdp:∀ (v:Value),(a.put o.dst v).defers=F.ds:=by
    intro v
    cases hdo:o.dst<;>simp [Act.put,hd]
   unfold stepK at h
   by_cases hg:gOk (topG stk')
   ·rw [if_pos (hwant.2 hg)]
    left
    split at h
    ·rename_i c x y ho
     obtain ⟨av,hk,hrun⟩:=evPick_sound (m:=m) (S:=S) (w:=w) (N:=C.N) (P:=C.P) ho h
     obtain ⟨v,he,hv⟩:=hrun a hr hr' hg
     unfold Oper.wp
     rw [he,Oper.upon_value]
     exact evOps_seqT hT hput rest (i+1) _ stk' env H nx k hall' (pushK_iff.1 (putK_iff.1 hk)) hQ hP m S w _ hc (hr'.put hdst (.inl ⟨hg,hv⟩)) (hdp v) (hKp v)
    ·split at h
     ·rename_i b hb
      have hg':=gated_some hb
      have hbt:b=true:=by rw [hg'] at hg;exact hg
      obtain ⟨touch,Rr,h1,h2,h3,h4⟩:=evOp_sound hT (h.1 hbt)
      refine h1 trivial m S w a H _ Q hc.good (fun _ _=>rfl) (fun i hi _=>hc.free i hi) (fun u hu _=>?_) (fun r hR v m' S' w' hE hV=>?_) (fun ch hx m' S' w' wr hE=>hP m' S' w' a (wr++H) nx ch hx (hc.step hE (Nat.le_refl _)) hr'.size hd hK)
      ·obtain ⟨x,hx,rfl⟩:=List.mem_map.1 hu
       exact hr'.read hg x
      ·obtain ⟨hn,hk⟩:=h4 r hR
       obtain ⟨rv,rt,rw,rn⟩:=r
       exact evOps_seqT hT hput rest (i+1) _ stk' env _ _ k hall' (pushK_iff.1 (putK_iff.1 hk)) hQ hP m' S' w' _ (hc.step hE hn) ((hr'.ext hc hE).put hdst (.inl ⟨hg,hV⟩)) (hdp v) (hKp v)
     obtain ⟨touch,Rr,h1,h2,h3,h4⟩:=evOp_sound hT h
     refine h1 hg m S w a H _ Q hc.good (fun _ _=>rfl) (fun i hi _=>hc.free i hi) (fun u hu _=>?_) (fun r hR v m' S' w' hE hV=>?_) (fun ch hx m' S' w' wr hE=>hP m' S' w' a (wr++H) nx ch hx (hc.step hE (Nat.le_refl _)) hr'.size hd hK)
     ·obtain ⟨x,hx,rfl⟩:=List.mem_map.1 hu
      exact hr'.read hg x
     ·obtain ⟨hn,hk⟩:=h4 r hR
      obtain ⟨rv,rt,rw,rn⟩:=r
      exact evOps_seqT hT hput rest (i+1) _ stk' env _ _ k hall' (pushK_iff.1 (putK_iff.1 hk)) hQ hP m' S' w' _ (hc.step hE hn) ((hr'.ext hc hE).put hdst (.inl ⟨hg,hV⟩)) (hdp v) (hKp v)
   ·split at h
    ·rename_i c x y ho
     obtain ⟨av,hk,_⟩:=evPick_sound (m:=m) (S:=S) (w:=w) (N:=C.N) (P:=C.P) ho h
     exact skip av hg fun hr2=>evOps_seqT hT hput rest (i+1) _ stk' env H nx k hall' (pushK_iff.1 (putK_iff.1 hk)) hQ hP m S w _ hc hr2 (hdp undef) (hKp undef)
    ·split at h
     ·rename_i b hb
      have hg':=gated_some hb
      have hbf:b=false:=by
       rw [hg'] at hg
       cases b with
       | true=>exact (hg rfl).elim
       | false=>rfl
      exact skip .undef hg fun hr2=>evOps_seqT hT hput rest (i+1) _ stk' env H nx k hall' (pushK_iff.1 (putK_iff.1 (h.2 hbf))) hQ hP m S w _ hc hr2 (hdp undef) (hKp undef)
     obtain ⟨touch,Rr,h1,h2,h3,h4⟩:=evOp_sound hT h
     obtain ⟨r,hR,hwr,hnx⟩:=h2 hg
     obtain ⟨_,hk⟩:=h4 r ((hR r).2 rfl)
     obtain ⟨rv,rt,rw,rn⟩:=r
     simp only at hwr hnx
     subst hwr
     subst hnx
     refine skip rv hg fun hr2=>?_
     exact evOps_seqT hT hput rest (i+1) _ stk' env _ _ k hall' (pushK_iff.1 (putK_iff.1 hk)) hQ hP m S w _ hc hr2 (hdp undef) (hKp undef)
def keepsB (ops:List Oper) (L:List Nat):Bool:=ops.all fun o=>match o.dst with
 | none=>true
 | some d=>L.all fun s=>!Nat.beq d s
def Kept (L:List Nat) (a a':Act):Prop:=∀ s∈L,a'.tmps.getD s undef=a.tmps.getD s undef
theorem Kept.trans {L:List Nat} {a b c:Act} (h:Kept L a b) (h':Kept L b c):Kept L a c:=fun s hs=>(h' s hs).trans (h s hs)
theorem region_kept [Tabs] {C:Cx} (hT:TabOk C.P C.T) {id:Nat} {ops:Array Oper} {st:St} {Q:St→Prop} (h:evRegion C ops st Q) {L:List Nat} (hL:keepsB ops.toList L=true) {F:Fr} {a:Act} {w:World} (hr:Rel F C.N st a w) :
  (Code.region id ops false).wp C.P (fun e a' w'=>(∃ st',Rel F C.N st' a' w'∧regQ C.px Q e st')∧Kept L a a') a w:=by
 obtain ⟨m,S,hc,hs,hd,hrel⟩:=hr
 refine wp_region ?_
 obtain ⟨env,H,nx⟩:=st
 have:=evOps_seqT hT (F:=F) (all:=ops.toList) (K:=fun tm=>∀ s∈L,tm.getD s undef=a.tmps.getD s undef) (Q:=fun e a' w'=>(∃ st',Rel F C.N st' a' w'∧regQ C.px Q e st')∧Kept L a a') (fun b o v ho hk s hsL=>?_) ops.toList 0 [] [] env H nx _ (by simp) h ?_ (fun m S w a H nx ch hx hc hs hd hk=>⟨⟨⟨[],H,nx⟩,⟨m,S,hc,hs,hd,fun s=>.t _ _ (.undef _)⟩,hx⟩,hk⟩) m S w a hc (Rel.run (F:=F) (st:=⟨env,H,nx⟩) hs hrel) hd (fun s _=>rfl)
 ·rw [range'_eq]
  simpa using this
 ·cases hdo:o.dst with
  | none=>exact hk s hsL
  | some d =>
   have h1:=List.all_eq_true.1 hL o ho
   rw [hdo] at h1
   have h2:=List.all_eq_true.1 h1 s hsL
   have hne:d≠s:=fun e=>by subst e;simp at h2
   show (b.tmps.setIfInBounds d v).getD s undef=_
   rw [← hk s hsL]
   simp [Array.getD_eq_getD_getElem?,Array.getElem?_setIfInBounds,hne]
 ·intro m S w a loc stk H nx hk hc hr hd hK
  obtain ⟨env',hq,he⟩:=flushK_sound hr _ _ _ hk (fun s=>.t _ _ (.undef _))
  exact ⟨⟨⟨env',H,nx⟩,⟨m,S,hc,hr.size,hd,he⟩,hq⟩,hK⟩
theorem ptr_move {m m':Ids} {S S':Blocks} {w w':World} {v:Value} {i:Nat} (h:RelV m S w v (.ptr i 0)) (hm:∀ u,m i=some u→m' i=some u):RelV m' S' w' v (.ptr i 0):=by
 cases h with
 | t _ _ h=>cases h
 | ptr id off g hg=>exact .ptr i 0 g (hm _ hg)
theorem caps3 {m:Ids} {S:Blocks} {w:World} {v0 v1 v2:Value} {i0 i1 i2 n:Nat} (h0:RelV m S w v0 (.ptr i0 0)) (h1:RelV m S w v1 (.ptr i1 0)) (h2:RelV m S w v2 (.ptr i2 0)) (s:Nat) :
  RelV m S w ((#[v0,v1,v2]++Array.replicate n undef).getD s undef) (lk [(0,.ptr i0 0),(1,.ptr i1 0),(2,.ptr i2 0)] s):=by
 have e:∀ j,(#[v0,v1,v2]++Array.replicate n undef).getD j undef=if j=0 then v0 else if j=1 then v1 else if j=2 then v2 else undef:=by
  intro j
  rw [Array.getD_eq_getD_getElem?,Array.getElem?_append]
  match j with
  | 0=>rfl
  | 1=>rfl
  | 2=>rfl
  | j+3 =>
   rw [if_neg (by simp),if_neg (by omega),if_neg (by omega),if_neg (by omega),Array.getElem?_replicate]
   split<;>rfl
 rw [e]
 match s with
 | 0=>exact h0
 | 1=>exact h1
 | 2=>exact h2
 | s+3=>exact .t _ _ (.undef _)
theorem cO [Tabs] {P:Program} {px:List PanicEntry→Prop} {f:FuncId} {avs:List AV} {H:Heap} {nx:Nat} {g:Option Bool} {det:Bool} {k:Res→Prop} {args':List AV} {touch:List Nat} {rs:List AR} (hc:gOk g→APure P f args' (fun r=>r=rs))
  (hk:takeR rs nx [] [] fun vs wr n=>k ⟨valR vs,touch,wr,n⟩) (hb:BorL (Lend H) avs args' touch:=by repeat (first | exact .nil | (apply BorL.cons;first | exact lS rfl | exact lR rfl | exact lM rfl rfl | exact lL rfl | exact lX rfl | exact lN | exact lNl | exact lSm rfl | exact lIm rfl | exact lGm rfl | exact lP rfl | exact lQ rfl | exact lB rfl rfl rfl))) (hflat:touch=[]∨∀ r∈rs,r.flat:=by first | exact .inl rfl | exact .inr (by repeat (first | exact flats_nil | refine flats_cons (by first | exact flat_val _ rfl | exact flat_row (fun _=>rfl) | exact flat_lst (fun _=>rfl)) ?_)))
  (hg:g.getD true=true∨tw rs nx=[]:=by first | exact .inr rfl | exact .inl rfl):CallG P px f avs H nx g det k:=.one args' touch rs hc hb hflat hg hk
theorem cF [Tabs] {P:Program} {px:List PanicEntry→Prop} {f:FuncId} {avs:List AV} {H:Heap} {nx:Nat} {g:Option Bool} {det:Bool} {k:Res→Prop} (args':List AV) {touch:List Nat} (rs:List AR)
  (hk:takeR rs nx [] [] fun vs wr n=>k ⟨valR vs,touch,wr,n⟩) (hc:gOk g→APure P f args' (fun r=>r=rs):=by exact fun h=>(by have h0:(false:Bool)=true:=h;cases h0)) (hb:BorL (Lend H) avs args' touch:=by repeat (first | exact .nil | (apply BorL.cons;first | exact lS rfl | exact lR rfl | exact lM rfl rfl | exact lL rfl | exact lX rfl | exact lN | exact lNl | exact lSm rfl | exact lIm rfl | exact lGm rfl | exact lP rfl | exact lQ rfl | exact lB rfl rfl rfl))) (hflat:touch=[]∨∀ r∈rs,r.flat:=by first | exact .inl rfl | exact .inr (by repeat (first | exact flats_nil | refine flats_cons (by first | exact flat_val _ rfl | exact flat_row (fun _=>rfl) | exact flat_lst (fun _=>rfl)) ?_)))
  (hg:g.getD true=true∨tw rs nx=[]:=by first | exact .inr rfl | exact .inl rfl):CallG P px f avs H nx g det k:=.one args' touch rs hc hb hflat hg hk
theorem cR [Tabs] {P:Program} {px:List PanicEntry→Prop} {f:FuncId} {avs avs':List AV} {H:Heap} {nx:Nat} {g:Option Bool} {det:Bool} {k:Res→Prop} {objs:List AB} {V:List AV} {B E:List AB} {p:Nat} (h:RIO P f avs' objs p (fun vs bs es=>vs=V∧bs=B∧es=E)) (ids:List Nat)
  (hk:k ⟨valR (V.map (renA (rnI (ids.take p) nx))),ids,zipH (ids.take p) (B.map (renB (rnI (ids.take p) nx)))++deads (ids.drop p) (rowH nx (E.map (renB (rnI (ids.take p) nx)))),nx+E.length⟩)
  (ha:avs=avs'.map (renA (rnI ids nx)):=by exact rfl) (hn:nodupB ids=true:=by exact rfl) (hlt:allB (ids.map fun i=>Nat.blt i nx)=true:=by exact rfl) (ho:eqObjs H (rnI ids nx) ids objs:=by repeat (first | exact trivial | refine And.intro (by first | exact .refl _ | exact .newgmap _ _ _ _ _ _ _ rfl rfl | exact .newimap _ _ _ _ _ _ _ rfl rfl | exact .smap _ _ _ _ _ _ rfl rfl) ?_)) (hB:B.length=(ids.take p).length:=by exact rfl) (hd:g.getD true=true:=by exact rfl) :
  CallG P px f avs H nx g det k :=
 .raw ids _ hd (fun _=>⟨⟨_,ids,_,_⟩,fun _=>Iff.rfl,rfl⟩) (rio_one h ids ha hn hlt ho hB) (by rintro _ rfl;exact ⟨Nat.le_add_right _ _,hk⟩)
theorem gT {g:Bool} {A B:Prop} (h:A) (hg:g=true:=by exact rfl):(g=true→A)∧(g=false→B):=⟨fun _=>h,fun e=>by rw [hg] at e;cases e⟩
theorem gF {g:Bool} {A B:Prop} (h:B) (hg:g=false:=by exact rfl):(g=true→A)∧(g=false→B):=⟨fun e=>(by rw [hg] at e;cases e),fun _=>h⟩
theorem om0 {p:Prop} (h:p:=by omega):p:=h
theorem dd0 {p:Prop} (h:p:=by decide):p:=h
theorem nD {p A q B:Prop} (h:B) (hp:¬ p:=by exact fun h=>absurd h (by decide)):(p→A)∧(q→B):=⟨fun x=>(hp x).elim,fun _=>h⟩
theorem nE {p A q B:Prop} (h:A) (hq:¬ q:=by exact fun h=>absurd h (by decide)):(p→A)∧(q→B):=⟨fun _=>h,fun x=>(hq x).elim⟩
theorem iO {p q r:Prop} (h:r) (hp:p∧q:=by exact ⟨by omega,by omega⟩):(p∧q)∧r:=⟨hp,h⟩
theorem aO [Tabs] {C:Cx} {f:FuncId} {fn:Func} {code:Code} {args:List AV} {R:List AR→Prop} (hT:CxOk C) (hf:C.P.funcs[f]?=some fn) (h:evCode C code ⟨argEnv args 0,[],0⟩ (retQ C.T fn.results R)) (hb:fn.body=some code:=by exact rfl)
  (hname : (fn.name == "runtime.NumGoroutine") = false := by decide) (hN : C.N = fn.ntmps := by exact rfl) (hle : args.length ≤ fn.ntmps := by exact Nat.le_of_ble_eq_true rfl) (hres : fn.results.size ≤ 4 := by decide) (hpx : ∀ ch, ¬ C.px ch := by exact fun _ h => h) : APure C.P f args R :=
 apure_of hT hf hb hname hN hle hres h hpx
theorem aW [Tabs] {C:Cx} {f:FuncId} {fn:Func} {code:Code} {args:List AV} {R:List AR→Prop} (hT:CxOk C) (hf:C.P.funcs[f]?=some fn) (h:evCode C code ⟨argEnv args 0,[],0⟩ (wkQ C.pn C.N (retQ C.T fn.results R))) (hb:fn.body=some code:=by exact rfl)
  (hname : (fn.name == "runtime.NumGoroutine") = false := by decide) (hN : C.N = fn.ntmps := by exact rfl) (hle : args.length ≤ fn.ntmps := by exact Nat.le_of_ble_eq_true rfl) (hres : fn.results.size ≤ 4 := by decide) (hpx : ∀ ch, ¬ C.px ch := by exact fun _ h => h) : APure C.P f args R :=
 apure_ofw hT hf hb hname hN hle hres h hpx
theorem rO [Tabs] {C:Cx} {f:FuncId} {fn:Func} {code:Code} {avs:List AV} {objs:List AB} {R:List AV→List AB→List AB→Prop} (hT:CxOk C) (hf:C.P.funcs[f]?=some fn)
  (h : evCode C code ⟨argEnv avs 0, rowH 0 objs, objs.length⟩ (retR C.T C.pn C.N C.pn fn.results R)) (hb : fn.body = some code := by exact rfl) (hname : (fn.name == "runtime.NumGoroutine") = false := by decide) (hN : C.N = fn.ntmps := by exact rfl)
  (hle:avs.length≤fn.ntmps:=by exact Nat.le_of_ble_eq_true rfl) (hres:fn.results.size≤4:=by decide) (hobj:allB (objs.map fun b=>b.live&&okB (List.range objs.length) b)=true:=by exact rfl) (hpn:Nat.ble C.pn objs.length=true:=by exact rfl)
  (hav:allB (avs.map (okA (List.range objs.length)))=true:=by exact rfl) (hpx:∀ ch,¬ C.px ch:=by exact fun _ h=>h):RIO C.P f avs objs C.pn R:=rio_of hT hf hb hname hN hle hres hobj hpn hav h hpx
theorem xO [Tabs] {C:Cx} {f:FuncId} {fn:Func} {code:Code} {avs:List AV} {objs:List AB} {R:List AV→List AB→List AB→Prop} (hT:CxOk C) (hf:C.P.funcs[f]?=some fn)
  (h : evCode C code ⟨argEnv avs 0, rowH 0 objs, objs.length⟩ (retR C.T C.pn C.N C.pn fn.results R)) (hb : fn.body = some code := by exact rfl) (hname : (fn.name == "runtime.NumGoroutine") = false := by decide) (hN : C.N = fn.ntmps := by exact rfl)
  (hle:avs.length≤fn.ntmps:=by exact Nat.le_of_ble_eq_true rfl) (hres:fn.results.size≤4:=by decide) (hobj:allB (objs.map fun b=>b.live&&okB (List.range objs.length) b)=true:=by exact rfl) (hpn:Nat.ble C.pn objs.length=true:=by exact rfl)
  (hav:allB (avs.map (okA (List.range objs.length)))=true:=by exact rfl):RIOX C.P f avs objs C.pn R C.px:=riox_of hT hf hb hname hN hle hres hobj hpn hav h
theorem aa0 {p:Prop} (h:p:=by repeat (first | exact .nil | refine .cons (by first | exact .base (.tree _ _ rfl rfl) | exact .base (.own _ _ rfl) | exact .base (.ptr _ _ _ rfl) | exact .base (.map _ _ rfl) | exact .base (.nilown _ rfl) | exact .fn _ _ _ _ _ .nil (by repeat (first | exact .nil | refine .cons (by exact .ptr _ _ _ rfl) ?_))) ?_)):p:=h
theorem ab0 {p:Prop} (h:p:=by repeat (first | exact trivial | refine And.intro (by first | exact .refl _ | exact .newgmap _ _ _ _ _ _ _ rfl rfl | exact .newimap _ _ _ _ _ _ _ rfl rfl | exact .smap _ _ _ _ _ _ rfl rfl) ?_)):p:=h
theorem ac0 {p:Prop} (h:p:=by repeat (first | exact .nil | refine .cons (by first | exact .tree _ _ rfl rfl | exact .ptr _ _ _ rfl | exact .own _ _ rfl) ?_)):p:=h
theorem ad0 {p:Prop} (h:p:=by first | exact cxOk _ _ | exact cxPOk _ _ _ | exact cxXOk _ _ _ _):p:=h
theorem ae0 {p:Prop} (h:p:=by first | exact .row _ _ _ _ _ _ _ rfl rfl | exact .lstrow _ _ _ _ _ _ _ rfl rfl | exact .nilrow _ _ _ _ _ rfl | exact .truncrow _ _ _ _ _ _ _ _ rfl (by omega) rfl):p:=h
theorem af0 {p:Prop} (h:p:=by first | exact .base (.own _ _ rfl) | exact .base (.nilown _ rfl) | exact .base (.trunc _ _ _ rfl)):p:=h
theorem ag0 {p:Prop} (h:p:=by first | exact .inr rfl | exact .inl rfl):p:=h
theorem ah0 {p:Prop} (h:p:=by first | exact .inl rfl | exact .inr (by repeat (first | exact flats_nil | refine flats_cons (by first | exact flat_val _ rfl | exact flat_row (fun _=>rfl) | exact flat_lst (fun _=>rfl)) ?_))):p:=h
theorem ai0 {p:Prop} (h:p:=by repeat (first | exact .nil | (apply BorL.cons;first | exact lS rfl | exact lR rfl | exact lM rfl rfl | exact lL rfl | exact lX rfl | exact lN | exact lNl | exact lSm rfl | exact lIm rfl | exact lGm rfl | exact lP rfl | exact lQ rfl | exact lB rfl rfl rfl | exact .fn _ _ _ _ _ _ _ (by repeat (first | exact .nil | (apply BorL.cons;first | exact .base (.base (.same _ rfl)) | exact .base (.base (.row _ _ _ _ _ _ rfl)) | exact .base (.base (.smap _ _ _ _ rfl)) | exact .base (.base (.imap _ _ _ _ _ rfl)) | exact .base (.base (.gmap _ _ _ _ _ rfl)) | exact .base (.base (.nils _ _ _)) | exact .base (.base (.lstrow _ _ _ _ _ _ _ rfl rfl)) | exact .box _ _ _ _ _ _ rfl (by repeat (first | exact .nil | (apply BorL.cons;first | exact .base (.same _ rfl) | exact .base (.row _ _ _ _ _ _ rfl) | exact .base (.smap _ _ _ _ rfl) | exact .base (.imap _ _ _ _ _ rfl) | exact .base (.gmap _ _ _ _ _ rfl) | exact .box _ _ _ _ _ _ rfl (by repeat (first | exact .nil | (apply BorL.cons;first | exact .same _ rfl | exact .row _ _ _ _ _ _ rfl | exact .lstrow _ _ _ _ _ _ _ rfl rfl | exact .lst _ _ _ _ rfl | exact .smap _ _ _ _ rfl | exact .imap _ _ _ _ _ rfl | exact .gmap _ _ _ _ _ rfl | exact .boxt _ _ _ rfl rfl rfl))) (by first | exact allOne_spec rfl | simp [AV.one]) | exact .fn _ _ _ _ _ _ _ (by repeat (first | exact .nil | (apply BorL.cons;first | exact .same _ rfl | exact .row _ _ _ _ _ _ rfl | exact .lstrow _ _ _ _ _ _ _ rfl rfl | exact .lst _ _ _ _ rfl | exact .smap _ _ _ _ rfl | exact .imap _ _ _ _ _ rfl | exact .gmap _ _ _ _ _ rfl | exact .boxt _ _ _ rfl rfl rfl))) (by repeat (first | exact .nil | (apply BorL.cons;first | exact .same _ rfl | exact .row _ _ _ _ _ _ rfl | exact .lstrow _ _ _ _ _ _ _ rfl rfl | exact .lst _ _ _ _ rfl | exact .smap _ _ _ _ rfl | exact .imap _ _ _ _ _ rfl | exact .gmap _ _ _ _ _ rfl | exact .boxt _ _ _ rfl rfl rfl)))))) (by first | exact allOne_spec rfl | simp [AV.one]) | exact .fn _ _ _ _ _ _ _ (by repeat (first | exact .nil | (apply BorL.cons;first | exact .base (.same _ rfl) | exact .base (.row _ _ _ _ _ _ rfl) | exact .base (.smap _ _ _ _ rfl) | exact .base (.imap _ _ _ _ _ rfl) | exact .base (.gmap _ _ _ _ _ rfl) | exact .box _ _ _ _ _ _ rfl (by repeat (first | exact .nil | (apply BorL.cons;first | exact .same _ rfl | exact .row _ _ _ _ _ _ rfl | exact .lstrow _ _ _ _ _ _ _ rfl rfl | exact .lst _ _ _ _ rfl | exact .smap _ _ _ _ rfl | exact .imap _ _ _ _ _ rfl | exact .gmap _ _ _ _ _ rfl | exact .boxt _ _ _ rfl rfl rfl))) (by first | exact allOne_spec rfl | simp [AV.one]) | exact .fn _ _ _ _ _ _ _ (by repeat (first | exact .nil | (apply BorL.cons;first | exact .same _ rfl | exact .row _ _ _ _ _ _ rfl | exact .lstrow _ _ _ _ _ _ _ rfl rfl | exact .lst _ _ _ _ rfl | exact .smap _ _ _ _ rfl | exact .imap _ _ _ _ _ rfl | exact .gmap _ _ _ _ _ rfl | exact .boxt _ _ _ rfl rfl rfl))) (by repeat (first | exact .nil | (apply BorL.cons;first | exact .same _ rfl | exact .row _ _ _ _ _ _ rfl | exact .lstrow _ _ _ _ _ _ _ rfl rfl | exact .lst _ _ _ _ rfl | exact .smap _ _ _ _ rfl | exact .imap _ _ _ _ _ rfl | exact .gmap _ _ _ _ _ rfl | exact .boxt _ _ _ rfl rfl rfl)))))) (by repeat (first | exact .nil | (apply BorL.cons;first | exact .base (.same _ rfl) | exact .base (.row _ _ _ _ _ _ rfl) | exact .base (.smap _ _ _ _ rfl) | exact .base (.imap _ _ _ _ _ rfl) | exact .base (.gmap _ _ _ _ _ rfl) | exact .box _ _ _ _ _ _ rfl (by repeat (first | exact .nil | (apply BorL.cons;first | exact .same _ rfl | exact .row _ _ _ _ _ _ rfl | exact .lstrow _ _ _ _ _ _ _ rfl rfl | exact .lst _ _ _ _ rfl | exact .smap _ _ _ _ rfl | exact .imap _ _ _ _ _ rfl | exact .gmap _ _ _ _ _ rfl | exact .boxt _ _ _ rfl rfl rfl))) (by first | exact allOne_spec rfl | simp [AV.one]) | exact .fn _ _ _ _ _ _ _ (by repeat (first | exact .nil | (apply BorL.cons;first | exact .same _ rfl | exact .row _ _ _ _ _ _ rfl | exact .lstrow _ _ _ _ _ _ _ rfl rfl | exact .lst _ _ _ _ rfl | exact .smap _ _ _ _ rfl | exact .imap _ _ _ _ _ rfl | exact .gmap _ _ _ _ _ rfl | exact .boxt _ _ _ rfl rfl rfl))) (by repeat (first | exact .nil | (apply BorL.cons;first | exact .same _ rfl | exact .row _ _ _ _ _ _ rfl | exact .lstrow _ _ _ _ _ _ _ rfl rfl | exact .lst _ _ _ _ rfl | exact .smap _ _ _ _ rfl | exact .imap _ _ _ _ _ rfl | exact .gmap _ _ _ _ _ rfl | exact .boxt _ _ _ rfl rfl rfl))))))))) (by repeat (first | exact .nil | (apply BorL.cons;first | exact .base (.base (.same _ rfl)) | exact .base (.base (.row _ _ _ _ _ _ rfl)) | exact .base (.base (.smap _ _ _ _ rfl)) | exact .base (.base (.imap _ _ _ _ _ rfl)) | exact .base (.base (.gmap _ _ _ _ _ rfl)) | exact .base (.base (.nils _ _ _)) | exact .base (.base (.lstrow _ _ _ _ _ _ _ rfl rfl)) | exact .box _ _ _ _ _ _ rfl (by repeat (first | exact .nil | (apply BorL.cons;first | exact .base (.same _ rfl) | exact .base (.row _ _ _ _ _ _ rfl) | exact .base (.smap _ _ _ _ rfl) | exact .base (.imap _ _ _ _ _ rfl) | exact .base (.gmap _ _ _ _ _ rfl) | exact .box _ _ _ _ _ _ rfl (by repeat (first | exact .nil | (apply BorL.cons;first | exact .same _ rfl | exact .row _ _ _ _ _ _ rfl | exact .lstrow _ _ _ _ _ _ _ rfl rfl | exact .lst _ _ _ _ rfl | exact .smap _ _ _ _ rfl | exact .imap _ _ _ _ _ rfl | exact .gmap _ _ _ _ _ rfl | exact .boxt _ _ _ rfl rfl rfl))) (by first | exact allOne_spec rfl | simp [AV.one]) | exact .fn _ _ _ _ _ _ _ (by repeat (first | exact .nil | (apply BorL.cons;first | exact .same _ rfl | exact .row _ _ _ _ _ _ rfl | exact .lstrow _ _ _ _ _ _ _ rfl rfl | exact .lst _ _ _ _ rfl | exact .smap _ _ _ _ rfl | exact .imap _ _ _ _ _ rfl | exact .gmap _ _ _ _ _ rfl | exact .boxt _ _ _ rfl rfl rfl))) (by repeat (first | exact .nil | (apply BorL.cons;first | exact .same _ rfl | exact .row _ _ _ _ _ _ rfl | exact .lstrow _ _ _ _ _ _ _ rfl rfl | exact .lst _ _ _ _ rfl | exact .smap _ _ _ _ rfl | exact .imap _ _ _ _ _ rfl | exact .gmap _ _ _ _ _ rfl | exact .boxt _ _ _ rfl rfl rfl)))))) (by first | exact allOne_spec rfl | simp [AV.one]) | exact .fn _ _ _ _ _ _ _ (by repeat (first | exact .nil | (apply BorL.cons;first | exact .base (.same _ rfl) | exact .base (.row _ _ _ _ _ _ rfl) | exact .base (.smap _ _ _ _ rfl) | exact .base (.imap _ _ _ _ _ rfl) | exact .base (.gmap _ _ _ _ _ rfl) | exact .box _ _ _ _ _ _ rfl (by repeat (first | exact .nil | (apply BorL.cons;first | exact .same _ rfl | exact .row _ _ _ _ _ _ rfl | exact .lstrow _ _ _ _ _ _ _ rfl rfl | exact .lst _ _ _ _ rfl | exact .smap _ _ _ _ rfl | exact .imap _ _ _ _ _ rfl | exact .gmap _ _ _ _ _ rfl | exact .boxt _ _ _ rfl rfl rfl))) (by first | exact allOne_spec rfl | simp [AV.one]) | exact .fn _ _ _ _ _ _ _ (by repeat (first | exact .nil | (apply BorL.cons;first | exact .same _ rfl | exact .row _ _ _ _ _ _ rfl | exact .lstrow _ _ _ _ _ _ _ rfl rfl | exact .lst _ _ _ _ rfl | exact .smap _ _ _ _ rfl | exact .imap _ _ _ _ _ rfl | exact .gmap _ _ _ _ _ rfl | exact .boxt _ _ _ rfl rfl rfl))) (by repeat (first | exact .nil | (apply BorL.cons;first | exact .same _ rfl | exact .row _ _ _ _ _ _ rfl | exact .lstrow _ _ _ _ _ _ _ rfl rfl | exact .lst _ _ _ _ rfl | exact .smap _ _ _ _ rfl | exact .imap _ _ _ _ _ rfl | exact .gmap _ _ _ _ _ rfl | exact .boxt _ _ _ rfl rfl rfl)))))) (by repeat (first | exact .nil | (apply BorL.cons;first | exact .base (.same _ rfl) | exact .base (.row _ _ _ _ _ _ rfl) | exact .base (.smap _ _ _ _ rfl) | exact .base (.imap _ _ _ _ _ rfl) | exact .base (.gmap _ _ _ _ _ rfl) | exact .box _ _ _ _ _ _ rfl (by repeat (first | exact .nil | (apply BorL.cons;first | exact .same _ rfl | exact .row _ _ _ _ _ _ rfl | exact .lstrow _ _ _ _ _ _ _ rfl rfl | exact .lst _ _ _ _ rfl | exact .smap _ _ _ _ rfl | exact .imap _ _ _ _ _ rfl | exact .gmap _ _ _ _ _ rfl | exact .boxt _ _ _ rfl rfl rfl))) (by first | exact allOne_spec rfl | simp [AV.one]) | exact .fn _ _ _ _ _ _ _ (by repeat (first | exact .nil | (apply BorL.cons;first | exact .same _ rfl | exact .row _ _ _ _ _ _ rfl | exact .lstrow _ _ _ _ _ _ _ rfl rfl | exact .lst _ _ _ _ rfl | exact .smap _ _ _ _ rfl | exact .imap _ _ _ _ _ rfl | exact .gmap _ _ _ _ _ rfl | exact .boxt _ _ _ rfl rfl rfl))) (by repeat (first | exact .nil | (apply BorL.cons;first | exact .same _ rfl | exact .row _ _ _ _ _ _ rfl | exact .lstrow _ _ _ _ _ _ _ rfl rfl | exact .lst _ _ _ _ rfl | exact .smap _ _ _ _ rfl | exact .imap _ _ _ _ _ rfl | exact .gmap _ _ _ _ _ rfl | exact .boxt _ _ _ rfl rfl rfl))))))))) | exact .box _ _ _ _ _ _ rfl (by repeat (first | exact .nil | (apply BorL.cons;first | exact .base (.base (.same _ rfl)) | exact .base (.base (.row _ _ _ _ _ _ rfl)) | exact .base (.base (.smap _ _ _ _ rfl)) | exact .base (.base (.imap _ _ _ _ _ rfl)) | exact .base (.base (.gmap _ _ _ _ _ rfl)) | exact .base (.base (.nils _ _ _)) | exact .base (.base (.lstrow _ _ _ _ _ _ _ rfl rfl)) | exact .box _ _ _ _ _ _ rfl (by repeat (first | exact .nil | (apply BorL.cons;first | exact .base (.same _ rfl) | exact .base (.row _ _ _ _ _ _ rfl) | exact .base (.smap _ _ _ _ rfl) | exact .base (.imap _ _ _ _ _ rfl) | exact .base (.gmap _ _ _ _ _ rfl) | exact .box _ _ _ _ _ _ rfl (by repeat (first | exact .nil | (apply BorL.cons;first | exact .same _ rfl | exact .row _ _ _ _ _ _ rfl | exact .lstrow _ _ _ _ _ _ _ rfl rfl | exact .lst _ _ _ _ rfl | exact .smap _ _ _ _ rfl | exact .imap _ _ _ _ _ rfl | exact .gmap _ _ _ _ _ rfl | exact .boxt _ _ _ rfl rfl rfl))) (by first | exact allOne_spec rfl | simp [AV.one]) | exact .fn _ _ _ _ _ _ _ (by repeat (first | exact .nil | (apply BorL.cons;first | exact .same _ rfl | exact .row _ _ _ _ _ _ rfl | exact .lstrow _ _ _ _ _ _ _ rfl rfl | exact .lst _ _ _ _ rfl | exact .smap _ _ _ _ rfl | exact .imap _ _ _ _ _ rfl | exact .gmap _ _ _ _ _ rfl | exact .boxt _ _ _ rfl rfl rfl))) (by repeat (first | exact .nil | (apply BorL.cons;first | exact .same _ rfl | exact .row _ _ _ _ _ _ rfl | exact .lstrow _ _ _ _ _ _ _ rfl rfl | exact .lst _ _ _ _ rfl | exact .smap _ _ _ _ rfl | exact .imap _ _ _ _ _ rfl | exact .gmap _ _ _ _ _ rfl | exact .boxt _ _ _ rfl rfl rfl)))))) (by first | exact allOne_spec rfl | simp [AV.one]) | exact .fn _ _ _ _ _ _ _ (by repeat (first | exact .nil | (apply BorL.cons;first | exact .base (.same _ rfl) | exact .base (.row _ _ _ _ _ _ rfl) | exact .base (.smap _ _ _ _ rfl) | exact .base (.imap _ _ _ _ _ rfl) | exact .base (.gmap _ _ _ _ _ rfl) | exact .box _ _ _ _ _ _ rfl (by repeat (first | exact .nil | (apply BorL.cons;first | exact .same _ rfl | exact .row _ _ _ _ _ _ rfl | exact .lstrow _ _ _ _ _ _ _ rfl rfl | exact .lst _ _ _ _ rfl | exact .smap _ _ _ _ rfl | exact .imap _ _ _ _ _ rfl | exact .gmap _ _ _ _ _ rfl | exact .boxt _ _ _ rfl rfl rfl))) (by first | exact allOne_spec rfl | simp [AV.one]) | exact .fn _ _ _ _ _ _ _ (by repeat (first | exact .nil | (apply BorL.cons;first | exact .same _ rfl | exact .row _ _ _ _ _ _ rfl | exact .lstrow _ _ _ _ _ _ _ rfl rfl | exact .lst _ _ _ _ rfl | exact .smap _ _ _ _ rfl | exact .imap _ _ _ _ _ rfl | exact .gmap _ _ _ _ _ rfl | exact .boxt _ _ _ rfl rfl rfl))) (by repeat (first | exact .nil | (apply BorL.cons;first | exact .same _ rfl | exact .row _ _ _ _ _ _ rfl | exact .lstrow _ _ _ _ _ _ _ rfl rfl | exact .lst _ _ _ _ rfl | exact .smap _ _ _ _ rfl | exact .imap _ _ _ _ _ rfl | exact .gmap _ _ _ _ _ rfl | exact .boxt _ _ _ rfl rfl rfl)))))) (by repeat (first | exact .nil | (apply BorL.cons;first | exact .base (.same _ rfl) | exact .base (.row _ _ _ _ _ _ rfl) | exact .base (.smap _ _ _ _ rfl) | exact .base (.imap _ _ _ _ _ rfl) | exact .base (.gmap _ _ _ _ _ rfl) | exact .box _ _ _ _ _ _ rfl (by repeat (first | exact .nil | (apply BorL.cons;first | exact .same _ rfl | exact .row _ _ _ _ _ _ rfl | exact .lstrow _ _ _ _ _ _ _ rfl rfl | exact .lst _ _ _ _ rfl | exact .smap _ _ _ _ rfl | exact .imap _ _ _ _ _ rfl | exact .gmap _ _ _ _ _ rfl | exact .boxt _ _ _ rfl rfl rfl))) (by first | exact allOne_spec rfl | simp [AV.one]) | exact .fn _ _ _ _ _ _ _ (by repeat (first | exact .nil | (apply BorL.cons;first | exact .same _ rfl | exact .row _ _ _ _ _ _ rfl | exact .lstrow _ _ _ _ _ _ _ rfl rfl | exact .lst _ _ _ _ rfl | exact .smap _ _ _ _ rfl | exact .imap _ _ _ _ _ rfl | exact .gmap _ _ _ _ _ rfl | exact .boxt _ _ _ rfl rfl rfl))) (by repeat (first | exact .nil | (apply BorL.cons;first | exact .same _ rfl | exact .row _ _ _ _ _ _ rfl | exact .lstrow _ _ _ _ _ _ _ rfl rfl | exact .lst _ _ _ _ rfl | exact .smap _ _ _ _ rfl | exact .imap _ _ _ _ _ rfl | exact .gmap _ _ _ _ _ rfl | exact .boxt _ _ _ rfl rfl rfl))))))))) (by first | exact allOne_spec rfl | simp [AV.one]) | exact .agg _ _ _ (by repeat (first | exact .nil | (apply BorL.cons;first | exact .base (.base (.same _ rfl)) | exact .base (.base (.row _ _ _ _ _ _ rfl)) | exact .base (.base (.smap _ _ _ _ rfl)) | exact .base (.base (.imap _ _ _ _ _ rfl)) | exact .base (.base (.gmap _ _ _ _ _ rfl)) | exact .base (.base (.nils _ _ _)) | exact .base (.base (.lstrow _ _ _ _ _ _ _ rfl rfl)) | exact .box _ _ _ _ _ _ rfl (by repeat (first | exact .nil | (apply BorL.cons;first | exact .base (.same _ rfl) | exact .base (.row _ _ _ _ _ _ rfl) | exact .base (.smap _ _ _ _ rfl) | exact .base (.imap _ _ _ _ _ rfl) | exact .base (.gmap _ _ _ _ _ rfl) | exact .box _ _ _ _ _ _ rfl (by repeat (first | exact .nil | (apply BorL.cons;first | exact .same _ rfl | exact .row _ _ _ _ _ _ rfl | exact .lstrow _ _ _ _ _ _ _ rfl rfl | exact .lst _ _ _ _ rfl | exact .smap _ _ _ _ rfl | exact .imap _ _ _ _ _ rfl | exact .gmap _ _ _ _ _ rfl | exact .boxt _ _ _ rfl rfl rfl))) (by first | exact allOne_spec rfl | simp [AV.one]) | exact .fn _ _ _ _ _ _ _ (by repeat (first | exact .nil | (apply BorL.cons;first | exact .same _ rfl | exact .row _ _ _ _ _ _ rfl | exact .lstrow _ _ _ _ _ _ _ rfl rfl | exact .lst _ _ _ _ rfl | exact .smap _ _ _ _ rfl | exact .imap _ _ _ _ _ rfl | exact .gmap _ _ _ _ _ rfl | exact .boxt _ _ _ rfl rfl rfl))) (by repeat (first | exact .nil | (apply BorL.cons;first | exact .same _ rfl | exact .row _ _ _ _ _ _ rfl | exact .lstrow _ _ _ _ _ _ _ rfl rfl | exact .lst _ _ _ _ rfl | exact .smap _ _ _ _ rfl | exact .imap _ _ _ _ _ rfl | exact .gmap _ _ _ _ _ rfl | exact .boxt _ _ _ rfl rfl rfl)))))) (by first | exact allOne_spec rfl | simp [AV.one]) | exact .fn _ _ _ _ _ _ _ (by repeat (first | exact .nil | (apply BorL.cons;first | exact .base (.same _ rfl) | exact .base (.row _ _ _ _ _ _ rfl) | exact .base (.smap _ _ _ _ rfl) | exact .base (.imap _ _ _ _ _ rfl) | exact .base (.gmap _ _ _ _ _ rfl) | exact .box _ _ _ _ _ _ rfl (by repeat (first | exact .nil | (apply BorL.cons;first | exact .same _ rfl | exact .row _ _ _ _ _ _ rfl | exact .lstrow _ _ _ _ _ _ _ rfl rfl | exact .lst _ _ _ _ rfl | exact .smap _ _ _ _ rfl | exact .imap _ _ _ _ _ rfl | exact .gmap _ _ _ _ _ rfl | exact .boxt _ _ _ rfl rfl rfl))) (by first | exact allOne_spec rfl | simp [AV.one]) | exact .fn _ _ _ _ _ _ _ (by repeat (first | exact .nil | (apply BorL.cons;first | exact .same _ rfl | exact .row _ _ _ _ _ _ rfl | exact .lstrow _ _ _ _ _ _ _ rfl rfl | exact .lst _ _ _ _ rfl | exact .smap _ _ _ _ rfl | exact .imap _ _ _ _ _ rfl | exact .gmap _ _ _ _ _ rfl | exact .boxt _ _ _ rfl rfl rfl))) (by repeat (first | exact .nil | (apply BorL.cons;first | exact .same _ rfl | exact .row _ _ _ _ _ _ rfl | exact .lstrow _ _ _ _ _ _ _ rfl rfl | exact .lst _ _ _ _ rfl | exact .smap _ _ _ _ rfl | exact .imap _ _ _ _ _ rfl | exact .gmap _ _ _ _ _ rfl | exact .boxt _ _ _ rfl rfl rfl)))))) (by repeat (first | exact .nil | (apply BorL.cons;first | exact .base (.same _ rfl) | exact .base (.row _ _ _ _ _ _ rfl) | exact .base (.smap _ _ _ _ rfl) | exact .base (.imap _ _ _ _ _ rfl) | exact .base (.gmap _ _ _ _ _ rfl) | exact .box _ _ _ _ _ _ rfl (by repeat (first | exact .nil | (apply BorL.cons;first | exact .same _ rfl | exact .row _ _ _ _ _ _ rfl | exact .lstrow _ _ _ _ _ _ _ rfl rfl | exact .lst _ _ _ _ rfl | exact .smap _ _ _ _ rfl | exact .imap _ _ _ _ _ rfl | exact .gmap _ _ _ _ _ rfl | exact .boxt _ _ _ rfl rfl rfl))) (by first | exact allOne_spec rfl | simp [AV.one]) | exact .fn _ _ _ _ _ _ _ (by repeat (first | exact .nil | (apply BorL.cons;first | exact .same _ rfl | exact .row _ _ _ _ _ _ rfl | exact .lstrow _ _ _ _ _ _ _ rfl rfl | exact .lst _ _ _ _ rfl | exact .smap _ _ _ _ rfl | exact .imap _ _ _ _ _ rfl | exact .gmap _ _ _ _ _ rfl | exact .boxt _ _ _ rfl rfl rfl))) (by repeat (first | exact .nil | (apply BorL.cons;first | exact .same _ rfl | exact .row _ _ _ _ _ _ rfl | exact .lstrow _ _ _ _ _ _ _ rfl rfl | exact .lst _ _ _ _ rfl | exact .smap _ _ _ _ rfl | exact .imap _ _ _ _ _ rfl | exact .gmap _ _ _ _ _ rfl | exact .boxt _ _ _ rfl rfl rfl)))))))))))):p:=h
theorem aj0 {p:Prop} (h:p:=by first | omega | (simp;omega)):p:=h
theorem ak0 {p:Prop} (h:p:=by first | (simp only [List.length_append,List.length_cons,List.length_nil];omega) | omega | (simp;omega)):p:=h
theorem al0 {p:Prop} (h:p:=by repeat (first | exact .nil | refine .cons (by first | exact .base (.tree _ _ rfl rfl) | exact .base (.own _ _ rfl) | exact .base (.ptr _ _ _ rfl) | exact .base (.map _ _ rfl) | exact .base (.nilown _ rfl) | exact .fn _ _ _ _ _ .nil (by repeat (first | exact .nil | refine .cons (by exact .ptr _ _ _ rfl) ?_)) | exact .base (.tree _ _ (LeT.nils_lsl 5 rfl) rfl) | exact .base (.leT _ _ (LeT.nils_lsl 5 rfl) rfl)) ?_)):p:=h
theorem am0 {p:Prop} (h:p:=by first | decide | exact fun _=>by decide):p:=h
theorem an0 {p:Prop} (h:p:=by first | exact allOne_spec rfl | simp [AV.one]):p:=h
theorem ao0 {p:Prop} (h:p:=by repeat (first | exact .nil | (apply BorL.cons;first | exact lS rfl | exact lR rfl | exact lM rfl rfl | exact lL rfl | exact lX rfl | exact lN | exact lNl | exact lSm rfl | exact lIm rfl | exact lGm rfl | exact lP rfl | exact lQ rfl | exact lB rfl rfl rfl))):p:=h
theorem wa0 {p:Prop} (h:p:=by exact .base (.tree _ _ rfl rfl)):p:=h
theorem wb0 {p:Prop} (h:p:=by exact ⟨_,rfl,.cells _ _ _ _ rfl aa0 rfl⟩):p:=h
theorem wc0 {p:Prop} (h:p:=by exact .base (.ptr _ _ _ rfl)):p:=h
theorem wd0 {p:Prop} (h:p:=by exact ⟨_,rfl,.cells _ _ _ _ rfl (by repeat (first | exact .nil | refine .cons (by first | exact .base (.tree _ _ rfl rfl) | exact .base (.own _ _ rfl) | exact .base (.ptr _ _ _ rfl) | exact .base (.map _ _ rfl) | exact .base (.nilown _ rfl) | exact .fn _ _ _ _ _ .nil (by repeat (first | exact .nil | refine .cons (by exact .ptr _ _ _ rfl) ?_))) ?_)) rfl⟩):p:=h
theorem we0 {p:Prop} (h:p:=by exact ⟨_,rfl,(by first | exact .row _ _ _ _ _ _ _ rfl rfl | exact .lstrow _ _ _ _ _ _ _ rfl rfl | exact .nilrow _ _ _ _ _ rfl | exact .truncrow _ _ _ _ _ _ _ _ rfl (by omega) rfl)⟩):p:=h
theorem wf0 {p:Prop} (h:p:=by exact ⟨_,rfl,.cells _ _ _ _ rfl al0 rfl⟩):p:=h
theorem wg0 {p:Prop} (h:p:=by exact .base (.own _ _ rfl)):p:=h
theorem wh0 {p:Prop} (h:p:=by exact .base (.nilown _ rfl)):p:=h
theorem wi0 {p:Prop} (h:p:=by exact .base (.trunc _ _ _ rfl)):p:=h
open Go.Proofs Go.Shelf Go.RowKit
variable {P:Program} {ρ:Go.Shelf.Ren}
open Go.Proofs Go.Shelf Go.ChangeShapes Go.WideShapes Go.RowKit
theorem row_lifted_laid [Tabs] {C:Checked} {P:Program} (hC:C.prog=P) {os:Os} {f:FuncId} {fn:Func} {s:ChangeSpec} {conds:List PathCond} {H:Type} {enc:TypeId×Value→H} {tb:TypeId} (laid:List (String×DataW Unit)) {Qs:List (AV→Prop)}
  (own:ownKnob P.godebug=none) (started:os.Started) (noInit:P.inits.idxOf? f=none) (hfn:P.funcs[f]?=some fn)
  (witness:∃ (w:World) (tape:Tape) (i:Input),w.os=os∧(w.forCall tape i).Shaped P∧i.vars=[]∧Input.okWide P (w.forCall tape i) .any w.heap.size f i ∧
   ((s.pre enc P fn conds false (w.forCall tape i).memory i.args∧laidMet P laid (w.forCall tape i).memory)∧sizedMet enc P fn (OpenSpec.ofChange s) false (w.forCall tape i).memory i.args)∧({}:Assume).holds P (lone (Frame.enter P f i.args .normal) [] (w.forCall tape i)))
  (hl:laidOutB P=true) (hsv:s.vars=[]) (hr:(fn.params.toList.all fun t=>P.readableRec t&&decide (t<P.types.size))=true)
  (hres:fn.resultTypes=#[tb]) (htb:P.underlying tb=some .bool) (hspec:∀ ds:List (DataW H),ds.length=fn.params.size→s.fn H (ds++[])={ results:=[.lit (.bool true)],args:=ds })
  (hQ:OpVs P fn.params.toList Qs) (hA:∀ avs,Alls Qs avs→APureV P f avs (.bool true)) (hTb:∀ W,laidMet P laid W→TabAt (All W) W) :
  ReturnsInHanded {} C os f .any (fun w args=>(s.pre enc P fn conds false w args∧laidMet P laid w)∧sizedMet enc P fn (OpenSpec.ofChange s) false w args) (s.post enc P fn false true false false):=by
 subst hC
 refine returnsInHanded_of_change_and (X:=fun w _=>laidMet C.prog laid w) (fun _ _ _ hh h=>h.of_heap hh) own started noInit hfn witness ?_
 intro W base args ds gs before hval0 hW hcnd _ hLd _
 have hval:∀ (j:Nat) t v,fn.params[j]?=some t→args[j]?=some v→Value.okWide C.prog W .any base t v:=hval0
 have hW':=hW
 obtain ⟨p,q,hA0,hV,rfl,hfz,hnd⟩:=hW
 have hA1:DataW.TrodAll enc C.prog W 0 (fun _=>true) true fn.params.toList args.toList ds p:=hA0
 rw [hsv] at hV
 obtain ⟨rfl,rfl⟩:=trodVars_none hV
 obtain ⟨avs,h1,h2⟩:=opens_list fn.params.toList Qs args.toList ds p hQ (fun j t v h1 h2=>hval j t v (by simpa using h1) (by simpa using h2)) hA1
 have hlen:∀ (ts:List TypeId) (vs:List Value) (ds:List (DataW H)) (ps:List MemPlace),DataW.TrodAll enc C.prog W 0 (fun _=>true) true ts vs ds ps→ds.length=ts.length:=by
  intro ts
  induction ts with
  | nil=>intro vs ds ps h;obtain ⟨_,rfl,_⟩:=trodAll_nil h;rfl
  | cons t ts ih =>
   intro vs ds ps h
   obtain ⟨v,vs',d,ds',p,q,rfl,rfl,rfl,_,h2⟩:=trodAll_cons h
   simp [ih _ _ _ h2]
 have hr':∀ t∈fn.params.toList,C.prog.readableRec t=true∧t<C.prog.types.size:=by
  intro t ht
  have:=List.all_eq_true.1 hr t ht
  simpa using this
 exact row_of_apure hl hsv hW' hr' hres htb (hspec ds (by simpa using hlen _ _ _ _ hA1)) (hTb W hLd) (hA avs h1) h2
variable {P:Program} {ρ:Go.Shelf.Ren}
end Go.Own
