import Derived.Test.YtgaallgiaachlaaGreatDoorLb
import Derived.Shelf.SortM.Plain
import Derived.Shelf.SortM.SortNone
import Derived.Shelf.Slices.CompactI
import Derived.Lib.SlKeysI
import Derived.ProofKit
import Derived.Deep.Slices
import Derived.Shelf.SlIter.Nil
import Derived.Shelf.SlIterI.Nil
import Derived.Shelf.Strconv.Itoa3
import Derived.Shelf.Strconv.AtoiAll
import Derived.Shelf.Small.Wraps
import Derived.Shelf.Small.Strs
import Derived.Lib.Builder
namespace Go.Own
def flushK:List Nat→Loc→Env→Env→(Env→Prop)→Prop
 | [],_,_,acc,k=>k acc
 | s::r,loc,env,acc,k=>match look loc env s with
  | (0,v)=>forceAV v fun v=>flushK r loc env ((s,v)::acc) k
  | (_+1,_)=>flushK r loc env acc k
def Rel [Tabs] (F:Fr) (N:Nat) (st:St) (a:Act) (w:World):Prop :=
 ∃ m S,Core F m S w st.heap st.nx∧a.tmps.size=N∧a.defers=F.ds∧∀ s,RelV m S w (a.tmps.getD s undef) (lk st.env s)
def orP (px:List PanicEntry→Prop) (Q:Exit→St→Prop):Exit→St→Prop
 | .panic ch,st=>px ch∨Q (.panic ch) st
 | e,st=>Q e st
def regQ (px:List PanicEntry→Prop) (Q:St→Prop):Exit→St→Prop
 | .normal,st=>Q st
 | .panic ch,_=>px ch
 | _,_=>False
inductive DrawG [Tabs] (C:Cx) (id:Nat) (ops:Array Oper) (env:Env) (H:Heap) (nx:Nat) (Q:St→Prop):Prop
 | quiet (hB:Region.lexB .any ops=true) (h:evOpsQ C H nx env ops.toList ops.toList [] [] fun loc=>flushK C.keep loc env [] fun env=>Q ⟨env,H,nx⟩)
 | any (h:∀ F a w,(∀ i v,F.pin i=some v→i<C.pn)→Rel F C.N ⟨env,H,nx⟩ a w→(Code.region id ops true).wp C.P (fun e a' w'=>∃ st',Rel F C.N st' a' w'∧regQ C.px Q e st') a w)
structure CxOk (C:Cx):Prop where
 tab:TabOk C.P C.T
 mixed:C.P.follows .mixedOrders=true
def Fr.fits (F:Fr) (pn:Nat):Prop:=∀ i v,F.pin i=some v→i<pn
inductive LoopG [Tabs] (C:Cx) (body:Code) (st:St) (Q:Exit→St→Prop):Prop
 | mk (h:∀ F a w,F.fits C.pn→Rel F C.N st a w→(Code.loop body).wp C.P (fun e a' w'=>∃ st',Rel F C.N st' a' w'∧orP C.px Q e st') a w)
def thenQ (next:St→Prop) (Q:Exit→St→Prop):Exit→St→Prop
 | .normal,st=>next st
 | e,st=>Q e st
def blockQ (id:Nat) (Q:Exit→St→Prop):Exit→St→Prop
 | .exit id',st=>match Nat.beq id' id with
  | true=>Q .normal st
  | false=>Q (.exit id') st
 | e,st=>Q e st
def evRegion [Tabs] (C:Cx) (ops:Array Oper) (st:St) (Q:St→Prop):Prop :=
 match st with
 | ⟨env,H,nx⟩=>evOps C false ops.toList ops.toList [] [] env H nx fun loc H nx=>flushK C.keep loc env [] fun env=>Q ⟨env,H,nx⟩
def evCode [Tabs] (C:Cx):Code→St→(Exit→St→Prop)→Prop
 | .skip,st,Q=>Q .normal st
 | .label _,st,Q=>Q .normal st
 | .region id ops draw,st,Q=>match draw with
  | false=>evRegion C ops st (Q .normal)
  | true=>match st with
   | ⟨env,H,nx⟩=>DrawG C id ops env H nx (Q .normal)
 | .seq x y,st,Q=>evCode C x st (thenQ (fun st'=>evCode C y st' Q) Q)
 | .cond c x y,st,Q=>match st with
  | ⟨env,H,nx⟩=>match rdOp [] env c with
   | .bool b=>(b=true→evCode C x ⟨env,H,nx⟩ Q)∧(b=false→evCode C y ⟨env,H,nx⟩ Q)
   | _=>False
 | .block id body,st,Q=>evCode C body st (blockQ id Q)
 | .loop body,st,Q=>LoopG C body st Q
 | .exit id,st,Q=>Q (.exit id) st
 | .ret,st,Q=>Q .ret st
 | _,_,_=>False
theorem flushK_sound {m:Ids} {S:Blocks} {w:World} {N:Nat} {tmps:Array Value} {loc:Loc} {env:Env} {stk:List Lay} (h:RunI m S w N tmps loc env stk):∀ (keep:List Nat) (acc:Env) (k:Env→Prop),flushK keep loc env acc k →
  (∀ s,RelV m S w (tmps.getD s undef) (lk acc s))→∃ env',k env'∧∀ s,RelV m S w (tmps.getD s undef) (lk env' s)
 | [],acc,k,hk,ha=>⟨acc,hk,ha⟩
 | s::r,acc,k,hk,ha=>by
  unfold flushK at hk
  split at hk
  ·rename_i v hl
   refine flushK_sound h r _ k (forceAV_iff.1 hk) fun x=>?_
   rw [lk_cons]
   split
   ·rename_i e
    subst e
    have:=h.rel s
    rw [hl] at this
    exact this
   ·exact ha x
  ·exact flushK_sound h r acc k hk ha
theorem Rel.run {F:Fr} {N:Nat} {st:St} {a:Act} {m:Ids} {S:Blocks} {w:World} (hs:a.tmps.size=N) (hr:∀ s,RelV m S w (a.tmps.getD s undef) (lk st.env s)):RunI m S w N a.tmps [] st.env [] :=
 ⟨hs,fun s=>hr s,trivial⟩
theorem range'_eq (n:Nat):List.range n=List.range' 0 n:=by rw [List.range_eq_range']
theorem evRegion_sound [Tabs] {C:Cx} (hT:TabOk C.P C.T) {id:Nat} {ops:Array Oper} {st:St} {Q:St→Prop} (h:evRegion C ops st Q) {F:Fr} {a:Act} {w:World} (hr:Rel F C.N st a w) :
  (Code.region id ops false).wp C.P (fun e a' w'=>∃ st',Rel F C.N st' a' w'∧regQ C.px Q e st') a w:=by
 obtain ⟨m,S,hc,hs,hd,hrel⟩:=hr
 refine wp_region ?_
 obtain ⟨env,H,nx⟩:=st
 have:=evOps_seq hT (F:=F) (all:=ops.toList) (Q:=fun e a' w'=>∃ st',Rel F C.N st' a' w'∧regQ C.px Q e st') ops.toList 0 [] [] env H nx _ (by simp) h ?_ (fun m S w a H nx ch hx hc hs hd=>⟨⟨[],H,nx⟩,⟨m,S,hc,hs,hd,fun s=>.t _ _ (.undef _)⟩,hx⟩) m S w a hc (Rel.run (F:=F) (st:=⟨env,H,nx⟩) hs hrel) hd
 ·rw [range'_eq]
  simpa using this
 ·intro m S w a loc stk H nx hk hc hr hd
  obtain ⟨env',hq,he⟩:=flushK_sound hr _ _ _ hk (fun s=>.t _ _ (.undef _))
  exact ⟨⟨env',H,nx⟩,⟨m,S,hc,hr.size,hd,he⟩,hq⟩
theorem drawG_sound [Tabs] {C:Cx} (hC:CxOk C) {id:Nat} {ops:Array Oper} {env:Env} {H:Heap} {nx:Nat} {Q:St→Prop} (h:DrawG C id ops env H nx Q) {F:Fr} {a:Act} {w:World} (hF:∀ i v,F.pin i=some v→i<C.pn) (hr:Rel F C.N ⟨env,H,nx⟩ a w) :
  (Code.region id ops true).wp C.P (fun e a' w'=>∃ st',Rel F C.N st' a' w'∧regQ C.px Q e st') a w:=by
 cases h with
 | any h=>exact h F a w hF hr
 | quiet hB h =>
  obtain ⟨m,S,hc,hs,hd,hrel⟩:=hr
  refine wp_region_quiet (C:=RowKit.Below w.heap.size w) hC.mixed hB ⟨rfl,rfl,rfl,Nat.le_refl _,fun _ _=>rfl⟩ ?_
  refine evOpsQ_sound hC.tab hc.good ops.toList [] [] _ h (fun a loc stk hk hr hd w' hw'=>?_) a (Rel.run (F:=F) (st:=⟨env,H,nx⟩) hs hrel) hd
  obtain ⟨env',hq,he⟩:=flushK_sound hr _ _ _ hk (fun s=>.t _ _ (.undef _))
  have e:=ext_below (nx:=nx) hc.good hw'
  exact ⟨⟨env',H,nx⟩,⟨m,S,hc.step e (Nat.le_refl _),hr.size,hd,fun s=>e.relV hc.good (he s)⟩,hq⟩
theorem regQ_orP {px:List PanicEntry→Prop} {Q:Exit→St→Prop} {e:Exit} {st:St} (h:regQ px (Q .normal) e st):orP px Q e st:=by
 cases e with
 | normal=>exact h
 | panic ch=>exact .inl h
 | exit _=>exact h.elim
 | goto _=>exact h.elim
 | ret=>exact h.elim
 | outgrown=>exact h.elim
theorem orP_off {px:List PanicEntry→Prop} (hp:∀ ch,¬ px ch) {Q:Exit→St→Prop} {e:Exit} {st:St} (h:orP px Q e st):Q e st:=by
 cases e with
 | panic ch=>exact h.resolve_left (hp ch)
 | _=>exact h
theorem evCode_sound [Tabs] {C:Cx} (hT:CxOk C) {F:Fr} (hF:F.fits C.pn):∀ (c:Code) (st:St) (Q:Exit→St→Prop),evCode C c st Q→∀ a w,Rel F C.N st a w→c.wp C.P (fun e a' w'=>∃ st',Rel F C.N st' a' w'∧orP C.px Q e st') a w
 | .skip,st,Q,h,a,w,hr=>wp_skip ⟨st,hr,h⟩
 | .label _,st,Q,h,a,w,hr=>wp_label ⟨st,hr,h⟩
 | .region id ops draw,st,Q,h,a,w,hr=>by
  unfold evCode at h
  cases draw with
  | false=>exact wp_mono (evRegion_sound hT.tab h hr) fun e a w ⟨st',h1,h2⟩=>⟨st',h1,regQ_orP h2⟩
  | true =>
   exact wp_mono (drawG_sound hT h hF hr) fun e a w ⟨st',h1,h2⟩=>⟨st',h1,regQ_orP h2⟩
 | .seq x y,st,Q,h,a,w,hr=>by
  refine wp_seq (wp_mono (evCode_sound hT hF x st _ h a w hr) fun e a' w' ⟨st',h1,h2⟩=>?_)
  cases e with
  | normal=>exact evCode_sound hT hF y st' Q h2 a' w' h1
  | _=>exact ⟨st',h1,h2⟩
 | .cond c x y,st,Q,h,a,w,hr=>by
  obtain ⟨env,H,nx⟩:=st
  simp only [evCode] at h
  split at h
  ·rename_i b hb
   have hv:a.eval c=.bool b:=by
    obtain ⟨m,S,hc,hs,hd,hrel⟩:=hr
    have:=(Rel.run (F:=F) (st:=⟨env,H,nx⟩) hs hrel).read (a:=a) trivial c
    rw [hb] at this
    exact relV_bool this
   exact wp_cond_split hv (fun hb=>evCode_sound hT hF x _ Q (h.1 hb) a w hr) (fun hb=>evCode_sound hT hF y _ Q (h.2 hb) a w hr)
  ·exact h.elim
 | .block id body,st,Q,h,a,w,hr=>by
  refine wp_block (wp_mono (evCode_sound hT hF body st _ h a w hr) fun e a' w' ⟨st',h1,h2⟩=>?_)
  cases e with
  | exit id' =>
   change blockQ id Q (.exit id') st' at h2
   simp only [blockQ] at h2
   by_cases e:id'=id
   ·subst e
    simp only [Nat.beq_refl] at h2
    simp only [Exit.inBlock,if_true]
    exact ⟨st',h1,h2⟩
   ·have hb:Nat.beq id' id=false:=by
     cases h:Nat.beq id' id with
     | false=>rfl
     | true=>exact (e (Nat.eq_of_beq_eq_true h)).elim
    rw [hb] at h2
    simp only [Exit.inBlock,e,if_false]
    exact ⟨st',h1,h2⟩
  | _=>exact ⟨st',h1,h2⟩
 | .loop body,st,Q,h,a,w,hr=>by
  obtain ⟨h⟩:=h
  exact h F a w hF hr
 | .exit id,st,Q,h,a,w,hr=>wp_exit ⟨st,hr,h⟩
 | .ret,st,Q,h,a,w,hr=>wp_ret ⟨st,hr,h⟩
 | .rangeFunc ..,st,Q,h,a,w,hr=>h.elim
 | .scope _,st,Q,h,a,w,hr=>h.elim
 | .goto _,st,Q,h,a,w,hr=>h.elim
 | .refuse _,st,Q,h,a,w,hr=>h.elim
def Wk [Tabs] (pn N:Nat) (st st':St):Prop:=∀ F a w,F.fits pn→Rel F N st a w→Rel F N st' a w
def loopQ [Tabs] {σ:Type _} (I:σ→Prop) (μ:σ→Nat) (n:Nat) (pn N:Nat) (st:σ→St) (Q:Exit→St→Prop):Exit→St→Prop
 | .normal,st'=>∃ s,I s∧μ s<n∧Wk pn N st' (st s)
 | e,st'=>Q e st'
theorem loop_inv [Tabs] {C:Cx} (hT:CxOk C) {body:Code} {st0:St} {Q:Exit→St→Prop} {σ:Type _} (I:σ→Prop) (μ:σ→Nat) (st:σ→St) (s0:σ) (h0:I s0) (hw:Wk C.pn C.N st0 (st s0))
  (round:∀ s,I s→evCode C body (st s) (loopQ I μ (μ s) C.pn C.N st Q)):LoopG C body st0 Q:=by
 refine ⟨fun F a w hF hr b k cs=>?_⟩
 have key:∀ n s a w,μ s=n→I s→Rel F C.N (st s) a w →
   ∃ e a' w',(∃ st',Rel F C.N st' a' w'∧orP C.px Q e st')∧Arrives C.P (lone (b.at a (.code body::.inLoop body::k)) cs w) b k cs e a' w':=by
  intro n
  induction n using Nat.strongRecOn with
  | _ n ih =>
   intro s a w hn hI hR
   obtain ⟨e,a₁,w₁,⟨st',h1,h2⟩,harr⟩:=evCode_sound hT hF body (st s) _ (round s hI) a w hR b (.inLoop body::k) cs
   cases e with
   | normal =>
    obtain ⟨s',hI',hlt,hwk⟩:=h2
    obtain ⟨e₂,a₂,w₂,hq₂,harr₂⟩:=ih (μ s') (hn ▸ hlt) s' a₁ w₁ rfl hI' (hwk F a₁ w₁ hF h1)
    exact ⟨e₂,a₂,w₂,hq₂,.of_steps (Steps.trans harr (.one step_inLoop)) harr₂⟩
   | exit id=>exact ⟨.exit id,a₁,w₁,⟨st',h1,h2⟩,.pass (x:=.inLoop body) rfl (fun _ _=>.inl (by simp)) harr⟩
   | goto l=>exact ⟨.goto l,a₁,w₁,⟨st',h1,h2⟩,.pass (x:=.inLoop body) rfl (fun _ _=>.inl (by simp)) harr⟩
   | ret=>exact ⟨.ret,a₁,w₁,⟨st',h1,h2⟩,.pass (x:=.inLoop body) rfl (fun _ _=>.inl (by simp)) harr⟩
   | panic ch=>exact ⟨.panic ch,a₁,w₁,⟨st',h1,h2⟩,.pass (x:=.inLoop body) rfl (fun _ _=>.inl (by simp)) harr⟩
   | outgrown=>exact ⟨.outgrown,a₁,w₁,⟨st',h1,h2⟩,.pass (x:=.inLoop body) rfl (fun _ _=>.inl (by simp)) harr⟩
 obtain ⟨e,a',w',hq,harr⟩:=key _ s0 a w rfl h0 (hw F a w hF hr)
 exact ⟨e,a',w',hq,.of_steps (.one step_loop) harr⟩
def argEnv:List AV→Nat→Env
 | [],_=>[]
 | a::l,i=>(i,a)::argEnv l (i+1)
def AB.trees:AB→Bool
 | .cells _ l=>treesB l
 | _=>true
def resK (T:Tab):List ResultVar→St→List AR→List Nat→(List AR→Prop)→Prop
 | [],_,acc,_,k=>k acc.reverse
 | .tmp t::r,st,acc,used,k=>match lk st.env t with
  | .own id=>match notIn id used with
   | false=>False
   | true=>match lkH st.heap id with
    | .lst e E l=>resK T r st (.new (.lst e E l)::acc) (id::used) k
    | .row e E enc d xs=>resK T r st (.new (.row e E enc d xs)::acc) (id::used) k
    | _=>False
  | .map id=>match notIn id used with
   | false=>False
   | true=>match lkH st.heap id with
    | .smap ev dv es=>resK T r st (.new (.smap ev dv es)::acc) (id::used) k
    | .imap kk ev dv es=>resK T r st (.new (.imap kk ev dv es)::acc) (id::used) k
    | .gmap kk ev dv es=>resK T r st (.new (.gmap kk ev dv es)::acc) (id::used) k
    | _=>False
  | .ptr id 0=>match notIn id used with
   | false=>False
   | true=>match lkH st.heap id with
    | .cells e l=>match treesB l with
     | true=>resK T r st (.new (.cells e l)::acc) (id::used) k
     | false=>False
    | _=>False
  | v=>forceAV v fun v=>match v.tree with
   | true=>resK T r st (.val v::acc) used k
   | false=>False
 | .cell t ty::r,st,acc,used,k=>evLoad T none st.heap st.nx ty (lk st.env t) fun res=>match res with
  | ⟨v,_,_,_⟩=>forceAV v fun v=>match v.tree with
   | true=>resK T r st (.val v::acc) used k
   | false=>False
def retQ (T:Tab) (rs:Array ResultVar) (R:List AR→Prop):Exit→St→Prop
 | .normal,st=>resK T rs.toList st [] [] R
 | .ret,st=>resK T rs.toList st [] [] R
 | _,_=>False
theorem relB_move {m m':Ids} {S:Blocks} {w:World} {id n:Nat} {b:AB} {v:Value} (h:RelB m S w id b) (hm:m id=some v) (hm':m' n=some v) (hb:b.trees=true):RelB m' S w n b:=by
 cases b with
 | dead=>trivial
 | cells e l =>
  obtain ⟨g,cs,hmi,hg,hl,h1,hr⟩:=h
  rw [hmi] at hm
  cases hm
  exact ⟨g,cs,hm',hg,hl,h1,fun j c a hj ha=>.t _ _ ((hr j c a hj ha).toT (treesB_spec hb a (List.mem_of_getElem? ha)))⟩
 | arr e k n' f=>obtain ⟨g,cs,hmi,hr⟩:=h;rw [hmi] at hm;cases hm;exact ⟨g,cs,hm',hr⟩
 | lst e E l=>obtain ⟨v',vs,hmi,hr⟩:=h;rw [hmi] at hm;cases hm;exact ⟨_,vs,hm',hr⟩
 | row e E enc d xs=>obtain ⟨v',vs,hmi,hr⟩:=h;rw [hmi] at hm;cases hm;exact ⟨_,vs,hm',hr⟩
 | smap ev dv es=>obtain ⟨r,en,clock,hmi,hr⟩:=h;rw [hmi] at hm;cases hm;exact ⟨r,en,clock,hm',hr⟩
 | imap k ev dv es=>obtain ⟨r,en,clock,hmi,hr⟩:=h;rw [hmi] at hm;cases hm;exact ⟨r,en,clock,hm',hr⟩
 | gmap k ev dv es=>obtain ⟨r,en,clock,hmi,hr⟩:=h;rw [hmi] at hm;cases hm;exact ⟨r,en,clock,hm',hr⟩
 | que e E enc d xs=>obtain ⟨g,o,cap,cur,hmi,hr⟩:=h;rw [hmi] at hm;cases hm;exact ⟨g,o,cap,cur,hm',hr⟩
theorem relB_single {m:Ids} {S:Blocks} {w:World} {id:Nat} {b:AB} {v:Value} (h:RelB m S w id b) (hm:m id=some v) (hb:b.trees=true):∀ n,RelB (fun i=>if i=n then some v else none) S w n b:=by
 intro n
 exact relB_move h hm (by simp) hb
def slotVal (P:Program) (a:Act) (w:World):ResultVar→Value
 | .tmp t=>a.tmps.getD t undef
 | .cell t ty=>match a.tmps.getD t undef with
  | .pointer (some p)=>match (loadVar ty p).run P w with
   | .ok v _=>v
   | _=>undef
  | _=>undef
def slotVals (P:Program) (rs:List ResultVar) (a:Act) (w:World):List Value:=rs.map (slotVal P a w)
def SlotRun (P:Program) (a:Act) (w:World):ResultVar→Prop
 | .tmp _=>True
 | .cell t ty=>∃ p v,a.tmps.getD t undef=.pointer (some p)∧(loadVar ty p).run P w=.ok v w
inductive ResRel (m:Ids) (S:Blocks) (w:World) (H:Heap) (v:Value):AR→Option Nat→Prop
 | val (a:AV) (h:RelT S w v a):ResRel m S w H v (.val a) none
 | obj (id:Nat) (b:AB) (hm:m id=some v) (hl:lkH H id=b) (hlive:b.live=true) (hb:b.trees=true):ResRel m S w H v (.new b) (some id)
theorem resK_sound [Tabs] {P:Program} {T:Tab} (hT:TabOk P T) {m:Ids} {S:Blocks} {w:World} {st:St} {a:Act} (hG:Good m S w st.heap) (hrel:∀ s,RelV m S w (a.tmps.getD s undef) (lk st.env s)) :
  ∀ (rs:List ResultVar) (acc:List AR) (used:List Nat) (k:List AR→Prop),resK T rs st acc used k →
   ∃ (rs':List AR) (ids:List (Option Nat)),k (acc.reverse++rs')∧rs'.length=rs.length∧ids.length=rs.length ∧
    (∀ (j:Nat) (v:Value) (r:AR) (o:Option Nat),(slotVals P rs a w)[j]?=some v→rs'[j]?=some r→ids[j]?=some o→ResRel m S w st.heap v r o) ∧
    (∀ (i j x:Nat),ids[i]?=some (some x)→ids[j]?=some (some x)→i=j)∧(∀ x,some x∈ids→x∉used)∧∀ r∈rs,SlotRun P a w r
 | [],acc,used,k,h=>⟨[],[],by simpa [resK] using h,rfl,rfl,fun j v r o h=>by simp [slotVals] at h,fun i j x h=>by simp at h,by simp,by simp⟩
 | r0::r,acc,used,k,h=>by
  have put:∀ (x:AR) (o:Option Nat) (used':List Nat),SlotRun P a w r0→ResRel m S w st.heap (slotVal P a w r0) x o→(∀ i,o=some i→i∉used∧used'=i::used)→(o=none→used'=used)→resK T r st (x::acc) used' k →
    ∃ (rs':List AR) (ids:List (Option Nat)),k (acc.reverse++rs')∧rs'.length=(r0::r).length∧ids.length=(r0::r).length ∧
     (∀ (j:Nat) (v:Value) (r':AR) (o:Option Nat),(slotVals P (r0::r) a w)[j]?=some v→rs'[j]?=some r'→ids[j]?=some o→ResRel m S w st.heap v r' o) ∧
     (∀ (i j x:Nat),ids[i]?=some (some x)→ids[j]?=some (some x)→i=j)∧(∀ x,some x∈ids→x∉used)∧∀ r'∈r0::r,SlotRun P a w r':=by
   intro x o used' hrun hx ho1 ho2 hk
   obtain ⟨rs',ids,h1,h2,h3,h4,h5,h6,h7⟩:=resK_sound hT hG hrel r _ _ k hk
   refine ⟨x::rs',o::ids,by simpa using h1,by simp [h2],by simp [h3],fun j v r' o' p q s=>?_,fun i j y p q=>?_,fun y hy=>?_,fun r' hr'=>?_⟩
   ·cases j with
    | zero =>
     simp only [slotVals,List.map_cons,List.getElem?_cons_zero,Option.some.injEq] at p q s
     subst p;subst q;subst s;exact hx
    | succ j=>exact h4 j v r' o' (by simpa [slotVals] using p) (by simpa using q) (by simpa using s)
   ·cases i with
    | zero=>cases j with
     | zero=>rfl
     | succ j =>
      simp at p q
      subst p
      have:=h6 y (List.mem_of_getElem? q)
      rw [(ho1 y rfl).2] at this
      exact (this (by simp)).elim
    | succ i=>cases j with
     | zero =>
      simp at p q
      subst q
      have:=h6 y (List.mem_of_getElem? p)
      rw [(ho1 y rfl).2] at this
      exact (this (by simp)).elim
     | succ j=>have:=h5 i j y (by simpa using p) (by simpa using q);omega
   ·rcases List.mem_cons.1 hy with hy | hy
    ·exact (ho1 y hy.symm).1
    ·have:=h6 y hy
     cases o with
     | none=>rw [ho2 rfl] at this;exact this
     | some i=>rw [(ho1 i rfl).2] at this;intro hu;exact this (by simp [hu])
   ·rcases List.mem_cons.1 hr' with rfl | hr'
    ·exact hrun
    ·exact h7 r' hr'
  match r0,put,h with
  | .cell t ty,put,h =>
  unfold resK at h
  let o : Oper := { dst := none, op := .load ty (.tmp t), type := 0, pos := "", after := #[], guard := none }
  obtain ⟨res,hsem,_,h⟩:=evLoad_sound (P:=P) (T:=T) hT (g:=none) (rd:=fun x=>match x with | .tmp s=>lk st.env s | _=>.undef) (o:=o) (x:=.tmp t) rfl h
  obtain ⟨v,touch,wr,nx'⟩:=res
  simp only [forceAV_iff] at h
  obtain ⟨_,hsem⟩:=hsem trivial
  obtain ⟨u,hu,hru⟩:=hsem m S w a st.heap hG (fun _ _=>rfl) (fun x hx _=>by
   simp only [List.mem_singleton] at hx
   subst hx
   exact hrel t)
  have hu:=hu w ⟨Nat.le_refl _,fun _ _=>rfl⟩
  have hld:∃ p,a.tmps.getD t undef=.pointer (some p)∧(loadVar ty p).run P w=.ok u w:=by
   unfold execOp at hu
   have he:a.eval (.tmp t)=a.tmps.getD t undef:=rfl
   simp only [o,he,Instr.loadAt,Instr.sureAddr] at hu
   generalize a.tmps.getD t undef=v0 at hu ⊢
   cases v0 with
   | pointer p0 =>
    cases p0 with
    | none=>simp [stuck,Sem.run_bind,Result.andThen] at hu
    | some p =>
     refine ⟨p,rfl,?_⟩
     simp only [Sem.run_bind,Sem.run_pure,Result.andThen_ok] at hu
     cases hr:(loadVar ty p).run P w with
     | ok v1 w1=>rw [hr] at hu;simp at hu;rw [hu.1,hu.2]
     | _=>rw [hr] at hu;simp [Result.andThen] at hu
   | _=>simp [stuck,Sem.run_bind,Result.andThen] at hu
  obtain ⟨p,hp,hl⟩:=hld
  split at h
  ·rename_i htr
   refine put (.val v) none used ⟨p,u,hp,hl⟩ (.val _ ?_) (fun i hi=>by cases hi) (fun _=>rfl) h
   have:slotVal P a w (.cell t ty)=u:=by simp only [slotVal,hp,hl]
   rw [this]
   exact hru.toT htr
  ·exact h.elim
  | .tmp t,put,h =>
  have hv:=hrel t
  unfold resK at h
  have put:∀ (x:AR) (o:Option Nat) (used':List Nat),ResRel m S w st.heap (a.tmps.getD t undef) x o→(∀ i,o=some i→i∉used∧used'=i::used)→(o=none→used'=used)→resK T r st (x::acc) used' k→_ :=
   fun x o used'=>put x o used' trivial
  split at h
  ·rename_i id hl
   rw [hl] at hv
   split at h
   ·exact h.elim
   ·rename_i hn
    have hmid:m id=some (a.tmps.getD t undef):=by
     generalize a.tmps.getD t undef=v at hv
     cases hv with
     | t _ _ h=>cases h
     | own id n cap ad hm=>exact hm
    split at h
    ·rename_i e E l hid
     exact put _ (some id) _ (.obj id _ hmid hid rfl rfl) (fun i hi=>by cases hi;exact ⟨fun hu=>notIn_spec hn _ hu rfl,rfl⟩) (fun h=>by cases h) h
    ·rename_i T e E enc d xs hid
     exact put _ (some id) _ (.obj id _ hmid hid rfl rfl) (fun i hi=>by cases hi;exact ⟨fun hu=>notIn_spec hn _ hu rfl,rfl⟩) (fun h=>by cases h) h
    ·exact h.elim
  ·rename_i id hl
   rw [hl] at hv
   split at h
   ·exact h.elim
   ·rename_i hn
    have hmid:m id=some (a.tmps.getD t undef):=by
     generalize a.tmps.getD t undef=v at hv
     cases hv with
     | t _ _ h=>cases h
     | map id r hm=>exact hm
    split at h
    ·rename_i V ev dv es hid
     exact put _ (some id) _ (.obj id _ hmid hid rfl rfl) (fun i hi=>by cases hi;exact ⟨fun hu=>notIn_spec hn _ hu rfl,rfl⟩) (fun h=>by cases h) h
    ·rename_i V kk ev dv es hid
     exact put _ (some id) _ (.obj id _ hmid hid rfl rfl) (fun i hi=>by cases hi;exact ⟨fun hu=>notIn_spec hn _ hu rfl,rfl⟩) (fun h=>by cases h) h
    ·rename_i V kk ev dv es hid
     exact put _ (some id) _ (.obj id _ hmid hid rfl rfl) (fun i hi=>by cases hi;exact ⟨fun hu=>notIn_spec hn _ hu rfl,rfl⟩) (fun h=>by cases h) h
    ·exact h.elim
  ·rename_i id hl
   rw [hl] at hv
   split at h
   ·exact h.elim
   ·rename_i hn
    have hmid:∀ e l,lkH st.heap id=.cells e l→m id=some (a.tmps.getD t undef):=by
     intro e l hid
     have hb:=hG.rel id
     rw [hid] at hb
     obtain ⟨g,cs,hmi,_⟩:=hb
     generalize a.tmps.getD t undef=v at hv
     cases hv with
     | t _ _ h=>cases h
     | ptr id off g' hm=>exact hm
    split at h
    ·rename_i e l hid
     split at h
     ·rename_i htr
      exact put _ (some id) _ (.obj id _ (hmid e l hid) hid rfl htr) (fun i hi=>by cases hi;exact ⟨fun hu=>notIn_spec hn _ hu rfl,rfl⟩) (fun h=>by cases h) h
     ·exact h.elim
    ·exact h.elim
  ·rw [forceAV_iff] at h
   split at h
   ·rename_i htr
    exact put _ none _ (.val _ (hv.toT htr)) (fun i hi=>by cases hi) (fun _=>rfl) h
   ·exact h.elim
theorem run_results {P:Program} {fn:Func} {w:World} {a:Act} (h:∀ r∈fn.results.toList,SlotRun P a w r) (hn:fn.results.size≤4):(results fn a.tmps).run P w=Result.ok (retVal (slotVals P fn.results.toList a w)) w:=by
 obtain ⟨l,hl⟩:∃ l,fn.results=Array.mk l:=⟨fn.results.toList,rfl⟩
 rw [hl] at h hn
 simp only [List.size_toArray] at hn
 have one:∀ r,SlotRun P a w r→(∃ t,r=.tmp t)∨∃ t ty p v,r=.cell t ty∧a.tmps[t]?.getD undef=.pointer (some p)∧(loadVar ty p).run P w=.ok v w:=by
  intro r hr
  cases r with
  | tmp t=>exact .inl ⟨t,rfl⟩
  | cell t ty=>obtain ⟨p,v,h1,h2⟩:=hr;exact .inr ⟨t,ty,p,v,rfl,by simpa using h1,h2⟩
 match l,h,hn with
 | [],h,hn=>simp [results,hl,slotVals,retVal]
 | [r0],h,hn =>
  rcases one r0 (h r0 (by simp)) with ⟨t0,rfl⟩ | ⟨t0,y0,p0,v0,rfl,a0,b0⟩<;>simp [results,hl,slotVals,slotVal,retVal,asAddr, *]
 | [r0,r1],h,hn =>
  rcases one r0 (h r0 (by simp)) with ⟨t0,rfl⟩ | ⟨t0,y0,p0,v0,rfl,a0,b0⟩<;>rcases one r1 (h r1 (by simp)) with ⟨t1,rfl⟩ | ⟨t1,y1,p1,v1,rfl,a1,b1⟩<;>simp [results,hl,slotVals,slotVal,retVal,asAddr, *]
 | [r0,r1,r2],h,hn =>
  rcases one r0 (h r0 (by simp)) with ⟨t0,rfl⟩ | ⟨t0,y0,p0,v0,rfl,a0,b0⟩<;>rcases one r1 (h r1 (by simp)) with ⟨t1,rfl⟩ | ⟨t1,y1,p1,v1,rfl,a1,b1⟩ <;>
   rcases one r2 (h r2 (by simp)) with ⟨t2,rfl⟩ | ⟨t2,y2,p2,v2,rfl,a2,b2⟩<;>simp [results,hl,slotVals,slotVal,retVal,asAddr, *]
 | [r0,r1,r2,r3],h,hn =>
  rcases one r0 (h r0 (by simp)) with ⟨t0,rfl⟩ | ⟨t0,y0,p0,v0,rfl,a0,b0⟩<;>rcases one r1 (h r1 (by simp)) with ⟨t1,rfl⟩ | ⟨t1,y1,p1,v1,rfl,a1,b1⟩ <;>
   rcases one r2 (h r2 (by simp)) with ⟨t2,rfl⟩ | ⟨t2,y2,p2,v2,rfl,a2,b2⟩<;>rcases one r3 (h r3 (by simp)) with ⟨t3,rfl⟩ | ⟨t3,y3,p3,v3,rfl,a3,b3⟩<;>simp [results,hl,slotVals,slotVal,retVal,asAddr, *]
 | _::_::_::_::_::_,h,hn=>simp at hn
theorem lk_argEnv:∀ (args:List AV) (i s:Nat),lk (argEnv args i) s=if i≤s then args.getD (s-i) .undef else .undef
 | [],i,s=>by simp [argEnv,lk]
 | a::l,i,s=>by
  rw [argEnv,lk_cons,lk_argEnv l (i+1) s]
  by_cases h1:i=s
  ·subst h1;simp
  ·rw [if_neg h1]
   by_cases h2:i≤s
   ·rw [if_pos h2,if_pos (by omega)]
    obtain ⟨q,hq⟩:∃ q,s-i=q+1:=⟨s-i-1,by omega⟩
    rw [hq,show s-(i+1)=q by omega]
    simp
   ·rw [if_neg h2,if_neg (by omega)]
theorem apure_of0 [Tabs] {C : Cx} (hT : CxOk C) {f : FuncId} {fn : Func} {code : Code} {args : List AV} {R : List AR → Prop} (hf : C.P.funcs[f]? = some fn) (hb : fn.body = some code) (hname : (fn.name == "runtime.NumGoroutine") = false)
  (hN:C.N=fn.ntmps) (hle:args.length≤fn.ntmps) (hres:fn.results.size≤4) (h:∀ F a w,F.fits C.pn→Rel F C.N ⟨argEnv args 0,[],0⟩ a w→code.wp C.P (fun e a' w'=>∃ st',Rel F C.N st' a' w'∧retQ C.T fn.results R e st') a w):APure C.P f args R:=by
 refine ⟨⟨fn,hf,by rw [hb];rfl,hname⟩,fun S w vs hS hTb ⟨hlen,hrel⟩=>calls_of_wp hf hb ?_⟩
 let F:Fr:=⟨w,fun _=>False,S,fun _=>none,[]⟩
 have hrel0:Rel F C.N ⟨argEnv args 0,[],0⟩ { tmps:=vs.toArray++Array.replicate (fn.ntmps-vs.toArray.size) undef,defers:=[] } w:=by
  refine ⟨fun _=>none,S,⟨⟨fun id=>trivial,fun i j vi vj k hl=>by simp [lkH,AB.live] at hl,fun g hg=>⟨hS g hg,fun i v hl=>by simp [lkH,AB.live] at hl⟩,hTb⟩,fun _ _=>rfl,Far.refl _ _,fun k ⟨i,v,hl,_⟩=>by simp [lkH,AB.live] at hl,fun g hg=>.inl hg,fun g hg=>hg,fun i v h=>by cases h⟩,by simp;omega,rfl,fun s=>?_⟩
  rw [lk_argEnv,if_pos (Nat.zero_le _),Nat.sub_zero]
  by_cases hs:s<args.length
  ·have h1:args[s]?=some (args.getD s .undef):=by simp [List.getD,List.getElem?_eq_getElem hs]
   have h2:vs[s]?=some ((vs.toArray++Array.replicate (fn.ntmps-vs.toArray.size) undef).getD s undef):=by
    have:s<vs.length:=by omega
    simp [Array.getElem?_append,this]
   exact .t _ _ (hrel s _ _ h2 h1)
  ·have:args.getD s .undef=.undef:=by simp [List.getD,List.getElem?_eq_none (by omega:args.length≤s)]
   rw [this]
   exact .t _ _ (.undef _)
 refine wp_mono (h F _ w (fun i v h=>by cases h) hrel0) fun e a' w' ⟨st',⟨m,S',hc,hs,hd,hr⟩,hq⟩=>?_
 have fin:resK C.T fn.results.toList st' [] [] R→a'.defers=[]∧∃ v,(results fn a'.tmps).run C.P w'=.ok v w'∧∃ us rs S',Ending.returned v=.returned (retVal us)∧R rs∧Left S w us rs S' w':=by
  intro hq
  obtain ⟨rs,ids,h1,h2,h3,h4,h5,_,h7⟩:=resK_sound hT.tab hc.good hr _ _ _ _ hq
  have hlenv:(slotVals C.P fn.results.toList a' w').length=rs.length:=by rw [h2];simp [slotVals]
  refine ⟨hd,_,run_results h7 hres,slotVals C.P fn.results.toList a' w',rs,S',rfl,by simpa using h1,⟨hlenv,fun j u r hu hr'=>?_,hc.far.below (fun k _ h=>h),hc.ro0,fun g hg=>(hc.ro g hg).elim .inl (fun h=>h.elim (fun h=>h.elim) .inr),fun g hg=>(hc.good.ro g hg).1,fun i u b k hu hb hk=>?_⟩⟩
  ·obtain ⟨o,ho⟩:∃ o,ids[j]?=some o:=⟨_,List.getElem?_eq_getElem (by
    have:=(List.getElem?_eq_some_iff.1 hr').1
    omega)⟩
   cases h4 j u r o hu hr' ho with
   | val a h=>exact h
   | obj id b hm hl hlive hb =>
    refine ⟨hlive,fun k hk=>?_,relB_single (by rw [← hl];exact hc.good.rel id) hm hb⟩
    rcases hc.owns k ⟨id,u,by rw [hl];exact hlive,hm,hk⟩ with h | h
    ·exact h.elim
    ·exact h
  ·obtain ⟨o,ho⟩:∃ o,ids[i]?=some o:=⟨_,List.getElem?_eq_getElem (by
    have:=(List.getElem?_eq_some_iff.1 hb).1
    omega)⟩
   cases h4 i u (.new b) o hu hb ho with
   | obj id _ hm hl hlive hbc =>
    refine ⟨fun hSk=>(hc.good.ro k hSk).2 id u (by rw [hl];exact hlive) hm hk,fun j u' b' hu' hb' hk'=>?_⟩
    obtain ⟨o',ho'⟩:∃ o,ids[j]?=some o:=⟨_,List.getElem?_eq_getElem (by
     have:=(List.getElem?_eq_some_iff.1 hb').1
     omega)⟩
    cases h4 j u' (.new b') o' hu' hb' ho' with
    | obj id' _ hm' hl' hlive' hbc' =>
     have:=hc.good.sep id id' u u' k (by rw [hl];exact hlive) (by rw [hl'];exact hlive') hm hm' hk hk'
     subst this
     exact h5 i j id ho ho'
 cases e with
 | normal=>exact fin hq
 | ret=>exact fin hq
 | _=>exact hq.elim
theorem apure_of [Tabs] {C : Cx} (hT : CxOk C) {f : FuncId} {fn : Func} {code : Code} {args : List AV} {R : List AR → Prop} (hf : C.P.funcs[f]? = some fn) (hb : fn.body = some code) (hname : (fn.name == "runtime.NumGoroutine") = false)
  (hN:C.N=fn.ntmps) (hle:args.length≤fn.ntmps) (hres:fn.results.size≤4) (h:evCode C code ⟨argEnv args 0,[],0⟩ (retQ C.T fn.results R)) (hpx:∀ ch,¬ C.px ch:=by exact fun _ h=>h):APure C.P f args R :=
 apure_of0 hT hf hb hname hN hle hres fun _ a w hF hr=>wp_mono (evCode_sound hT hF code _ _ h a w hr) fun _ _ _ ⟨st',h1,h2⟩=>⟨st',h1,orP_off hpx h2⟩
def wkQ [Tabs] (pn N:Nat) (Q:Exit→St→Prop) (e:Exit) (st:St):Prop:=∃ st',Wk pn N st st'∧Q e st'
theorem Wk.refl [Tabs] {pn N:Nat} (st:St):Wk pn N st st:=fun _ _ _ _ h=>h
theorem Wk.trans [Tabs] {pn N:Nat} {a b c:St} (h:Wk pn N a b) (k:Wk pn N b c):Wk pn N a c:=fun F x w hF hr=>k F x w hF (h F x w hF hr)
theorem apure_ofw [Tabs] {C : Cx} (hT : CxOk C) {f : FuncId} {fn : Func} {code : Code} {args : List AV} {R : List AR → Prop} (hf : C.P.funcs[f]? = some fn) (hb : fn.body = some code) (hname : (fn.name == "runtime.NumGoroutine") = false)
  (hN:C.N=fn.ntmps) (hle:args.length≤fn.ntmps) (hres:fn.results.size≤4) (h:evCode C code ⟨argEnv args 0,[],0⟩ (wkQ C.pn C.N (retQ C.T fn.results R))) (hpx:∀ ch,¬ C.px ch:=by exact fun _ h=>h):APure C.P f args R :=
 apure_of0 hT hf hb hname hN hle hres fun _ a w hF hr=>wp_mono (evCode_sound hT hF code _ _ h a w hr) fun _ a' w' ⟨_,h1,h2⟩=>let ⟨st2,hw,hq⟩:=orP_off hpx h2;⟨st2,hw _ a' w' hF h1,hq⟩
def TabL (P:Program):Tab→Prop
 | []=>True
 | (t,i)::r=>(P.underlying t,(P.info? t).map fun j=>(j.size,j.bytes,j.zero))=(some i.desc,some (i.size,i.bytes,some i.zero))∧TabL P r
theorem tabOk_of {P:Program}:∀ {T:Tab},TabL P T→TabOk P T
 | [],_,t,i,h=>by simp [lkT] at h
 | (t',i')::r,hL,t,i,h=>by
  have hc:lkT ((t',i')::r) t=(match Nat.beq t' t with | true=>some i' | false=>lkT r t):=rfl
  rw [hc] at h
  split at h
  ·rename_i hb
   have:=Nat.eq_of_beq_eq_true hb
   subst this
   cases h
   have h1:=hL.1
   simp only [Prod.mk.injEq] at h1
   obtain ⟨h1,h2⟩:=h1
   refine ⟨h1,?_⟩
   cases hj:P.info? t' with
   | none=>rw [hj] at h2;cases h2
   | some j =>
    rw [hj] at h2
    simp only [Option.map_some,Option.some.injEq,Prod.mk.injEq] at h2
    exact ⟨j,rfl,h2⟩
  ·exact tabOk_of hL.2 t i h
def zerosB (k:IntKind):List Value→Nat→Bool
 | [],n=>Nat.beq n 0
 | .int q m::l,n+1=>match Nat.beq (kidx q) (kidx k)&&(match m with | .ofNat 0=>true | _=>false) with
  | true=>zerosB k l n
  | false=>false
 | _::_,_=>false
def zeroOfB (k:IntKind) (n:Nat) (j:TypeInfo):Bool :=
 match j.zero with
 | some (.agg cs)=>zerosB k cs.toList n
 | _=>false
inductive SrcId where
 | id (i:Nat)
 | nil
 | trunc (i n:Nat)
abbrev Ren:=List (Nat×SrcId)
def lkS:Ren→Nat→Option SrcId
 | [],_=>none
 | (i,s)::r,j=>match Nat.beq i j with
  | true=>some s
  | false=>lkS r j
inductive LeV1 (ρ:Ren):AV→AV→Prop
 | undef (v:AV):LeV1 ρ v .undef
 | tree (v v':AV) (h:v=v') (ht:v'.tree=true):LeV1 ρ v v'
 | leT (v v':AV) (h:LeT v v') (ht:v.tree=true):LeV1 ρ v v'
 | own (i j:Nat) (h:lkS ρ j=some (.id i)):LeV1 ρ (.own i) (.own j)
 | nilown (j:Nat) (h:lkS ρ j=some .nil):LeV1 ρ .nils (.own j)
 | trunc (i n j:Nat) (h:lkS ρ j=some (.trunc i n)):LeV1 ρ (.pre i n) (.own j)
 | pre (i n n' j:Nat) (h:lkS ρ j=some (.id i)) (hn:n=n'):LeV1 ρ (.pre i n) (.pre j n')
 | ptr (i j off:Nat) (h:lkS ρ j=some (.id i)):LeV1 ρ (.ptr i off) (.ptr j off)
 | map (i j:Nat) (h:lkS ρ j=some (.id i)):LeV1 ρ (.map i) (.map j)
 | csl (i n j:Nat) (h:lkS ρ j=some (.id i)):LeV1 ρ (.csl i n) (.csl j n)
inductive LeL (R:AV→AV→Prop):List AV→List AV→Prop
 | nil:LeL R [] []
 | cons {a a':AV} {l l':List AV} (h:R a a') (hl:LeL R l l'):LeL R (a::l) (a'::l')
inductive LeV (ρ:Ren):AV→AV→Prop
 | base {v v':AV} (h:LeV1 ρ v v'):LeV ρ v v'
 | fn (f:Fn) (a b a' b':List AV) (h:LeL (LeV1 ρ) a a') (h':LeL (LeV1 ρ) b b'):LeV ρ (.fn f a b) (.fn f a' b')
 | agg (l l':List AV) (h:LeL (LeV1 ρ) l l'):LeV ρ (.agg l) (.agg l')
theorem LeT.refl (a:AV):LeT a a:=fun _ _ _ h=>h
theorem LeT.nils_lsl (E:Nat) {l:List AV} (h:[]=l):LeT .nils (.lsl E l):=fun S w v hr=>by
 subst h
 cases hr
 exact .lslnil E
theorem LeT.nils_sl {T:Type} (E:Nat) (enc:T→AV) (d:T):LeT .nils (.sl E enc d []):=fun S w v h=>by
 cases h
 exact .sl _ _ _ _ _ (.lslnil E)
theorem LeT.lsl_sl {T:Type} {E:Nat} {l:List AV} (enc:T→AV) (d:T) (xs:List T) (h:l=xs.map enc):LeT (.lsl E l) (.sl E enc d xs):=fun S w v hr=>.sl _ _ _ _ _ (by rw [← h];exact hr)
inductive LeTs:List AV→List AV→Prop
 | nil:LeTs [] []
 | cons {a b:AV} {l r:List AV} (h:LeT a b) (t:LeTs l r):LeTs (a::l) (b::r)
theorem LeTs.len {l r:List AV} (h:LeTs l r):r.length=l.length:=by
 induction h with
 | nil=>rfl
 | cons _ _ ih=>simp [ih]
theorem LeTs.get {l r:List AV} (h:LeTs l r):∀ {j:Nat} {b:AV},r[j]?=some b→∃ a,l[j]?=some a∧LeT a b:=by
 induction h with
 | nil=>intro j b h;simp at h
 | cons h0 t ih =>
  intro j b h
  cases j with
  | zero=>simp at h;subst h;exact ⟨_,rfl,h0⟩
  | succ j=>exact ih (by simpa using h)
theorem LeT.any1 {a:AV} (h:a.one=true):LeT a .any1:=fun _ _ _ hr=>.any1 _ (hr.oneCell h)
theorem RowRel.leT {S:Blocks} {w:World} {e E:Nat} {l r:List AV} {v:Value} {vs:List Value} (h:RowRel S w e E l v vs) (hlen:r.length=l.length) (hE:∀ x∈r,x.cells.length=E) (h1:∀ a∈flat r,a.one=true) (ht:LeTs (flat l) (flat r)):RowRel S w e E r v vs :=
 ⟨by rw [hlen];exact h.owns,hE,h1,fun j c b hj hb=>by
  obtain ⟨a,ha,hab⟩:=ht.get hb
  exact hab S w c (h.rel j c a hj ha)⟩
inductive LeB (H:Heap) (ρ:Ren):SrcId→AB→Prop
 | dead (s:SrcId):LeB H ρ s .dead
 | row {T:Type} (i e E:Nat) (enc:T→AV) (d:T) (xs xs':List T) (h:lkH H i=.row e E enc d xs) (hx:xs=xs'):LeB H ρ (.id i) (.row e E enc d xs')
 | lst (i e E:Nat) (l l':List AV) (h:lkH H i=.lst e E l) (hx:l=l'):LeB H ρ (.id i) (.lst e E l')
 | lstrow {T:Type} (i e E:Nat) (l:List AV) (enc:T→AV) (d:T) (xs:List T) (h:lkH H i=.lst e E l) (hx:l=xs.map enc):LeB H ρ (.id i) (.row e E enc d xs)
 | cells (i e:Nat) (l l':List AV) (h:lkH H i=.cells e l) (hl:LeL (LeV ρ) l l') (h1:allOne l'=true):LeB H ρ (.id i) (.cells e l')
 | smap {V:Type} (i:Nat) (ev:V→AV) (dv:V) (es es':List (List UInt8×V)) (h:lkH H i=.smap ev dv es) (hx:es=es'):LeB H ρ (.id i) (.smap ev dv es')
 | imap {V:Type} (i:Nat) (k:IntKind) (ev:V→AV) (dv:V) (es es':List (Int×V)) (h:lkH H i=.imap k ev dv es) (hx:es=es'):LeB H ρ (.id i) (.imap k ev dv es')
 | gmap {V:Type} (i:Nat) (k:List KK) (ev:V→AV) (dv:V) (es es':List (List KV×V)) (h:lkH H i=.gmap k ev dv es) (hx:es=es'):LeB H ρ (.id i) (.gmap k ev dv es')
 | newgmap {V W:Type} (i:Nat) (ev:V→AV) (dv:V) (es:List (List UInt8×V)) (k:List KK) (ev':W→AV) (dv':W) (es':List (List KV×W)) (h:lkH H i=.smap ev dv es) (hx:es=[]) (hx':es'=[]):LeB H ρ (.id i) (.gmap k ev' dv' es')
 | newsmap {V W:Type} (i:Nat) (ev:V→AV) (dv:V) (es:List (List UInt8×V)) (ev':W→AV) (dv':W) (es':List (List UInt8×W)) (h:lkH H i=.smap ev dv es) (hx:es=[]) (hx':es'=[]):LeB H ρ (.id i) (.smap ev' dv' es')
 | newimap {V W:Type} (i:Nat) (ev:V→AV) (dv:V) (es:List (List UInt8×V)) (k:IntKind) (ev':W→AV) (dv':W) (es':List (Int×W)) (h:lkH H i=.smap ev dv es) (hx:es=[]) (hx':es'=[]):LeB H ρ (.id i) (.imap k ev' dv' es')
 | arr (i e:Nat) (k:IntKind) (n:Nat) (f f':Nat→Int) (h:lkH H i=.arr e k n f) (hx:∀ j,j<n→f j=f' j):LeB H ρ (.id i) (.arr e k n f')
 | nilrow {T:Type} (e E:Nat) (enc:T→AV) (d:T) (xs:List T) (hx:xs=[]):LeB H ρ .nil (.row e E enc d xs)
 | nillst (e E:Nat):LeB H ρ .nil (.lst e E [])
 | que {T:Type} (i e E:Nat) (enc:T→AV) (d:T) (xs xs':List T) (h:lkH H i=.que e E enc d xs) (hx:xs=xs'):LeB H ρ (.id i) (.que e E enc d xs')
 | rowque {T:Type} (i e E:Nat) (enc:T→AV) (d:T) (xs xs':List T) (h:lkH H i=.row e E enc d xs) (hx:xs=xs') (hn:xs≠[]):LeB H ρ (.id i) (.que e E enc d xs')
 | lstque {T:Type} (i e E:Nat) (l:List AV) (enc:T→AV) (d:T) (xs:List T) (h:lkH H i=.lst e E l) (hx:l=xs.map enc) (hn:xs≠[]):LeB H ρ (.id i) (.que e E enc d xs)
 | rowT {T:Type} (i e E:Nat) (s:Src) (enc:T→AV) (d:T) (xs:List T) (h:lkH H i=s.obj e E) (hlen:(xs.map enc).length=s.list.length) (hE:∀ x∈xs.map enc,x.cells.length=E) (h1:∀ a∈flat (xs.map enc),a.one=true)
   (ht:LeTs (flat s.list) (flat (xs.map enc))):LeB H ρ (.id i) (.row e E enc d xs)
 | truncrow {T:Type} (i n e E:Nat) (enc:T→AV) (d:T) (xs xs':List T) (h:lkH H i=.row e E enc d xs) (hn:n≤xs.length) (hx:xs.take n=xs'):LeB H ρ (.trunc i n) (.row e E enc d xs')
def LeEnv (ρ:Ren) (env:Env):Env→Prop
 | []=>True
 | (s,v')::r=>LeV ρ (lk env s) v'∧LeEnv ρ env r
def LeHeap (H:Heap) (ρ:Ren):Heap→Prop
 | []=>True
 | (j,b')::r=>(∃ s,lkS ρ j=some s∧LeB H ρ s b')∧LeHeap H ρ r
def srcOf:SrcId→Option Nat
 | .id i=>some i
 | .nil=>none
 | .trunc i _=>some i
def renOk (nx:Nat):Ren→Bool
 | []=>true
 | (j,s)::r=>Nat.blt j nx&&(match srcOf s with
  | none=>true
  | some i=>r.all fun p=>match srcOf p.2 with
   | none=>true
   | some i'=>!(Nat.beq i i'))&&renOk nx r
def setLen (n:Nat):Value→Value
 | .slice a _ c=>.slice a n c
 | v=>v
def renM (ρ:Ren) (m:Ids):Ids:=fun j=>match lkS ρ j with
 | none=>none
 | some (.id i)=>m i
 | some .nil=>some (.slice none 0 0)
 | some (.trunc i n)=>(m i).map (setLen n)
theorem renOk_inj {nx:Nat}:∀ {ρ:Ren},renOk nx ρ=true→∀ j j' s s' i,lkS ρ j=some s→lkS ρ j'=some s'→srcOf s=some i→srcOf s'=some i→j=j'
 | [],_,j,j',s,s',i,h,_,_,_=>by simp [lkS] at h
 | (k,t)::r,hr,j,j',s,s',i,h1,h2,e1,e2=>by
  simp only [renOk,Bool.and_eq_true] at hr
  obtain ⟨⟨_,hd⟩,hr⟩:=hr
  have hin:∀ {ρ:Ren} {j:Nat} {s:SrcId},lkS ρ j=some s→∃ p∈ρ,p.2=s:=by
   intro ρ
   induction ρ with
   | nil=>intro j s h;simp [lkS] at h
   | cons p ρ ih =>
    intro j s h
    obtain ⟨a,b⟩:=p
    simp only [lkS] at h
    split at h
    ·cases h;exact ⟨_,List.mem_cons_self,rfl⟩
    ·obtain ⟨p,hp,e⟩:=ih h;exact ⟨p,List.mem_cons.2 (.inr hp),e⟩
  simp only [lkS] at h1 h2
  split at h1<;>split at h2
  ·rename_i _ b1 _ b2
   rw [← Nat.eq_of_beq_eq_true b1,← Nat.eq_of_beq_eq_true b2]
  ·cases h1
   rw [e1] at hd
   obtain ⟨p,hp,rfl⟩:=hin h2
   have:=List.all_eq_true.1 hd p hp
   rw [e2] at this
   simp at this
  ·cases h2
   rw [e2] at hd
   obtain ⟨p,hp,rfl⟩:=hin h1
   have:=List.all_eq_true.1 hd p hp
   rw [e1] at this
   simp at this
  ·exact renOk_inj hr j j' s s' i h1 h2 e1 e2
theorem renOk_lt {nx:Nat}:∀ {ρ:Ren},renOk nx ρ=true→∀ j s,lkS ρ j=some s→j<nx
 | [],_,j,s,h=>by simp [lkS] at h
 | (k,t)::r,hr,j,s,h=>by
  simp only [renOk,Bool.and_eq_true] at hr
  simp only [lkS] at h
  split at h
  ·rename_i b
   rw [← Nat.eq_of_beq_eq_true b]
   simpa [Nat.blt_eq] using hr.1.1
  ·exact renOk_lt hr.2 j s h
theorem LeV1.rel {ρ:Ren} {m:Ids} {S:Blocks} {w:World} {v:Value} {a a':AV} (h:LeV1 ρ a a') (hr:RelV m S w v a):RelV (renM ρ m) S w v a':=by
 have hid:∀ {i j u},lkS ρ j=some (.id i)→m i=some u→renM ρ m j=some u:=by
  intro i j u h hm
  simp [renM,h,hm]
 cases h with
 | undef v=>exact .t _ _ (.undef _)
 | tree v v' h ht=>subst h;exact .t _ _ (hr.toT ht)
 | leT v v' h ht=>exact .t _ _ (h _ _ _ (hr.toT ht))
 | own i j h=>cases hr with
  | t _ _ h=>cases h
  | own id n cap a hm=>exact .own j n cap a (hid h hm)
 | nilown j h=>cases hr with
  | t _ _ h'=>cases h';exact .own j 0 0 none (by simp [renM,h])
 | trunc i n j h=>cases hr with
  | t _ _ h=>cases h
  | pre id len n' cap a hm hle=>exact .own j n cap a (by simp [renM,h,hm,setLen])
 | pre i n n' j h hn=>subst hn;cases hr with
  | t _ _ h=>cases h
  | pre id len n' cap a hm hle=>exact .pre j n n' cap a (hid h hm) hle
 | ptr i j off h=>cases hr with
  | t _ _ h=>cases h
  | ptr id off g hm=>exact .ptr j off g (hid h hm)
 | map i j h=>cases hr with
  | t _ _ h=>cases h
  | map id r hm=>exact .map j r (hid h hm)
 | csl i n j h=>cases hr with
  | t _ _ h=>cases h
  | csl id n g hm=>exact .csl j n g (hid h hm)
theorem LeL.get {R:AV→AV→Prop} {l l':List AV} (h:LeL R l l'):l'.length=l.length∧∀ (j:Nat) (a':AV),l'[j]?=some a'→∃ a,l[j]?=some a∧R a a':=by
 induction h with
 | nil=>exact ⟨rfl,fun j a' h=>by simp at h⟩
 | cons h hl ih =>
  refine ⟨by simp [ih.1],fun j a' hj=>?_⟩
  cases j with
  | zero=>simp at hj;subst hj;exact ⟨_,rfl,h⟩
  | succ j=>simpa using ih.2 j a' (by simpa using hj)
theorem LeV.rel {ρ:Ren} {m:Ids} {S:Blocks} {w:World} {v:Value} {a a':AV} (h:LeV ρ a a') (hr:RelV m S w v a):RelV (renM ρ m) S w v a':=by
 cases h with
 | base h=>exact h.rel hr
 | fn f x y x' y' h h' =>
  obtain ⟨fs,cs,rfl,h1,h2,r1,r2⟩:=relV_fn hr
  obtain ⟨l1,g1⟩:=h.get
  obtain ⟨l2,g2⟩:=h'.get
  refine .fn f fs cs x' y' (by omega) (by omega) (fun j c a hj ha=>?_) (fun j c a hj ha=>?_)
  ·obtain ⟨a0,h0,hle⟩:=g1 j a ha
   exact hle.rel (r1 j c a0 hj h0)
  ·obtain ⟨a0,h0,hle⟩:=g2 j a ha
   exact hle.rel (r2 j c a0 hj h0)
 | agg l l' h =>
  obtain ⟨cs,rfl,h1,r1⟩:=relV_agg hr
  obtain ⟨l1,g1⟩:=h.get
  refine .agg cs l' (by omega) (fun j c a hj ha=>?_)
  obtain ⟨a0,h0,hle⟩:=g1 j a ha
  exact hle.rel (r1 j c a0 hj h0)
theorem RowRel.que {S:Blocks} {w:World} {e E:Nat} {l:List AV} {v:Value} {vs:List Value} (h:RowRel S w e E l v vs) (hn:l≠[]):∃ g cap cur,v=.slice (some ⟨g,0,none⟩) l.length cap∧QueRel S w e E l g 0 cap cur:=by
 rcases h.owns.2 with ⟨_,h0⟩ | ⟨g,cap,cur,hv,_,hh,hnc,hcm,hcs,htake⟩
 ·exact (hn (List.eq_nil_of_length_eq_zero h0)).elim
 ·refine ⟨g,cap,cur,hv,hh,hnc,hcm,by omega,h.size,h.ones,fun j c a hj ha=>h.rel j c a ?_ ha⟩
  have hlt:=(List.getElem?_eq_some_iff.1 ha).1
  rw [flat_length l h.size] at hlt
  rw [← htake,List.getElem?_take,if_pos hlt]
  rw [Nat.zero_add] at hj
  simpa using hj
theorem LeB.rel [Tabs] {H:Heap} {ρ:Ren} {m:Ids} {S:Blocks} {w:World} {s:SrcId} {b':AB} {j:Nat} (hG:Good m S w H) (hs:lkS ρ j=some s) (h:LeB H ρ s b') :
  RelB (renM ρ m) S w j b'∧(b'.live=true→∀ v k,renM ρ m j=some v→blk v=some k→∃ i u,srcOf s=some i∧(lkH H i).live=true∧m i=some u∧blk u=some k):=by
 have hid:∀ {i:Nat},s=.id i→renM ρ m j=m i:=by
  intro i e
  subst e
  simp [renM,hs]
 have fin:∀ {i:Nat},s=.id i→(lkH H i).live=true→∀ v k,renM ρ m j=some v→blk v=some k→∃ i u,srcOf s=some i∧(lkH H i).live=true∧m i=some u∧blk u=some k:=by
  intro i e hl v k hv hk
  rw [hid e] at hv
  subst e
  exact ⟨i,v,rfl,hl,hv,hk⟩
 cases h with
 | dead s=>exact ⟨trivial,fun h=>by simp [AB.live] at h⟩
 | row i e E enc d xs xs' h hx =>
  subst hx
  have hb:=hG.rel i
  rw [h] at hb
  obtain ⟨v,vs,hm,hr⟩:=hb
  exact ⟨⟨v,vs,by rw [hid rfl];exact hm,hr⟩,fun _=>fin rfl (by rw [h];rfl)⟩
 | lst i e E l l' h hx =>
  subst hx
  have hb:=hG.rel i
  rw [h] at hb
  obtain ⟨v,vs,hm,hr⟩:=hb
  exact ⟨⟨v,vs,by rw [hid rfl];exact hm,hr⟩,fun _=>fin rfl (by rw [h];rfl)⟩
 | newsmap i ev dv es ev' dv' es' h hx hx' =>
  subst hx
  subst hx'
  have hb:=hG.rel i
  rw [h] at hb
  obtain ⟨r,en,clock,hm,hr,hl,hb1,_⟩:=hb
  exact ⟨⟨r,en,clock,by rw [hid rfl];exact hm,hr,by simpa using hl,hb1,fun j x p _ hp=>by simp at hp⟩,fun _=>fin rfl (by rw [h];rfl)⟩
 | newimap i ev dv es k ev' dv' es' h hx hx' =>
  subst hx
  subst hx'
  have hb:=hG.rel i
  rw [h] at hb
  obtain ⟨r,en,clock,hm,hr,hl,hb1,_⟩:=hb
  exact ⟨⟨r,en,clock,by rw [hid rfl];exact hm,hr,by simpa using hl,hb1,fun j x p _ hp=>by simp at hp⟩,fun _=>fin rfl (by rw [h];rfl)⟩
 | newgmap i ev dv es k ev' dv' es' h hx hx' =>
  subst hx
  subst hx'
  have hb:=hG.rel i
  rw [h] at hb
  obtain ⟨r,en,clock,hm,hr,hl,hb1,_⟩:=hb
  exact ⟨⟨r,en,clock,by rw [hid rfl];exact hm,hr,by simpa using hl,hb1,fun j x p _ hp=>by simp at hp⟩,fun _=>fin rfl (by rw [h];rfl)⟩
 | lstrow i e E l enc d xs h hx =>
  have hb:=hG.rel i
  rw [h] at hb
  obtain ⟨v,vs,hm,hr⟩:=hb
  rw [hx] at hr
  exact ⟨⟨v,vs,by rw [hid rfl];exact hm,hr⟩,fun _=>fin rfl (by rw [h];rfl)⟩
 | cells i e l l' h hl h1 =>
  have hb:=hG.rel i
  rw [h] at hb
  obtain ⟨g,cs,hm,hg,hlen,hone,hr⟩:=hb
  obtain ⟨l1,g1⟩:=hl.get
  refine ⟨⟨g,cs,by rw [hid rfl];exact hm,hg,by omega,allOne_spec h1,fun j c a hj ha=>?_⟩,fun _=>fin rfl (by rw [h];rfl)⟩
  obtain ⟨a0,h0,hle⟩:=g1 j a ha
  exact hle.rel (hr j c a0 hj h0)
 | smap i ev dv es es' h hx =>
  subst hx
  have hb:=hG.rel i
  rw [h] at hb
  obtain ⟨r,en,clock,hm,hr⟩:=hb
  exact ⟨⟨r,en,clock,by rw [hid rfl];exact hm,hr⟩,fun _=>fin rfl (by rw [h];rfl)⟩
 | imap i k ev dv es es' h hx =>
  subst hx
  have hb:=hG.rel i
  rw [h] at hb
  obtain ⟨r,en,clock,hm,hr⟩:=hb
  exact ⟨⟨r,en,clock,by rw [hid rfl];exact hm,hr⟩,fun _=>fin rfl (by rw [h];rfl)⟩
 | gmap i k ev dv es es' h hx =>
  subst hx
  have hb:=hG.rel i
  rw [h] at hb
  obtain ⟨r,en,clock,hm,hr⟩:=hb
  exact ⟨⟨r,en,clock,by rw [hid rfl];exact hm,hr⟩,fun _=>fin rfl (by rw [h];rfl)⟩
 | arr i e k n f f' h hx =>
  have hb:=hG.rel i
  rw [h] at hb
  obtain ⟨g,cs,hm,hg,hl,hr⟩:=hb
  refine ⟨⟨g,cs,by rw [hid rfl];exact hm,hg,hl,fun j c hj=>?_⟩,fun _=>fin rfl (by rw [h];rfl)⟩
  rw [← hx j (by have:=(Array.getElem?_eq_some_iff.1 hj).1;omega)]
  exact hr j c hj
 | que i e E enc d xs xs' h hx =>
  subst hx
  have hb:=hG.rel i
  rw [h] at hb
  obtain ⟨g,o,cap,cur,hm,hr⟩:=hb
  exact ⟨⟨g,o,cap,cur,by rw [hid rfl];exact hm,hr⟩,fun _=>fin rfl (by rw [h];rfl)⟩
 | rowque i e E enc d xs xs' h hx hn =>
  subst hx
  have hb:=hG.rel i
  rw [h] at hb
  obtain ⟨v,vs,hm,hr⟩:=hb
  obtain ⟨g,cap,cur,rfl,hq⟩:=hr.que (by simpa using hn)
  exact ⟨⟨g,0,cap,cur,by rw [hid rfl,hm,List.length_map],hq⟩,fun _=>fin rfl (by rw [h];rfl)⟩
 | lstque i e E l enc d xs h hx hn =>
  subst hx
  have hb:=hG.rel i
  rw [h] at hb
  obtain ⟨v,vs,hm,hr⟩:=hb
  obtain ⟨g,cap,cur,rfl,hq⟩:=hr.que (by simpa using hn)
  exact ⟨⟨g,0,cap,cur,by rw [hid rfl,hm,List.length_map],hq⟩,fun _=>fin rfl (by rw [h];rfl)⟩
 | rowT i e E s enc d xs h hlen hE h1 ht =>
  obtain ⟨v,vs,hm,hr⟩:=own_row hG rfl h
  exact ⟨⟨v,vs,by rw [hid rfl];exact hm,hr.leT hlen hE h1 ht⟩,fun _=>fin rfl (by rw [h];exact src_obj_live _ _ _)⟩
 | nilrow e E enc d xs hx =>
  subst hx
  have hm:renM ρ m j=some (.slice none 0 0):=by simp [renM,hs]
  refine ⟨⟨_,[],hm,⟨World.ownsRow_nil w 0 e E,by simp,by simp [flat],by simp⟩⟩,fun _ v k hv hk=>?_⟩
  rw [hm] at hv
  cases hv
  simp [blk] at hk
 | nillst e E =>
  have hm:renM ρ m j=some (.slice none 0 0):=by simp [renM,hs]
  refine ⟨⟨_,[],hm,⟨World.ownsRow_nil w 0 e E,by simp,by simp [flat],by simp⟩⟩,fun _ v k hv hk=>?_⟩
  rw [hm] at hv
  cases hv
  simp [blk] at hk
 | truncrow i n e E enc d xs xs' h hn hx =>
  subst hx
  have hb:=hG.rel i
  rw [h] at hb
  obtain ⟨v,vs,hm,hr⟩:=hb
  obtain ⟨a,n0,c,rfl⟩:=blk_slice_of hr
  have hn0:n≤n0:=by
   have:=hr.n
   cases this
   simpa using hn
  have hm':renM ρ m j=some (.slice a n c):=by simp [renM,hs,hm,setLen]
  refine ⟨⟨_,_,hm',by rw [List.map_take];exact hr.take hn0⟩,fun _ v k hv hk=>⟨i,_,rfl,by rw [h];rfl,hm,?_⟩⟩
  rw [hm'] at hv
  cases hv
  cases a with
  | none=>simp [blk] at hk
  | some a=>exact hk
theorem leHeap_get {H:Heap} {ρ:Ren}:∀ {H':Heap},LeHeap H ρ H'→∀ j,lkH H' j=.dead∨∃ s,lkS ρ j=some s∧LeB H ρ s (lkH H' j)
 | [],_,j=>.inl rfl
 | (i,b)::r,h,j=>by
  rw [lkH_cons]
  split
  ·rename_i e
   subst e
   exact .inr h.1
  ·exact leHeap_get h.2 j
theorem leEnv_get {ρ:Ren} {env:Env}:∀ {env':Env},LeEnv ρ env env'→∀ s,lk env' s=.undef∨LeV ρ (lk env s) (lk env' s)
 | [],_,s=>.inl rfl
 | (i,v)::r,h,s=>by
  rw [lk_cons]
  split
  ·rename_i e
   subst e
   exact .inr h.1
  ·exact leEnv_get h.2 s
def pinOk (ρ:Ren):Nat→Bool
 | 0=>true
 | n+1=>match lkS ρ n with
  | some (.id i)=>match Nat.beq i n with
   | true=>pinOk ρ n
   | false=>false
  | _=>false
theorem pinOk_spec {ρ:Ren}:∀ {n:Nat},pinOk ρ n=true→∀ i,i<n→lkS ρ i=some (.id i)
 | 0,_,i,h=>by omega
 | n+1,hp,i,h=>by
  unfold pinOk at hp
  split at hp
  ·rename_i j hj
   split at hp
   ·rename_i hb
    have:=Nat.eq_of_beq_eq_true hb
    subst this
    by_cases e:i=j
    ·subst e;exact hj
    ·exact pinOk_spec hp i (by omega)
   ·cases hp
  ·cases hp
theorem wk_of [Tabs] {pn N:Nat} {env env':Env} {H H':Heap} {nx nx':Nat} (ρ:Ren) (hρ0:(renOk nx' ρ&&pinOk ρ pn)=true) (he:LeEnv ρ env env') (hh:LeHeap H ρ H'):Wk pn N ⟨env,H,nx⟩ ⟨env',H',nx'⟩:=by
 rw [Bool.and_eq_true] at hρ0
 obtain ⟨hρ,hpin⟩:=hρ0
 rintro F a w hF ⟨m,S,hc,hs,hd,hr⟩
 have hlive:∀ j,(lkH H' j).live=true→∃ s,lkS ρ j=some s∧LeB H ρ s (lkH H' j):=by
  intro j hl
  rcases leHeap_get hh j with h | h
  ·rw [h] at hl;simp [AB.live] at hl
  ·exact h
 refine ⟨renM ρ m,S,⟨⟨fun j=>?_,?_,?_,hc.good.tab⟩,fun j hj=>?_,hc.far,?_,hc.ro,hc.ro0,fun i v hi=>by
  have h1:=pinOk_spec hpin i (hF i v hi)
  show renM ρ m i=some v
  unfold renM
  rw [h1]
  exact hc.pins i v hi⟩,hs,hd,fun s=>?_⟩
 ·rcases leHeap_get hh j with h | ⟨s,h1,h2⟩
  ·rw [h];trivial
  ·exact (h2.rel hc.good h1).1
 ·intro i j vi vj k hli hlj hvi hvj hki hkj
  obtain ⟨s1,a1,b1⟩:=hlive i hli
  obtain ⟨s2,a2,b2⟩:=hlive j hlj
  obtain ⟨i1,u1,c1,d1,e1,f1⟩:=(b1.rel hc.good a1).2 hli vi k hvi hki
  obtain ⟨i2,u2,c2,d2,e2,f2⟩:=(b2.rel hc.good a2).2 hlj vj k hvj hkj
  have:=hc.good.sep i1 i2 u1 u2 k d1 d2 e1 e2 f1 f2
  subst this
  exact renOk_inj hρ i j s1 s2 i1 a1 a2 c1 c2
 ·intro g hg
  refine ⟨(hc.good.ro g hg).1,fun i v hl hv hk=>?_⟩
  obtain ⟨s1,a1,b1⟩:=hlive i hl
  obtain ⟨i1,u1,c1,d1,e1,f1⟩:=(b1.rel hc.good a1).2 hl v g hv hk
  exact (hc.good.ro g hg).2 i1 u1 d1 e1 f1
 ·simp only at hj
  cases hk:lkS ρ j with
  | none=>simp [renM,hk]
  | some s=>have:=renOk_lt hρ j s hk;omega
 ·rintro k ⟨i,v,hl,hv,hk⟩
  obtain ⟨s1,a1,b1⟩:=hlive i hl
  obtain ⟨i1,u1,c1,d1,e1,f1⟩:=(b1.rel hc.good a1).2 hl v k hv hk
  exact hc.owns k ⟨i1,u1,d1,e1,f1⟩
 ·rcases leEnv_get he s with h | h
  ·simp only [h];exact .t _ _ (.undef _)
  ·exact h.rel (hr s)
def frzP (H:Heap) (id off:Nat):AV :=
 match lkH H id with
 | .cells _ l=>match treesB l with
  | true=>.rop (dropL off l)
  | false=>.ptr id off
 | _=>.ptr id off
def frzM (H:Heap) (id:Nat):AV :=
 match lkH H id with
 | .smap ev dv es=>.rsmap ev dv es
 | .imap k ev dv es=>.rimap k ev dv es
 | .gmap k ev dv es=>.rgmap k ev dv es
 | _=>.map id
def frz1 (H:Heap) (ids:List Nat):AV→AV
 | .map id=>match notIn id ids with
  | true=>.map id
  | false=>frzM H id
 | .own id=>match notIn id ids with
  | true=>.own id
  | false=>frz0 H (.own id)
 | .ptr id off=>match notIn id ids with
  | true=>.ptr id off
  | false=>frzP H id off
 | v=>v
def frzA (H:Heap) (ids:List Nat):AV→AV
 | .agg l=>.agg (l.map (frz1 H ids))
 | .fn f a b=>.fn f (a.map (frz1 H ids)) (b.map (frz1 H ids))
 | v=>frz1 H ids v
def frzB (H:Heap) (ids:List Nat):AB→AB
 | .cells e l=>.cells e (l.map (frz1 H ids))
 | b=>b
def frzEnv (H:Heap) (ids:List Nat):Env→Env
 | []=>[]
 | (s,v)::r=>(s,frzA H ids v)::frzEnv H ids r
def frzMap (H:Heap) (ids:List Nat):Heap→Heap
 | []=>[]
 | (i,b)::r=>(i,frzB H ids b)::frzMap H ids r
def deads:List Nat→Heap→Heap
 | [],H=>H
 | i::l,H=>(i,.dead)::deads l H
theorem notIn_false {id:Nat}:∀ {l:List Nat},notIn id l=false→id∈l
 | [],h=>by simp [notIn] at h
 | j::l,h=>by
  unfold notIn at h
  split at h
  ·rename_i hb
   rw [Nat.eq_of_beq_eq_true hb]
   exact List.mem_cons_self
  ·exact List.mem_cons.2 (.inr (notIn_false h))
theorem lk_frzEnv (H:Heap) (ids:List Nat):∀ (env:Env) (s:Nat),lk (frzEnv H ids env) s=frzA H ids (lk env s)
 | [],s=>rfl
 | (i,v)::r,s=>by
  rw [frzEnv,lk_cons,lk_cons,lk_frzEnv H ids r s]
  split<;>rfl
theorem lkH_frzMap (H:Heap) (ids:List Nat):∀ (H':Heap) (s:Nat),lkH (frzMap H ids H') s=frzB H ids (lkH H' s)
 | [],s=>rfl
 | (i,v)::r,s=>by
  rw [frzMap,lkH_cons,lkH_cons,lkH_frzMap H ids r s]
  split<;>rfl
theorem lkH_deads:∀ (ids:List Nat) (H:Heap) (s:Nat),lkH (deads ids H) s=if s∈ids then .dead else lkH H s
 | [],H,s=>by simp [deads]
 | i::l,H,s=>by
  rw [deads,lkH_cons,lkH_deads l H s]
  by_cases e:i=s
  ·subst e;simp
  ·rw [if_neg e]
   have:s≠i:=fun h=>e h.symm
   simp [this]
theorem frz1_rel [Tabs] {m:Ids} {S:Blocks} {w:World} {H:Heap} {ids:List Nat} {u:Value} {v:AV} (hG:Good m S w H) (h:RelV m S w u v):RelV m (fun g=>S g∨lent m H ids g) w u (frz1 H ids v):=by
 have same:RelV m (fun g=>S g∨lent m H ids g) w u v:=h.mono (fun _ _ h=>h) (fun _ h=>.inl h) (fun _ _=>rfl)
 unfold frz1
 split
 ·rename_i id
  split
  ·exact same
  ·rename_i hn
   unfold frzM
   split
   ·rename_i V ev dv es hc
    have hb:=hG.rel id
    rw [hc] at hb
    obtain ⟨r,en,clock,hmi,hr',hlen,hst,hrel⟩:=hb
    cases h with
    | t _ _ h=>cases h
    | map id r' hm =>
     rw [hmi] at hm
     cases hm
     exact .t _ _ (.rsmap ev dv es r clock en (.inr ⟨id,_,notIn_false hn,by rw [hc];rfl,hmi,rfl⟩) hr' hlen hst (fun j x p h1 h2=>(hrel j x p h1 h2).1) (fun j x p h1 h2=>(hrel j x p h1 h2).2.more fun _ h=>.inl h))
   ·rename_i V k ev dv es hc
    have hb:=hG.rel id
    rw [hc] at hb
    obtain ⟨r,en,clock,hmi,hr',hlen,hst,hrel⟩:=hb
    cases h with
    | t _ _ h=>cases h
    | map id r' hm =>
     rw [hmi] at hm
     cases hm
     exact .t _ _ (.rimap k ev dv es r clock en (.inr ⟨id,_,notIn_false hn,by rw [hc];rfl,hmi,rfl⟩) hr' hlen hst (fun j x p h1 h2=>(hrel j x p h1 h2).1) (fun j x p h1 h2=>(hrel j x p h1 h2).2.more fun _ h=>.inl h))
   ·rename_i V k ev dv es hc
    have hb:=hG.rel id
    rw [hc] at hb
    obtain ⟨r,en,clock,hmi,hr',hlen,hst,hrel⟩:=hb
    cases h with
    | t _ _ h=>cases h
    | map id r' hm =>
     rw [hmi] at hm
     cases hm
     exact .t _ _ (.rgmap k ev dv es r clock en (.inr ⟨id,_,notIn_false hn,by rw [hc];rfl,hmi,rfl⟩) hr' hlen hst (fun j x p h1 h2=>(hrel j x p h1 h2).1) (fun j x p h1 h2=>(hrel j x p h1 h2).2.more fun _ h=>.inl h))
   ·exact same
 ·rename_i id
  split
  ·exact same
  ·rename_i hn
   exact frz0_rel hG (fun _ _=>rfl) (fun _ h=>.inl h) (fun g ⟨i,v,hi,h1,h2,h3⟩=>.inr ⟨i,v,by
    simp only [frz0I,List.mem_singleton] at hi
    subst hi
    exact notIn_false hn,h1,h2,h3⟩) h
 ·rename_i id off
  split
  ·exact same
  ·rename_i hn
   unfold frzP
   split
   ·rename_i e l hc
    split
    ·rename_i ht
     have hb:=hG.rel id
     rw [hc] at hb
     obtain ⟨g,cs,hmi,hg,hl,h1,hrel⟩:=hb
     cases h with
     | t _ _ h=>cases h
     | ptr id off g' hm =>
      rw [hmi] at hm
      cases hm
      rw [dropL_eq]
      refine .t _ _ (.rop g off (l.drop off) (cs.toList.drop off) (.inr ⟨id,_,notIn_false hn,by rw [hc];rfl,hmi,rfl⟩) (by simp;omega) (fun a ha=>h1 a (List.mem_of_mem_drop ha)) (fun j c hj=>?_) (fun j c a hj ha=>?_))
      ·rw [List.getElem?_drop] at hj
       rw [cell_of_row w g (off+j) cs e (0,0) hg]
       simpa using hj
      ·rw [List.getElem?_drop] at hj ha
       refine RelT.more (fun _ h=>.inl h) ((hrel (off+j) c a (by simpa using hj) ha).toT (treesB_spec ht a (List.mem_of_getElem? ha)))
    ·exact same
   ·exact same
 ·exact same
theorem frz1_one (H:Heap) (ids:List Nat) (v:AV) (h:v.one=true):(frz1 H ids v).one=true:=by
 unfold frz1
 split
 ·split
  ·rfl
  ·unfold frzM
   split<;>rfl
 ·split
  ·rfl
  ·simp only [frz0]
   split<;>rfl
 ·split
  ·rfl
  ·unfold frzP
   split
   ·split<;>rfl
   ·rfl
 ·exact h
theorem frzA_rel [Tabs] {m:Ids} {S:Blocks} {w:World} {H:Heap} {ids:List Nat} {u:Value} {v:AV} (hG:Good m S w H) (h:RelV m S w u v):RelV m (fun g=>S g∨lent m H ids g) w u (frzA H ids v):=by
 unfold frzA
 split
 ·rename_i l
  obtain ⟨cs,rfl,hl,hr⟩:=relV_agg h
  refine .agg cs _ (by simpa using hl) fun j c a hj ha=>?_
  simp only [List.getElem?_map,Option.map_eq_some_iff] at ha
  obtain ⟨a0,ha0,rfl⟩:=ha
  exact frz1_rel hG (hr j c a0 hj ha0)
 ·rename_i f x y
  obtain ⟨fs,cs,rfl,h1,h2,r1,r2⟩:=relV_fn h
  refine .fn f fs cs _ _ (by simpa using h1) (by simpa using h2) (fun j c a hj ha=>?_) (fun j c a hj ha=>?_)
  ·simp only [List.getElem?_map,Option.map_eq_some_iff] at ha
   obtain ⟨a0,ha0,rfl⟩:=ha
   exact frz1_rel hG (r1 j c a0 hj ha0)
  ·simp only [List.getElem?_map,Option.map_eq_some_iff] at ha
   obtain ⟨a0,ha0,rfl⟩:=ha
   exact frz1_rel hG (r2 j c a0 hj ha0)
 ·exact frz1_rel hG h
theorem frzB_live (H:Heap) (ids:List Nat) (b:AB):(frzB H ids b).live=b.live:=by cases b<;>rfl
theorem rel_frz [Tabs] {F:Fr} {N:Nat} {env:Env} {H:Heap} {nx:Nat} {a:Act} {w:World} (ids:List Nat):Rel F N ⟨env,H,nx⟩ a w→Rel F N ⟨frzEnv H ids env,deads ids (frzMap H ids H),nx⟩ a w:=by
 rintro ⟨m,S,hc,hs,hd,hr⟩
 have hG:=hc.good
 have hG1:=good_freeze hG ids
 have hlk:∀ i,lkH (deads ids (frzMap H ids H)) i=if i∈ids then .dead else frzB H ids (lkH H i):=fun i=>by rw [lkH_deads,lkH_frzMap]
 have hlive:∀ i,(lkH (deads ids (frzMap H ids H)) i).live=(lkH (ids.map (fun i=>(i,AB.dead))++H) i).live:=fun i=>by
  rw [hlk,lkH_dead]
  split
  ·rfl
  ·exact frzB_live H ids _
 have hlive0:∀ i,(lkH (deads ids (frzMap H ids H)) i).live=true→(lkH H i).live=true:=fun i hl=>by
  rw [hlk] at hl
  split at hl
  ·cases hl
  ·rwa [frzB_live] at hl
 refine ⟨m,fun g=>S g∨lent m H ids g,⟨⟨fun id=>?_,fun i j vi vj k hi hj=>hG1.sep i j vi vj k (by rw [← hlive];exact hi) (by rw [← hlive];exact hj),fun g hg=>⟨(hG1.ro g hg).1,fun i v hl=>(hG1.ro g hg).2 i v (by rw [← hlive];exact hl)⟩,hG1.tab⟩,hc.free,hc.far,?_,?_,fun g hg=>.inl (hc.ro0 g hg),hc.pins⟩,hs,hd,fun s=>?_⟩
 ·have h0:=hG1.rel id
  rw [lkH_dead] at h0
  rw [hlk]
  split
  ·trivial
  ·rename_i hn
   rw [if_neg hn] at h0
   have h1:=hG.rel id
   cases hb:lkH H id with
   | cells e l =>
    rw [hb] at h1
    obtain ⟨g,cs,hmi,hg,hl,hone,hrel⟩:=h1
    refine ⟨g,cs,hmi,hg,by simpa using hl,fun x hx=>?_,fun j c a hj ha=>?_⟩
    ·obtain ⟨y,hy,rfl⟩:=List.mem_map.1 hx
     exact frz1_one H ids y (hone y hy)
    ·simp only [List.getElem?_map,Option.map_eq_some_iff] at ha
     obtain ⟨a0,ha0,rfl⟩:=ha
     exact frz1_rel hG (hrel j c a0 hj ha0)
   | _=>rw [hb] at h0;exact h0
 ·rintro k ⟨i,v,hl,hm,hb⟩
  exact hc.owns k ⟨i,v,hlive0 i hl,hm,hb⟩
 ·rintro g (hg | ⟨i,v,hi,h1,h2,h3⟩)
  ·exact hc.ro g hg
  ·exact .inr (hc.owns g ⟨i,v,h1,h2,h3⟩)
 ·show RelV m _ w (a.tmps.getD s undef) (lk (frzEnv H ids env) s)
  rw [lk_frzEnv]
  exact frzA_rel hG (hr s)
theorem wk_frz [Tabs] {pn N:Nat} {env:Env} {H:Heap} {nx:Nat} (ids:List Nat):Wk pn N ⟨env,H,nx⟩ ⟨frzEnv H ids env,deads ids (frzMap H ids H),nx⟩ :=
 fun _ _ _ _ h=>rel_frz ids h
structure Rec:Type 1 where
 o:Oper
 v:AV
 touch:List Nat
 wr:List (Nat×AB)
 n0:Nat
 n1:Nat
def putE (dst:Option Nat) (v:AV) (env:Env):Env :=
 match dst with
 | none=>env
 | some d=>(d,v)::env
def envR (env:Env):List Rec→Env
 | []=>env
 | r::R=>putE r.o.dst r.v (envR env R)
def heapR (H:Heap):List Rec→Heap
 | []=>H
 | r::R=>r.wr++heapR H R
def nxR (nx:Nat):List Rec→Nat
 | []=>nx
 | r::_=>r.n1
def Want (ops:Array Oper) (env:Env) (o:Oper):Prop :=
 o.guard=none∨∃ j pol oj t,o.guard=some (j,pol)∧ops[j]?=some oj∧oj.dst=some t∧lk env t=.bool pol
def Skips (ops:Array Oper) (env:Env) (o:Oper):Prop :=
 ∃ j pol oj t,o.guard=some (j,pol)∧ops[j]?=some oj∧oj.dst=some t∧(lk env t=.bool (!pol)∨lk env t=.skip)
def Hist [Tabs] (C:Cx) (ops:Array Oper) (env:Env) (H:Heap) (nx:Nat):List Rec→Prop
 | []=>True
 | r::R=>Hist C ops env H nx R∧ops[R.length]?=some r.o∧(∀ d,r.o.dst=some d→d<C.N)∧r.n0=nxR nx R∧r.n0≤r.n1 ∧
   ((Want ops (envR env R) r.o∧OpSemX C.P C.px r.o (usesOf (rdOp [] (envR env R)) r.o) (heapR H R) r.n0 r.touch (fun r'=>r'=⟨r.v,r.touch,r.wr,r.n1⟩)) ∨
    (Skips ops (envR env R) r.o∧r.v=.skip∧r.wr=[]∧r.n1=r.n0))
abbrev Sig:=List (Oper×List Nat×List Nat)
def idsK:List (Nat×AB)→(List Nat→Prop)→Prop
 | [],k=>k []
 | (i,_)::r,k=>idsK r fun l=>k (i::l)
theorem idsK_iff:∀ {wr:List (Nat×AB)} {k:List Nat→Prop},idsK wr k↔k (wr.map (·.1))
 | [],k=>Iff.rfl
 | (i,b)::r,k=>by simp only [idsK,idsK_iff,List.map_cons]
def evPickD (rd:Operand→AV) (c a b:Operand) (k:AV→Prop):Prop :=
 match rd c with
 | .bool cb=>(cb=true→k (rd a))∧(cb=false→k (rd b))
 | _=>False
theorem evPickD_sound [Tabs] {P:Program} {rd:Operand→AV} {H:Heap} {nx:Nat} {c x y:Operand} {o:Oper} (ho:o.op=.pick c x y) {k:Res→Prop} (h:evPickD rd c x y fun v=>k ⟨v,[],[],nx⟩) :
  ∃ r,OpSemP P o [(c,true,rd c),(x,true,rd x),(y,true,rd y)] H nx r∧(r.wr=[]∧r.nx=nx)∧k r:=by
 unfold evPickD at h
 split at h
 ·rename_i cb hc
  refine ⟨⟨if cb then rd x else rd y,[],[],nx⟩,opsem_pure fun m S w a H₂ hG ht hus=>?_,⟨rfl,rfl⟩,?_⟩
  ·have h1:=hus (c,true,rd c) (by simp) rfl
   have h2:=hus (x,true,rd x) (by simp) rfl
   have h3:=hus (y,true,rd y) (by simp) rfl
   simp only [hc] at h1
   have hv:=relV_bool h1
   cases cb with
   | true =>
    refine ⟨a.eval x,fun w' _=>?_,h2⟩
    unfold execOp
    simp [ho,hv,asBool]
   | false =>
    refine ⟨a.eval y,fun w' _=>?_,h3⟩
    unfold execOp
    simp [ho,hv,asBool]
  ·cases cb with
   | true=>exact h.1 rfl
   | false=>exact h.2 rfl
 ·exact h.elim
def evOpD [Tabs] (C:Cx) (rd:Operand→AV) (H:Heap) (nx:Nat) (o:Oper) (k:Res→Prop):Prop :=
 match o.op with
 | .pick c a b=>evPickD rd c a b fun v=>k ⟨v,[],[],nx⟩
 | _=>evOp C true none rd H nx o k
def putEK (dst:Option Nat) (v:AV) (env:Env) (k:Env→Prop):Prop :=
 match dst with
 | none=>k env
 | some d=>forceAV v fun v=>k ((d,v)::env)
theorem putEK_iff {dst:Option Nat} {v:AV} {env:Env} {k:Env→Prop}:putEK dst v env k↔k (putE dst v env):=by
 cases dst with
 | none=>exact Iff.rfl
 | some d=>simp only [putEK,forceAV_iff];rfl
def gateK [Tabs] (C:Cx) (all:List Oper) (env:Env) (H:Heap) (nx:Nat) (o:Oper) (next:AV→List Nat→List (Nat×AB)→Nat→Prop):Prop :=
 match o.guard with
 | none=>evOpD C (rdOp [] env) H nx o fun r=>match r with
  | ⟨v,touch,wr,nx'⟩=>next v touch wr nx'
 | some (j,pol)=>match all[j]? with
  | none=>False
  | some oj=>match oj.dst with
   | none=>False
   | some t=>match lk env t with
    | .skip=>next .skip [] [] nx
    | .bool b=>(b=pol→evOpD C (rdOp [] env) H nx o fun r=>match r with
      | ⟨v,touch,wr,nx'⟩=>next v touch wr nx')∧(b=!pol→next .skip [] [] nx)
    | _=>False
def gateP (all:List Oper) (env:Env) (g:Option (Nat×Bool)) (yes no:Prop):Prop :=
 match g with
 | none=>yes
 | some (j,pol)=>match all[j]? with
  | none=>False
  | some oj=>match oj.dst with
   | none=>False
   | some t=>match lk env t with
    | .skip=>no
    | .bool b=>(b=pol→yes)∧(b=!pol→no)
    | _=>False
theorem gateP_sound {ops:Array Oper} {env:Env} {o:Oper} {yes no:Prop} (h:gateP ops.toList env o.guard yes no):(Want ops env o∧yes)∨(Skips ops env o∧no):=by
 unfold gateP at h
 split at h
 ·rename_i hg
  exact .inl ⟨.inl hg,h⟩
 ·rename_i j pol hg
  split at h
  ·exact h.elim
  ·rename_i oj hj
   have hj':ops[j]?=some oj:=by simpa using hj
   split at h
   ·exact h.elim
   ·rename_i t ht
    split at h
    ·rename_i hl
     exact .inr ⟨⟨j,pol,oj,t,hg,hj',ht,.inr hl⟩,h⟩
    ·rename_i b hl
     by_cases e:b=pol
     ·subst e
      exact .inl ⟨.inr ⟨j,b,oj,t,hg,hj',ht,hl⟩,h.1 rfl⟩
     ·have e':b=!pol:=by cases b<;>cases pol<;>simp_all
      subst e'
      exact .inr ⟨⟨j,pol,oj,t,hg,hj',ht,.inl hl⟩,h.2 rfl⟩
    ·exact h.elim
theorem gateK_sound [Tabs] {C:Cx} {ops:Array Oper} {env:Env} {H:Heap} {nx:Nat} {o:Oper} {next:AV→List Nat→List (Nat×AB)→Nat→Prop} (h:gateK C ops.toList env H nx o next) :
  (Want ops env o∧evOpD C (rdOp [] env) H nx o fun r=>match r with | ⟨v,touch,wr,nx'⟩=>next v touch wr nx')∨(Skips ops env o∧next .skip [] [] nx):=by
 refine gateP_sound ?_
 unfold gateK at h
 unfold gateP
 exact h
def evOpsD [Tabs] (C:Cx) (all:List Oper):List Oper→Env→Heap→Nat→Sig→(Sig→Env→Heap→Nat→Prop)→Prop
 | [],env,H,nx,sg,k=>k sg env H nx
 | o::rest,env,H,nx,sg,k=>match dstOk C.N o.dst [] with
  | false=>False
  | true=>gateK C all env H nx o fun v touch wr nx'=>idsK wr fun ids=>putEK o.dst v env fun env'=>pushK wr H fun H'=>evOpsD C all rest env' H' nx' ((o,touch,ids)::sg) k
def looksOf (ops:List Oper) (o:Oper):List Nat:=(match o.guard with
 | none=>[]
 | some (j,_)=>match ops[j]? with
  | some oj=>oj.dst.toList
  | none=>[])++o.op.operands.toList.filterMap fun
 | .tmp t=>some t
 | _=>none
def meets (a b:List Nat):Bool:=a.any fun i=>b.any fun j=>Nat.beq i j
def dstIn (d:Option Nat) (l:List Nat):Bool :=
 match d with
 | none=>false
 | some d=>l.any fun j=>Nat.beq d j
def dstSame (a b:Option Nat):Bool :=
 match a,b with
 | some d,some e=>Nat.beq d e
 | _,_=>false
def clash (ops:List Oper) (x y:Oper×List Nat×List Nat):Bool :=
 dstIn x.1.dst (looksOf ops y.1)||dstIn y.1.dst (looksOf ops x.1)||dstSame x.1.dst y.1.dst||meets x.2.2 y.2.1||meets x.2.2 y.2.2||meets y.2.2 x.2.1
def maskGo (ms:List Nat):List Edge→Nat
 | []=>0
 | e::r=>match Region.binds .any e with
  | true=>(2 ^ e.on ||| ms.getD e.on 0) ||| maskGo ms r
  | false=>maskGo ms r
def masksF:List Oper→List Nat→List Nat
 | [],ms=>ms
 | o::r,ms=>masksF r (ms++[maskGo ms o.after.toList])
def pairsB (ops:List Oper) (m:Nat) (x:Oper×List Nat×List Nat):Sig→Bool
 | []=>true
 | y::L=>(!clash ops y x||Nat.testBit m L.length)&&pairsB ops m x L
def edgesB (n:Nat):List Edge→Bool
 | []=>true
 | e::r=>(!Region.binds .any e||Nat.blt e.on n)&&edgesB n r
def ordR (ops:List Oper) (ms:List Nat):Sig→Bool
 | []=>true
 | x::L=>edgesB L.length x.1.after.toList&&pairsB ops (ms.getD L.length 0) x L&&ordR ops ms L
def ordB (ops:Array Oper) (L:Sig):Bool:=ordR ops.toList (masksF ops.toList []) L
def Closed (ops:Array Oper) (E:Nat→Bool):Prop:=∀ (j:Nat) (o:Oper),ops[j]?=some o→E j=true→∀ e∈o.after,Region.binds .any e=true→E e.on=true
theorem maskGo_spec {ms:List Nat} {i:Nat}:∀ {l:List Edge},(maskGo ms l).testBit i=true→∃ e∈l,Region.binds .any e=true∧(e.on=i∨(ms.getD e.on 0).testBit i=true)
 | [],h=>by simp [maskGo] at h
 | e::l,h=>by
  unfold maskGo at h
  split at h
  ·rename_i hb
   simp only [Nat.testBit_or,Bool.or_eq_true] at h
   rcases h with (h | h) | h
   ·refine ⟨e,by simp,hb,.inl ?_⟩
    rw [Nat.testBit_two_pow] at h
    simpa using h
   ·exact ⟨e,by simp,hb,.inr h⟩
   ·obtain ⟨e',h1,h2⟩:=maskGo_spec h
    exact ⟨e',by simp [h1],h2⟩
  ·obtain ⟨e',h1,h2⟩:=maskGo_spec h
   exact ⟨e',by simp [h1],h2⟩
theorem masksF_spec {ops:Array Oper} {E:Nat→Bool} (hE:Closed ops E):∀ (l:List Oper) (ms:List Nat),(∀ k,l[k]?=ops[ms.length+k]?) →
  (∀ j i,(ms.getD j 0).testBit i=true→(∀ o,ops[j]?=some o→∀ e∈o.after,Region.binds .any e=true→E e.on=true)→E i=true) →
  ∀ j i,((masksF l ms).getD j 0).testBit i=true→(∀ o,ops[j]?=some o→∀ e∈o.after,Region.binds .any e=true→E e.on=true)→E i=true
 | [],ms,hl,h,j,i=>h j i
 | o::l,ms,hl,h,j,i=>by
  refine masksF_spec hE l _ (fun k=>?_) (fun j i hb hp=>?_) j i
  ·have:=hl (k+1)
   rw [List.getElem?_cons_succ] at this
   rw [this]
   simp [Nat.add_assoc,Nat.add_comm 1 k]
  ·by_cases hj:j<ms.length
   ·have:(ms++[maskGo ms o.after.toList]).getD j 0=ms.getD j 0:=by simp [List.getD,List.getElem?_append_left hj]
    rw [this] at hb
    exact h j i hb hp
   ·by_cases hj2:j=ms.length
    ·subst hj2
     have:(ms++[maskGo ms o.after.toList]).getD ms.length 0=maskGo ms o.after.toList:=by simp [List.getD]
     rw [this] at hb
     obtain ⟨e,he,hbe,hor⟩:=maskGo_spec hb
     have ho:ops[ms.length]?=some o:=by have:=hl 0;simpa using this.symm
     have hon:=hp o ho e (by simpa using he) hbe
     rcases hor with h1 | h1
     ·rw [← h1];exact hon
     ·exact h e.on i h1 fun o' ho' e' he' hb'=>hE e.on o' ho' hon e' he' hb'
    ·have:(ms++[maskGo ms o.after.toList]).getD j 0=0:=by
      rw [List.getD,List.getElem?_eq_none (by simp;omega)]
      rfl
     rw [this] at hb
     simp at hb
def lay {X:Type _} (f:Rec→Option X) (x0:X) (E:Nat→Bool):List Rec→X
 | []=>x0
 | r::R=>match E R.length,f r with
  | true,some x=>x
  | _,_=>lay f x0 E R
theorem lay_cons {X:Type _} {f:Rec→Option X} {x0:X} {E:Nat→Bool} {r:Rec} {R:List Rec}:lay f x0 E (r::R)=match E R.length with | true=>(f r).getD (lay f x0 E R) | false=>lay f x0 E R:=by
 have e:lay f x0 E (r::R)=(match E R.length,f r with | true,some x=>x | _,_=>lay f x0 E R):=rfl
 rw [e]
 cases E R.length<;>cases f r<;>rfl
theorem lay_skip {X:Type _} {f:Rec→Option X} {x0:X} {E:Nat→Bool} {r:Rec} {R:List Rec} (h:f r≠none→E R.length=false):lay f x0 E (r::R)=lay f x0 E R:=by
 have e:lay f x0 E (r::R)=(match E R.length,f r with | true,some x=>x | _,_=>lay f x0 E R):=rfl
 rw [e]
 cases hf:f r with
 | none=>cases E R.length<;>rfl
 | some x=>rw [h (by rw [hf];simp)]
theorem lay_cut {X:Type _} {f:Rec→Option X} {x0:X} {E:Nat→Bool} {T:List Rec}:∀ {R:List Rec},T <:+ R→(∀ r B,(r::B) <:+ R→T.length≤B.length→f r≠none→E B.length=false)→lay f x0 E R=lay f x0 E T
 | [],hs,h=>by rw [List.suffix_nil.1 hs]
 | x::R,hs,h=>by
  rcases List.suffix_cons_iff.1 hs with rfl | hs'
  ·rfl
  ·rw [lay_skip fun hf=>h x R (List.suffix_refl _) hs'.length_le hf]
   exact lay_cut hs' fun r B hrB=>h r B (hrB.trans (List.suffix_cons _ _))
theorem lay_congr {X:Type _} {f:Rec→Option X} {x0:X} {E E':Nat→Bool}:∀ {R:List Rec},(∀ r B,(r::B) <:+ R→f r≠none→E B.length=E' B.length)→lay f x0 E R=lay f x0 E' R
 | [],h=>rfl
 | x::R,h=>by
  have ih:lay f x0 E R=lay f x0 E' R:=lay_congr fun r B hrB=>h r B (hrB.trans (List.suffix_cons _ _))
  show (match E R.length,f x with | true,some x=>x | _,_=>lay f x0 E R)=(match E' R.length,f x with | true,some x=>x | _,_=>lay f x0 E' R)
  rw [ih]
  cases hf:f x with
  | none=>cases E R.length<;>cases E' R.length<;>rfl
  | some y=>rw [h x R (List.suffix_refl _) (by rw [hf];simp)]
def fE (s:Nat) (r:Rec):Option AV :=
 match r.o.dst with
 | none=>none
 | some d=>if d=s then some r.v else none
def findW:List (Nat×AB)→Nat→Option AB
 | [],_=>none
 | (i,b)::r,j=>if i=j then some b else findW r j
def fH (id:Nat) (r:Rec):Option AB:=findW r.wr id
theorem lkH_append (wr:List (Nat×AB)) (H:Heap) (id:Nat):lkH (wr++H) id=(findW wr id).getD (lkH H id):=by
 induction wr with
 | nil=>rfl
 | cons p wr ih =>
  obtain ⟨i,b⟩:=p
  rw [List.cons_append,lkH_cons]
  unfold findW
  split
  ·rfl
  ·exact ih
theorem findW_mem {wr:List (Nat×AB)} {id:Nat} (h:findW wr id≠none):id∈wr.map (·.1):=by
 induction wr with
 | nil=>exact (h rfl).elim
 | cons p wr ih =>
  obtain ⟨i,b⟩:=p
  unfold findW at h
  split at h
  ·rename_i e;simp [e]
  ·simp [ih h]
theorem lk_envR (env:Env) (s:Nat):∀ (R:List Rec),lk (envR env R) s=lay (fE s) (lk env s) (fun _=>true) R
 | []=>rfl
 | r::R=>by
  rw [lay_cons,← lk_envR env s R]
  show lk (putE r.o.dst r.v (envR env R)) s=(fE s r).getD (lk (envR env R) s)
  unfold putE fE
  cases hd:r.o.dst with
  | none=>rfl
  | some d =>
   simp only [lk_cons]
   split<;>rfl
theorem lkH_heapR (H:Heap) (id:Nat):∀ (R:List Rec),lkH (heapR H R) id=lay (fH id) (lkH H id) (fun _=>true) R
 | []=>rfl
 | r::R=>by
  rw [lay_cons,← lkH_heapR H id R]
  exact lkH_append r.wr (heapR H R) id
def sigOf (r:Rec):Oper×List Nat×List Nat:=(r.o,r.touch,r.wr.map (·.1))
theorem pairsB_spec {ops:List Oper} {m:Nat} {x:Oper×List Nat×List Nat}:∀ {R:List Rec},pairsB ops m x (R.map sigOf)=true→∀ r B,(r::B) <:+ R→clash ops (sigOf r) x=true→Nat.testBit m B.length=true
 | [],_,r,B,hs,_=>by simp at hs
 | y::R,h,r,B,hs,hc=>by
  simp only [List.map_cons,pairsB,Bool.and_eq_true,Bool.or_eq_true,List.length_map] at h
  rcases List.suffix_cons_iff.1 hs with e | hs'
  ·cases e
   rcases h.1 with h1 | h1
   ·rw [hc] at h1;cases h1
   ·exact h1
  ·exact pairsB_spec h.2 r B hs' hc
theorem ordR_spec {ops:List Oper} {ms:List Nat}:∀ {R:List Rec},ordR ops ms (R.map sigOf)=true→∀ r B,(r::B) <:+ R→edgesB B.length r.o.after.toList=true∧pairsB ops (ms.getD B.length 0) (sigOf r) (B.map sigOf)=true
 | [],_,r,B,hs=>by simp at hs
 | y::R,h,r,B,hs=>by
  simp only [List.map_cons,ordR,Bool.and_eq_true,List.length_map] at h
  rcases List.suffix_cons_iff.1 hs with e | hs'
  ·cases e
   exact h.1
  ·exact ordR_spec h.2 r B hs'
theorem edgesB_spec {n:Nat}:∀ {l:List Edge},edgesB n l=true→∀ e∈l,Region.binds .any e=true→e.on<n
 | [],_,e,he,_=>by simp at he
 | x::l,h,e,he,hb=>by
  simp only [edgesB,Bool.and_eq_true,Bool.or_eq_true] at h
  rcases List.mem_cons.1 he with rfl | he
  ·rcases h.1 with h1 | h1
   ·rw [hb] at h1;cases h1
   ·simpa [Nat.blt_eq] using h1
  ·exact edgesB_spec h.2 e he hb
theorem any_beq {d:Nat} {l:List Nat} (h:d∈l):(l.any fun j=>Nat.beq d j)=true:=List.any_eq_true.2 ⟨d,h,by simp⟩
theorem dstIn_true {o:Option Nat} {d:Nat} {l:List Nat} (ho:o=some d) (h:d∈l):dstIn o l=true:=by subst ho;exact any_beq h
theorem meets_true {a b:List Nat} {i:Nat} (h:i∈a) (h':i∈b):meets a b=true:=List.any_eq_true.2 ⟨i,h,any_beq h'⟩
theorem Hist.suffix [Tabs] {C:Cx} {ops:Array Oper} {env:Env} {H:Heap} {nx:Nat} {T:List Rec}:∀ {R:List Rec},Hist C ops env H nx R→T <:+ R→Hist C ops env H nx T
 | [],h,hs=>by rw [List.suffix_nil.1 hs];trivial
 | x::R,h,hs=>by
  rcases List.suffix_cons_iff.1 hs with rfl | hs'
  ·exact h
  ·exact Hist.suffix h.1 hs'
theorem Hist.nx_le [Tabs] {C:Cx} {ops:Array Oper} {env:Env} {H:Heap} {nx:Nat}:∀ {R:List Rec},Hist C ops env H nx R→nx≤nxR nx R
 | [],h=>Nat.le_refl _
 | x::R,h=>by
  have:=Hist.nx_le h.1
  obtain ⟨_,_,_,h1,h2,_⟩:=h
  show nx≤x.n1
  omega
theorem Hist.n1_le [Tabs] {C:Cx} {ops:Array Oper} {env:Env} {H:Heap} {nx:Nat} {r:Rec} {B:List Rec}:∀ {R:List Rec},Hist C ops env H nx R→(r::B) <:+ R→r.n1≤nxR nx R
 | [],h,hs=>by simp at hs
 | x::R,h,hs=>by
  rcases List.suffix_cons_iff.1 hs with e | hs'
  ·cases e;exact Nat.le_refl _
  ·have:=Hist.n1_le h.1 hs'
   obtain ⟨_,_,_,h1,h2,_⟩:=h
   show r.n1≤x.n1
   omega
structure InvD [Tabs] (C:Cx) (F:Fr) (env:Env) (H:Heap) (nx:Nat) (R:List Rec) (E:Nat→Bool) (m:Ids) (S:Blocks) (H₂:Heap) (a:Act) (w:World):Prop where
 good:Good m S w H₂
 far:Far F.F0 F.w0 w
 owns:∀ k,own m H₂ k→F.F0 k∨F.w0.heap.size≤k
 ro:∀ g,S g→F.S0 g∨F.F0 g∨F.w0.heap.size≤g
 ro0:∀ g,F.S0 g→S g
 pins:∀ i v,F.pin i=some v→m i=some v
 free:∀ i,m i≠none→i<nx∨∃ r B,(r::B) <:+ R∧E B.length=true∧r.n0≤i∧i<r.n1
 heap:∀ id,lkH H₂ id=lay (fH id) (lkH H id) E R
 size:a.tmps.size=C.N
 defers:a.defers=F.ds
 tmps:∀ s,RelV m S w (a.tmps.getD s undef) (lay (fE s) (lk env s) E R)
def Preds (E:Nat→Bool) (o:Oper):Prop:=∀ e∈o.after,Region.binds .any e=true→E e.on=true
theorem ordered [Tabs] {C:Cx} {ops:Array Oper} {env:Env} {H:Heap} {nx:Nat} {R:List Rec} {E:Nat→Bool} (hH:Hist C ops env H nx R) (hO:ordB ops (R.map sigOf)=true) (hE:Closed ops E) {r r':Rec} {B B':List Rec}
  (hr:(r::B) <:+ R) (hr':(r'::B') <:+ B) (hc:clash ops.toList (sigOf r') (sigOf r)=true) (hp:Preds E r.o):E B'.length=true:=by
 have h1:=pairsB_spec (ordR_spec hO r B hr).2 r' B' hr' hc
 have hidx:ops[B.length]?=some r.o:=(hH.suffix hr).2.1
 refine masksF_spec hE ops.toList [] (fun k=>by simp) (fun j i h=>by simp at h) B.length B'.length h1 (fun o ho=>?_)
 rw [hidx] at ho
 cases ho
 exact hp
theorem suffix_same {r r':Rec} {B B' R:List Rec} (h:(r::B) <:+ R) (h':(r'::B') <:+ R) (hl:B'.length=B.length):r'=r∧B'=B:=by
 have:=(List.suffix_of_suffix_length_le h' h (by simp [hl])).eq_of_length (by simp [hl])
 cases this
 exact ⟨rfl,rfl⟩
theorem suffix_tail {r:Rec} {B R:List Rec} (h:(r::B) <:+ R):B <:+ R:=(List.suffix_cons r B).trans h
structure At [Tabs] (C:Cx) (ops:Array Oper) (env:Env) (H:Heap) (nx:Nat) (R:List Rec) (E:Nat→Bool) (r:Rec) (B:List Rec):Prop where
 hist:Hist C ops env H nx R
 ord:ordB ops (R.map sigOf)=true
 clo:Closed ops E
 here:(r::B) <:+ R
 not:E B.length=false
 preds:Preds E r.o
section
variable {C:Cx} {ops:Array Oper} {env:Env} {H:Heap} {nx:Nat} {R:List Rec} {E:Nat→Bool} {r:Rec} {B:List Rec}
theorem At.later [Tabs] (h:At C ops env H nx R E r B) {r':Rec} {B':List Rec} (h':(r'::B') <:+ R) (hl:B.length<B'.length) (hc:clash ops.toList (sigOf r) (sigOf r')=true):E B'.length=false:=by
 cases hb:E B'.length with
 | false=>rfl
 | true =>
  have hs:(r::B) <:+ B':=List.suffix_of_suffix_length_le h.here (suffix_tail h') (by simp;omega)
  have hidx:ops[B'.length]?=some r'.o:=(h.hist.suffix h').2.1
  have:=ordered h.hist h.ord h.clo h' hs hc (h.clo _ _ hidx hb)
  rw [h.not] at this
  cases this
theorem At.read [Tabs] {X:Type _} (h:At C ops env H nx R E r B) {f:Rec→Option X} {x0:X} (hf:∀ r',f r'≠none→clash ops.toList (sigOf r) (sigOf r')=true∧clash ops.toList (sigOf r') (sigOf r)=true):lay f x0 E R=lay f x0 (fun _=>true) B:=by
 rw [lay_cut (suffix_tail h.here) fun r' B' h' hl hn=>?_]
 ·exact lay_congr fun r' B' h' hn=>ordered h.hist h.ord h.clo h.here h' (hf r' hn).2 h.preds
 ·by_cases e:B'.length=B.length
  ·rw [e];exact h.not
  ·exact h.later h' (by omega) (hf r' hn).1
def setE (E:Nat→Bool) (j:Nat):Nat→Bool:=fun i=>if i=j then true else E i
theorem At.write [Tabs] {X:Type _} (h:At C ops env H nx R E r B) {f:Rec→Option X} {x0 x:X} (hf:∀ r',f r'≠none→clash ops.toList (sigOf r) (sigOf r')=true) (hx:f r=some x):lay f x0 (setE E B.length) R=x:=by
 rw [lay_cut h.here fun r' B' h' hl hn=>?_,lay_cons]
 ·simp [setE,hx]
 ·have hl':B.length<B'.length:=by simp at hl;omega
  have:B'.length≠B.length:=by omega
  simp only [setE,this,if_false]
  exact h.later h' hl' (hf r' hn)
theorem At.same [Tabs] {X:Type _} (h:At C ops env H nx R E r B) {f:Rec→Option X} {x0:X} (hx:f r=none):lay f x0 (setE E B.length) R=lay f x0 E R:=by
 refine lay_congr fun r' B' h' hn=>?_
 by_cases e:B'.length=B.length
 ·obtain ⟨rfl,_⟩:=suffix_same h.here h' e
  exact (hn hx).elim
 ·simp [setE,e]
theorem fE_dst {s:Nat} {r:Rec} (h:fE s r≠none):r.o.dst=some s:=by
 unfold fE at h
 split at h
 ·exact (h rfl).elim
 ·split at h
  ·rename_i hd e;rw [hd,e]
  ·exact (h rfl).elim
theorem clash_read {s:Nat} {r r':Rec} (hs:s∈looksOf ops.toList r.o) (h:r'.o.dst=some s):clash ops.toList (sigOf r) (sigOf r')=true∧clash ops.toList (sigOf r') (sigOf r)=true:=by
 have h1:=dstIn_true h hs
 simp [clash,sigOf,h1]
theorem clash_touch {i:Nat} {r r':Rec} (hs:i∈r.touch) (h:fH i r'≠none):clash ops.toList (sigOf r) (sigOf r')=true∧clash ops.toList (sigOf r') (sigOf r)=true:=by
 have h1:=meets_true (findW_mem h) hs
 simp [clash,sigOf,h1]
theorem clash_wr {i:Nat} {r r':Rec} (hs:fH i r≠none) (h:fH i r'≠none):clash ops.toList (sigOf r) (sigOf r')=true:=by
 have h1:=meets_true (findW_mem hs) (findW_mem h)
 simp [clash,sigOf,h1]
theorem clash_dst {s:Nat} {r r':Rec} (hs:r.o.dst=some s) (h:r'.o.dst=some s):clash ops.toList (sigOf r) (sigOf r')=true:=by
 have:dstSame (some s) (some s)=true:=by simp [dstSame]
 simp [clash,sigOf,hs,h,this]
theorem looks_mem {ops:List Oper} {o:Oper} {x:Operand} {s:Nat} (hx:x∈o.op.operands.toList) (he:x=.tmp s):s∈looksOf ops o:=by
 subst he
 exact List.mem_append_right _ (List.mem_filterMap.2 ⟨.tmp s,hx,rfl⟩)
theorem looks_guard {ops:List Oper} {o oj:Oper} {j t:Nat} {pol:Bool} (hg:o.guard=some (j,pol)) (hj:ops[j]?=some oj) (ht:oj.dst=some t):t∈looksOf ops o:=by
 refine List.mem_append_left _ ?_
 simp [hg,hj,ht]
theorem InvD.core [Tabs] {F:Fr} {m:Ids} {S:Blocks} {H₂:Heap} {a:Act} {w:World} (hI:InvD C F env H nx R E m S H₂ a w) (hH:Hist C ops env H nx R):Core F m S w H₂ (nxR nx R):=by
 refine ⟨hI.good,fun i hi=>?_,hI.far,hI.owns,hI.ro,hI.ro0,hI.pins⟩
 cases hm:m i with
 | none=>rfl
 | some v =>
  rcases hI.free i (by rw [hm];simp) with h1 | ⟨r,B,hr,_,_,h1⟩
  ·have:=hH.nx_le
   omega
  ·have:=hH.n1_le hr
   omega
theorem Ext.flat [Tabs] {m m':Ids} {S S':Blocks} {w w':World} {H H':Heap} {n:Nat} (h:Ext m S w H n n m' S' w' H') (k:Nat):Ext m S w H k k m' S' w' H' :=
 ⟨h.ids,fun i _=>h.same i (by omega),h.ros,h.fresh,h.far,h.owns,h.good⟩
theorem stepD [Tabs] {F:Fr} {m:Ids} {S:Blocks} {H₂:Heap} {a:Act} {w:World} {K:Act→World→Prop} {Q:Exit→Act→World→Prop} (h:At C ops env H nx R E r B) (hI:InvD C F env H nx R E m S H₂ a w)
  (hK:∀ m' S' H' a' w',InvD C F env H nx R (setE E B.length) m' S' H' a' w'→K a' w')
  (hP:∀ (m':Ids) (S':Blocks) (H':Heap) (w':World) (ch:List PanicEntry),C.px ch→Core F m' S' w' H' (nxR nx R)→Q (.panic ch) a w') :
  (Region.wanted r.o (yielded ops a.tmps)=true∧r.o.wp C.P a w K Q)∨(Region.wanted r.o (yielded ops a.tmps)=false∧K (a.put r.o.dst undef) w):=by
 obtain ⟨hHB,hidx,hdst,hn0,hn01,hsem⟩:=h.hist.suffix h.here
 have slot:∀ t,t∈looksOf ops.toList r.o→RelV m S w (a.tmps.getD t undef) (lk (envR env B) t):=by
  intro t ht
  have:=hI.tmps t
  rwa [h.read fun r' hn=>clash_read ht (fE_dst hn),← lk_envR] at this
 have gate:∀ {j:Nat} {pol:Bool} {oj:Oper} {t:Nat},r.o.guard=some (j,pol)→ops[j]?=some oj→oj.dst=some t→Region.wanted r.o (yielded ops a.tmps)=(yieldT a.tmps t == some pol):=by
  intro j pol oj t hg hj ht
  have hy:yielded ops a.tmps j=yieldT a.tmps t:=by
   unfold yielded yieldT
   rw [hj]
   simp [ht]
   rfl
  simp only [Region.wanted,hg,hy]
 rcases hsem with ⟨hw,hsem⟩ | ⟨hs,hv,hwr,hn⟩
 rotate_left
 ·right
  have hwf:Region.wanted r.o (yielded ops a.tmps)=false:=by
   obtain ⟨j,pol,oj,t,hg,hj,ht,hl⟩:=hs
   rw [gate hg hj ht]
   have hsl:=slot t (looks_guard hg (by simpa using hj) ht)
   rcases hl with hl | hl
   ·rw [hl] at hsl
    rw [yieldT_eq (relV_bool hsl)]
    cases pol<;>rfl
   ·rw [hl] at hsl
    have:a.tmps.getD t undef=undef:=by
     generalize a.tmps.getD t undef=v at hsl
     cases hsl with
     | t _ _ h=>cases h;rfl
    rw [yieldT_undef this]
    rfl
  refine ⟨hwf,hK m S H₂ _ w ⟨hI.good,hI.far,hI.owns,hI.ro,hI.ro0,hI.pins,fun i hi=>?_,fun id=>?_,?_,?_,fun s=>?_⟩⟩
  ·rcases hI.free i hi with h1 | ⟨r',B',h',hE',h1⟩
   ·exact .inl h1
   ·exact .inr ⟨r',B',h',by simp [setE,hE'],h1⟩
  ·rw [h.same (f:=fH id) (by simp [fH,hwr,findW])]
   exact hI.heap id
  ·cases hd:r.o.dst<;>simp [Act.put,hI.size]
  ·cases hd:r.o.dst<;>simp [Act.put,hI.defers]
  ·have old:=hI.tmps s
   cases hd:r.o.dst with
   | none =>
    rw [h.same (f:=fE s) (by simp [fE,hd])]
    exact old
   | some d =>
    have hlt:d<a.tmps.size:=by rw [hI.size];exact hdst d hd
    show RelV m S w ((a.tmps.setIfInBounds d undef).getD s undef) _
    rw [getD_set hlt]
    by_cases e:d=s
    ·subst e
     rw [if_pos rfl,h.write (f:=fE d) (x:=r.v) (fun r' hn=>clash_dst hd (fE_dst hn)) (by simp [fE,hd]),hv]
     exact .t _ _ .skip
    ·rw [if_neg e,h.same (f:=fE s) (by simp [fE,hd,e])]
     exact old
 left
 refine ⟨?_,?_⟩
 ·rcases hw with hg | ⟨j,pol,oj,t,hg,hj,ht,hl⟩
  ·simp [Region.wanted,hg]
  ·rw [gate hg hj ht]
   have hsl:=slot t (looks_guard hg (by simpa using hj) ht)
   rw [hl] at hsl
   rw [yieldT_eq (relV_bool hsl)]
   simp
 refine hsem m S w a H₂ K Q hI.good (fun id hid=>?_) (fun i hi hlt=>?_) (fun u hu _=>?_) ?_ (fun ch hx m' S' w' wr hE=>hP m' S' _ w' ch hx ((hI.core h.hist).step (hE.flat _) (Nat.le_refl _)))
 ·rw [hI.heap id,lkH_heapR]
  exact h.read fun r' hn=>clash_touch hid hn
 ·obtain ⟨r',rfl,hlt⟩:=hlt
  cases hm:m i with
  | none=>rfl
  | some v =>
   rcases hI.free i (by rw [hm];simp) with h1 | ⟨r',B',h',hE',h1,h2⟩
   ·have:=hHB.nx_le
    omega
   ·have hlt':i<r.n1:=hlt
    by_cases e:B'.length=B.length
    ·rw [e,h.not] at hE';cases hE'
    ·by_cases hl:B'.length<B.length
     ·have hs:(r'::B') <:+ B:=List.suffix_of_suffix_length_le h' (suffix_tail h.here) (by simp;omega)
      have:=hHB.n1_le hs
      omega
     ·have hs:(r::B) <:+ B':=List.suffix_of_suffix_length_le h.here (suffix_tail h') (by simp;omega)
      obtain ⟨hH',_,_,hn0',_⟩:=h.hist.suffix h'
      have:=hH'.n1_le hs
      omega
 ·obtain ⟨x,hx,rfl⟩:=List.mem_map.1 hu
  cases x with
  | tmp s =>
   have:=hI.tmps s
   rw [h.read fun r' hn=>clash_read (looks_mem hx rfl) (fE_dst hn),← lk_envR] at this
   exact this
  | const v=>exact .t _ _ (relT_avOf S w v)
  | global g=>exact .t _ _ (.undef _)
  | func f=>exact .t _ _ (.fn _ _ _ _ _ rfl rfl (fun j c x hj=>by simp at hj) (fun j c x hj=>by simp at hj))
 ·rintro r' rfl v m' S' w' hX hV
  refine hK m' S' _ _ w' ⟨hX.good,?_,fun k hk=>?_,fun g hg=>?_,fun g hg=>hX.ros g (hI.ro0 g hg),fun i v hi=>hX.ids i v (hI.pins i v hi),fun i hi=>?_,fun id=>?_,?_,?_,fun s=>?_⟩
  ·refine hI.far.trans hX.far fun i hi ho=>?_
   rcases hI.owns i ho with h | h
   ·exact h
   ·omega
  ·rcases hX.owns k hk with h1 | h1
   ·exact hI.owns k h1
   ·exact .inr (Nat.le_trans hI.far.size h1)
  ·rcases hX.fresh g hg with h1 | h1 | h1
   ·exact hI.ro g h1
   ·exact .inr (hI.owns g h1)
   ·exact .inr (.inr (Nat.le_trans hI.far.size h1))
  ·by_cases hr:r.n0≤i∧i<r.n1
   ·exact .inr ⟨r,B,h.here,by simp [setE],hr⟩
   ·rw [hX.same i hr] at hi
    rcases hI.free i hi with h1 | ⟨r',B',h',hE',h1⟩
    ·exact .inl h1
    ·exact .inr ⟨r',B',h',by simp [setE,hE'],h1⟩
  ·rw [lkH_append]
   cases hf:findW r.wr id with
   | none =>
    rw [h.same (f:=fH id) hf]
    exact hI.heap id
   | some b =>
    rw [h.write (f:=fH id) (fun r' hn=>clash_wr (by rw [show fH id r=_ from hf];simp) hn) hf]
    rfl
  ·cases hd:r.o.dst<;>simp [Act.put,hI.size]
  ·cases hd:r.o.dst<;>simp [Act.put,hI.defers]
  ·have old:RelV m' S' w' (a.tmps.getD s undef) (lay (fE s) (lk env s) E R):=hX.relV hI.good (hI.tmps s)
   cases hd:r.o.dst with
   | none =>
    rw [h.same (f:=fE s) (by simp [fE,hd])]
    exact old
   | some d =>
    have hlt:d<a.tmps.size:=by rw [hI.size];exact hdst d hd
    show RelV m' S' w' ((a.tmps.setIfInBounds d v).getD s undef) _
    rw [getD_set hlt]
    by_cases e:d=s
    ·subst e
     rw [if_pos rfl,h.write (f:=fE d) (x:=r.v) (fun r' hn=>clash_dst hd (fE_dst hn)) (by simp [fE,hd])]
     exact hV
    ·rw [if_neg e,h.same (f:=fE s) (by simp [fE,hd,e])]
     exact old
end
theorem evOpD_sound [Tabs] {C:Cx} (hT:TabOk C.P C.T) {rd:Operand→AV} {H:Heap} {nx:Nat} {o:Oper} {k:Res→Prop} (h:evOpD C rd H nx o k):Shown C.P C.px true none rd H nx o k:=by
 unfold evOpD at h
 split at h
 ·rename_i c x y hop
  exact shown_pure' (us:=[(c,true,rd c),(x,true,rd x),(y,true,rd y)]) (uses_all (l:=[c,x,y]) (by simp [hop,Op.operands])) (evPickD_sound hop h)
 ·exact evOp_sound hT h
theorem evOpsD_sound [Tabs] {C:Cx} (hT:TabOk C.P C.T) {ops:Array Oper} {env0:Env} {H0:Heap} {nx0:Nat} {k:Sig→Env→Heap→Nat→Prop}:∀ (rest:List Oper) (R:List Rec),Hist C ops env0 H0 nx0 R→(∀ j,rest[j]?=ops[R.length+j]?) →
  evOpsD C ops.toList rest (envR env0 R) (heapR H0 R) (nxR nx0 R) (R.map sigOf) k →
  ∃ R',Hist C ops env0 H0 nx0 R'∧R'.length=R.length+rest.length∧k (R'.map sigOf) (envR env0 R') (heapR H0 R') (nxR nx0 R')
 | [],R,hH,_,h=>⟨R,hH,rfl,h⟩
 | o::rest,R,hH,hl,h=>by
  unfold evOpsD at h
  split at h
  ·exact h.elim
  ·rename_i hd
   have hidx:ops[R.length]?=some o:=by have:=hl 0;simpa using this.symm
   have hdst:∀ d,o.dst=some d→d<C.N:=by
    intro d hd'
    simp only [dstOk,hd',Bool.and_eq_true] at hd
    simpa [Nat.blt_eq] using hd.1
   rcases gateK_sound h with ⟨hw,h⟩ | ⟨hsk,h⟩
   ·obtain ⟨touch,Rr,h1,_,h3,h4⟩:=evOpD_sound hT h
    obtain ⟨r,hr,ht⟩:=h3 rfl
    obtain ⟨hn,hk⟩:=h4 r ((hr r).2 rfl)
    obtain ⟨v,touch',wr,n1⟩:=r
    simp only at hk ht
    subst ht
    rw [idsK_iff] at hk
    have hRr:Rr=fun r'=>r'=⟨v,touch',wr,n1⟩:=funext fun r'=>propext (hr r')
    subst hRr
    have hsem:=h1 trivial
    refine (evOpsD_sound hT rest (⟨o,v,touch',wr,nxR nx0 R,n1⟩::R) ⟨hH,hidx,hdst,rfl,hn,.inl ⟨hw,hsem⟩⟩ (fun j=>?_) ?_).imp fun R' h=>⟨h.1,by have:=h.2.1;simp at this ⊢;omega,h.2.2⟩
    ·have:=hl (j+1)
     rw [List.getElem?_cons_succ] at this
     rw [this]
     simp [Nat.add_assoc,Nat.add_comm 1 j]
    ·exact pushK_iff.1 (putEK_iff.1 hk)
   ·refine (evOpsD_sound hT rest (⟨o,.skip,[],[],nxR nx0 R,nxR nx0 R⟩::R) ⟨hH,hidx,hdst,rfl,Nat.le_refl _,.inr ⟨hsk,rfl,rfl,rfl⟩⟩ (fun j=>?_) ?_).imp fun R' h=>⟨h.1,by have:=h.2.1;simp at this ⊢;omega,h.2.2⟩
    ·have:=hl (j+1)
     rw [List.getElem?_cons_succ] at this
     rw [this]
     simp [Nat.add_assoc,Nat.add_comm 1 j]
    ·exact pushK_iff.1 (putEK_iff.1 (idsK_iff.1 h))
theorem nth_suffix {R:List Rec} {j:Nat} (h:j<R.length):∃ r B,(r::B) <:+ R∧B.length=j:=by
 have hs:=List.drop_suffix (R.length-1-j) R
 cases hd:R.drop (R.length-1-j) with
 | nil =>
  have:=congrArg List.length hd
  simp at this
  omega
 | cons r B =>
  rw [hd] at hs
  refine ⟨r,B,hs,?_⟩
  have:=congrArg List.length hd
  simp at this
  omega
theorem setE_eq {listed:Array Bool} {j:Nat} (h:j<listed.size):(fun i=>(listed.setIfInBounds j true).getD i false)=setE (fun i=>listed.getD i false) j:=by
 funext i
 unfold setE
 by_cases e:i=j
 ·subst e;simp [h]
 ·rw [if_neg e,getD_set_ne false (fun h=>e h.symm)]
theorem closed_set {ops:Array Oper} {E:Nat→Bool} {j:Nat} {o:Oper} (h:Closed ops E) (ho:ops[j]?=some o) (hp:Preds E o):Closed ops (setE E j):=by
 intro i o' ho' hi e he hb
 have:E e.on=true:=by
  by_cases e':i=j
  ·subst e'
   rw [ho] at ho'
   cases ho'
   exact hp e he hb
  ·simp only [setE,e',if_false] at hi
   exact h i o' ho' hi e he hb
 simp [setE,this]
theorem drawLoop [Tabs] {C:Cx} {F:Fr} {ops:Array Oper} {env:Env} {H:Heap} {nx:Nat} {R:List Rec} (hH:Hist C ops env H nx R) (hO:ordB ops (R.map sigOf)=true) (hlen:R.length=ops.size) {Q:Exit→Act→World→Prop}
  (hQ:∀ (E:Nat→Bool) m S H₂ a w,(∀ j,j<ops.size→E j=true)→InvD C F env H nx R E m S H₂ a w→Q .normal a w)
  (hP:∀ (m:Ids) (S:Blocks) (H':Heap) (a:Act) (w:World) (ch:List PanicEntry),C.px ch→Core F m S w H' (nxR nx R)→a.tmps.size=C.N→a.defers=F.ds→Q (.panic ch) a w) :
  ∀ (fuel:Nat) (listed:Array Bool) m S H₂ a w,listed.size=ops.size→listed.toList.count false=fuel→Closed ops (fun i=>listed.getD i false)→InvD C F env H nx R (fun i=>listed.getD i false) m S H₂ a w →
   wpAny C.P .any ops Q fuel listed a w:=by
 have done:∀ (listed:Array Bool) m S H₂ a w,listed.size=ops.size→InvD C F env H nx R (fun i=>listed.getD i false) m S H₂ a w→Region.ready .any ops listed=[]→Q .normal a w:=by
  intro listed m S H₂ a w hs hI h0
  refine hQ _ m S H₂ a w (fun j=>?_) hI
  induction j using Nat.strongRecOn with
  | _ j ih =>
   intro hj
   cases hb:listed.getD j false with
   | true=>rfl
   | false =>
    exfalso
    obtain ⟨r,B,hr,hB⟩:=nth_suffix (R:=R) (j:=j) (by omega)
    obtain ⟨_,hidx,_⟩:=hH.suffix hr
    have hed:=edgesB_spec (ordR_spec hO r B hr).1
    have:j∈Region.ready .any ops listed:=by
     rw [mem_ready]
     refine ⟨?_,r.o,by rw [← hB];exact hidx,fun e he hbe=>?_⟩
     ·have hlt:j<listed.size:=by omega
      simp [Array.getD,hlt] at hb ⊢
      exact hb
     ·have hlt:=hed e (by simpa using he) hbe
      exact ih e.on (by omega) (by omega)
    rw [h0] at this
    simp at this
 intro fuel
 induction fuel with
 | zero =>
  intro listed m S H₂ a w hs hc hcl hI
  have h0:Region.ready .any ops listed=[]:=by
   apply List.eq_nil_iff_forall_not_mem.2
   intro j hj
   obtain ⟨h1,o,ho,_⟩:=mem_ready.1 hj
   have hlt:j<listed.size:=by rw [hs];exact (Array.getElem?_eq_some_iff.1 ho).1
   simp [Array.getD,hlt] at h1
   have:false∈listed.toList:=by rw [← h1];simp
   have:=List.count_pos_iff.2 this
   omega
  exact ⟨h0,done listed m S H₂ a w hs hI h0⟩
 | succ fuel ih =>
  intro listed m S H₂ a w hs hc hcl hI
  refine ⟨fun h0=>done listed m S H₂ a w hs hI h0,fun j hj=>?_⟩
  obtain ⟨h1,o,ho,hpre⟩:=mem_ready.1 hj
  have hlt:j<ops.size:=(Array.getElem?_eq_some_iff.1 ho).1
  have hls:j<listed.size:=by omega
  obtain ⟨r,B,hr,hB⟩:=nth_suffix (R:=R) (j:=j) (by omega)
  obtain ⟨_,hidx,_⟩:=hH.suffix hr
  have hro:o=r.o:=by rw [hB,ho] at hidx;cases hidx;rfl
  subst hro
  have hf:listed[j]=false:=by simpa [Array.getD,hls] using h1
  have hat:At C ops env H nx R (fun i=>listed.getD i false) r B:=⟨hH,hO,hcl,hr,by simp [hB,hls,hf],hpre⟩
  unfold wpOp
  rw [ho]
  have next:∀ m' S' H' a' w',InvD C F env H nx R (setE (fun i=>listed.getD i false) B.length) m' S' H' a' w'→wpAny C.P .any ops Q fuel (listed.setIfInBounds j true) a' w':=?next
  rcases stepD (Q:=Q) hat hI next (fun m' S' H' w' ch hx hc=>hP m' S' H' a w' ch hx hc hI.size hI.defers) with ⟨hw,hst⟩ | ⟨hw,hst⟩
  ·simp only [hw,if_true]
   exact .inl hst
  ·simp only [hw,if_false,Bool.false_eq_true]
   exact hst
  intro m' S' H' a' w' hI'
  rw [hB,← setE_eq hls] at hI'
  refine ih _ m' S' H' a' w' (by simp [hs]) ?_ ?_ hI'
  ·rw [Array.toList_setIfInBounds,List.count_set (by simpa using hls)]
   have:listed.toList[j]'(by simpa using hls)=false:=by simpa using hf
   rw [this]
   have hc':listed.toList.count false=fuel+1:=hc
   rw [hc']
   rfl
  ·rw [setE_eq hls]
   exact closed_set hcl ho hpre
theorem rep_false (n i:Nat):(Array.replicate n false).getD i false=false:=by
 by_cases h:i<n<;>simp [Array.getD,h]
theorem good_congr [Tabs] {m:Ids} {S:Blocks} {w:World} {H H':Heap} (h:Good m S w H) (he:∀ id,lkH H id=lkH H' id):Good m S w H' :=
 ⟨fun id=>by rw [← he id];exact h.rel id,fun i j vi vj k hi hj=>h.sep i j vi vj k (by rw [he i];exact hi) (by rw [he j];exact hj),fun g hg=>⟨(h.ro g hg).1,fun i v hl=>(h.ro g hg).2 i v (by rw [he i];exact hl)⟩,h.tab⟩
theorem DrawG.eff [Tabs] {C:Cx} (hC:CxOk C) {id:Nat} {ops:Array Oper} {env:Env} {H:Heap} {nx:Nat} {Q:St→Prop}
  (h:evOpsD C ops.toList ops.toList env H nx [] fun sg env H nx=>ordB ops sg=true∧flushK C.keep [] env [] fun env=>Q ⟨env,H,nx⟩):DrawG C id ops env H nx Q:=by
 refine .any fun F a w _ ⟨m,S,hc,hs,hd,hrel⟩=>?_
 obtain ⟨R,hH,hlen,hO,hk⟩:=evOpsD_sound hC.tab (ops:=ops) ops.toList [] trivial (by simp) h
 refine wp_region_any hC.mixed ?_
 have e:=ext_below (nx:=nx) (w':={ w with drawn:=w.drawn+1 }) hc.good ⟨rfl,rfl,rfl,Nat.le_refl _,fun _ _=>rfl⟩
 have hc':=hc.step e (Nat.le_refl _)
 refine drawLoop hH hO (by simpa using hlen) (F:=F) ?_ (fun m S H' a w ch hx hc hs hd=>⟨⟨[],H',nxR nx R⟩,⟨m,S,hc,hs,hd,fun s=>.t _ _ (.undef _)⟩,hx⟩) ops.size _ m S H a _ (by simp) (by simp) ?_ ⟨hc'.good,hc'.far,hc'.owns,hc'.ro,hc'.ro0,hc'.pins,fun i hi=>?_,fun id=>?_,hs,hd,fun s=>?_⟩
 ·intro E m S H₂ a w hall hI
  have hall':∀ {X:Type _} (f:Rec→Option X) (x0:X),lay f x0 E R=lay f x0 (fun _=>true) R:=fun f x0=>lay_congr fun r B hr _=>hall _ (by
   have:=hr.length_le
   simp at this hlen
   omega)
  have hheap:∀ id,lkH H₂ id=lkH (heapR H R) id:=fun id=>by rw [hI.heap id,hall',lkH_heapR]
  have hown:∀ k,own m (heapR H R) k→own m H₂ k:=fun k ⟨i,v,h1,h2⟩=>⟨i,v,by rw [hheap];exact h1,h2⟩
  have henv:∀ s,RelV m S w (a.tmps.getD s undef) (lk (envR env R) s):=fun s=>by
   have:=hI.tmps s
   rwa [hall',← lk_envR] at this
  obtain ⟨env',hq,he⟩:=flushK_sound (stk:=[]) (Rel.run (F:=F) (st:=⟨envR env R,heapR H R,nxR nx R⟩) hI.size henv) _ _ _ hk (fun s=>.t _ _ (.undef _))
  refine ⟨⟨env',heapR H R,nxR nx R⟩,⟨m,S,⟨good_congr hI.good hheap,fun i hi=>?_,hI.far,fun k hk=>hI.owns k (hown k hk),hI.ro,hI.ro0,hI.pins⟩,hI.size,hI.defers,he⟩,hq⟩
  cases hm:m i with
  | none=>rfl
  | some v =>
   have hi':nxR nx R≤i:=hi
   rcases hI.free i (by rw [hm];simp) with h1 | ⟨r,B,hr,_,_,h1⟩
   ·have:=hH.nx_le
    omega
   ·have:=hH.n1_le hr
    omega
 ·intro j o ho hj
  have hj':(Array.replicate ops.size false).getD j false=true:=hj
  rw [rep_false] at hj'
  cases hj'
 ·left
  cases Nat.lt_or_ge i nx with
  | inl h=>exact h
  | inr h=>exact (hi (hc'.free i h)).elim
 ·have:lay (fH id) (lkH H id) (fun i=>(Array.replicate ops.size false).getD i false) R=lkH H id:=by
   rw [lay_cut (List.nil_suffix) fun r B _ _ _=>rep_false _ _]
   rfl
  rw [this]
 ·have:lay (fE s) (lk env s) (fun i=>(Array.replicate ops.size false).getD i false) R=lk env s:=by
   rw [lay_cut (List.nil_suffix) fun r B _ _ _=>rep_false _ _]
   rfl
  rw [this]
  exact e.relV hc.good (hrel s)
theorem loop_up [Tabs] {C:Cx} (hT:CxOk C) {body:Code} {st0:St} {Q:Exit→St→Prop} (n:Nat) (P:Nat→Prop) (st:Nat→St) (h0:P 0) (hw:Wk C.pn C.N st0 (st 0))
  (round:∀ k,k≤n→P k→evCode C body (st k) (loopQ (fun k=>k≤n∧P k) (fun k=>n-k) (n-k) C.pn C.N st Q)):LoopG C body st0 Q :=
 loop_inv hT (σ:=Nat) (fun k=>k≤n∧P k) (fun k=>n-k) st 0 ⟨Nat.zero_le _,h0⟩ hw fun k ⟨h1,h2⟩=>round k h1 h2
theorem up [Tabs] {n k pn N:Nat} {P:Nat→Prop} {st:Nat→St} {st':St} (h:k<n) (hP:P (k+1)) (hw:Wk pn N st' (st (k+1))):∃ s,(s≤n∧P s)∧n-s<n-k∧Wk pn N st' (st s) :=
 ⟨k+1,⟨h,hP⟩,by omega,hw⟩
theorem getD_mem {α:Type _} {l:List α} {k:Nat} {d:α} (h:k<l.length):l.getD k d∈l:=by simp [List.getD,List.getElem?_eq_getElem h]
theorem mem_getD {α:Type _} {l:List α} {x d:α} (h:x∈l):∃ k,k<l.length∧l.getD k d=x:=by
 obtain ⟨k,hk,rfl⟩:=List.getElem_of_mem h
 exact ⟨k,hk,by simp [List.getD,List.getElem?_eq_getElem hk]⟩
theorem take_getD {α:Type _} {l:List α} {k:Nat} {d:α} (h:k<l.length):l.take (k+1)=l.take k++[l.getD k d]:=by
 rw [List.take_add_one]
 simp [List.getD,List.getElem?_eq_getElem h]
def freezeR:AR→AR
 | .val a=>.val a
 | .new (.lst _ E l)=>.val (.lsl E l)
 | .new (.row _ E enc d xs)=>.val (.sl E enc d xs)
 | .new (.smap ev dv es)=>.val (.rsmap ev dv es)
 | .new (.imap k ev dv es)=>.val (.rimap k ev dv es)
 | .new (.gmap k ev dv es)=>.val (.rgmap k ev dv es)
 | .new _=>.val .undef
theorem freezeR_rel {S S2:Blocks} {w:World} {B:Nat} {u:Value} {r:AR} (h:RelR S w B u r) (hS:∀ g,S g→S2 g) (hb:∀ b g,r=.new b→blk u=some g→S2 g):RelR S2 w B u (freezeR r):=by
 cases r with
 | val a=>exact RelT.more hS h
 | new b =>
  have hrel:=h.2.2 0
  have hbk:=fun g=>hb b g rfl
  cases b with
  | dead=>exact .undef u
  | cells e l=>exact .undef u
  | arr e k n f=>exact .undef u
  | que e E enc d xs=>exact .undef u
  | lst e E l =>
   obtain ⟨v,vs,hm,hr⟩:=hrel
   simp at hm
   subst hm
   exact hr.lent hS hbk
  | row e E enc d xs =>
   obtain ⟨v,vs,hm,hr⟩:=hrel
   simp at hm
   subst hm
   exact .sl _ _ _ _ _ (hr.lent hS hbk)
  | smap ev dv es =>
   obtain ⟨r,en,clock,hm,hr,hl,hst,hrel⟩:=hrel
   simp at hm
   subst hm
   exact .rsmap ev dv es r clock en (hbk r rfl) hr hl hst (fun j x p h1 h2=>(hrel j x p h1 h2).1) (fun j x p h1 h2=>(hrel j x p h1 h2).2.more hS)
  | imap k ev dv es =>
   obtain ⟨r,en,clock,hm,hr,hl,hst,hrel⟩:=hrel
   simp at hm
   subst hm
   exact .rimap k ev dv es r clock en (hbk r rfl) hr hl hst (fun j x p h1 h2=>(hrel j x p h1 h2).1) (fun j x p h1 h2=>(hrel j x p h1 h2).2.more hS)
  | gmap k ev dv es =>
   obtain ⟨r,en,clock,hm,hr,hl,hst,hrel⟩:=hrel
   simp at hm
   subst hm
   exact .rgmap k ev dv es r clock en (hbk r rfl) hr hl hst (fun j x p h1 h2=>(hrel j x p h1 h2).1) (fun j x p h1 h2=>(hrel j x p h1 h2).2.more hS)
theorem freezeR_val (r:AR):∃ a,freezeR r=.val a:=by
 cases r with
 | val a=>exact ⟨a,rfl⟩
 | new b=>cases b<;>exact ⟨_,rfl⟩
theorem Left.freeze {S S':Blocks} {w w':World} {us:List Value} {rs:List AR} (h:Left S w us rs S' w'):∃ S2,Left S w us (rs.map freezeR) S2 w':=by
 have hnew:∀ (j:Nat) (u:Value) (b:AB) (g:Nat),us[j]?=some u→rs[j]?=some (.new b)→blk u=some g→w.heap.size≤g∧g<w'.heap.size:=by
  intro j u b g hu hb hg
  obtain ⟨h1,h2,h3⟩:RelR S' w' w.heap.size u (.new b):=h.rel j u _ hu hb
  exact ⟨h2 g hg,(h3 0).blk_lt h1 (by simp) hg⟩
 refine ⟨fun g=>S' g∨∃ (j:Nat) (u:Value) (b:AB),us[j]?=some u∧rs[j]?=some (AR.new b)∧blk u=some g,⟨by simp [h.len],fun j u r hu hr=>?_,h.below,fun g hg=>.inl (h.ros g hg),fun g hg=>?_,fun g hg=>?_,fun i u b k hu hb=>?_⟩⟩
 ·rw [List.getElem?_map] at hr
  cases hr0:rs[j]? with
  | none=>rw [hr0] at hr;cases hr
  | some r0 =>
   rw [hr0] at hr
   cases hr
   exact freezeR_rel (h.rel j u r0 hu hr0) (fun g hg=>.inl hg) fun b g e hg=>.inr ⟨j,u,b,hu,by rw [hr0,e],hg⟩
 ·rcases hg with hg | ⟨j,u,b,h1,h2,h3⟩
  ·exact h.fresh g hg
  ·exact .inr (hnew j u b g h1 h2 h3).1
 ·rcases hg with hg | ⟨j,u,b,h1,h2,h3⟩
  ·exact h.lt g hg
  ·exact (hnew j u b g h1 h2 h3).2
 ·rw [List.getElem?_map] at hb
  cases hr0:rs[i]? with
  | none=>rw [hr0] at hb;cases hb
  | some r0 =>
   rw [hr0] at hb
   obtain ⟨a,ha⟩:=freezeR_val r0
   simp [ha] at hb
theorem APure.freeze [Tabs] {P:Program} {f:FuncId} {args:List AV} {R:List AR→Prop} (h:APure P f args R):APure P f args (fun rs'=>∃ rs,R rs∧rs'=rs.map freezeR) :=
 ⟨h.1,fun S w vs hS hT hv=>(h.2 S w vs hS hT hv).mono fun _ _ ⟨us,rs,S',he,hR,hl⟩=>let ⟨S2,hl2⟩:=hl.freeze;⟨us,_,S2,he,⟨rs,hR,rfl⟩,hl2⟩⟩
theorem APure.freeze1 [Tabs] {P:Program} {f:FuncId} {args:List AV} {rs0:List AR} (h:APure P f args (fun rs=>rs=rs0)):APure P f args (fun rs=>rs=rs0.map freezeR) :=
 h.freeze.mono fun rs ⟨rs',e,e'⟩=>by subst e;exact e'
inductive LeR:AR→AR→Prop
 | same (r:AR):LeR r r
 | nil {T:Type} (e E:Nat) (enc:T→AV) (d:T):LeR (.val .nils) (.new (.row e E enc d []))
 | nill (e E:Nat):LeR (.val .nils) (.new (.lst e E []))
 | lst {T:Type} (e E:Nat) (enc:T→AV) (d:T) (l:List AV) (xs:List T) (h:l=xs.map enc):LeR (.new (.lst e E l)) (.new (.row e E enc d xs))
 | nilsl {T:Type} (E:Nat) (enc:T→AV) (d:T):LeR (.val .nils) (.val (.sl E enc d []))
 | lsl {T:Type} (E:Nat) (enc:T→AV) (d:T) (l:List AV) (xs:List T) (h:l=xs.map enc):LeR (.val (.lsl E l)) (.val (.sl E enc d xs))
theorem LeR.rel {S:Blocks} {w:World} {B:Nat} {u:Value} {r r':AR} (h:LeR r r') (hr:RelR S w B u r):RelR S w B u r'∧∀ b',r'=.new b'→∀ k,blk u=some k→∃ b,r=.new b:=by
 cases h with
 | same r=>exact ⟨hr,fun b' e k _=>⟨b',e⟩⟩
 | nil e E enc d =>
  have:u=.slice none 0 0:=by cases hr;rfl
  subst this
  exact ⟨⟨rfl,fun k hk=>by simp [blk] at hk,fun n=>⟨_,[],by simp,⟨World.ownsRow_nil w 0 e E,by simp,by simp [flat],by simp⟩⟩⟩,fun b' _ k hk=>by simp [blk] at hk⟩
 | nill e E =>
  have:u=.slice none 0 0:=by cases hr;rfl
  subst this
  exact ⟨⟨rfl,fun k hk=>by simp [blk] at hk,fun n=>⟨_,[],by simp,⟨World.ownsRow_nil w 0 e E,by simp,by simp [flat],by simp⟩⟩⟩,fun b' _ k hk=>by simp [blk] at hk⟩
 | lst e E enc d l xs h =>
  subst h
  exact ⟨⟨rfl,hr.2.1,fun n=>hr.2.2 n⟩,fun b' _ k _=>⟨_,rfl⟩⟩
 | nilsl E enc d =>
  have:u=.slice none 0 0:=by cases hr;rfl
  subst this
  exact ⟨.sl _ _ _ _ _ (.lslnil E),fun b' e=>by cases e⟩
 | lsl E enc d l xs h =>
  subst h
  exact ⟨.sl _ _ _ _ _ hr,fun b' e=>by cases e⟩
theorem APure.le [Tabs] {P:Program} {f:FuncId} {args:List AV} {R R':List AR→Prop} (h:APure P f args R) (hle:∀ rs,R rs→∃ rs',R' rs'∧rs'.length=rs.length∧∀ (j:Nat) (r r':AR),rs[j]?=some r→rs'[j]?=some r'→LeR r r'):APure P f args R':=by
 refine ⟨h.1,fun S w vs hS hT hv=>(h.2 S w vs hS hT hv).mono fun _ _ ⟨us,rs,S',he,hR,hl⟩=>?_⟩
 obtain ⟨rs',hR',hlen,hr⟩:=hle rs hR
 have get:∀ (j:Nat) (u:Value) (r':AR),us[j]?=some u→rs'[j]?=some r'→∃ r,rs[j]?=some r∧LeR r r':=by
  intro j u r' hu hr'
  obtain ⟨r,hrj⟩:∃ r,rs[j]?=some r:=⟨_,List.getElem?_eq_getElem (by have:=(List.getElem?_eq_some_iff.1 hr').1;omega)⟩
  exact ⟨r,hrj,hr j r r' hrj hr'⟩
 refine ⟨us,rs',S',he,hR',⟨by rw [hlen];exact hl.len,fun j u r' hu hr'=>?_,hl.below,hl.ros,hl.fresh,hl.lt,fun i u b' k hu hb hk=>?_⟩⟩
 ·obtain ⟨r,hrj,hle⟩:=get j u r' hu hr'
  exact (hle.rel (hl.rel j u r hu hrj)).1
 ·obtain ⟨r,hrj,hle⟩:=get i u _ hu hb
  obtain ⟨b,rfl⟩:=(hle.rel (hl.rel i u r hu hrj)).2 b' rfl k hk
  obtain ⟨h1,h2⟩:=hl.apart i u b k hu hrj hk
  refine ⟨h1,fun j u' b'' hu' hb' hk'=>?_⟩
  obtain ⟨r2,hrj2,hle2⟩:=get j u' _ hu' hb'
  obtain ⟨b2,rfl⟩:=(hle2.rel (hl.rel j u' r2 hu' hrj2)).2 b'' rfl k hk'
  exact h2 j u' b2 hu' hrj2 hk'
theorem APure.le1 [Tabs] {P:Program} {f:FuncId} {args:List AV} {r r':AR} (h:APure P f args (fun rs=>rs=[r])) (hle:LeR r r'):APure P f args (fun rs=>rs=[r']) :=
 h.le fun rs e=>⟨[r'],rfl,by subst e;rfl,fun j a b h1 h2=>by
  subst e
  cases j with
  | zero=>simp at h1 h2;subst h1;subst h2;exact hle
  | succ j=>simp at h1⟩
theorem flats_nil:∀ r∈([]:List AR),r.flat:=fun r h=>by simp at h
theorem flats_cons {r:AR} {rs:List AR} (h:r.flat) (t:∀ x∈rs,x.flat):∀ x∈r::rs,x.flat:=fun x hx=>by
 rcases List.mem_cons.1 hx with rfl | hx
 ·exact h
 ·exact t x hx
theorem flat_val (a:AV) (h:a.scal=true):(AR.val a).flat:=h
theorem flat_row {T:Type} {e E:Nat} {enc:T→AV} {d:T} {xs:List T} (h:∀ x,(enc x).scal=true):(AR.new (.row e E enc d xs)).flat:=fun x _=>h x
theorem flat_lst {T:Type} {e E:Nat} {enc:T→AV} {xs:List T} (h:∀ x,(enc x).scal=true):(AR.new (.lst e E (xs.map enc))).flat:=fun y hy=>by
 obtain ⟨x,_,rfl⟩:=List.mem_map.1 hy
 exact h x
theorem lS {H:Heap} {a:AV} (h:a.tree=true):Lend H a a []:=.base (.base (.base (.same _ h)))
theorem lR {T:Type} {H:Heap} {id e E:Nat} {enc:T→AV} {d:T} {xs:List T} (h:lkH H id=.row e E enc d xs):Lend H (.own id) (.sl E enc d xs) [id]:=.base (.base (.base (.row _ _ _ _ _ _ h)))
theorem lL {H:Heap} {id e E:Nat} {l:List AV} (h:lkH H id=.lst e E l):Lend H (.own id) (.lsl E l) [id]:=.base (.base (.base (.lst _ _ _ _ h)))
theorem lM {T:Type} {H:Heap} {id e E:Nat} {l:List AV} {enc:T→AV} {d:T} {xs:List T} (h:lkH H id=.lst e E l) (hl:l=xs.map enc):Lend H (.own id) (.sl E enc d xs) [id]:=.base (.base (.base (.lstrow _ _ _ _ _ _ _ h hl)))
theorem lX {T:Type} {H:Heap} {E:Nat} {l:List AV} {enc:T→AV} {d:T} {xs:List T} (h:l=xs.map enc):Lend H (.lsl E l) (.sl E enc d xs) []:=.base (.base (.base (.lsl _ _ _ _ _ h)))
theorem lN {T:Type} {H:Heap} {E:Nat} {enc:T→AV} {d:T}:Lend H .nils (.sl E enc d []) []:=.base (.base (.base (.nils _ _ _)))
theorem lNl {H:Heap} {E:Nat}:Lend H .nils (.lsl E []) []:=.base (.base (.base (.nill _)))
theorem lSm {V:Type} {H:Heap} {id:Nat} {ev:V→AV} {dv:V} {es:List (List UInt8×V)} (h:lkH H id=.smap ev dv es):Lend H (.map id) (.rsmap ev dv es) [id]:=.base (.base (.base (.smap _ _ _ _ h)))
theorem lIm {V:Type} {H:Heap} {id:Nat} {k:IntKind} {ev:V→AV} {dv:V} {es:List (Int×V)} (h:lkH H id=.imap k ev dv es):Lend H (.map id) (.rimap k ev dv es) [id]:=.base (.base (.base (.imap _ _ _ _ _ h)))
theorem lGm {V:Type} {H:Heap} {id:Nat} {k:List KK} {ev:V→AV} {dv:V} {es:List (List KV×V)} (h:lkH H id=.gmap k ev dv es):Lend H (.map id) (.rgmap k ev dv es) [id]:=.base (.base (.base (.gmap _ _ _ _ _ h)))
theorem borL_same {H:Heap}:∀ {l:List AV},treesB l=true→BorL (Bor1 H (Bor H)) l l []
 | [],_=>.nil
 | a::l,h=>by
  have ha:=treesB_spec h a (List.mem_cons_self)
  have hl:treesB l=true:=by
   unfold treesB at h
   split at h
   ·exact h
   ·cases h
  exact .cons (t:=[]) (t':=[]) (.base (.same _ ha)) (borL_same hl)
theorem lB {H:Heap} {id e:Nat} {l:List AV} (h:lkH H id=.cells e l) (ht:treesB l=true) (h1:allOne l=true):Lend H (.ptr id 0) (.rop l) [id]:=.base (.box id 0 e l l [] h (borL_same ht) (allOne_spec h1))
theorem lP {T:Type} {H:Heap} {id n e E:Nat} {enc:T→AV} {d:T} {xs:List T} (h:lkH H id=.row e E enc d xs):Lend H (.pre id n) (.sl E enc d (xs.take n)) [id]:=.base (.base (.base (.pre _ _ _ _ _ _ _ h)))
theorem lQ {T:Type} {H:Heap} {id off n e E:Nat} {enc:T→AV} {d:T} {xs:List T} (h:lkH H id=.row e E enc d xs):Lend H (.part id E off n) (.sl E enc d ((xs.drop off).take n)) [id]:=.base (.base (.base (.part _ _ _ _ _ _ _ _ h)))
open Go.Proofs Go.Shelf Go.RowKit Go.Sort
def leZ (a b:Int):Bool:=decide (a≤b)
open Go.ChangeShapes Go.WideShapes Go.RowKit
abbrev All (W:World):Blocks:=fun g=>g<W.heap.size
def OpensC (P:Program) (t:TypeId) {X:Type} (enc:X→AV) (ok:X→Prop):Prop :=
 ∀ {H:Type} (ec:TypeId×Value→H) (W:World) (fuel:Nat) (cs:List Value) (x:DataW H×List MemPlace),DataW.trod ec P W 0 (fun _=>true) true fuel t cs=some x →
  ∃ a,ok a∧cs.length=(enc a).cells.length∧(∀ b∈(enc a).cells,b.one=true)∧∀ (j:Nat) (c:Value) (b:AV),cs[j]?=some c→(enc a).cells[j]?=some b→RelT (All W) W c b
theorem row_of_apure [Tabs] {H:Type} {enc:TypeId×Value→H} {P:Program} {fn:Func} {f:FuncId} {s:ChangeSpec} {W:World} {args:Array Value} {ds:List (DataW H)} {before:List MemPlace} {tb:TypeId}
  (hl:laidOutB P=true) (hsv:s.vars=[]) (hW:DataW.Whole enc P fn.params.toList s.vars false W args.toList ds [] before) (hr:∀ t∈fn.params.toList,P.readableRec t=true∧t<P.types.size)
  (hres:fn.resultTypes=#[tb]) (htb:P.underlying tb=some .bool) (hspec:s.fn H (ds++[])={ results:=[.lit (.bool true)],args:=ds }) {avs:List AV} (hTb:TabAt (All W) W) (hA:APureV P f avs (.bool true)) (hT:RelTs (All W) W args.toList avs) :
  Calls P f args W fun e W'=>∃ v,e=.returned v∧s.post enc P fn false true false false W args v W':=by
 have hW':=hW
 obtain ⟨p,q,hAll,hV,hpq,_,_⟩:=hW
 rw [hsv] at hV
 have hq:q=[]:=by simpa [DataW.TrodVars] using hV
 subst hq
 have hlt:∀ x∈p,x.block<W.heap.size:=fun x hx=>by simpa using hW'.lt x (by rw [hpq];simp [hx])
 have carry:∀ (W':World),Below W.heap.size W W'→∀ (ts:List TypeId) (vs:List Value) (ds:List (DataW H)) (p:List MemPlace),(∀ t∈ts,P.readableRec t=true∧t<P.types.size)→(∀ x∈p,x.block<W.heap.size) →
   DataW.TrodAll enc P W 0 (fun _=>true) true ts vs ds p→DataW.TrodAll enc P W' 0 (fun b=>decide (b<W.heap.size)) true ts vs ds p:=by
  intro W' hb ts
  induction ts with
  | nil=>intro vs ds p _ _ h;cases vs<;>cases ds<;>first | exact h | exact h.elim
  | cons t ts ih =>
   intro vs ds p ht hlt h
   cases vs with
   | nil=>exact h.elim
   | cons v vs=>cases ds with
    | nil=>exact h.elim
    | cons d ds =>
     obtain ⟨p1,p2,h1,h2,rfl⟩:=h
     exact ⟨p1,p2,Below.trod hl (ht t (by simp)).1 (ht t (by simp)).2 h1 hb (fun x hx=>hlt x (by simp [hx])),ih vs ds p2 (fun t h=>ht t (by simp [h])) (fun x hx=>hlt x (by simp [hx])) h2,rfl⟩
 have hcall:=hA.2 (All W) W args.toList (fun _ h=>h) hTb hT
 have he:args.toList.toArray=args:=by simp
 rw [he] at hcall
 refine hcall.mono fun e W' ⟨us,rs,S',he,hrs,hL⟩=>?_
 subst hrs
 have hlen:=hL.len
 match us,hlen with
 | [u],_ =>
  have hu:RelT S' W' u (.bool true):=hL.rel 0 u _ rfl rfl
  have hub:u=.bool true:=by cases hu;rfl
  subst hub
  refine ⟨.bool true,he,ds,[],before,[]++[],p,[],hW',?_,?_,?_,hL.below.frame _,fun h=>by cases h⟩
  ·rw [hspec,hres]
   exact trodAll_mk1 (shut_bool htb _)
  ·rw [hspec]
   exact carry W' hL.below _ _ _ _ hr hlt hAll
  ·rw [hspec,hsv]
   rfl
def OpensR (P:Program) (t:TypeId) (n:Nat) (R:List AV→Prop):Prop :=
 P.cellsOf t=n∧∀ {H:Type} (ec:TypeId×Value→H) (W:World) (fuel:Nat) (cs:List Value) (x:DataW H×List MemPlace),DataW.trod ec P W 0 (fun _=>true) true fuel t cs=some x →
  ∃ l,R l∧cs.length=l.length∧l.length=n∧(∀ b∈l,b.one=true)∧∀ (j:Nat) (c:Value) (b:AV),cs[j]?=some c→l[j]?=some b→RelT (All W) W c b
theorem opensR_int {P:Program} {t:TypeId} {k:IntKind} (ht:P.underlying t=some (.int k)) (hc:P.cellsOf t=1):OpensR P t 1 (fun l=>∃ n,(k.min≤n∧n≤k.max)∧l=[.int k n]):=by
 refine ⟨hc,fun ec W fuel cs x h=>?_⟩
 obtain ⟨n,rfl,_,hw⟩:=DataW.trod_int ht h
 simp only [Lit.wf,Bool.and_eq_true,decide_eq_true_eq] at hw
 refine ⟨_,⟨n,hw,rfl⟩,rfl,rfl,by simp [AV.one],fun j c b hj hb=>?_⟩
 cases j with
 | zero=>simp at hj hb;subst hj;subst hb;exact .int _ _
 | succ j=>simp at hj
theorem opensR_bool {P:Program} {t:TypeId} (ht:P.underlying t=some .bool) (hc:P.cellsOf t=1):OpensR P t 1 (fun l=>∃ b,l=[.bool b]):=by
 refine ⟨hc,fun ec W fuel cs x h=>?_⟩
 obtain ⟨n,rfl,_⟩:=DataW.trod_bool ht h
 refine ⟨_,⟨n,rfl⟩,rfl,rfl,by simp [AV.one],fun j c b hj hb=>?_⟩
 cases j with
 | zero=>simp at hj hb;subst hj;subst hb;exact .bool _
 | succ j=>simp at hj
theorem opensR_str {P:Program} {t:TypeId} (ht:P.underlying t=some .string) (hc:P.cellsOf t=1):OpensR P t 1 (fun l=>∃ s:List UInt8,s.length≤9223372036854775807∧l=[.str s]):=by
 refine ⟨hc,fun ec W fuel cs x h=>?_⟩
 obtain ⟨s,rfl,_,hs⟩:=DataW.trod_string ht h
 have hs':s.data.toList.length≤9223372036854775807:=by
  show s.size≤_
  unfold maxLen at hs
  omega
 refine ⟨_,⟨s.data.toList,hs',rfl⟩,rfl,rfl,by simp [AV.one],fun j c b hj hb=>?_⟩
 cases j with
 | zero=>simp at hj hb;subst hj;subst hb;exact .str _ _ rfl
 | succ j=>simp at hj
def FieldsR (P:Program):Nat→List Field→List (Nat×(List AV→Prop))→Nat→Prop
 | off,[],[],n=>off=n
 | off,f::fs,(k,R)::Rs,n=>f.offset=off∧OpensR P f.type k R∧FieldsR P (off+k) fs Rs n
 | _,_,_,_=>False
def StrR:List (Nat×(List AV→Prop))→List AV→Prop
 | [],l=>l=[]
 | (_,R)::Rs,l=>∃ l1 l2,R l1∧StrR Rs l2∧l=l1++l2
theorem opensR_struct {P:Program} {t:TypeId} {fs:Array Field} {n:Nat} {Rs:List (Nat×(List AV→Prop))} (ht:P.underlying t=some (.struct fs)) (hc:P.cellsOf t=n) (hf:FieldsR P 0 fs.toList Rs n):OpensR P t n (StrR Rs):=by
 refine ⟨hc,fun {H} ec W fuel cs x h=>?_⟩
 obtain ⟨xs,m,_,_,hl,hlen,hfs⟩:=DataW.trod_struct ht h
 rw [hc] at hl
 have key:∀ (gs:List Field) (Rs:List (Nat×(List AV→Prop))) (off i:Nat),FieldsR P off gs Rs n→(∀ j,gs[j]?=fs[i+j]?)→off≤n →
   ∃ l,StrR Rs l∧off+l.length=n∧(∀ b∈l,b.one=true)∧∀ (j:Nat) (c:Value) (b:AV),cs[off+j]?=some c→l[j]?=some b→RelT (All W) W c b:=by
  intro gs
  induction gs with
  | nil =>
   intro Rs off i hF _ _
   cases Rs with
   | nil =>
    have:off=n:=hF
    exact ⟨[],rfl,by simpa using this,by simp,fun j c b _ h=>by simp at h⟩
   | cons p Rs=>exact hF.elim
  | cons f gs ih =>
   intro Rs off i hF hg hoff
   cases Rs with
   | nil=>exact hF.elim
   | cons p Rs =>
    obtain ⟨k,R⟩:=p
    obtain ⟨ho,⟨hck,hR⟩,hrest⟩:=hF
    have hfi:fs[i]?=some f:=by
     have:=hg 0
     simpa using this.symm
    have hi:=hfs i f hfi
    have hil:i<xs.length:=by
     rw [hlen]
     exact (Array.getElem?_eq_some_iff.1 hfi).1
    rw [List.getElem?_eq_getElem hil] at hi
    obtain ⟨l1,h1,h2,h3,h4,h5⟩:=hR ec W m _ _ hi
    have hk:k≤n-off:=by
     rw [ho,hck] at h2
     simp at h2
     omega
    obtain ⟨l2,g1,g2,g3,g4⟩:=ih Rs (off+k) (i+1) hrest (fun j=>by
     have:=hg (j+1)
     rw [List.getElem?_cons_succ] at this
     rw [this]
     congr 1
     omega) (by omega)
    refine ⟨l1++l2,⟨l1,l2,h1,g1,rfl⟩,by simp;omega,fun b hb=>?_,fun j c b hj hb=>?_⟩
    ·rcases List.mem_append.1 hb with hb | hb
     ·exact h4 b hb
     ·exact g3 b hb
    ·by_cases hjk:j<k
     ·rw [List.getElem?_append_left (by omega)] at hb
      refine h5 j c b ?_ hb
      rw [ho,hck]
      simp [hjk,hj]
     ·rw [List.getElem?_append_right (by omega)] at hb
      refine g4 (j-k) c b ?_ (by rw [h3] at hb;exact hb)
      rw [← hj]
      congr 1
      omega
 obtain ⟨l,h1,h2,h3,h4⟩:=key fs.toList Rs 0 0 hf (fun j=>by simp) (Nat.zero_le _)
 exact ⟨l,h1,by omega,by omega,h3,fun j c b hj hb=>h4 j c b (by rw [Nat.zero_add];exact hj) hb⟩
theorem OpensR.mono {P:Program} {t:TypeId} {n:Nat} {R R':List AV→Prop} (h:OpensR P t n R) (hR:∀ l,R l→R' l):OpensR P t n R' :=
 ⟨h.1,fun ec W fuel cs x hx=>let ⟨l,h1,h2⟩:=h.2 ec W fuel cs x hx;⟨l,hR l h1,h2⟩⟩
theorem cell_block {W:World} {a:Addr} {c:Value} (h:W.cell? a=some c):a.block<W.heap.size∧a.spot=none:=by
 unfold World.cell? at h
 split at h
 ·rename_i hb
  refine ⟨(Array.getElem?_eq_some_iff.1 hb).1,?_⟩
  cases hs:a.spot with
  | none=>rfl
  | some s=>rw [hs] at h;simp at h
 ·cases h
theorem addr_eta {a:Addr} (h:a.spot=none):a=⟨a.block,a.off,none⟩:=by
 cases a;simp at h;subst h;rfl
theorem opensR_slice {P:Program} {t e:TypeId} {E:Nat} {R:List AV→Prop} {X:Type} [Inhabited X] {enc:X→AV} {ok:X→Prop} (d0:X) (ht:P.underlying t=some (.slice e)) (hc:P.cellsOf t=1) (ho:OpensR P e E R) (hpos:0<E)
  (hX:∀ l,R l→∃ a,ok a∧(enc a).cells=l) (hE1:∀ a,(enc a).cells.length=E) :
  OpensR P t 1 (fun l=>∃ xs:List X,(∀ a∈xs,ok a)∧xs.length≤9223372036854775807∧l=[.sl E enc d0 xs]):=by
 refine ⟨hc,fun {H} ec W fuel cs x h=>?_⟩
 have fin:∀ {v:Value} {xs:List X},(∀ a∈xs,ok a)→xs.length≤9223372036854775807→RelT (All W) W v (.lsl E (xs.map enc))→cs=[v] →
   ∃ l,(∃ xs:List X,(∀ a∈xs,ok a)∧xs.length≤9223372036854775807∧l=[.sl E enc d0 xs])∧cs.length=l.length∧l.length=1∧(∀ b∈l,b.one=true)∧∀ (j:Nat) (c:Value) (b:AV),cs[j]?=some c→l[j]?=some b→RelT (All W) W c b:=by
  intro v xs h1 h2 h3 hcs
  refine ⟨_,⟨xs,h1,h2,rfl⟩,by rw [hcs];rfl,rfl,by simp [AV.one],fun j c b hj hb=>?_⟩
  rw [hcs] at hj
  cases j with
  | zero=>simp at hj hb;subst hj;subst hb;exact .sl _ _ _ _ _ h3
  | succ j=>simp at hj
 rcases Deep.open_slice ht h with ⟨hcs,_⟩ | ⟨a,len,cap,m,n,D,Pl,hcs,hb,hl,hm,hmm,_,hel⟩
 ·exact fin (xs:=[]) (by simp) (by simp) (.lslnil E) hcs
 ·simp only [if_true] at hmm
  subst hmm
  rw [ho.1] at hel
  by_cases hm0:m=0
  ·have hl0:len=0:=by omega
   subst hm0
   subst hl0
   exact fin (xs:=[]) (by simp) (by simp) (.lslz E a) hcs
  obtain ⟨c0,h0,_⟩:=hel 0 (by omega)
  obtain ⟨_,hlen0,hget0⟩:=World.cells?_some h0
  have hcell0:W.cell? a=some (c0[0]'(by omega)):=by
   have:=hget0 0 hpos
   rw [List.getElem?_eq_getElem (by omega)] at this
   simpa [Addr.add] using this
  obtain ⟨hlt,hspot⟩:=cell_block hcell0
  rw [addr_eta hspot] at hcs hel
  generalize a.block=g at *
  generalize a.off=o at *
  obtain ⟨A,hA⟩:=Deep.choose_lt (α:=X) (n:=len) (p:=fun i x=>ok x∧∃ cs',W.cells? 0 ((⟨g,o,none⟩:Addr).add (i*E)) E=some cs'∧cs'.length=(enc x).cells.length∧(∀ b∈(enc x).cells,b.one=true) ∧
    ∀ (j:Nat) (c:Value) (b:AV),cs'[j]?=some c→(enc x).cells[j]?=some b→RelT (All W) W c b) (fun i hi=>by
   obtain ⟨cs',h1,h2⟩:=hel i (by omega)
   obtain ⟨l,q1,q2,_,q3,q4⟩:=ho.2 ec W n cs' _ h2
   obtain ⟨x,hx,rfl⟩:=hX l q1
   exact ⟨x,hx,cs',h1,q2,q3,q4⟩)
  have cell:∀ i,i<len→∀ j,j<E→∃ c b,W.cell? ⟨g,o+(i*E+j),none⟩=some c∧(enc (A i)).cells[j]?=some b∧RelT (All W) W c b:=by
   intro i hi j hj
   obtain ⟨_,cs',h1,h2,_,h4⟩:=hA i hi
   obtain ⟨_,hlen,hget⟩:=World.cells?_some h1
   have hc:=hget j hj
   have hcj:cs'[j]?=some (cs'[j]'(by omega)):=List.getElem?_eq_getElem (by omega)
   have hbj:(enc (A i)).cells[j]?=some ((enc (A i)).cells[j]'(by rw [hE1];exact hj)):=List.getElem?_eq_getElem _
   refine ⟨_,_,?_,hbj,h4 j _ _ hcj hbj⟩
   rw [hcj,Deep.add_add] at hc
   have e:(⟨g,o+(i*E+j),none⟩:Addr)=(⟨g,o,none⟩:Addr).add (i*E+j):=by
    unfold Addr.add
    split
    ·rename_i h0;rw [h0];rfl
    ·rfl
   rw [e]
   exact hc
  have hsz:∀ x∈((List.range len).map A).map enc,x.cells.length=E:=by
   intro x hx
   obtain ⟨y,_,rfl⟩:=List.mem_map.1 hx
   exact hE1 y
  have split:∀ q,q<len*E→q / E<len∧q % E<E∧q=q / E*E+q % E:=by
   intro q hq
   refine ⟨Nat.div_lt_of_lt_mul (by rw [Nat.mul_comm];exact hq),Nat.mod_lt _ hpos,?_⟩
   have:=Nat.div_add_mod q E
   rw [Nat.mul_comm] at this
   omega
  have hflat:∀ i,i<len→∀ j,j<E→(flat (((List.range len).map A).map enc))[i*E+j]?=(enc (A i)).cells[j]?:=by
   intro i hi j hj
   exact flat_get _ hsz i j _ (by simp [hi]) hj
  refine fin (v:=.slice (some ⟨g,o,none⟩) len m) (xs:=(List.range len).map A) (fun x hx=>?_) (by simp;unfold maxLen at hm;omega) ?_ hcs
  ·obtain ⟨i,hi,rfl⟩:=List.mem_map.1 hx
   exact (hA i (List.mem_range.1 hi)).1
  ·have hL:(((List.range len).map A).map enc).length=len:=by simp
   have:=RelT.lsl (S:=All W) (w:=W) E (((List.range len).map A).map enc) g o m ((List.range (len*E)).map fun q=>(W.cell? ⟨g,o+q,none⟩).getD undef) hlt (by rw [hL];exact hl) hsz (fun b hb=>?_) (by simp) (fun j c hj=>?_) (fun j c b hj hb=>?_)
   ·rw [hL] at this
    exact this
   ·obtain ⟨x,hx,hbx⟩:=List.mem_flatMap.1 hb
    obtain ⟨y,hy,rfl⟩:=List.mem_map.1 hx
    obtain ⟨i,hi,rfl⟩:=List.mem_map.1 hy
    obtain ⟨_,_,_,_,h3,_⟩:=hA i (List.mem_range.1 hi)
    exact h3 b hbx
   ·have hq:j<len*E:=by
     have:=(List.getElem?_eq_some_iff.1 hj).1
     simpa using this
    obtain ⟨s1,s2,s3⟩:=split j hq
    obtain ⟨c',b',h1,_,_⟩:=cell _ s1 _ s2
    rw [← s3] at h1
    simp [hq,h1] at hj
    rw [h1,hj]
   ·have hq:j<len*E:=by
     have:=(List.getElem?_eq_some_iff.1 hj).1
     simpa using this
    obtain ⟨s1,s2,s3⟩:=split j hq
    obtain ⟨c',b',h1,h2,h3⟩:=cell _ s1 _ s2
    have hf:=hflat _ s1 _ s2
    rw [← s3] at h1 hf
    rw [hf,h2] at hb
    cases hb
    simp [hq,h1] at hj
    subst hj
    exact h3
def OpV (P:Program) (t:TypeId) (Q:AV→Prop):Prop :=
 ∀ {H:Type} {ec:TypeId×Value→H} {W:World} {base:Nat} {v:Value} {d:DataW H} {ps:List MemPlace},Value.okWide P W .any base t v→DataW.Trod ec P W 0 (fun _=>true) true t v d ps→∃ a,Q a∧RelT (All W) W v a
theorem OpV.mono {P:Program} {t:TypeId} {Q Q':AV→Prop} (h:OpV P t Q) (hQ:∀ a,Q a→Q' a):OpV P t Q':=fun h1 h2=>let ⟨a,q,r⟩:=h h1 h2;⟨a,hQ a q,r⟩
theorem opV_int {P:Program} {t:TypeId} {k:IntKind} (ht:P.underlying t=some (.int k)):OpV P t (fun a=>∃ n,(k.min≤n∧n≤k.max)∧a=.int k n):=by
 intro H ec W base v d ps hv hd
 obtain ⟨n,rfl,_,_,hw⟩:=open_int ht hv hd
 simp only [Lit.wf,Bool.and_eq_true,decide_eq_true_eq] at hw
 exact ⟨_,⟨n,hw,rfl⟩,.int _ _⟩
theorem opV_str {P:Program} {t:TypeId} (ht:P.underlying t=some .string):OpV P t (fun a=>∃ s:List UInt8,s.length≤9223372036854775807∧a=.str s):=by
 intro H ec W base v d ps hv hd
 obtain ⟨s,rfl⟩:=okWide_string ht hv
 obtain ⟨fuel,hf⟩:=hd
 obtain ⟨s',h,_,hs⟩:=DataW.trod_string ht hf
 simp [Value.cells] at h
 subst h
 exact ⟨_,⟨s.data.toList,by show s.size≤_;unfold maxLen at hs;omega,rfl⟩,.str _ _ rfl⟩
theorem opV_struct {P:Program} {t:TypeId} {fs:Array Field} {n:Nat} {R:List AV→Prop} (ht:P.underlying t=some (.struct fs)) (h:OpensR P t n R):OpV P t (fun a=>∃ l,R l∧a=.agg l):=by
 intro H ec W base v d ps hv hd
 obtain ⟨cs,rfl,_⟩:=okWide_struct ht hv
 obtain ⟨fuel,hf⟩:=hd
 obtain ⟨l,hx,h1,_,_,hr⟩:=h.2 ec W fuel _ _ hf
 exact ⟨_,⟨l,hx,rfl⟩,.agg cs l (by simpa [Value.cells] using h1) fun j c b hj hb=>hr j c b (by simpa [Value.cells] using hj) hb⟩
def OpVs (P:Program):List TypeId→List (AV→Prop)→Prop
 | [],[]=>True
 | t::ts,Q::Qs=>OpV P t Q∧OpVs P ts Qs
 | _,_=>False
def Alls:List (AV→Prop)→List AV→Prop
 | [],[]=>True
 | Q::Qs,a::l=>Q a∧Alls Qs l
 | _,_=>False
theorem opens_list {P:Program} {H:Type} {ec:TypeId×Value→H} {W:World} {base:Nat}:∀ (ts:List TypeId) (Qs:List (AV→Prop)) (vs:List Value) (ds:List (DataW H)) (ps:List MemPlace),OpVs P ts Qs →
  (∀ (j:Nat) t v,ts[j]?=some t→vs[j]?=some v→Value.okWide P W .any base t v)→DataW.TrodAll ec P W 0 (fun _=>true) true ts vs ds ps→∃ avs,Alls Qs avs∧RelTs (All W) W vs avs
 | [],[],vs,ds,ps,_,_,h=>by
  obtain ⟨rfl,_,_⟩:=trodAll_nil h
  exact ⟨[],trivial,rfl,fun j v a h=>by simp at h⟩
 | [],_::_,_,_,_,h,_,_=>h.elim
 | _::_,[],_,_,_,h,_,_=>h.elim
 | t::ts,Q::Qs,vs,ds,ps,hO,hv,h=>by
  obtain ⟨v,vs',d,ds',p,q,rfl,rfl,rfl,h1,h2⟩:=trodAll_cons h
  obtain ⟨a,ha,hr⟩:=hO.1 (hv 0 t v rfl rfl) h1
  obtain ⟨avs,hA,hR⟩:=opens_list ts Qs vs' ds' q hO.2 (fun j t v h1 h2=>hv (j+1) t v (by simpa using h1) (by simpa using h2)) h2
  refine ⟨a::avs,⟨ha,hA⟩,by simp [hR.1],fun j v' a' h1 h2=>?_⟩
  cases j with
  | zero=>simp at h1 h2;subst h1;subst h2;exact hr
  | succ j=>exact hR.2 j v' a' (by simpa using h1) (by simpa using h2)
theorem alls_cons {Q:AV→Prop} {Qs:List (AV→Prop)} {l:List AV} (h:Alls (Q::Qs) l):∃ a l',l=a::l'∧Q a∧Alls Qs l':=by
 cases l with
 | nil=>exact h.elim
 | cons a l=>exact ⟨a,l,rfl,h.1,h.2⟩
theorem alls_nil {l:List AV} (h:Alls [] l):l=[]:=by
 cases l with
 | nil=>rfl
 | cons a l=>exact h.elim
open Go.RowKit Go.Maps Go.Sort Go.Shelf Go.Proofs
def keysS {V:Type} (es:List (List UInt8×V)):List (List UInt8):=(es.map (·.1)).mergeSort (fun x y=>decide (x≤y))
def keysI {V:Type} (es:List (Int×V)):List Int:=(es.map (·.1)).mergeSort leI
theorem LeT.lsl {E:Nat} {l r:List AV} (hlen:r.length=l.length) (hE:∀ x∈r,x.cells.length=E) (h1:∀ a∈flat r,a.one=true) (h:LeTs (flat l) (flat r)):LeT (.lsl E l) (.lsl E r):=fun S w v hr=>by
 have e0:l=[]→r=[]:=fun e=>List.eq_nil_of_length_eq_zero (by rw [hlen,e];rfl)
 cases hr with
 | lslnil=>rw [e0 rfl];exact .lslnil E
 | lslz _ a=>rw [e0 rfl];exact .lslz E a
 | lsl _ _ g o cap cs hs hcap hE' h1' hl hc hrel =>
  rw [← hlen]
  exact .lsl E r g o cap cs hs (by rw [hlen];exact hcap) hE h1 (by rw [hlen];exact hl) hc (fun j c b hj hb=>by
   obtain ⟨a,ha,hab⟩:=h.get hb
   exact hab S w c (hrel j c a hj ha))
theorem APure.leT [Tabs] {P:Program} {f:FuncId} {args:List AV} {a b:AV} (h:APure P f args (fun rs=>rs=[.val a])) (hl:LeT a b):APure P f args (fun rs=>rs=[.val b]):=by
 refine ⟨h.1,fun S w vs hS hT hv=>(h.2 S w vs hS hT hv).mono fun _ _ ⟨us,rs,S',he,hR,hL⟩=>⟨us,[.val b],S',he,rfl,?_⟩⟩
 subst hR
 refine ⟨hL.len,fun j u r hu hr=>?_,hL.below,hL.ros,hL.fresh,hL.lt,fun i u b' k hu hb hk=>?_⟩
 ·cases j with
  | zero =>
   simp at hr
   subst hr
   exact hl _ _ _ (hL.rel 0 u _ hu rfl)
  | succ j=>simp at hr
 ·cases i with
  | zero=>simp at hb
  | succ i=>simp at hb
def numH:List AB→Nat→Heap
 | [],_=>[]
 | b::bs,i=>(i,b)::numH bs (i+1)
theorem lkH_numH:∀ (bs:List AB) (i j:Nat),lkH (numH bs i) j=if i≤j then bs.getD (j-i) .dead else .dead
 | [],i,j=>by simp [numH,lkH]
 | b::bs,i,j=>by
  rw [numH,lkH_cons,lkH_numH bs (i+1) j]
  by_cases h1:i=j
  ·subst h1;simp
  ·rw [if_neg h1]
   by_cases h2:i≤j
   ·rw [if_pos h2,if_pos (by omega)]
    obtain ⟨q,hq⟩:∃ q,j-i=q+1:=⟨j-i-1,by omega⟩
    rw [hq,show j-(i+1)=q by omega]
    simp
   ·rw [if_neg h2,if_neg (by omega)]
theorem lkH_num0 (bs:List AB) (j:Nat):lkH (numH bs 0) j=bs.getD j .dead:=by
 rw [lkH_numH,if_pos (Nat.zero_le _),Nat.sub_zero]
def livesB:List AB→Bool
 | []=>true
 | b::bs=>match b.live&&b.trees with
  | true=>livesB bs
  | false=>false
theorem livesB_spec:∀ {bs:List AB},livesB bs=true→∀ b∈bs,b.live=true∧b.trees=true
 | [],_,b,h=>by simp at h
 | a::bs,h,b,hb=>by
  unfold livesB at h
  split at h
  ·rename_i ha
   rw [Bool.and_eq_true] at ha
   rcases List.mem_cons.1 hb with rfl | hb
   ·exact ha
   ·exact livesB_spec h b hb
  ·cases h
structure LeftIO [Tabs] (m:Ids) (S:Blocks) (w:World) (bs:List AB) (us:List Value) (rs:List AR) (bs':List AB) (S':Blocks) (w':World):Prop where
 len:us.length=rs.length
 blen:bs'.length=bs.length
 lives:livesB bs'=true
 rel:∀ (j:Nat) (u:Value) (r:AR),us[j]?=some u→rs[j]?=some r→RelR S' w' w.heap.size u r
 far:Far (own m (numH bs 0)) w w'
 ros:∀ g,S g→S' g
 fresh:∀ g,S' g→S g∨w.heap.size≤g
 good:Good m S' w' (numH bs' 0)
 apart:∀ (i:Nat) (u:Value) (b:AB) (k:Nat),us[i]?=some u→rs[i]?=some (.new b)→blk u=some k→¬ S' k∧∀ (j:Nat) (u':Value) (b':AB),us[j]?=some u'→rs[j]?=some (.new b')→blk u'=some k→i=j
def AIO [Tabs] (P:Program) (f:FuncId) (args:List AV) (bs:List AB) (R:List AB→List AR→Prop):Prop :=
 FnOk P f∧∀ (m:Ids) (S:Blocks) (w:World) (vs:List Value),Good m S w (numH bs 0)→(∀ i,bs.length≤i→m i=none)→vs.length=args.length →
  (∀ (j:Nat) (v:Value) (a:AV),vs[j]?=some v→args[j]?=some a→RelV m S w v a) →
  Calls P f vs.toArray w fun e w'=>∃ us rs bs' S',e=.returned (retVal us)∧R bs' rs∧LeftIO m S w bs us rs bs' S' w'
theorem AIO.mono [Tabs] {P:Program} {f:FuncId} {args:List AV} {bs:List AB} {R R':List AB→List AR→Prop} (h:AIO P f args bs R) (hr:∀ b rs,R b rs→R' b rs):AIO P f args bs R' :=
 ⟨h.1,fun m S w vs h1 h2 h3 h4=>(h.2 m S w vs h1 h2 h3 h4).mono fun _ _ ⟨us,rs,b,S',he,hR,hl⟩=>⟨us,rs,b,S',he,hr _ _ hR,hl⟩⟩
def ioK (H:Heap):Nat→Nat→List AB→(List AB→Prop)→Prop
 | 0,_,acc,k=>k acc.reverse
 | n+1,i,acc,k=>match (lkH H i).live&&(lkH H i).trees with
  | true=>ioK H n (i+1) (lkH H i::acc) k
  | false=>False
def usedN:Nat→List Nat
 | 0=>[]
 | n+1=>n::usedN n
theorem usedN_mem:∀ {n i:Nat},i∈usedN n↔i<n
 | 0,i=>by simp [usedN]
 | n+1,i=>by rw [usedN,List.mem_cons,usedN_mem];omega
theorem ioK_sound (H:Heap):∀ (n i:Nat) (acc:List AB) (k:List AB→Prop),ioK H n i acc k→∃ bs,k (acc.reverse++bs)∧bs.length=n∧livesB bs=true∧∀ j,j<n→bs.getD j .dead=lkH H (i+j)
 | 0,i,acc,k,h=>⟨[],by simpa [ioK] using h,rfl,rfl,fun j hj=>by omega⟩
 | n+1,i,acc,k,h=>by
  unfold ioK at h
  split at h
  ·rename_i hb
   obtain ⟨bs,h1,h2,h3,h4⟩:=ioK_sound H n (i+1) _ k h
   refine ⟨lkH H i::bs,by simpa using h1,by simp [h2],by unfold livesB;rw [hb];exact h3,fun j hj=>?_⟩
   cases j with
   | zero=>simp
   | succ j =>
    rw [List.getD_cons_succ,h4 j (by omega)]
    congr 1
    omega
  ·exact h.elim
def retIO (T:Tab) (rs:Array ResultVar) (n:Nat) (R:List AB→List AR→Prop):Exit→St→Prop
 | .normal,st=>ioK st.heap n 0 [] fun bs=>resK T rs.toList st [] (usedN n) fun rs=>R bs rs
 | .ret,st=>ioK st.heap n 0 [] fun bs=>resK T rs.toList st [] (usedN n) fun rs=>R bs rs
 | _,_=>False
theorem live_some {m:Ids} {S:Blocks} {w:World} {id:Nat} {b:AB} (h:RelB m S w id b) (hl:b.live=true):∃ v,m id=some v:=by
 cases b with
 | dead=>simp [AB.live] at hl
 | cells e l=>obtain ⟨g,cs,hm,_⟩:=h;exact ⟨_,hm⟩
 | lst e E l=>obtain ⟨v,vs,hm,_⟩:=h;exact ⟨_,hm⟩
 | row e E enc d xs=>obtain ⟨v,vs,hm,_⟩:=h;exact ⟨_,hm⟩
 | smap ev dv es=>obtain ⟨r,en,c,hm,_⟩:=h;exact ⟨_,hm⟩
 | imap k ev dv es=>obtain ⟨r,en,c,hm,_⟩:=h;exact ⟨_,hm⟩
 | gmap k ev dv es=>obtain ⟨r,en,c,hm,_⟩:=h;exact ⟨_,hm⟩
 | arr e k n f=>obtain ⟨g,cs,hm,_⟩:=h;exact ⟨_,hm⟩
 | que e E enc d xs=>obtain ⟨g,o,cap,cur,hm,_⟩:=h;exact ⟨_,hm⟩
theorem getD_ge {bs:List AB} {i:Nat} (h:bs.length≤i):bs.getD i .dead=.dead:=by
 rw [List.getD_eq_getElem?_getD,List.getElem?_eq_none h]
 rfl
theorem getD_lt_mem {bs:List AB} {i:Nat} (h:i<bs.length):bs.getD i .dead∈bs:=by
 rw [List.getD_eq_getElem?_getD,List.getElem?_eq_getElem h]
 exact List.getElem_mem h
theorem aio_of [Tabs] {C : Cx} (hT : CxOk C) {f : FuncId} {fn : Func} {code : Code} {args : List AV} {bs : List AB} {R : List AB → List AR → Prop} (hf : C.P.funcs[f]? = some fn) (hb : fn.body = some code) (hname : (fn.name == "runtime.NumGoroutine") = false)
  (hN:C.N=fn.ntmps) (hle:args.length≤fn.ntmps) (hres:fn.results.size≤4) (hlive:livesB bs=true) (hpn:C.pn=bs.length) (h:evCode C code ⟨argEnv args 0,numH bs 0,bs.length⟩ (retIO C.T fn.results bs.length R)) (hpx:∀ ch,¬ C.px ch:=by exact fun _ h=>h):AIO C.P f args bs R:=by
 refine ⟨⟨fn,hf,by rw [hb];rfl,hname⟩,fun m S w vs hG hfree hlen hrel=>calls_of_wp hf hb ?_⟩
 let F:Fr:=⟨w,own m (numH bs 0),S,m,[]⟩
 have hfits:F.fits C.pn:=fun i v hi=>by
  rw [hpn]
  cases Nat.lt_or_ge i bs.length with
  | inl h=>exact h
  | inr h =>
   have:m i=some v:=hi
   rw [hfree i h] at this
   cases this
 have hrel0:Rel F C.N ⟨argEnv args 0,numH bs 0,bs.length⟩ { tmps:=vs.toArray++Array.replicate (fn.ntmps-vs.toArray.size) undef,defers:=[] } w:=by
  refine ⟨m,S,⟨hG,fun i hi=>hfree i hi,Far.refl _ _,fun k hk=>.inl hk,fun g hg=>.inl hg,fun g hg=>hg,fun i v hi=>hi⟩,by simp;omega,rfl,fun s=>?_⟩
  rw [lk_argEnv,if_pos (Nat.zero_le _),Nat.sub_zero]
  by_cases hs:s<args.length
  ·have h1:args[s]?=some (args.getD s .undef):=by simp [List.getD,List.getElem?_eq_getElem hs]
   have h2:vs[s]?=some ((vs.toArray++Array.replicate (fn.ntmps-vs.toArray.size) undef).getD s undef):=by
    have:s<vs.length:=by omega
    simp [Array.getElem?_append,this]
   exact hrel s _ _ h2 h1
  ·have:args.getD s .undef=.undef:=by simp [List.getD,List.getElem?_eq_none (by omega:args.length≤s)]
   rw [this]
   exact .t _ _ (.undef _)
 refine wp_mono (evCode_sound hT (F:=F) hfits code _ _ h _ w hrel0) fun e a' w' ⟨st',⟨m',S',hc,hs,hd,hr⟩,hq⟩=>?_
 have fin:(ioK st'.heap bs.length 0 [] fun bs'=>resK C.T fn.results.toList st' [] (usedN bs.length) fun rs=>R bs' rs)→a'.defers=[]∧∃ v,(results fn a'.tmps).run C.P w'=.ok v w'∧∃ us rs bs' S',Ending.returned v=.returned (retVal us)∧R bs' rs∧LeftIO m S w bs us rs bs' S' w':=by
  intro hq
  obtain ⟨bs',hq,hbl,hbv,hbe⟩:=ioK_sound _ _ _ _ _ hq
  rw [List.reverse_nil,List.nil_append] at hq
  obtain ⟨rs,ids,h1,h2,h3,h4,h5,h6,h7⟩:=resK_sound hT.tab hc.good hr _ _ _ _ hq
  have hlenv:(slotVals C.P fn.results.toList a' w').length=rs.length:=by rw [h2];simp [slotVals]
  -- the handed objects,now
  have hbi:∀ i,i<bs.length→(bs'.getD i .dead).live=true∧(bs'.getD i .dead).trees=true∧lkH st'.heap i=bs'.getD i .dead:=fun i hi=>by
   have hm:=getD_lt_mem (bs:=bs') (i:=i) (by omega)
   have:=livesB_spec hbv _ hm
   refine ⟨this.1,this.2,?_⟩
   have:=hbe i hi
   rw [Nat.zero_add] at this
   exact this.symm
  have hmi:∀ i,i<bs.length→∃ v,m i=some v∧m' i=some v:=fun i hi=>by
   have hl:=(livesB_spec hlive _ (getD_lt_mem (bs:=bs) hi)).1
   have hrb:=hG.rel i
   rw [lkH_num0] at hrb
   obtain ⟨v,hv⟩:=live_some hrb hl
   exact ⟨v,hv,hc.pins i v hv⟩
  have hS':∀ g,S' g→S g∨w.heap.size≤g:=fun g hg=>by
   rcases hc.ro g hg with h | h | h
   ·exact .inl h
   ·exfalso
    obtain ⟨i,v,hl,hv,hk⟩:=h
    have hi:i<bs.length:=by
     cases Nat.lt_or_ge i bs.length with
     | inl h=>exact h
     | inr h=>rw [hfree i h] at hv;cases hv
    obtain ⟨v1,e1,e2⟩:=hmi i hi
    rw [e1] at hv
    cases hv
    obtain ⟨b1,_,b3⟩:=hbi i hi
    exact (hc.good.ro g hg).2 i v (by rw [b3];exact b1) e2 hk
   ·exact .inr h
  have hgood:Good m S' w' (numH bs' 0):=by
   have lv:∀ i,(lkH (numH bs' 0) i).live=true→i<bs.length:=fun i hl=>by
    cases Nat.lt_or_ge i bs.length with
    | inl h=>exact h
    | inr h=>rw [lkH_num0,getD_ge (by omega)] at hl;cases hl
   have up:∀ i v,(lkH (numH bs' 0) i).live=true→m i=some v→(lkH st'.heap i).live=true∧m' i=some v:=fun i v hl hv=>by
    have hi:=lv i hl
    obtain ⟨v1,e1,e2⟩:=hmi i hi
    rw [e1] at hv
    cases hv
    rw [(hbi i hi).2.2]
    exact ⟨(hbi i hi).1,e2⟩
   refine ⟨fun i=>?_,fun i j vi vj k hli hlj hvi hvj hki hkj=>?_,fun g hg=>⟨(hc.good.ro g hg).1,fun i v hl hv=>?_⟩,hc.good.tab⟩
   ·cases Nat.lt_or_ge i bs.length with
    | inl hi =>
     obtain ⟨v,e1,e2⟩:=hmi i hi
     obtain ⟨b1,b2,b3⟩:=hbi i hi
     have hrb:=hc.good.rel i
     rw [b3] at hrb
     rw [lkH_num0]
     exact relB_move hrb e2 e1 b2
    | inr hi=>rw [lkH_num0,getD_ge (by omega)];trivial
   ·obtain ⟨l1,e1⟩:=up i vi hli hvi
    obtain ⟨l2,e2⟩:=up j vj hlj hvj
    exact hc.good.sep i j vi vj k l1 l2 e1 e2 hki hkj
   ·obtain ⟨l1,e1⟩:=up i v hl hv
    exact (hc.good.ro g hg).2 i v l1 e1
  refine ⟨hd,_,run_results h7 hres,slotVals C.P fn.results.toList a' w',rs,bs',S',rfl,by simpa using h1,⟨hlenv,hbl,hbv,fun j u r hu hr'=>?_,hc.far,hc.ro0,hS',hgood,fun i u b k hu hb hk=>?_⟩⟩
  ·obtain ⟨o,ho⟩:∃ o,ids[j]?=some o:=⟨_,List.getElem?_eq_getElem (by
    have:=(List.getElem?_eq_some_iff.1 hr').1
    omega)⟩
   cases h4 j u r o hu hr' ho with
   | val a h=>exact h
   | obj id b hm hl hlive' hb =>
    refine ⟨hlive',fun k hk=>?_,relB_single (by rw [← hl];exact hc.good.rel id) hm hb⟩
    rcases hc.owns k ⟨id,u,by rw [hl];exact hlive',hm,hk⟩ with h | h
    ·exfalso
     obtain ⟨i,v,hl2,hv2,hk2⟩:=h
     have hi:i<bs.length:=by
      cases Nat.lt_or_ge i bs.length with
      | inl h=>exact h
      | inr h=>rw [hfree i h] at hv2;cases hv2
     obtain ⟨v1,e1,e2⟩:=hmi i hi
     rw [e1] at hv2
     cases hv2
     obtain ⟨b1,_,b3⟩:=hbi i hi
     have:=hc.good.sep i id v u k (by rw [b3];exact b1) (by rw [hl];exact hlive') e2 hm hk2 hk
     subst this
     exact h6 i (List.mem_of_getElem? ho) (usedN_mem.2 hi)
    ·exact h
  ·obtain ⟨o,ho⟩:∃ o,ids[i]?=some o:=⟨_,List.getElem?_eq_getElem (by
    have:=(List.getElem?_eq_some_iff.1 hb).1
    omega)⟩
   cases h4 i u (.new b) o hu hb ho with
   | obj id _ hm hl hlive' hbc =>
    refine ⟨fun hSk=>(hc.good.ro k hSk).2 id u (by rw [hl];exact hlive') hm hk,fun j u' b' hu' hb' hk'=>?_⟩
    obtain ⟨o',ho'⟩:∃ o,ids[j]?=some o:=⟨_,List.getElem?_eq_getElem (by
     have:=(List.getElem?_eq_some_iff.1 hb').1
     omega)⟩
    cases h4 j u' (.new b') o' hu' hb' ho' with
    | obj id' _ hm' hl' hlive2 hbc' =>
     have:=hc.good.sep id id' u u' k (by rw [hl];exact hlive') (by rw [hl'];exact hlive2) hm hm' hk hk'
     subst this
     exact h5 i j id ho ho'
 cases e with
 | normal=>exact fin hq
 | ret=>exact fin hq
 | panic ch=>exact (hq.resolve_left (hpx ch)).elim
 | _=>exact hq.elim
inductive BorIO (H:Heap) (ids:List Nat):AV→AV→List Nat→Prop
 | lend (a a':AV) (t:List Nat) (h:Lend H a a' t):BorIO H ids a a' t
 | map (i id:Nat) (h:ids[i]?=some id):BorIO H ids (.map id) (.map i) []
 | ptr (i id off:Nat) (h:ids[i]?=some id):BorIO H ids (.ptr id off) (.ptr i off) []
 | own (i id:Nat) (h:ids[i]?=some id):BorIO H ids (.own id) (.own i) []
 | fnp (f:Fn) (i id off:Nat) (h:ids[i]?=some id):BorIO H ids (.fn f [.ptr id off] []) (.fn f [.ptr i off] []) []
def zipH:List Nat→List AB→List (Nat×AB)
 | i::is,b::bs=>(i,b)::zipH is bs
 | _,_=>[]
def nodupB:List Nat→Bool
 | []=>true
 | i::is=>match notIn i is with
  | true=>nodupB is
  | false=>false
theorem nodupB_spec:∀ {l:List Nat},nodupB l=true→l.Nodup
 | [],_=>List.nodup_nil
 | i::is,h=>by
  unfold nodupB at h
  split at h
  ·rename_i hi
   exact List.nodup_cons.2 ⟨fun hm=>notIn_spec hi _ hm rfl,nodupB_spec h⟩
  ·cases h
theorem lkH_zip:∀ {ids:List Nat} {bs:List AB} {H:Heap} {j:Nat},ids.length=bs.length→j∉ids→lkH (zipH ids bs++H) j=lkH H j
 | [],[],H,j,_,_=>rfl
 | [],_::_,H,j,h,_=>by simp at h
 | _::_,[],H,j,h,_=>by simp at h
 | i::is,b::bs,H,j,h,hn=>by
  have hij:¬ i=j:=fun e=>hn (by rw [e];exact List.mem_cons_self)
  show lkH ((i,b)::(zipH is bs++H)) j=_
  rw [lkH_cons,if_neg hij]
  exact lkH_zip (by simpa using h) (fun hm=>hn (List.mem_cons_of_mem _ hm))
theorem lkH_zip_at:∀ {ids:List Nat} {bs:List AB} {H:Heap} {k id:Nat},ids.length=bs.length→ids.Nodup→ids[k]?=some id→lkH (zipH ids bs++H) id=bs.getD k .dead
 | [],_,H,k,id,_,_,h=>by simp at h
 | _::_,[],H,k,id,h,_,_=>by simp at h
 | i::is,b::bs,H,k,id,h,hn,hk=>by
  rw [List.nodup_cons] at hn
  show lkH ((i,b)::(zipH is bs++H)) id=_
  rw [lkH_cons]
  cases k with
  | zero =>
   simp at hk
   subst hk
   rw [if_pos rfl]
   simp
  | succ k =>
   have hk':is[k]?=some id:=by simpa using hk
   rw [if_neg (fun e=>hn.1 (by rw [e];exact List.mem_of_getElem? hk')),List.getD_cons_succ]
   exact lkH_zip_at (by simpa using h) hn.2 hk'
def sameObjs (H:Heap):List Nat→List AB→Prop
 | i::is,b::bs=>lkH H i=b∧sameObjs H is bs
 | [],[]=>True
 | _,_=>False
theorem sameObjs_len {H:Heap}:∀ {ids:List Nat} {bs:List AB},sameObjs H ids bs→ids.length=bs.length
 | [],[],_=>rfl
 | [],_::_,h=>h.elim
 | _::_,[],h=>h.elim
 | _::_,_::_,h=>by simp [sameObjs_len h.2]
theorem sameObjs_get {H:Heap}:∀ {ids:List Nat} {bs:List AB},sameObjs H ids bs→∀ (k id:Nat),ids[k]?=some id→lkH H id=bs.getD k .dead
 | [],[],_,k,id,h=>by simp at h
 | [],_::_,h,_,_,_=>h.elim
 | _::_,[],h,_,_,_=>h.elim
 | i::is,b::bs,h,k,id,hk=>by
  cases k with
  | zero =>
   simp at hk
   subst hk
   simpa using h.1
  | succ k =>
   rw [List.getD_cons_succ]
   exact sameObjs_get h.2 k id (by simpa using hk)
theorem borIO_sound [Tabs] {H:Heap} {ids:List Nat} {l l':List AV} {touch:List Nat} (h:BorL (BorIO H ids) l l' touch):l'.length=l.length ∧
  ∀ (m mc:Ids) (S:Blocks) (w:World) (H₂:Heap) (S₂:Blocks),Good m S w H₂→(∀ id∈touch,lkH H₂ id=lkH H id)→(∀ (k id:Nat),ids[k]?=some id→mc k=m id)→(∀ g,S g→S₂ g)→(∀ g,lent m H₂ touch g→S₂ g) →
  ∀ (cs:List Value),cs.length=l.length→(∀ (j:Nat) (c:Value) (a:AV),cs[j]?=some c→l[j]?=some a→RelV m S w c a)→∀ (j:Nat) (c:Value) (a:AV),cs[j]?=some c→l'[j]?=some a→RelV mc S₂ w c a:=by
 induction h with
 | nil=>exact ⟨rfl,fun m mc S w H₂ S₂ _ _ _ _ _ cs hlen _ j c a hj ha=>by simp at ha⟩
 | cons h hl ih =>
  rename_i a a' l l' t t'
  refine ⟨by simp [ih.1],fun m mc S w H₂ S₂ hG ht hmc hS hle cs hlen hr j c x hj hx=>?_⟩
  cases cs with
  | nil=>simp at hj
  | cons c0 cs =>
   cases j with
   | zero =>
    simp at hj hx
    subst hj
    subst hx
    have h0:RelV m S w c0 a:=hr 0 _ _ rfl rfl
    cases h with
    | lend _ _ _ h=>exact .t _ _ (lend_ok H a _ t h m S w H₂ S₂ _ hG (fun id hid=>ht id (by simp [hid])) hS (fun g ⟨id,v,h1,h2⟩=>hle g ⟨id,v,by simp [h1],h2⟩) h0)
    | map i id h=>cases h0 with
     | t _ _ h=>cases h
     | map _ r hm=>exact .map i r (by rw [hmc i id h];exact hm)
    | ptr i id off h=>cases h0 with
     | t _ _ h=>cases h
     | ptr _ _ g hm=>exact .ptr i off g (by rw [hmc i id h];exact hm)
    | own i id h=>cases h0 with
     | t _ _ h=>cases h
     | own _ n cap ad hm=>exact .own i n cap ad (by rw [hmc i id h];exact hm)
    | fnp f i id off h =>
     obtain ⟨fs,cs',rfl,hfl,hcl,r1,_⟩:=relV_fn h0
     have hf0:fs[0]?=some (fs[0]'(by have h1:fs.size=1:=hfl;omega)):=Array.getElem?_eq_getElem (show 0<fs.size by have h1:fs.size=1:=hfl;omega)
     have hp:=r1 0 _ _ hf0 rfl
     refine .fn f fs cs' _ _ hfl hcl (fun q c a hq ha=>?_) (fun q c a hq ha=>by simp at ha)
     match q,ha with
     | 0,ha =>
      simp at ha
      subst ha
      rw [hf0] at hq
      cases hq
      generalize fs[0]'(by have h1:fs.size=1:=hfl;omega)=c at hp
      cases hp with
      | t _ _ h=>cases h
      | ptr _ _ g hm=>exact .ptr i off g (by rw [hmc i id h];exact hm)
   | succ j =>
    simp at hj hx
    exact ih.2 m mc S w H₂ S₂ hG (fun id hid=>ht id (by simp [hid])) hmc hS (fun g ⟨id,v,h1,h2⟩=>hle g ⟨id,v,by simp [h1],h2⟩) cs (by simpa using hlen)
     (fun j c a h1 h2=>hr (j+1) c a (by simpa using h1) (by simpa using h2)) j c x hj hx
def disjB (t ids:List Nat):Bool:=t.all fun i=>notIn i ids
theorem callio_sem [Tabs] {P:Program} {f:FuncId} {avs args:List AV} {H:Heap} {nx:Nat} {bs:List AB} {R:List AB→List AR→Prop} (hc:AIO P f args bs R) (ids t:List Nat) (hnd:nodupB ids=true) (hlive:livesB bs=true) (hso:sameObjs H ids bs)
  (hb:BorL (BorIO H ids) avs args t) (hdis:disjB t ids=true) (hflat:t=[]∨∀ b rs,R b rs→(∀ r∈rs,r.flat)∧∀ x∈b,AR.flat (.new x)) :
  CallSem P f avs H nx (ids++t) (fun r=>∃ b rs,R b rs∧r=⟨valR (tv rs nx),ids++t,tw rs nx++zipH ids b,tn rs nx⟩):=by
 obtain ⟨hfn,hcall⟩:=hc
 refine ⟨hfn,fun m S w H₂ vs hG ht hfree hlen hrel=>?_⟩
 have hnd':=nodupB_spec hnd
 have hil:=sameObjs_len hso
 have hdis':∀ i∈t,i∉ids:=fun i hi hm=>by
  have:=List.all_eq_true.1 hdis i hi
  exact notIn_spec this _ hm rfl
 have hobj:∀ (k id:Nat),ids[k]?=some id→lkH H₂ id=bs.getD k .dead:=fun k id hk=>by
  rw [ht id (List.mem_append.2 (.inl (List.mem_of_getElem? hk)))]
  exact sameObjs_get hso k id hk
 have hlv:∀ (k id:Nat),ids[k]?=some id→(bs.getD k .dead).live=true∧(bs.getD k .dead).trees=true:=fun k id hk=>by
  have:k<ids.length:=(List.getElem?_eq_some_iff.1 hk).1
  exact livesB_spec hlive _ (getD_lt_mem (by omega))
 let mc:Ids:=fun k=>match ids[k]? with
  | some id=>m id
  | none=>none
 have hmc:∀ (k id:Nat),ids[k]?=some id→mc k=m id:=fun k id hk=>by
  show (match ids[k]? with | some id=>m id | none=>none)=_
  rw [hk]
 have hmn:∀ k,bs.length≤k→mc k=none:=fun k hk=>by
  show (match ids[k]? with | some id=>m id | none=>none)=_
  rw [List.getElem?_eq_none (by omega)]
 have hSlt:∀ g,(S g∨lent m H₂ t g)→g<w.heap.size:=by
  rintro g (h | ⟨i,v,hi,hl,hm,hk⟩)
  ·exact (hG.ro g h).1
  ·exact hG.blk_lt hl hm hk
 have hid:∀ k,k<bs.length→∃ id,ids[k]?=some id:=fun k hk=>⟨_,List.getElem?_eq_getElem (show k<ids.length by omega)⟩
 have lvn:∀ {bb:List AB} (k:Nat),bb.length=bs.length→(lkH (numH bb 0) k).live=true→k<bs.length:=fun {bb} k hbl hl=>by
  cases Nat.lt_or_ge k bs.length with
  | inl h=>exact h
  | inr h=>rw [lkH_num0,getD_ge (by omega)] at hl;cases hl
 have hGc:Good mc (fun g=>S g∨lent m H₂ t g) w (numH bs 0):=by
  have up:∀ k v,(lkH (numH bs 0) k).live=true→mc k=some v→∃ id,ids[k]?=some id∧(lkH H₂ id).live=true∧m id=some v:=fun k v hl hv=>by
   obtain ⟨id,hk⟩:=hid k (lvn k rfl hl)
   exact ⟨id,hk,by rw [hobj k id hk];exact (hlv k id hk).1,by rw [← hmc k id hk];exact hv⟩
  refine ⟨fun k=>?_,fun i j vi vj q hli hlj hvi hvj hki hkj=>?_,fun g hg=>⟨hSlt g hg,fun k v hl hv hk=>?_⟩,hG.tab.mono (fun _ h=>.inl h) fun _ _=>rfl⟩
  ·rw [lkH_num0]
   cases Nat.lt_or_ge k bs.length with
   | inr h=>rw [getD_ge h];trivial
   | inl h =>
    obtain ⟨id,hk⟩:=hid k h
    have hrb:=hG.rel id
    rw [hobj k id hk] at hrb
    obtain ⟨v,hv⟩:=live_some hrb (hlv k id hk).1
    exact (relB_move hrb hv (by rw [hmc k id hk];exact hv) (hlv k id hk).2).mono (fun _ _ h=>h) (fun _ h=>.inl h) (fun _ _=>rfl) (fun _ _ _ _ _=>rfl)
  ·obtain ⟨id1,a1,b1,c1⟩:=up i vi hli hvi
   obtain ⟨id2,a2,b2,c2⟩:=up j vj hlj hvj
   have:=hG.sep id1 id2 vi vj q b1 b2 c1 c2 hki hkj
   subst this
   exact (List.getElem?_inj (List.getElem?_eq_some_iff.1 a1).1 hnd').1 (by rw [a1,a2])
  ·obtain ⟨id1,a1,b1,c1⟩:=up k v hl hv
   rcases hg with h | ⟨i,u,hi,hl2,hm2,hk2⟩
   ·exact (hG.ro g h).2 id1 v b1 c1 hk
   ·have:=hG.sep i id1 u v g hl2 b1 hm2 c1 hk2 hk
    subst this
    exact hdis' i hi (List.mem_of_getElem? a1)
 obtain ⟨hal,hbor⟩:=borIO_sound hb
 refine (hcall mc (fun g=>S g∨lent m H₂ t g) w vs hGc hmn (by omega) (hbor m mc S w H₂ _ hG (fun id h=>ht id (List.mem_append.2 (.inr h))) hmc (fun g h=>.inl h) (fun g h=>.inr h) vs hlen hrel)).mono ?_
 rintro e w' ⟨us,rs,bs',S'',rfl,hR,hL⟩
 have hbl:=hL.blen
 have hnl:∀ g,S g→¬ lent m H₂ t g:=fun g hg ⟨i,v,hi,hl,hm,hk⟩=>(hG.ro g hg).2 i v hl hm hk
 have hownc:∀ k,own mc (numH bs 0) k→∃ id,id∈ids∧(lkH H₂ id).live=true∧∃ v,m id=some v∧blk v=some k:=by
  rintro k ⟨i,v,hl,hv,hk⟩
  obtain ⟨id,hi⟩:=hid i (lvn i rfl hl)
  exact ⟨id,List.mem_of_getElem? hi,by rw [hobj i id hi];exact (hlv i id hi).1,v,by rw [← hmc i id hi];exact hv,hk⟩
 have hkeepS:∀ g,g<w.heap.size→(∀ id v,id∈ids→(lkH H₂ id).live=true→m id=some v→blk v≠some g)→w'.heap[g]?=w.heap[g]?:=fun g hg hno=>hL.far.block g hg fun ho=>by
  obtain ⟨id,h1,h2,v,h3,h4⟩:=hownc g ho
  exact hno id v h1 h2 h3 h4
 have hSf:∀ g,S'' g→S g∨lent m H₂ t g∨w.heap.size≤g:=fun g hg=>by
  rcases hL.fresh g hg with (h | h) | h
  ·exact .inl h
  ·exact .inr (.inl h)
  ·exact .inr (.inr h)
 have hlv':∀ (k id:Nat),ids[k]?=some id→(bs'.getD k .dead).live=true∧(bs'.getD k .dead).trees=true:=fun k id hk=>by
  have:k<ids.length:=(List.getElem?_eq_some_iff.1 hk).1
  exact livesB_spec hL.lives _ (getD_lt_mem (by omega))
 have hrelR:∀ (j:Nat) (u:Value) (r:AR),us[j]?=some u→rs[j]?=some r→RelR (fun g=>S'' g∧¬ lent m H₂ t g) w' w.heap.size u r:=by
  intro j u r hu hr
  rcases hflat with h0 | h0
  ·exact relR_more (fun g hg=>⟨hg,fun ⟨i,v,hi,_⟩=>by rw [h0] at hi;simp at hi⟩) (hL.rel j u r hu hr)
  ·exact relR_flat (hL.rel j u r hu hr) ((h0 _ rs hR).1 r (List.mem_of_getElem? hr))
 have hl3:∀ id,(lkH (zipH ids bs'++H₂) id).live=true→(lkH H₂ id).live=true:=fun id hl=>by
  by_cases hm:id∈ids
  ·obtain ⟨k,hk⟩:=List.getElem?_of_mem hm
   rw [hobj k id hk]
   exact (hlv k id hk).1
  ·rwa [lkH_zip (by omega) hm] at hl
 have hG3:Good m (fun g=>S'' g∧¬ lent m H₂ t g) w' (zipH ids bs'++H₂):=by
  refine ⟨fun id=>?_,fun i j vi vj q hli hlj=>hG.sep i j vi vj q (hl3 i hli) (hl3 j hlj),fun g hg=>⟨(hL.good.ro g hg.1).1,fun id v hl hv hk=>?_⟩,fun g cs hg=>⟨⟨(hL.good.tab g cs hg).1,fun ⟨i,v,hi,hl,hm,hk⟩=>(hG.ro g (hG.tab g cs hg).1).2 i v hl hm hk⟩,(hL.good.tab g cs hg).2⟩⟩
  ·by_cases hm:id∈ids
   ·obtain ⟨k,hk⟩:=List.getElem?_of_mem hm
    rw [lkH_zip_at (by omega) hnd' hk]
    have hrb:=hL.good.rel k
    rw [lkH_num0] at hrb
    obtain ⟨v,hv⟩:=live_some hrb (hlv' k id hk).1
    have hmv:m id=some v:=by rw [← hmc k id hk];exact hv
    have hmove:=relB_move hrb hv hmv (hlv' k id hk).2
    rcases hflat with h0 | h0
    ·exact hmove.mono (fun _ _ h=>h) (fun g hg=>⟨hg,fun ⟨i,v,hi,_⟩=>by rw [h0] at hi;simp at hi⟩) (fun _ _=>rfl) (fun _ _ _ _ _=>rfl)
    ·have hfl:=(h0 _ rs hR).2 _ (getD_lt_mem (bs:=bs') (i:=k) (by have:=(List.getElem?_eq_some_iff.1 hk).1;omega))
     have hone:RelR S'' w' 0 v (.new (bs'.getD k .dead)):=⟨(hlv' k id hk).1,fun _ _=>Nat.zero_le _,fun n=>relB_move hrb hv (by simp) (hlv' k id hk).2⟩
     have:=(relR_flat (S':=fun g=>S'' g∧¬ lent m H₂ t g) hone hfl).2.2 id
     exact this.mono (fun i u h=>by
      by_cases e:i=id
      ·subst e
       simp at h
       subst h
       exact hmv
      ·simp [e] at h) (fun _ h=>h) (fun _ _=>rfl) (fun _ _ _ _ _=>rfl)
   ·rw [lkH_zip (by omega) hm]
    refine (hG.rel id).mono (fun _ _ h=>h) (fun g hg=>⟨hL.ros g (.inl hg),hnl g hg⟩) (fun g hg=>hkeepS g (hG.ro g hg).1 fun i v _ hl hv=>(hG.ro g hg).2 i v hl hv) (fun v k hl hv hk=>hkeepS k (hG.blk_lt hl hv hk) fun i u hi hl2 hu hk2=>?_)
    have:=hG.sep i id u v k hl2 hl hu hv hk2 hk
    subst this
    exact hm hi
  ·rcases hSf g hg.1 with h | h | h
   ·exact (hG.ro g h).2 id v (hl3 id hl) hv hk
   ·exact hg.2 h
   ·have:=hG.blk_lt (hl3 id hl) hv hk
    omega
 have hown3:∀ k,own m (zipH ids bs'++H₂) k→own m H₂ k:=fun k ⟨i,v,hl,hv,hk⟩=>⟨i,v,hl3 i hl,hv,hk⟩
 obtain ⟨m',g1,g2,g3,g4,g5,g6⟩:=take_sound (B:=w.heap.size) rs us nx m _ hG3 (fun i hi hlt=>hfree i hi ⟨_,⟨bs',rs,hR,rfl⟩,hlt⟩) hL.len hrelR (fun j u b k hu hr hk=>by
  obtain ⟨a1,a2⟩:=hL.apart j u b k hu hr hk
  refine ⟨fun h=>a1 h.1,fun ho=>?_,fun j' u' b' p q r=>a2 j' u' b' p q r⟩
  have h1:=hG.own_lt (hown3 k ho)
  have h2:RelR _ w' w.heap.size u (.new b):=hrelR j u _ hu hr
  have:=h2.2.1 k hk
  omega)
 refine ⟨retVal us,_,m',_,rfl,⟨bs',rs,hR,rfl⟩,⟨g2,g3,fun g hg=>⟨hL.ros g (.inl hg),hnl g hg⟩,fun g hg=>?_,?_,fun k hk=>?_,?_⟩,retVal_rel g5 g6⟩
 ·rcases hSf g hg.1 with h | h | h
  ·exact .inl h
  ·exact (hg.2 h).elim
  ·exact .inr (.inr h)
 ·exact ⟨hL.far.os,hL.far.tape,hL.far.output,hL.far.size,fun k hk hno=>hkeepS k hk fun id v _ hl hv hkv=>hno ⟨id,v,hl,hv,hkv⟩⟩
 ·rw [List.append_assoc] at hk
  rcases g4 k hk with h | h
  ·exact .inl (hown3 k h)
  ·exact .inr h
 ·rw [List.append_assoc]
  exact g1
theorem LeT.trans {a b c:AV} (h:LeT a b) (k:LeT b c):LeT a c:=fun S w v hr=>k S w v (h S w v hr)
theorem APure.rowT [Tabs] {P:Program} {f:FuncId} {args:List AV} {e:TypeId} {E:Nat} {l:List AV} {T:Type} {enc:T→AV} {d:T} {xs:List T} (h:APure P f args (fun rs=>rs=[.new (.lst e E l)]))
  (hlen:(xs.map enc).length=l.length) (hE:∀ x∈xs.map enc,x.cells.length=E) (h1:∀ a∈flat (xs.map enc),a.one=true) (ht:LeTs (flat l) (flat (xs.map enc))):APure P f args (fun rs=>rs=[.new (.row e E enc d xs)]):=by
 refine ⟨h.1,fun S w vs hS hT hv=>(h.2 S w vs hS hT hv).mono ?_⟩
 rintro en w' ⟨us,rs,S',he,rfl,hL⟩
 refine ⟨us,_,S',he,rfl,⟨by rw [hL.len];rfl,fun j u r hu hr=>?_,hL.below,hL.ros,hL.fresh,hL.lt,fun i u b k hu hb hk=>?_⟩⟩
 ·match j,hr with
  | 0,hr =>
   simp at hr
   subst hr
   obtain ⟨_,h2,h3⟩:=hL.rel 0 u _ hu rfl
   refine ⟨rfl,h2,fun n=>?_⟩
   obtain ⟨v,vs,hm,hr⟩:=h3 n
   exact ⟨v,vs,hm,hr.leT hlen hE h1 ht⟩
 ·match i,hb with
  | 0,_ =>
   obtain ⟨a1,a2⟩:=hL.apart 0 u _ k hu rfl hk
   refine ⟨a1,fun j u' b' hu' hb' hk'=>?_⟩
   match j,hb' with
   | 0,_=>rfl
def okI (t:List Nat) (i:Nat):Bool:=!notIn i t
theorem okI_spec {t:List Nat} {i:Nat} (h:okI t i=true):i∈t:=by
 induction t with
 | nil=>simp [okI,notIn] at h
 | cons j t ih =>
  by_cases e:i=j
  ·subst e;exact List.mem_cons_self
  ·refine List.mem_cons_of_mem _ (ih ?_)
   unfold okI notIn at h
   have:Nat.beq i j=false:=by cases hb:Nat.beq i j with | false=>rfl | true=>exact (e (Nat.eq_of_beq_eq_true hb)).elim
   rw [this] at h
   exact h
def okA0 (t:List Nat):AV→Bool
 | .ptr i _=>okI t i
 | .eptr i _ _ _=>okI t i
 | .own i=>okI t i
 | .pre i _=>okI t i
 | .part i _ _ _=>okI t i
 | .map i=>okI t i
 | .qptr i _ _=>okI t i
 | .csl i _=>okI t i
 | a=>a.tree1
def okA (t:List Nat):AV→Bool
 | .agg l=>l.all (okA0 t)
 | .tup l=>l.all (okA0 t)
 | .fn _ l l'=>l.all (okA0 t)&&l'.all (okA0 t)
 | a=>okA0 t a
theorem relV_ids0 {m m2:Ids} {S:Blocks} {w:World} {v:Value} {a:AV} {t:List Nat} (h:RelV m S w v a) (ho:okA0 t a=true) (hm:∀ i∈t,∀ u,m i=some u→m2 i=some u):RelV m2 S w v a:=by
 cases a with
 | ptr i o=>cases h with | t _ _ h=>cases h | ptr _ _ g hi=>exact .ptr i o g (hm i (okI_spec ho) _ hi)
 | eptr i E j o=>cases h with | t _ _ h=>cases h | eptr _ _ _ _ g n c hi=>exact .eptr i E j o g n c (hm i (okI_spec ho) _ hi)
 | own i=>cases h with | t _ _ h=>cases h | own _ n c a hi=>exact .own i n c a (hm i (okI_spec ho) _ hi)
 | pre i l=>cases h with | t _ _ h=>cases h | pre _ _ n c a hi hle=>exact .pre i l n c a (hm i (okI_spec ho) _ hi) hle
 | part i E o l=>cases h with
  | t _ _ h=>cases h
  | part _ _ _ _ g n cap c hi hle hc=>exact .part i E o l g n cap c (hm i (okI_spec ho) _ hi) hle hc
  | partE _ _ _ c g n cap hi=>exact .partE i E o c g n cap (hm i (okI_spec ho) _ hi)
  | partN=>exact .partN i E o
 | map i=>cases h with | t _ _ h=>cases h | map _ r hi=>exact .map i r (hm i (okI_spec ho) _ hi)
 | qptr i E j=>cases h with | t _ _ h=>cases h | qptr _ _ _ g o n c hi=>exact .qptr i E j g o n c (hm i (okI_spec ho) _ hi)
 | csl i n=>cases h with | t _ _ h=>cases h | csl _ _ g hi=>exact .csl i n g (hm i (okI_spec ho) _ hi)
 | _=>exact .t _ _ (h.toT1 ho)
theorem relV_ids {m m2:Ids} {S:Blocks} {w:World} {v:Value} {a:AV} {t:List Nat} (h:RelV m S w v a) (ho:okA t a=true) (hm:∀ i∈t,∀ u,m i=some u→m2 i=some u):RelV m2 S w v a:=by
 cases a with
 | agg l =>
  have hall:=List.all_eq_true.1 (show l.all (okA0 t)=true from ho)
  cases h with
  | t _ _ h=>exact .t _ _ h
  | agg cs _ hl hr=>exact .agg cs l hl fun j c a hj ha=>relV_ids0 (hr j c a hj ha) (hall a (List.mem_of_getElem? ha)) hm
 | tup l =>
  have hall:=List.all_eq_true.1 (show l.all (okA0 t)=true from ho)
  cases h with
  | t _ _ h=>exact .t _ _ h
  | tup cs _ hl hr=>exact .tup cs l hl fun j c a hj ha=>relV_ids0 (hr j c a hj ha) (hall a (List.mem_of_getElem? ha)) hm
 | fn f l l' =>
  have ho':(l.all (okA0 t)&&l'.all (okA0 t))=true:=ho
  rw [Bool.and_eq_true] at ho'
  have h1:=List.all_eq_true.1 ho'.1
  have h2:=List.all_eq_true.1 ho'.2
  cases h with
  | t _ _ h=>exact .t _ _ h
  | fn _ fs cs _ _ hl hl' r1 r2=>exact .fn f fs cs l l' hl hl' (fun j c a hj ha=>relV_ids0 (r1 j c a hj ha) (h1 a (List.mem_of_getElem? ha)) hm) (fun j c a hj ha=>relV_ids0 (r2 j c a hj ha) (h2 a (List.mem_of_getElem? ha)) hm)
 | _=>exact relV_ids0 h ho hm
def okB (t:List Nat):AB→Bool
 | .cells _ l=>l.all (okA t)
 | _=>true
theorem relB_ids {m m2:Ids} {S:Blocks} {w:World} {id:Nat} {b:AB} {t:List Nat} (h:RelB m S w id b) (ho:okB t b=true) (hid:id∈t) (hm:∀ i∈t,∀ u,m i=some u→m2 i=some u):RelB m2 S w id b:=by
 cases b with
 | dead=>trivial
 | cells e l =>
  have hall:=List.all_eq_true.1 (show l.all (okA t)=true from ho)
  obtain ⟨g,cs,hmi,hg,hl,h1,hr⟩:=h
  exact ⟨g,cs,hm _ hid _ hmi,hg,hl,h1,fun j c a p q=>relV_ids (hr j c a p q) (hall a (List.mem_of_getElem? q)) hm⟩
 | lst e E l=>obtain ⟨v,vs,hmi,hr⟩:=h;exact ⟨v,vs,hm _ hid _ hmi,hr⟩
 | row e E enc d xs=>obtain ⟨v,vs,hmi,hr⟩:=h;exact ⟨v,vs,hm _ hid _ hmi,hr⟩
 | smap ev dv es=>obtain ⟨r,en,c,hmi,hr⟩:=h;exact ⟨r,en,c,hm _ hid _ hmi,hr⟩
 | imap k ev dv es=>obtain ⟨r,en,c,hmi,hr⟩:=h;exact ⟨r,en,c,hm _ hid _ hmi,hr⟩
 | gmap k ev dv es=>obtain ⟨r,en,c,hmi,hr⟩:=h;exact ⟨r,en,c,hm _ hid _ hmi,hr⟩
 | arr e k n f=>obtain ⟨g,cs,hmi,hr⟩:=h;exact ⟨g,cs,hm _ hid _ hmi,hr⟩
 | que e E enc d xs=>obtain ⟨g,o,c,cur,hmi,hr⟩:=h;exact ⟨g,o,c,cur,hm _ hid _ hmi,hr⟩
def restr (H:Heap):List Nat→Heap
 | []=>[]
 | i::t=>(i,lkH H i)::restr H t
theorem lkH_restr {H:Heap}:∀ {t:List Nat} {i:Nat},i∈t→lkH (restr H t) i=lkH H i
 | [],i,h=>by simp at h
 | j::t,i,h=>by
  show lkH ((j,lkH H j)::restr H t) i=_
  rw [lkH_cons]
  by_cases e:j=i
  ·subst e;rw [if_pos rfl]
  ·rw [if_neg e]
   rcases List.mem_cons.1 h with h | h
   ·exact (e h.symm).elim
   ·exact lkH_restr h
theorem lkH_restr_app {H H₂:Heap}:∀ {t:List Nat} {i:Nat},i∉t→lkH (restr H t++H₂) i=lkH H₂ i
 | [],i,h=>rfl
 | j::t,i,h=>by
  show lkH ((j,lkH H j)::(restr H t++H₂)) i=_
  rw [lkH_cons,if_neg (fun e=>h (by rw [e];exact List.mem_cons_self)),lkH_restr_app (fun hm=>h (List.mem_cons_of_mem _ hm))]
theorem lkH_restr_app' {H H₂:Heap}:∀ {t:List Nat} {i:Nat},i∈t→lkH (restr H t++H₂) i=lkH H i
 | [],i,h=>by simp at h
 | j::t,i,h=>by
  show lkH ((j,lkH H j)::(restr H t++H₂)) i=_
  rw [lkH_cons]
  by_cases e:j=i
  ·subst e;rw [if_pos rfl]
  ·rw [if_neg e]
   rcases List.mem_cons.1 h with h | h
   ·exact (e h.symm).elim
   ·exact lkH_restr_app' h
theorem lkH_restr_no {H:Heap} {t:List Nat} {i:Nat} (h:i∉t):lkH (restr H t) i=.dead:=by
 have:=lkH_restr_app (H:=H) (H₂:=[]) h
 rw [List.append_nil] at this
 rw [this]
 rfl
def resI (T:Tab) (env:Env) (H:Heap) (nx:Nat):List ResultVar→List AV→(List AV→Prop)→Prop
 | [],acc,k=>k acc.reverse
 | .tmp t::r,acc,k=>resI T env H nx r (lk env t::acc) k
 | .cell t ty::r,acc,k=>evLoad T none H nx ty (lk env t) fun res=>match res with
  | ⟨v,_,_,_⟩=>forceAV v fun v=>resI T env H nx r (v::acc) k
theorem resI_sound [Tabs] {P:Program} {T:Tab} (hT:TabOk P T) {m:Ids} {S:Blocks} {w:World} {env:Env} {H:Heap} {nx:Nat} {a:Act} (hG:Good m S w H) (hrel:∀ s,RelV m S w (a.tmps.getD s undef) (lk env s)):∀ (rs:List ResultVar) (acc:List AV) (k:List AV→Prop),resI T env H nx rs acc k →
  ∃ l,k (acc.reverse++l)∧l.length=rs.length∧(∀ r∈rs,SlotRun P a w r)∧∀ (j:Nat) (u:Value) (x:AV),(slotVals P rs a w)[j]?=some u→l[j]?=some x→RelV m S w u x
 | [],acc,k,h=>⟨[],by simpa [resI] using h,rfl,by simp,fun j u x hu=>by simp [slotVals] at hu⟩
 | .tmp t::r,acc,k,h=>by
  obtain ⟨l,h1,h2,h3,h4⟩:=resI_sound hT hG hrel r (lk env t::acc) k h
  refine ⟨lk env t::l,by simpa using h1,by simp [h2],fun r0 hr0=>?_,fun j u x hu hx=>?_⟩
  ·rcases List.mem_cons.1 hr0 with rfl | hr0
   ·trivial
   ·exact h3 r0 hr0
  ·cases j with
   | zero =>
    simp [slotVals,slotVal] at hu hx
    subst hu
    subst hx
    have:=hrel t
    simpa using this
   | succ j=>exact h4 j u x (by simpa [slotVals] using hu) (by simpa using hx)
 | .cell t ty::r,acc,k,h=>by
  unfold resI at h
  let o : Oper := { dst := none, op := .load ty (.tmp t), type := 0, pos := "", after := #[], guard := none }
  obtain ⟨res,hsem,_,h⟩:=evLoad_sound (P:=P) (T:=T) hT (g:=none) (rd:=fun x=>match x with | .tmp s=>lk env s | _=>.undef) (o:=o) (x:=.tmp t) rfl h
  obtain ⟨v,touch,wr,nx'⟩:=res
  simp only [forceAV_iff] at h
  obtain ⟨_,hsem⟩:=hsem trivial
  obtain ⟨u,hu,hru⟩:=hsem m S w a H hG (fun _ _=>rfl) (fun x hx _=>by
   simp only [List.mem_singleton] at hx
   subst hx
   exact hrel t)
  have hu:=hu w ⟨Nat.le_refl _,fun _ _=>rfl⟩
  have hld:∃ p,a.tmps.getD t undef=.pointer (some p)∧(loadVar ty p).run P w=.ok u w:=by
   unfold execOp at hu
   have he:a.eval (.tmp t)=a.tmps.getD t undef:=rfl
   simp only [o,he,Instr.loadAt,Instr.sureAddr] at hu
   generalize a.tmps.getD t undef=v0 at hu ⊢
   cases v0 with
   | pointer p0 =>
    cases p0 with
    | none=>simp [stuck,Sem.run_bind,Result.andThen] at hu
    | some p =>
     refine ⟨p,rfl,?_⟩
     simp only [Sem.run_bind,Sem.run_pure,Result.andThen_ok] at hu
     cases hr:(loadVar ty p).run P w with
     | ok v1 w1=>rw [hr] at hu;simp at hu;rw [hu.1,hu.2]
     | _=>rw [hr] at hu;simp [Result.andThen] at hu
   | _=>simp [stuck,Sem.run_bind,Result.andThen] at hu
  obtain ⟨p,hp,hl⟩:=hld
  have hsv:slotVal P a w (.cell t ty)=u:=by simp only [slotVal,hp,hl]
  obtain ⟨l,h1,h2,h3,h4⟩:=resI_sound hT hG hrel r (v::acc) k h
  refine ⟨v::l,by simpa using h1,by simp [h2],fun r0 hr0=>?_,fun j u' x hu' hx=>?_⟩
  ·rcases List.mem_cons.1 hr0 with rfl | hr0
   ·exact ⟨p,u,hp,hl⟩
   ·exact h3 r0 hr0
  ·cases j with
   | zero =>
    simp only [slotVals,List.map_cons,List.getElem?_cons_zero,Option.some.injEq] at hu' hx
    rw [hsv] at hu'
    subst hu'
    subst hx
    exact hru
   | succ j=>exact h4 j u' x (by simpa [slotVals] using hu') (by simpa using hx)
def allB:List Bool→Bool
 | []=>true
 | b::l=>match b with
  | true=>allB l
  | false=>false
theorem allB_spec:∀ {l:List Bool},allB l=true→∀ b∈l,b=true
 | [],_,b,hb=>by simp at hb
 | a::l,h,b,hb=>by
  unfold allB at h
  split at h
  ·rcases List.mem_cons.1 hb with rfl | hb
   ·rfl
   ·exact allB_spec h b hb
  ·cases h
def endI (T:Tab) (rs:List ResultVar) (t news:List Nat) (nx:Nat) (Rr:Res→Prop) (st:St):Prop :=
 allB (news.map fun i=>Nat.ble nx i&&Nat.blt i st.nx)=true∧allB ((t++news).map fun i=>okB (t++news) (lkH st.heap i))=true∧Nat.ble nx st.nx=true ∧
  resI T st.env st.heap st.nx rs [] fun vs=>allB (vs.map (okA (t++news)))=true∧Rr ⟨valR vs,t,restr st.heap (t++news),st.nx⟩
def retI (T:Tab) (rs:Array ResultVar) (t news:List Nat) (nx:Nat) (Rr:Res→Prop):Exit→St→Prop
 | .normal,st=>endI T rs.toList t news nx Rr st
 | .ret,st=>endI T rs.toList t news nx Rr st
 | _,_=>False
theorem inl_sem [Tabs] {C : Cx} (hT : CxOk C) {f : FuncId} {fn : Func} {code : Code} {avs : List AV} {H : Heap} {nx : Nat} (t news : List Nat) {Rr : Res → Prop} (hf : C.P.funcs[f]? = some fn) (hb : fn.body = some code) (hname : (fn.name == "runtime.NumGoroutine") = false)
  (hN:C.N=fn.ntmps) (hle:avs.length≤fn.ntmps) (hres:fn.results.size≤4)
  (hlive:allB (t.map fun i=>(lkH H i).live&&okB t (lkH H i)&&Nat.blt i nx&&Nat.blt i C.pn)=true) (hav:allB (avs.map (okA t))=true)
  (h:evCode C code ⟨argEnv avs 0,restr H t,nx⟩ (retI C.T fn.results t news nx Rr)) (hpx:∀ ch,¬ C.px ch:=by exact fun _ h=>h):CallSem C.P f avs H nx t Rr:=by
 refine ⟨⟨fn,hf,by rw [hb];rfl,hname⟩,fun m S w H₂ vs hG ht hfree hlen hrel=>calls_of_wp hf hb ?_⟩
 have ht1:∀ i∈t,(lkH H i).live=true∧okB t (lkH H i)=true∧i<nx∧i<C.pn:=fun i hi=>by
  have:=allB_spec hlive _ (List.mem_map_of_mem (f:=fun i=>(lkH H i).live&&okB t (lkH H i)&&Nat.blt i nx&&Nat.blt i C.pn) hi)
  simp only [Bool.and_eq_true] at this
  exact ⟨this.1.1.1,this.1.1.2,Nat.blt_eq.mp this.1.2,Nat.blt_eq.mp this.2⟩
 let mc:Ids:=fun i=>if i∈t then m i else none
 have hmc:∀ i,i∈t→mc i=m i:=fun i hi=>if_pos hi
 have hmn:∀ i,i∉t→mc i=none:=fun i hi=>if_neg hi
 have hlk:∀ i,i∈t→lkH (restr H t) i=lkH H₂ i:=fun i hi=>by rw [lkH_restr hi,ht i hi]
 have hmt:∀ i,i∈t→∃ v,m i=some v:=fun i hi=>live_some (hG.rel i) (by rw [ht i hi];exact (ht1 i hi).1)
 have hownc:∀ k,own mc (restr H t) k→∃ i,i∈t∧(lkH H₂ i).live=true∧∃ v,m i=some v∧blk v=some k:=by
  rintro k ⟨i,v,hl,hv,hk⟩
  have hi:i∈t:=Classical.byContradiction fun h=>by rw [hmn i h] at hv;cases hv
  exact ⟨i,hi,by rw [ht i hi];exact (ht1 i hi).1,v,by rw [← hmc i hi];exact hv,hk⟩
 have hGc:Good mc S w (restr H t):=by
  have up:∀ i v,(lkH (restr H t) i).live=true→mc i=some v→i∈t∧(lkH H₂ i).live=true∧m i=some v:=fun i v hl hv=>by
   have hi:i∈t:=Classical.byContradiction fun h=>by rw [hmn i h] at hv;cases hv
   exact ⟨hi,by rw [← hlk i hi];exact hl,by rw [← hmc i hi];exact hv⟩
  refine ⟨fun i=>?_,fun i j vi vj k hli hlj hvi hvj hki hkj=>?_,fun g hg=>⟨(hG.ro g hg).1,fun i v hl hv=>?_⟩,hG.tab⟩
  ·by_cases hi:i∈t
   ·rw [hlk i hi]
    refine relB_ids (t:=t) (hG.rel i) (by rw [ht i hi];exact (ht1 i hi).2.1) hi fun j hj u hu=>by rw [hmc j hj];exact hu
   ·rw [lkH_restr_no hi];trivial
  ·obtain ⟨_,l1,e1⟩:=up i vi hli hvi
   obtain ⟨_,l2,e2⟩:=up j vj hlj hvj
   exact hG.sep i j vi vj k l1 l2 e1 e2 hki hkj
  ·obtain ⟨_,l1,e1⟩:=up i v hl hv
   exact (hG.ro g hg).2 i v l1 e1
 let F:Fr:=⟨w,own mc (restr H t),S,mc,[]⟩
 have hfits:F.fits C.pn:=fun i v hi=>by
  have:i∈t:=Classical.byContradiction fun h=>by
   have h2:mc i=some v:=hi
   rw [hmn i h] at h2
   cases h2
  exact (ht1 i this).2.2.2
 have hrel0:Rel F C.N ⟨argEnv avs 0,restr H t,nx⟩ { tmps:=vs.toArray++Array.replicate (fn.ntmps-vs.toArray.size) undef,defers:=[] } w:=by
  refine ⟨mc,S,⟨hGc,fun i hi=>hmn i fun hm=>by have:=(ht1 i hm).2.2.1;have h':nx≤i:=hi;omega,Far.refl _ _,fun k hk=>.inl hk,fun g hg=>.inl hg,fun g hg=>hg,fun i v hi=>hi⟩,by simp;omega,rfl,fun s=>?_⟩
  rw [lk_argEnv,if_pos (Nat.zero_le _),Nat.sub_zero]
  by_cases hs:s<avs.length
  ·have h1:avs[s]?=some (avs.getD s .undef):=by simp [List.getD,List.getElem?_eq_getElem hs]
   have h2:vs[s]?=some ((vs.toArray++Array.replicate (fn.ntmps-vs.toArray.size) undef).getD s undef):=by
    have:s<vs.length:=by omega
    simp [Array.getElem?_append,this]
   refine relV_ids (t:=t) (hrel s _ _ h2 h1) (allB_spec hav _ (List.mem_map_of_mem (List.mem_of_getElem? h1))) fun j hj u hu=>by rw [hmc j hj];exact hu
  ·have:avs.getD s .undef=.undef:=by simp [List.getD,List.getElem?_eq_none (by omega:avs.length≤s)]
   rw [this]
   exact .t _ _ (.undef _)
 refine wp_mono (evCode_sound hT (F:=F) hfits code _ _ h _ w hrel0) fun e a' w' ⟨st',⟨m',S',hc,hs,hd,hr⟩,hq⟩=>?_
 have fin:endI C.T fn.results.toList t news nx Rr st'→a'.defers=[]∧∃ v,(results fn a'.tmps).run C.P w'=.ok v w'∧∃ v' r m' S',Ending.returned v=.returned v'∧Rr r∧Ext m S w H₂ nx r.nx m' S' w' (r.wr++H₂)∧RelV m' S' w' v' r.v:=by
  rintro ⟨hnews,hobjs,hnx,hq⟩
  have hnx':nx≤st'.nx:=Nat.le_of_ble_eq_true hnx
  obtain ⟨l,⟨hl0,hR⟩,hll,hsr,hlr⟩:=resI_sound hT.tab hc.good hr _ _ _ hq
  rw [List.reverse_nil,List.nil_append] at hl0 hR
  have hnw:∀ i∈news,nx≤i∧i<st'.nx:=fun i hi=>by
   have:=allB_spec hnews _ (List.mem_map_of_mem (f:=fun i=>Nat.ble nx i&&Nat.blt i st'.nx) hi)
   simp only [Bool.and_eq_true] at this
   exact ⟨Nat.le_of_ble_eq_true this.1,Nat.blt_eq.mp this.2⟩
  have hob:∀ i∈t++news,okB (t++news) (lkH st'.heap i)=true:=fun i hi=>allB_spec hobjs _ (List.mem_map_of_mem (f:=fun i=>okB (t++news) (lkH st'.heap i)) hi)
  have hfr:∀ i,nx≤i→i<st'.nx→m i=none:=fun i h1 h2=>hfree i h1 ⟨_,hR,h2⟩
  let m2:Ids:=fun i=>if nx≤i∧i<st'.nx then m' i else m i
  have hm2n:∀ i,nx≤i→i<st'.nx→m2 i=m' i:=fun i h1 h2=>if_pos ⟨h1,h2⟩
  have hm2o:∀ i,¬ (nx≤i∧i<st'.nx)→m2 i=m i:=fun i h=>if_neg h
  have hm't:∀ i∈t,∃ v,m i=some v∧m' i=some v∧m2 i=some v:=fun i hi=>by
   obtain ⟨v,hv⟩:=hmt i hi
   refine ⟨v,hv,hc.pins i v (by show mc i=some v;rw [hmc i hi];exact hv),?_⟩
   rw [hm2o i fun h=>by have:=(ht1 i hi).2.2.1;omega]
   exact hv
  have hmk:∀ i∈t++news,∀ u,m' i=some u→m2 i=some u:=fun i hi u hu=>by
   rcases List.mem_append.1 hi with h | h
   ·obtain ⟨v,_,e1,e2⟩:=hm't i h
    rw [e1] at hu
    cases hu
    exact e2
   ·obtain ⟨a,b⟩:=hnw i h
    rw [hm2n i a b]
    exact hu
  have hkm:∀ i∈t++news,∀ u,m2 i=some u→m' i=some u:=fun i hi u hu=>by
   rcases List.mem_append.1 hi with h | h
   ·obtain ⟨v,_,e1,e2⟩:=hm't i h
    rw [e2] at hu
    cases hu
    exact e1
   ·obtain ⟨a,b⟩:=hnw i h
    rw [hm2n i a b] at hu
    exact hu
  have hF0:∀ k,own mc (restr H t) k→own m H₂ k:=fun k hk=>by
   obtain ⟨i,_,h2,v,h3,h4⟩:=hownc k hk
   exact ⟨i,v,h2,h3,h4⟩
  -- what is not handed over stands as it stood
  have hold:∀ i v,i∉t++news→(lkH H₂ i).live=true→m2 i=some v→m i=some v∧i∉t:=fun i v hi hl hv=>by
   refine ⟨?_,fun h=>hi (List.mem_append.2 (.inl h))⟩
   by_cases hh:nx≤i∧i<st'.nx
   ·obtain ⟨u,hu⟩:=live_some (hG.rel i) hl
    rw [hfr i hh.1 hh.2] at hu
    cases hu
   ·rw [← hm2o i hh];exact hv
  have hnF:∀ i v k,i∉t→(lkH H₂ i).live=true→m i=some v→blk v=some k→¬ own mc (restr H t) k:=fun i v k hi hl hv hk ho=>by
   obtain ⟨j,h1,h2,u,h3,h4⟩:=hownc k ho
   have:=hG.sep i j v u k hl h2 hv h3 hk h4
   subst this
   exact hi h1
  have hkeep:∀ i v k,i∉t→(lkH H₂ i).live=true→m i=some v→blk v=some k→w'.heap[k]?=w.heap[k]?:=fun i v k hi hl hv hk =>
   hc.far.block k (hG.blk_lt hl hv hk) (hnF i v k hi hl hv hk)
  have hkeepS:∀ g,S g→w'.heap[g]?=w.heap[g]?:=fun g hg=>hc.far.block g (hG.ro g hg).1 fun ho=>by
   obtain ⟨j,_,h2,u,h3,h4⟩:=hownc g ho
   exact (hG.ro g hg).2 j u h2 h3 h4
  have hgood:Good m2 S' w' (restr st'.heap (t++news)++H₂):=by
   refine ⟨fun i=>?_,fun i j vi vj k hli hlj hvi hvj hki hkj=>?_,fun g hg=>⟨(hc.good.ro g hg).1,fun i v hl hv hk=>?_⟩,hc.good.tab⟩
   ·by_cases hi:i∈t++news
    ·rw [lkH_restr_app' hi]
     exact relB_ids (t:=t++news) (hc.good.rel i) (hob i hi) hi hmk
    ·rw [lkH_restr_app hi]
     by_cases hl:(lkH H₂ i).live=true
     ·have hi':i∉t:=fun h=>hi (List.mem_append.2 (.inl h))
      refine (hG.rel i).mono (fun j u hu=>?_) hc.ro0 hkeepS fun v k _ hv hk=>hkeep i v k hi' hl hv hk
      by_cases hh:nx≤j∧j<st'.nx
      ·rw [hfr j hh.1 hh.2] at hu
       cases hu
      ·rw [hm2o j hh];exact hu
     ·cases hb:lkH H₂ i with
      | dead=>trivial
      | _=>rw [hb] at hl;exact (hl rfl).elim
   ·have two:∀ i j vi vj k,i∈t++news→j∉t++news→(lkH (restr st'.heap (t++news)++H₂) i).live=true→(lkH (restr st'.heap (t++news)++H₂) j).live=true→m2 i=some vi→m2 j=some vj→blk vi=some k→blk vj=some k→False:=by
     intro i j vi vj k hi hj hli hlj hvi hvj hki hkj
     rw [lkH_restr_app' hi] at hli
     rw [lkH_restr_app hj] at hlj
     obtain ⟨e1,e2⟩:=hold j vj hj hlj hvj
     rcases hc.owns k ⟨i,vi,hli,hkm i hi vi hvi,hki⟩ with h | h
     ·exact hnF j vj k e2 hlj e1 hkj h
     ·have:=hG.blk_lt hlj e1 hkj
      have h':w.heap.size≤k:=h
      omega
    by_cases hi:i∈t++news
    ·by_cases hj:j∈t++news
     ·rw [lkH_restr_app' hi] at hli
      rw [lkH_restr_app' hj] at hlj
      exact hc.good.sep i j vi vj k hli hlj (hkm i hi vi hvi) (hkm j hj vj hvj) hki hkj
     ·exact (two i j vi vj k hi hj hli hlj hvi hvj hki hkj).elim
    ·by_cases hj:j∈t++news
     ·exact (two j i vj vi k hj hi hlj hli hvj hvi hkj hki).elim
     ·rw [lkH_restr_app hi] at hli
      rw [lkH_restr_app hj] at hlj
      exact hG.sep i j vi vj k hli hlj (hold i vi hi hli hvi).1 (hold j vj hj hlj hvj).1 hki hkj
   ·by_cases hi:i∈t++news
    ·rw [lkH_restr_app' hi] at hl
     exact (hc.good.ro g hg).2 i v hl (hkm i hi v hv) hk
    ·rw [lkH_restr_app hi] at hl
     obtain ⟨e1,e2⟩:=hold i v hi hl hv
     rcases hc.ro g hg with h | h | h
     ·exact (hG.ro g h).2 i v hl e1 hk
     ·exact hnF i v g e2 hl e1 hk h
     ·have:=hG.blk_lt hl e1 hk
      have h':w.heap.size≤g:=h
      omega
  refine ⟨hd,_,run_results hsr hres,_,_,m2,S',rfl,hR,⟨fun i v hv=>?_,fun i hi=>hm2o i hi,hc.ro0,fun g hg=>?_,?_,fun k hk=>?_,hgood⟩,?_⟩
  ·by_cases hh:nx≤i∧i<st'.nx
   ·rw [hfr i hh.1 hh.2] at hv;cases hv
   ·rw [hm2o i hh];exact hv
  ·rcases hc.ro g hg with h | h | h
   ·exact .inl h
   ·exact .inr (.inl (hF0 g h))
   ·exact .inr (.inr h)
  ·exact ⟨hc.far.os,hc.far.tape,hc.far.output,hc.far.size,fun k hk hno=>hc.far.block k hk fun ho=>hno (hF0 k ho)⟩
  ·obtain ⟨i,v,hl,hv,hkv⟩:=hk
   by_cases hi:i∈t++news
   ·rw [lkH_restr_app' hi] at hl
    rcases hc.owns k ⟨i,v,hl,hkm i hi v hv,hkv⟩ with h | h
    ·exact .inl (hF0 k h)
    ·exact .inr h
   ·rw [lkH_restr_app hi] at hl
    exact .inl ⟨i,v,hl,(hold i v hi hl hv).1,hkv⟩
  ·refine retVal_rel (by rw [hll];simp [slotVals]) fun j u x hu hx=>relV_ids (t:=t++news) (hlr j u x hu hx) (allB_spec hl0 _ (List.mem_map_of_mem (List.mem_of_getElem? hx))) hmk
 cases e with
 | normal=>exact fin hq
 | ret=>exact fin hq
 | panic ch=>exact (hq.resolve_left (hpx ch)).elim
 | _=>exact hq.elim
open Go.Proofs Go.Shelf Go.RowKit
def Plain (u:Value) (a:AV):Prop:=∀ S w,RelT S w u a
theorem apure_plain [Tabs] {P:Program} {f:FuncId} {args:List AV} {R:List AV→Prop} (hfn:FnOk P f)
  (h:∀ (S:Blocks) (w:World) (vs:List Value),TabAt S w→RelTs S w vs args→Calls P f vs.toArray w fun e w'=>∃ us l,e=.returned (retVal us)∧R l∧us.length=l.length∧(∀ (j:Nat) (u:Value) (a:AV),us[j]?=some u→l[j]?=some a→Plain u a)∧Below w.heap.size w w') :
  APure P f args (fun rs=>∃ l,R l∧rs=l.map .val):=by
 refine ⟨hfn,fun S w vs hS hT hv=>(h S w vs hT hv).mono ?_⟩
 rintro e w' ⟨us,l,he,hR,hl,hrel,hb⟩
 refine ⟨us,l.map .val,S,he,⟨l,hR,rfl⟩,⟨by rw [hl,List.length_map],fun j u r hu hr=>?_,hb,fun g h=>h,fun g h=>.inl h,fun g hg=>Nat.lt_of_lt_of_le (hS g hg) hb.size,fun i u b k hu hr hk=>?_⟩⟩
 ·rw [List.getElem?_map,Option.map_eq_some_iff] at hr
  obtain ⟨a,ha,rfl⟩:=hr
  exact hrel j u a hu ha S w'
 ·rw [List.getElem?_map,Option.map_eq_some_iff] at hr
  obtain ⟨a,_,h⟩:=hr
  cases h
theorem plain_int (k:IntKind) (n:Int):Plain (.int k n) (.int k n):=fun _ _=>.int k n
theorem plain_bool (b:Bool):Plain (.bool b) (.bool b):=fun _ _=>.bool b
theorem plain_str (l:List UInt8):Plain (.string ⟨l.toArray⟩) (.str l):=fun _ _=>.str _ l (by simp)
theorem plain_nilI:Plain .nilIface (.ifc true):=fun _ _=>.ifc0
theorem plain_iface (t:TypeId) (v:Value):Plain (.iface t v) (.ifc false):=fun _ _=>.ifc1 t v
theorem str_args [Tabs] {S:Blocks} {w:World} {vs:List Value} {l:List UInt8} (h:RelTs S w vs [.str l]):∃ q:ByteArray,vs=[.string q]∧q.data.toList=l:=by
 obtain ⟨h1,h2⟩:=h
 match vs,h1 with
 | [v],_ =>
  have:=h2 0 v _ rfl rfl
  cases this with
  | str q _ hq=>exact ⟨q,rfl,hq⟩
theorem size_str {q:ByteArray} {l:List UInt8} (h:q.data.toList=l):q.size=l.length:=by
 rw [← h,Array.length_toList]
 rfl
theorem below_grow (w:World) (k:Nat) (os:Array Obj):Below w.heap.size w (Go.Sort.grow (w.drewN k) os) :=
 ⟨rfl,rfl,rfl,by show w.heap.size≤(w.heap++os).size;simp,fun i hi=>by show (w.heap++os)[i]?=_;rw [Array.getElem?_append_left hi]⟩
variable {P:Program} {ρ:Go.Shelf.Ren}
theorem itoa_ok [Tabs] (L : LaysM.n171 P ρ) (hfn : FnOk P (ρ.f 171)) (htab : ∀ S w, TabAt S w → Lib.TabIs P w "internal/strconv.uint64pow10" .u64 Lib.pow10Tab) (n : Int) (h0 : -9223372036854775808 ≤ n) (h1 : n ≤ 9223372036854775807) :
  APureV P (ρ.f 171) [.int .i64 n] (.str (Lib.itoa n)):=by
 refine APure.mono (apure_plain (R:=fun l=>l=[.str (Lib.itoa n)]) hfn fun S w vs hT hv=>?_) (by rintro rs ⟨l,rfl,rfl⟩;rfl)
 obtain ⟨hl,hr⟩:=hv
 match vs,hl with
 | [v],_ =>
  have:=hr 0 v _ rfl rfl
  cases this
  refine (Any.strconv_Itoa L n h0 h1 w (htab S w hT)).mono ?_
  rintro e w' ⟨rfl,k,os,rfl⟩
  refine ⟨[_],_,rfl,rfl,rfl,fun j u a hu ha=>?_,below_grow w k os⟩
  match j,hu,ha with
  | 0,hu,ha=>simp at hu ha;subst hu;subst ha;exact plain_str _
def atoiR (s:List UInt8):List AV :=
 match Lib.atoiAll s with
 | .ok v=>[.int .i64 v,.ifc true]
 | .range=>[.int .i64 (Lib.atoiSat s),.ifc false]
 | _=>[.int .i64 0,.ifc false]
theorem atoi_ok [Tabs] (L:LaysC.n172 P ρ) (hfn:FnOk P (ρ.f 172))
  (hv:∀ S w,TabAt S w→(∃ ev,w.cell? ⟨ρ.g 15,0,none⟩=some ev∧(ev=.nilIface∨∃ te pe,ev=.iface te pe))∧(∃ ev,w.cell? ⟨ρ.g 16,0,none⟩=some ev∧(ev=.nilIface∨∃ te pe,ev=.iface te pe)))
  (s:List UInt8) (hs:s.length≤281474976710656):APure P (ρ.f 172) [.str s] (fun rs=>rs=(atoiR s).map .val):=by
 refine APure.mono (apure_plain (R:=fun l=>l=atoiR s) hfn fun S w vs hT hvs=>?_) (by rintro rs ⟨l,rfl,rfl⟩;rfl)
 obtain ⟨q,rfl,hq⟩:=str_args hvs
 have hsz:=size_str hq
 obtain ⟨⟨e1,c1,d1⟩,⟨e2,c2,d2⟩⟩:=hv S w hT
 have two:∀ (u1 u2:Value) (a1 a2:AV),Plain u1 a1→Plain u2 a2→∀ (j:Nat) (u:Value) (a:AV),[u1,u2][j]?=some u→[a1,a2][j]?=some a→Plain u a:=by
  intro u1 u2 a1 a2 h1 h2 j u a hu ha
  match j,hu,ha with
  | 0,hu,ha=>simp at hu ha;subst hu;subst ha;exact h1
  | 1,hu,ha=>simp at hu ha;subst hu;subst ha;exact h2
 unfold atoiR
 rcases hr:Lib.atoiAll s with v | _ | _
 ·refine (Any.strconv_Atoi_ok L q (by omega) v (by rw [hq];exact hr) w).mono ?_
  rintro e w' ⟨rfl,hw⟩
  refine ⟨[_,_],_,rfl,rfl,rfl,two _ _ _ _ (plain_int _ _) plain_nilI,?_⟩
  rcases hw with rfl | ⟨t,rfl⟩
  ·exact Below.refl _ _
  ·exact Lib.bytesWorld_below _ _ _
 ·refine (Any.strconv_Atoi_syntax L q (by omega) (by rw [hq];exact hr) e1 w c1 d1).mono ?_
  rintro e w' ⟨N,rfl,_,_,hb⟩
  exact ⟨[_,_],_,rfl,rfl,rfl,two _ _ _ _ (plain_int _ _) (plain_iface _ _),hb⟩
 ·refine (Any.strconv_Atoi_range L q (by omega) (by rw [hq];exact hr) e2 w c2 d2).mono ?_
  rintro e w' ⟨N,rfl,_,_,hb⟩
  refine ⟨[_,_],_,rfl,rfl,rfl,two _ _ _ _ ?_ (plain_iface _ _),hb⟩
  rw [hq]
  exact plain_int _ _
theorem index_ok [Tabs] (L:Lays.n137 P ρ) (hfn:FnOk P (ρ.f 137)) (s:List UInt8) (c:Int):APureV P (ρ.f 137) [.str s,.int .u8 c] (.int .i64 (Lib.indexByte s c.toNat.toUInt8)):=by
 refine APure.mono (apure_plain (R:=fun l=>l=[.int .i64 (Lib.indexByte s c.toNat.toUInt8)]) hfn fun S w vs hT hv=>?_) (by rintro rs ⟨l,rfl,rfl⟩;rfl)
 obtain ⟨hl,hr⟩:=hv
 match vs,hl with
 | [v,v2],_ =>
  have h1:=hr 0 v _ rfl rfl
  have h2:=hr 1 v2 _ rfl rfl
  cases h1 with
  | str q _ hq =>
   cases h2
   refine (Any.strings_IndexByte L q c w).mono ?_
   rintro e w' ⟨rfl,rfl⟩
   refine ⟨[_],_,rfl,rfl,rfl,fun j u a hu ha=>?_,Below.refl _ _⟩
   match j,hu,ha with
   | 0,hu,ha=>simp at hu ha;subst hu;subst ha;rw [hq];exact plain_int _ _
theorem cut_ok [Tabs] (L:Lays.n103 P ρ) (hfn:FnOk P (ρ.f 103)) (s p:List UInt8):APure P (ρ.f 103) [.str s,.str p] (fun rs=>rs=[.val (.str (Lib.trimPrefix s p)),.val (.bool (Lib.hasPrefix s p))]):=by
 refine APure.mono (apure_plain (R:=fun l=>l=[.str (Lib.trimPrefix s p),.bool (Lib.hasPrefix s p)]) hfn fun S w vs hT hv=>?_) (by rintro rs ⟨l,rfl,rfl⟩;rfl)
 obtain ⟨hl,hr⟩:=hv
 match vs,hl with
 | [v,v2],_ =>
  have h1:=hr 0 v _ rfl rfl
  have h2:=hr 1 v2 _ rfl rfl
  cases h1 with
  | str q _ hq =>
   cases h2 with
   | str q2 _ hq2 =>
    refine (Any.strings_CutPrefix L q q2 w).mono ?_
    rintro e w' ⟨rfl,rfl⟩
    refine ⟨[_,_],_,rfl,rfl,rfl,fun j u a hu ha=>?_,Below.refl _ _⟩
    match j,hu,ha with
    | 0,hu,ha=>simp at hu ha;subst hu;subst ha;rw [hq,hq2];exact plain_str _
    | 1,hu,ha=>simp at hu ha;subst hu;subst ha;rw [hq,hq2];exact plain_bool _
variable {P:Program}
theorem bld_cells [Tabs] {m:Ids} {S:Blocks} {w:World} {H H₂:Heap} (hG:Good m S w H₂) {id:Nat} (ht:lkH H₂ id=lkH H id) {e:TypeId} {p x:AV} (hid:lkH H id=.cells e [p,x]) :
  ∃ g cs u v,m id=some (.pointer (some ⟨g,0,none⟩))∧w.heap[g]?=some (.cells cs e (0,0))∧cs=#[u,v]∧p.one=true∧x.one=true∧RelV m S w u p∧RelV m S w v x:=by
 have hb:=hG.rel id
 rw [ht,hid] at hb
 obtain ⟨g,cs,hm,hg,hl,h1,hr⟩:=hb
 have hl2:cs.size=2:=hl
 have h0:cs[0]?=some (cs[0]'(by omega)):=Array.getElem?_eq_getElem (by omega)
 have h1':cs[1]?=some (cs[1]'(by omega)):=Array.getElem?_eq_getElem (by omega)
 refine ⟨g,cs,cs[0]'(by omega),cs[1]'(by omega),hm,hg,?_,h1 p (by simp),h1 x (by simp),hr 0 _ _ h0 rfl,hr 1 _ _ h1' rfl⟩
 apply Array.ext'
 apply List.ext_getElem?
 intro j
 match j with
 | 0=>simp
 | 1=>simp
 | j+2=>simp;omega
theorem copy_used [Tabs] {f:FuncId} {e:TypeId} (hcall:∀ (b:Nat) (w:World),w.cell? ⟨b,0,none⟩=some (.pointer (some ⟨b,0,none⟩))→Calls P f #[.pointer (some ⟨b,0,none⟩)] w fun e w'=>e=.returned (.tuple #[])∧w'=w) (hfn:FnOk P f) {id nx:Nat} {H:Heap} {x:AV} (hid:lkH H id=.cells e [.ptr id 0,x]) :
  CallSem P f [.ptr id 0] H nx [id] (fun r=>r=⟨.tup [],[id],[],nx⟩):=by
 refine ⟨hfn,fun m S w H₂ vs hG ht _ hlen hrel=>?_⟩
 obtain ⟨g,cs,u,v,hm,hg,rfl,_,_,hu,_⟩:=bld_cells hG (ht id (by simp)) hid
 have ptr:∀ {q:Value},RelV m S w q (.ptr id 0)→q=.pointer (some ⟨g,0,none⟩):=by
  intro q hq
  cases hq with
  | t _ _ h=>cases h
  | ptr _ _ g' hm'=>rw [hm] at hm';cases hm';rfl
 match vs,hlen with
 | [q],_ =>
  rw [ptr (hrel 0 q _ rfl rfl)]
  have h0:w.cell? ⟨g,0,none⟩=some (.pointer (some ⟨g,0,none⟩)):=by rw [Lib.cell_of_heap hg,ptr hu];rfl
  refine (hcall g w h0).mono ?_
  rintro _ w' ⟨rfl,rfl⟩
  exact ⟨_,_,m,S,rfl,rfl,Ext.refl hG nx,.t _ _ (.tup #[] [] rfl (fun j c a hj=>by simp at hj))⟩
theorem copy_fresh [Tabs] {f:FuncId} {e:TypeId} (hcall:∀ (b:Nat) (w:World),w.cell? ⟨b,0,none⟩=some (.pointer none)→w.shape? b=some (e,2)→w.frozen? ⟨b,0,none⟩=false→Calls P f #[.pointer (some ⟨b,0,none⟩)] w fun e w'=>e=.returned (.tuple #[])∧w'=w.setCell ⟨b,0,none⟩ (.pointer (some ⟨b,0,none⟩))) (hfn:FnOk P f) {id nx:Nat} {H:Heap} {x:AV} (hid:lkH H id=.cells e [.nilp,x]) :
  CallSem P f [.ptr id 0] H nx [id] (fun r=>r=⟨.tup [],[id],[(id,.cells e [.ptr id 0,x])],nx⟩):=by
 refine ⟨hfn,fun m S w H₂ vs hG ht _ hlen hrel=>?_⟩
 have ht':=ht id (by simp)
 obtain ⟨g,cs,u,v,hm,hg,rfl,_,hx1,hu,hv⟩:=bld_cells hG ht' hid
 have hlive:(lkH H₂ id).live=true:=by rw [ht',hid];rfl
 have hnS:∀ k,S k→k≠g:=fun k hk e=>(hG.ro k hk).2 id _ hlive hm (by rw [e];rfl)
 match vs,hlen with
 | [q],_ =>
  have hq:q=.pointer (some ⟨g,0,none⟩):=by
   have:=hrel 0 q _ rfl rfl
   cases this with
   | t _ _ h=>cases h
   | ptr _ _ g' hm'=>rw [hm] at hm';cases hm';rfl
  have hu0:u=.pointer none:=by
   cases hu with
   | t _ _ h=>cases h;rfl
  subst hq
  subst hu0
  have h0:w.cell? ⟨g,0,none⟩=some (.pointer none):=by rw [Lib.cell_of_heap hg];rfl
  refine (hcall g w h0 (by simp [World.shape?,hg]) (Lib.frozen_of_heap hg 0)).mono ?_
  rintro _ w' ⟨rfl,rfl⟩
  have hg':(w.setCell ⟨g,0,none⟩ (.pointer (some ⟨g,0,none⟩))).heap[g]?=some (.cells #[.pointer (some ⟨g,0,none⟩),v] e (0,0)):=by
   simp [World.setCell,Array.getElem?_modify,hg]
  have hother:∀ k,k≠g→(w.setCell ⟨g,0,none⟩ (.pointer (some ⟨g,0,none⟩))).heap[k]?=w.heap[k]?:=fun k hk=>RowKit.Below.heap_setCell w ⟨g,0,none⟩ _ k hk
  refine ⟨_,_,m,S,rfl,rfl,ext_upd (k0:=g) hG hlive hm rfl _ _ rfl rfl rfl (by simp [World.setCell]) (fun k _ hk=>hother k hk) ⟨g,_,hm,hg',rfl,?_,?_⟩,.t _ _ (.tup #[] [] rfl (fun j c a hj=>by simp at hj))⟩
  ·intro a ha
   simp at ha
   rcases ha with rfl | rfl
   ·rfl
   ·exact hx1
  ·intro j c a hj ha
   match j,hj,ha with
   | 0,hj,ha=>simp at hj ha;subst hj;subst ha;exact .ptr id 0 g hm
   | 1,hj,ha=>simp at hj ha;subst hj;subst ha;exact hv.mono (fun _ _ h=>h) (fun _ h=>h) (fun k hk=>hother k (hnS k hk))
theorem callio_one [Tabs] {P:Program} {f:FuncId} {avs args:List AV} {H:Heap} {nx:Nat} {bs b0:List AB} {r0:List AR} (hc:AIO P f args bs (fun b rs=>b=b0∧rs=r0)) (ids t:List Nat) (hnd:nodupB ids=true) (hlive:livesB bs=true) (hso:sameObjs H ids bs)
  (hb:BorL (BorIO H ids) avs args t) (hdis:disjB t ids=true) (hflat:t=[]∨((∀ r∈r0,r.flat)∧∀ x∈b0,AR.flat (.new x))) :
  CallSem P f avs H nx (ids++t) (fun r=>r=⟨valR (tv r0 nx),ids++t,tw r0 nx++zipH ids b0,tn r0 nx⟩):=by
 have h:=callio_sem (nx:=nx) hc ids t hnd hlive hso hb hdis (by
  rcases hflat with h | h
  ·exact .inl h
  ·exact .inr fun b rs hr=>by obtain ⟨rfl,rfl⟩:=hr;exact h)
 have e:(fun r:Res=>∃ b rs,(b=b0∧rs=r0)∧r=⟨valR (tv rs nx),ids++t,tw rs nx++zipH ids b,tn rs nx⟩)=(fun r=>r=⟨valR (tv r0 nx),ids++t,tw r0 nx++zipH ids b0,tn r0 nx⟩):=by
  funext r
  apply propext
  constructor
  ·rintro ⟨b,rs,⟨rfl,rfl⟩,rfl⟩
   rfl
  ·rintro rfl
   exact ⟨b0,r0,⟨rfl,rfl⟩,rfl⟩
 rw [e] at h
 exact h
inductive ObjEq:AB→AB→Prop
 | refl (b:AB):ObjEq b b
 | smap {V W:Type} (ev:V→AV) (dv:V) (es:List (List UInt8×V)) (ev':W→AV) (dv':W) (es':List (List UInt8×W)) (h:es=[]) (h':es'=[]):ObjEq (.smap ev dv es) (.smap ev' dv' es')
 | imap {V W:Type} (k:IntKind) (ev:V→AV) (dv:V) (es:List (Int×V)) (ev':W→AV) (dv':W) (es':List (Int×W)) (h:es=[]) (h':es'=[]):ObjEq (.imap k ev dv es) (.imap k ev' dv' es')
 | newimap {V W:Type} (k:IntKind) (ev:V→AV) (dv:V) (es:List (List UInt8×V)) (ev':W→AV) (dv':W) (es':List (Int×W)) (h:es=[]) (h':es'=[]):ObjEq (.smap ev dv es) (.imap k ev' dv' es')
 | newsmap {V W:Type} (k:IntKind) (ev:V→AV) (dv:V) (es:List (List UInt8×V)) (ev':W→AV) (dv':W) (es':List (Int×W)) (h:es=[]) (h':es'=[]):ObjEq (.imap k ev' dv' es') (.smap ev dv es)
 | newgmap {V W:Type} (k:List KK) (ev:V→AV) (dv:V) (es:List (List UInt8×V)) (ev':W→AV) (dv':W) (es':List (List KV×W)) (h:es=[]) (h':es'=[]):ObjEq (.smap ev dv es) (.gmap k ev' dv' es')
 | gnewsmap {V W:Type} (k:List KK) (ev:V→AV) (dv:V) (es:List (List UInt8×V)) (ev':W→AV) (dv':W) (es':List (List KV×W)) (h:es=[]) (h':es'=[]):ObjEq (.gmap k ev' dv' es') (.smap ev dv es)
theorem ObjEq.symm {a b:AB} (h:ObjEq a b):ObjEq b a:=by
 cases h with
 | refl=>exact .refl _
 | smap ev dv es ev' dv' es' h h'=>exact .smap _ _ _ _ _ _ h' h
 | imap k ev dv es ev' dv' es' h h'=>exact .imap _ _ _ _ _ _ _ h' h
 | newimap k ev dv es ev' dv' es' h h'=>exact .newsmap _ _ _ _ _ _ _ h h'
 | newsmap k ev dv es ev' dv' es' h h'=>exact .newimap _ _ _ _ _ _ _ h h'
 | newgmap k ev dv es ev' dv' es' h h'=>exact .gnewsmap _ _ _ _ _ _ _ h h'
 | gnewsmap k ev dv es ev' dv' es' h h'=>exact .newgmap _ _ _ _ _ _ _ h h'
theorem ObjEq.live {a b:AB} (h:ObjEq a b):a.live=b.live:=by cases h<;>rfl
theorem ObjEq.rel {a b:AB} (h:ObjEq a b) {m:Ids} {S:Blocks} {w:World} {id:Nat} (hr:RelB m S w id a):RelB m S w id b:=by
 cases h with
 | refl=>exact hr
 | smap ev dv es ev' dv' es' h h' =>
  subst h;subst h'
  obtain ⟨r,en,c,h1,h2,h3,h4,_⟩:=hr
  exact ⟨r,en,c,h1,h2,h3,h4,fun j x p _ hp=>by simp at hp⟩
 | imap k ev dv es ev' dv' es' h h' =>
  subst h;subst h'
  obtain ⟨r,en,c,h1,h2,h3,h4,_⟩:=hr
  exact ⟨r,en,c,h1,h2,h3,h4,fun j x p _ hp=>by simp at hp⟩
 | newimap k ev dv es ev' dv' es' h h' =>
  subst h;subst h'
  obtain ⟨r,en,c,h1,h2,h3,h4,_⟩:=hr
  exact ⟨r,en,c,h1,h2,h3,h4,fun j x p _ hp=>by simp at hp⟩
 | newsmap k ev dv es ev' dv' es' h h' =>
  subst h;subst h'
  obtain ⟨r,en,c,h1,h2,h3,h4,_⟩:=hr
  exact ⟨r,en,c,h1,h2,h3,h4,fun j x p _ hp=>by simp at hp⟩
 | newgmap k ev dv es ev' dv' es' h h' =>
  subst h;subst h'
  obtain ⟨r,en,c,h1,h2,h3,h4,_⟩:=hr
  exact ⟨r,en,c,h1,h2,h3,h4,fun j x p _ hp=>by simp at hp⟩
 | gnewsmap k ev dv es ev' dv' es' h h' =>
  subst h;subst h'
  obtain ⟨r,en,c,h1,h2,h3,h4,_⟩:=hr
  exact ⟨r,en,c,h1,h2,h3,h4,fun j x p _ hp=>by simp at hp⟩
def HeapEq (H H':Heap):Prop:=∀ id,ObjEq (lkH H id) (lkH H' id)
theorem HeapEq.symm {H H':Heap} (h:HeapEq H H'):HeapEq H' H:=fun id=>(h id).symm
theorem HeapEq.app {H H':Heap} (h:HeapEq H H'):∀ A:Heap,HeapEq (A++H) (A++H')
 | [],id=>h id
 | (i,b)::A,id=>by
  show ObjEq (lkH ((i,b)::(A++H)) id) (lkH ((i,b)::(A++H')) id)
  rw [lkH_cons,lkH_cons]
  split
  ·exact .refl _
  ·exact h.app A id
theorem HeapEq.good [Tabs] {H H':Heap} (h:HeapEq H H') {m:Ids} {S:Blocks} {w:World} (hg:Good m S w H):Good m S w H' :=
 ⟨fun id=>(h id).rel (hg.rel id),fun i j vi vj k hi hj=>hg.sep i j vi vj k (by rw [(h i).live];exact hi) (by rw [(h j).live];exact hj),fun g hgg=>⟨(hg.ro g hgg).1,fun i v hl=>(hg.ro g hgg).2 i v (by rw [(h i).live];exact hl)⟩,hg.tab⟩
theorem HeapEq.own {H H':Heap} (h:HeapEq H H') {m:Ids} {k:Nat} (ho:Own.own m H k):Own.own m H' k:=by
 obtain ⟨i,v,hl,h1,h2⟩:=ho
 exact ⟨i,v,by rw [← (h i).live];exact hl,h1,h2⟩
theorem HeapEq.ext [Tabs] {H H':Heap} (h:HeapEq H H') {m:Ids} {S:Blocks} {w:World} {nx nx':Nat} {m':Ids} {S':Blocks} {w':World} {A:Heap} (hE:Ext m S w H nx nx' m' S' w' (A++H)):Ext m S w H' nx nx' m' S' w' (A++H'):=by
 refine ⟨hE.ids,hE.same,hE.ros,fun g hg=>?_,⟨hE.far.os,hE.far.tape,hE.far.output,hE.far.size,fun k hk hn=>hE.far.block k hk fun ho=>hn (h.own ho)⟩,fun k hk=>?_,(h.app A).good hE.good⟩
 ·rcases hE.fresh g hg with h1 | h1 | h1
  ·exact .inl h1
  ·exact .inr (.inl (h.own h1))
  ·exact .inr (.inr h1)
 ·rcases hE.owns k ((h.app A).symm.own hk) with h1 | h1
  ·exact .inl (h.own h1)
  ·exact .inr h1
theorem callSemX_made [Tabs] {P:Program} {f:FuncId} {avs:List AV} {H H':Heap} {nx:Nat} {t:List Nat} {Rr:Res→Prop} {Px:List PanicEntry→Prop} (h:CallSemX P f avs H' nx t Rr Px) (he:∀ id∈t,ObjEq (lkH H id) (lkH H' id)):CallSemX P f avs H nx t Rr Px:=by
 refine ⟨h.1,fun m S w H₂ vs hG ht hf hl hv=>?_⟩
 have hq:HeapEq H₂ (restr H' t++H₂):=fun id=>by
  by_cases hi:id∈t
  ·rw [lkH_restr_app' hi,ht id hi]
   exact he id hi
  ·rw [lkH_restr_app hi]
   exact .refl _
 refine (h.2 m S w (restr H' t++H₂) vs (hq.good hG) (fun id hi=>lkH_restr_app' hi) hf hl hv).mono ?_
 rintro e w' (⟨v,r,m',S',h1,h2,hE,h4⟩ | ⟨ch,m',S',wr,h1,h2,hE⟩)
 ·exact .inl ⟨v,r,m',S',h1,h2,hq.symm.ext hE,h4⟩
 ·exact .inr ⟨ch,m',S',wr,h1,h2,hq.symm.ext hE⟩
theorem CallSemX.calm [Tabs] {P:Program} {f:FuncId} {avs:List AV} {H:Heap} {nx:Nat} {t:List Nat} {Rr:Res→Prop} {Px:List PanicEntry→Prop} (h:CallSemX P f avs H nx t Rr Px) (hp:∀ ch,¬ Px ch):CallSem P f avs H nx t Rr:=by
 refine ⟨h.1,fun m S w H₂ vs hG ht hf hl hv=>(h.2 m S w H₂ vs hG ht hf hl hv).mono ?_⟩
 rintro e w' (h | ⟨ch,m',S',wr,h1,h2,hE⟩)
 ·exact h
 ·exact (hp ch h2).elim
theorem CallSem.toX [Tabs] {P:Program} {f:FuncId} {avs:List AV} {H:Heap} {nx:Nat} {t:List Nat} {Rr:Res→Prop} {Px:List PanicEntry→Prop} (h:CallSem P f avs H nx t Rr):CallSemX P f avs H nx t Rr Px :=
 ⟨h.1,fun m S w H₂ vs hG ht hf hl hv=>(h.2 m S w H₂ vs hG ht hf hl hv).mono fun _ _ h=>.inl h⟩
theorem CallSemX.mono [Tabs] {P:Program} {f:FuncId} {avs:List AV} {H:Heap} {nx:Nat} {t:List Nat} {Rr Rr':Res→Prop} {Px Px':List PanicEntry→Prop} (h:CallSemX P f avs H nx t Rr Px) (hr:∀ r,Rr r→Rr' r) (hp:∀ ch,Px ch→Px' ch):CallSemX P f avs H nx t Rr' Px' :=
 ⟨h.1,fun m S w H₂ vs hG ht hf hl hv=>(h.2 m S w H₂ vs hG ht (fun i hi ⟨r,h1,h2⟩=>hf i hi ⟨r,hr r h1,h2⟩) hl hv).mono fun _ _ h=>h.imp (fun ⟨v,r,m',S',h1,h2,h3⟩=>⟨v,r,m',S',h1,hr r h2,h3⟩) fun ⟨ch,m',S',wr,h1,h2,h3⟩=>⟨ch,m',S',wr,h1,hp ch h2,h3⟩⟩
def rnI:List Nat→Nat→Nat→Nat
 | [],nx,i=>nx+i
 | a::_,_,0=>a
 | _::l,nx,i+1=>rnI l nx i
theorem rnI_lt:∀ {ids:List Nat} {nx i:Nat},i<ids.length→ids[i]?=some (rnI ids nx i)
 | [],_,_,h=>by simp at h
 | _::_,_,0,_=>rfl
 | _::l,nx,i+1,h=>by
  rw [List.getElem?_cons_succ]
  exact rnI_lt (by simpa using h)
theorem rnI_ge:∀ {ids:List Nat} {nx i:Nat},ids.length≤i→rnI ids nx i=nx+(i-ids.length)
 | [],nx,i,_=>by simp [rnI]
 | _::l,nx,0,h=>by simp at h
 | _::l,nx,i+1,h=>by
  rw [rnI,rnI_ge (by simpa using h)]
  simp
theorem rnI_inj {ids:List Nat} {nx i j:Nat} (hn:ids.Nodup) (hlt:∀ x∈ids,x<nx) (h:rnI ids nx i=rnI ids nx j):i=j:=by
 by_cases hi:i<ids.length<;>by_cases hj:j<ids.length
 ·have h1:=rnI_lt (nx:=nx) hi
  have h2:=rnI_lt (nx:=nx) hj
  rw [h] at h1
  rw [List.getElem?_eq_getElem hi] at h1
  rw [List.getElem?_eq_getElem hj] at h2
  simp only [Option.some.injEq] at h1 h2
  exact (List.getElem_inj hn).1 (h1.trans h2.symm)
 ·have h1:=hlt _ (List.mem_of_getElem? (rnI_lt (nx:=nx) hi))
  rw [rnI_ge (i:=j) (by omega)] at h
  omega
 ·have h1:=hlt _ (List.mem_of_getElem? (rnI_lt (nx:=nx) hj))
  rw [rnI_ge (i:=i) (by omega)] at h
  omega
 ·rw [rnI_ge (i:=i) (by omega),rnI_ge (i:=j) (by omega)] at h
  omega
def renA0 (σ:Nat→Nat):AV→AV
 | .ptr i o=>.ptr (σ i) o
 | .eptr i E j o=>.eptr (σ i) E j o
 | .own i=>.own (σ i)
 | .pre i l=>.pre (σ i) l
 | .part i E o l=>.part (σ i) E o l
 | .map i=>.map (σ i)
 | .qptr i E j=>.qptr (σ i) E j
 | .csl i n=>.csl (σ i) n
 | a=>a
def renA (σ:Nat→Nat):AV→AV
 | .agg l=>.agg (l.map (renA0 σ))
 | .tup l=>.tup (l.map (renA0 σ))
 | .fn f l l'=>.fn f (l.map (renA0 σ)) (l'.map (renA0 σ))
 | a=>renA0 σ a
def renB (σ:Nat→Nat):AB→AB
 | .cells e l=>.cells e (l.map (renA σ))
 | b=>b
theorem renB_live (σ:Nat→Nat) (b:AB):(renB σ b).live=b.live:=by cases b<;>rfl
theorem renA_one (σ:Nat→Nat) (a:AV):(renA σ a).one=a.one:=by cases a<;>rfl
theorem relV_ren0 {m m2:Ids} {S:Blocks} {w:World} {v:Value} {a:AV} {σ:Nat→Nat} {t:List Nat} (h:RelV m S w v a) (ho:okA0 t a=true) (hm:∀ i∈t,∀ u,m i=some u→m2 (σ i)=some u):RelV m2 S w v (renA0 σ a):=by
 cases a with
 | ptr i o=>cases h with | t _ _ h=>cases h | ptr _ _ g hi=>exact .ptr _ o g (hm i (okI_spec ho) _ hi)
 | eptr i E j o=>cases h with | t _ _ h=>cases h | eptr _ _ _ _ g n c hi=>exact .eptr _ E j o g n c (hm i (okI_spec ho) _ hi)
 | own i=>cases h with | t _ _ h=>cases h | own _ n c a hi=>exact .own _ n c a (hm i (okI_spec ho) _ hi)
 | pre i l=>cases h with | t _ _ h=>cases h | pre _ _ n c a hi hle=>exact .pre _ l n c a (hm i (okI_spec ho) _ hi) hle
 | part i E o l=>cases h with
  | t _ _ h=>cases h
  | part _ _ _ _ g n cap c hi hle hc=>exact .part _ E o l g n cap c (hm i (okI_spec ho) _ hi) hle hc
  | partE _ _ _ c g n cap hi=>exact .partE _ E o c g n cap (hm i (okI_spec ho) _ hi)
  | partN=>exact .partN _ E o
 | map i=>cases h with | t _ _ h=>cases h | map _ r hi=>exact .map _ r (hm i (okI_spec ho) _ hi)
 | qptr i E j=>cases h with | t _ _ h=>cases h | qptr _ _ _ g o n c hi=>exact .qptr _ E j g o n c (hm i (okI_spec ho) _ hi)
 | csl i n=>cases h with | t _ _ h=>cases h | csl _ _ g hi=>exact .csl _ n g (hm i (okI_spec ho) _ hi)
 | _=>exact .t _ _ (h.toT1 ho)
theorem relV_unren0 {m m2:Ids} {S:Blocks} {w:World} {v:Value} {a:AV} {σ:Nat→Nat} {t:List Nat} (h:RelV m2 S w v (renA0 σ a)) (ho:okA0 t a=true) (hm:∀ i∈t,∀ u,m2 (σ i)=some u→m i=some u):RelV m S w v a:=by
 cases a with
 | ptr i o=>cases h with | t _ _ h=>cases h | ptr _ _ g hi=>exact .ptr _ o g (hm i (okI_spec ho) _ hi)
 | eptr i E j o=>cases h with | t _ _ h=>cases h | eptr _ _ _ _ g n c hi=>exact .eptr _ E j o g n c (hm i (okI_spec ho) _ hi)
 | own i=>cases h with | t _ _ h=>cases h | own _ n c a hi=>exact .own _ n c a (hm i (okI_spec ho) _ hi)
 | pre i l=>cases h with | t _ _ h=>cases h | pre _ _ n c a hi hle=>exact .pre _ l n c a (hm i (okI_spec ho) _ hi) hle
 | part i E o l=>cases h with
  | t _ _ h=>cases h
  | part _ _ _ _ g n cap c hi hle hc=>exact .part _ E o l g n cap c (hm i (okI_spec ho) _ hi) hle hc
  | partE _ _ _ c g n cap hi=>exact .partE _ E o c g n cap (hm i (okI_spec ho) _ hi)
  | partN=>exact .partN _ E o
 | map i=>cases h with | t _ _ h=>cases h | map _ r hi=>exact .map _ r (hm i (okI_spec ho) _ hi)
 | qptr i E j=>cases h with | t _ _ h=>cases h | qptr _ _ _ g o n c hi=>exact .qptr _ E j g o n c (hm i (okI_spec ho) _ hi)
 | csl i n=>cases h with | t _ _ h=>cases h | csl _ _ g hi=>exact .csl _ n g (hm i (okI_spec ho) _ hi)
 | _=>exact .t _ _ (RelV.toT1 (m:=m2) h ho)
theorem map_get {α β:Type _} {f:α→β} {l:List α} {j:Nat} {b:β} (h:(l.map f)[j]?=some b):∃ a,l[j]?=some a∧f a=b:=by
 rw [List.getElem?_map,Option.map_eq_some_iff] at h
 exact h
theorem relV_ren {m m2:Ids} {S:Blocks} {w:World} {v:Value} {a:AV} {σ:Nat→Nat} {t:List Nat} (h:RelV m S w v a) (ho:okA t a=true) (hm:∀ i∈t,∀ u,m i=some u→m2 (σ i)=some u):RelV m2 S w v (renA σ a):=by
 have each:∀ (l:List AV) (cs:Array Value),l.all (okA0 t)=true→(∀ (j:Nat) (c:Value) (a:AV),cs[j]?=some c→l[j]?=some a→RelV m S w c a)→∀ (j:Nat) (c:Value) (a:AV),cs[j]?=some c→(l.map (renA0 σ))[j]?=some a→RelV m2 S w c a:=by
  intro l cs ho hr j c a hj ha
  obtain ⟨a0,h0,rfl⟩:=map_get ha
  exact relV_ren0 (hr j c a0 hj h0) (List.all_eq_true.1 ho a0 (List.mem_of_getElem? h0)) hm
 cases a with
 | agg l =>
  obtain ⟨cs,rfl,hl,hr⟩:=relV_agg h
  exact .agg cs _ (by simpa using hl) (each l cs ho hr)
 | tup l =>
  cases h with
  | t _ _ h=>cases h with
   | tup cs _ hl hr=>exact .tup cs _ (by simpa using hl) (each l cs ho fun j c a p q=>.t _ _ (hr j c a p q))
  | tup cs _ hl hr=>exact .tup cs _ (by simpa using hl) (each l cs ho hr)
 | fn f l l' =>
  have ho':l.all (okA0 t)=true∧l'.all (okA0 t)=true:=by
   have:(l.all (okA0 t)&&l'.all (okA0 t))=true:=ho
   simpa only [Bool.and_eq_true] using this
  obtain ⟨fs,cs,rfl,hl,hl',r1,r2⟩:=relV_fn h
  exact .fn f fs cs _ _ (by simpa using hl) (by simpa using hl') (each l fs ho'.1 r1) (each l' cs ho'.2 r2)
 | _=>exact relV_ren0 h ho hm
theorem relV_unren {m m2:Ids} {S:Blocks} {w:World} {v:Value} {a:AV} {σ:Nat→Nat} {t:List Nat} (h:RelV m2 S w v (renA σ a)) (ho:okA t a=true) (hm:∀ i∈t,∀ u,m2 (σ i)=some u→m i=some u):RelV m S w v a:=by
 have each:∀ (l:List AV) (cs:Array Value),l.all (okA0 t)=true→(∀ (j:Nat) (c:Value) (a:AV),cs[j]?=some c→(l.map (renA0 σ))[j]?=some a→RelV m2 S w c a)→∀ (j:Nat) (c:Value) (a:AV),cs[j]?=some c→l[j]?=some a→RelV m S w c a:=by
  intro l cs ho hr j c a hj ha
  exact relV_unren0 (hr j c _ hj (by rw [List.getElem?_map,ha];rfl)) (List.all_eq_true.1 ho a (List.mem_of_getElem? ha)) hm
 cases a with
 | agg l =>
  obtain ⟨cs,rfl,hl,hr⟩:=relV_agg h
  exact .agg cs _ (by simpa using hl) (each l cs ho hr)
 | tup l =>
  cases h with
  | t _ _ h=>cases h with
   | tup cs _ hl hr=>exact .tup cs _ (by simpa using hl) (each l cs ho fun j c a p q=>.t _ _ (hr j c a p q))
  | tup cs _ hl hr=>exact .tup cs _ (by simpa using hl) (each l cs ho hr)
 | fn f l l' =>
  have ho':l.all (okA0 t)=true∧l'.all (okA0 t)=true:=by
   have:(l.all (okA0 t)&&l'.all (okA0 t))=true:=ho
   simpa only [Bool.and_eq_true] using this
  obtain ⟨fs,cs,rfl,hl,hl',r1,r2⟩:=relV_fn h
  exact .fn f fs cs _ _ (by simpa using hl) (by simpa using hl') (each l fs ho'.1 r1) (each l' cs ho'.2 r2)
 | _=>exact relV_unren0 h ho hm
theorem relB_ren {m m2:Ids} {S:Blocks} {w:World} {id:Nat} {b:AB} {σ:Nat→Nat} {t:List Nat} (h:RelB m S w id b) (ho:okB t b=true) (hid:id∈t) (hm:∀ i∈t,∀ u,m i=some u→m2 (σ i)=some u):RelB m2 S w (σ id) (renB σ b):=by
 cases b with
 | dead=>trivial
 | cells e l =>
  have hall:=List.all_eq_true.1 (show l.all (okA t)=true from ho)
  obtain ⟨g,cs,hmi,hg,hl,h1,hr⟩:=h
  refine ⟨g,cs,hm _ hid _ hmi,hg,by simpa using hl,fun a ha=>?_,fun j c a p q=>?_⟩
  ·obtain ⟨a0,h0,rfl⟩:=List.mem_map.1 ha
   rw [renA_one]
   exact h1 a0 h0
  ·obtain ⟨a0,h0,rfl⟩:=map_get q
   exact relV_ren (hr j c a0 p h0) (hall a0 (List.mem_of_getElem? h0)) hm
 | lst e E l=>obtain ⟨v,vs,hmi,hr⟩:=h;exact ⟨v,vs,hm _ hid _ hmi,hr⟩
 | row e E enc d xs=>obtain ⟨v,vs,hmi,hr⟩:=h;exact ⟨v,vs,hm _ hid _ hmi,hr⟩
 | smap ev dv es=>obtain ⟨r,en,c,hmi,hr⟩:=h;exact ⟨r,en,c,hm _ hid _ hmi,hr⟩
 | imap k ev dv es=>obtain ⟨r,en,c,hmi,hr⟩:=h;exact ⟨r,en,c,hm _ hid _ hmi,hr⟩
 | gmap k ev dv es=>obtain ⟨r,en,c,hmi,hr⟩:=h;exact ⟨r,en,c,hm _ hid _ hmi,hr⟩
 | arr e k n f=>obtain ⟨g,cs,hmi,hr⟩:=h;exact ⟨g,cs,hm _ hid _ hmi,hr⟩
 | que e E enc d xs=>obtain ⟨g,o,c,cur,hmi,hr⟩:=h;exact ⟨g,o,c,cur,hm _ hid _ hmi,hr⟩
theorem relB_unren {m m2:Ids} {S:Blocks} {w:World} {id:Nat} {b:AB} {σ:Nat→Nat} {t:List Nat} (h:RelB m2 S w (σ id) (renB σ b)) (ho:okB t b=true) (hid:id∈t) (hm:∀ i∈t,∀ u,m2 (σ i)=some u→m i=some u):RelB m S w id b:=by
 cases b with
 | dead=>trivial
 | cells e l =>
  have hall:=List.all_eq_true.1 (show l.all (okA t)=true from ho)
  obtain ⟨g,cs,hmi,hg,hl,h1,hr⟩:=h
  refine ⟨g,cs,hm _ hid _ hmi,hg,by simpa using hl,fun a ha=>?_,fun j c a p q=>?_⟩
  ·have:=h1 (renA σ a) (List.mem_map_of_mem ha)
   rwa [renA_one] at this
  ·exact relV_unren (hr j c _ p (by rw [List.getElem?_map,q];rfl)) (hall a (List.mem_of_getElem? q)) hm
 | lst e E l=>obtain ⟨v,vs,hmi,hr⟩:=h;exact ⟨v,vs,hm _ hid _ hmi,hr⟩
 | row e E enc d xs=>obtain ⟨v,vs,hmi,hr⟩:=h;exact ⟨v,vs,hm _ hid _ hmi,hr⟩
 | smap ev dv es=>obtain ⟨r,en,c,hmi,hr⟩:=h;exact ⟨r,en,c,hm _ hid _ hmi,hr⟩
 | imap k ev dv es=>obtain ⟨r,en,c,hmi,hr⟩:=h;exact ⟨r,en,c,hm _ hid _ hmi,hr⟩
 | gmap k ev dv es=>obtain ⟨r,en,c,hmi,hr⟩:=h;exact ⟨r,en,c,hm _ hid _ hmi,hr⟩
 | arr e k n f=>obtain ⟨g,cs,hmi,hr⟩:=h;exact ⟨g,cs,hm _ hid _ hmi,hr⟩
 | que e E enc d xs=>obtain ⟨g,o,c,cur,hmi,hr⟩:=h;exact ⟨g,o,c,cur,hm _ hid _ hmi,hr⟩
def rowH:Nat→List AB→Heap
 | _,[]=>[]
 | n,b::l=>(n,b)::rowH (n+1) l
def objsOf (H:Heap):Nat→Nat→List AB
 | _,0=>[]
 | a,k+1=>lkH H a::objsOf H (a+1) k
theorem objsOf_len (H:Heap):∀ (k a:Nat),(objsOf H a k).length=k
 | 0,_=>rfl
 | k+1,a=>by simp [objsOf,objsOf_len H k]
theorem objsOf_get (H:Heap):∀ (k a i:Nat),i<k→(objsOf H a k).getD i .dead=lkH H (a+i)
 | 0,_,i,h=>by omega
 | k+1,a,0,_=>by simp [objsOf]
 | k+1,a,i+1,h=>by
  rw [objsOf,List.getD_cons_succ,objsOf_get H k (a+1) i (by omega)]
  congr 1
  omega
theorem lkH_num_at:∀ (bs:List AB) (n:Nat) (H:Heap) (i:Nat),i<bs.length→lkH (rowH n bs++H) (n+i)=bs.getD i .dead
 | [],_,_,i,h=>by simp at h
 | b::bs,n,H,0,_=>by
  show lkH ((n,b)::(rowH (n+1) bs++H)) (n+0)=_
  rw [lkH_cons,if_pos (by omega)]
  simp
 | b::bs,n,H,i+1,h=>by
  show lkH ((n,b)::(rowH (n+1) bs++H)) (n+(i+1))=_
  rw [lkH_cons,if_neg (by omega),List.getD_cons_succ,← lkH_num_at bs (n+1) H i (by simpa using h)]
  congr 1
  omega
theorem lkH_num_no:∀ (bs:List AB) (n:Nat) (H:Heap) (j:Nat),¬ (n≤j∧j<n+bs.length)→lkH (rowH n bs++H) j=lkH H j
 | [],_,_,_,_=>rfl
 | b::bs,n,H,j,h=>by
  show lkH ((n,b)::(rowH (n+1) bs++H)) j=_
  simp only [List.length_cons] at h
  rw [lkH_cons,if_neg (by omega)]
  exact lkH_num_no bs (n+1) H j (by omega)
theorem getD_map_ab (f:AB→AB) (hf:f .dead=.dead) (l:List AB) (i:Nat):(l.map f).getD i .dead=f (l.getD i .dead):=by
 simp only [List.getD,List.getElem?_map]
 cases l[i]?<;>simp [hf]
def RioR (R:List AV→List AB→List AB→Prop) (p:Nat) (ids:List Nat) (nx:Nat):Res→Prop:=fun r =>
 ∃ vs bs es,R vs bs es∧bs.length=(ids.take p).length∧r=⟨valR (vs.map (renA (rnI (ids.take p) nx))),ids,zipH (ids.take p) (bs.map (renB (rnI (ids.take p) nx)))++deads (ids.drop p) (rowH nx (es.map (renB (rnI (ids.take p) nx)))),nx+es.length⟩
def RIO [Tabs] (P:Program) (f:FuncId) (avs:List AV) (objs:List AB) (p:Nat) (R:List AV→List AB→List AB→Prop):Prop :=
 ∀ (H:Heap) (nx:Nat) (ids:List Nat),ids.length=objs.length→ids.Nodup→(∀ i∈ids,i<nx)→(∀ k id,ids[k]?=some id→ObjEq (lkH H id) (renB (rnI ids nx) (objs.getD k .dead))) →
  CallSem P f (avs.map (renA (rnI ids nx))) H nx ids (RioR R p ids nx)
def RIOX [Tabs] (P:Program) (f:FuncId) (avs:List AV) (objs:List AB) (p:Nat) (R:List AV→List AB→List AB→Prop) (Px:List PanicEntry→Prop):Prop :=
 ∀ (H:Heap) (nx:Nat) (ids:List Nat),ids.length=objs.length→ids.Nodup→(∀ i∈ids,i<nx)→(∀ k id,ids[k]?=some id→ObjEq (lkH H id) (renB (rnI ids nx) (objs.getD k .dead))) →
  CallSemX P f (avs.map (renA (rnI ids nx))) H nx ids (RioR R p ids nx) Px
theorem lkH_deads_app:∀ (ids:List Nat) (H H₂:Heap),deads ids H++H₂=deads ids (H++H₂)
 | [],_,_=>rfl
 | i::l,H,H₂=>by
  show (i,AB.dead)::(deads l H++H₂)=_
  rw [lkH_deads_app l H H₂]
  rfl
def endR (T:Tab) (n:Nat) (rs:List ResultVar) (R:List AV→List AB→List AB→Prop) (st:St):Prop :=
 Nat.ble n st.nx=true∧allB ((List.range st.nx).map fun i=>okB (List.range st.nx) (lkH st.heap i))=true ∧
  resI T st.env st.heap st.nx rs [] fun vs=>allB (vs.map (okA (List.range st.nx)))=true∧R vs (objsOf st.heap 0 n) (objsOf st.heap n (st.nx-n))
def retR [Tabs] (T:Tab) (pn N n:Nat) (rs:Array ResultVar) (R:List AV→List AB→List AB→Prop):Exit→St→Prop
 | .normal,st=>∃ st',Wk pn N st st'∧endR T n rs.toList R st'
 | .ret,st=>∃ st',Wk pn N st st'∧endR T n rs.toList R st'
 | _,_=>False
theorem riox_of [Tabs] {C : Cx} (hT : CxOk C) {f : FuncId} {fn : Func} {code : Code} {avs : List AV} {objs : List AB} {R : List AV → List AB → List AB → Prop} (hf : C.P.funcs[f]? = some fn) (hb : fn.body = some code) (hname : (fn.name == "runtime.NumGoroutine") = false)
  (hN:C.N=fn.ntmps) (hle:avs.length≤fn.ntmps) (hres:fn.results.size≤4)
  (hobj:allB (objs.map fun b=>b.live&&okB (List.range objs.length) b)=true) (hpn:Nat.ble C.pn objs.length=true) (hav:allB (avs.map (okA (List.range objs.length)))=true)
  (h:evCode C code ⟨argEnv avs 0,rowH 0 objs,objs.length⟩ (retR C.T C.pn C.N C.pn fn.results R)):RIOX C.P f avs objs C.pn R C.px:=by
 intro H nx ids hil hnd hlt hob
 have hpn:=Nat.le_of_ble_eq_true hpn
 refine callSemX_made (H':=zipH ids (objs.map (renB (rnI ids nx)))) ?_ (fun id hid=>?_)
 rotate_left
 ·obtain ⟨k,hk⟩:=List.getElem?_of_mem hid
  have:=lkH_zip_at (H:=[]) (bs:=objs.map (renB (rnI ids nx))) (by simpa using hil) hnd hk
  rw [List.append_nil] at this
  rw [this,getD_map_ab _ rfl]
  exact hob k id hk
 generalize hσd:rnI ids nx=σ
 generalize hτd:rnI (ids.take C.pn) nx=τ
 generalize hpd:C.pn=p at *
 generalize hnd':objs.length=n at *
 have htl:(ids.take p).length=p:=by rw [List.length_take];omega
 have hτ1:∀ i,i<p→(ids.take p)[i]?=some (τ i):=fun i hi=>by rw [← hτd];exact rnI_lt (by omega)
 have hτ2:∀ i,p≤i→τ i=nx+(i-p):=fun i hi=>by rw [← hτd,rnI_ge (by omega),htl]
 have hndt:(ids.take p).Nodup:=hnd.sublist (List.take_sublist _ _)
 have hltt:∀ i∈ids.take p,i<nx:=fun i hi=>hlt i (List.mem_of_mem_take hi)
 have hinjt:∀ i j,τ i=τ j→i=j:=fun i j e=>rnI_inj hndt hltt (by rw [hτd];exact e)
 have hσ1:∀ i,i<n→ids[i]?=some (σ i):=fun i hi=>by rw [← hσd];exact rnI_lt (by omega)
 have hσ2:∀ i,n≤i→σ i=nx+(i-n):=fun i hi=>by rw [← hσd,rnI_ge (by omega),hil]
 have hinj:∀ i j,σ i=σ j→i=j:=fun i j e=>rnI_inj hnd hlt (by rw [hσd];exact e)
 have hσl:∀ i,i<n→σ i∈ids∧σ i<nx:=fun i hi=>⟨List.mem_of_getElem? (hσ1 i hi),hlt _ (List.mem_of_getElem? (hσ1 i hi))⟩
 have hidx:∀ j∈ids,∃ i,i<n∧j=σ i:=fun j hj=>by
  obtain ⟨i,hi⟩:=List.getElem?_of_mem hj
  have hin:i<n:=by have:=(List.getElem?_eq_some_iff.1 hi).1;omega
  refine ⟨i,hin,?_⟩
  rw [hσ1 i hin] at hi
  cases hi
  rfl
 have hτσ:∀ i,i<p→τ i=σ i:=fun i hi=>by
  have h1:=hτ1 i hi
  rw [List.getElem?_take,if_pos hi,hσ1 i (by omega),Option.some.injEq] at h1
  exact h1.symm
 refine ⟨⟨fn,hf,by rw [hb];rfl,hname⟩,fun m S w H₂ vs hG ht hfree hlen hrel=>calls_of_wp hf hb ?_⟩
 have hcl:∀ i,i<n→lkH (rowH 0 objs) i=objs.getD i .dead:=fun i hi=>by
  have:=lkH_num_at objs 0 [] i (by omega)
  rwa [List.append_nil,Nat.zero_add] at this
 have hcn:∀ i,n≤i→lkH (rowH 0 objs) i=.dead:=fun i hi=>by
  have:=lkH_num_no objs 0 [] i (by omega)
  rw [List.append_nil] at this
  rw [this]
  rfl
 have ho1:∀ i,i<n→(objs.getD i .dead).live=true∧okB (List.range n) (objs.getD i .dead)=true:=fun i hi=>by
  have hm:objs.getD i .dead∈objs:=by
   have:i<objs.length:=by omega
   simp [List.getD,List.getElem?_eq_getElem this]
  have:=allB_spec hobj _ (List.mem_map_of_mem (f:=fun b=>b.live&&okB (List.range n) b) hm)
  simpa only [Bool.and_eq_true] using this
 have hlk:∀ i,i<n→lkH H₂ (σ i)=renB σ (lkH (rowH 0 objs) i):=fun i hi=>by
  rw [ht (σ i) (hσl i hi).1]
  have:=lkH_zip_at (H:=[]) (bs:=objs.map (renB σ)) (by simpa [hnd'] using hil) hnd (hσ1 i hi)
  rw [List.append_nil] at this
  rw [this,getD_map_ab _ rfl,hcl i hi]
 have hlv:∀ i,i<n→(lkH H₂ (σ i)).live=true:=fun i hi=>by rw [hlk i hi,renB_live,hcl i hi];exact (ho1 i hi).1
 have hmt:∀ i,i<n→∃ v,m (σ i)=some v:=fun i hi=>live_some (hG.rel _) (hlv i hi)
 let mc:Ids:=fun i=>if i<n then m (σ i) else none
 have hmc:∀ i,i<n→mc i=m (σ i):=fun i hi=>if_pos hi
 have hmn:∀ i,¬ i<n→mc i=none:=fun i hi=>if_neg hi
 have hown:∀ k,own mc (rowH 0 objs) k→∃ i,i<n∧∃ v,m (σ i)=some v∧blk v=some k:=by
  rintro k ⟨i,v,hl,hv,hk⟩
  have hi:i<n:=Classical.byContradiction fun h=>by rw [hmn i h] at hv;cases hv
  exact ⟨i,hi,v,by rw [← hmc i hi];exact hv,hk⟩
 have hGc:Good mc S w (rowH 0 objs):=by
  have up:∀ i v,(lkH (rowH 0 objs) i).live=true→mc i=some v→i<n∧m (σ i)=some v:=fun i v hl hv=>by
   have hi:i<n:=Classical.byContradiction fun h=>by rw [hmn i h] at hv;cases hv
   exact ⟨hi,by rw [← hmc i hi];exact hv⟩
  refine ⟨fun i=>?_,fun i j vi vj k hli hlj hvi hvj hki hkj=>?_,fun g hg=>⟨(hG.ro g hg).1,fun i v hl hv=>?_⟩,hG.tab⟩
  ·by_cases hi:i<n
   ·rw [hcl i hi]
    refine relB_unren (σ:=σ) (t:=List.range n) (m2:=m) (by rw [← hcl i hi,← hlk i hi];exact hG.rel (σ i)) (ho1 i hi).2 (List.mem_range.2 hi) fun j hj u hu=>by rw [hmc j (List.mem_range.1 hj)];exact hu
   ·rw [hcn i (by omega)];trivial
  ·obtain ⟨l1,e1⟩:=up i vi hli hvi
   obtain ⟨l2,e2⟩:=up j vj hlj hvj
   exact hinj i j (hG.sep _ _ vi vj k (hlv i l1) (hlv j l2) e1 e2 hki hkj)
  ·obtain ⟨l1,e1⟩:=up i v hl hv
   exact (hG.ro g hg).2 _ v (hlv i l1) e1
 let F:Fr:=⟨w,own mc (rowH 0 objs),S,fun i=>if i<p then mc i else none,[]⟩
 have hfits:F.fits p:=fun i v hi=>Classical.byContradiction fun h=>by
  have h2:(if i<p then mc i else none)=some v:=hi
  rw [if_neg h] at h2
  cases h2
 have hrel0:Rel F C.N ⟨argEnv avs 0,rowH 0 objs,n⟩ { tmps:=vs.toArray++Array.replicate (fn.ntmps-vs.toArray.size) undef,defers:=[] } w:=by
  rw [List.length_map] at hlen
  refine ⟨mc,S,⟨hGc,fun i hi=>hmn i (by have h':n≤i:=hi;omega),Far.refl _ _,fun k hk=>.inl hk,fun g hg=>.inl hg,fun g hg=>hg,fun i v hi=>by
   have h2:(if i<p then mc i else none)=some v:=hi
   split at h2
   ·exact h2
   ·cases h2⟩,by simp;omega,rfl,fun s=>?_⟩
  rw [lk_argEnv,if_pos (Nat.zero_le _),Nat.sub_zero]
  by_cases hs:s<avs.length
  ·have h1:avs[s]?=some (avs.getD s .undef):=by simp [List.getD,List.getElem?_eq_getElem hs]
   have h2:vs[s]?=some ((vs.toArray++Array.replicate (fn.ntmps-vs.toArray.size) undef).getD s undef):=by
    have:s<vs.length:=by omega
    simp [Array.getElem?_append,this]
   refine relV_unren (σ:=σ) (t:=List.range n) (m2:=m) (hrel s _ _ h2 (by rw [List.getElem?_map,h1];rfl)) (allB_spec hav _ (List.mem_map_of_mem (List.mem_of_getElem? h1))) fun j hj u hu=>by rw [hmc j (List.mem_range.1 hj)];exact hu
  ·have:avs.getD s .undef=.undef:=by simp [List.getD,List.getElem?_eq_none (by omega:avs.length≤s)]
   rw [this]
   exact .t _ _ (.undef _)
 refine wp_mono (evCode_sound hT (F:=F) (by rw [hpd];exact hfits) code _ _ h _ w hrel0) fun e a' w' ⟨st0,hr0,hq⟩=>?_
 have fin:∀ st',Rel F C.N st' a' w'→endR C.T p fn.results.toList R st'→a'.defers=[]∧∃ v,(results fn a'.tmps).run C.P w'=.ok v w'∧((∃ v' r m' S',Ending.returned v=.returned v'∧RioR R p ids nx r∧Ext m S w H₂ nx r.nx m' S' w' (r.wr++H₂)∧RelV m' S' w' v' r.v)∨∃ ch m' S' wr,Ending.returned v=.panicked ch∧C.px ch∧Ext m S w H₂ nx nx m' S' w' (wr++H₂)):=by
  rintro st' ⟨m',S',hc,hs,hd,hr⟩ ⟨hnx,hobjs,hq⟩
  have hnx':p≤st'.nx:=Nat.le_of_ble_eq_true hnx
  obtain ⟨K,hK⟩:∃ K,st'.nx=p+K:=⟨st'.nx-p,by omega⟩
  obtain ⟨l,⟨hl0,hR⟩,hll,hsr,hlr⟩:=resI_sound hT.tab hc.good hr _ _ _ hq
  rw [List.reverse_nil,List.nil_append] at hl0 hR
  rw [hK] at hobjs hl0 hR
  rw [Nat.add_sub_cancel_left] at hR
  have hob':∀ i,i<p+K→okB (List.range (p+K)) (lkH st'.heap i)=true:=fun i hi=>allB_spec hobjs _ (List.mem_map_of_mem (f:=fun i=>okB (List.range (p+K)) (lkH st'.heap i)) (List.mem_range.2 hi))
  let r:Res:=⟨valR (l.map (renA (rnI (ids.take p) nx))),ids,zipH (ids.take p) ((objsOf st'.heap 0 p).map (renB (rnI (ids.take p) nx)))++deads (ids.drop p) (rowH nx ((objsOf st'.heap p K).map (renB (rnI (ids.take p) nx)))),nx+(objsOf st'.heap p K).length⟩
  have hRr:RioR R p ids nx r:=⟨_,_,_,hR,by rw [objsOf_len,htl],rfl⟩
  have hrn:r.nx=nx+K:=by show nx+_=_;rw [objsOf_len]
  have hfr:∀ i,nx≤i→i<nx+K→m i=none:=fun i h1 h2=>hfree i h1 ⟨r,hRr,by rw [hrn];exact h2⟩
  let m2:Ids:=fun i=>if nx≤i∧i<nx+K then m' (p+(i-nx)) else m i
  have hm2n:∀ i,nx≤i→i<nx+K→m2 i=m' (p+(i-nx)):=fun i h1 h2=>if_pos ⟨h1,h2⟩
  have hm2o:∀ i,¬ (nx≤i∧i<nx+K)→m2 i=m i:=fun i h=>if_neg h
  have hm't:∀ i,i<p→∃ v,m (σ i)=some v∧m' i=some v∧m2 (τ i)=some v:=fun i hi=>by
   obtain ⟨v,hv⟩:=hmt i (by omega)
   refine ⟨v,hv,hc.pins i v (by show (if i<p then mc i else none)=some v;rw [if_pos hi,hmc i (by omega)];exact hv),?_⟩
   rw [hτσ i hi,hm2o _ fun h=>by have:=(hσl i (by omega)).2;omega]
   exact hv
  have hmk:∀ i∈List.range (p+K),∀ u,m' i=some u→m2 (τ i)=some u:=fun i hi u hu=>by
   have hi:=List.mem_range.1 hi
   by_cases hin:i<p
   ·obtain ⟨v,_,e1,e2⟩:=hm't i hin
    rw [e1] at hu
    cases hu
    exact e2
   ·rw [hτ2 i (by omega),hm2n _ (by omega) (by omega),show p+(nx+(i-p)-nx)=i by omega]
    exact hu
  have hkm:∀ i,i<p+K→∀ u,m2 (τ i)=some u→m' i=some u:=fun i hi u hu=>by
   by_cases hin:i<p
   ·obtain ⟨v,_,e1,e2⟩:=hm't i hin
    rw [e2] at hu
    cases hu
    exact e1
   ·rw [hτ2 i (by omega),hm2n _ (by omega) (by omega),show p+(nx+(i-p)-nx)=i by omega] at hu
    exact hu
  have hF0:∀ k,own mc (rowH 0 objs) k→own m H₂ k:=fun k hk=>by
   obtain ⟨i,h2,v,h3,h4⟩:=hown k hk
   exact ⟨σ i,v,hlv i h2,h3,h4⟩
  -- the new heap
  have hz:(ids.take p).length=((objsOf st'.heap 0 p).map (renB (rnI (ids.take p) nx))).length:=by rw [List.length_map,objsOf_len,htl]
  have hdrop:∀ j∈ids.drop p,∃ i,p≤i∧i<n∧j=σ i:=fun j hj=>by
   obtain ⟨k,hk⟩:=List.getElem?_of_mem hj
   rw [List.getElem?_drop] at hk
   have hin:p+k<n:=by have:=(List.getElem?_eq_some_iff.1 hk).1;omega
   refine ⟨p+k,by omega,hin,?_⟩
   rw [hσ1 _ hin] at hk
   cases hk
   rfl
  have htake:∀ j∈ids.take p,∃ i,i<p∧j=τ i:=fun j hj=>by
   obtain ⟨k,hk⟩:=List.getElem?_of_mem hj
   have hin:k<p:=by have:=(List.getElem?_eq_some_iff.1 hk).1;omega
   refine ⟨k,hin,?_⟩
   rw [hτ1 _ hin] at hk
   cases hk
   rfl
  have hWn:∀ i,i<p+K→lkH (r.wr++H₂) (τ i)=renB τ (lkH st'.heap i):=fun i hi=>by
   show lkH ((zipH (ids.take p) ((objsOf st'.heap 0 p).map (renB (rnI (ids.take p) nx)))++deads (ids.drop p) (rowH nx ((objsOf st'.heap p K).map (renB (rnI (ids.take p) nx)))))++H₂) (τ i)=_
   rw [List.append_assoc]
   by_cases hin:i<p
   ·rw [lkH_zip_at hz hndt (hτ1 i hin),getD_map_ab _ rfl,objsOf_get _ _ _ _ hin,Nat.zero_add,hτd]
   ·rw [lkH_zip hz (fun hm=>by
     obtain ⟨j,hj,e⟩:=htake _ hm
     have:=hinjt _ _ e
     omega),lkH_deads_app,lkH_deads,if_neg (fun hm=>by
     obtain ⟨j,_,hj,e⟩:=hdrop _ hm
     have:=(hσl j hj).2
     rw [hτ2 i (by omega)] at e
     omega),hτ2 i (by omega),lkH_num_at _ _ _ _ (by rw [List.length_map,objsOf_len];omega),getD_map_ab _ rfl,objsOf_get _ _ _ _ (by omega),hτd,show p+(i-p)=i by omega]
  have hWd:∀ j∈ids.drop p,lkH (r.wr++H₂) j=.dead:=fun j hj=>by
   show lkH ((zipH (ids.take p) ((objsOf st'.heap 0 p).map (renB (rnI (ids.take p) nx)))++deads (ids.drop p) (rowH nx ((objsOf st'.heap p K).map (renB (rnI (ids.take p) nx)))))++H₂) j=_
   rw [List.append_assoc,lkH_zip hz (fun hm=>by
    obtain ⟨a,ha,e⟩:=htake _ hm
    obtain ⟨b,hb1,hb2,e2⟩:=hdrop _ hj
    rw [e,hτσ a ha] at e2
    have:=hinj _ _ e2
    omega),lkH_deads_app,lkH_deads,if_pos hj]
  have hWo:∀ j,(∀ i,i<p+K→j≠τ i)→j∉ids.drop p→lkH (r.wr++H₂) j=lkH H₂ j:=fun j hj hnd2=>by
   show lkH ((zipH (ids.take p) ((objsOf st'.heap 0 p).map (renB (rnI (ids.take p) nx)))++deads (ids.drop p) (rowH nx ((objsOf st'.heap p K).map (renB (rnI (ids.take p) nx)))))++H₂) j=_
   rw [List.append_assoc,lkH_zip hz (fun hm=>by
       obtain ⟨i,hi,e⟩:=htake _ hm
       exact hj i (by omega) e),lkH_deads_app,lkH_deads,if_neg hnd2,lkH_num_no _ _ _ _ (fun hh=>by
       rw [List.length_map,objsOf_len] at hh
       exact hj (p+(j-nx)) (by omega) (by rw [hτ2 _ (by omega)];omega))]
  have hdec:∀ j,(∃ i,i<p+K∧j=τ i)∨j∈ids.drop p∨((∀ i,i<p+K→j≠τ i)∧j∉ids.drop p):=fun j=>by
   by_cases hx:∃ i,i<p+K∧j=τ i
   ·exact .inl hx
   ·by_cases hy:j∈ids.drop p
    ·exact .inr (.inl hy)
    ·exact .inr (.inr ⟨fun i hi e=>hx ⟨i,hi,e⟩,hy⟩)
  have hnσ:∀ j,(∀ i,i<p+K→j≠τ i)→j∉ids.drop p→∀ i,i<n→j≠σ i:=fun j hj hy i hi e=>by
   by_cases hip:i<p
   ·exact hj i (by omega) (by rw [hτσ i hip];exact e)
   ·refine hy (List.mem_of_getElem? (i:=i-p) ?_)
    rw [List.getElem?_drop,show p+(i-p)=i by omega,hσ1 i hi,e]
  -- what is not handed over stands as it stood
  have hold:∀ j v,(lkH H₂ j).live=true→m2 j=some v→m j=some v:=fun j v hl hv=>by
   by_cases hh:nx≤j∧j<nx+K
   ·obtain ⟨u,hu⟩:=live_some (hG.rel j) hl
    rw [hfr j hh.1 hh.2] at hu
    cases hu
   ·rw [← hm2o j hh];exact hv
  have hnF:∀ j v k,(∀ i,i<n→j≠σ i)→(lkH H₂ j).live=true→m j=some v→blk v=some k→¬ own mc (rowH 0 objs) k:=fun j v k hj hl hv hk ho=>by
   obtain ⟨i,h1,u,h3,h4⟩:=hown k ho
   exact hj i h1 (hG.sep j (σ i) v u k hl (hlv i h1) hv h3 hk h4)
  have hkeep:∀ j v k,(∀ i,i<n→j≠σ i)→(lkH H₂ j).live=true→m j=some v→blk v=some k→w'.heap[k]?=w.heap[k]?:=fun j v k hj hl hv hk =>
   hc.far.block k (hG.blk_lt hl hv hk) (hnF j v k hj hl hv hk)
  have hkeepS:∀ g,S g→w'.heap[g]?=w.heap[g]?:=fun g hg=>hc.far.block g (hG.ro g hg).1 fun ho=>by
   obtain ⟨i,h1,u,h3,h4⟩:=hown g ho
   exact (hG.ro g hg).2 _ u (hlv i h1) h3 h4
  have hgood:Good m2 S' w' (r.wr++H₂):=by
   have two:∀ i j vi vj k,i<p+K→((∀ i,i<p+K→j≠τ i)∧j∉ids.drop p)→(lkH st'.heap i).live=true→(lkH H₂ j).live=true→m2 (τ i)=some vi→m2 j=some vj→blk vi=some k→blk vj=some k→False:=by
    intro i j vi vj k hi hj hli hlj hvi hvj hki hkj
    have e1:=hold j vj hlj hvj
    rcases hc.owns k ⟨i,vi,hli,hkm i hi vi hvi,hki⟩ with h | h
    ·exact hnF j vj k (hnσ j hj.1 hj.2) hlj e1 hkj h
    ·have:=hG.blk_lt hlj e1 hkj
     have h':w.heap.size≤k:=h
     omega
   refine ⟨fun j=>?_,fun i j vi vj k hli hlj hvi hvj hki hkj=>?_,fun g hg=>⟨(hc.good.ro g hg).1,fun j v hl hv hk=>?_⟩,hc.good.tab⟩
   ·rcases hdec j with ⟨i,hi,rfl⟩ | hj | hj
    ·rw [hWn i hi]
     exact relB_ren (hc.good.rel i) (hob' i hi) (List.mem_range.2 hi) hmk
    ·rw [hWd j hj];trivial
    ·rw [hWo j hj.1 hj.2]
     by_cases hl:(lkH H₂ j).live=true
     ·refine (hG.rel j).mono (fun x u hu=>?_) hc.ro0 hkeepS fun v k _ hv hk=>hkeep j v k (hnσ j hj.1 hj.2) hl hv hk
      by_cases hh:nx≤x∧x<nx+K
      ·rw [hfr x hh.1 hh.2] at hu
       cases hu
      ·rw [hm2o x hh];exact hu
     ·cases hb:lkH H₂ j with
      | dead=>trivial
      | _=>rw [hb] at hl;exact (hl rfl).elim
   ·rcases hdec i with ⟨i,hi,rfl⟩ | hi | hi
    ·rw [hWn i hi,renB_live] at hli
     rcases hdec j with ⟨j,hj,rfl⟩ | hj | hj
     ·rw [hWn j hj,renB_live] at hlj
      rw [hc.good.sep i j vi vj k hli hlj (hkm i hi vi hvi) (hkm j hj vj hvj) hki hkj]
     ·rw [hWd j hj] at hlj
      cases hlj
     ·rw [hWo j hj.1 hj.2] at hlj
      exact (two i j vi vj k hi hj hli hlj hvi hvj hki hkj).elim
    ·rw [hWd i hi] at hli
     cases hli
    ·rw [hWo i hi.1 hi.2] at hli
     rcases hdec j with ⟨j,hj,rfl⟩ | hj | hj
     ·rw [hWn j hj,renB_live] at hlj
      exact (two j i vj vi k hj hi hlj hli hvj hvi hkj hki).elim
     ·rw [hWd j hj] at hlj
      cases hlj
     ·rw [hWo j hj.1 hj.2] at hlj
      exact hG.sep i j vi vj k hli hlj (hold i vi hli hvi) (hold j vj hlj hvj) hki hkj
   ·rcases hdec j with ⟨i,hi,rfl⟩ | hj | hj
    ·rw [hWn i hi,renB_live] at hl
     exact (hc.good.ro g hg).2 i v hl (hkm i hi v hv) hk
    ·rw [hWd j hj] at hl
     cases hl
    ·rw [hWo j hj.1 hj.2] at hl
     have e1:=hold j v hl hv
     rcases hc.ro g hg with h | h | h
     ·exact (hG.ro g h).2 j v hl e1 hk
     ·exact hnF j v g (hnσ j hj.1 hj.2) hl e1 hk h
     ·have:=hG.blk_lt hl e1 hk
      have h':w.heap.size≤g:=h
      omega
  refine ⟨hd,_,run_results hsr hres,.inl ⟨_,r,m2,S',rfl,hRr,⟨fun i v hv=>?_,fun i hi=>hm2o i (by rw [hrn] at hi;exact hi),hc.ro0,fun g hg=>?_,?_,fun k hk=>?_,hgood⟩,?_⟩⟩
  ·by_cases hh:nx≤i∧i<nx+K
   ·rw [hfr i hh.1 hh.2] at hv;cases hv
   ·rw [hm2o i hh];exact hv
  ·rcases hc.ro g hg with h | h | h
   ·exact .inl h
   ·exact .inr (.inl (hF0 g h))
   ·exact .inr (.inr h)
  ·exact ⟨hc.far.os,hc.far.tape,hc.far.output,hc.far.size,fun k hk hno=>hc.far.block k hk fun ho=>hno (hF0 k ho)⟩
  ·obtain ⟨j,v,hl,hv,hkv⟩:=hk
   rcases hdec j with ⟨i,hi,rfl⟩ | hj | hj
   ·rw [hWn i hi,renB_live] at hl
    rcases hc.owns k ⟨i,v,hl,hkm i hi v hv,hkv⟩ with h | h
    ·exact .inl (hF0 k h)
    ·exact .inr h
   ·rw [hWd j hj] at hl
    cases hl
   ·rw [hWo j hj.1 hj.2] at hl
    exact .inl ⟨j,v,hl,hold j v hl hv,hkv⟩
  ·show RelV m2 S' w' _ (valR (l.map (renA (rnI (ids.take p) nx))))
   rw [hτd]
   refine retVal_rel (by rw [List.length_map,hll];simp [slotVals]) fun j u x hu hx=>?_
   obtain ⟨x0,h0,rfl⟩:=map_get hx
   exact relV_ren (hlr j u x0 hu h0) (allB_spec hl0 _ (List.mem_map_of_mem (List.mem_of_getElem? h0))) hmk
 cases e with
 | normal =>
  obtain ⟨st',hw,hq⟩:=hq
  exact fin st' (hw F _ _ hfits hr0) hq
 | ret =>
  obtain ⟨st',hw,hq⟩:=hq
  exact fin st' (hw F _ _ hfits hr0) hq
 | panic ch =>
  have hpx:C.px ch:=hq.resolve_right fun h=>h
  obtain ⟨m',S',hc,hs,hd,hr⟩:=hr0
  have hF0:∀ k,own mc (rowH 0 objs) k→own m H₂ k:=fun k hk=>by
   obtain ⟨i,h2,v,h3,h4⟩:=hown k hk
   exact ⟨σ i,v,hlv i h2,h3,h4⟩
  have hkeepS:∀ g,S g→w'.heap[g]?=w.heap[g]?:=fun g hg=>hc.far.block g (hG.ro g hg).1 fun ho=>by
   obtain ⟨i,h1,u,h3,h4⟩:=hown g ho
   exact (hG.ro g hg).2 _ u (hlv i h1) h3 h4
  have hW:∀ j,lkH (deads ids []++H₂) j=if j∈ids then .dead else lkH H₂ j:=fun j=>by rw [lkH_deads_app,lkH_deads];rfl
  have hout:∀ j,j∉ids→∀ i,i<n→j≠σ i:=fun j hj i hi e=>hj (e ▸ (hσl i hi).1)
  have hkeep:∀ j v k,j∉ids→(lkH H₂ j).live=true→m j=some v→blk v=some k→w'.heap[k]?=w.heap[k]?:=fun j v k hj hl hv hk =>
   hc.far.block k (hG.blk_lt hl hv hk) fun ho=>by
    obtain ⟨i,h1,u,h3,h4⟩:=hown k ho
    exact hout j hj i h1 (hG.sep j (σ i) v u k hl (hlv i h1) hv h3 hk h4)
  have hlw:∀ j,(lkH (deads ids []++H₂) j).live=true→j∉ids∧(lkH H₂ j).live=true:=fun j hl=>by
   rw [hW] at hl
   split at hl
   ·cases hl
   ·rename_i h;exact ⟨h,hl⟩
  refine ⟨hd,.inr ⟨ch,m,S,deads ids [],rfl,hpx,⟨fun _ _ h=>h,fun _ _=>rfl,fun _ h=>h,fun g hg=>.inl hg,⟨hc.far.os,hc.far.tape,hc.far.output,hc.far.size,fun k hk hno=>hc.far.block k hk fun ho=>hno (hF0 k ho)⟩,?_,?_⟩⟩⟩
  ·rintro k ⟨j,v,hl,hv,hk⟩
   exact .inl ⟨j,v,(hlw j hl).2,hv,hk⟩
  ·refine ⟨fun j=>?_,fun i j vi vj k hli hlj hvi hvj hki hkj=>hG.sep i j vi vj k (hlw i hli).2 (hlw j hlj).2 hvi hvj hki hkj,fun g hg=>⟨Nat.lt_of_lt_of_le (hG.ro g hg).1 hc.far.size,fun j v hl hv hk=>(hG.ro g hg).2 j v (hlw j hl).2 hv hk⟩,hG.tab.mono (fun _ h=>h) fun g hg=>hkeepS g hg⟩
   rw [hW]
   split
   ·trivial
   ·rename_i hj
    exact (hG.rel j).mono (fun _ _ h=>h) (fun _ h=>h) hkeepS fun v k hl hv hk=>hkeep j v k hj hl hv hk
 | _=>exact hq.elim
theorem rio_of [Tabs] {C : Cx} (hT : CxOk C) {f : FuncId} {fn : Func} {code : Code} {avs : List AV} {objs : List AB} {R : List AV → List AB → List AB → Prop} (hf : C.P.funcs[f]? = some fn) (hb : fn.body = some code) (hname : (fn.name == "runtime.NumGoroutine") = false)
  (hN:C.N=fn.ntmps) (hle:avs.length≤fn.ntmps) (hres:fn.results.size≤4)
  (hobj:allB (objs.map fun b=>b.live&&okB (List.range objs.length) b)=true) (hpn:Nat.ble C.pn objs.length=true) (hav:allB (avs.map (okA (List.range objs.length)))=true)
  (h:evCode C code ⟨argEnv avs 0,rowH 0 objs,objs.length⟩ (retR C.T C.pn C.N C.pn fn.results R)) (hpx:∀ ch,¬ C.px ch:=by exact fun _ h=>h):RIO C.P f avs objs C.pn R :=
 fun H nx ids h1 h2 h3 h4=>(riox_of hT hf hb hname hN hle hres hobj hpn hav h H nx ids h1 h2 h3 h4).calm hpx
def eqObjs (H:Heap) (σ:Nat→Nat):List Nat→List AB→Prop
 | i::is,b::bs=>ObjEq (lkH H i) (renB σ b)∧eqObjs H σ is bs
 | [],[]=>True
 | _,_=>False
theorem eqObjs_len {H:Heap} {σ:Nat→Nat}:∀ {ids:List Nat} {bs:List AB},eqObjs H σ ids bs→ids.length=bs.length
 | [],[],_=>rfl
 | [],_::_,h=>h.elim
 | _::_,[],h=>h.elim
 | _::_,_::_,h=>by simp [eqObjs_len h.2]
theorem eqObjs_get {H:Heap} {σ:Nat→Nat}:∀ {ids:List Nat} {bs:List AB},eqObjs H σ ids bs→∀ (k id:Nat),ids[k]?=some id→ObjEq (lkH H id) (renB σ (bs.getD k .dead))
 | [],[],_,k,id,h=>by simp at h
 | [],_::_,h,_,_,_=>h.elim
 | _::_,[],h,_,_,_=>h.elim
 | i::is,b::bs,h,k,id,hk=>by
  cases k with
  | zero =>
   simp at hk
   subst hk
   simpa using h.1
  | succ k =>
   rw [List.getD_cons_succ]
   exact eqObjs_get h.2 k id (by simpa using hk)
theorem rio_at [Tabs] {P:Program} {f:FuncId} {avs avs':List AV} {objs:List AB} {R:List AV→List AB→List AB→Prop} {p:Nat} (h:RIO P f avs objs p R) {H:Heap} {nx:Nat} (ids:List Nat) (ha:avs'=avs.map (renA (rnI ids nx)))
  (hn:nodupB ids=true) (hlt:allB (ids.map fun i=>Nat.blt i nx)=true) (ho:eqObjs H (rnI ids nx) ids objs):CallSem P f avs' H nx ids (RioR R p ids nx):=by
 subst ha
 exact h H nx ids (eqObjs_len ho) (nodupB_spec hn) (fun i hi=>Nat.blt_eq.mp (allB_spec hlt _ (List.mem_map_of_mem (f:=fun i=>Nat.blt i nx) hi))) (eqObjs_get ho)
theorem rio_one [Tabs] {P:Program} {f:FuncId} {avs avs':List AV} {objs:List AB} {V:List AV} {B E:List AB} {p:Nat} (h:RIO P f avs objs p (fun vs bs es=>vs=V∧bs=B∧es=E)) {H:Heap} {nx:Nat} (ids:List Nat) (ha:avs'=avs.map (renA (rnI ids nx)))
  (hn:nodupB ids=true) (hlt:allB (ids.map fun i=>Nat.blt i nx)=true) (ho:eqObjs H (rnI ids nx) ids objs) (hB:B.length=(ids.take p).length) :
  CallSem P f avs' H nx ids (fun r=>r=⟨valR (V.map (renA (rnI (ids.take p) nx))),ids,zipH (ids.take p) (B.map (renB (rnI (ids.take p) nx)))++deads (ids.drop p) (rowH nx (E.map (renB (rnI (ids.take p) nx)))),nx+E.length⟩):=by
 have e:RioR (fun vs bs es=>vs=V∧bs=B∧es=E) p ids nx=fun r=>r=⟨valR (V.map (renA (rnI (ids.take p) nx))),ids,zipH (ids.take p) (B.map (renB (rnI (ids.take p) nx)))++deads (ids.drop p) (rowH nx (E.map (renB (rnI (ids.take p) nx)))),nx+E.length⟩:=by
  funext r
  apply propext
  constructor
  ·rintro ⟨_,_,_,⟨rfl,rfl,rfl⟩,_,rfl⟩
   rfl
  ·rintro rfl
   exact ⟨_,_,_,⟨rfl,rfl,rfl⟩,hB,rfl⟩
 rw [← e]
 exact rio_at h ids ha hn hlt ho
theorem riox_at [Tabs] {P:Program} {f:FuncId} {avs avs':List AV} {objs:List AB} {R:List AV→List AB→List AB→Prop} {p:Nat} {Px:List PanicEntry→Prop} (h:RIOX P f avs objs p R Px) {H:Heap} {nx:Nat} (ids:List Nat) (ha:avs'=avs.map (renA (rnI ids nx)))
  (hn:nodupB ids=true) (hlt:allB (ids.map fun i=>Nat.blt i nx)=true) (ho:eqObjs H (rnI ids nx) ids objs):CallSemX P f avs' H nx ids (RioR R p ids nx) Px:=by
 subst ha
 exact h H nx ids (eqObjs_len ho) (nodupB_spec hn) (fun i hi=>Nat.blt_eq.mp (allB_spec hlt _ (List.mem_map_of_mem (f:=fun i=>Nat.blt i nx) hi))) (eqObjs_get ho)
end Go.Own
