import Derived.Test.YtlmgomgpiideoaaGreatDoorLc
import Derived.Shelf.Strconv.Itoa3
namespace Go.Own
open Go.Proofs Go.Shelf Go.ChangeShapes Go.WideShapes Go.RowKit
theorem row_lifted_laid [Tabs] {C:Checked} {P:Program} (hC:C.prog=P) {os:Os} {f:FuncId} {fn:Func} {s:ChangeSpec} {conds:List PathCond} {H:Type} {enc:TypeId×Value→H} {tb:TypeId} (laid:List (String×DataW Unit)) {Qs:List (AV→Prop)}
  (own:ownKnob P.godebug=none) (started:os.Started) (noInit:P.inits.idxOf? f=none) (hfn:P.funcs[f]?=some fn)
  (witness:∃ (w:World) (tape:Tape) (i:Input),w.os=os∧(w.forCall tape i).Shaped P∧i.vars=[]∧Input.okWide P (w.forCall tape i) .any w.heap.size f i ∧
   ((s.pre enc P fn conds false (w.forCall tape i).memory i.args∧laidMet P laid (w.forCall tape i).memory)∧sizedMet enc P fn (OpenSpec.ofChange s) false (w.forCall tape i).memory i.args)∧({}:Assume).holds P (lone (Frame.enter P f i.args .normal) [] (w.forCall tape i)))
  (hl:laidOutB P=true) (hsv:s.vars=[]) (hr:(fn.params.toList.all fun t=>P.readableRec t&&decide (t<P.types.size))=true)
  (hres:fn.resultTypes=#[tb]) (htb:P.underlying tb=some .bool) (hspec:∀ ds:List (DataW H),ds.length=fn.params.size→s.fn H (ds++[])={ results:=[.lit (.bool true)],args:=ds })
  (hQ:OpVs P fn.params.toList Qs) (hA:∀ avs,Alls Qs avs→APureV P f avs (.bool true)) (hTb:∀ W,laidMet P laid W→TabAt (All W) W) :
  ReturnsInHanded {} C os f .any (fun w args=>(s.pre enc P fn conds false w args∧laidMet P laid w)∧sizedMet enc P fn (OpenSpec.ofChange s) false w args) (s.post enc P fn false true false false):=by
 subst hC
 refine returnsInHanded_of_change_and (X:=fun w _=>laidMet C.prog laid w) (fun _ _ _ hh h=>h.of_heap hh) own started noInit hfn witness ?_
 intro W base args ds gs before hval0 hW hcnd _ hLd _
 have hval:∀ (j:Nat) t v,fn.params[j]?=some t→args[j]?=some v→Value.okWide C.prog W .any base t v:=hval0
 have hW':=hW
 obtain ⟨p,q,hA0,hV,rfl,hfz,hnd⟩:=hW
 have hA1:DataW.TrodAll enc C.prog W 0 (fun _=>true) true fn.params.toList args.toList ds p:=hA0
 rw [hsv] at hV
 obtain ⟨rfl,rfl⟩:=trodVars_none hV
 obtain ⟨avs,h1,h2⟩:=opens_list fn.params.toList Qs args.toList ds p hQ (fun j t v h1 h2=>hval j t v (by simpa using h1) (by simpa using h2)) hA1
 have hlen:∀ (ts:List TypeId) (vs:List Value) (ds:List (DataW H)) (ps:List MemPlace),DataW.TrodAll enc C.prog W 0 (fun _=>true) true ts vs ds ps→ds.length=ts.length:=by
  intro ts
  induction ts with
  | nil=>intro vs ds ps h;obtain ⟨_,rfl,_⟩:=trodAll_nil h;rfl
  | cons t ts ih =>
   intro vs ds ps h
   obtain ⟨v,vs',d,ds',p,q,rfl,rfl,rfl,_,h2⟩:=trodAll_cons h
   simp [ih _ _ _ h2]
 have hr':∀ t∈fn.params.toList,C.prog.readableRec t=true∧t<C.prog.types.size:=by
  intro t ht
  have:=List.all_eq_true.1 hr t ht
  simpa using this
 exact row_of_apure hl hsv hW' hr' hres htb (hspec ds (by simpa using hlen _ _ _ _ hA1)) (hTb W hLd) (hA avs h1) h2
open Go.ChangeShapes Go.WideShapes Go.RowKit
def OpensS (P:Program) (t:TypeId) (n:Nat) (R:List AV→Prop) (N:Nat):Prop :=
 P.cellsOf t=n∧∀ {H:Type} (ec:TypeId×Value→H) (W:World) (fuel:Nat) (cs:List Value) (x:DataW H×List MemPlace),SizeOf.sizeOf x.1<N→DataW.trod ec P W 0 (fun _=>true) true fuel t cs=some x →
  ∃ l,R l∧cs.length=l.length∧l.length=n∧(∀ b∈l,b.one=true)∧∀ (j:Nat) (c:Value) (b:AV),cs[j]?=some c→l[j]?=some b→RelT (All W) W c b
theorem OpensR.at {P:Program} {t:TypeId} {n:Nat} {R:List AV→Prop} (h:OpensR P t n R) (N:Nat):OpensS P t n R N:=⟨h.1,fun ec W fuel cs x _ hx=>h.2 ec W fuel cs x hx⟩
theorem OpensS.le {P:Program} {t:TypeId} {n:Nat} {R:List AV→Prop} {N M:Nat} (h:OpensS P t n R N) (hM:M≤N):OpensS P t n R M :=
 ⟨h.1,fun ec W fuel cs x hs hx=>h.2 ec W fuel cs x (Nat.lt_of_lt_of_le hs hM) hx⟩
theorem OpensS.mono {P:Program} {t:TypeId} {n:Nat} {R R':List AV→Prop} {N:Nat} (h:OpensS P t n R N) (hR:∀ l,R l→R' l):OpensS P t n R' N :=
 ⟨h.1,fun ec W fuel cs x hs hx=>let ⟨l,h1,h2⟩:=h.2 ec W fuel cs x hs hx;⟨l,hR l h1,h2⟩⟩
def FieldsS (P:Program) (N:Nat):Nat→List Field→List (Nat×(List AV→Prop))→Nat→Prop
 | off,[],[],n=>off=n
 | off,f::fs,(k,R)::Rs,n=>f.offset=off∧OpensS P f.type k R N∧FieldsS P N (off+k) fs Rs n
 | _,_,_,_=>False
end Go.Own
