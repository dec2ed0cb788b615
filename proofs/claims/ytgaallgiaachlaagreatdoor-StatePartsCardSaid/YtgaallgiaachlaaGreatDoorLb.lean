import Derived.Test.YtgaallgiaachlaaGreatDoorLa
import Derived.MapKept
import Derived.Laws.StructEq
import Derived.Laws.Cover3
import Derived.Laws.Build
import Derived.Laws.OwnMore
import Derived.Deep.Quiet
namespace Go.Own
def mget {K V:Type} [DecidableEq K]:List (K×V)→K→Option V
 | [],_=>none
 | (a,v)::r,k=>if a=k then some v else mget r k
def mset {K V:Type} [DecidableEq K]:List (K×V)→K→V→List (K×V)
 | [],k,x=>[(k,x)]
 | (a,v)::r,k,x=>if a=k then (k,x)::r else (a,v)::mset r k x
theorem findNow_rel {K V:Type} [DecidableEq K] {kind:TypeDesc} {key:Value} {k:K} (Kr:Value→K→Prop) (hs:∀ v a,Kr v a→Instr.sameNow kind key v=some (decide (a=k))) :
  ∀ (en:List MapEntry) (es:List (K×V)) (i:Nat),en.length=es.length→(∀ (j:Nat) (x:MapEntry) (p:K×V),en[j]?=some x→es[j]?=some p→Kr x.key p.1) →
   (∃ j x p,en[j]?=some x∧es[j]?=some p∧p.1=k∧Instr.findNow kind key en i=some (some (i+j,x.val))∧mget es k=some p.2∧∀ y,mset es k y=es.set j (k,y)) ∨
   (Instr.findNow kind key en i=some none∧mget es k=none∧∀ y,mset es k y=es++[(k,y)])
 | [],es,i,hl,_=>by
  have:es=[]:=List.eq_nil_of_length_eq_zero (by simpa using hl.symm)
  subst this
  exact .inr ⟨rfl,rfl,fun _=>rfl⟩
 | x::en,[],i,hl,_=>by simp at hl
 | x::en,(a,v)::es,i,hl,hr=>by
  have h0:=hs x.key a (hr 0 x (a,v) rfl rfl)
  by_cases e:a=k
  ·left
   refine ⟨0,x,(a,v),rfl,rfl,e,?_,by simp [mget,e],fun y=>by simp [mset,e]⟩
   simp [Instr.findNow,h0,e]
  ·rcases findNow_rel Kr hs en es (i+1) (by simpa using hl) (fun j x p h1 h2=>hr (j+1) x p (by simpa using h1) (by simpa using h2)) with ⟨j,x',p,h1,h2,h3,h4,h5,h6⟩ | ⟨h1,h2,h3⟩
   ·refine .inl ⟨j+1,x',p,by simpa using h1,by simpa using h2,h3,?_,by simp [mget,e,h5],fun y=>by simp [mset,e,h6]⟩
    simp only [Instr.findNow,h0,e,decide_false]
    rw [h4]
    congr 3
    omega
   ·refine .inr ⟨?_,by simp [mget,e,h2],fun y=>by simp [mset,e,h3]⟩
    simp only [Instr.findNow,h0,e,decide_false]
    exact h1
theorem beq_bytes (a b:ByteArray):(a == b)=decide (a.data.toList=b.data.toList):=by
 rw [beq_toListBytes,ByteArray.toList_eq,ByteArray.toList_eq]
 by_cases e:a.data.toList=b.data.toList
 ·simp [e]
 ·simp only [e,decide_false]
  simpa using fun h=>e (by rw [h])
theorem sameNow_str {key:ByteArray} {v:Value} {a:List UInt8} (h:∃ s,v=.string s∧s.data.toList=a):Instr.sameNow .string (.string key) v=some (decide (a=key.data.toList)):=by
 obtain ⟨s,rfl,rfl⟩:=h
 simp only [Instr.sameNow,Option.some.injEq,beq_bytes]
 by_cases e:s.data.toList=key.data.toList
 ·simp [e]
 ·have:¬ key.data.toList=s.data.toList:=fun h=>e h.symm
  simp only [e,this,decide_false]
theorem sameNow_int {k:IntKind} {n:Int} {v:Value} {a:Int} (h:v=.int k a):Instr.sameNow (.int k) (.int k n) v=some (decide (a=n)):=by
 subst h
 simp only [Instr.sameNow,if_true,Option.some.injEq]
 by_cases e:a=n
 ·subst e;simp
 ·have:¬ n=a:=fun h=>e h.symm
  simp [e,this]
inductive PlainKey (P:Program) (kt:TypeId):TypeDesc→Value→Prop
 | str (s:ByteArray) (h:P.underlying kt=some .string):PlainKey P kt .string (.string s)
 | int (k:IntKind) (n:Int) (h:P.underlying kt=some (.int k)):PlainKey P kt (.int k) (.int k n)
theorem PlainKey.und {P:Program} {kt:TypeId} {d:TypeDesc} {v:Value} (h:PlainKey P kt d v):P.underlying kt=some d:=by cases h<;>assumption
theorem PlainKey.check {P:Program} {kt:TypeId} {d:TypeDesc} {v:Value} (h:PlainKey P kt d v) (em:Bool) (n:Nat) (w:World):(Instr.checkKey em (n+1) kt v).run P w=.ok () w:=by
 cases h with
 | str s h=>simp [Instr.checkKey,run_underlying h]
 | int k n h=>simp [Instr.checkKey,run_underlying h]
theorem PlainKey.same {P:Program} {kt:TypeId} {d:TypeDesc} {v:Value} (h:PlainKey P kt d v) (n:Nat):Instr.sameBits n v v=true:=by
 cases h with
 | str s h=>cases n<;>simp [Instr.sameBits,beq_bytes]
 | int k n h=>rename_i q;cases q<;>simp [Instr.sameBits]
theorem run_lookup_map {P:Program} {w:World} {mt kt et:TypeId} {d:TypeDesc} {key:Value} {r clock:Nat} {en:Array MapEntry} {z:Value} {i:TypeInfo} (hm:P.underlying mt=some (.map kt et)) (hk:PlainKey P kt d key)
  (hi:P.info? et=some i) (hz:i.zero=some z) (hr:w.heap[r]?=some (.map en clock)) (ok:Bool) {f:Option (Nat×Value)} (hf:Instr.findNow d key en.toList 0=some f) :
  (Instr.lookup mt (.map (some r)) key ok).run P w=.ok (if ok then .tuple #[(f.map (·.2)).getD z,.bool f.isSome] else (f.map (·.2)).getD z) w:=by
 unfold Instr.lookup
 have hc:=hk.check en.isEmpty 9999 w
 simp only [Sem.run_bind,run_underlying hm,Result.andThen_ok,MapKept.run_getObj_map hr]
 simp [hc,Instr.findKey,run_underlying hk.und,hf]
 cases f with
 | none=>simp [zeroValue,typeInfo,hi,hz]
 | some f=>simp
theorem run_lookup_nilmap {P:Program} {w:World} {mt kt et:TypeId} {d:TypeDesc} {key:Value} {z:Value} {i:TypeInfo} (hm:P.underlying mt=some (.map kt et)) (hk:PlainKey P kt d key)
  (hi:P.info? et=some i) (hz:i.zero=some z) (ok:Bool) :
  (Instr.lookup mt (.map none) key ok).run P w=.ok (if ok then .tuple #[z,.bool false] else z) w:=by
 unfold Instr.lookup
 have hc:=hk.check true 9999 w
 simp only [Sem.run_bind,run_underlying hm,Result.andThen_ok]
 simp [hc,Instr.findKey,run_underlying hk.und,Instr.findNow,zeroValue,typeInfo,hi,hz]
theorem run_mapUpdate_found {P:Program} {w:World} {mt kt et:TypeId} {d:TypeDesc} {key val:Value} {r clock:Nat} {en:Array MapEntry} (hm:P.underlying mt=some (.map kt et)) (hk:PlainKey P kt d key)
  (hr:w.heap[r]?=some (.map en clock)) {j:Nat} {x:MapEntry} (hj:en[j]?=some x) (hx:x.key=key) (hf:Instr.findNow d key en.toList 0=some (some (j,x.val))) :
  (Instr.mapUpdate mt (.map (some r)) key val).run P w=.ok () { w with heap:=w.heap.setIfInBounds r (.map (en.modify j fun e=>{ e with key,val }) clock) }:=by
 unfold Instr.mapUpdate
 have hc:=hk.check false 9999 w
 simp only [Sem.run_bind,run_underlying hm,Result.andThen_ok,MapKept.run_getObj_map hr]
 simp [hc,Instr.findKey,run_underlying hk.und,hf,hj,hx,Instr.keyThatStays,hk.same]
 exact MapKept.run_setObj_map _ hr
theorem run_mapUpdate_none {P:Program} {w:World} {mt kt et:TypeId} {d:TypeDesc} {key val:Value} {r clock:Nat} {en:Array MapEntry} (hm:P.underlying mt=some (.map kt et)) (hk:PlainKey P kt d key)
  (hr:w.heap[r]?=some (.map en clock)) (hf:Instr.findNow d key en.toList 0=some none) :
  (Instr.mapUpdate mt (.map (some r)) key val).run P w=.ok () { w with heap:=w.heap.setIfInBounds r (.map (en.push { key,val,born:=clock }) (clock+1)) }:=by
 unfold Instr.mapUpdate
 have hc:=hk.check false 9999 w
 simp only [Sem.run_bind,run_underlying hm,Result.andThen_ok,MapKept.run_getObj_map hr]
 simp [hc,Instr.findKey,run_underlying hk.und,hf]
 exact MapKept.run_setObj_map _ hr
theorem run_lookup_mapG {P:Program} {w:World} {mt kt et:TypeId} {key:Value} {r clock:Nat} {en:Array MapEntry} {z:Value} {i:TypeInfo} (hm:P.underlying mt=some (.map kt et)) (hc:∀ em,(Instr.checkKey em 10000 kt key).run P w=.ok () w)
  (hi:P.info? et=some i) (hz:i.zero=some z) (hr:w.heap[r]?=some (.map en clock)) (ok:Bool) {f:Option (Nat×Value)} (hf:(Instr.findKey kt key en.toList).run P w=.ok f w) :
  (Instr.lookup mt (.map (some r)) key ok).run P w=.ok (if ok then .tuple #[(f.map (·.2)).getD z,.bool f.isSome] else (f.map (·.2)).getD z) w:=by
 unfold Instr.lookup
 simp only [Sem.run_bind,run_underlying hm,Result.andThen_ok,MapKept.run_getObj_map hr]
 simp [hc,hf]
 cases f with
 | none=>simp [zeroValue,typeInfo,hi,hz]
 | some f=>simp
theorem run_mapUpdate_foundG {P:Program} {w:World} {mt kt et:TypeId} {key val:Value} {r clock:Nat} {en:Array MapEntry} (hm:P.underlying mt=some (.map kt et)) (hc:∀ em,(Instr.checkKey em 10000 kt key).run P w=.ok () w)
  (hs:Instr.sameBits 10000 key key=true) (hr:w.heap[r]?=some (.map en clock)) {j:Nat} {x:MapEntry} (hj:en[j]?=some x) (hx:x.key=key) (hf:(Instr.findKey kt key en.toList).run P w=.ok (some (j,x.val)) w) :
  (Instr.mapUpdate mt (.map (some r)) key val).run P w=.ok () { w with heap:=w.heap.setIfInBounds r (.map (en.modify j fun e=>{ e with key,val }) clock) }:=by
 unfold Instr.mapUpdate
 simp only [Sem.run_bind,run_underlying hm,Result.andThen_ok,MapKept.run_getObj_map hr]
 simp [hc,hf,hj,hx,Instr.keyThatStays,hs]
 exact MapKept.run_setObj_map _ hr
theorem run_mapUpdate_noneG {P:Program} {w:World} {mt kt et:TypeId} {key val:Value} {r clock:Nat} {en:Array MapEntry} (hm:P.underlying mt=some (.map kt et)) (hc:∀ em,(Instr.checkKey em 10000 kt key).run P w=.ok () w)
  (hr:w.heap[r]?=some (.map en clock)) (hf:(Instr.findKey kt key en.toList).run P w=.ok none w) :
  (Instr.mapUpdate mt (.map (some r)) key val).run P w=.ok () { w with heap:=w.heap.setIfInBounds r (.map (en.push { key,val,born:=clock }) (clock+1)) }:=by
 unfold Instr.mapUpdate
 simp only [Sem.run_bind,run_underlying hm,Result.andThen_ok,MapKept.run_getObj_map hr]
 simp [hc,hf]
 exact MapKept.run_setObj_map _ hr
def avKV:List AV→Option (List KV)
 | []=>some []
 | a::l=>match avKV l with
  | none=>none
  | some r=>match a with
   | .int k n=>some (.vI k n::r)
   | .str s=>some (.vS s::r)
   | .bool b=>some (.vB b::r)
   | _=>none
def KV.av:KV→AV
 | .vI k n=>.int k n
 | .vS l=>.str l
 | .vB x=>.bool x
theorem avKV_some:∀ {l:List AV} {ks:List KV},avKV l=some ks→l=ks.map KV.av
 | [],ks,h=>by cases h;rfl
 | a::l,ks,h=>by
  unfold avKV at h
  split at h
  ·cases h
  ·rename_i r hr
   have ih:=avKV_some hr
   split at h<;>first | (cases h;done) | (cases h;rw [ih];rfl)
def kvTy (T:Tab) (t:TypeId):KK→Bool
 | .kI k=>match lkT T t with
  | some ⟨.int k',_,_,_⟩=>Nat.beq (kidx k) (kidx k')
  | _=>false
 | .kS=>match lkT T t with
  | some ⟨.string,_,_,_⟩=>true
  | _=>false
 | .kB=>match lkT T t with
  | some ⟨.bool,_,_,_⟩=>true
  | _=>false
def keyFs (T:Tab):List Field→List KK→Nat→Bool
 | [],[],_=>true
 | f::fs,q::ks,j=>Nat.beq f.offset j&&kvTy T f.type q&&keyFs T fs ks (j+1)
 | _,_,_=>false
def kkDesc:KK→TypeDesc
 | .kI k=>.int k
 | .kS=>.string
 | .kB=>.bool
theorem kvTy_und {P:Program} {T:Tab} (hT:TabOk P T) {t:TypeId} {q:KK} (h:kvTy T t q=true):P.underlying t=some (kkDesc q):=by
 cases q with
 | kI k =>
  simp only [kvTy] at h
  split at h
  ·rename_i k' _ _ _ hi
   have:=kidx_inj h
   subst this
   exact (hT _ _ hi).1
  ·cases h
 | kS =>
  simp only [kvTy] at h
  split at h
  ·rename_i hi;exact (hT _ _ hi).1
  ·cases h
 | kB =>
  simp only [kvTy] at h
  split at h
  ·rename_i hi;exact (hT _ _ hi).1
  ·cases h
theorem part_kk {P:Program} {t:TypeId} {q:KK} (hu:P.underlying t=some (kkDesc q)) (cs:Array Value) (off:Nat) (c:Value) (hc:cs[off]?=some c) (w:World):(part t cs off).run P w=.ok c w:=by
 cases q<;>simp [part,isAgg,run_underlying hu,hc,kkDesc]
theorem eq_kk {P:Program} {t:TypeId} {q p:KV} (hu:P.underlying t=some (kkDesc q.kk)) (hk:p.kk=q.kk) {c e:Value} (hc:q.holds c) (he:p.holds e) (d:Nat) (w:World):(Op.equalIn (d+1) t c e).run P w=.ok (decide (q=p)) w:=by
 cases q with
 | vI k n =>
  cases p with
  | vI k' n' =>
   simp only [KV.kk,KK.kI.injEq] at hk
   subst hk
   simp only [KV.holds] at hc he
   subst hc he
   rw [run_equalIn_int w d t _ _ n n' hu]
   by_cases e:n=n'<;>simp [e]
  | vS l=>simp [KV.kk] at hk
  | vB x=>simp [KV.kk] at hk
 | vS l =>
  cases p with
  | vI k' n'=>simp [KV.kk] at hk
  | vS l' =>
   obtain ⟨s1,rfl,rfl⟩:=hc
   obtain ⟨s2,rfl,rfl⟩:=he
   rw [run_equalIn_string w d t _ _ hu,ByteArray.toList_eq,ByteArray.toList_eq]
   have:(s1.data.toList == s2.data.toList)=decide (KV.vS s1.data.toList=KV.vS s2.data.toList):=by
    by_cases e:s1.data.toList=s2.data.toList
    ·simp [e]
    ·simp only [KV.vS.injEq,e,decide_false]
     exact beq_eq_false_iff_ne.2 e
   rw [this]
  | vB x=>simp [KV.kk] at hk
 | vB x =>
  cases p with
  | vI k' n'=>simp [KV.kk] at hk
  | vS l=>simp [KV.kk] at hk
  | vB x' =>
   simp only [KV.holds] at hc he
   subst hc he
   rw [run_equalIn_bool w d t _ _ hu]
   cases x<;>cases x'<;>rfl
theorem eqFields_kk {P : Program} {T : Tab} (hT : TabOk P T) : ∀ (fs : List Field) (ks ps : List KV) (j : Nat) (cs es : Array Value), keyFs T fs (ks.map KV.kk) j = true → ps.map KV.kk = ks.map KV.kk → (∀ f ∈ fs, f.name ≠ "_") → (∀ (i : Nat) (c : Value) (q : KV), cs[j + i]? = some c → ks[i]? = some q → q.holds c) →
  (∀ (i:Nat) (c:Value) (q:KV),es[j+i]?=some c→ps[i]?=some q→q.holds c)→cs.size=j+ks.length→es.size=j+ps.length→∀ (d:Nat) (w:World),(Op.eqFields (d+1) cs es fs).run P w=.ok (decide (ks=ps)) w
 | [],ks,ps,j,cs,es,h,hk,_,_,_,_,_,d,w=>by
  cases ks with
  | nil =>
   cases ps with
   | nil=>rfl
   | cons p ps=>simp at hk
  | cons q ks=>simp [keyFs] at h
 | f::fs,[],ps,j,cs,es,h,_,_,_,_,_,_,d,w=>by simp [keyFs] at h
 | f::fs,q::ks,[],j,cs,es,h,hk,_,_,_,_,_,d,w=>by simp at hk
 | f::fs,q::ks,p::ps,j,cs,es,h,hk,hn,h1,h2,hl1,hl2,d,w=>by
  simp only [List.map_cons,keyFs,Bool.and_eq_true] at h
  simp only [List.map_cons,List.cons.injEq] at hk
  have hoff:=Nat.eq_of_beq_eq_true h.1.1
  have hu:=kvTy_und hT h.1.2
  simp at hl1 hl2
  obtain ⟨c,hc⟩:∃ c,cs[j]?=some c:=⟨_,Array.getElem?_eq_getElem (by omega)⟩
  obtain ⟨e,he⟩:∃ e,es[j]?=some e:=⟨_,Array.getElem?_eq_getElem (by omega)⟩
  have hname:=hn f (by simp)
  have hE:=eq_kk hu hk.1 (h1 0 c q (by rw [Nat.add_zero];exact hc) rfl) (h2 0 e p (by rw [Nat.add_zero];exact he) rfl) d w
  have hrest:=eqFields_kk hT fs ks ps (j+1) cs es h.2 hk.2 (fun f hf=>hn f (by simp [hf])) (fun i c a p q=>h1 (i+1) c a (by rw [← p];congr 1;omega) (by simpa using q)) (fun i c a p q=>h2 (i+1) c a (by rw [← p];congr 1;omega) (by simpa using q)) (by omega) (by omega) d w
  simp only [Op.eqFields,hname,ne_eq,not_false_eq_true,if_true,hoff,Sem.run_bind,part_kk hu cs j _ hc w,part_kk hu es j _ he w,Result.andThen_ok,hE]
  by_cases e0:q=p
  ·simp [e0] at hrest ⊢
   simpa using hrest
  ·simp [e0]
structure KeyG (P:Program) (T:Tab) (kt:TypeId) (sh:List KK) (fs:Array Field):Prop where
 und:P.underlying kt=some (.struct fs)
 fits:keyFs T fs.toList sh 0=true
 names : ∀ f ∈ fs.toList, f.name ≠ "_"
 stood:P.stoodInHeld kt=false
theorem KeyG.equal {P:Program} {T:Tab} (hT:TabOk P T) {kt:TypeId} {sh:List KK} {fs:Array Field} (h:KeyG P T kt sh fs) {v u:Value} {k p:List KV} (hv:KrG sh v k) (hu:KrG sh u p) (w:World):(Op.equal kt v u).run P w=.ok (decide (p=k)) w:=by
 obtain ⟨h1,cs,rfl,hl1,r1⟩:=hv
 obtain ⟨h2,es,rfl,hl2,r2⟩:=hu
 have hfo:P.fieldsOf kt=fs:=by simp [Program.fieldsOf,h.und]
 unfold Op.equal
 rw [show Op.maxDepth=9999+1 from rfl,run_equalIn_struct w 9999 kt cs es (by rw [hfo];exact h.und) h.stood,hfo]
 rw [eqFields_kk hT fs.toList k p 0 cs es (by rw [h1];exact h.fits) (by rw [h1,h2]) h.names (fun i c q a b=>r1 i c q (by simpa using a) b) (fun i c q a b=>r2 i c q (by simpa using a) b) (by omega) (by omega) 9998 w]
 congr 1
 by_cases e:k=p
 ·simp [e]
 ·have:¬ p=k:=fun h=>e h.symm
  simp [e,this]
theorem checkKey_kk {P : Program} {T : Tab} (hT : TabOk P T) (em : Bool) (n : Nat) (w : World) : ∀ (fs : List Field) (ks : List KV) (j : Nat) (cs : Array Value), keyFs T fs (ks.map KV.kk) j = true → (∀ f ∈ fs, f.name ≠ "_") → (∀ (i : Nat) (c : Value) (q : KV), cs[j + i]? = some c → ks[i]? = some q → q.holds c) → cs.size = j + ks.length →
  (forIn (m:=Sem) fs PUnit.unit fun f r=>do
    if f.name ≠ "_" then Instr.checkKey em (n + 1) f.type (← part f.type cs f.offset)
    pure (ForInStep.yield PUnit.unit)).run P w=.ok PUnit.unit w
 | [],ks,j,cs,h,_,_,_=>by simp
 | f::fs,[],j,cs,h,_,_,_=>by simp [keyFs] at h
 | f::fs,q::ks,j,cs,h,hn,h1,hl=>by
  simp only [List.map_cons,keyFs,Bool.and_eq_true] at h
  have hoff:=Nat.eq_of_beq_eq_true h.1.1
  have hu:=kvTy_und hT h.1.2
  simp at hl
  obtain ⟨c,hc⟩:∃ c,cs[j]?=some c:=⟨_,Array.getElem?_eq_getElem (by omega)⟩
  have hq:=h1 0 c q (by rw [Nat.add_zero];exact hc) rfl
  have hck:(Instr.checkKey em (n+1) f.type c).run P w=.ok () w:=by
   cases q with
   | vI k n=>simp only [KV.holds] at hq;subst hq;simp only [KV.kk,kkDesc] at hu;simp [Instr.checkKey,run_underlying hu]
   | vS l=>obtain ⟨s,rfl,_⟩:=hq;simp only [KV.kk,kkDesc] at hu;simp [Instr.checkKey,run_underlying hu]
   | vB x=>simp only [KV.holds] at hq;subst hq;simp only [KV.kk,kkDesc] at hu;simp [Instr.checkKey,run_underlying hu]
  have ih:=checkKey_kk hT em n w fs ks (j+1) cs h.2 (fun f hf=>hn f (by simp [hf])) (fun i c a p q=>h1 (i+1) c a (by rw [← p];congr 1;omega) (by simpa using q)) (by omega)
  have hname:=hn f (by simp)
  simp only [List.forIn_cons,Sem.run_bind,hname,ne_eq,not_false_eq_true,if_true,hoff,part_kk hu cs j _ hc w,Result.andThen_ok,hck,Sem.run_pure]
  exact ih
theorem KeyG.check {P:Program} {T:Tab} (hT:TabOk P T) {kt:TypeId} {sh:List KK} {fs:Array Field} (h:KeyG P T kt sh fs) {v:Value} {k:List KV} (hv:KrG sh v k) (em:Bool) (w:World):(Instr.checkKey em 10000 kt v).run P w=.ok () w:=by
 obtain ⟨h1,cs,rfl,hl1,r1⟩:=hv
 rw [show (10000:Nat)=9998+1+1 from rfl,Instr.checkKey]
 simp only [Sem.run_bind,run_underlying h.und,Result.andThen_ok]
 rw [← Array.forIn_toList]
 have:=checkKey_kk hT em 9998 w fs.toList k 0 cs (by rw [h1];exact h.fits) h.names (fun i c q a b=>r1 i c q (by simpa using a) b) (by omega)
 simp at this ⊢
 rw [this]
 rfl
theorem KeyG.inj {sh:List KK} {v u:Value} {k:List KV} (hv:KrG sh v k) (hu:KrG sh u k):v=u:=by
 obtain ⟨_,cs,rfl,hl1,r1⟩:=hv
 obtain ⟨_,es,rfl,hl2,r2⟩:=hu
 congr 1
 apply Array.ext (by omega)
 intro i h1 h2
 have hk:k[i]?=some k[i]:=List.getElem?_eq_getElem (by omega)
 have a:=r1 i _ _ (Array.getElem?_eq_getElem h1) hk
 have b:=r2 i _ _ (Array.getElem?_eq_getElem h2) hk
 revert a b
 generalize k[i]=q
 intro a b
 cases q with
 | vI k n=>simp only [KV.holds] at a b;rw [a,b]
 | vS l =>
  obtain ⟨s1,e1,l1⟩:=a
  obtain ⟨s2,e2,l2⟩:=b
  rw [e1,e2]
  obtain ⟨⟨x⟩⟩:=s1
  obtain ⟨⟨y⟩⟩:=s2
  simp only at l1 l2
  subst l1
  simp only [Value.string.injEq,ByteArray.mk.injEq,Array.mk.injEq]
  exact l2.symm
 | vB x=>simp only [KV.holds] at a b;rw [a,b]
theorem KeyG.fun' {sh:List KK} {v:Value} {k p:List KV} (hv:KrG sh v k) (hu:KrG sh v p):p=k:=by
 obtain ⟨e1,cs,rfl,hl1,r1⟩:=hv
 obtain ⟨e2,es,he,hl2,r2⟩:=hu
 cases he
 apply List.ext_getElem (by omega)
 intro i h1 h2
 have hc:cs[i]?=some cs[i]:=Array.getElem?_eq_getElem (by omega)
 have a:=r1 i _ _ hc (List.getElem?_eq_getElem h2)
 have b:=r2 i _ _ hc (List.getElem?_eq_getElem h1)
 revert a b
 generalize cs[i]=c
 generalize k[i]=q
 generalize p[i]=q'
 intro a b
 cases q with
 | vI k n =>
  simp only [KV.holds] at a
  subst a
  cases q' with
  | vI k' n'=>simp only [KV.holds,Value.int.injEq] at b;rw [b.1,b.2]
  | vS l=>obtain ⟨_,h,_⟩:=b;cases h
  | vB x=>simp [KV.holds] at b
 | vS l =>
  obtain ⟨s,rfl,rfl⟩:=a
  cases q' with
  | vI k' n'=>simp [KV.holds] at b
  | vS l=>obtain ⟨_,h,rfl⟩:=b;cases h;rfl
  | vB x=>simp [KV.holds] at b
 | vB x =>
  simp only [KV.holds] at a
  subst a
  cases q' with
  | vI k' n'=>simp [KV.holds] at b
  | vS l=>obtain ⟨_,h,_⟩:=b;cases h
  | vB x'=>simp only [KV.holds,Value.bool.injEq] at b;rw [b]
theorem KeyG.same {sh:List KK} {v:Value} {k:List KV} (hv:KrG sh v k):Instr.sameBits 10000 v v=true:=by
 obtain ⟨_,cs,rfl,hl,r⟩:=hv
 show Instr.sameBits (9999+1) (.agg cs) (.agg cs)=true
 simp only [Instr.sameBits,beq_self_eq_true,Bool.true_and,List.all_eq_true]
 intro p hp
 obtain ⟨i,hi,e⟩:=List.getElem_of_mem hp
 rw [List.getElem_zip] at e
 rw [← e]
 simp only [List.length_zip,Array.length_toList,Nat.min_self] at hi
 have a:=r i _ _ (Array.getElem?_eq_getElem hi) (List.getElem?_eq_getElem (by omega))
 simp only [Array.getElem_toList]
 revert a
 generalize cs[i]=c
 generalize k[i]'(by omega)=q
 intro a
 cases q with
 | vI k n=>simp only [KV.holds] at a;subst a;simp [Instr.sameBits]
 | vS l=>obtain ⟨s,rfl,_⟩:=a;simp [Instr.sameBits,beq_bytes]
 | vB x=>simp only [KV.holds] at a;subst a;simp [Instr.sameBits]
theorem findAsking_rel {K V:Type} [DecidableEq K] {P:Program} {kt:TypeId} {key:Value} {k:K} (Kr:Value→K→Prop) (hs:∀ v a,Kr v a→∀ w,(Op.equal kt key v).run P w=.ok (decide (a=k)) w) :
  ∀ (en:List MapEntry) (es:List (K×V)) (i:Nat),en.length=es.length→(∀ (j:Nat) (x:MapEntry) (p:K×V),en[j]?=some x→es[j]?=some p→Kr x.key p.1) →
   (∃ j x p,en[j]?=some x∧es[j]?=some p∧p.1=k∧(∀ w,(Instr.findAsking kt key en i).run P w=.ok (some (i+j,x.val)) w)∧mget es k=some p.2∧∀ y,mset es k y=es.set j (k,y)) ∨
   ((∀ w,(Instr.findAsking kt key en i).run P w=.ok none w)∧mget es k=none∧∀ y,mset es k y=es++[(k,y)])
 | [],es,i,hl,_=>by
  have:es=[]:=List.eq_nil_of_length_eq_zero (by simpa using hl.symm)
  subst this
  exact .inr ⟨fun w=>by simp [Instr.findAsking],rfl,fun _=>rfl⟩
 | x::en,[],i,hl,_=>by simp at hl
 | x::en,(a,v)::es,i,hl,hr=>by
  have h0:=hs x.key a (hr 0 x (a,v) rfl rfl)
  by_cases e:a=k
  ·left
   refine ⟨0,x,(a,v),rfl,rfl,e,fun w=>?_,by simp [mget,e],fun y=>by simp [mset,e]⟩
   simp [Instr.findAsking,h0,e]
  ·rcases findAsking_rel Kr hs en es (i+1) (by simpa using hl) (fun j x p h1 h2=>hr (j+1) x p (by simpa using h1) (by simpa using h2)) with ⟨j,x',p,h1,h2,h3,h4,h5,h6⟩ | ⟨h1,h2,h3⟩
   ·refine .inl ⟨j+1,x',p,by simpa using h1,by simpa using h2,h3,fun w=>?_,by simp [mget,e,h5],fun y=>by simp [mset,e,h6]⟩
    simp only [Instr.findAsking,Sem.run_bind,h0,e,decide_false,Result.andThen_ok]
    simp only [Bool.false_eq_true,if_false]
    rw [h4]
    congr 3
    omega
   ·refine .inr ⟨fun w=>?_,by simp [mget,e,h2],fun y=>by simp [mset,e,h3]⟩
    simp only [Instr.findAsking,Sem.run_bind,h0,e,decide_false,Result.andThen_ok]
    simp only [Bool.false_eq_true,if_false]
    exact h1 w
theorem KeyG.findKey {P:Program} {T:Tab} {kt:TypeId} {sh:List KK} {fs:Array Field} (h:KeyG P T kt sh fs) (w:World) (key:Value) (en:List MapEntry):(Instr.findKey kt key en).run P w=(Instr.findAsking kt key en).run P w:=by
 unfold Instr.findKey
 simp only [Sem.run_bind,run_underlying h.und,Result.andThen_ok]
 cases en with
 | nil=>simp [Instr.findNow,Instr.findAsking]
 | cons e en=>simp [Instr.findNow,Instr.sameNow]
def MapAt {K V:Type} (Kr:Value→K→Prop) (S:Blocks) (w:World) (v:Value) (ev:V→AV) (es:List (K×V)):Prop :=
 ∃ r en clock,v=.map (some r)∧w.heap[r]?=some (.map en clock)∧en.size=es.length∧∀ (j:Nat) (x:MapEntry) (p:K×V),en[j]?=some x→es[j]?=some p→Kr x.key p.1∧RelT S w x.val (ev p.2)
abbrev KrS (v:Value) (k:List UInt8):Prop:=∃ s,v=.string s∧s.data.toList=k
abbrev KrI (q:IntKind) (v:Value) (k:Int):Prop:=v=.int q k
def lookV (ok:Bool) (v:AV) (b:Bool):AV :=
 match ok with
 | true=>.tup [v,.bool b]
 | false=>v
def lookK (ok:Bool) (v:AV) (b:Bool) (c:AV→Prop):Prop :=
 match ok with
 | true=>c (.tup [v,.bool b])
 | false=>c v
theorem lookK_iff {ok:Bool} {v:AV} {b:Bool} {c:AV→Prop}:lookK ok v b c↔c (lookV ok v b):=by cases ok<;>rfl
theorem look_sound {K V:Type} [DecidableEq K] {P:Program} {m:Ids} {S:Blocks} {w:World} {mt kt et:TypeId} {d:TypeDesc} {key:Value} {k:K} {i:TypeInfo} {z:Value} {Kr:Value→K→Prop} (hs:∀ v a,Kr v a→Instr.sameNow d key v=some (decide (a=k)))
  {v:Value} {ev:V→AV} {dv:V} {es:List (K×V)} (h:MapAt Kr S w v ev es) (hm:P.underlying mt=some (.map kt et)) (hk:PlainKey P kt d key) (hi:P.info? et=some i) (hz:i.zero=some z) (hd:ev dv=avOf z) (ok:Bool) :
  ∃ u,(∀ w',Grows w w'→(Instr.lookup mt v key ok).run P w'=.ok u w')∧RelV m S w u (lookV ok (ev ((mget es k).getD dv)) (mget es k).isSome):=by
 obtain ⟨r,en,clock,rfl,hr,hlen,hrel⟩:=h
 have fin:∀ (u:Value) (a:AV) (b:Bool),RelT S w u a→RelV m S w (if ok then .tuple #[u,.bool b] else u) (lookV ok a b):=by
  intro u a b hu
  cases ok with
  | false=>exact .t _ _ hu
  | true =>
   refine .t _ _ (.tup _ _ (by simp) fun j c x hj hx=>?_)
   match j with
   | 0=>simp at hj hx;subst hj;subst hx;exact hu
   | 1=>simp at hj hx;subst hj;subst hx;exact .bool b
   | j+2=>simp at hj
 rcases findNow_rel Kr hs en.toList es 0 (by simpa using hlen) (fun j x p h1 h2=>(hrel j x p (by simpa using h1) h2).1) with ⟨j,x,p,h1,h2,h3,h4,h5,_⟩ | ⟨h1,h2,_⟩
 ·refine ⟨_,fun w' hw'=>run_lookup_map hm hk hi hz (hw'.obj hr) ok h4,?_⟩
  rw [h5]
  exact fin _ _ true (hrel j x p (by simpa using h1) h2).2
 ·refine ⟨_,fun w' hw'=>run_lookup_map hm hk hi hz (hw'.obj hr) ok h1,?_⟩
  rw [h2]
  have:RelT S w z (ev dv):=by rw [hd];exact relT_avOf S w z
  exact fin _ _ false this
theorem lookG_sound {V:Type} {P:Program} {T:Tab} (hT:TabOk P T) {m:Ids} {S:Blocks} {w:World} {mt kt et:TypeId} {sh:List KK} {fs:Array Field} {key:Value} {k:List KV} {i:TypeInfo} {z:Value} (hkg:KeyG P T kt sh fs) (hk:KrG sh key k)
  {v:Value} {ev:V→AV} {dv:V} {es:List (List KV×V)} (h:MapAt (KrG sh) S w v ev es) (hm:P.underlying mt=some (.map kt et)) (hi:P.info? et=some i) (hz:i.zero=some z) (hd:ev dv=avOf z) (ok:Bool) :
  ∃ u,(∀ w',Grows w w'→(Instr.lookup mt v key ok).run P w'=.ok u w')∧RelV m S w u (lookV ok (ev ((mget es k).getD dv)) (mget es k).isSome):=by
 obtain ⟨r,en,clock,rfl,hr,hlen,hrel⟩:=h
 have fin:∀ (u:Value) (a:AV) (b:Bool),RelT S w u a→RelV m S w (if ok then .tuple #[u,.bool b] else u) (lookV ok a b):=by
  intro u a b hu
  cases ok with
  | false=>exact .t _ _ hu
  | true =>
   refine .t _ _ (.tup _ _ (by simp) fun j c x hj hx=>?_)
   match j with
   | 0=>simp at hj hx;subst hj;subst hx;exact hu
   | 1=>simp at hj hx;subst hj;subst hx;exact .bool b
   | j+2=>simp at hj
 rcases findAsking_rel (KrG sh) (fun v a hv w=>hkg.equal hT hk hv w) en.toList es 0 (by simpa using hlen) (fun j x p h1 h2=>(hrel j x p (by simpa using h1) h2).1) with ⟨j,x,p,h1,h2,h3,h4,h5,_⟩ | ⟨h1,h2,_⟩
 ·refine ⟨_,fun w' hw'=>run_lookup_mapG (f:=some (0+j,x.val)) hm (fun em=>hkg.check hT hk em w') hi hz (hw'.obj hr) ok ?_,?_⟩
  ·rw [hkg.findKey]
   exact h4 w'
  ·rw [h5]
   exact fin _ _ true (hrel j x p (by simpa using h1) h2).2
 ·refine ⟨_,fun w' hw'=>run_lookup_mapG (f:=none) hm (fun em=>hkg.check hT hk em w') hi hz (hw'.obj hr) ok ?_,?_⟩
  ·rw [hkg.findKey]
   exact h1 w'
  ·rw [h2]
   have:RelT S w z (ev dv):=by rw [hd];exact relT_avOf S w z
   exact fin _ _ false this
theorem relV_int' {m:Ids} {S:Blocks} {w:World} {v:Value} {k:IntKind} {n:Int} (h:RelV m S w v (.int k n)):v=.int k n:=by
 cases h with
 | t _ _ h=>cases h;rfl
theorem relV_str' {m:Ids} {S:Blocks} {w:World} {v:Value} {l:List UInt8} (h:RelV m S w v (.str l)):∃ s,v=.string s∧s.data.toList=l:=by
 cases h with
 | t _ _ h=>cases h;exact ⟨_,rfl,by assumption⟩
theorem relB_smap_at [Tabs] {m:Ids} {S:Blocks} {w:World} {H:Heap} {id:Nat} {V:Type} {ev:V→AV} {dv:V} {es:List (List UInt8×V)} {v:Value} (hG:Good m S w H) (hid:lkH H id=.smap ev dv es) (hv:RelV m S w v (.map id)):MapAt KrS S w v ev es:=by
 have hb:=hG.rel id
 rw [hid] at hb
 obtain ⟨r,en,clock,hmi,hr,hl,_,hrel⟩:=hb
 cases hv with
 | t _ _ h=>cases h
 | map id r' hm =>
  rw [hmi] at hm
  cases hm
  exact ⟨r,en,clock,rfl,hr,hl,hrel⟩
theorem relB_imap_at [Tabs] {m:Ids} {S:Blocks} {w:World} {H:Heap} {id:Nat} {V:Type} {q:IntKind} {ev:V→AV} {dv:V} {es:List (Int×V)} {v:Value} (hG:Good m S w H) (hid:lkH H id=.imap q ev dv es) (hv:RelV m S w v (.map id)):MapAt (KrI q) S w v ev es:=by
 have hb:=hG.rel id
 rw [hid] at hb
 obtain ⟨r,en,clock,hmi,hr,hl,_,hrel⟩:=hb
 cases hv with
 | t _ _ h=>cases h
 | map id r' hm =>
  rw [hmi] at hm
  cases hm
  exact ⟨r,en,clock,rfl,hr,hl,hrel⟩
theorem relT_smap_at {m:Ids} {S:Blocks} {w:World} {V:Type} {ev:V→AV} {dv:V} {es:List (List UInt8×V)} {v:Value} (hv:RelV m S w v (.rsmap ev dv es)):MapAt KrS S w v ev es:=by
 cases hv with
 | t _ _ h=>cases h with
  | rsmap ev dv es r clock en hs hr hl hst hk hrel=>exact ⟨r,en,clock,rfl,hr,hl,fun j x p h1 h2=>⟨hk j x p h1 h2,hrel j x p h1 h2⟩⟩
theorem relT_imap_at {m:Ids} {S:Blocks} {w:World} {V:Type} {q:IntKind} {ev:V→AV} {dv:V} {es:List (Int×V)} {v:Value} (hv:RelV m S w v (.rimap q ev dv es)):MapAt (KrI q) S w v ev es:=by
 cases hv with
 | t _ _ h=>cases h with
  | rimap q ev dv es r clock en hs hr hl hst hk hrel=>exact ⟨r,en,clock,rfl,hr,hl,fun j x p h1 h2=>⟨hk j x p h1 h2,hrel j x p h1 h2⟩⟩
def sameKind (q q1 q2:IntKind):Bool:=Nat.beq (kidx q) (kidx q1)&&Nat.beq (kidx q) (kidx q2)
theorem sameKind_eq {q q1 q2:IntKind} (h:sameKind q q1 q2=true):q1=q∧q2=q:=by
 simp only [sameKind,Bool.and_eq_true] at h
 exact ⟨(kidx_inj h.1).symm,(kidx_inj h.2).symm⟩
def askS {V:Type} (T:Tab) (kt et:TypeId) (ev:V→AV) (dv:V) (es:List (List UInt8×V)) (k:AV) (ok:Bool) (c:AV→Prop):Prop :=
 match lkT T kt,lkT T et with
 | some ⟨.string,_,_,_⟩,some ei=>match k with
  | .str l=>ev dv=avOf ei.zero∧lookK ok (ev ((mget es l).getD dv)) (mget es l).isSome c
  | _=>False
 | _,_=>False
def askI {V:Type} (T:Tab) (kt et:TypeId) (q:IntKind) (ev:V→AV) (dv:V) (es:List (Int×V)) (k:AV) (ok:Bool) (c:AV→Prop):Prop :=
 match lkT T kt,lkT T et with
 | some ⟨.int q1,_,_,_⟩,some ei=>match k with
  | .int q2 n=>match sameKind q q1 q2 with
   | true=>ev dv=avOf ei.zero∧lookK ok (ev ((mget es n).getD dv)) (mget es n).isSome c
   | false=>False
  | _=>False
 | _,_=>False
theorem askS_sound {P:Program} {T:Tab} (hT:TabOk P T) {V:Type} {mt kt et:TypeId} {ev:V→AV} {dv:V} {es:List (List UInt8×V)} {k:AV} {ok:Bool} {c:AV→Prop} (h:askS T kt et ev dv es k ok c) (hm:P.underlying mt=some (.map kt et)) :
  ∃ a,c a∧∀ {m:Ids} {S:Blocks} {w:World} {v kv:Value},MapAt KrS S w v ev es→RelV m S w kv k→∃ u,(∀ w',Grows w w'→(Instr.lookup mt v kv ok).run P w'=.ok u w')∧RelV m S w u a:=by
 unfold askS at h
 split at h
 ·rename_i a1 a2 a3 ei hk he
  obtain ⟨hku,_⟩:=hT kt _ hk
  obtain ⟨_,j,hj,_,_,hz⟩:=hT et _ he
  split at h
  ·rename_i l
   refine ⟨_,lookK_iff.1 h.2,fun {m S w v kv} hat hkv=>?_⟩
   obtain ⟨s,rfl,rfl⟩:=relV_str' hkv
   exact look_sound (Kr:=KrS) (fun v a hv=>sameNow_str hv) hat hm (.str s hku) hj hz h.1 ok
  ·exact h.elim
 ·exact h.elim
theorem askI_sound {P:Program} {T:Tab} (hT:TabOk P T) {V:Type} {mt kt et:TypeId} {q:IntKind} {ev:V→AV} {dv:V} {es:List (Int×V)} {k:AV} {ok:Bool} {c:AV→Prop} (h:askI T kt et q ev dv es k ok c) (hm:P.underlying mt=some (.map kt et)) :
  ∃ a,c a∧∀ {m:Ids} {S:Blocks} {w:World} {v kv:Value},MapAt (KrI q) S w v ev es→RelV m S w kv k→∃ u,(∀ w',Grows w w'→(Instr.lookup mt v kv ok).run P w'=.ok u w')∧RelV m S w u a:=by
 unfold askI at h
 split at h
 ·rename_i q1 a1 a2 a3 ei hk he
  obtain ⟨hku,_⟩:=hT kt _ hk
  obtain ⟨_,j,hj,_,_,hz⟩:=hT et _ he
  split at h
  ·rename_i q2 n
   split at h
   ·rename_i hq
    obtain ⟨rfl,rfl⟩:=sameKind_eq hq
    refine ⟨_,lookK_iff.1 h.2,fun {m S w v kv} hat hkv=>?_⟩
    have:=relV_int' hkv
    subst this
    exact look_sound (Kr:=KrI _) (fun v a hv=>sameNow_int hv) hat hm (.int _ n hku) hj hz h.1 ok
   ·exact h.elim
  ·exact h.elim
 ·exact h.elim
theorem krG_of {m:Ids} {S:Blocks} {w:World} {v:Value} {sh:List KK} {ks:List KV} (hsh:ks.map KV.kk=sh) (h:RelV m S w v (.agg (ks.map KV.av))):KrG sh v ks:=by
 have each:∀ (cs:Array Value),(∀ (j:Nat) (c:Value) (a:AV),cs[j]?=some c→(ks.map KV.av)[j]?=some a→RelV m S w c a)→∀ (j:Nat) (c:Value) (q:KV),cs[j]?=some c→ks[j]?=some q→q.holds c:=by
  intro cs h j c q hc hq
  have:=h j c q.av hc (by rw [List.getElem?_map,hq];rfl)
  cases q with
  | vI k n=>exact relV_int' this
  | vS l=>exact relV_str' this
  | vB x=>cases this with | t _ _ h=>cases h;rfl
 cases h with
 | t _ _ h=>cases h with
  | agg cs l hl h=>exact ⟨hsh,cs,rfl,by simpa using hl,each cs fun j c a p q=>.t _ _ (h j c a p q)⟩
 | agg cs l hl h=>exact ⟨hsh,cs,rfl,by simpa using hl,each cs h⟩
def kkEq:List KK→List KK→Bool
 | [],[]=>true
 | a::l,b::r=>match a with
  | .kI k=>match b with
   | .kI k'=>Nat.beq (kidx k) (kidx k')&&kkEq l r
   | _=>false
  | .kS=>match b with
   | .kS=>kkEq l r
   | _=>false
  | .kB=>match b with
   | .kB=>kkEq l r
   | _=>false
 | _,_=>false
theorem kkEq_eq:∀ {l r:List KK},kkEq l r=true→l=r
 | [],[],_=>rfl
 | [],_::_,h=>by simp [kkEq] at h
 | _::_,[],h=>by simp [kkEq] at h
 | a::l,b::r,h=>by
  cases a<;>cases b<;>simp only [kkEq,Bool.and_eq_true,Bool.false_eq_true] at h
  ·rw [kidx_inj h.1,kkEq_eq h.2]
  ·rw [kkEq_eq h]
  ·rw [kkEq_eq h]
def keyTy (P:Program) (T:Tab) (kt:TypeId) (sh:List KK) (c:Prop):Prop :=
 match lkT T kt with
 | some ⟨.struct fs,_,_,_⟩=>match keyFs T fs.toList sh 0 with
  | true=>P.keyTypeAt 3 kt=true∧c
  | false=>False
 | _=>False
theorem keyTy_some {P:Program} {T:Tab} (hT:TabOk P T) {kt:TypeId} {sh:List KK} {c:Prop} (h:keyTy P T kt sh c):(∃ fs,KeyG P T kt sh fs)∧c:=by
 unfold keyTy at h
 split at h
 ·rename_i fs a1 a2 a3 hi
  obtain ⟨hu,_⟩:=hT kt _ hi
  split at h
  ·rename_i hfs
   obtain ⟨hkey,hc⟩:=h
   unfold Program.keyTypeAt at hkey
   simp only [hu,Bool.and_eq_true,Bool.not_eq_true',Array.all_eq_true_iff_forall_mem,bne_iff_ne,ne_eq] at hkey
   obtain ⟨⟨hnames,_⟩,hstood⟩:=hkey
   exact ⟨⟨fs,hu,hfs,fun f hf=>(hnames f (by simpa using hf)).1,hstood⟩,hc⟩
  ·exact h.elim
 ·exact h.elim
def askG {V:Type} (P:Program) (T:Tab) (kt et:TypeId) (sh:List KK) (ev:V→AV) (dv:V) (es:List (List KV×V)) (k:AV) (ok:Bool) (c:AV→Prop):Prop :=
 match k with
 | .agg l=>match avKV l with
  | some ks=>match kkEq (ks.map KV.kk) sh with
   | true=>match lkT T et with
    | some ei=>keyTy P T kt sh (ev dv=avOf ei.zero∧lookK ok (ev ((mget es ks).getD dv)) (mget es ks).isSome c)
    | none=>False
   | false=>False
  | none=>False
 | _=>False
theorem askG_sound {P:Program} {T:Tab} (hT:TabOk P T) {V:Type} {mt kt et:TypeId} {sh:List KK} {ev:V→AV} {dv:V} {es:List (List KV×V)} {k:AV} {ok:Bool} {c:AV→Prop} (h:askG P T kt et sh ev dv es k ok c) (hm:P.underlying mt=some (.map kt et)) :
  ∃ a,c a∧∀ {m:Ids} {S:Blocks} {w:World} {v kv:Value},MapAt (KrG sh) S w v ev es→RelV m S w kv k→∃ u,(∀ w',Grows w w'→(Instr.lookup mt v kv ok).run P w'=.ok u w')∧RelV m S w u a:=by
 unfold askG at h
 split at h
 ·rename_i l
  split at h
  ·rename_i ks hks
   have hl:=avKV_some hks
   subst hl
   split at h
   ·rename_i hsh
    have hsh':=kkEq_eq hsh
    split at h
    ·rename_i ei he
     obtain ⟨_,j,hj,_,_,hz⟩:=hT et _ he
     obtain ⟨⟨fs,hkg⟩,hd,h⟩:=keyTy_some hT h
     exact ⟨_,lookK_iff.1 h,fun {m S w v kv} hat hkv=>lookG_sound hT hkg (krG_of hsh' hkv) hat hm hj hz hd ok⟩
    ·exact h.elim
   ·exact h.elim
  ·exact h.elim
 ·exact h.elim
theorem relB_gmap_at [Tabs] {m:Ids} {S:Blocks} {w:World} {H:Heap} {id:Nat} {V:Type} {sh:List KK} {ev:V→AV} {dv:V} {es:List (List KV×V)} {v:Value} (hG:Good m S w H) (hid:lkH H id=.gmap sh ev dv es) (hv:RelV m S w v (.map id)):MapAt (KrG sh) S w v ev es:=by
 have hb:=hG.rel id
 rw [hid] at hb
 obtain ⟨r,en,clock,hmi,hr,hl,_,hrel⟩:=hb
 cases hv with
 | t _ _ h=>cases h
 | map id r' hm =>
  rw [hmi] at hm
  cases hm
  exact ⟨r,en,clock,rfl,hr,hl,hrel⟩
theorem relT_gmap_at {m:Ids} {S:Blocks} {w:World} {V:Type} {sh:List KK} {ev:V→AV} {dv:V} {es:List (List KV×V)} {v:Value} (hv:RelV m S w v (.rgmap sh ev dv es)):MapAt (KrG sh) S w v ev es:=by
 cases hv with
 | t _ _ h=>cases h with
  | rgmap k ev dv es r clock en hs hr hl hst hk hrel=>exact ⟨r,en,clock,rfl,hr,hl,fun j x p h1 h2=>⟨hk j x p h1 h2,hrel j x p h1 h2⟩⟩
def evLookup (P:Program) (T:Tab) (H:Heap) (nx:Nat) (t:TypeId) (m k:AV) (ok:Bool) (c:Res→Prop):Prop :=
 match lkT T t with
 | some ⟨.map kt et,_,_,_⟩=>match m with
  | .map id=>match lkH H id with
   | .smap ev dv es=>askS T kt et ev dv es k ok fun v=>c ⟨v,[id],[],nx⟩
   | .imap q ev dv es=>askI T kt et q ev dv es k ok fun v=>c ⟨v,[id],[],nx⟩
   | .gmap sh ev dv es=>askG P T kt et sh ev dv es k ok fun v=>c ⟨v,[id],[],nx⟩
   | _=>False
  | .rsmap ev dv es=>askS T kt et ev dv es k ok fun v=>c ⟨v,[],[],nx⟩
  | .rimap q ev dv es=>askI T kt et q ev dv es k ok fun v=>c ⟨v,[],[],nx⟩
  | .rgmap sh ev dv es=>askG P T kt et sh ev dv es k ok fun v=>c ⟨v,[],[],nx⟩
  | .nilm=>match lkT T kt with
   | some ⟨.string,_,_,_⟩=>match k with
    | .str _=>match lkT T et with
     | some ei=>lookK ok (avOf ei.zero) false fun v=>c ⟨v,[],[],nx⟩
     | none=>False
    | _=>False
   | some ⟨.int q1,_,_,_⟩=>match k with
    | .int q2 _=>match sameKind q1 q1 q2 with
     | true=>match lkT T et with
      | some ei=>lookK ok (avOf ei.zero) false fun v=>c ⟨v,[],[],nx⟩
      | none=>False
     | false=>False
    | _=>False
   | _=>False
  | _=>False
 | _=>False
theorem evLookup_sound [Tabs] {P:Program} {T:Tab} (hT:TabOk P T) {rd:Operand→AV} {H:Heap} {nx:Nat} {t:TypeId} {x y:Operand} {ok:Bool} {o:Oper} (ho:o.op=.lookup t x y ok) {k:Res→Prop}
  (h:evLookup P T H nx t (rd x) (rd y) ok k):∃ r,OpSemP P o [(x,true,rd x),(y,true,rd y)] H nx r∧(r.wr=[]∧r.nx=nx)∧k r:=by
 have fin:∀ (v:AV) (touch:List Nat),k ⟨v,touch,[],nx⟩→(∀ (m:Ids) (S:Blocks) (w:World) (a:Act) (H₂:Heap),Good m S w H₂→(∀ id∈touch,lkH H₂ id=lkH H id)→RelV m S w (a.eval x) (rd x)→RelV m S w (a.eval y) (rd y) →
   ∃ u,(∀ w',Grows w w'→(Instr.lookup t (a.eval x) (a.eval y) ok).run P w'=.ok u w')∧RelV m S w u v) →
   ∃ r,OpSemP P o [(x,true,rd x),(y,true,rd y)] H nx r∧(r.wr=[]∧r.nx=nx)∧k r:=by
  intro v touch hk hs
  refine ⟨_,opsem_pure fun m S w a H₂ hG ht hus=>?_,⟨rfl,rfl⟩,hk⟩
  obtain ⟨u,h1,h2⟩:=hs m S w a H₂ hG ht (hus (x,true,rd x) (by simp) rfl) (hus (y,true,rd y) (by simp) rfl)
  refine ⟨u,fun w' hw'=>?_,h2⟩
  unfold execOp
  simp [ho,h1 w' hw']
 unfold evLookup at h
 split at h
 ·rename_i kt et a1 a2 a3 hi
  obtain ⟨hm,_⟩:=hT t _ hi
  split at h
  ·rename_i id hx
   split at h
   ·rename_i V ev dv es hid
    obtain ⟨v,hv,hs⟩:=askS_sound hT h hm
    refine fin v [id] hv fun m S w a H₂ hG ht h1 h2=>hs (relB_smap_at hG (by rw [ht id (by simp)];exact hid) (by rw [hx] at h1;exact h1)) h2
   ·rename_i V q ev dv es hid
    obtain ⟨v,hv,hs⟩:=askI_sound hT h hm
    refine fin v [id] hv fun m S w a H₂ hG ht h1 h2=>hs (relB_imap_at hG (by rw [ht id (by simp)];exact hid) (by rw [hx] at h1;exact h1)) h2
   ·rename_i V sh ev dv es hid
    obtain ⟨v,hv,hs⟩:=askG_sound hT h hm
    refine fin v [id] hv fun m S w a H₂ hG ht h1 h2=>hs (relB_gmap_at hG (by rw [ht id (by simp)];exact hid) (by rw [hx] at h1;exact h1)) h2
   ·exact h.elim
  ·rename_i V ev dv es hx
   obtain ⟨v,hv,hs⟩:=askS_sound hT h hm
   refine fin v [] hv fun m S w a H₂ hG ht h1 h2=>hs (relT_smap_at (dv:=dv) (by rw [hx] at h1;exact h1)) h2
  ·rename_i V q ev dv es hx
   obtain ⟨v,hv,hs⟩:=askI_sound hT h hm
   refine fin v [] hv fun m S w a H₂ hG ht h1 h2=>hs (relT_imap_at (dv:=dv) (by rw [hx] at h1;exact h1)) h2
  ·rename_i V sh ev dv es hx
   obtain ⟨v,hv,hs⟩:=askG_sound hT h hm
   refine fin v [] hv fun m S w a H₂ hG ht h1 h2=>hs (relT_gmap_at (dv:=dv) (by rw [hx] at h1;exact h1)) h2
  ·rename_i hx
   have nilv:∀ {m:Ids} {S:Blocks} {w:World} {v:Value},RelV m S w v (rd x)→v=.map none:=by
    intro m S w v h
    rw [hx] at h
    cases h with
    | t _ _ h=>cases h;rfl
   have out:∀ (ei:TI),lkT T et=some ei→(∀ (m:Ids) (S:Blocks) (w:World) (kv:Value),RelV m S w kv (rd y)→∃ d,PlainKey P kt d kv)→(lookK ok (avOf ei.zero) false fun v=>k ⟨v,[],[],nx⟩) →
     ∃ r,OpSemP P o [(x,true,rd x),(y,true,rd y)] H nx r∧(r.wr=[]∧r.nx=nx)∧k r:=by
    intro ei he hkey hk
    obtain ⟨_,j,hj,_,_,hz⟩:=hT et _ he
    refine fin _ [] (lookK_iff.1 hk) fun m S w a H₂ hG ht h1 h2=>?_
    obtain ⟨d,hpk⟩:=hkey m S w _ h2
    refine ⟨_,fun w' _=>by rw [nilv h1];exact run_lookup_nilmap hm hpk hj hz ok,?_⟩
    have hu:=relT_avOf S w ei.zero
    cases ok with
    | false=>exact .t _ _ hu
    | true =>
     refine .t _ _ (.tup _ _ (by simp) fun j c x hj hx=>?_)
     match j with
     | 0=>simp at hj hx;subst hj;subst hx;exact hu
     | 1=>simp at hj hx;subst hj;subst hx;exact .bool false
     | j+2=>simp at hj
   split at h
   ·rename_i b1 b2 b3 hk
    obtain ⟨hku,_⟩:=hT kt _ hk
    split at h
    ·rename_i l hl
     split at h
     ·rename_i ei he
      refine out ei he (fun m S w kv hkv=>?_) h
      rw [hl] at hkv
      obtain ⟨s,rfl,_⟩:=relV_str' hkv
      exact ⟨_,.str s hku⟩
     ·exact h.elim
    ·exact h.elim
   ·rename_i q1 b1 b2 b3 hk
    obtain ⟨hku,_⟩:=hT kt _ hk
    split at h
    ·rename_i q2 n hl
     split at h
     ·rename_i hq
      obtain ⟨_,rfl⟩:=sameKind_eq hq
      split at h
      ·rename_i ei he
       refine out ei he (fun m S w kv hkv=>?_) h
       rw [hl] at hkv
       rw [relV_int' hkv]
       exact ⟨_,.int _ n hku⟩
      ·exact h.elim
     ·exact h.elim
    ·exact h.elim
   ·exact h.elim
  ·exact h.elim
 ·exact h.elim
def evMakeMap (nx:Nat) (k:Res→Prop):Prop:=k ⟨.map nx,[],[(nx,.smap (V:=PUnit) (fun _=>.undef) ⟨⟩ [])],nx+1⟩
theorem evMakeMap_sound [Tabs] {P:Program} {H:Heap} {nx:Nat} {t:TypeId} {o:Oper} (ho:o.op=.makeMap t none) {k:Res→Prop} (h:evMakeMap nx k):∃ r,OpSem P o [] H nx r∧nx≤r.nx∧k r:=by
 refine ⟨_,fun m S w a H₂ K Q hG ht hf hus hK=>?_,Nat.le_succ _,h⟩
 have hrun:(execOp a.eval o).run P w=.ok (.value (.map (some w.heap.size))) (w.alloc (.map #[] 0)):=by
  unfold execOp
  simp [ho,Instr.makeMap,newObj]
  rfl
 unfold Oper.wp
 rw [hrun,Oper.upon_value]
 have hn:m nx=none:=hf nx (Nat.le_refl _) (Nat.lt_succ_self _)
 refine hK _ _ _ _ (ext_new hG hn (.map (some w.heap.size)) _ _ rfl rfl rfl (by simp) (fun k hk=>RowKit.Below.heap_alloc w _ k hk) (fun k hk=>by simp [blk] at hk;omega) ?_) ?_
 ·exact ⟨w.heap.size,#[],0,by simp,heap_alloc_new w _,rfl,MapKept.stamped_empty 0,fun j x p hj=>by simp at hj⟩
 ·exact .map nx w.heap.size (by simp)
theorem mget_none {K V:Type} [DecidableEq K]:∀ {es:List (K×V)} {k:K} {j:Nat} {p:K×V},mget es k=none→es[j]?=some p→p.1=k→False
 | [],_,_,_,_,h,_=>by simp at h
 | (a,v)::es,k,0,p,h,hj,hp=>by
  simp at hj
  subst hj
  simp only at hp
  simp [mget,hp] at h
 | (a,v)::es,k,j+1,p,h,hj,hp=>by
  unfold mget at h
  split at h
  ·cases h
  ·exact mget_none h (by simpa using hj) hp
theorem put_at {K V:Type} [DecidableEq K] {P:Program} {S S':Blocks} {w w':World} {mt kt et:TypeId} {d:TypeDesc} {key val:Value} {k:K} {y:V} {Kr:Value→K→Prop} (hs:∀ v a,Kr v a→Instr.sameNow d key v=some (decide (a=k))) (hinj:∀ v,Kr v k→v=key) (hkr:Kr key k) (hfun:∀ a,Kr key a→a=k)
  {r clock:Nat} {en:Array MapEntry} {ev:V→AV} {es:List (K×V)} (hr:w.heap[r]?=some (.map en clock)) (hlen:en.size=es.length) (hb:MapKept.Stamped en clock)
  (hrel:∀ (j:Nat) (x:MapEntry) (p:K×V),en[j]?=some x→es[j]?=some p→Kr x.key p.1∧RelT S w x.val (ev p.2)) (hval:RelT S w val (ev y)) (hmono:∀ {v:Value} {a:AV},RelT S w v a→RelT S' w' v a)
  (hm:P.underlying mt=some (.map kt et)) (hk:PlainKey P kt d key) :
  ∃ en' clock',(Instr.mapUpdate mt (.map (some r)) key val).run P w=.ok () { w with heap:=w.heap.setIfInBounds r (.map en' clock') }∧en'.size=(mset es k y).length∧MapKept.Stamped en' clock' ∧
   ∀ (j:Nat) (x:MapEntry) (p:K×V),en'[j]?=some x→(mset es k y)[j]?=some p→Kr x.key p.1∧RelT S' w' x.val (ev p.2):=by
 rcases findNow_rel Kr hs en.toList es 0 (by simpa using hlen) (fun j x p h1 h2=>(hrel j x p (by simpa using h1) h2).1) with ⟨j,x,p,h1,h2,h3,h4,_,h6⟩ | ⟨h1,hnone,h3⟩
 ·have h1':en[j]?=some x:=by simpa using h1
  have hxk:x.key=key:=hinj _ (by rw [← h3];exact (hrel j x p h1' h2).1)
  rw [Nat.zero_add] at h4
  refine ⟨_,_,run_mapUpdate_found hm hk hr h1' hxk h4,by rw [h6];simp [hlen],MapKept.stamped_modify hb _ _ (fun _ _=>rfl) (fun e _ he=>by
   have:en[j]?=some e:=by simpa using he
   rw [h1'] at this
   cases this
   exact hxk.symm),fun i z q hz hq=>?_⟩
  ·rw [h6,List.getElem?_set] at hq
   rw [Array.getElem?_modify] at hz
   by_cases e:j=i
   ·subst e
    have hlt:j<es.length:=(List.getElem?_eq_some_iff.1 h2).1
    rw [if_pos rfl,if_pos hlt] at hq
    rw [if_pos rfl,h1'] at hz
    simp at hz hq
    subst hz
    subst hq
    exact ⟨hkr,hmono hval⟩
   ·rw [if_neg e] at hz hq
    exact ⟨(hrel i z q hz hq).1,hmono (hrel i z q hz hq).2⟩
 ·refine ⟨_,_,run_mapUpdate_none hm hk hr h1,by rw [h3];simp [hlen],MapKept.stamped_push hb (fun x hx e=>?_),fun i z q hz hq=>?_⟩
  ·obtain ⟨j,hj⟩:=List.getElem?_of_mem hx
   have hj':en[j]?=some x:=by simpa using hj
   have hjl:j<es.length:=by
    have:=(Array.getElem?_eq_some_iff.1 hj').1
    omega
   have hp:=(hrel j x _ hj' (List.getElem?_eq_getElem hjl)).1
   rw [e] at hp
   have ha:=hfun _ hp
   exact mget_none hnone (List.getElem?_eq_getElem hjl) ha
  ·rw [h3] at hq
   rw [Array.getElem?_push] at hz
   by_cases e:i=en.size
   ·rw [if_pos e] at hz
    cases hz
    rw [List.getElem?_append_right (by omega),e,hlen] at hq
    simp at hq
    subst hq
    exact ⟨hkr,hmono hval⟩
   ·rw [if_neg e] at hz
    have hlt:i<es.length:=by
     have:=(Array.getElem?_eq_some_iff.1 hz).1
     omega
    rw [List.getElem?_append_left hlt] at hq
    exact ⟨(hrel i z q hz hq).1,hmono (hrel i z q hz hq).2⟩
theorem put_atG {V:Type} {P:Program} {T:Tab} (hT:TabOk P T) {S S':Blocks} {w w':World} {mt kt et:TypeId} {sh:List KK} {fs:Array Field} (hkg:KeyG P T kt sh fs) {key val:Value} {k:List KV} {y:V} (hkr:KrG sh key k)
  {r clock:Nat} {en:Array MapEntry} {ev:V→AV} {es:List (List KV×V)} (hr:w.heap[r]?=some (.map en clock)) (hlen:en.size=es.length) (hb:MapKept.Stamped en clock)
  (hrel:∀ (j:Nat) (x:MapEntry) (p:List KV×V),en[j]?=some x→es[j]?=some p→KrG sh x.key p.1∧RelT S w x.val (ev p.2)) (hval:RelT S w val (ev y)) (hmono:∀ {v:Value} {a:AV},RelT S w v a→RelT S' w' v a)
  (hm:P.underlying mt=some (.map kt et)) :
  ∃ en' clock',(Instr.mapUpdate mt (.map (some r)) key val).run P w=.ok () { w with heap:=w.heap.setIfInBounds r (.map en' clock') }∧en'.size=(mset es k y).length∧MapKept.Stamped en' clock' ∧
   ∀ (j:Nat) (x:MapEntry) (p:List KV×V),en'[j]?=some x→(mset es k y)[j]?=some p→KrG sh x.key p.1∧RelT S' w' x.val (ev p.2):=by
 rcases findAsking_rel (KrG sh) (fun v a hv w=>hkg.equal hT hkr hv w) en.toList es 0 (by simpa using hlen) (fun j x p h1 h2=>(hrel j x p (by simpa using h1) h2).1) with ⟨j,x,p,h1,h2,h3,h4,_,h6⟩ | ⟨h1,hnone,h3⟩
 ·have h1':en[j]?=some x:=by simpa using h1
  have hxk:x.key=key:=KeyG.inj (k:=k) (by rw [← h3];exact (hrel j x p h1' h2).1) hkr
  rw [Nat.zero_add] at h4
  refine ⟨_,_,run_mapUpdate_foundG hm (fun em=>hkg.check hT hkr em w) (KeyG.same hkr) hr h1' hxk (by rw [hkg.findKey];exact h4 w),by rw [h6];simp [hlen],MapKept.stamped_modify hb _ _ (fun _ _=>rfl) (fun e _ he=>by
   have:en[j]?=some e:=by simpa using he
   rw [h1'] at this
   cases this
   exact hxk.symm),fun i z q hz hq=>?_⟩
  ·rw [h6,List.getElem?_set] at hq
   rw [Array.getElem?_modify] at hz
   by_cases e:j=i
   ·subst e
    have hlt:j<es.length:=(List.getElem?_eq_some_iff.1 h2).1
    rw [if_pos rfl,if_pos hlt] at hq
    rw [if_pos rfl,h1'] at hz
    simp at hz hq
    subst hz
    subst hq
    exact ⟨hkr,hmono hval⟩
   ·rw [if_neg e] at hz hq
    exact ⟨(hrel i z q hz hq).1,hmono (hrel i z q hz hq).2⟩
 ·refine ⟨_,_,run_mapUpdate_noneG hm (fun em=>hkg.check hT hkr em w) hr (by rw [hkg.findKey];exact h1 w),by rw [h3];simp [hlen],MapKept.stamped_push hb (fun x hx e=>?_),fun i z q hz hq=>?_⟩
  ·obtain ⟨j,hj⟩:=List.getElem?_of_mem hx
   have hj':en[j]?=some x:=by simpa using hj
   have hjl:j<es.length:=by
    have:=(Array.getElem?_eq_some_iff.1 hj').1
    omega
   have hp:=(hrel j x _ hj' (List.getElem?_eq_getElem hjl)).1
   rw [e] at hp
   have ha:=KeyG.fun' hkr hp
   exact mget_none hnone (List.getElem?_eq_getElem hjl) ha
  ·rw [h3] at hq
   rw [Array.getElem?_push] at hz
   by_cases e:i=en.size
   ·rw [if_pos e] at hz
    cases hz
    rw [List.getElem?_append_right (by omega),e,hlen] at hq
    simp at hq
    subst hq
    exact ⟨hkr,hmono hval⟩
   ·rw [if_neg e] at hz
    have hlt:i<es.length:=by
     have:=(Array.getElem?_eq_some_iff.1 hz).1
     omega
    rw [List.getElem?_append_left hlt] at hq
    exact ⟨(hrel i z q hz hq).1,hmono (hrel i z q hz hq).2⟩
def evMapUpdate (P:Program) (T:Tab) (H:Heap) (nx:Nat) (t:TypeId) (m k v:AV) (c:Res→Prop):Prop :=
 match lkT T t with
 | some ⟨.map kt _,_,_,_⟩=>match m with
  | .map id=>match lkH H id with
   | .smap ev dv es=>match lkT T kt with
    | some ⟨.string,_,_,_⟩=>match k with
     | .str l=>match v.tree with
      | true=>∃ y,ev y=v∧c ⟨.undef,[id],[(id,.smap ev dv (mset es l y))],nx⟩
      | false=>False
     | _=>False
    | _=>False
   | .imap q ev dv es=>match lkT T kt with
    | some ⟨.int q1,_,_,_⟩=>match k with
     | .int q2 n=>match sameKind q q1 q2&&v.tree with
      | true=>∃ y,ev y=v∧c ⟨.undef,[id],[(id,.imap q ev dv (mset es n y))],nx⟩
      | false=>False
     | _=>False
    | _=>False
   | .gmap sh ev dv es=>match k with
    | .agg l=>match avKV l with
     | some ks=>match kkEq (ks.map KV.kk) sh&&v.tree with
      | true=>keyTy P T kt sh (∃ y,ev y=v∧c ⟨.undef,[id],[(id,.gmap sh ev dv (mset es ks y))],nx⟩)
      | false=>False
     | none=>False
    | _=>False
   | _=>False
  | _=>False
 | _=>False
theorem string_ext {a b:ByteArray} (h:a.data.toList=b.data.toList):a=b:=by
 obtain ⟨⟨x⟩⟩:=a
 obtain ⟨⟨y⟩⟩:=b
 simp at h
 rw [h]
theorem evMapUpdate_sound [Tabs] {P:Program} {T:Tab} (hT:TabOk P T) {rd:Operand→AV} {H:Heap} {nx:Nat} {t:TypeId} {x y z:Operand} {o:Oper} (ho:o.op=.mapUpdate t x y z) {k:Res→Prop}
  (h:evMapUpdate P T H nx t (rd x) (rd y) (rd z) k):∃ r,OpSem P o [(x,true,rd x),(y,true,rd y),(z,true,rd z)] H nx r∧nx≤r.nx∧k r:=by
 -- the block's new content,in the world
 have upd:∀ {m:Ids} {S:Blocks} {w:World} {H₂:Heap} {id r:Nat} {b b':AB} {o':Obj},Good m S w H₂→lkH H₂ id=b→b.live=true→m id=some (.map (some r))→r<w.heap.size →
   (∀ {v:Value} {a:AV},RelT S w v a→RelT S { w with heap:=w.heap.setIfInBounds r o' } v a)→RelB m S { w with heap:=w.heap.setIfInBounds r o' } id b'→Ext m S w H₂ nx nx m S { w with heap:=w.heap.setIfInBounds r o' } ((id,b')::H₂):=by
  intro m S w H₂ id r b b' o' hG hid hl hm hlt _ hb
  exact ext_upd hG (by rw [hid];exact hl) hm rfl b' _ rfl rfl rfl (by simp) (fun k _ hne=>by simp [Array.getElem?_setIfInBounds,Ne.symm hne]) hb
 unfold evMapUpdate at h
 split at h
 ·rename_i kt et a1 a2 a3 hi
  obtain ⟨hm,_⟩:=hT t _ hi
  split at h
  ·rename_i id hx
   split at h
   ·rename_i V ev dv es hid
    split at h
    ·rename_i b1 b2 b3 hk
     obtain ⟨hku,_⟩:=hT kt _ hk
     split at h
     ·rename_i l hl
      split at h
      ·rename_i htree
       obtain ⟨yv,hyv,hc⟩:=h
       refine ⟨_,fun m S w a H₂ K Q hG ht hf hus hK=>?_,Nat.le_refl _,hc⟩
       have h1:RelV m S w (a.eval x) (rd x):=hus (x,true,rd x) (by simp) rfl
       have h2:RelV m S w (a.eval y) (rd y):=hus (y,true,rd y) (by simp) rfl
       have h3:RelV m S w (a.eval z) (rd z):=hus (z,true,rd z) (by simp) rfl
       rw [hx] at h1
       rw [hl] at h2
       have hid2:=ht id (by simp)
       have hb:=hG.rel id
       rw [hid2,hid] at hb
       obtain ⟨r,en,clock,hmi,hr,hlen,hborn,hrel⟩:=hb
       obtain ⟨s,hsv,rfl⟩:=relV_str' h2
       have hmap:a.eval x=.map (some r):=by
        generalize a.eval x=v at h1
        cases h1 with
        | t _ _ h=>cases h
        | map id r' hm=>rw [hmi] at hm;cases hm;rfl
       have hlive:(lkH H₂ id).live=true:=by rw [hid2,hid];rfl
       have hlt:r<w.heap.size:=(Array.getElem?_eq_some_iff.1 hr).1
       have hnS:∀ g,S g→g≠r:=fun g hg e=>by
        subst e
        exact (hG.ro g hg).2 id _ hlive hmi rfl
       have hmono:∀ (o':Obj) {v:Value} {a:AV},RelT S w v a→RelT S { w with heap:=w.heap.setIfInBounds r o' } v a:=fun o' v a h =>
        h.mono (fun _ h=>h) fun g hg=>by simp [Array.getElem?_setIfInBounds,(hnS g hg).symm]
       obtain ⟨en',clock',hrun,q1,q2,q3⟩:=put_at (S':=S) (w':=w) (Kr:=KrS) (fun v a hv=>sameNow_str hv) (fun v ⟨s',e1,e2⟩=>by rw [e1,string_ext e2]) ⟨s,rfl,rfl⟩ (fun a ⟨s',e1,e2⟩=>by cases e1;exact e2.symm) hr hlen hborn hrel (y:=yv) (by rw [hyv];exact h3.toT htree) (fun h=>h) hm (.str s hku)
       unfold Oper.wp execOp
       simp only [ho,hmap,hsv,Sem.run_bind,hrun,Result.andThen_ok]
       show K (a.put o.dst undef) _
       refine hK undef m S _ (upd hG (b':=.smap ev dv (mset es s.data.toList yv)) rfl hlive hmi hlt (hmono _) ?_) (.t _ _ (.undef _))
       refine ⟨r,en',clock',hmi,by simp [hlt],q1,q2,fun j x p hj hp=>?_⟩
       exact ⟨(q3 j x p hj hp).1,hmono _ (q3 j x p hj hp).2⟩
      ·exact h.elim
     ·exact h.elim
    ·exact h.elim
   ·rename_i V q ev dv es hid
    split at h
    ·rename_i q1 b1 b2 b3 hk
     obtain ⟨hku,_⟩:=hT kt _ hk
     split at h
     ·rename_i q2 n hl
      split at h
      ·rename_i hqt
       simp only [Bool.and_eq_true] at hqt
       obtain ⟨hq,htree⟩:=hqt
       obtain ⟨rfl,rfl⟩:=sameKind_eq hq
       obtain ⟨yv,hyv,hc⟩:=h
       refine ⟨_,fun m S w a H₂ K Q hG ht hf hus hK=>?_,Nat.le_refl _,hc⟩
       have h1:RelV m S w (a.eval x) (rd x):=hus (x,true,rd x) (by simp) rfl
       have h2:RelV m S w (a.eval y) (rd y):=hus (y,true,rd y) (by simp) rfl
       have h3:RelV m S w (a.eval z) (rd z):=hus (z,true,rd z) (by simp) rfl
       rw [hx] at h1
       rw [hl] at h2
       have hid2:=ht id (by simp)
       have hb:=hG.rel id
       rw [hid2,hid] at hb
       obtain ⟨r,en,clock,hmi,hr,hlen,hborn,hrel⟩:=hb
       have hsv:=relV_int' h2
       have hmap:a.eval x=.map (some r):=by
        generalize a.eval x=v at h1
        cases h1 with
        | t _ _ h=>cases h
        | map id r' hm=>rw [hmi] at hm;cases hm;rfl
       have hlive:(lkH H₂ id).live=true:=by rw [hid2,hid];rfl
       have hlt:r<w.heap.size:=(Array.getElem?_eq_some_iff.1 hr).1
       have hnS:∀ g,S g→g≠r:=fun g hg e=>by
        subst e
        exact (hG.ro g hg).2 id _ hlive hmi rfl
       have hmono:∀ (o':Obj) {v:Value} {a:AV},RelT S w v a→RelT S { w with heap:=w.heap.setIfInBounds r o' } v a:=fun o' v a h =>
        h.mono (fun _ h=>h) fun g hg=>by simp [Array.getElem?_setIfInBounds,(hnS g hg).symm]
       obtain ⟨en',clock',hrun,q1,q2,q3⟩:=put_at (S':=S) (w':=w) (Kr:=KrI _) (fun v a hv=>sameNow_int hv) (fun v e=>e) rfl (fun a e=>by cases e;rfl) hr hlen hborn hrel (y:=yv) (by rw [hyv];exact h3.toT htree) (fun h=>h) hm (.int _ n hku)
       unfold Oper.wp execOp
       simp only [ho,hmap,hsv,Sem.run_bind,hrun,Result.andThen_ok]
       show K (a.put o.dst undef) _
       refine hK undef m S _ (upd hG (b':=.imap _ ev dv (mset es n yv)) rfl hlive hmi hlt (hmono _) ?_) (.t _ _ (.undef _))
       refine ⟨r,en',clock',hmi,by simp [hlt],q1,q2,fun j x p hj hp=>?_⟩
       exact ⟨(q3 j x p hj hp).1,hmono _ (q3 j x p hj hp).2⟩
      ·exact h.elim
     ·exact h.elim
    ·exact h.elim
   ·rename_i V sh ev dv es hid
    split at h
    ·rename_i l hl
     split at h
     ·rename_i ks hks
      have hlk:=avKV_some hks
      split at h
      ·rename_i hqt
       simp only [Bool.and_eq_true] at hqt
       obtain ⟨hq,htree⟩:=hqt
       have hsh:=kkEq_eq hq
       obtain ⟨⟨fs,hkg⟩,yv,hyv,hc⟩:=keyTy_some hT h
       refine ⟨_,fun m S w a H₂ K Q hG ht hf hus hK=>?_,Nat.le_refl _,hc⟩
       have h1:RelV m S w (a.eval x) (rd x):=hus (x,true,rd x) (by simp) rfl
       have h2:RelV m S w (a.eval y) (rd y):=hus (y,true,rd y) (by simp) rfl
       have h3:RelV m S w (a.eval z) (rd z):=hus (z,true,rd z) (by simp) rfl
       rw [hx] at h1
       rw [hl,hlk] at h2
       have hid2:=ht id (by simp)
       have hb:=hG.rel id
       rw [hid2,hid] at hb
       obtain ⟨r,en,clock,hmi,hr,hlen,hborn,hrel⟩:=hb
       have hmap:a.eval x=.map (some r):=by
        generalize a.eval x=v at h1
        cases h1 with
        | t _ _ h=>cases h
        | map id r' hm=>rw [hmi] at hm;cases hm;rfl
       have hlive:(lkH H₂ id).live=true:=by rw [hid2,hid];rfl
       have hlt:r<w.heap.size:=(Array.getElem?_eq_some_iff.1 hr).1
       have hnS:∀ g,S g→g≠r:=fun g hg e=>by
        subst e
        exact (hG.ro g hg).2 id _ hlive hmi rfl
       have hmono:∀ (o':Obj) {v:Value} {a:AV},RelT S w v a→RelT S { w with heap:=w.heap.setIfInBounds r o' } v a:=fun o' v a h =>
        h.mono (fun _ h=>h) fun g hg=>by simp [Array.getElem?_setIfInBounds,(hnS g hg).symm]
       obtain ⟨en',clock',hrun,q1,q2,q3⟩:=put_atG hT (S':=S) (w':=w) hkg (krG_of hsh h2) hr hlen hborn hrel (y:=yv) (by rw [hyv];exact h3.toT htree) (fun h=>h) hm
       unfold Oper.wp execOp
       simp only [ho,hmap,Sem.run_bind,hrun,Result.andThen_ok]
       show K (a.put o.dst undef) _
       refine hK undef m S _ (upd hG (b':=.gmap sh ev dv (mset es ks yv)) rfl hlive hmi hlt (hmono _) ?_) (.t _ _ (.undef _))
       refine ⟨r,en',clock',hmi,by simp [hlt],q1,q2,fun j x p hj hp=>?_⟩
       exact ⟨(q3 j x p hj hp).1,hmono _ (q3 j x p hj hp).2⟩
      ·exact h.elim
     ·exact h.elim
    ·exact h.elim
   ·exact h.elim
  ·exact h.elim
 ·exact h.elim
def eqCell (T:Tab) (t:TypeId) (x y:AV) (k:Bool→Prop):Prop :=
 match lkT T t with
 | some ⟨.int q,_,_,_⟩=>match x with
  | .int q1 a=>match y with
   | .int q2 b=>match sameKind q q1 q2 with
    | true=>k (decide (a=b))
    | false=>False
   | _=>False
  | _=>False
 | some ⟨.string,_,_,_⟩=>match x with
  | .str a=>match y with
   | .str b=>k (decide (a=b))
   | _=>False
  | _=>False
 | some ⟨.bool,_,_,_⟩=>match x with
  | .bool a=>match y with
   | .bool b=>k (decide (a=b))
   | _=>False
  | _=>False
 | _=>False
def eqFsK (T:Tab):List Field→List AV→List AV→Nat→(Bool→Prop)→Prop
 | [],_,_,_,k=>k true
 | f::fs,xs,ys,j,k=>match xs with
  | []=>False
  | x::xs=>match ys with
   | []=>False
   | y::ys=>match Nat.beq f.offset j with
    | false=>False
    | true=>eqCell T f.type x y fun b=>eqFsK T fs xs ys (j+1) fun r=>k (b&&r)
theorem eqCell_sound {P:Program} {T:Tab} (hT:TabOk P T) {t:TypeId} {x y:AV} {k:Bool→Prop} (h:eqCell T t x y k) :
  ∃ b,k b∧(∀ (cs:Array Value) (off:Nat) (c:Value),cs[off]?=some c→∀ w,(part t cs off).run P w=.ok c w)∧∀ {m:Ids} {S:Blocks} {w:World} {c e:Value},RelV m S w c x→RelV m S w e y→∀ (d:Nat) (w':World),(Op.equalIn (d+1) t c e).run P w'=.ok b w':=by
 unfold eqCell at h
 split at h
 ·rename_i q a1 a2 a3 hi
  obtain ⟨hu,_⟩:=hT t _ hi
  have hpart:∀ (cs:Array Value) (off:Nat) (c:Value),cs[off]?=some c→∀ w,(part t cs off).run P w=.ok c w:=fun cs off c hc w=>by
   simp [part,isAgg,run_underlying hu,hc]
  split at h
  ·rename_i q1 a
   split at h
   ·rename_i q2 b
    split at h
    ·rename_i hq
     obtain ⟨rfl,rfl⟩:=sameKind_eq hq
     refine ⟨_,h,hpart,fun {m S w c e} h1 h2 d w'=>?_⟩
     rw [relV_int' h1,relV_int' h2,run_equalIn_int w' d t _ _ a b hu]
     by_cases e:a=b<;>simp [e]
    ·exact h.elim
   ·exact h.elim
  ·exact h.elim
 ·rename_i a1 a2 a3 hi
  obtain ⟨hu,_⟩:=hT t _ hi
  have hpart:∀ (cs:Array Value) (off:Nat) (c:Value),cs[off]?=some c→∀ w,(part t cs off).run P w=.ok c w:=fun cs off c hc w=>by
   simp [part,isAgg,run_underlying hu,hc]
  split at h
  ·rename_i a
   split at h
   ·rename_i b
    refine ⟨_,h,hpart,fun {m S w c e} h1 h2 d w'=>?_⟩
    obtain ⟨s1,rfl,rfl⟩:=relV_str' h1
    obtain ⟨s2,rfl,rfl⟩:=relV_str' h2
    rw [run_equalIn_string w' d t _ _ hu,ByteArray.toList_eq,ByteArray.toList_eq]
    have:(s1.data.toList == s2.data.toList)=decide (s1.data.toList=s2.data.toList):=by
     by_cases e:s1.data.toList=s2.data.toList
     ·simp [e]
     ·simp only [e,decide_false]
      exact beq_eq_false_iff_ne.2 e
    rw [this]
   ·exact h.elim
  ·exact h.elim
 ·rename_i a1 a2 a3 hi
  obtain ⟨hu,_⟩:=hT t _ hi
  have hpart:∀ (cs:Array Value) (off:Nat) (c:Value),cs[off]?=some c→∀ w,(part t cs off).run P w=.ok c w:=fun cs off c hc w=>by
   simp [part,isAgg,run_underlying hu,hc]
  split at h
  ·rename_i a
   split at h
   ·rename_i b
    refine ⟨_,h,hpart,fun {m S w c e} h1 h2 d w'=>?_⟩
    have e1:c=.bool a:=by cases h1 with | t _ _ h=>cases h;rfl
    have e2:e=.bool b:=by cases h2 with | t _ _ h=>cases h;rfl
    rw [e1,e2,run_equalIn_bool w' d t _ _ hu]
    cases a<;>cases b<;>rfl
   ·exact h.elim
  ·exact h.elim
 ·exact h.elim
theorem eqFsK_sound {P : Program} {T : Tab} (hT : TabOk P T) : ∀ (fs : List Field) (xs ys : List AV) (j : Nat) (k : Bool → Prop), eqFsK T fs xs ys j k → (∀ f ∈ fs, f.name ≠ "_") →
  ∃ b,k b∧∀ {m:Ids} {S:Blocks} {w:World} {cs es:Array Value},(∀ (i:Nat) (c:Value) (a:AV),cs[j+i]?=some c→xs[i]?=some a→RelV m S w c a)→(∀ (i:Nat) (c:Value) (a:AV),es[j+i]?=some c→ys[i]?=some a→RelV m S w c a) →
   cs.size=j+xs.length→es.size=j+ys.length→∀ (d:Nat) (w':World),(Op.eqFields (d+1) cs es fs).run P w'=.ok b w'
 | [],xs,ys,j,k,h,_=>⟨true,h,fun _ _ _ _ d w'=>rfl⟩
 | f::fs,[],ys,j,k,h,_=>h.elim
 | f::fs,x::xs,[],j,k,h,_=>h.elim
 | f::fs,x::xs,y::ys,j,k,h,hn=>by
  simp only [eqFsK] at h
  split at h
  ·exact h.elim
  ·rename_i hb
   have hoff:=Nat.eq_of_beq_eq_true hb
   obtain ⟨b,h,hpart,heq⟩:=eqCell_sound hT h
   obtain ⟨r,hk,hr⟩:=eqFsK_sound hT fs xs ys (j+1) _ h fun f hf=>hn f (by simp [hf])
   refine ⟨_,hk,fun {m S w cs es} h1 h2 hl1 hl2 d w'=>?_⟩
   simp at hl1 hl2
   obtain ⟨c,hc⟩:∃ c,cs[j]?=some c:=⟨_,Array.getElem?_eq_getElem (by omega)⟩
   obtain ⟨e,he⟩:∃ e,es[j]?=some e:=⟨_,Array.getElem?_eq_getElem (by omega)⟩
   have hname:=hn f (by simp)
   have hE:=heq (h1 0 c x (by rw [Nat.add_zero];exact hc) rfl) (h2 0 e y (by rw [Nat.add_zero];exact he) rfl) d w'
   have hrest:=hr (m:=m) (S:=S) (w:=w) (cs:=cs) (es:=es) (fun i c a p q=>h1 (i+1) c a (by rw [← p];congr 1;omega) (by simpa using q)) (fun i c a p q=>h2 (i+1) c a (by rw [← p];congr 1;omega) (by simpa using q)) (by omega) (by omega) d w'
   simp only [Op.eqFields,hname,ne_eq,not_false_eq_true,if_true,hoff,Sem.run_bind,hpart cs j _ hc w',hpart es j _ he w',Result.andThen_ok,hE]
   cases b with
   | false=>simp
   | true=>simpa using hrest
def evEqS (P:Program) (T:Tab) (neg:Bool) (t:TypeId) (xs:List AV) (y:AV) (k:AV→Prop):Prop :=
 match lkT T t with
 | some ⟨.struct fs,_,_,_⟩=>match y with
  | .agg ys=>(P.keyTypeAt 3 t=true∧P.eqGuardType P.depth t=false)∧eqFsK T fs.toList xs ys 0 fun b=>match neg with
   | true=>k (.bool (!b))
   | false=>k (.bool b)
  | _=>False
 | _=>False
theorem evEqS_sound [Tabs] {P:Program} {T:Tab} (hT:TabOk P T) {rd:Operand→AV} {H:Heap} {nx:Nat} {neg:Bool} {t yt:TypeId} {x y:Operand} {xs:List AV} {o:Oper} (ho:o.op=.binOp (if neg then .neq else .eql) t x y yt) (hx:rd x=.agg xs) {k:Res→Prop}
  (h:evEqS P T neg t xs (rd y) fun v=>k ⟨v,[],[],nx⟩):∃ r,OpSemP P o [(x,true,rd x),(y,true,rd y)] H nx r∧(r.wr=[]∧r.nx=nx)∧k r:=by
 unfold evEqS at h
 split at h
 ·rename_i fs a1 a2 a3 hi
  obtain ⟨hu,_⟩:=hT t _ hi
  split at h
  ·rename_i ys hy
   obtain ⟨⟨hkey,hgd⟩,h⟩:=h
   unfold Program.keyTypeAt at hkey
   simp only [hu,Bool.and_eq_true,Bool.not_eq_true',Array.all_eq_true_iff_forall_mem,bne_iff_ne,ne_eq] at hkey
   obtain ⟨⟨hnames,_⟩,hstood⟩:=hkey
   obtain ⟨b,hk,hb⟩:=eqFsK_sound hT fs.toList xs ys 0 _ h fun f hf=>(hnames f (by simpa using hf)).1
   have hfo:P.fieldsOf t=fs:=by simp [Program.fieldsOf,hu]
   refine ⟨⟨.bool (if neg then !b else b),[],[],nx⟩,opsem_pure fun m S w a H₂ hG ht hus=>?_,⟨rfl,rfl⟩,?_⟩
   ·have h1:RelV m S w (a.eval x) (rd x):=hus (x,true,rd x) (by simp) rfl
    have h2:RelV m S w (a.eval y) (rd y):=hus (y,true,rd y) (by simp) rfl
    rw [hx] at h1
    rw [hy] at h2
    obtain ⟨cs,hcs,hl1,r1⟩:=relV_agg h1
    obtain ⟨es,hes,hl2,r2⟩:=relV_agg h2
    refine ⟨.bool (if neg then !b else b),fun w' _=>?_,.t _ _ (.bool _)⟩
    have hf:=hb (m:=m) (S:=S) (w:=w) (cs:=cs) (es:=es) (fun i c a p q=>r1 i c a (by simpa using p) q) (fun i c a p q=>r2 i c a (by simpa using p) q) (by omega) (by omega) 9998 w'
    have heq:(Op.equalIn 10000 t (.agg cs) (.agg es)).run P w'=.ok b w':=by
     rw [run_equalIn_struct w' 9999 t cs es (by rw [hfo];exact hu) hstood,hfo]
     exact hf
    unfold execOp
    cases neg with
    | false=>simp [ho,hcs,hes,run_eqGuard_agg w' .eql t x y cs es hgd,run_eql_struct,heq]
    | true=>simp [ho,hcs,hes,run_eqGuard_agg w' .neq t x y cs es hgd,run_neq_struct,heq]
   ·cases neg<;>exact hk
  ·exact h.elim
 ·exact h.elim
def evNilS (neg:Bool) (x:AV) (k:AV→Prop):Prop :=
 match x with
 | .nils=>k (.bool (!neg))
 | .sl _ _ _ xs=>∀ b:Bool,((if neg then !b else b)=true→xs=[])→k (.bool b)
 | .lsl _ xs=>∀ b:Bool,((if neg then !b else b)=true→xs=[])→k (.bool b)
 | _=>False
theorem evNilS_sound [Tabs] {P:Program} {T:Tab} (hT:TabOk P T) {rd:Operand→AV} {H:Heap} {nx:Nat} {neg:Bool} {t yt e:TypeId} {s b:Nat} {z:Value} {x y:Operand} {o:Oper} (ho:o.op=.binOp (if neg then .neq else .eql) t x y yt) (hy:rd y=.nils)
  (hi:lkT T t=some ⟨.slice e,s,b,z⟩) {k:Res→Prop} (h:evNilS neg (rd x) fun v=>k ⟨v,[],[],nx⟩) :
  ∃ Rr,OpSemR P o [(x,true,rd x),(y,true,rd y)] H nx [] Rr∧∀ r,Rr r→nx≤r.nx∧k r:=by
 obtain ⟨hu,_⟩:=hT t _ hi
 have hu':P.underlying t=some (.slice e):=hu
 have run:∀ (a:Act) (w:World) (p:Option Addr) (n c:Nat),a.eval x=.slice p n c→a.eval y=.slice none 0 0→(execOp a.eval o).run P w=.ok (.value (.bool (if neg then !p.isNone else p.isNone))) w:=by
  intro a w p n c h1 h2
  have hg:∀ (op:BinOp),(eqGuard op t x y (.slice p n c) (.slice none 0 0)).run P w=.ok () w:=by
   intro op;unfold eqGuard;split<;>rfl
  unfold execOp
  cases neg with
  | false =>
   have he:(binOp .eql t (.slice p n c) (.slice none 0 0)).run P w=.ok (.bool p.isNone) w:=by
    simp only [binOp]
    simp [run_equal_slice_nil w t e p n c hu']
   simp [ho,h1,h2,hg,he]
  | true=>simp [ho,h1,h2,hg,run_neq_slice_nil w t e p n c hu']
 have nil:∀ {m:Ids} {S:Blocks} {w:World} {v:Value},RelV m S w v .nils→v=.slice none 0 0:=by
  intro m S w v h
  cases h with
  | t _ _ h=>cases h;rfl
 have lsl:∀ {m:Ids} {S:Blocks} {w:World} {v:Value} {E:Nat} {l:List AV},RelT S w v (.lsl E l)→∃ p n c,v=.slice p n c∧(p.isNone=true→l=[]):=by
  intro m S w v E l h
  rcases relT_lsl h with ⟨rfl | ⟨a,rfl⟩,hl⟩ | ⟨g',o',cap',cs,hv,_⟩
  ·exact ⟨none,0,0,rfl,fun _=>hl⟩
  ·exact ⟨_,0,0,rfl,fun _=>hl⟩
  ·exact ⟨_,_,_,hv,fun h=>by simp at h⟩
 have sem:∀ (Pb:Bool→Prop),(∀ (m:Ids) (S:Blocks) (w:World) (v:Value),RelV m S w v (rd x)→∃ p n c,v=.slice p n c∧Pb (if neg then !p.isNone else p.isNone)) →
   OpSemR P o [(x,true,rd x),(y,true,rd y)] H nx [] (fun r=>∃ b,Pb b∧r=⟨.bool b,[],[],nx⟩):=by
  intro Pb hp m S w a H₂ K Q hG ht hf hus hK
  have h1:RelV m S w (a.eval x) (rd x):=hus (x,true,rd x) (by simp) rfl
  have h2:RelV m S w (a.eval y) (rd y):=hus (y,true,rd y) (by simp) rfl
  rw [hy] at h2
  obtain ⟨p,n,c,hv,hb⟩:=hp m S w _ h1
  unfold Oper.wp
  rw [run a w p n c hv (nil h2),Oper.upon_value]
  exact hK _ ⟨_,hb,rfl⟩ _ m S w (Ext.refl hG nx) (.t _ _ (.bool _))
 unfold evNilS at h
 split at h
 ·rename_i hx
  refine ⟨_,sem (fun b=>b=!neg) fun m S w v hv=>?_,?_⟩
  ·rw [hx] at hv
   exact ⟨none,0,0,nil hv,by cases neg<;>rfl⟩
  ·rintro r ⟨b,rfl,rfl⟩
   exact ⟨Nat.le_refl _,h⟩
 ·rename_i V E enc d xs hx
  refine ⟨_,sem (fun b=>(if neg then !b else b)=true→xs=[]) fun m S w v hv=>?_,?_⟩
  ·rw [hx] at hv
   cases hv with
   | t _ _ h=>cases h with
    | sl E enc d xs v h =>
     obtain ⟨p,n,c,hp,hl⟩:=lsl (m:=m) h
     refine ⟨p,n,c,hp,fun hb=>?_⟩
     have:p.isNone=true:=by cases neg<;>simpa using hb
     simpa using hl this
  ·rintro r ⟨b,hb,rfl⟩
   exact ⟨Nat.le_refl _,h b hb⟩
 ·rename_i E xs hx
  refine ⟨_,sem (fun b=>(if neg then !b else b)=true→xs=[]) fun m S w v hv=>?_,?_⟩
  ·rw [hx] at hv
   cases hv with
   | t _ _ h =>
    obtain ⟨p,n,c,hp,hl⟩:=lsl (m:=m) h
    refine ⟨p,n,c,hp,fun hb=>?_⟩
    have:p.isNone=true:=by cases neg<;>simpa using hb
    exact hl this
  ·rintro r ⟨b,hb,rfl⟩
   exact ⟨Nat.le_refl _,h b hb⟩
 ·exact h.elim
def evBin2 (P:Program) (T:Tab) (g:Option Bool) (op:BinOp) (t:TypeId) (x y:AV) (c:AV→Prop):Prop :=
 match x with
 | .agg xs=>match op with
  | .eql=>evEqS P T false t xs y c
  | .neq=>evEqS P T true t xs y c
  | _=>False
 | _=>evBin T g op t x y c
theorem evBin2_sound [Tabs] {P:Program} {T:Tab} (hT:TabOk P T) {g:Option Bool} {rd:Operand→AV} {H:Heap} {nx:Nat} {op:BinOp} {t yt:TypeId} {x y:Operand} {o:Oper} (ho:o.op=.binOp op t x y yt) {k:Res→Prop}
  (h:evBin2 P T g op t (rd x) (rd y) fun v=>k ⟨v,[],[],nx⟩):∃ r,(gOk g→OpSemP P o [(x,true,rd x),(y,true,rd y)] H nx r)∧(r.wr=[]∧r.nx=nx)∧k r:=by
 unfold evBin2 at h
 split at h
 ·rename_i xs hx
  split at h
  ·obtain ⟨r,h1,h2⟩:=evEqS_sound (neg:=false) hT ho hx h
   exact ⟨r,fun _=>h1,h2⟩
  ·obtain ⟨r,h1,h2⟩:=evEqS_sound (neg:=true) hT ho hx h
   exact ⟨r,fun _=>h1,h2⟩
  ·exact h.elim
 ·exact evBin_sound hT ho h
def evBinW (P:Program) (T:Tab) (g:Option Bool) (op:BinOp) (t:TypeId) (x y:AV) (c:AV→Prop):Prop :=
 match op with
 | .add=>match x,y with
  | .int .i64 a,.int .i64 b=>c (.int .i64 (IntKind.i64.wrap (a+b)))
  | _,_=>evBin2 P T g op t x y c
 | .sub=>match x,y with
  | .int .i64 a,.int .i64 b=>c (.int .i64 (IntKind.i64.wrap (a-b)))
  | _,_=>evBin2 P T g op t x y c
 | .mul=>match x,y with
  | .int .i64 a,.int .i64 b=>c (.int .i64 (IntKind.i64.wrap (a*b)))
  | _,_=>evBin2 P T g op t x y c
 | _=>evBin2 P T g op t x y c
theorem evBinW_sound [Tabs] {P:Program} {T:Tab} (hT:TabOk P T) {g:Option Bool} {rd:Operand→AV} {H:Heap} {nx:Nat} {op:BinOp} {t yt:TypeId} {x y:Operand} {o:Oper} (ho:o.op=.binOp op t x y yt) {k:Res→Prop}
  (h:evBinW P T g op t (rd x) (rd y) fun v=>k ⟨v,[],[],nx⟩):∃ r,(gOk g→OpSemP P o [(x,true,rd x),(y,true,rd y)] H nx r)∧(r.wr=[]∧r.nx=nx)∧k r:=by
 have fin:∀ (op':BinOp) (f:Int→Int→Int) (a b:Int),op=op'→(∀ (w:World) (a b:Int),(binOp op' t (.int .i64 a) (.int .i64 b)).run P w=.ok (.int .i64 (IntKind.i64.wrap (f a b))) w)→rd x=.int .i64 a→rd y=.int .i64 b→k ⟨.int .i64 (IntKind.i64.wrap (f a b)),[],[],nx⟩ →
   ∃ r,(gOk g→OpSemP P o [(x,true,rd x),(y,true,rd y)] H nx r)∧(r.wr=[]∧r.nx=nx)∧k r:=by
  intro op' f a b hop hrun hx hy hk
  subst hop
  refine ⟨_,fun hg=>opsem_pure fun m S w act H₂ hG ht hus=>?_,⟨rfl,rfl⟩,hk⟩
  have h1:=hus (x,true,rd x) (by simp) rfl
  have h2:=hus (y,true,rd y) (by simp) rfl
  simp only [hx,hy] at h1 h2
  refine ⟨.int .i64 (IntKind.i64.wrap (f a b)),fun w' _=>?_,.t _ _ (.int _ _)⟩
  have guard:(eqGuard op t x y (.int .i64 a) (.int .i64 b)).run P w'=.ok () w':=by unfold eqGuard;split<;>rfl
  unfold execOp
  simp only [ho,relV_int h1,relV_int h2]
  simp only [Sem.run_bind,guard,Result.andThen_ok,hrun w' a b,Sem.run_pure]
 unfold evBinW at h
 split at h
 ·split at h
  ·rename_i a b hx hy
   exact fin .add (·+·) a b rfl (fun w a b=>by simp only [binOp,Op.intArith];simp) hx hy h
  ·exact evBin2_sound hT ho h
 ·split at h
  ·rename_i a b hx hy
   exact fin .sub (·-·) a b rfl (fun w a b=>by simp only [binOp,Op.intArith];simp) hx hy h
  ·exact evBin2_sound hT ho h
 ·split at h
  ·rename_i a b hx hy
   exact fin .mul (·*·) a b rfl (fun w a b=>by simp only [binOp,Op.intArith];simp) hx hy h
  ·exact evBin2_sound hT ho h
 ·exact evBin2_sound hT ho h
def nilD:AV→Option Bool
 | .nils=>some true
 | .lsl _ (_::_)=>some false
 | .sl _ _ _ (_::_)=>some false
 | _=>none
def evNilG (T:Tab) (op:BinOp) (t:TypeId) (x:AV) (k:AV→Prop):Prop :=
 match lkT T t with
 | some ⟨.slice _,_,_,_⟩=>match nilD x with
  | some b=>match op with
   | .eql=>k (.bool b)
   | .neq=>k (.bool (!b))
   | _=>False
  | none=>False
 | _=>False
theorem nilD_sound {m:Ids} {S:Blocks} {w:World} {v:Value} {a:AV} {b:Bool} (h:RelV m S w v a) (hd:nilD a=some b):∃ p n c,v=.slice p n c∧p.isNone=b:=by
 unfold nilD at hd
 split at hd
 ·cases hd
  cases h with
  | t _ _ h=>cases h;exact ⟨_,_,_,rfl,rfl⟩
 ·cases hd
  rcases relT_lsl (relV_lsl h) with ⟨_,hl⟩ | ⟨g',o',cap',cs,hv,_⟩
  ·cases hl
  ·exact ⟨_,_,_,hv,rfl⟩
 ·cases hd
  rcases relT_lsl (relV_sl h) with ⟨_,hl⟩ | ⟨g',o',cap',cs,hv,_⟩
  ·cases hl
  ·exact ⟨_,_,_,hv,rfl⟩
 ·cases hd
theorem evNilG_sound [Tabs] {P:Program} {T:Tab} (hT:TabOk P T) {rd:Operand→AV} {H:Heap} {nx:Nat} {op:BinOp} {t yt:TypeId} {x y:Operand} {o:Oper} (ho:o.op=.binOp op t x y yt) (hy:rd y=.nils) {k:Res→Prop}
  (h:evNilG T op t (rd x) fun v=>k ⟨v,[],[],nx⟩):∃ r,OpSemP P o [(x,true,rd x),(y,true,rd y)] H nx r∧(r.wr=[]∧r.nx=nx)∧k r:=by
 unfold evNilG at h
 split at h
 ·rename_i e s b z hi
  obtain ⟨hu,_⟩:=hT t _ hi
  have hu':P.underlying t=some (.slice e):=hu
  split at h
  ·rename_i b hb
   have main:∀ neg:Bool,op=(if neg then .neq else .eql)→k ⟨.bool (if neg then !b else b),[],[],nx⟩→∃ r,OpSemP P o [(x,true,rd x),(y,true,rd y)] H nx r∧(r.wr=[]∧r.nx=nx)∧k r:=by
    intro neg hop hk
    refine ⟨_,opsem_pure fun m S w a H₂ hG ht hus=>?_,⟨rfl,rfl⟩,hk⟩
    have hx:RelV m S w (a.eval x) (rd x):=hus (x,true,rd x) (by simp) rfl
    have hy':RelV m S w (a.eval y) (rd y):=hus (y,true,rd y) (by simp) rfl
    obtain ⟨p,n,c,h1,h3⟩:=nilD_sound hx hb
    have h2:a.eval y=.slice none 0 0:=by
     rw [hy] at hy'
     generalize a.eval y=v at hy'
     cases hy' with
     | t _ _ h=>cases h;rfl
    refine ⟨.bool (if neg then !b else b),fun w' _=>?_,.t _ _ (.bool _)⟩
    have hg:∀ (op:BinOp),(eqGuard op t x y (.slice p n c) (.slice none 0 0)).run P w'=.ok () w':=by
     intro op;unfold eqGuard;split<;>rfl
    unfold execOp
    cases neg with
    | false =>
     have he:(binOp .eql t (.slice p n c) (.slice none 0 0)).run P w'=.ok (.bool p.isNone) w':=by
      simp only [binOp]
      simp [run_equal_slice_nil w' t e p n c hu']
     simp [ho,hop,h1,h2,hg,he,h3]
    | true=>simp [ho,hop,h1,h2,hg,run_neq_slice_nil w' t e p n c hu',h3]
   split at h
   ·exact main false rfl h
   ·exact main true rfl h
   ·exact h.elim
  ·exact h.elim
 ·exact h.elim
def isNilI:Operand→Bool
 | .const .nilIface=>true
 | _=>false
def evNilI (T:Tab) (op:BinOp) (t:TypeId) (x:AV) (k:AV→Prop):Prop :=
 match lkT T t with
 | some ⟨.interface _,_,_,_⟩=>match x with
  | .ifc b=>match op with
   | .eql=>k (.bool b)
   | .neq=>k (.bool (!b))
   | _=>False
  | .ival _ _=>match op with
   | .eql=>k (.bool false)
   | .neq=>k (.bool true)
   | _=>False
  | _=>False
 | _=>False
theorem evNilI_sound [Tabs] {P:Program} {T:Tab} (hT:TabOk P T) {rd:Operand→AV} {H:Heap} {nx:Nat} {op:BinOp} {t yt:TypeId} {x y:Operand} {o:Oper} (ho:o.op=.binOp op t x y yt) (hy:isNilI y=true) {k:Res→Prop}
  (h:evNilI T op t (rd x) fun v=>k ⟨v,[],[],nx⟩):∃ r,OpSemP P o [(x,true,rd x),(y,true,rd y)] H nx r∧(r.wr=[]∧r.nx=nx)∧k r:=by
 have hyc:y=.const .nilIface:=by
  unfold isNilI at hy
  split at hy
  ·rfl
  ·cases hy
 subst hyc
 unfold evNilI at h
 split at h
 ·rename_i ms s b0 z hi
  obtain ⟨hu,_⟩:=hT t _ hi
  have hu':P.underlying t=some (.interface ms):=hu
  have eq0:∀ w':World,(Op.equal t .nilIface .nilIface).run P w'=.ok true w':=fun w'=>by
   unfold Op.equal Op.maxDepth
   rw [Op.equalIn]
   simp [run_underlying hu']
  have eq1:∀ (w':World) (u:TypeId) (v:Value),(Op.equal t (.iface u v) .nilIface).run P w'=.ok false w':=fun w' u v=>by
   unfold Op.equal Op.maxDepth
   rw [Op.equalIn]
   simp [run_underlying hu']
  have main:∀ (b:Bool),(∀ (m:Ids) (S:Blocks) (w:World) (v:Value),RelV m S w v (rd x)→(v=.nilIface∧b=true)∨(∃ u q,v=.iface u q)∧b=false)→∀ neg:Bool,op=(if neg then .neq else .eql)→k ⟨.bool (if neg then !b else b),[],[],nx⟩→∃ r,OpSemP P o [(x,true,rd x),(.const .nilIface,true,rd (.const .nilIface))] H nx r∧(r.wr=[]∧r.nx=nx)∧k r:=by
   intro b hb neg hop hk
   refine ⟨_,opsem_pure fun m S w a H₂ hG ht hus=>?_,⟨rfl,rfl⟩,hk⟩
   have hx:RelV m S w (a.eval x) (rd x):=hus (x,true,rd x) (by simp) rfl
   refine ⟨.bool (if neg then !b else b),fun w' _=>?_,.t _ _ (.bool _)⟩
   have h2:a.eval (.const .nilIface)=.nilIface:=rfl
   have hx:=hb m S w _ hx
   generalize hv:a.eval x=v at hx
   have hg:∀ (op:BinOp),(eqGuard op t x (.const .nilIface) .nilIface .nilIface).run P w'=.ok () w':=by
    intro op;cases op<;>cases x<;>rfl
   have hg1:∀ (op:BinOp) (u:TypeId) (q:Value),(eqGuard op t x (.const .nilIface) (.iface u q) .nilIface).run P w'=.ok () w':=by
    intro op u q;cases op<;>rfl
   unfold execOp
   rcases hx with ⟨rfl,rfl⟩ | ⟨⟨u,q,rfl⟩,rfl⟩
   ·cases neg<;>simp [ho,hop,hv,h2,hg,binOp,eq0]
   ·cases neg<;>simp [ho,hop,hv,h2,hg1,binOp,eq1]
  split at h
  ·rename_i b hb
   have hb':∀ (m:Ids) (S:Blocks) (w:World) (v:Value),RelV m S w v (rd x)→(v=.nilIface∧b=true)∨(∃ u q,v=.iface u q)∧b=false:=by
    intro m S w v hx
    rw [hb] at hx
    cases hx with
    | t _ _ hx=>cases hx with
     | ifc0=>exact .inl ⟨rfl,rfl⟩
     | ifc1 u v=>exact .inr ⟨⟨u,v,rfl⟩,rfl⟩
   split at h
   ·exact main b hb' false rfl h
   ·exact main b hb' true rfl h
   ·exact h.elim
  ·rename_i u l hb
   have hb':∀ (m:Ids) (S:Blocks) (w:World) (v:Value),RelV m S w v (rd x)→(v=.nilIface∧false=true)∨(∃ u q,v=.iface u q)∧false=false:=by
    intro m S w v hx
    rw [hb] at hx
    cases hx with
    | t _ _ hx=>cases hx with
     | ival u cs l hl h=>exact .inr ⟨⟨u,_,rfl⟩,rfl⟩
   split at h
   ·exact main false hb' false rfl h
   ·exact main false hb' true rfl h
   ·exact h.elim
  ·exact h.elim
 ·exact h.elim
def ptrNil:AV→Option Bool
 | .ptr _ _=>some false
 | .rop _=>some false
 | .eptr _ _ _ _=>some false
 | .nilp=>some true
 | _=>none
def evNilP (T:Tab) (op:BinOp) (t:TypeId) (x:AV) (k:AV→Prop):Prop :=
 match lkT T t with
 | some ⟨.pointer _,_,_,_⟩=>match ptrNil x with
  | some b=>match op with
   | .eql=>k (.bool b)
   | .neq=>k (.bool (!b))
   | _=>False
  | _=>False
 | _=>False
def isNilX:Operand→Bool
 | .const .nilIface=>true
 | .const (.pointer none)=>true
 | _=>false
def evNilX (T:Tab) (op:BinOp) (t:TypeId) (y:Operand) (x:AV) (k:AV→Prop):Prop :=
 match y with
 | .const .nilIface=>evNilI T op t x k
 | .const (.pointer none)=>evNilP T op t x k
 | _=>False
theorem ptrNil_sound {m:Ids} {S:Blocks} {w:World} {v:Value} {x:AV} {b:Bool} (h:RelV m S w v x) (hb:ptrNil x=some b):(b=true∧v=.pointer none)∨(b=false∧∃ a,v=.pointer (some a)):=by
 cases x<;>simp only [ptrNil,Option.some.injEq,reduceCtorEq] at hb
 case nilp =>
  cases h with
  | t _ _ h=>cases h;exact .inl ⟨hb.symm,rfl⟩
 case rop =>
  cases h with
  | t _ _ h=>cases h;exact .inr ⟨hb.symm,_,rfl⟩
 case ptr =>
  cases h with
  | t _ _ h=>cases h
  | ptr=>exact .inr ⟨hb.symm,_,rfl⟩
 case eptr =>
  cases h with
  | t _ _ h=>cases h
  | eptr=>exact .inr ⟨hb.symm,_,rfl⟩
theorem evNilP_sound [Tabs] {P:Program} {T:Tab} (hT:TabOk P T) {rd:Operand→AV} {H:Heap} {nx:Nat} {op:BinOp} {t yt:TypeId} {x:Operand} {o:Oper} (ho:o.op=.binOp op t x (.const (.pointer none)) yt) {k:Res→Prop}
  (h:evNilP T op t (rd x) fun v=>k ⟨v,[],[],nx⟩):∃ r,OpSemP P o [(x,true,rd x),(.const (.pointer none),true,rd (.const (.pointer none)))] H nx r∧(r.wr=[]∧r.nx=nx)∧k r:=by
 unfold evNilP at h
 split at h
 ·rename_i el s b0 z hi
  obtain ⟨hu,_⟩:=hT t _ hi
  have hu':P.underlying t=some (.pointer el):=hu
  split at h
  ·rename_i b hb
   have eq0:∀ w':World,(Op.equal t (.pointer none) (.pointer none)).run P w'=.ok true w':=fun w'=>by
    unfold Op.equal Op.maxDepth
    rw [Op.equalIn]
    simp [run_underlying hu']
   have eq1:∀ (w':World) (a:Addr),(Op.equal t (.pointer (some a)) (.pointer none)).run P w'=.ok false w':=fun w' a=>by
    unfold Op.equal Op.maxDepth
    rw [Op.equalIn]
    simp [run_underlying hu']
   have main:∀ neg:Bool,op=(if neg then .neq else .eql)→k ⟨.bool (if neg then !b else b),[],[],nx⟩→∃ r,OpSemP P o [(x,true,rd x),(.const (.pointer none),true,rd (.const (.pointer none)))] H nx r∧(r.wr=[]∧r.nx=nx)∧k r:=by
    intro neg hop hk
    refine ⟨_,opsem_pure fun m S w a H₂ hG ht hus=>?_,⟨rfl,rfl⟩,hk⟩
    have hx:RelV m S w (a.eval x) (rd x):=hus (x,true,rd x) (by simp) rfl
    refine ⟨.bool (if neg then !b else b),fun w' _=>?_,.t _ _ (.bool _)⟩
    have h2:a.eval (.const (.pointer none))=.pointer none:=rfl
    have hv:=ptrNil_sound hx hb
    generalize he:a.eval x=v at hv
    have hg:∀ (op:BinOp) (u:Option Addr),(eqGuard op t x (.const (.pointer none)) (.pointer u) (.pointer none)).run P w'=.ok () w':=by
     intro op u;cases op<;>rfl
    unfold execOp
    rcases hv with ⟨rfl,rfl⟩ | ⟨rfl,u,rfl⟩
    ·cases neg<;>simp [ho,hop,he,h2,hg,binOp,eq0]
    ·cases neg<;>simp [ho,hop,he,h2,hg,binOp,eq1]
   split at h
   ·exact main false rfl h
   ·exact main true rfl h
   ·exact h.elim
  ·exact h.elim
 ·exact h.elim
theorem evNilX_sound [Tabs] {P:Program} {T:Tab} (hT:TabOk P T) {rd:Operand→AV} {H:Heap} {nx:Nat} {op:BinOp} {t yt:TypeId} {x y:Operand} {o:Oper} (ho:o.op=.binOp op t x y yt) {k:Res→Prop}
  (h:evNilX T op t y (rd x) fun v=>k ⟨v,[],[],nx⟩):∃ r,OpSemP P o [(x,true,rd x),(y,true,rd y)] H nx r∧(r.wr=[]∧r.nx=nx)∧k r:=by
 unfold evNilX at h
 split at h
 ·exact evNilI_sound hT ho rfl h
 ·exact evNilP_sound hT ho h
 ·exact h.elim
def evUnW (g:Option Bool) (op:UnOp) (x:AV) (c:AV→Prop):Prop :=
 match op,x with
 | .neg,.int .i64 n=>c (.int .i64 (IntKind.i64.wrap (0-n)))
 | _,_=>evUn g op x c
theorem evUnW_sound [Tabs] {P:Program} {g:Option Bool} {rd:Operand→AV} {H:Heap} {nx:Nat} {op:UnOp} {t:TypeId} {x:Operand} {o:Oper} (ho:o.op=.unOp op t x) {k:Res→Prop}
  (h:evUnW g op (rd x) fun v=>k ⟨v,[],[],nx⟩):∃ r,(gOk g→OpSemP P o [(x,true,rd x)] H nx r)∧(r.wr=[]∧r.nx=nx)∧k r:=by
 unfold evUnW at h
 split at h
 ·rename_i n hp
  refine ⟨_,fun hg=>opsem_pure fun m S w a H₂ hG ht hus=>?_,⟨rfl,rfl⟩,h⟩
  have hx:RelV m S w (a.eval x) (rd x):=hus (x,true,rd x) (by simp) rfl
  rw [hp] at hx
  exact ⟨.int .i64 (IntKind.i64.wrap (0-n)),fun w' _=>by unfold execOp;simp only [ho,relV_int hx,Op.unary,Op.intArith];rfl,.t _ _ (.int _ _)⟩
 ·exact evUn_sound ho h
inductive AR:Type 1 where
 | val (a:AV)
 | new (b:AB)
def RelR (S:Blocks) (w:World) (B:Nat) (v:Value):AR→Prop
 | .val a=>RelT S w v a
 | .new b=>b.live=true∧(∀ k,blk v=some k→B≤k)∧∀ n,RelB (fun i=>if i=n then some v else none) S w n b
def retVal:List Value→Value
 | [v]=>v
 | vs=>.tuple vs.toArray
structure Left (S:Blocks) (w:World) (us:List Value) (rs:List AR) (S':Blocks) (w':World):Prop where
 len:us.length=rs.length
 rel:∀ (j:Nat) (u:Value) (r:AR),us[j]?=some u→rs[j]?=some r→RelR S' w' w.heap.size u r
 below:RowKit.Below w.heap.size w w'
 ros:∀ g,S g→S' g
 fresh:∀ g,S' g→S g∨w.heap.size≤g
 lt:∀ g,S' g→g<w'.heap.size
 apart:∀ (i:Nat) (u:Value) (b:AB) (k:Nat),us[i]?=some u→rs[i]?=some (.new b)→blk u=some k→¬ S' k ∧
  ∀ (j:Nat) (u':Value) (b':AB),us[j]?=some u'→rs[j]?=some (.new b')→blk u'=some k→i=j
def FnOk (P : Program) (f : FuncId) : Prop := ∃ fn, P.funcs[f]? = some fn ∧ fn.body.isSome = true ∧ (fn.name == "runtime.NumGoroutine") = false
def RelTs (S:Blocks) (w:World) (vs:List Value) (args:List AV):Prop :=
 vs.length=args.length∧∀ (j:Nat) (v:Value) (a:AV),vs[j]?=some v→args[j]?=some a→RelT S w v a
def APure [Tabs] (P:Program) (f:FuncId) (args:List AV) (R:List AR→Prop):Prop :=
 FnOk P f∧∀ (S:Blocks) (w:World) (vs:List Value),(∀ g,S g→g<w.heap.size)→TabAt S w→RelTs S w vs args →
  Calls P f vs.toArray w fun e w'=>∃ us rs S',e=.returned (retVal us)∧R rs∧Left S w us rs S' w'
abbrev APureV [Tabs] (P:Program) (f:FuncId) (args:List AV) (v:AV):Prop:=APure P f args (fun rs=>rs=[.val v])
theorem APure.mono [Tabs] {P:Program} {f:FuncId} {args:List AV} {R R':List AR→Prop} (h:APure P f args R) (hr:∀ rs,R rs→R' rs):APure P f args R' :=
 ⟨h.1,fun S w vs hS hT hv=>(h.2 S w vs hS hT hv).mono fun _ _ ⟨us,rs,S',he,hR,hl⟩=>⟨us,rs,S',he,hr _ hR,hl⟩⟩
def treesB:List AV→Bool
 | []=>true
 | a::l=>match a.tree with
  | true=>treesB l
  | false=>false
theorem treesB_spec:∀ {l:List AV},treesB l=true→∀ a∈l,a.tree=true
 | [],_,a,h=>by simp at h
 | b::l,h,a,ha=>by
  unfold treesB at h
  split at h
  ·rename_i hb
   rcases List.mem_cons.1 ha with rfl | ha
   ·exact hb
   ·exact treesB_spec h a ha
  ·cases h
inductive Bor (H:Heap):AV→AV→List Nat→Prop
 | same (a:AV) (h:a.tree=true):Bor H a a []
 | lsl {T:Type} (E:Nat) (l:List AV) (enc:T→AV) (d:T) (xs:List T) (h:l=xs.map enc):Bor H (.lsl E l) (.sl E enc d xs) []
 | nils {T:Type} (E:Nat) (enc:T→AV) (d:T):Bor H .nils (.sl E enc d []) []
 | nill (E:Nat):Bor H .nils (.lsl E []) []
 | row {T:Type} (id e E:Nat) (enc:T→AV) (d:T) (xs:List T) (h:lkH H id=.row e E enc d xs):Bor H (.own id) (.sl E enc d xs) [id]
 | lst (id e E:Nat) (l:List AV) (h:lkH H id=.lst e E l):Bor H (.own id) (.lsl E l) [id]
 | lstrow {T:Type} (id e E:Nat) (l:List AV) (enc:T→AV) (d:T) (xs:List T) (h:lkH H id=.lst e E l) (hl:l=xs.map enc):Bor H (.own id) (.sl E enc d xs) [id]
 | pre {T:Type} (id n e E:Nat) (enc:T→AV) (d:T) (xs:List T) (h:lkH H id=.row e E enc d xs):Bor H (.pre id n) (.sl E enc d (xs.take n)) [id]
 | part {T:Type} (id off n e E:Nat) (enc:T→AV) (d:T) (xs:List T) (h:lkH H id=.row e E enc d xs):Bor H (.part id E off n) (.sl E enc d ((xs.drop off).take n)) [id]
 | smap {V:Type} (id:Nat) (ev:V→AV) (dv:V) (es:List (List UInt8×V)) (h:lkH H id=.smap ev dv es):Bor H (.map id) (.rsmap ev dv es) [id]
 | imap {V:Type} (id:Nat) (k:IntKind) (ev:V→AV) (dv:V) (es:List (Int×V)) (h:lkH H id=.imap k ev dv es):Bor H (.map id) (.rimap k ev dv es) [id]
 | gmap {V:Type} (id:Nat) (k:List KK) (ev:V→AV) (dv:V) (es:List (List KV×V)) (h:lkH H id=.gmap k ev dv es):Bor H (.map id) (.rgmap k ev dv es) [id]
 | boxt (id e:Nat) (l:List AV) (h:lkH H id=.cells e l) (ht:treesB l=true) (h1:allOne l=true):Bor H (.ptr id 0) (.rop l) [id]
inductive BorL (B:AV→AV→List Nat→Prop):List AV→List AV→List Nat→Prop
 | nil:BorL B [] [] []
 | cons {a a':AV} {l l':List AV} {t t':List Nat} (h:B a a' t) (hl:BorL B l l' t'):BorL B (a::l) (a'::l') (t++t')
inductive Bor1 (H:Heap) (B:AV→AV→List Nat→Prop):AV→AV→List Nat→Prop
 | base {a a':AV} {t:List Nat} (h:B a a' t):Bor1 H B a a' t
 | box (id off e:Nat) (l l':List AV) (t:List Nat) (h:lkH H id=.cells e l) (hl:BorL B (l.drop off) l' t) (h1:∀ a∈l',a.one=true):Bor1 H B (.ptr id off) (.rop l') (id::t)
 | fn (f:Fn) (a b a' b':List AV) (t t':List Nat) (h:BorL B a a' t) (h':BorL B b b' t'):Bor1 H B (.fn f a b) (.fn f a' b') (t++t')
 | agg (l l':List AV) (t:List Nat) (h:BorL B l l' t):Bor1 H B (.agg l) (.agg l') t
def lent (m:Ids) (H:Heap) (touch:List Nat):Blocks:=fun g=>∃ id v,id∈touch∧(lkH H id).live=true∧m id=some v∧blk v=some g
def BorOk [Tabs] (H:Heap) (B:AV→AV→List Nat→Prop):Prop :=
 ∀ a a' touch,B a a' touch→∀ (m:Ids) (S:Blocks) (w:World) (H₂:Heap) (S₂:Blocks) (v:Value),Good m S w H₂→(∀ id∈touch,lkH H₂ id=lkH H id)→(∀ g,S g→S₂ g)→(∀ g,lent m H₂ touch g→S₂ g) →
  RelV m S w v a→RelT S₂ w v a'
theorem RelT.more {S S':Blocks} {w:World} (hS:∀ g,S g→S' g) {v:Value} {a:AV} (h:RelT S w v a):RelT S' w v a:=h.mono hS (fun _ _=>rfl)
theorem RowRel.lent {S S₂:Blocks} {w:World} {e E:Nat} {l:List AV} {v:Value} {vs:List Value} (h:RowRel S w e E l v vs) (hS:∀ g,S g→S₂ g) (hl:∀ g,blk v=some g→S₂ g):RelT S₂ w v (.lsl E l):=by
 obtain ⟨hlen,ho⟩:=h.owns
 rcases ho with ⟨rfl,h0⟩ | ⟨g,cap,cur,rfl,_,hh,hnc,hcm,hcs,htake⟩
 ·have:l=[]:=List.eq_nil_of_length_eq_zero h0
  subst this
  exact .lslnil E
 ·refine .lsl E l g 0 cap vs (hl g rfl) hnc h.size h.ones hlen (fun j c hj=>?_) (fun j c a hj ha=>(h.rel j c a hj ha).more hS)
  have:=h.owns.cells (g:=g) rfl j c hj
  rwa [Addr.add_mid] at this
theorem borOk_base [Tabs] (H:Heap):BorOk H (Bor H):=by
 intro a a' touch hb m S w H₂ S₂ v hG ht hS hl hr
 cases hb with
 | same a h=>exact (hr.toT h).more hS
 | lsl E l enc d xs h=>exact .sl _ _ _ _ _ (by rw [← h];exact (relV_lsl hr).more hS)
 | nils E enc d=>cases hr with
  | t _ _ h=>cases h;exact .sl _ _ _ _ _ (.lslnil E)
 | nill E=>cases hr with
  | t _ _ h=>cases h;exact .lslnil E
 | row id e E enc d xs h =>
  obtain ⟨v',vs,hmi,hrow⟩:=own_row (s:=.row enc d xs) hG (ht id (by simp)) h
  cases hr with
  | t _ _ h=>cases h
  | own id n cap a hm =>
   rw [hmi] at hm
   cases hm
   exact .sl _ _ _ _ _ (hrow.lent hS fun g hg=>hl g ⟨id,_,by simp,by rw [ht id (by simp),h];rfl,hmi,hg⟩)
 | lst id e E l h =>
  obtain ⟨v',vs,hmi,hrow⟩:=own_row (s:=.lst l) hG (ht id (by simp)) h
  cases hr with
  | t _ _ h=>cases h
  | own id n cap a hm =>
   rw [hmi] at hm
   cases hm
   exact hrow.lent hS fun g hg=>hl g ⟨id,_,by simp,by rw [ht id (by simp),h];rfl,hmi,hg⟩
 | lstrow id e E l enc d xs h hle =>
  obtain ⟨v',vs,hmi,hrow⟩:=own_row (s:=.lst l) hG (ht id (by simp)) h
  cases hr with
  | t _ _ h=>cases h
  | own id n cap a hm =>
   rw [hmi] at hm
   cases hm
   refine .sl _ _ _ _ _ ?_
   rw [← hle]
   exact hrow.lent hS fun g hg=>hl g ⟨id,_,by simp,by rw [ht id (by simp),h];rfl,hmi,hg⟩
 | pre id n e E enc d xs h =>
  obtain ⟨v',vs,hmi,hrow⟩:=own_row (s:=.row enc d xs) hG (ht id (by simp)) h
  cases hr with
  | t _ _ h=>cases h
  | pre id len n cap a hm hle =>
   rw [hmi] at hm
   cases hm
   refine .sl _ _ _ _ _ ?_
   rw [List.map_take]
   exact (hrow.take hle).lent hS fun g hg=>hl g ⟨id,_,by simp,by rw [ht id (by simp),h];rfl,hmi,by cases a with
    | none=>simp [blk] at hg
    | some a=>exact hg⟩
 | part id off n e E enc d xs h =>
  obtain ⟨v',vs,hmi,hrow⟩:=own_row (s:=.row enc d xs) hG (ht id (by simp)) h
  cases hr with
  | t _ _ h=>cases h
  | part _ _ _ _ g n' cap c hm hle hc0 =>
   rw [hmi] at hm
   cases hm
   have hL:=hrow.lent hS fun g hg=>hl g ⟨id,_,by simp,by rw [ht id (by simp),h];rfl,hmi,hg⟩
   rcases relT_lsl hL with ⟨h0 | ⟨ad,h0⟩,hnil⟩ | ⟨g',o',cap',cs,hv,hSg,hcap,hE,h1,hlen,hc,hrr⟩
   ·cases h0
   ·cases h0
    have hx0:xs=[]:=by simpa [Src.list] using hnil
    have hn0:n=0:=by omega
    subst hx0
    subst hn0
    refine .sl _ _ _ _ _ ?_
    have:=RelT.lsl (S:=S₂) (w:=w) E [] g (off*E) c [] (hl g ⟨id,_,by simp,by rw [ht id (by simp),h];rfl,hmi,rfl⟩) (by simp) (by simp) (by simp [flat]) (by simp) (by simp) (by simp)
    simpa using this
   ·cases hv
    have hsub:=lsl_sub hSg hcap hE h1 hlen hc hrr (lo:=off) (hi:=off+n) (by omega) hle
    refine .sl _ _ _ _ _ ?_
    have e1:(((Src.row enc d xs).list.take (off+n)).drop off)=((xs.drop off).take n).map enc:=by
     simp [Src.list,List.map_take,List.map_drop,List.drop_take]
    rw [e1] at hsub
    have hlen2:(((xs.drop off).take n).map enc).length=n:=by
     have:off+n≤(xs.map enc).length:=hle
     simp at this ⊢
     omega
    rcases relT_lsl hsub with ⟨h0 | ⟨ad,h0⟩,hnil⟩ | ⟨g2,o2,cap2,cs2,hv2,hS2,hcap2,hE2,h12,hlen3,hc2,hrr2⟩
    ·cases h0
    ·have hn0:n=0:=by rw [← hlen2,hnil];rfl
     subst hn0
     have:=RelT.lsl (S:=S₂) (w:=w) E [] g (off*E) c [] (hl g ⟨id,_,by simp,by rw [ht id (by simp),h];rfl,hmi,rfl⟩) (by simp) (by simp) (by simp [flat]) (by simp) (by simp) (by simp)
     simpa using this
    ·have hg:g=g2∧o2=0+off*E:=by
      have:=hv2
      simp at this
      omega
     obtain ⟨rfl,rfl⟩:=hg
     have:=RelT.lsl (S:=S₂) (w:=w) E _ g (0+off*E) c cs2 hS2 (by rw [hlen2];exact hc0) hE2 h12 hlen3 hc2 hrr2
     rw [hlen2] at this
     simpa using this
  | partE _ _ _ c g n' cap hm =>
   rw [List.take_zero]
   refine .sl _ _ _ _ _ ?_
   have:=RelT.lsl (S:=S₂) (w:=w) E [] g 0 c [] (hl g ⟨id,_,by simp,by rw [ht id (by simp),h];rfl,hm,rfl⟩) (by simp) (by simp) (by simp [flat]) (by simp) (by simp) (by simp)
   simpa using this
  | partN id E off=>simp;exact .sl _ _ _ _ _ (.lslnil E)
 | smap id ev dv es h =>
  have hb:=hG.rel id
  rw [ht id (by simp),h] at hb
  obtain ⟨r,en,clock,hmi,hr',hlen,hst,hrel⟩:=hb
  cases hr with
  | t _ _ h=>cases h
  | map id r' hm =>
   rw [hmi] at hm
   cases hm
   exact .rsmap ev dv es r clock en (hl r ⟨id,_,by simp,by rw [ht id (by simp),h];rfl,hmi,rfl⟩) hr' hlen hst (fun j x p h1 h2=>(hrel j x p h1 h2).1) (fun j x p h1 h2=>(hrel j x p h1 h2).2.more hS)
 | imap id k ev dv es h =>
  have hb:=hG.rel id
  rw [ht id (by simp),h] at hb
  obtain ⟨r,en,clock,hmi,hr',hlen,hst,hrel⟩:=hb
  cases hr with
  | t _ _ h=>cases h
  | map id r' hm =>
   rw [hmi] at hm
   cases hm
   exact .rimap k ev dv es r clock en (hl r ⟨id,_,by simp,by rw [ht id (by simp),h];rfl,hmi,rfl⟩) hr' hlen hst (fun j x p h1 h2=>(hrel j x p h1 h2).1) (fun j x p h1 h2=>(hrel j x p h1 h2).2.more hS)
 | gmap id k ev dv es h =>
  have hb:=hG.rel id
  rw [ht id (by simp),h] at hb
  obtain ⟨r,en,clock,hmi,hr',hlen,hst,hrel⟩:=hb
  cases hr with
  | t _ _ h=>cases h
  | map id r' hm =>
   rw [hmi] at hm
   cases hm
   exact .rgmap k ev dv es r clock en (hl r ⟨id,_,by simp,by rw [ht id (by simp),h];rfl,hmi,rfl⟩) hr' hlen hst (fun j x p h1 h2=>(hrel j x p h1 h2).1) (fun j x p h1 h2=>(hrel j x p h1 h2).2.more hS)
 | boxt id e l h htr h1 =>
  have hid2:=ht id (by simp)
  have hb:=hG.rel id
  rw [hid2,h] at hb
  obtain ⟨g,cs,hmi,hg,hlen,hone,hrel⟩:=hb
  cases hr with
  | t _ _ h=>cases h
  | ptr id off g' hm =>
   rw [hmi] at hm
   cases hm
   refine .rop g 0 l cs.toList (hl g ⟨id,_,by simp,by rw [hid2,h];rfl,hmi,rfl⟩) (by simp;omega) (allOne_spec h1) (fun j c hj=>?_) ?_
   ·rw [cell_of_row w g _ cs e (0,0) hg]
    simpa using hj
   ·exact fun j c a hj ha=>((hrel j c a (by simpa using hj) ha).toT (treesB_spec htr a (List.mem_of_getElem? ha))).more hS
theorem borL_sound [Tabs] {H:Heap} {B:AV→AV→List Nat→Prop} (hB:BorOk H B) {l l':List AV} {touch:List Nat} (h:BorL B l l' touch):l'.length=l.length ∧
  ∀ (m:Ids) (S:Blocks) (w:World) (H₂:Heap) (S₂:Blocks),Good m S w H₂→(∀ id∈touch,lkH H₂ id=lkH H id)→(∀ g,S g→S₂ g)→(∀ g,lent m H₂ touch g→S₂ g) →
  ∀ (cs:List Value),cs.length=l.length→(∀ (j:Nat) (c:Value) (a:AV),cs[j]?=some c→l[j]?=some a→RelV m S w c a)→∀ (j:Nat) (c:Value) (a:AV),cs[j]?=some c→l'[j]?=some a→RelT S₂ w c a:=by
 induction h with
 | nil=>exact ⟨rfl,fun m S w H₂ S₂ _ _ _ _ cs hl _ j c a hj ha=>by simp at ha⟩
 | cons h hl ih =>
  rename_i a a' l l' t t'
  refine ⟨by simp [ih.1],fun m S w H₂ S₂ hG ht hS hle cs hlen hr j c x hj hx=>?_⟩
  cases cs with
  | nil=>simp at hj
  | cons c0 cs =>
   cases j with
   | zero =>
    simp at hj hx
    subst hj
    subst hx
    exact hB a _ t h m S w H₂ S₂ _ hG (fun id hid=>ht id (by simp [hid])) hS (fun g ⟨id,v,h1,h2⟩=>hle g ⟨id,v,by simp [h1],h2⟩) (hr 0 _ _ rfl rfl)
   | succ j =>
    simp at hj hx
    exact ih.2 m S w H₂ S₂ hG (fun id hid=>ht id (by simp [hid])) hS (fun g ⟨id,v,h1,h2⟩=>hle g ⟨id,v,by simp [h1],h2⟩) cs (by simpa using hlen)
     (fun j c a h1 h2=>hr (j+1) c a (by simpa using h1) (by simpa using h2)) j c x hj hx
theorem borOk_1 [Tabs] {H:Heap} {B:AV→AV→List Nat→Prop} (hB:BorOk H B):BorOk H (Bor1 H B):=by
 intro a a' touch hb m S w H₂ S₂ v hG ht hS hl hr
 cases hb with
 | base h=>exact hB a a' touch h m S w H₂ S₂ v hG ht hS hl hr
 | box id off e l l' t h hL h1 =>
  have hid2:=ht id (by simp)
  have hb:=hG.rel id
  rw [hid2,h] at hb
  obtain ⟨g,cs,hmi,hg,hlen,hone,hrel⟩:=hb
  obtain ⟨hl1,hl2⟩:=borL_sound hB hL
  cases hr with
  | t _ _ h=>cases h
  | ptr id off g' hm =>
   rw [hmi] at hm
   cases hm
   refine .rop g off l' (cs.toList.drop off) (hl g ⟨id,_,by simp,by rw [hid2,h];rfl,hmi,rfl⟩) (by rw [hl1];simp;omega) h1 (fun j c hj=>?_) ?_
   ·rw [List.getElem?_drop] at hj
    rw [cell_of_row w g _ cs e (0,0) hg]
    simpa using hj
   ·exact hl2 m S w H₂ S₂ hG (fun i hi=>ht i (by simp [hi])) hS (fun g ⟨i,v,p,q⟩=>hl g ⟨i,v,by simp [p],q⟩) _ (by simp;omega) (fun j c a hj ha=>by
     rw [List.getElem?_drop] at hj ha
     exact hrel _ c a (by simpa using hj) ha)
 | fn f x y x' y' t t' h h' =>
  obtain ⟨l1,l2⟩:=borL_sound hB h
  obtain ⟨l1',l2'⟩:=borL_sound hB h'
  have main:∀ (fs cs:Array Value),fs.size=x.length→cs.size=y.length→(∀ (j:Nat) (c:Value) (a:AV),fs[j]?=some c→x[j]?=some a→RelV m S w c a)→(∀ (j:Nat) (c:Value) (a:AV),cs[j]?=some c→y[j]?=some a→RelV m S w c a) →
    RelT S₂ w (.func f fs cs) (.fn f x' y'):=by
   intro fs cs h1 h2 r1 r2
   refine .fn f fs cs x' y' (by omega) (by omega) (fun j c a hj ha=>?_) (fun j c a hj ha=>?_)
   ·exact l2 m S w H₂ S₂ hG (fun i hi=>ht i (by simp [hi])) hS (fun g ⟨i,v,p,q⟩=>hl g ⟨i,v,by simp [p],q⟩) fs.toList (by simpa using h1) (fun j c a p q=>r1 j c a (by simpa using p) q) j c a (by simpa using hj) ha
   ·exact l2' m S w H₂ S₂ hG (fun i hi=>ht i (by simp [hi])) hS (fun g ⟨i,v,p,q⟩=>hl g ⟨i,v,by simp [p],q⟩) cs.toList (by simpa using h2) (fun j c a p q=>r2 j c a (by simpa using p) q) j c a (by simpa using hj) ha
  cases hr with
  | t _ _ h=>cases h with
   | fn f fs cs lf lc h1 h2 r1 r2=>exact main fs cs h1 h2 (fun j c a p q=>.t _ _ (r1 j c a p q)) (fun j c a p q=>.t _ _ (r2 j c a p q))
  | fn f fs cs lf lc h1 h2 r1 r2=>exact main fs cs h1 h2 r1 r2
 | agg x x' t h =>
  obtain ⟨l1,l2⟩:=borL_sound hB h
  obtain ⟨cs,rfl,hlen,hrel⟩:=relV_agg hr
  exact .agg cs x' (by omega) fun j c a hj ha=>l2 m S w H₂ S₂ hG ht hS hl cs.toList (by simpa using hlen) (fun j c a p q=>hrel j c a (by simpa using p) q) j c a (by simpa using hj) ha
def AV.scal1:AV→Bool
 | .bool _ | .int .. | .str _ | .nilp | .nils | .nilm | .nilf | .undef | .skip | .iarr .. | .any1 | .ifc _=>true
 | _=>false
def AV.scal:AV→Bool
 | .agg l=>l.all AV.scal1
 | v=>v.scal1
theorem RelT.scal1 {S S':Blocks} {w:World} {v:Value} {a:AV} (h:RelT S w v a) (hs:a.scal1=true):RelT S' w v a:=by
 cases h<;>first | (simp [AV.scal1] at hs;done) | (constructor;done) | skip
 all_goals (constructor<;>assumption)
theorem RelT.scal {S S':Blocks} {w:World} {v:Value} {a:AV} (h:RelT S w v a) (hs:a.scal=true):RelT S' w v a:=by
 cases h with
 | agg cs l hl h=>exact .agg cs l hl fun j c a hj ha=>(h j c a hj ha).scal1 (by
   simp only [AV.scal,List.all_eq_true] at hs
   exact hs a (List.mem_of_getElem? ha))
 | undef v=>exact .undef v
 | _=>exact RelT.scal1 (S:=S) (by constructor<;>assumption) hs
def AR.flat:AR→Prop
 | .val a=>a.scal=true
 | .new (.lst _ _ l)=>∀ x∈l,x.scal=true
 | .new (.row _ _ enc _ xs)=>∀ x∈xs,(enc x).scal=true
 | .new (.smap ev _ es)=>∀ p∈es,(ev p.2).scal=true
 | .new (.imap _ ev _ es)=>∀ p∈es,(ev p.2).scal=true
 | .new (.gmap _ ev _ es)=>∀ p∈es,(ev p.2).scal=true
 | .new (.cells _ l)=>∀ x∈l,x.scal1=true
 | .new .dead=>True
 | .new (.arr ..)=>True
 | .new (.que _ _ enc _ xs)=>∀ x∈xs,(enc x).scal=true
theorem scal_flat {l:List AV} (h:∀ x∈l,x.scal=true):∀ a∈flat l,a.scal1=true:=by
 intro a ha
 obtain ⟨x,hx,hax⟩:=List.mem_flatMap.1 ha
 have:=h x hx
 cases x with
 | agg l=>simp only [AV.scal,List.all_eq_true] at this;exact this a hax
 | _=>simp only [AV.cells,List.mem_singleton] at hax;subst hax;exact this
theorem RowRel.scal {S S':Blocks} {w:World} {e E:Nat} {l:List AV} {v:Value} {vs:List Value} (h:RowRel S w e E l v vs) (hs:∀ x∈l,x.scal=true):RowRel S' w e E l v vs :=
 ⟨h.owns,h.size,h.ones,fun j c a hj ha=>(h.rel j c a hj ha).scal1 (scal_flat hs a (List.mem_of_getElem? ha))⟩
theorem relR_flat {S S':Blocks} {w:World} {B:Nat} {v:Value} {r:AR} (h:RelR S w B v r) (hf:r.flat):RelR S' w B v r:=by
 cases r with
 | val a=>exact RelT.scal h hf
 | new b =>
  refine ⟨h.1,h.2.1,fun n=>?_⟩
  have hb:=h.2.2 n
  cases b with
  | dead=>trivial
  | cells e l =>
   obtain ⟨g,cs,hmi,hg,hl,h1,hr⟩:=hb
   refine ⟨g,cs,hmi,hg,hl,h1,fun j c a hj ha=>?_⟩
   have hs:=hf a (List.mem_of_getElem? ha)
   have:=hr j c a hj ha
   cases this with
   | t _ _ h=>exact .t _ _ (h.scal1 hs)
   | _=>simp [AV.scal1] at hs
  | arr e k n f=>exact hb
  | que e E enc d xs =>
   obtain ⟨g,o,cap,cur,hmi,hr⟩:=hb
   refine ⟨g,o,cap,cur,hmi,hr.at_,hr.len,hr.max,hr.room,hr.size,hr.ones,fun j c a hj ha=>(hr.rel j c a hj ha).scal1 (scal_flat (fun x hx=>?_) a (List.mem_of_getElem? ha))⟩
   obtain ⟨y,hy,rfl⟩:=List.mem_map.1 hx
   exact hf y hy
  | lst e E l=>obtain ⟨v',vs,hmi,hr⟩:=hb;exact ⟨v',vs,hmi,hr.scal hf⟩
  | row e E enc d xs =>
   obtain ⟨v',vs,hmi,hr⟩:=hb
   refine ⟨v',vs,hmi,hr.scal fun x hx=>?_⟩
   obtain ⟨y,hy,rfl⟩:=List.mem_map.1 hx
   exact hf y hy
  | smap ev dv es =>
   obtain ⟨r,en,clock,hmi,hr,hl,hb',h2⟩:=hb
   exact ⟨r,en,clock,hmi,hr,hl,hb',fun j x p h3 h4=>⟨(h2 j x p h3 h4).1,(h2 j x p h3 h4).2.scal (hf p (List.mem_of_getElem? h4))⟩⟩
  | imap k ev dv es =>
   obtain ⟨r,en,clock,hmi,hr,hl,hb',h2⟩:=hb
   exact ⟨r,en,clock,hmi,hr,hl,hb',fun j x p h3 h4=>⟨(h2 j x p h3 h4).1,(h2 j x p h3 h4).2.scal (hf p (List.mem_of_getElem? h4))⟩⟩
  | gmap k ev dv es =>
   obtain ⟨r,en,clock,hmi,hr,hl,hb',h2⟩:=hb
   exact ⟨r,en,clock,hmi,hr,hl,hb',fun j x p h3 h4=>⟨(h2 j x p h3 h4).1,(h2 j x p h3 h4).2.scal (hf p (List.mem_of_getElem? h4))⟩⟩
def nameR (nx:Nat):AR→AV
 | .val a=>a
 | .new (.cells ..)=>.ptr nx 0
 | .new (.lst ..)=>.own nx
 | .new (.row ..)=>.own nx
 | .new (.smap ..)=>.map nx
 | .new (.imap ..)=>.map nx
 | .new (.gmap ..)=>.map nx
 | .new (.arr ..)=>.ptr nx 0
 | .new (.que ..)=>.own nx
 | .new .dead=>.undef
def takeR:List AR→Nat→List AV→List (Nat×AB)→(List AV→List (Nat×AB)→Nat→Prop)→Prop
 | [],nx,vs,wr,k=>k vs.reverse wr nx
 | .val a::rs,nx,vs,wr,k=>takeR rs nx (a::vs) wr k
 | .new b::rs,nx,vs,wr,k=>takeR rs (nx+1) (nameR nx (.new b)::vs) ((nx,b)::wr) k
def valR:List AV→AV
 | [v]=>v
 | vs=>.tup vs
theorem relB_name {m:Ids} {S:Blocks} {w:World} {id:Nat} {b:AB} {v:Value} (h:RelB m S w id b) (hl:b.live=true) (hm:m id=some v):RelV m S w v (nameR id (.new b)):=by
 cases b with
 | dead=>simp [AB.live] at hl
 | cells e l=>obtain ⟨g,cs,hmi,_⟩:=h;rw [hmi] at hm;cases hm;exact .ptr id 0 g hmi
 | lst e E l=>obtain ⟨v',vs,hmi,hr⟩:=h;rw [hmi] at hm;cases hm;obtain ⟨a,n,c,rfl⟩:=blk_slice_of hr;exact .own id n c a hmi
 | row e E enc d xs=>obtain ⟨v',vs,hmi,hr⟩:=h;rw [hmi] at hm;cases hm;obtain ⟨a,n,c,rfl⟩:=blk_slice_of hr;exact .own id n c a hmi
 | smap ev dv es=>obtain ⟨r,en,clock,hmi,_⟩:=h;rw [hmi] at hm;cases hm;exact .map id r hmi
 | imap k ev dv es=>obtain ⟨r,en,clock,hmi,_⟩:=h;rw [hmi] at hm;cases hm;exact .map id r hmi
 | gmap k ev dv es=>obtain ⟨r,en,clock,hmi,_⟩:=h;rw [hmi] at hm;cases hm;exact .map id r hmi
 | arr e k n f=>obtain ⟨g,cs,hmi,_⟩:=h;rw [hmi] at hm;cases hm;exact .ptr id 0 g hmi
 | que e E enc d xs=>obtain ⟨g,o,cap,cur,hmi,_⟩:=h;rw [hmi] at hm;cases hm;exact .own id _ cap _ hmi
theorem Ext.trans [Tabs] {m m1 m2:Ids} {S S1 S2:Blocks} {w w1 w2:World} {H H1 H2:Heap} {n n1 n2:Nat} (h1:Ext m S w H n n1 m1 S1 w1 H1) (h2:Ext m1 S1 w1 H1 n1 n2 m2 S2 w2 H2) (hn:n≤n1∧n1≤n2):Ext m S w H n n2 m2 S2 w2 H2:=by
 refine ⟨fun i v h=>h2.ids i v (h1.ids i v h),fun i hi=>?_,fun g h=>h2.ros g (h1.ros g h),fun g hg=>?_,?_,fun k hk=>?_,h2.good⟩
 ·rw [h2.same i (by omega),h1.same i (by omega)]
 ·rcases h2.fresh g hg with h | h | h
  ·exact h1.fresh g h
  ·exact .inr (h1.owns g h)
  ·exact .inr (.inr (Nat.le_trans h1.far.size h))
 ·refine h1.far.trans h2.far fun i hi ho=>?_
  rcases h1.owns i ho with h | h
  ·exact h
  ·omega
 ·rcases h2.owns k hk with h | h
  ·exact h1.owns k h
  ·exact .inr (Nat.le_trans h1.far.size h)
theorem ext_add [Tabs] {m:Ids} {S:Blocks} {w:World} {H:Heap} {nx B:Nat} (h:Good m S w H) (hn:m nx=none) (v:Value) (b:AB) (hb:RelB (fun i=>if i=nx then some v else m i) S w nx b)
  (hS:∀ k,blk v=some k→¬ S k) (ho:∀ k,blk v=some k→¬ own m H k) (hB:∀ k,blk v=some k→B≤k) :
  Good (fun i=>if i=nx then some v else m i) S w ((nx,b)::H)∧(∀ k,own (fun i=>if i=nx then some v else m i) ((nx,b)::H) k→own m H k∨B≤k):=by
 have hids:∀ i u,m i=some u→(fun i=>if i=nx then some v else m i) i=some u:=by
  intro i u hu
  have:i≠nx:=by intro e;subst e;rw [hn] at hu;cases hu
  simp [this,hu]
 have old:∀ i,i≠nx→(lkH ((nx,b)::H) i).live=true→(lkH H i).live=true:=by
  intro i e hl
  rwa [lkH_cons,if_neg (fun h=>e h.symm)] at hl
 refine ⟨⟨fun id=>?_,?_,?_,h.tab⟩,?_⟩
 ·rw [lkH_cons]
  split
  ·rename_i e;subst e;exact hb
  ·exact (h.rel id).mono hids (fun _ h=>h) (fun _ _=>rfl) (fun _ _ _ _ _=>rfl)
 ·intro i j vi vj k hli hlj hvi hvj hki hkj
  by_cases ei:i=nx<;>by_cases ej:j=nx
  ·rw [ei,ej]
  ·subst ei
   simp only [if_true] at hvi
   simp only [ej,if_false] at hvj
   cases hvi
   exact (ho k hki ⟨j,vj,old j ej hlj,hvj,hkj⟩).elim
  ·subst ej
   simp only [if_true] at hvj
   simp only [ei,if_false] at hvi
   cases hvj
   exact (ho k hkj ⟨i,vi,old i ei hli,hvi,hki⟩).elim
  ·simp only [ei,if_false] at hvi
   simp only [ej,if_false] at hvj
   exact h.sep i j vi vj k (old i ei hli) (old j ej hlj) hvi hvj hki hkj
 ·intro g hg
  refine ⟨(h.ro g hg).1,fun i u hl hu hk=>?_⟩
  by_cases e:i=nx
  ·subst e
   simp only [if_true] at hu
   cases hu
   exact hS g hk hg
  ·simp only [e,if_false] at hu
   exact (h.ro g hg).2 i u (old i e hl) hu hk
 ·rintro k ⟨i,u,hl,hu,hk⟩
  by_cases e:i=nx
  ·subst e
   simp only [if_true] at hu
   cases hu
   exact .inr (hB k hk)
  ·simp only [e,if_false] at hu
   exact .inl ⟨i,u,old i e hl,hu,hk⟩
def tv:List AR→Nat→List AV
 | [],_=>[]
 | .val a::rs,nx=>a::tv rs nx
 | .new b::rs,nx=>nameR nx (.new b)::tv rs (nx+1)
def tw:List AR→Nat→List (Nat×AB)
 | [],_=>[]
 | .val _::rs,nx=>tw rs nx
 | .new b::rs,nx=>tw rs (nx+1)++[(nx,b)]
def tn:List AR→Nat→Nat
 | [],nx=>nx
 | .val _::rs,nx=>tn rs nx
 | .new _::rs,nx=>tn rs (nx+1)
theorem takeR_eq:∀ (rs:List AR) (nx:Nat) (vs:List AV) (wr:List (Nat×AB)) (k:List AV→List (Nat×AB)→Nat→Prop),takeR rs nx vs wr k→k (vs.reverse++tv rs nx) (tw rs nx++wr) (tn rs nx)
 | [],nx,vs,wr,k,h=>by simpa [takeR,tv,tw,tn] using h
 | .val a::rs,nx,vs,wr,k,h=>by
  have:=takeR_eq rs nx (a::vs) wr k h
  simpa [tv,tw,tn] using this
 | .new b::rs,nx,vs,wr,k,h=>by
  have:=takeR_eq rs (nx+1) _ _ k h
  simpa [tv,tw,tn] using this
theorem tn_ge:∀ (rs:List AR) (nx:Nat),nx≤tn rs nx
 | [],nx=>Nat.le_refl _
 | .val _::rs,nx=>tn_ge rs nx
 | .new _::rs,nx=>Nat.le_trans (Nat.le_succ _) (tn_ge rs (nx+1))
theorem take_sound [Tabs] {S:Blocks} {w:World} {B:Nat}:∀ (rs:List AR) (us:List Value) (nx:Nat) (m:Ids) (H:Heap),Good m S w H→(∀ i,nx≤i→i<tn rs nx→m i=none)→us.length=rs.length →
  (∀ (j:Nat) (u:Value) (r:AR),us[j]?=some u→rs[j]?=some r→RelR S w B u r) →
  (∀ (j:Nat) (u:Value) (b:AB) (k:Nat),us[j]?=some u→rs[j]?=some (.new b)→blk u=some k→¬ S k∧¬ own m H k∧∀ (j':Nat) (u':Value) (b':AB),us[j']?=some u'→rs[j']?=some (.new b')→blk u'=some k→j=j') →
  ∃ m',Good m' S w (tw rs nx++H)∧(∀ i v,m i=some v→m' i=some v)∧(∀ i,¬ (nx≤i∧i<tn rs nx)→m' i=m i)∧(∀ k,own m' (tw rs nx++H) k→own m H k∨B≤k) ∧
   (tv rs nx).length=us.length∧∀ (j:Nat) (u:Value) (a:AV),us[j]?=some u→(tv rs nx)[j]?=some a→RelV m' S w u a
 | [],us,nx,m,H,hG,hf,hl,hr,ha=>by
  have:us=[]:=List.eq_nil_of_length_eq_zero hl
  subst this
  exact ⟨m,hG,fun _ _ h=>h,fun _ _=>rfl,fun k h=>.inl h,rfl,fun j u a h=>by simp at h⟩
 | .val x::rs,[],nx,m,H,hG,hf,hl,hr,ha=>by simp at hl
 | .new b::rs,[],nx,m,H,hG,hf,hl,hr,ha=>by simp at hl
 | .val x::rs,u::us,nx,m,H,hG,hf,hl,hr,ha=>by
  obtain ⟨m',g1,g2,g3,g4,g5,g6⟩:=take_sound rs us nx m H hG hf (by simpa using hl) (fun j u r h1 h2=>hr (j+1) u r (by simpa using h1) (by simpa using h2)) (fun j u b k h1 h2 h3=>by
   obtain ⟨a1,a2,a3⟩:=ha (j+1) u b k (by simpa using h1) (by simpa using h2) h3
   exact ⟨a1,a2,fun j' u' b' p q r=>by have:=a3 (j'+1) u' b' (by simpa using p) (by simpa using q) r;omega⟩)
  refine ⟨m',g1,g2,g3,g4,by simp [tv,g5],fun j u' a h1 h2=>?_⟩
  cases j with
  | zero =>
   simp [tv] at h1 h2
   subst h1
   subst h2
   exact .t _ _ (hr 0 _ _ rfl rfl)
  | succ j=>exact g6 j u' a (by simpa using h1) (by simpa [tv] using h2)
 | .new b::rs,u::us,nx,m,H,hG,hf,hl,hr,ha=>by
  obtain ⟨b1,b2,b3⟩:RelR S w B u (.new b):=hr 0 u (.new b) rfl rfl
  have hn:m nx=none:=hf nx (Nat.le_refl _) (Nat.lt_of_lt_of_le (Nat.lt_succ_self nx) (tn_ge rs (nx+1)))
  have hids:∀ i v,m i=some v→(fun i=>if i=nx then some u else m i) i=some v:=by
   intro i v hv
   have:i≠nx:=by intro e;subst e;rw [hn] at hv;cases hv
   simp [this,hv]
  have hb:RelB (fun i=>if i=nx then some u else m i) S w nx b:=(b3 nx).mono (fun i v h=>by
   by_cases e:i=nx
   ·simpa [e] using h
   ·simp [e] at h) (fun _ h=>h) (fun _ _=>rfl) (fun _ _ _ _ _=>rfl)
  obtain ⟨e1,e2⟩:=ext_add (B:=B) hG hn u b hb (fun k hk=>(ha 0 u b k rfl rfl hk).1) (fun k hk=>(ha 0 u b k rfl rfl hk).2.1) b2
  obtain ⟨m',g1,g2,g3,g4,g5,g6⟩:=take_sound rs us (nx+1) _ _ e1 (fun i hi hlt=>by
    have:i≠nx:=by omega
    simp [this,hf i (by omega) hlt]) (by simpa using hl) (fun j u r h1 h2=>hr (j+1) u r (by simpa using h1) (by simpa using h2)) (fun j u' b' k h1 h2 h3=>by
   obtain ⟨a1,a2,a3⟩:=ha (j+1) u' b' k (by simpa using h1) (by simpa using h2) h3
   refine ⟨a1,fun ho=>?_,fun j' u'' b'' p q r=>by have:=a3 (j'+1) u'' b'' (by simpa using p) (by simpa using q) r;omega⟩
   obtain ⟨i,vi,hli,hvi,hki⟩:=ho
   by_cases ei:i=nx
   ·subst ei
    simp only [if_true] at hvi
    cases hvi
    have:=a3 0 u b rfl rfl hki
    omega
   ·simp only [ei,if_false] at hvi
    rw [lkH_cons,if_neg (fun h=>ei h.symm)] at hli
    exact a2 ⟨i,vi,hli,hvi,hki⟩)
  have happ:tw (.new b::rs) nx++H=tw rs (nx+1)++(nx,b)::H:=by simp [tw]
  have hge:=tn_ge rs (nx+1)
  refine ⟨m',by rw [happ];exact g1,fun i v h=>g2 i v (hids i v h),fun i hi=>?_,fun k hk=>?_,by simp [tv,g5],fun j u' a h1 h2=>?_⟩
  ·have hi':¬ (nx≤i∧i<tn rs (nx+1)):=hi
   have hne:i≠nx:=by omega
   rw [g3 i (by omega)]
   simp [hne]
  ·rw [happ] at hk
   rcases g4 k hk with h | h
   ·exact e2 k h
   ·exact .inr h
  ·cases j with
   | zero =>
    simp [tv] at h1 h2
    subst h1
    subst h2
    have hm:m' nx=some u:=g2 nx u (by simp)
    exact relB_name (hb.mono (fun i v h=>g2 i v h) (fun _ h=>h) (fun _ _=>rfl) (fun _ _ _ _ _=>rfl)) b1 hm
   | succ j=>exact g6 j u' a (by simpa using h1) (by simpa [tv] using h2)
theorem retVal_rel {m:Ids} {S:Blocks} {w:World} {us:List Value} {l:List AV} (hl:l.length=us.length) (h:∀ (j:Nat) (u:Value) (a:AV),us[j]?=some u→l[j]?=some a→RelV m S w u a):RelV m S w (retVal us) (valR l):=by
 match us,l,hl with
 | [],[],_=>exact .tup _ _ rfl (fun j c a hj=>by simp at hj)
 | [u],[a],_=>exact h 0 u a rfl rfl
 | u::u'::us,a::a'::l,hl=>exact .tup _ _ (by simp at hl ⊢;omega) (fun j c x hj hx=>h j c x (by simpa using hj) hx)
abbrev Lend (H:Heap):AV→AV→List Nat→Prop:=Bor1 H (Bor1 H (Bor1 H (Bor H)))
theorem lend_ok [Tabs] (H:Heap):BorOk H (Lend H):=borOk_1 (borOk_1 (borOk_1 (borOk_base H)))
theorem relV_fn {m:Ids} {S:Blocks} {w:World} {v:Value} {f:Fn} {lf lc:List AV} (h:RelV m S w v (.fn f lf lc)) :
  ∃ fs cs,v=.func f fs cs∧fs.size=lf.length∧cs.size=lc.length∧(∀ (j:Nat) (c:Value) (a:AV),fs[j]?=some c→lf[j]?=some a→RelV m S w c a)∧(∀ (j:Nat) (c:Value) (a:AV),cs[j]?=some c→lc[j]?=some a→RelV m S w c a):=by
 cases h with
 | t _ _ h=>cases h with
  | fn f fs cs lf lc h1 h2 r1 r2=>exact ⟨fs,cs,rfl,h1,h2,fun j c a p q=>.t _ _ (r1 j c a p q),fun j c a p q=>.t _ _ (r2 j c a p q)⟩
 | fn f fs cs lf lc h1 h2 r1 r2=>exact ⟨fs,cs,rfl,h1,h2,r1,r2⟩
theorem relR_more {S S':Blocks} {w:World} {B:Nat} {v:Value} {r:AR} (hS:∀ g,S g→S' g) (h:RelR S w B v r):RelR S' w B v r:=by
 cases r with
 | val a=>exact RelT.more hS h
 | new b=>exact ⟨h.1,h.2.1,fun n=>(h.2.2 n).mono (fun _ _ h=>h) hS (fun _ _=>rfl) (fun _ _ _ _ _=>rfl)⟩
theorem list3_get {m:Ids} {S:Blocks} {w:World} {a b c:List Value} {x y z:List AV} (h1:a.length=x.length) (h2:b.length=y.length) (r1:∀ (j:Nat) (c:Value) (p:AV),a[j]?=some c→x[j]?=some p→RelV m S w c p)
  (r2:∀ (j:Nat) (c:Value) (p:AV),b[j]?=some c→y[j]?=some p→RelV m S w c p) (r3:∀ (j:Nat) (d:Value) (p:AV),c[j]?=some d→z[j]?=some p→RelV m S w d p) :
  ∀ (j:Nat) (d:Value) (p:AV),(a++b++c)[j]?=some d→(x++y++z)[j]?=some p→RelV m S w d p:=by
 intro j d p hd hp
 by_cases hj1:j<a.length
 ·rw [List.append_assoc,List.getElem?_append_left hj1] at hd
  rw [List.append_assoc,List.getElem?_append_left (by omega)] at hp
  exact r1 j d p hd hp
 ·by_cases hj2:j<a.length+b.length
  ·rw [List.append_assoc,List.getElem?_append_right (by omega),List.getElem?_append_left (by omega)] at hd
   rw [List.append_assoc,List.getElem?_append_right (by omega),List.getElem?_append_left (by omega),← h1] at hp
   exact r2 _ d p hd hp
  ·rw [List.getElem?_append_right (by simp;omega)] at hd
   rw [List.getElem?_append_right (by simp;omega)] at hp
   have e:(x++y).length=(a++b).length:=by simp;omega
   rw [e] at hp
   exact r3 _ d p hd hp
theorem sem_call [Tabs] {P:Program} {o:Oper} {fop:Operand} {as:Array Operand} {ts:Array TypeId} (ho:o.op=.call { callee:=.value fop,args:=as,argTypes:=ts })
  {rd:Operand→AV} {H:Heap} {nx:Nat} {f:FuncId} {first cap:List AV} (hf:rd fop=.fn (.func f) first cap) {args':List AV} {touch:List Nat}
  (hb:BorL (Lend H) (first++as.toList.map rd++cap) args' touch) {R:List AR→Prop} (hc:APure P f args' R) (hflat:touch=[]∨∀ rs,R rs→∀ r∈rs,r.flat) :
  OpSemR P o ((fop::as.toList).map fun y=>(y,true,rd y)) H nx touch (fun r=>∃ rs,R rs∧r=⟨valR (tv rs nx),touch,tw rs nx,tn rs nx⟩):=by
 intro m S w a H₂ K Q hG ht hfree hus hK
 have hfn:RelV m S w (a.eval fop) (rd fop):=hus (fop,true,rd fop) (by simp) rfl
 rw [hf] at hfn
 obtain ⟨fs,cs,hv,hfl,hcl,r1,r3⟩:=relV_fn hfn
 obtain ⟨⟨fn,hfun,hbody,hname⟩,hcall⟩:=hc
 have hvs:(fs++as.map a.eval++cs)=(fs.toList++as.toList.map a.eval++cs.toList).toArray:=by
  apply Array.ext'
  simp
 have hexec:(execOp a.eval o).run P w=.ok (.enter f (fs.toList++as.toList.map a.eval++cs.toList).toArray) w:=by
  rw [← hvs]
  unfold execOp
  have hb':¬ fn.body=none:=by intro e;simp [e] at hbody
  have hn' : ¬ fn.name = "runtime.NumGoroutine" := by simpa using hname
  simp [ho,resolve,hv,Deferred.ofValue,invoke,callFunc,hfun,hn',hb']
 have r2:∀ (j:Nat) (c:Value) (p:AV),(as.toList.map a.eval)[j]?=some c→(as.toList.map rd)[j]?=some p→RelV m S w c p:=by
  intro j c p hj hp
  simp only [List.getElem?_map,Option.map_eq_some_iff] at hj hp
  obtain ⟨y,hy,rfl⟩:=hj
  obtain ⟨y',hy',rfl⟩:=hp
  rw [hy] at hy'
  cases hy'
  exact hus (y,true,rd y) (List.mem_map.2 ⟨y,List.mem_cons.2 (.inr (List.mem_of_getElem? hy)),rfl⟩) rfl
 obtain ⟨hlen,hbor⟩:=borL_sound (lend_ok H) hb
 unfold Oper.wp
 rw [hexec,Oper.upon_enter]
 have hlt:∀ g,(S g∨lent m H₂ touch g)→g<w.heap.size:=by
  rintro g (h | ⟨i,v,hi,hl,hm,hk⟩)
  ·exact (hG.ro g h).1
  ·exact hG.blk_lt hl hm hk
 refine (hcall (fun g=>S g∨lent m H₂ touch g) w _ hlt (hG.tab.mono (fun _ h=>.inl h) fun _ _=>rfl) ⟨?_,?_⟩).mono ?_
 ·rw [hlen]
  simp [hfl,hcl]
 ·exact hbor m S w H₂ _ hG ht (fun g h=>.inl h) (fun g h=>.inr h) _ (by simp [hfl,hcl]) (list3_get (by simpa using hfl) (by simp) (fun j c p h=>r1 j c p (by simpa using h)) r2 (fun j c p h=>r3 j c p (by simpa using h)))
 ·rintro e w' ⟨us,rs,S'',rfl,hR,hL⟩
  show K (a.put o.dst (retVal us)) w'
  have hnl:∀ g,S g→¬ lent m H₂ touch g:=fun g hg ⟨i,v,hi,hl,hm,hk⟩=>(hG.ro g hg).2 i v hl hm hk
  have hrel:∀ (j:Nat) (u:Value) (r:AR),us[j]?=some u→rs[j]?=some r→RelR (fun g=>S'' g∧¬ lent m H₂ touch g) w' w.heap.size u r:=by
   intro j u r hu hr
   rcases hflat with h0 | h0
   ·exact relR_more (fun g hg=>⟨hg,fun ⟨i,v,hi,_⟩=>by rw [h0] at hi;simp at hi⟩) (hL.rel j u r hu hr)
   ·exact relR_flat (hL.rel j u r hu hr) (h0 rs hR r (List.mem_of_getElem? hr))
  have hG':Good m (fun g=>S'' g∧¬ lent m H₂ touch g) w' H₂:=by
   refine ⟨fun id=>(hG.rel id).mono (fun _ _ h=>h) (fun g hg=>⟨hL.ros g (.inl hg),hnl g hg⟩) (fun g hg=>hL.below.block g (hG.ro g hg).1) (fun v k hl hv hk=>hL.below.block k (hG.blk_lt hl hv hk)),hG.sep,fun g hg=>⟨hL.lt g hg.1,fun i v hl hv hk=>?_⟩,hG.tab.mono (fun g hg=>⟨hL.ros g (.inl hg),hnl g hg⟩) fun g hg=>hL.below.block g (hG.ro g hg).1⟩
   rcases hL.fresh g hg.1 with (h | h) | h
   ·exact (hG.ro g h).2 i v hl hv hk
   ·exact hg.2 h
   ·have:=hG.blk_lt hl hv hk
    omega
  obtain ⟨m',g1,g2,g3,g4,g5,g6⟩:=take_sound (B:=w.heap.size) rs us nx m H₂ hG' (fun i hi hlt=>hfree i hi ⟨_,⟨rs,hR,rfl⟩,hlt⟩) hL.len hrel (fun j u b k hu hr hk=>by
   obtain ⟨a1,a2⟩:=hL.apart j u b k hu hr hk
   refine ⟨fun h=>a1 h.1,fun ho=>?_,fun j' u' b' p q r=>a2 j' u' b' p q r⟩
   have h1:=hG.own_lt ho
   have h2:RelR _ w' w.heap.size u (.new b):=hrel j u _ hu hr
   have:=h2.2.1 k hk
   omega)
  refine hK _ ⟨rs,hR,rfl⟩ (retVal us) m' _ w' ⟨g2,g3,fun g hg=>⟨hL.ros g (.inl hg),hnl g hg⟩,fun g hg=>?_,Far.of_below hL.below,g4,g1⟩ (retVal_rel g5 g6)
  rcases hL.fresh g hg.1 with (h | h) | h
  ·exact .inl h
  ·exact (hg.2 h).elim
  ·exact .inr (.inr h)
def CallSem [Tabs] (P:Program) (f:FuncId) (avs:List AV) (H:Heap) (nx:Nat) (touch:List Nat) (Rr:Res→Prop):Prop :=
 FnOk P f∧∀ (m:Ids) (S:Blocks) (w:World) (H₂:Heap) (vs:List Value),Good m S w H₂→(∀ id∈touch,lkH H₂ id=lkH H id)→(∀ i,nx≤i→(∃ r,Rr r∧i<r.nx)→m i=none) →
  vs.length=avs.length→(∀ (j:Nat) (v:Value) (a:AV),vs[j]?=some v→avs[j]?=some a→RelV m S w v a) →
  Calls P f vs.toArray w fun e w'=>∃ v r m' S',e=.returned v∧Rr r∧Ext m S w H₂ nx r.nx m' S' w' (r.wr++H₂)∧RelV m' S' w' v r.v
theorem sem_callraw [Tabs] {P:Program} {o:Oper} {fop:Operand} {as:Array Operand} {ts:Array TypeId} (ho:o.op=.call { callee:=.value fop,args:=as,argTypes:=ts })
  {rd:Operand→AV} {H:Heap} {nx:Nat} {f:FuncId} {first cap:List AV} (hf:rd fop=.fn (.func f) first cap) {touch:List Nat} {Rr:Res→Prop} (hc:CallSem P f (first++as.toList.map rd++cap) H nx touch Rr) :
  OpSemR P o ((fop::as.toList).map fun y=>(y,true,rd y)) H nx touch Rr:=by
 intro m S w a H₂ K Q hG ht hfree hus hK
 have hfn:RelV m S w (a.eval fop) (rd fop):=hus (fop,true,rd fop) (by simp) rfl
 rw [hf] at hfn
 obtain ⟨fs,cs,hv,hfl,hcl,r1,r3⟩:=relV_fn hfn
 obtain ⟨⟨fn,hfun,hbody,hname⟩,hcall⟩:=hc
 have hvs:(fs++as.map a.eval++cs)=(fs.toList++as.toList.map a.eval++cs.toList).toArray:=by
  apply Array.ext'
  simp
 have hexec:(execOp a.eval o).run P w=.ok (.enter f (fs.toList++as.toList.map a.eval++cs.toList).toArray) w:=by
  rw [← hvs]
  unfold execOp
  have hb':¬ fn.body=none:=by intro e;simp [e] at hbody
  have hn' : ¬ fn.name = "runtime.NumGoroutine" := by simpa using hname
  simp [ho,resolve,hv,Deferred.ofValue,invoke,callFunc,hfun,hn',hb']
 have r2:∀ (j:Nat) (c:Value) (p:AV),(as.toList.map a.eval)[j]?=some c→(as.toList.map rd)[j]?=some p→RelV m S w c p:=by
  intro j c p hj hp
  simp only [List.getElem?_map,Option.map_eq_some_iff] at hj hp
  obtain ⟨y,hy,rfl⟩:=hj
  obtain ⟨y',hy',rfl⟩:=hp
  rw [hy] at hy'
  cases hy'
  exact hus (y,true,rd y) (List.mem_map.2 ⟨y,List.mem_cons.2 (.inr (List.mem_of_getElem? hy)),rfl⟩) rfl
 unfold Oper.wp
 rw [hexec,Oper.upon_enter]
 refine (hcall m S w H₂ _ hG ht hfree (by simp [hfl,hcl]) (list3_get (by simpa using hfl) (by simp) (fun j c p h=>r1 j c p (by simpa using h)) r2 (fun j c p h=>r3 j c p (by simpa using h)))).mono ?_
 rintro e w' ⟨v,r,m',S',rfl,hR,hE,hV⟩
 exact hK r hR v m' S' w' hE hV
def OpSemX [Tabs] (P:Program) (px:List PanicEntry→Prop) (o:Oper) (us:Uses) (H:Heap) (nx:Nat) (touch:List Nat) (Rr:Res→Prop):Prop :=
 ∀ (m:Ids) (S:Blocks) (w:World) (a:Act) (H₂:Heap) (K:Act→World→Prop) (Q:Exit→Act→World→Prop),
  Good m S w H₂→(∀ id∈touch,lkH H₂ id=lkH H id)→(∀ i,nx≤i→(∃ r,Rr r∧i<r.nx)→m i=none) →
  (∀ u∈us,u.2.1=true→RelV m S w (a.eval u.1) u.2.2) →
  (∀ r,Rr r→∀ v m' S' w',Ext m S w H₂ nx r.nx m' S' w' (r.wr++H₂)→RelV m' S' w' v r.v→K (a.put o.dst v) w') →
  (∀ ch,px ch→∀ m' S' w' wr,Ext m S w H₂ nx nx m' S' w' (wr++H₂)→Q (.panic ch) a w') →
  o.wp P a w K Q
theorem OpSemR.toX [Tabs] {P:Program} {px:List PanicEntry→Prop} {o:Oper} {us:Uses} {H:Heap} {nx:Nat} {touch:List Nat} {Rr:Res→Prop} (h:OpSemR P o us H nx touch Rr):OpSemX P px o us H nx touch Rr :=
 fun m S w a H₂ K Q hG ht hf hu hK _=>h m S w a H₂ K Q hG ht hf hu hK
def CallSemX [Tabs] (P:Program) (f:FuncId) (avs:List AV) (H:Heap) (nx:Nat) (touch:List Nat) (Rr:Res→Prop) (Px:List PanicEntry→Prop):Prop :=
 FnOk P f∧∀ (m:Ids) (S:Blocks) (w:World) (H₂:Heap) (vs:List Value),Good m S w H₂→(∀ id∈touch,lkH H₂ id=lkH H id)→(∀ i,nx≤i→(∃ r,Rr r∧i<r.nx)→m i=none) →
  vs.length=avs.length→(∀ (j:Nat) (v:Value) (a:AV),vs[j]?=some v→avs[j]?=some a→RelV m S w v a) →
  Calls P f vs.toArray w fun e w'=>(∃ v r m' S',e=.returned v∧Rr r∧Ext m S w H₂ nx r.nx m' S' w' (r.wr++H₂)∧RelV m' S' w' v r.v) ∨
   (∃ ch m' S' wr,e=.panicked ch∧Px ch∧Ext m S w H₂ nx nx m' S' w' (wr++H₂))
theorem sem_callx [Tabs] {P:Program} {px Px:List PanicEntry→Prop} {o:Oper} {fop:Operand} {as:Array Operand} {ts:Array TypeId} (ho:o.op=.call { callee:=.value fop,args:=as,argTypes:=ts })
  {rd:Operand→AV} {H:Heap} {nx:Nat} {f:FuncId} {first cap:List AV} (hf:rd fop=.fn (.func f) first cap) {touch:List Nat} {Rr:Res→Prop} (hc:CallSemX P f (first++as.toList.map rd++cap) H nx touch Rr Px)
  (hp:∀ ch,Px ch→px ch):OpSemX P px o ((fop::as.toList).map fun y=>(y,true,rd y)) H nx touch Rr:=by
 intro m S w a H₂ K Q hG ht hfree hus hK hP
 have hfn:RelV m S w (a.eval fop) (rd fop):=hus (fop,true,rd fop) (by simp) rfl
 rw [hf] at hfn
 obtain ⟨fs,cs,hv,hfl,hcl,r1,r3⟩:=relV_fn hfn
 obtain ⟨⟨fn,hfun,hbody,hname⟩,hcall⟩:=hc
 have hvs:(fs++as.map a.eval++cs)=(fs.toList++as.toList.map a.eval++cs.toList).toArray:=by
  apply Array.ext'
  simp
 have hexec:(execOp a.eval o).run P w=.ok (.enter f (fs.toList++as.toList.map a.eval++cs.toList).toArray) w:=by
  rw [← hvs]
  unfold execOp
  have hb':¬ fn.body=none:=by intro e;simp [e] at hbody
  have hn' : ¬ fn.name = "runtime.NumGoroutine" := by simpa using hname
  simp [ho,resolve,hv,Deferred.ofValue,invoke,callFunc,hfun,hn',hb']
 have r2:∀ (j:Nat) (c:Value) (p:AV),(as.toList.map a.eval)[j]?=some c→(as.toList.map rd)[j]?=some p→RelV m S w c p:=by
  intro j c p hj hp
  simp only [List.getElem?_map,Option.map_eq_some_iff] at hj hp
  obtain ⟨y,hy,rfl⟩:=hj
  obtain ⟨y',hy',rfl⟩:=hp
  rw [hy] at hy'
  cases hy'
  exact hus (y,true,rd y) (List.mem_map.2 ⟨y,List.mem_cons.2 (.inr (List.mem_of_getElem? hy)),rfl⟩) rfl
 unfold Oper.wp
 rw [hexec,Oper.upon_enter]
 refine (hcall m S w H₂ _ hG ht hfree (by simp [hfl,hcl]) (list3_get (by simpa using hfl) (by simp) (fun j c p h=>r1 j c p (by simpa using h)) r2 (fun j c p h=>r3 j c p (by simpa using h)))).mono ?_
 rintro e w' (⟨v,r,m',S',rfl,hR,hE,hV⟩ | ⟨ch,m',S',wr,rfl,hp',hE⟩)
 ·exact hK r hR v m' S' w' hE hV
 ·exact hP ch (hp ch hp') m' S' w' wr hE
def trees1:List AV→Bool
 | []=>true
 | a::l=>match a.tree1 with
  | true=>trees1 l
  | false=>false
theorem trees1_spec:∀ {l:List AV},trees1 l=true→∀ a∈l,a.tree1=true
 | [],_,a,h=>by simp at h
 | b::l,h,a,ha=>by
  unfold trees1 at h
  split at h
  ·rename_i hb
   rcases List.mem_cons.1 ha with rfl | ha
   ·exact hb
   ·exact trees1_spec h a ha
  ·cases h
def evMakeI (T:Tab) (t:TypeId) (x:AV) (k:AV→Prop):Prop :=
 match lkT T t with
 | some ⟨.struct _,_,_,_⟩=>match x with
  | .agg l=>match trees1 l with
   | true=>k (.ival t l)
   | false=>False
  | _=>False
 | _=>False
theorem evMakeI_sound [Tabs] {P:Program} {T:Tab} (hT:TabOk P T) {rd:Operand→AV} {H:Heap} {nx:Nat} {t:TypeId} {x:Operand} {o:Oper} (ho:o.op=.makeInterface t x) {k:Res→Prop}
  (h:evMakeI T t (rd x) fun v=>k ⟨v,[],[],nx⟩):∃ r,OpSemP P o [(x,true,rd x)] H nx r∧(r.wr=[]∧r.nx=nx)∧k r:=by
 unfold evMakeI at h
 split at h
 ·rename_i fs s b0 z hi
  obtain ⟨hu,_⟩:=hT t _ hi
  split at h
  ·rename_i l hl
   split at h
   ·rename_i htr
    refine ⟨_,opsem_pure fun m S w a H₂ hG ht hus=>?_,⟨rfl,rfl⟩,h⟩
    have hx:RelV m S w (a.eval x) (rd x):=hus (x,true,rd x) (by simp) rfl
    rw [hl] at hx
    obtain ⟨cs,hv,hlen,hrel⟩:=relV_agg hx
    refine ⟨.iface t (.agg cs),fun w' _=>?_,.t _ _ (.ival t cs l hlen fun j c b hj hb=>?_)⟩
    ·have hr:(Instr.makeInterface t (.agg cs)).run P w'=.ok (.iface t (.agg cs)) w':=by
      unfold Instr.makeInterface
      simp [run_underlying hu]
     unfold execOp
     simp [ho,hv,hr]
    ·have h1:=trees1_spec htr b (List.mem_of_getElem? hb)
     exact (hrel j c b hj hb).toT (by cases b<;>simp_all [AV.tree,AV.tree1,AV.tree0])
   ·exact h.elim
  ·exact h.elim
 ·exact h.elim
def evAssert (T:Tab) (t:TypeId) (x:AV) (k:AV→Prop):Prop :=
 match lkT T t with
 | some ⟨.struct _,_,_,z⟩=>match x with
  | .ival u l=>match Nat.beq u t with
   | true=>k (.tup [.agg l,.bool true])
   | false=>False
  | .ifc true=>k (.tup [avOf z,.bool false])
  | _=>False
 | _=>False
theorem evAssert_sound [Tabs] {P:Program} {T:Tab} (hT:TabOk P T) {rd:Operand→AV} {H:Heap} {nx:Nat} {t xt:TypeId} {x:Operand} {o:Oper} (ho:o.op=.typeAssert x xt t true) {k:Res→Prop}
  (h:evAssert T t (rd x) fun v=>k ⟨v,[],[],nx⟩):∃ r,OpSemP P o [(x,true,rd x)] H nx r∧(r.wr=[]∧r.nx=nx)∧k r:=by
 unfold evAssert at h
 split at h
 ·rename_i fs s b0 z hi
  obtain ⟨hu,j,hj,_,_,hz⟩:=hT t _ hi
  have hzero:∀ w':World,(zeroValue t).run P w'=.ok z w':=fun w'=>by simp [zeroValue,typeInfo,hj,hz]
  split at h
  ·rename_i u l hl
   split at h
   ·rename_i hut
    have:=Nat.eq_of_beq_eq_true hut
    subst this
    refine ⟨_,opsem_pure fun m S w a H₂ hG ht hus=>?_,⟨rfl,rfl⟩,h⟩
    have hx:RelV m S w (a.eval x) (rd x):=hus (x,true,rd x) (by simp) rfl
    rw [hl] at hx
    generalize hv:a.eval x=v at hx
    cases hx with
    | t _ _ hx=>cases hx with
     | ival _ cs _ hlen hrel =>
      refine ⟨.tuple #[.agg cs,.bool true],fun w' _=>?_,.t _ _ (.tup _ _ rfl fun j c b hjc hb=>?_)⟩
      ·unfold execOp Instr.typeAssert
       simp [ho,hv,run_underlying hu]
      ·match j with
       | 0=>simp at hjc hb;subst hjc;subst hb;exact .agg cs l hlen hrel
       | 1=>simp at hjc hb;subst hjc;subst hb;exact .bool _
       | n+2=>simp at hjc
   ·exact h.elim
  ·rename_i hl
   refine ⟨_,opsem_pure fun m S w a H₂ hG ht hus=>?_,⟨rfl,rfl⟩,h⟩
   have hx:RelV m S w (a.eval x) (rd x):=hus (x,true,rd x) (by simp) rfl
   rw [hl] at hx
   generalize hv:a.eval x=v at hx
   cases hx with
   | t _ _ hx=>cases hx with
    | ifc0 =>
     refine ⟨.tuple #[z,.bool false],fun w' _=>?_,.t _ _ (.tup _ _ rfl fun j c b hjc hb=>?_)⟩
     ·unfold execOp Instr.typeAssert
      simp [ho,hv,run_underlying hu,hzero]
     ·match j with
      | 0=>simp at hjc hb;subst hjc;subst hb;exact relT_avOf S w z
      | 1=>simp at hjc hb;subst hjc;subst hb;exact .bool _
      | n+2=>simp at hjc
  ·exact h.elim
 ·exact h.elim
inductive PanG (px:List PanicEntry→Prop) (x:AV):Prop
 | mk (t:TypeId) (l:List AV) (hx:x=.ival t l) (h:∀ (S:Blocks) (w:World) (cs:Array Value),RelT S w (.agg cs) (.agg l)→px [{ v:=.iface t (.agg cs),recovered:=false }])
theorem evPanic_sound [Tabs] {P:Program} {px:List PanicEntry→Prop} {rd:Operand→AV} {H:Heap} {nx:Nat} {x:Operand} {o:Oper} (ho:o.op=.panic x) (h:PanG px (rd x)) :
  OpSemX P px o [(x,true,rd x)] H nx [] (fun _=>False):=by
 intro m S w a H₂ K Q hG ht hfree hus hK hP
 obtain ⟨t,l,hx,h⟩:=h
 have hv:RelV m S w (a.eval x) (rd x):=hus (x,true,rd x) (by simp) rfl
 rw [hx] at hv
 generalize hv2:a.eval x=v at hv
 cases hv with
 | t _ _ hv=>cases hv with
  | ival _ cs _ hlen hrel =>
   have hr:(execOp a.eval o).run P w=.halt (.panic (.iface t (.agg cs))) w:=by
    unfold execOp Instr.panic
    simp [ho,hv2,goPanic]
   unfold Oper.wp
   rw [hr,Oper.upon_panic]
   exact hP _ (h S w cs (.agg cs l hlen hrel)) m S w [] (Ext.refl hG nx)
def oneV:Value→Bool
 | .bool _ | .int _ _ | .string _ | .slice _ _ _ | .map _ | .pointer _=>true
 | _=>false
theorem oneV_cells {v:Value} (h:oneV v=true):v.cells=#[v]:=by
 cases v<;>first | rfl | (simp [oneV] at h)
def evMakeSlice (T:Tab) (nx:Nat) (t:TypeId) (x y:AV) (k:Res→Prop):Prop :=
 match lkT T t with
 | some ⟨.slice e,_,_,_⟩=>match lkT T e with
  | none=>False
  | some i=>match x with
   | .int _ n=>match y with
    | .int _ m=>match oneV i.zero&&(avOf1 i.zero).one&&Nat.beq i.size 1&&Nat.ble 1 i.bytes with
     | true=>(m=n∧0≤n∧i.bytes*n.toNat≤140737488355328)∧k ⟨.own nx,[],[(nx,.lst e 1 (List.replicate n.toNat (avOf1 i.zero)))],nx+1⟩
     | false=>False
    | _=>False
   | _=>False
 | _=>False
theorem one_cellsL {a:AV} (h:a.one=true):a.cells=[a]:=by
 cases a<;>first | rfl | (simp [AV.one] at h)
theorem flat_rep {a:AV} (h:a.one=true):∀ n,flat (List.replicate n a)=List.replicate n a
 | 0=>rfl
 | n+1=>by
  have:=flat_rep h n
  unfold flat at this ⊢
  rw [List.replicate_succ,List.flatMap_cons,this,one_cellsL h]
  rfl
theorem evMakeSlice_sound [Tabs] {P:Program} {T:Tab} (hT:TabOk P T) {rd:Operand→AV} {H:Heap} {nx:Nat} {t:TypeId} {x y:Operand} {o:Oper} (ho:o.op=.makeSlice t x y) {k:Res→Prop}
  (h:evMakeSlice T nx t (rd x) (rd y) k):∃ r,OpSem P o [(x,true,rd x),(y,true,rd y)] H nx r∧nx≤r.nx∧k r:=by
 unfold evMakeSlice at h
 split at h
 ·rename_i e s b z hi
  split at h
  ·exact h.elim
  ·rename_i i hie
   split at h
   ·rename_i kx n hx
    split at h
    ·rename_i ky m' hy
     split at h
     ·rename_i hc
      simp only [Bool.and_eq_true] at hc
      obtain ⟨⟨⟨c1,c2⟩,c3⟩,c4⟩:=hc
      obtain ⟨⟨rfl,hn0,hbytes⟩,hk⟩:=h
      obtain ⟨hu,_⟩:=hT t _ hi
      obtain ⟨_,j,hj,hs,hby,hz⟩:=hT e _ hie
      simp only at hu
      have hsz:i.size=1:=Nat.eq_of_beq_eq_true c3
      have hb1:1≤i.bytes:=Nat.le_of_ble_eq_true c4
      refine ⟨_,?_,Nat.le_succ _,hk⟩
      intro m S w a H₂ K Q hG _ hfree hus hK
      have hvx:RelV m S w (a.eval x) (rd x):=hus (x,true,rd x) (by simp) rfl
      have hvy:RelV m S w (a.eval y) (rd y):=hus (y,true,rd y) (by simp) rfl
      rw [hx] at hvx
      rw [hy] at hvy
      have ex:=relV_int hvx
      have ey:=relV_int hvy
      have hn':m nx=none:=hfree nx (Nat.le_refl _) (Nat.lt_succ_self _)
      have hnle:m'.toNat≤140737488355328:=Nat.le_trans (Nat.le_mul_of_pos_left _ hb1) hbytes
      have hcast:((i.bytes*m'.toNat:Nat):Int)=(i.bytes:Int)*m':=by rw [Int.natCast_mul,Int.toNat_of_nonneg hn0]
      have hr:=run_make (P:=P) w t e j i.zero hu hj hz kx ky m' m' hn0 (Int.le_refl _) (by rw [hby];omega) (by omega)
      unfold Oper.wp execOp
      simp only [ho,ex,ey,Sem.run_bind,hr,Result.andThen_ok]
      rw [hs,hsz,Nat.mul_one,oneV_cells c1]
      have hml:=toList_madeCells_one i.zero m'.toNat
      have hms:=size_madeCells #[i.zero] m'.toNat
      generalize madeCells #[i.zero] m'.toNat=cells at hml hms
      show K (a.put o.dst (.slice (some ⟨w.heap.size,0,none⟩) m'.toNat m'.toNat)) _
      refine hK _ _ S _ (ext_new hG hn' (.slice (some ⟨w.heap.size,0,none⟩) m'.toNat m'.toNat) _ (w.alloc (.cells cells e)) rfl rfl rfl (by simp) (fun k hk=>RowKit.Below.heap_alloc w _ k hk) (fun k hk=>by simp [blk] at hk;omega) ?_) (.own nx _ _ (some ⟨w.heap.size,0,none⟩) (by simp))
      refine ⟨_,cells.toList,by simp;rfl,?_⟩
      have hmade:=RowRel.made (S:=S) (w:=w) (e:=e) (E:=1) (l:=List.replicate m'.toNat (avOf1 i.zero)) (cells:=cells) (by simpa using hms) (maxLen_ge (by simpa using hnle))
       (fun x hx=>by rw [(List.mem_replicate.1 hx).2,one_cellsL c2];rfl) (fun a ha=>by rw [flat_rep c2] at ha;rw [(List.mem_replicate.1 ha).2];exact c2)
       (fun q c x hq hx=>by
        rw [flat_rep c2] at hx
        have e1:x=avOf1 i.zero:=(List.mem_replicate.1 (List.mem_of_getElem? hx)).2
        have e2:c=i.zero:=by
         have:cells.toList[q]?=some c:=by simpa using hq
         rw [hml] at this
         exact (List.mem_replicate.1 (List.mem_of_getElem? this)).2
        rw [e1,e2]
        exact relT_avOf1 S w _) (fun g hg=>(hG.ro g hg).1)
      simpa using hmade
     ·exact h.elim
    ·exact h.elim
   ·exact h.elim
 ·exact h.elim
def frz0 (H:Heap):AV→AV
 | .own id=>match lkH H id with
  | .lst _ E l=>.lsl E l
  | .row _ E enc d xs=>.sl E enc d xs
  | _=>.own id
 | .pre id n=>match lkH H id with
  | .lst _ E l=>.lsl E (l.take n)
  | .row _ E enc d xs=>.sl E enc d (xs.take n)
  | _=>.pre id n
 | v=>v
def frz0I:AV→List Nat
 | .own id=>[id]
 | .pre id _=>[id]
 | _=>[]
def frzV (H:Heap):AV→AV
 | .agg l=>.agg (l.map (frz0 H))
 | v=>frz0 H v
def frzI:AV→List Nat
 | .agg l=>l.flatMap frz0I
 | v=>frz0I v
theorem frz0_rel [Tabs] {m:Ids} {S S':Blocks} {w:World} {H H₂:Heap} {u:Value} {v:AV} (hG:Good m S w H₂) (ht:∀ id∈frz0I v,lkH H₂ id=lkH H id) (hS:∀ g,S g→S' g) (hl:∀ g,lent m H₂ (frz0I v) g→S' g)
  (h:RelV m S w u v):RelV m S' w u (frz0 H v):=by
 have same:RelV m S' w u v:=h.mono (fun _ _ h=>h) hS (fun _ _=>rfl)
 unfold frz0
 split
 ·rename_i id
  have hid:=ht id (by simp [frz0I])
  split
  ·rename_i e E l hc
   obtain ⟨v',vs,hmi,hrow⟩:=own_row (s:=.lst l) hG hid hc
   cases h with
   | t _ _ h=>cases h
   | own id n cap a hm =>
    rw [hmi] at hm
    cases hm
    exact .t _ _ (hrow.lent hS fun g hg=>hl g ⟨id,_,by simp [frz0I],by rw [hid,hc];rfl,hmi,hg⟩)
  ·rename_i T' e E enc d xs hc
   obtain ⟨v',vs,hmi,hrow⟩:=own_row (s:=.row enc d xs) hG hid hc
   cases h with
   | t _ _ h=>cases h
   | own id n cap a hm =>
    rw [hmi] at hm
    cases hm
    exact .t _ _ (.sl _ _ _ _ _ (hrow.lent hS fun g hg=>hl g ⟨id,_,by simp [frz0I],by rw [hid,hc];rfl,hmi,hg⟩))
  ·exact same
 ·rename_i id n
  have hid:=ht id (by simp [frz0I])
  split
  ·rename_i e E l hc
   obtain ⟨v',vs,hmi,hrow⟩:=own_row (s:=.lst l) hG hid hc
   cases h with
   | t _ _ h=>cases h
   | pre id n n' cap a hm hle =>
    rw [hmi] at hm
    cases hm
    exact .t _ _ ((hrow.take hle).lent hS fun g hg=>hl g ⟨id,_,by simp [frz0I],by rw [hid,hc];rfl,hmi,by cases a<;>simp_all [blk]⟩)
  ·rename_i T' e E enc d xs hc
   obtain ⟨v',vs,hmi,hrow⟩:=own_row (s:=.row enc d xs) hG hid hc
   cases h with
   | t _ _ h=>cases h
   | pre id n n' cap a hm hle =>
    rw [hmi] at hm
    cases hm
    have:=(hrow.take hle).lent hS fun g hg=>hl g ⟨id,_,by simp [frz0I],by rw [hid,hc];rfl,hmi,by cases a<;>simp_all [blk]⟩
    simp only [Src.list] at this
    rw [← List.map_take] at this
    exact .t _ _ (.sl _ _ _ _ _ this)
  ·exact same
 ·exact same
theorem frzV_rel [Tabs] {m:Ids} {S S':Blocks} {w:World} {H H₂:Heap} {u:Value} {v:AV} (hG:Good m S w H₂) (ht:∀ id∈frzI v,lkH H₂ id=lkH H id) (hS:∀ g,S g→S' g) (hl:∀ g,lent m H₂ (frzI v) g→S' g)
  (h:RelV m S w u v):RelV m S' w u (frzV H v):=by
 unfold frzV
 split
 ·rename_i l
  have main:∀ (cs:Array Value),cs.size=l.length→(∀ (j:Nat) (c:Value) (a:AV),cs[j]?=some c→l[j]?=some a→RelV m S w c a)→RelV m S' w (.agg cs) (.agg (l.map (frz0 H))):=by
   intro cs hcs hr
   refine .agg cs _ (by simpa using hcs) fun j c a hj ha=>?_
   simp only [List.getElem?_map,Option.map_eq_some_iff] at ha
   obtain ⟨a0,ha0,rfl⟩:=ha
   have hmem:∀ id,id∈frz0I a0→id∈frzI (.agg l):=fun id hi=>List.mem_flatMap.2 ⟨a0,List.mem_of_getElem? ha0,hi⟩
   exact frz0_rel hG (fun id hi=>ht id (hmem id hi)) hS (fun g ⟨i,v,hi,h1,h2,h3⟩=>hl g ⟨i,v,hmem i hi,h1,h2,h3⟩) (hr j c a0 hj ha0)
  cases h with
  | t _ _ h=>cases h with
   | agg cs _ hcs hr=>exact main cs hcs fun j c a h1 h2=>.t _ _ (hr j c a h1 h2)
  | agg cs _ hcs hr=>exact main cs hcs hr
 ·rename_i v2 hv
  have hi:frzI v=frz0I v:=by
   cases v<;>first | rfl | (exact (hv _ rfl).elim)
  rw [hi] at ht hl
  exact frz0_rel hG ht hS hl h
theorem lkH_dead (ids:List Nat) (H:Heap) (i:Nat):lkH (ids.map (fun i=>(i,AB.dead))++H) i=if i∈ids then .dead else lkH H i:=by
 induction ids with
 | nil=>simp
 | cons j ids ih =>
  rw [List.map_cons,List.cons_append,lkH_cons,ih]
  by_cases e:j=i
  ·subst e;simp
  ·rw [if_neg e]
   have:i≠j:=fun h=>e h.symm
   simp [this]
theorem good_freeze [Tabs] {m:Ids} {S:Blocks} {w:World} {H:Heap} (h:Good m S w H) (ids:List Nat):Good m (fun g=>S g∨lent m H ids g) w (ids.map (fun i=>(i,AB.dead))++H):=by
 have live:∀ i,(lkH (ids.map (fun i=>(i,AB.dead))++H) i).live=true→i∉ids∧(lkH H i).live=true:=by
  intro i hl
  rw [lkH_dead] at hl
  by_cases e:i∈ids
  ·rw [if_pos e] at hl;cases hl
  ·rw [if_neg e] at hl;exact ⟨e,hl⟩
 refine ⟨fun id=>?_,fun i j vi vj k hi hj=>h.sep i j vi vj k (live i hi).2 (live j hj).2,fun g hg=>?_,h.tab.mono (fun _ h=>.inl h) fun _ _=>rfl⟩
 ·rw [lkH_dead]
  split
  ·trivial
  ·exact (h.rel id).mono (fun _ _ h=>h) (fun _ h=>.inl h) (fun _ _=>rfl) (fun _ _ _ _ _=>rfl)
 ·rcases hg with hg | ⟨i0,v0,hi0,hl0,hm0,hb0⟩
  ·exact ⟨(h.ro g hg).1,fun i v hl=>(h.ro g hg).2 i v (live i hl).2⟩
  ·refine ⟨h.blk_lt hl0 hm0 hb0,fun i v hl hm hb=>?_⟩
   have:=h.sep i i0 v v0 g (live i hl).2 hl0 hm hm0 hb hb0
   subst this
   exact (live i hl).1 hi0
theorem opsem_freeze [Tabs] {P:Program} {o:Oper} {l:List Operand} {rd:Operand→AV} {H:Heap} {nx:Nat} {r:Res} {ids:List Nat} (hids:∀ x∈l,∀ id∈frzI (rd x),id∈ids)
  (h:OpSem P o (l.map fun x=>(x,true,frzV H (rd x))) H nx r) (ht0:r.touch=[]):OpSem P o (l.map fun x=>(x,true,rd x)) H nx ⟨r.v,ids,r.wr++ids.map (fun i=>(i,AB.dead)),r.nx⟩:=by
 intro m S w a H₂ K Q hG ht hfree hus hK
 refine h m (fun g=>S g∨lent m H₂ ids g) w a (ids.map (fun i=>(i,AB.dead))++H₂) K Q (good_freeze hG ids) (by rw [ht0];simp) hfree (fun u hu _=>?_) (fun v m' S' w' hE hV=>?_)
 ·obtain ⟨x,hx,rfl⟩:=List.mem_map.1 hu
  exact frzV_rel hG (fun id hi=>ht id (hids x hx id hi)) (fun _ h=>.inl h) (fun g ⟨i,v,hi,h1,h2,h3⟩=>.inr ⟨i,v,hids x hx i hi,h1,h2,h3⟩) (hus (x,true,rd x) (List.mem_map.2 ⟨x,hx,rfl⟩) rfl)
 ·have hown:∀ g,own m (ids.map (fun i=>(i,AB.dead))++H₂) g→own m H₂ g:=by
   rintro g ⟨i,v,hl,hm,hb⟩
   rw [lkH_dead] at hl
   by_cases e:i∈ids
   ·rw [if_pos e] at hl;cases hl
   ·rw [if_neg e] at hl;exact ⟨i,v,hl,hm,hb⟩
  refine hK v m' S' w' ⟨hE.ids,hE.same,fun g hg=>hE.ros g (.inl hg),fun g hg=>?_,⟨hE.far.os,hE.far.tape,hE.far.output,hE.far.size,fun k hk hn=>hE.far.block k hk fun ho=>hn (hown k ho)⟩,fun k hk=>?_,by rw [List.append_assoc];exact hE.good⟩ hV
  ·rcases hE.fresh g hg with (h | ⟨i,v,hi,h1,h2,h3⟩) | h | h
   ·exact .inl h
   ·exact .inr (.inl ⟨i,v,h1,h2,h3⟩)
   ·exact .inr (.inl (hown g h))
   ·exact .inr (.inr h)
  ·rcases hE.owns k (by rw [← List.append_assoc];exact hk) with h | h
   ·exact .inl (hown k h)
   ·exact .inr h
def isPtrs:List (Nat×AV)→Bool
 | (_,.ptr _ _)::_=>true
 | _=>false
def evBuildSliceF (T:Tab) (H:Heap) (nx:Nat) (t:TypeId) (n:Nat) (parts:List (Nat×AV)) (k:Res→Prop):Prop :=
 match isPtrs parts with
 | true=>evBuildSliceP T nx t n parts k
 | false=>match parts.flatMap fun p=>frzI p.2 with
 | []=>evBuildSlice T nx t n parts k
 | i::is=>evBuildSlice T nx t n (parts.map fun p=>(p.1,frzV H p.2)) fun r=>match r.touch with
  | []=>k ⟨r.v,i::is,r.wr++(i::is).map (fun i=>(i,AB.dead)),r.nx⟩
  | _=>False
theorem evBuildSliceF_sound [Tabs] {P:Program} {T:Tab} (hT:TabOk P T) {rd:Operand→AV} {H:Heap} {nx:Nat} {t:TypeId} {n:Nat} {parts:Array (Nat×Operand)} {o:Oper} (ho:o.op=.buildSlice t n parts) {k:Res→Prop}
  (h:evBuildSliceF T H nx t n (parts.toList.map fun p=>(p.1,rd p.2)) k):∃ r,OpSem P o (parts.toList.map fun p=>(p.2,true,rd p.2)) H nx r∧nx≤r.nx∧k r:=by
 unfold evBuildSliceF at h
 split at h
 ·exact evBuildSliceP_sound hT ho h
 split at h
 ·exact evBuildSlice_sound hT ho h
 ·rename_i i is hids
  rw [List.map_map] at h
  obtain ⟨r,h1,h2,h3⟩:=evBuildSlice_sound (rd:=fun x=>frzV H (rd x)) hT ho h
  split at h3
  ·rename_i ht
   refine ⟨_,?_,?_,h3⟩
   ·have:=opsem_freeze (P:=P) (o:=o) (l:=parts.toList.map (·.2)) (rd:=rd) (H:=H) (nx:=nx) (r:=r) (ids:=i::is) (fun x hx id hid=>?_) (by rw [List.map_map];exact h1) ht
    ·rw [List.map_map] at this
     exact this
    ·obtain ⟨p,hp,rfl⟩:=List.mem_map.1 hx
     rw [← hids]
     exact List.mem_flatMap.2 ⟨_,List.mem_map.2 ⟨p,hp,rfl⟩,hid⟩
   ·exact h2
  ·exact h3.elim
theorem run_append_room_at {P:Program} (w:World) (t ty e:TypeId) (i:TypeInfo) (ht:P.underlying t=some (.slice e)) (hi:P.info? e=some i)
  (g o sLen sCap:Nat) (cur:Array Value) (hg:w.heap[g]?=some (.cells cur e (0,0)))
  (a:Addr) (m c:Nat) (news:List Value) (hl:news.length=m*i.size) (hnews:∀ j u,news[j]?=some u→w.cell? (a.add j)=some u) (h1:∀ u∈news,u.oneCell'=true)
  (hroom:sLen+m≤sCap) (hfit:o+sLen*i.size+news.length≤cur.size) :
  (Builtin.append_ #[t,t] ty #[.slice (some ⟨g,o,none⟩) sLen sCap,.slice (some a) m c]).run P w =
   .ok (.slice (some ⟨g,o,none⟩) (sLen+m) sCap) (w.setRow g (cur.toList.take (o+sLen*i.size)++news++cur.toList.drop (o+sLen*i.size+news.length)).toArray):=by
 have hf:=run_firstCells_some (P:=P) w i.size m a m c news hl hnews
 have hst:=run_storeCells_at P g (o+sLen*i.size) e news 0 cur w hg (by simpa using hfit) h1
 simp only [Nat.add_zero] at hst
 simp [Builtin.append_,run_underlying ht,sizeOf,typeInfo,hi,Builtin.lenOf,hroom,hf,Addr.add_mid,hst]
theorem append_que_run {P:Program} {t ty e:TypeId} {i:TypeInfo} {z:Value} (ht:P.underlying t=some (.slice e)) (hi:P.info? e=some i) (hz:i.zero=some z) (hzs:z.cells.size=i.size)
  {S:Blocks} {w:World} {dl sl:List AV} {vx:Value} {g o cap:Nat} {cur:Array Value} (hq:QueRel S w e i.size dl g o cap cur) (hx:SrcRel S w i.size vx sl) (hsl:sl≠[]) (hS:∀ k,S k→k<w.heap.size∧k≠g)
  (hbytes:(dl.length+sl.length)*i.bytes≤140737488355328) (h63:dl.length+sl.length≤maxLen) :
  ∃ w' g' o' cap' cur',(Builtin.append_ #[t,t] ty #[.slice (some ⟨g,o,none⟩) dl.length cap,vx]).run P w=.ok (.slice (some ⟨g',o',none⟩) (dl++sl).length cap') w'∧QueRel S w' e i.size (dl++sl) g' o' cap' cur' ∧
   w.grownBy w' (some g)∧(g'=g∨w.heap.size≤g'):=by
 rcases hx with ⟨_,h⟩ | ⟨_,_,_,h⟩ | ⟨g2,o2,cap2,cs,rfl,hcs,hE,h1,hc,hr⟩
 ·exact (hsl h).elim
 ·exact (hsl h).elim
 have hlen:(flat dl).length=dl.length*i.size:=flat_length dl hq.size
 have hlen2:(flat sl).length=sl.length*i.size:=flat_length sl hE
 have hone:∀ u∈cs,u.oneCell'=true:=by
  intro u hu
  obtain ⟨j,hj⟩:=List.getElem?_of_mem hu
  have hjl:j<(flat sl).length:=by rw [hlen2,← hcs];exact (List.getElem?_eq_some_iff.1 hj).1
  exact (hr j u _ hj (List.getElem?_eq_getElem hjl)).oneCell (h1 _ (List.getElem_mem hjl))
 have hnews:∀ (j:Nat) (u:Value),cs[j]?=some u→w.cell? ((⟨g2,o2,none⟩:Addr).add j)=some u:=fun j u hu=>by rw [Addr.add_mid];exact hc j u hu
 have hsize:∀ x∈dl++sl,x.cells.length=i.size:=fun x hx=>by
  rcases List.mem_append.1 hx with hx | hx
  ·exact hq.size x hx
  ·exact hE x hx
 have hones:∀ a∈flat (dl++sl),a.one=true:=fun a ha=>by
  rw [flat_append] at ha
  rcases List.mem_append.1 ha with ha | ha
  ·exact hq.ones a ha
  ·exact h1 a ha
 have hroom:=hq.room
 have hql:=hq.len
 by_cases hfit:dl.length+sl.length≤cap
 ·have hmul:(dl.length+sl.length)*i.size≤cap*i.size:=Nat.mul_le_mul_right _ hfit
  rw [Nat.add_mul] at hmul
  have hrun:=run_append_room_at (P:=P) w t ty e i ht hi g o dl.length cap cur hq.at_ ⟨g2,o2,none⟩ sl.length cap2 cs hcs hnews hone hfit (by omega)
  rw [← List.length_append] at hrun
  refine ⟨_,g,o,cap,(cur.toList.take (o+dl.length*i.size)++cs++cur.toList.drop (o+dl.length*i.size+cs.length)).toArray,hrun,?_,⟨rfl,rfl,rfl,by simp,fun k _ hk=>setRow_other w g k _ (fun e=>hk (by rw [e]))⟩,.inl rfl⟩
  have hkeep:∀ k,S k→(w.setRow g (cur.toList.take (o+dl.length*i.size)++cs++cur.toList.drop (o+dl.length*i.size+cs.length)).toArray).heap[k]?=w.heap[k]?:=fun k hk=>setRow_other w g k _ (fun e=>(hS k hk).2 e)
  refine ⟨setRow_heap w g cur _ e _ hq.at_,by rw [List.length_append];exact hfit,hq.max,?_,hsize,hones,fun j c a hj ha=>?_⟩
  ·simp only [List.size_toArray,List.length_append,List.length_take,List.length_drop,Array.length_toList]
   omega
  ·have htl:(cur.toList.take (o+dl.length*i.size)).length=o+dl.length*i.size:=by have:cur.toList.length=cur.size:=rfl;rw [List.length_take];omega
   rw [List.getElem?_toArray,List.append_assoc] at hj
   rw [flat_append] at ha
   by_cases hlt:j<(flat dl).length
   ·rw [List.getElem?_append_left hlt] at ha
    rw [List.getElem?_append_left (by rw [htl];omega),List.getElem?_take,if_pos (by omega)] at hj
    exact (hq.rel j c a (by simpa using hj) ha).mono (fun _ h=>h) hkeep
   ·have hja:j-(flat dl).length<(flat sl).length:=by
     have:=(List.getElem?_eq_some_iff.1 ha).1
     rw [List.length_append] at this
     omega
    rw [List.getElem?_append_right (by omega)] at ha
    rw [List.getElem?_append_right (by rw [htl];omega),htl,List.getElem?_append_left (by omega)] at hj
    refine (hr (j-(flat dl).length) c a ?_ ha).mono (fun _ h=>h) hkeep
    rw [hlen,← hj]
    congr 1
    omega
 ·have hsmall:dl.length+sl.length≤9223372036854775807:=by simp only [maxLen] at h63;omega
  let olds:=(cur.toList.drop o).take (dl.length*i.size)
  have hol:olds.length=dl.length*i.size:=by
   have:dl.length*i.size≤cap*i.size:=Nat.mul_le_mul_right _ hql
   simp only [olds,List.length_take,List.length_drop,Array.length_toList]
   omega
  have hoget:∀ j,j<dl.length*i.size→olds[j]?=cur[o+j]?:=fun j hj=>by
   simp only [olds]
   rw [List.getElem?_take,if_pos hj,List.getElem?_drop]
   simp
  have holds:∀ (j:Nat) (u:Value),olds[j]?=some u→w.cell? ((⟨g,o,none⟩:Addr).add j)=some u:=fun j u hu=>by
   have hlt:=(List.getElem?_eq_some_iff.1 hu).1
   rw [Addr.add_mid,cell_of_row w g (o+j) cur e (0,0) hq.at_,← hoget j (by omega)]
   exact hu
  have hslpos:0<sl.length:=List.length_pos_iff.2 hsl
  have hrun:=run_append_grow (P:=P) w t ty e i z ht hi hz ⟨g,o,none⟩ dl.length cap olds hol holds ⟨g2,o2,none⟩ sl.length cap2 cs hcs hnews (by omega) (by omega) (growslice_fits (by omega) hbytes)
  have hge:=grownCap_ge w (dl.length+sl.length) cap e
  have hcm:grownCap w (dl.length+sl.length) cap e≤maxLen:=grownCap_le_maxLen w (dl.length+sl.length) cap e h63
  have hkeep:∀ k,S k→(w.drew.alloc (.cells (olds.toArray++cs.toArray++Builtin.zeroCells z.cells (grownCap w (dl.length+sl.length) cap e-(dl.length+sl.length))) e)).heap[k]?=w.heap[k]?:=fun k hk=>heap_alloc_old w.drew _ (hS k hk).1
  have hrun2:(Builtin.append_ #[t,t] ty #[.slice (some ⟨g,o,none⟩) dl.length cap,.slice (some ⟨g2,o2,none⟩) sl.length cap2]).run P w=.ok (.slice (some ⟨w.heap.size,0,none⟩) (dl++sl).length (grownCap w (dl.length+sl.length) cap e))
    (w.drew.alloc (.cells (olds.toArray++cs.toArray++Builtin.zeroCells z.cells (grownCap w (dl.length+sl.length) cap e-(dl.length+sl.length))) e)):=by rw [List.length_append];exact hrun
  refine ⟨_,w.heap.size,0,_,_,hrun2,⟨heap_alloc_new w.drew _,by rw [List.length_append];exact hge,hcm,?_,hsize,hones,fun j c a hj ha=>?_⟩,⟨rfl,rfl,rfl,by simp,fun k hk _=>heap_alloc_old w.drew _ hk⟩,.inr (Nat.le_refl _)⟩
  ·simp only [Array.size_append,List.size_toArray,size_zeroCells,hzs,hol,hcs,← Nat.add_mul,Nat.zero_add]
   refine Nat.le_of_eq ?_
   congr 1
   omega
  ·rw [Nat.zero_add] at hj
   have hj':(olds++cs++(Builtin.zeroCells z.cells (grownCap w (dl.length+sl.length) cap e-(dl.length+sl.length))).toList)[j]?=some c:=by
    rw [← hj,← Array.getElem?_toList]
    simp
   rw [flat_append] at ha
   have hjb:j<(flat dl).length+(flat sl).length:=by
    have:=(List.getElem?_eq_some_iff.1 ha).1
    rwa [List.length_append] at this
   rw [List.append_assoc] at hj'
   by_cases hlt:j<(flat dl).length
   ·rw [List.getElem?_append_left hlt] at ha
    rw [List.getElem?_append_left (by omega),hoget j (by omega)] at hj'
    exact (hq.rel j c a hj' ha).mono (fun _ h=>h) hkeep
   ·rw [List.getElem?_append_right (by omega)] at ha
    rw [List.getElem?_append_right (by omega),List.getElem?_append_left (by omega)] at hj'
    refine (hr (j-(flat dl).length) c a ?_ ha).mono (fun _ h=>h) hkeep
    rw [hlen,← hj',hol]
def queOf (H:Heap) (x:AV):Option Nat :=
 match x with
 | .own id=>match lkH H id with
  | .que ..=>some id
  | _=>none
 | _=>none
theorem queOf_own {H:Heap} {x:AV} {id:Nat} (h:queOf H x=some id):x=.own id:=by
 unfold queOf at h
 split at h
 ·split at h
  ·cases h;rfl
  ·cases h
 ·cases h
def evAppendQ (T:Tab) (H:Heap) (nx:Nat) (t:TypeId) (id:Nat) (x:AV) (k:Res→Prop):Prop :=
 match lkT T t with
 | some ⟨.slice e,_,_,_⟩=>match lkT T e with
  | none=>False
  | some ie=>match Nat.ble 1 ie.size&&Nat.ble 1 ie.bytes&&Nat.beq (cellsN ie.zero) ie.size with
   | false=>False
   | true=>srcView H ie.size x fun sx touch=>match sx with
    | .lst [v]=>match notIn id touch with
     | false=>False
     | true=>match lkH H id with
      | .que e' E' enc d xs=>(e'=e∧E'=ie.size)∧(xs.length+1)*ie.bytes≤140737488355328∧∃ y,enc y=v∧k ⟨.own nx,id::touch,[(nx,.que e ie.size enc d (xs++[y])),(id,.dead)],nx+1⟩
      | _=>False
    | _=>False
 | _=>False
theorem evAppendQ_sound [Tabs] {P:Program} {T:Tab} (hT:TabOk P T) {rd:Operand→AV} {H:Heap} {nx id:Nat} {t:TypeId} {s x:Operand} {o:Oper}
  (ho:o.op=.call { callee:=.builtin .append,args:=#[s,x],argTypes:=#[t,t] }) (hs:rd s=.own id) {k:Res→Prop}
  (h:evAppendQ T H nx t id (rd x) k):∃ r,OpSem P o [(s,true,rd s),(x,true,rd x)] H nx r∧nx≤r.nx∧k r:=by
 unfold evAppendQ at h
 split at h
 ·rename_i e sz b z hi
  obtain ⟨hu,_⟩:=hT t _ hi
  simp only at hu
  split at h
  ·exact h.elim
  ·rename_i ie hie
   obtain ⟨_,j,hj,hsz,hby,hz⟩:=hT e _ hie
   split at h
   ·exact h.elim
   ·rename_i hc
    simp only [Bool.and_eq_true] at hc
    obtain ⟨⟨c1,c2⟩,c3⟩:=hc
    have hbpos:1≤ie.bytes:=Nat.le_of_ble_eq_true c2
    have hzs:ie.zero.cells.size=ie.size:=Nat.eq_of_beq_eq_true c3
    obtain ⟨sx,touch,hsrc,h⟩:=srcView_sound h
    split at h
    ·rename_i v
     split at h
     ·exact h.elim
     ·split at h
      ·rename_i T' e' E' enc d xs hid
       obtain ⟨⟨rfl,rfl⟩,hb,y,hy,hk⟩:=h
       refine ⟨_,?_,Nat.le_succ _,hk⟩
       intro m S w a H₂ K Q hG ht hfree hus hK
       have hs':RelV m S w (a.eval s) (rd s):=hus (s,true,rd s) (by simp) rfl
       have hx':RelV m S w (a.eval x) (rd x):=hus (x,true,rd x) (by simp) rfl
       rw [hs] at hs'
       have hid2:=ht id (by simp)
       have hbl:=hG.rel id
       rw [hid2,hid] at hbl
       obtain ⟨g,off,cap,cur,hmi,hq⟩:=hbl
       have hv:a.eval s=.slice (some ⟨g,off,none⟩) (xs.map enc).length cap:=by
        generalize a.eval s=v at hs'
        cases hs' with
        | t _ _ h=>cases h
        | own id n cap a hm=>rw [hmi] at hm;cases hm;rw [List.length_map]
       have hlive:(lkH H₂ id).live=true:=by rw [hid2,hid];rfl
       have hb':((xs.map enc).length+[v].length)*j.bytes≤140737488355328:=by rw [List.length_map,hby];exact hb
       rw [← hsz] at hq hzs
       have hxs:=hsrc m S w H₂ _ hG (fun i hi=>ht i (by simp [hi])) hx'
       rw [← hsz] at hxs
       obtain ⟨w',g',o',cap',cur',hrun,hq',hgr,hgg⟩:=append_que_run (P:=P) (ty:=o.type) hu hj hz hzs hq (sl:=[v]) hxs (by simp) (fun k hk=>⟨(hG.ro k hk).1,fun e=>(hG.ro k hk).2 id _ hlive hmi (by rw [e];rfl)⟩) hb' (maxLen_ge (by
        have:((xs.map enc).length+[v].length)*1≤((xs.map enc).length+[v].length)*j.bytes:=Nat.mul_le_mul_left _ (by omega)
        omega))
       have hexec:(execOp a.eval o).run P w=.ok (.value (.slice (some ⟨g',o',none⟩) (xs.map enc++[v]).length cap')) w':=by
        unfold execOp
        simp only [List.length_append] at hrun ⊢
        rw [← hv] at hrun
        simp [ho,resolve,invoke,builtin,hrun]
       unfold Oper.wp
       rw [hexec]
       have hn0:m nx=none:=hfree nx (Nat.le_refl _) (Nat.lt_succ_self _)
       refine hK _ _ S w' (ext_move hG hlive hmi hn0 (.slice (some ⟨g',o',none⟩) (xs.map enc++[v]).length cap') _ w' hgr.os hgr.tape hgr.output hgr.size (fun k hk hne=>hgr.block k hk (fun e=>hne (by cases e;rfl))) (fun k hk=>?_) ?_) (.own nx _ cap' _ (by simp))
       ·simp only [blk,Option.some.injEq] at hk
        subst hk
        rcases hgg with e | e
        ·exact .inl (by rw [e];rfl)
        ·exact .inr e
       ·have e2:xs.map enc++[v]=(xs++[y]).map enc:=by rw [List.map_append,List.map_cons,List.map_nil,hy]
        rw [e2,hsz] at hq'
        exact ⟨g',o',cap',cur',by simp,hq'⟩
      ·exact h.elim
    ·exact h.elim
 ·exact h.elim
def evSliceQ (T:Tab) (H:Heap) (nx:Nat) (t:TypeId) (id:Nat) (lo hi:Option AV) (k:Res→Prop):Prop :=
 match lkT T t with
 | some ⟨.slice e,_,_,_⟩=>match lkT T e with
  | none=>False
  | some ie=>match lkH H id with
   | .que e' E enc d xs=>match lo,hi with
    | some (.int _ l),none=>E=ie.size∧(0≤l∧l≤xs.length)∧k ⟨.own nx,[id],[(nx,.que e' E enc d (xs.drop l.toNat)),(id,.dead)],nx+1⟩
    | _,_=>False
   | _=>False
 | _=>False
theorem QueRel.drop {S:Blocks} {w:World} {e E:Nat} {l:List AV} {g o cap:Nat} {cur:Array Value} (h:QueRel S w e E l g o cap cur) {n:Nat} (hn:n≤l.length) :
  QueRel S w e E (l.drop n) g (if cap=n then o else o+n*E) (cap-n) cur:=by
 have hr:=h.room
 have hl:=h.len
 have hsub:n*E+(cap-n)*E=cap*E:=by rw [← Nat.add_mul];congr 1;omega
 refine ⟨h.at_,by rw [List.length_drop];omega,Nat.le_trans (Nat.sub_le _ _) h.max,?_,fun x hx=>h.size x (List.mem_of_mem_drop hx),fun a ha=>?_,fun j c a hj ha=>?_⟩
 ·split
  ·rename_i e
   subst e
   rw [Nat.sub_self,Nat.zero_mul]
   omega
  ·omega
 ·rw [flat_drop _ _ h.size] at ha
  exact h.ones a (List.mem_of_mem_drop ha)
 ·rw [flat_drop _ _ h.size] at ha
  rw [List.getElem?_drop] at ha
  split at hj
  ·rename_i e
   subst e
   have:=(List.getElem?_eq_some_iff.1 ha).1
   rw [flat_length l h.size] at this
   have:l.length*E≤cap*E:=Nat.mul_le_mul_right _ hl
   omega
  ·exact h.rel (n*E+j) c a (by rw [← Nat.add_assoc];exact hj) ha
theorem evSliceQ_sound [Tabs] {P:Program} {T:Tab} (hT:TabOk P T) {rd:Operand→AV} {H:Heap} {nx id:Nat} {t:TypeId} {x:Operand} {lo hi:Option Operand} {o:Oper} (ho:o.op=.slice t x lo hi none) (hx0:rd x=.own id) {k:Res→Prop}
  (h:evSliceQ T H nx t id (lo.map rd) (hi.map rd) k):∃ r,OpSem P o (optUses rd x lo hi) H nx r∧nx≤r.nx∧k r:=by
 unfold evSliceQ at h
 split at h
 ·rename_i e sz b z hi'
  obtain ⟨hu,_⟩:=hT t _ hi'
  simp only at hu
  split at h
  ·exact h.elim
  ·rename_i ie hie
   obtain ⟨_,j,hj,hs,_⟩:=hT e _ hie
   split at h
   ·rename_i T' e' E enc d xs hid
    split at h
    ·rename_i lo' hi'' kk l hlo hhi
     obtain ⟨hE,⟨h0,h1⟩,hk⟩:=h
     refine ⟨_,?_,Nat.le_succ _,hk⟩
     intro m S w a H₂ K Q hG ht hfree hus hK
     cases lo with
     | none=>cases hlo
     | some lo =>
     cases hi with
     | some hi=>cases hhi
     | none =>
     simp only [Option.map_some,Option.some.injEq] at hlo
     have hx:RelV m S w (a.eval x) (rd x):=hus (x,true,rd x) (by simp [optUses]) rfl
     have hl:RelV m S w (a.eval lo) (rd lo):=hus (lo,true,rd lo) (by simp [optUses]) rfl
     rw [hx0] at hx
     rw [hlo] at hl
     have hlv:=relV_int hl
     have hid2:=ht id (by simp)
     have hbl:=hG.rel id
     rw [hid2,hid] at hbl
     obtain ⟨g,off,cap,cur,hmi,hq⟩:=hbl
     have hv:a.eval x=.slice (some ⟨g,off,none⟩) xs.length cap:=by
      generalize a.eval x=v at hx
      cases hx with
      | t _ _ h=>cases h
      | own id n cap a hm=>rw [hmi] at hm;cases hm;rfl
     have hlive:(lkH H₂ id).live=true:=by rw [hid2,hid];rfl
     have hql:=hq.len
     rw [List.length_map] at hql
     have hbnd:=run_sliceBounds (P:=P) (w:=w) true xs.length cap (some (.int kk l)) none l xs.length (.inr ⟨kk,rfl⟩) (.inl ⟨rfl,rfl⟩) h0 h1 (Int.le_refl _) hql
     have hexec:(execOp a.eval o).run P w=.ok (.value (.slice (some (if cap=l.toNat then ⟨g,off,none⟩ else ⟨g,off+l.toNat*ie.size,none⟩)) (xs.length-l.toNat) (cap-l.toNat))) w:=by
      unfold execOp
      simp [ho,hv,hlv,Instr.sliceAt,run_underlying hu,Instr.slice,hbnd,sizeOf,typeInfo,hj,hs,Addr.add_mid]
      split<;>rfl
     unfold Oper.wp
     rw [hexec]
     have hn0:m nx=none:=hfree nx (Nat.le_refl _) (Nat.lt_succ_self _)
     have hadr:(if cap=l.toNat then (⟨g,off,none⟩:Addr) else ⟨g,off+l.toNat*ie.size,none⟩)=⟨g,if cap=l.toNat then off else off+l.toNat*ie.size,none⟩:=by split<;>rfl
     rw [hadr]
     refine hK _ _ S w (ext_move hG hlive hmi hn0 (.slice (some ⟨g,if cap=l.toNat then off else off+l.toNat*ie.size,none⟩) (xs.length-l.toNat) (cap-l.toNat)) _ w rfl rfl rfl (Nat.le_refl _) (fun k hk _=>rfl) (fun k hk=>.inl hk) ?_) (.own nx _ _ _ (by simp))
     refine ⟨g,_,_,cur,by simp;exact ⟨rfl,rfl⟩,?_⟩
     rw [List.map_drop,hE]
     rw [hE] at hq
     exact hq.drop (by rw [List.length_map];omega)
    ·exact h.elim
   ·exact h.elim
 ·exact h.elim
def evIndexAddrQ (T:Tab) (g:Option Bool) (H:Heap) (nx:Nat) (t:TypeId) (id:Nat) (i:AV) (k:Res→Prop):Prop :=
 match lkT T t with
 | some ⟨.slice e,_,_,_⟩=>match lkT T e with
  | none=>False
  | some ie=>match i with
   | .int _ n=>match lkH H id with
    | .que _ _ _ _ xs=>ob g (0≤n∧n<xs.length) (k ⟨.qptr id ie.size n.toNat,[id],[],nx⟩)
    | _=>False
   | _=>False
 | _=>False
theorem evIndexAddrQ_sound [Tabs] {P:Program} {T:Tab} (hT:TabOk P T) {g:Option Bool} {rd:Operand→AV} {H:Heap} {nx id:Nat} {t:TypeId} {x i:Operand} {o:Oper} (ho:o.op=.indexAddr t x i) (hx0:rd x=.own id) {k:Res→Prop}
  (h:evIndexAddrQ T g H nx t id (rd i) k):∃ r,(gOk g→OpSemP P o [(x,true,rd x),(i,true,rd i)] H nx r)∧(r.wr=[]∧r.nx=nx)∧k r:=by
 unfold evIndexAddrQ at h
 split at h
 ·rename_i e s b z hi
  obtain ⟨hu,_⟩:=hT t _ hi
  simp only at hu
  split at h
  ·exact h.elim
  ·rename_i ie hie
   obtain ⟨_,j,hj,hs,_⟩:=hT e _ hie
   split at h
   ·rename_i kk n hn
    split at h
    ·rename_i T' e' E enc d xs hid
     obtain ⟨hb,hk⟩:=ob_iff.1 h
     refine ⟨_,fun hg=>opsem_pure fun m S w a H₂ hG ht hus=>?_,⟨rfl,rfl⟩,hk⟩
     have hx:RelV m S w (a.eval x) (rd x):=hus (x,true,rd x) (by simp) rfl
     have hi':RelV m S w (a.eval i) (rd i):=hus (i,true,rd i) (by simp) rfl
     rw [hn] at hi'
     rw [hx0] at hx
     obtain ⟨h0,h1⟩:=hb hg
     have hbl:=hG.rel id
     rw [ht id (by simp),hid] at hbl
     obtain ⟨g',off,cap,cur,hmi,hq⟩:=hbl
     have hv:a.eval x=.slice (some ⟨g',off,none⟩) xs.length cap:=by
      generalize a.eval x=v at hx
      cases hx with
      | t _ _ h=>cases h
      | own id n cap a hm=>rw [hmi] at hm;cases hm;rfl
     refine ⟨_,fun w' _=>?_,.qptr id ie.size n.toNat g' off _ cap hmi⟩
     have:=run_indexAt_sl (P:=P) hu hj w' g' off xs.length cap kk n h0 h1
     unfold execOp
     simp only [ho,hv,relV_int hi',Sem.run_bind,this,Result.andThen_ok,hs]
     rfl
    ·exact h.elim
   ·exact h.elim
 ·exact h.elim
def evLenQ (T:Tab) (H:Heap) (nx:Nat) (t:TypeId) (id:Nat) (k:Res→Prop):Prop :=
 match lkT T t with
 | some ⟨.slice _,_,_,_⟩=>match lkH H id with
  | .que _ _ _ _ xs=>k ⟨.int .i64 xs.length,[id],[],nx⟩
  | _=>False
 | _=>False
theorem evLenQ_sound [Tabs] {P:Program} {T:Tab} (hT:TabOk P T) {rd:Operand→AV} {H:Heap} {nx id:Nat} {t:TypeId} {x:Operand} {o:Oper}
  (ho:o.op=.call { callee:=.builtin .len,args:=#[x],argTypes:=#[t] }) (hx0:rd x=.own id) {k:Res→Prop}
  (h:evLenQ T H nx t id k):∃ r,OpSemP P o [(x,true,rd x)] H nx r∧(r.wr=[]∧r.nx=nx)∧k r:=by
 unfold evLenQ at h
 split at h
 ·rename_i hi
  obtain ⟨hu,_⟩:=hT t _ hi
  simp only at hu
  split at h
  ·rename_i T' e' E enc d xs hid
   refine ⟨_,opsem_pure fun m S w a H₂ hG ht hus=>?_,⟨rfl,rfl⟩,h⟩
   have hx:RelV m S w (a.eval x) (rd x):=hus _ (List.mem_singleton.2 rfl) rfl
   rw [hx0] at hx
   have hbl:=hG.rel id
   rw [ht id (by simp),hid] at hbl
   obtain ⟨g',off,cap,cur,hmi,hq⟩:=hbl
   have hv:a.eval x=.slice (some ⟨g',off,none⟩) xs.length cap:=by
    generalize a.eval x=v at hx
    cases hx with
    | t _ _ h=>cases h
    | own id n cap a hm=>rw [hmi] at hm;cases hm;rfl
   refine ⟨goInt xs.length,fun w' _=>?_,.t _ _ (.int .i64 _)⟩
   have:=run_len_sl (P:=P) (t:=t) (ty:=o.type) hu (v:=.slice (some ⟨g',off,none⟩) xs.length cap) (n:=xs.length) (.mk ..) w'
   unfold execOp
   simp [ho,resolve,invoke,builtin,hv,this]
  ·exact h.elim
 ·exact h.elim
def LeT (a b:AV):Prop:=∀ (S:Blocks) (w:World) (v:Value),RelT S w v a→RelT S w v b
theorem opsem_freeze2 [Tabs] {P:Program} {o:Oper} {l:List Operand} {rd:Operand→AV} {H:Heap} {nx:Nat} {r:Res} {ids:List Nat} (hids:∀ x∈l,∀ id∈frzI (rd x),id∈ids)
  (h:OpSem P o (l.map fun x=>(x,true,frzV H (rd x))) H nx r) (ht0:∀ id∈r.touch,id∉ids):OpSem P o (l.map fun x=>(x,true,rd x)) H nx ⟨r.v,r.touch++ids,r.wr++ids.map (fun i=>(i,AB.dead)),r.nx⟩:=by
 intro m S w a H₂ K Q hG ht hfree hus hK
 refine h m (fun g=>S g∨lent m H₂ ids g) w a (ids.map (fun i=>(i,AB.dead))++H₂) K Q (good_freeze hG ids) (fun id hid=>?_) hfree (fun u hu _=>?_) (fun v m' S' w' hE hV=>?_)
 ·rw [lkH_dead,if_neg (ht0 id hid)]
  exact ht id (List.mem_append.2 (.inl hid))
 ·obtain ⟨x,hx,rfl⟩:=List.mem_map.1 hu
  exact frzV_rel hG (fun id hi=>ht id (List.mem_append.2 (.inr (hids x hx id hi)))) (fun _ h=>.inl h) (fun g ⟨i,v,hi,h1,h2,h3⟩=>.inr ⟨i,v,hids x hx i hi,h1,h2,h3⟩) (hus (x,true,rd x) (List.mem_map.2 ⟨x,hx,rfl⟩) rfl)
 ·have hown:∀ g,own m (ids.map (fun i=>(i,AB.dead))++H₂) g→own m H₂ g:=by
   rintro g ⟨i,v,hl,hm,hb⟩
   rw [lkH_dead] at hl
   by_cases e:i∈ids
   ·rw [if_pos e] at hl;cases hl
   ·rw [if_neg e] at hl;exact ⟨i,v,hl,hm,hb⟩
  refine hK v m' S' w' ⟨hE.ids,hE.same,fun g hg=>hE.ros g (.inl hg),fun g hg=>?_,⟨hE.far.os,hE.far.tape,hE.far.output,hE.far.size,fun k hk hn=>hE.far.block k hk fun ho=>hn (hown k ho)⟩,fun k hk=>?_,by rw [List.append_assoc];exact hE.good⟩ hV
  ·rcases hE.fresh g hg with (h | ⟨i,v,hi,h1,h2,h3⟩) | h | h
   ·exact .inl h
   ·exact .inr (.inl ⟨i,v,h1,h2,h3⟩)
   ·exact .inr (.inl (hown g h))
   ·exact .inr (.inr h)
  ·rcases hE.owns k (by rw [← List.append_assoc];exact hk) with h | h
   ·exact .inl (hown k h)
   ·exact .inr h
def notIns:List Nat→List Nat→Bool
 | [],_=>true
 | i::l,ids=>match notIn i ids with
  | true=>notIns l ids
  | false=>false
theorem notIns_spec {ids:List Nat}:∀ {l:List Nat},notIns l ids=true→∀ i∈l,i∉ids
 | [],_,i,h=>by simp at h
 | j::l,h,i,hi=>by
  unfold notIns at h
  split at h
  ·rename_i hb
   rcases List.mem_cons.1 hi with rfl | hi
   ·intro hm;exact notIn_spec hb _ hm rfl
   ·exact notIns_spec h i hi
  ·cases h
def evStoreF (T:Tab) (H:Heap) (nx:Nat) (t:TypeId) (p v:AV) (k:Res→Prop):Prop :=
 match p with
 | .eptr id E i (q+1)=>match v with
  | .nils=>∃ v',LeT .nils v'∧evStore T H nx t (.eptr id E i (q+1)) v' k
  | _=>match frzI v with
   | []=>evStore T H nx t p v k
   | i::is=>evStore T H nx t p (frzV H v) fun r=>match notIns r.touch (i::is) with
    | true=>k ⟨r.v,r.touch++(i::is),r.wr++(i::is).map (fun i=>(i,AB.dead)),r.nx⟩
    | false=>False
 | .eptr ..=>match frzI v with
  | []=>evStore T H nx t p v k
  | i::is=>evStore T H nx t p (frzV H v) fun r=>match notIns r.touch (i::is) with
   | true=>k ⟨r.v,r.touch++(i::is),r.wr++(i::is).map (fun i=>(i,AB.dead)),r.nx⟩
   | false=>False
 | _=>evStore T H nx t p v k
theorem evStoreF_sound [Tabs] {P:Program} {T:Tab} (hT:TabOk P T) {rd:Operand→AV} {H:Heap} {nx:Nat} {t:TypeId} {x y:Operand} {o:Oper} (ho:o.op=.store t x y) {k:Res→Prop}
  (h:evStoreF T H nx t (rd x) (rd y) k):∃ r,OpSem P o [(x,true,rd x),(y,true,rd y)] H nx r∧nx≤r.nx∧k r:=by
 have frz:∀ (a b c d:Nat),rd x=.eptr a b c d→(match frzI (rd y) with
   | []=>evStore T H nx t (rd x) (rd y) k
   | i::is=>evStore T H nx t (rd x) (frzV H (rd y)) fun r=>match notIns r.touch (i::is) with
    | true=>k ⟨r.v,r.touch++(i::is),r.wr++(i::is).map (fun i=>(i,AB.dead)),r.nx⟩
    | false=>False)→∃ r,OpSem P o [(x,true,rd x),(y,true,rd y)] H nx r∧nx≤r.nx∧k r:=by
  intro a b c d hp h
  split at h
  ·exact evStore_sound hT ho h
  ·rename_i i is hids
   have hp2:frzV H (rd x)=rd x:=by rw [hp];rfl
   obtain ⟨r,h1,h2,h3⟩:=evStore_sound (rd:=fun z=>frzV H (rd z)) hT ho (k:=fun r=>match notIns r.touch (i::is) with
    | true=>k ⟨r.v,r.touch++(i::is),r.wr++(i::is).map (fun i=>(i,AB.dead)),r.nx⟩
    | false=>False) (by rw [hp2];exact h)
   split at h3
   ·rename_i ht
    refine ⟨_,?_,?_,h3⟩
    ·exact opsem_freeze2 (P:=P) (o:=o) (l:=[x,y]) (rd:=rd) (H:=H) (nx:=nx) (r:=r) (ids:=i::is) (fun z hz id hid=>by
      simp only [List.mem_cons,List.not_mem_nil,or_false] at hz
      rcases hz with rfl | rfl
      ·rw [hp] at hid;simp [frzI,frz0I] at hid
      ·rw [← hids];exact hid) h1 (notIns_spec ht)
    ·exact h2
   ·exact h3.elim
 unfold evStoreF at h
 split at h
 ·rename_i a b c d hp
  split at h
  ·rename_i hy
   haveI:∀ z:Operand,Decidable (z=y):=fun _=>Classical.propDecidable _
   obtain ⟨v',hle,h⟩:=h
   obtain ⟨r,h1,h2,h3⟩:=evStore_sound (rd:=fun z=>if z=y then v' else rd z) hT ho (k:=k) (by
    by_cases e:x=y
    ·rw [← e,hp] at hy
     cases hy
    ·simp only [if_neg e,if_true]
     rw [hp]
     exact h)
   have hxy:x≠y:=fun e=>by rw [← e,hp] at hy;cases hy
   refine ⟨r,?_,h2,h3⟩
   intro m S w a₀ H₂ K Q hG ht hf hus hK
   refine h1 m S w a₀ H₂ K Q hG ht hf (fun u hu hu2=>?_) hK
   simp only [List.mem_cons,List.not_mem_nil,or_false,if_neg hxy,if_true] at hu
   rcases hu with rfl | rfl
   ·exact hus _ (by simp) rfl
   ·have:=hus (y,true,rd y) (by simp) rfl
    simp only [hy] at this
    exact .t _ _ (hle _ _ _ (this.toT rfl))
  ·exact frz a b c (d+1) hp h
 ·rename_i a b c d _ hp
  exact frz a b c d hp h
 ·exact evStore_sound hT ho h
structure St:Type 1 where
 env:Env
 heap:Heap
 nx:Nat
structure Lay where
 tmp:Nat
 pol:Bool
 g:Bool
abbrev Loc:=List (Nat×Nat×AV)
def look:Loc→Env→Nat→Nat×AV
 | [],env,s=>(0,lk env s)
 | (i,d,v)::r,env,s=>match Nat.beq i s with
  | true=>(d,v)
  | false=>look r env s
def kill (d:Nat):Loc→Loc
 | []=>[]
 | (i,e,v)::r=>match Nat.ble e d with
  | true=>(i,e,v)::kill d r
  | false=>(i,0,.undef)::kill d r
def topG:List Lay→Option Bool
 | []=>none
 | ⟨_,_,g⟩::_=>some g
def forceL0:List AV→(List AV→Prop)→Prop
 | [],k=>k []
 | a::l,k=>forceL0 l fun l=>k (a::l)
theorem forceL0_iff:∀ {l:List AV} {k:List AV→Prop},forceL0 l k↔k l
 | [],k=>Iff.rfl
 | a::l,k=>by simp only [forceL0,forceL0_iff]
def forceAV (v:AV) (k:AV→Prop):Prop :=
 match v with
 | .undef=>k .undef
 | .bool b=>k (.bool b)
 | .int i n=>k (.int i n)
 | .str l=>k (.str l)
 | .agg l=>k (.agg l)
 | .tup l=>k (.tup l)
 | .nilp=>k .nilp
 | .rop l=>k (.rop l)
 | .nils=>k .nils
 | .lsl E l=>k (.lsl E l)
 | .sl E enc d xs=>k (.sl E enc d xs)
 | .nilm=>k .nilm
 | .rsmap ev dv es=>k (.rsmap ev dv es)
 | .rimap i ev dv es=>k (.rimap i ev dv es)
 | .rgmap i ev dv es=>k (.rgmap i ev dv es)
 | .nilf=>k .nilf
 | .fn f a b=>k (.fn f a b)
 | .ptr id off=>k (.ptr id off)
 | .eptr id E i off=>k (.eptr id E i off)
 | .own id=>k (.own id)
 | .pre id n=>k (.pre id n)
 | .part id E off n=>k (.part id E off n)
 | .map id=>k (.map id)
 | .skip=>k .skip
 | .iarr q n f=>k (.iarr q n f)
 | .qptr id E i=>k (.qptr id E i)
 | .any1=>k .any1
 | .ifc b=>k (.ifc b)
 | .csl id n=>k (.csl id n)
 | .ival t l=>forceL0 l fun l=>k (.ival t l)
theorem forceAV_iff {v:AV} {k:AV→Prop}:forceAV v k↔k v:=by cases v<;>simp [forceAV,forceL0_iff]
def forceL:List AV→(List AV→Prop)→Prop
 | [],k=>k []
 | a::l,k=>forceAV a fun a=>forceL l fun l=>k (a::l)
theorem forceL_iff:∀ {l:List AV} {k:List AV→Prop},forceL l k↔k l
 | [],k=>Iff.rfl
 | a::l,k=>by simp only [forceL,forceAV_iff,forceL_iff]
def forceAB (b:AB) (k:AB→Prop):Prop :=
 match b with
 | .dead=>k .dead
 | .cells e l=>forceL l fun l=>k (.cells e l)
 | .lst e E l=>k (.lst e E l)
 | .row e E enc d xs=>k (.row e E enc d xs)
 | .smap ev dv es=>k (.smap ev dv es)
 | .imap i ev dv es=>k (.imap i ev dv es)
 | .gmap i ev dv es=>k (.gmap i ev dv es)
 | .arr e q n f=>k (.arr e q n f)
 | .que e E enc d xs=>k (.que e E enc d xs)
theorem forceAB_iff {b:AB} {k:AB→Prop}:forceAB b k↔k b:=by cases b<;>simp [forceAB,forceL_iff]
def forceLoc:Loc→(Loc→Prop)→Prop
 | [],k=>k []
 | (i,d,v)::l,k=>forceLoc l fun l=>k ((i,d,v)::l)
theorem forceLoc_iff:∀ {l:Loc} {k:Loc→Prop},forceLoc l k↔k l
 | [],k=>Iff.rfl
 | (i,d,v)::l,k=>by simp only [forceLoc,forceLoc_iff]
def forceStk:List Lay→(List Lay→Prop)→Prop
 | [],k=>k []
 | ⟨t,p,g⟩::l,k=>forceStk l fun l=>k (⟨t,p,g⟩::l)
theorem forceStk_iff:∀ {l:List Lay} {k:List Lay→Prop},forceStk l k↔k l
 | [],k=>Iff.rfl
 | ⟨t,p,g⟩::l,k=>by simp only [forceStk,forceStk_iff]
def lenK:List Lay→Nat→(Nat→Prop)→Prop
 | [],n,k=>k n
 | _::l,n,k=>lenK l (n+1) k
theorem lenK_iff:∀ {l:List Lay} {n:Nat} {k:Nat→Prop},lenK l n k↔k (n+l.length)
 | [],n,k=>Iff.rfl
 | _::l,n,k=>by rw [lenK,lenK_iff,List.length_cons];rw [show n+1+l.length=n+(l.length+1) by omega]
def pushK:List (Nat×AB)→Heap→(Heap→Prop)→Prop
 | [],H,k=>k H
 | (i,b)::r,H,k=>forceAB b fun b=>pushK r H fun H=>k ((i,b)::H)
theorem pushK_iff:∀ {wr:List (Nat×AB)} {H:Heap} {k:Heap→Prop},pushK wr H k↔k (wr++H)
 | [],H,k=>Iff.rfl
 | (i,b)::r,H,k=>by simp only [pushK,forceAB_iff,pushK_iff];rfl
def popTo (d:Nat):List Lay→List Lay
 | []=>[]
 | l::r=>match Nat.ble (r.length+1) d with
  | true=>l::r
  | false=>popTo d r
def boolEq:Bool→Bool→Bool
 | true,true=>true
 | false,false=>true
 | _,_=>false
def findLay (t:Nat) (pol:Bool):List Lay→Option (List Lay)
 | []=>none
 | l::r=>match Nat.beq l.tmp t&&boolEq l.pol pol with
  | true=>some (l::r)
  | false=>findLay t pol r
def polB:Bool→Bool→Bool
 | true,b=>b
 | false,b=>!b
def andG:List Lay→Bool→Bool
 | [],b=>b
 | ⟨_,_,g⟩::_,b=>g&&b
def enter (all:List Oper) (gd:Option (Nat×Bool)) (loc:Loc) (env:Env) (stk:List Lay) (k:List Lay→Loc→Prop):Prop :=
 match gd with
 | none=>match stk with
  | []=>k [] loc
  | _::_=>forceLoc (kill 0 loc) fun loc=>k [] loc
 | some (j,pol)=>match all[j]? with
  | none=>False
  | some oj=>match oj.dst with
   | none=>False
   | some t=>match findLay t pol stk with
    | some s=>match Nat.beq s.length stk.length with
     | true=>k s loc
     | false=>forceLoc (kill s.length loc) fun loc=>k s loc
    | none=>match look loc env t with
     | (d,.bool b)=>forceStk (popTo d stk) fun p=>match Nat.beq p.length stk.length with
      | true=>k (⟨t,pol,andG p (polB pol b)⟩::p) loc
      | false=>forceLoc (kill p.length loc) fun loc=>k (⟨t,pol,andG p (polB pol b)⟩::p) loc
     | _=>False
structure Cx where
 P:Program
 T:Tab
 N:Nat
 keep:List Nat
 pn:Nat
 wr:Bool
 px:List PanicEntry→Prop
def rdOp (loc:Loc) (env:Env):Operand→AV
 | .tmp s=>(look loc env s).2
 | .const v=>avOf v
 | .global _=>.undef
 | .func f=>.fn (.func f) [] []
theorem gOk_getD {g:Option Bool} (h:g.getD true=true):gOk g:=by
 cases g with
 | none=>trivial
 | some b=>exact h
inductive CallG [Tabs] (P:Program) (px:List PanicEntry→Prop) (f:FuncId) (avs:List AV) (H:Heap) (nx:Nat) (g:Option Bool) (det:Bool) (k:Res→Prop):Prop
 | any (args':List AV) (touch:List Nat) (R:List AR→Prop) (hd:g.getD true=true∧det=false) (hc:APure P f args' R) (hb:BorL (Lend H) avs args' touch) (hflat:touch=[]∨∀ rs,R rs→∀ r∈rs,r.flat)
   (hk:∀ rs,R rs→takeR rs nx [] [] fun vs wr n=>k ⟨valR vs,touch,wr,n⟩)
 | one (args':List AV) (touch:List Nat) (rs:List AR) (hc:gOk g→APure P f args' (fun r=>r=rs)) (hb:BorL (Lend H) avs args' touch) (hflat:touch=[]∨∀ r∈rs,r.flat)
   (hg:g.getD true=true∨tw rs nx=[]) (hk:takeR rs nx [] [] fun vs wr n=>k ⟨valR vs,touch,wr,n⟩)
 | raw (touch:List Nat) (Rr:Res→Prop) (hd:g.getD true=true) (hdet:det=true→∃ r,(∀ r',Rr r'↔r'=r)∧r.touch=touch) (hc:CallSem P f avs H nx touch Rr) (hk:∀ r,Rr r→nx≤r.nx∧k r)
 | pan (touch:List Nat) (Rr:Res→Prop) (Px:List PanicEntry→Prop) (hd:g.getD true=true) (hdet:det=true→∃ r,(∀ r',Rr r'↔r'=r)∧r.touch=touch) (hc:CallSemX P f avs H nx touch Rr Px) (hp:∀ ch,Px ch→px ch) (hk:∀ r,Rr r→nx≤r.nx∧k r)
def un (g:Option Bool) (p:Prop):Prop :=
 match g with
 | none=>p
 | some _=>False
def evCall [Tabs] (C:Cx) (det:Bool) (g:Option Bool) (rd:Operand→AV) (H:Heap) (nx:Nat) (c:Call) (k:Res→Prop):Prop :=
 match c.callee with
 | .builtin .len=>match c.args.toList,c.argTypes.toList with
  | [x],[t]=>match queOf H (rd x) with
   | some id=>evLenQ C.T H nx t id k
   | none=>evLen C.T H nx t (rd x) k
  | _,_=>False
 | .builtin .append=>match c.args.toList,c.argTypes.toList with
  | [s,x],[t,t']=>match Nat.beq t t' with
   | true=>un g (match queOf H (rd s) with
    | some id=>evAppendQ C.T H nx t id (rd x) k
    | none=>evAppend C.T H nx t (rd s) (rd x) k)
   | false=>un g (evAppendS C.T H nx t t' (rd s) (rd x) k)
  | _,_=>False
 | .builtin .unsafeSliceData=>match c.args.toList,c.argTypes.toList with
  | [x],[_]=>un g (evSliceData H nx (rd x) k)
  | _,_=>False
 | .builtin .unsafeString=>match c.args.toList,c.argTypes.toList with
  | [x,y],[pt,_]=>un g (evUStr C.T H nx pt (rd x) (rd y) k)
  | _,_=>False
 | .builtin .min=>match c.args.toList with
  | [x,y]=>evMin false (rd x) (rd y) fun v=>k ⟨v,[],[],nx⟩
  | _=>False
 | .builtin .max=>match c.args.toList with
  | [x,y]=>evMin true (rd x) (rd y) fun v=>k ⟨v,[],[],nx⟩
  | _=>False
 | .value fop=>match rd fop with
  | .fn (.func f) first cap=>forceL (first++c.args.toList.map rd++cap) fun avs=>CallG C.P C.px f avs H nx g det k
  | _=>False
 | _=>False
def evBinO (C:Cx) (det:Bool) (g:Option Bool) (op:BinOp) (t:TypeId) (x y:AV) (c:AV→Prop):Prop :=
 match y with
 | .nils=>match det with
  | true=>evNilG C.T op t x c
  | false=>match g with
   | some _=>evNilG C.T op t x c
   | none=>match lkT C.T t with
    | some ⟨.slice _,_,_,_⟩=>match op with
     | .eql=>evNilS false x c
     | .neq=>evNilS true x c
     | _=>False
    | _=>False
 | _=>match C.wr with
  | false=>evBin2 C.P C.T g op t x y c
  | true=>evBinW C.P C.T g op t x y c
inductive LoadGl [Tabs] (T:Tab) (t:TypeId) (n:Nat) (k:AV→Prop):Prop
 | arr (i:TI) (l:List AV) (Qc:Array Value→Prop) (hi:lkT T t=some i) (ha:isAggD i.desc=true) (hs:i.size=l.length) (hh:Tabs.held n=some Qc)
   (hq:∀ cs,Qc cs→cs.size=l.length∧∀ (S:Blocks) (w:World) (j:Nat) (c:Value) (a:AV),cs[j]?=some c→l[j]?=some a→RelT S w c a) (hk:k (.agg l))
def evLoadX [Tabs] (C:Cx) (g:Option Bool) (rd:Operand→AV) (H:Heap) (nx:Nat) (t:TypeId) (x:Operand) (k:Res→Prop):Prop :=
 match x with
 | .global n=>LoadGl C.T t n fun v=>k ⟨v,[],[],nx⟩
 | x=>evLoad C.T g H nx t (rd x) k
theorem cell_of_any (w:World) (g j:Nat) (cs:Array Value) (e:TypeId) (fz:Nat×Nat) (h:w.heap[g]?=some (.cells cs e fz)):w.cell? ⟨g,j,none⟩=cs[j]?:=by
 simp [World.cell?,h]
theorem evLoadX_sound [Tabs] {C:Cx} (hT:TabOk C.P C.T) {g:Option Bool} {rd:Operand→AV} {H:Heap} {nx:Nat} {t:TypeId} {x:Operand} {o:Oper} (ho:o.op=.load t x) {k:Res→Prop}
  (h:evLoadX C g rd H nx t x k):∃ r,(gOk g→OpSemP C.P o [(x,true,rd x)] H nx r)∧(r.wr=[]∧r.nx=nx)∧k r:=by
 unfold evLoadX at h
 split at h
 ·rename_i n
  cases h with
  | arr i l Qc hi ha hs hh hq hk =>
   obtain ⟨hu,j,hj,hsz,_,_⟩:=hT t i hi
   refine ⟨_,fun _=>opsem_pure fun m S w a H₂ hG ht hus=>?_,⟨rfl,rfl⟩,hk⟩
   obtain ⟨hS,cs,e,fz,hg,hQ⟩:=hG.tab n Qc hh
   obtain ⟨hl,hrel⟩:=hq cs hQ
   refine ⟨.agg cs,fun w' hw'=>?_,.t _ _ (.agg cs l hl fun j c a=>hrel S w j c a)⟩
   unfold execOp
   have hev:a.eval (.global n)=.pointer (some ⟨n,0,none⟩):=rfl
   have:=run_loadVar_mid (P:=C.P) w' n 0 t cs.toList i.desc (fun j v hj=>by
    refine hw'.cell ?_
    rw [cell_of_any w n (0+j) cs e fz hg,Nat.zero_add]
    simpa using hj) hu (by rw [← isAggD_row];exact ha) (by rw [hj];simp [hsz,hl,hs])
   simp only [ho,hev,Instr.loadAt,Instr.sureAddr,Sem.run_bind,Sem.run_pure,Result.andThen_ok,this]
 ·exact evLoad_sound hT ho h
def evSkipG (g:Option Bool) (nx:Nat) (v:AV) (k:Res→Prop) (h:Prop):Prop :=
 match v with
 | .undef=>match g with
  | some false=>k ⟨.undef,[],[],nx⟩
  | _=>h
 | _=>h
theorem evSkipG_sound [Tabs] {P:Program} {g:Option Bool} {nx:Nat} {v:AV} {k:Res→Prop} {h:Prop} {o:Oper} {us:Uses} {H:Heap} (hs:h→∃ r,OpSemP P o us H nx r∧(r.wr=[]∧r.nx=nx)∧k r)
  (hh:evSkipG g nx v k h):∃ r,(gOk g→OpSemP P o us H nx r)∧(r.wr=[]∧r.nx=nx)∧k r:=by
 have main:h→∃ r,(gOk g→OpSemP P o us H nx r)∧(r.wr=[]∧r.nx=nx)∧k r:=fun h=>let ⟨r,h1,h2⟩:=hs h;⟨r,fun _=>h1,h2⟩
 unfold evSkipG at hh
 split at hh
 ·split at hh
  ·exact ⟨_,fun hg=>(by cases hg),⟨rfl,rfl⟩,hh⟩
  ·exact main hh
 ·exact main hh
theorem evSkipG_or {g:Option Bool} {nx:Nat} {v:AV} {k:Res→Prop} {h:Prop} (hh:evSkipG g nx v k h):(g=some false∧k ⟨.undef,[],[],nx⟩)∨h:=by
 unfold evSkipG at hh
 split at hh
 ·split at hh
  ·exact .inl ⟨rfl,hh⟩
  ·exact .inr hh
 ·exact .inr hh
def evOp [Tabs] (C:Cx) (det:Bool) (g:Option Bool) (rd:Operand→AV) (H:Heap) (nx:Nat) (o:Oper) (k:Res→Prop):Prop :=
 match o.op with
 | .move x=>k ⟨rd x,[],[],nx⟩
 | .assign x=>k ⟨rd x,[],[],nx⟩
 | .alloc t=>un g (evAlloc C.T nx t k)
 | .box t x=>un g (evBox nx t (rd x) k)
 | .build t parts=>evBuild C.T nx t (parts.toList.map fun p=>(p.1,rd p.2)) k
 | .buildSlice t n parts=>un g (evBuildSliceF C.T H nx t n (parts.toList.map fun p=>(p.1,rd p.2)) k)
 | .load t x=>evLoadX C g rd H nx t x k
 | .store t x y=>un g (evStoreF C.T H nx t (rd x) (rd y) k)
 | .nilCheck x=>evNilCheck (rd x) fun v=>k ⟨v,[],[],nx⟩
 | .binOp op t x y _=>match isNilX y with
  | true=>evNilX C.T op t y (rd x) fun v=>k ⟨v,[],[],nx⟩
  | false=>evSkipG g nx (rd x) k (evBinO C det g op t (rd x) (rd y) fun v=>k ⟨v,[],[],nx⟩)
 | .lookup t x y ok=>evLookup C.P C.T H nx t (rd x) (rd y) ok k
 | .mapUpdate t x y z=>un g (evMapUpdate C.P C.T H nx t (rd x) (rd y) (rd z) k)
 | .makeMap _ none=>un g (evMakeMap nx k)
 | .makeSlice t x y=>un g (evMakeSlice C.T nx t (rd x) (rd y) k)
 | .unOp op _ x=>match C.wr with
  | false=>evUn g op (rd x) fun v=>k ⟨v,[],[],nx⟩
  | true=>evUnW g op (rd x) fun v=>k ⟨v,[],[],nx⟩
 | .convert s d x=>evConvX C.T g H nx s d (rd x) k
 | .makeFunc fn first cap=>k ⟨.fn fn (first.toList.map rd) (cap.toList.map rd),[],[],nx⟩
 | .slice t x lo hi none=>match queOf H (rd x) with
  | some id=>un g (evSliceQ C.T H nx t id (lo.map rd) (hi.map rd) k)
  | none=>evSlice C.T g H nx t (rd x) (lo.map rd) (hi.map rd) k
 | .fieldAddr t x f=>evFieldAddr C.T nx t (rd x) f k
 | .field t x f=>evSkipG g nx (rd x) k (evField C.T nx t (rd x) f k)
 | .indexAddr t x i=>match queOf H (rd x) with
  | some id=>evIndexAddrQ C.T g H nx t id (rd i) k
  | none=>evIndexAddr C.T g H nx t (rd x) (rd i) k
 | .index t x i=>evIndex C.T g t (rd x) (rd i) fun v=>k ⟨v,[],[],nx⟩
 | .extract x n=>evSkipG g nx (rd x) k (evExtract nx (rd x) n k)
 | .call c=>evCall C det g rd H nx c k
 | .makeInterface t x=>evMakeI C.T t (rd x) fun v=>k ⟨v,[],[],nx⟩
 | .typeAssert x _ t true=>evAssert C.T t (rd x) fun v=>k ⟨v,[],[],nx⟩
 | .panic x=>match det with
  | true=>False
  | false=>un g (PanG C.px (rd x))
 | _=>False
def usesOf (rd:Operand→AV) (o:Oper):Uses:=o.op.operands.toList.map fun y=>(y,true,rd y)
theorem opsem_uses [Tabs] {P:Program} {px:List PanicEntry→Prop} {o:Oper} {us us':Uses} {H:Heap} {nx:Nat} {touch:List Nat} {Rr:Res→Prop} (h:OpSemX P px o us H nx touch Rr) (hu:∀ u∈us,u∈us'):OpSemX P px o us' H nx touch Rr :=
 fun m S w a H₂ K Q hG ht hf hus hK hP=>h m S w a H₂ K Q hG ht hf (fun u hm=>hus u (hu u hm)) hK hP
theorem un_iff {g:Option Bool} {p:Prop}:un g p↔g=none∧p:=by cases g<;>simp [un]
def Shown [Tabs] (P:Program) (px:List PanicEntry→Prop) (det:Bool) (g:Option Bool) (rd:Operand→AV) (H:Heap) (nx:Nat) (o:Oper) (k:Res→Prop):Prop :=
 ∃ touch Rr,(gOk g→OpSemX P px o (usesOf rd o) H nx touch Rr)∧(¬ gOk g→∃ r,(∀ r',Rr r'↔r'=r)∧r.wr=[]∧r.nx=nx)∧(det=true→∃ r,(∀ r',Rr r'↔r'=r)∧r.touch=touch)∧∀ r,Rr r→nx≤r.nx∧k r
theorem shown_pure [Tabs] {P:Program} {px:List PanicEntry→Prop} {det:Bool} {g:Option Bool} {rd:Operand→AV} {H:Heap} {nx:Nat} {o:Oper} {k:Res→Prop} {us:Uses} (hu:∀ u∈us,u∈usesOf rd o)
  (h:∃ r,(gOk g→OpSemP P o us H nx r)∧(r.wr=[]∧r.nx=nx)∧k r):Shown P px det g rd H nx o k:=by
 obtain ⟨r,h1,⟨h2,h3⟩,h4⟩:=h
 exact ⟨r.touch,fun r'=>r'=r,fun hg=>opsem_uses (h1 hg).sem.toR.toX hu,fun _=>⟨r,fun _=>Iff.rfl,h2,h3⟩,fun _=>⟨r,fun _=>Iff.rfl,rfl⟩,fun r' e=>by subst e;exact ⟨Nat.le_of_eq h3.symm,h4⟩⟩
theorem shown_pure' [Tabs] {P:Program} {px:List PanicEntry→Prop} {det:Bool} {g:Option Bool} {rd:Operand→AV} {H:Heap} {nx:Nat} {o:Oper} {k:Res→Prop} {us:Uses} (hu:∀ u∈us,u∈usesOf rd o)
  (h:∃ r,OpSemP P o us H nx r∧(r.wr=[]∧r.nx=nx)∧k r):Shown P px det g rd H nx o k :=
 shown_pure hu (let ⟨r,h1,h2⟩:=h;⟨r,fun _=>h1,h2⟩)
theorem shown_act [Tabs] {P:Program} {px:List PanicEntry→Prop} {det:Bool} {g:Option Bool} {rd:Operand→AV} {H:Heap} {nx:Nat} {o:Oper} {k:Res→Prop} {us:Uses} (hg:g=none) (hu:∀ u∈us,u∈usesOf rd o)
  (h:∃ r,OpSem P o us H nx r∧nx≤r.nx∧k r):Shown P px det g rd H nx o k:=by
 obtain ⟨r,h1,h2,h3⟩:=h
 subst hg
 exact ⟨r.touch,fun r'=>r'=r,fun _=>opsem_uses h1.toR.toX hu,fun h=>(h trivial).elim,fun _=>⟨r,fun _=>Iff.rfl,rfl⟩,fun r' e=>by subst e;exact ⟨h2,h3⟩⟩
theorem Shown.mono [Tabs] {P:Program} {px:List PanicEntry→Prop} {det:Bool} {g:Option Bool} {rd:Operand→AV} {H:Heap} {nx:Nat} {o:Oper} {k k':Res→Prop} (h:Shown P px det g rd H nx o k) (hk:∀ r,k r→k' r):Shown P px det g rd H nx o k' :=
 let ⟨t,R,h1,h2,h3,h4⟩:=h
 ⟨t,R,h1,h2,h3,fun r hr=>⟨(h4 r hr).1,hk r (h4 r hr).2⟩⟩
theorem uses_all {rd:Operand→AV} {o:Oper} {l:List Operand} (h:∀ y∈l,y∈o.op.operands.toList):∀ u∈(l.map fun y=>(y,true,rd y):Uses),u∈usesOf rd o:=by
 intro u hu
 obtain ⟨y,hy,rfl⟩:=List.mem_map.1 hu
 exact List.mem_map.2 ⟨y,h y hy,rfl⟩
theorem evCall_sound [Tabs] {C:Cx} (hT:TabOk C.P C.T) {det:Bool} {g:Option Bool} {rd:Operand→AV} {H:Heap} {nx:Nat} {o:Oper} {c:Call} (ho:o.op=.call c) {k:Res→Prop} (h:evCall C det g rd H nx c k):Shown C.P C.px det g rd H nx o k:=by
 obtain ⟨callee,args,ats⟩:=c
 cases callee with
 | invoke r m=>exact h.elim
 | builtin b =>
  have hops:o.op.operands.toList=args.toList:=by rw [ho];simp [Op.operands,Call.operands]
  cases b with
  | len =>
   simp only [evCall] at h
   split at h
   ·rename_i x t hx ht
    have ha:args=#[x]:=by apply Array.ext';simpa using hx
    have hb:ats=#[t]:=by apply Array.ext';simpa using ht
    subst ha
    subst hb
    split at h
    ·rename_i id hq
     exact shown_pure' (uses_all (l:=[x]) (by rw [hops];simp)) (evLenQ_sound hT ho (queOf_own hq) h)
    ·exact shown_pure' (uses_all (l:=[x]) (by rw [hops];simp)) (evLen_sound hT ho h)
   ·exact h.elim
  | append =>
   simp only [evCall] at h
   split at h
   ·rename_i s x t t' hx ht
    have ha:args=#[s,x]:=by apply Array.ext';simpa using hx
    have hb:ats=#[t,t']:=by apply Array.ext';simpa using ht
    subst ha
    subst hb
    split at h
    ·rename_i hbeq
     have:=Nat.eq_of_beq_eq_true hbeq
     subst this
     obtain ⟨hg,h⟩:=un_iff.1 h
     split at h
     ·rename_i id hq
      exact shown_act hg (uses_all (l:=[s,x]) (by rw [hops];simp)) (evAppendQ_sound hT ho (queOf_own hq) h)
     ·exact shown_act hg (uses_all (l:=[s,x]) (by rw [hops];simp)) (evAppend_sound hT ho h)
    ·obtain ⟨hg,h⟩:=un_iff.1 h
     exact shown_act hg (uses_all (l:=[s,x]) (by rw [hops];simp)) (evAppendS_sound hT ho h)
   ·exact h.elim
  | unsafeSliceData =>
   simp only [evCall] at h
   split at h
   ·rename_i x t hx ht
    have ha:args=#[x]:=by apply Array.ext';simpa using hx
    have hb:ats=#[t]:=by apply Array.ext';simpa using ht
    subst ha
    subst hb
    obtain ⟨hg,h⟩:=un_iff.1 h
    exact shown_act hg (uses_all (l:=[x]) (by rw [hops];simp)) (evSliceData_sound ho h)
   ·exact h.elim
  | unsafeString =>
   simp only [evCall] at h
   split at h
   ·rename_i x y t t' hx ht
    have ha:args=#[x,y]:=by apply Array.ext';simpa using hx
    have hb:ats=#[t,t']:=by apply Array.ext';simpa using ht
    subst ha
    subst hb
    obtain ⟨hg,h⟩:=un_iff.1 h
    exact shown_act hg (uses_all (l:=[x,y]) (by rw [hops];simp)) (evUStr_sound hT ho h)
   ·exact h.elim
  | min =>
   simp only [evCall] at h
   split at h
   ·rename_i x y hx
    have ha:args=#[x,y]:=by apply Array.ext';simpa using hx
    subst ha
    exact shown_pure' (uses_all (l:=[x,y]) (by rw [hops];simp)) (evMin_sound (isMax:=false) ho h)
   ·exact h.elim
  | max =>
   simp only [evCall] at h
   split at h
   ·rename_i x y hx
    have ha:args=#[x,y]:=by apply Array.ext';simpa using hx
    subst ha
    exact shown_pure' (uses_all (l:=[x,y]) (by rw [hops];simp)) (evMin_sound (isMax:=true) ho h)
   ·exact h.elim
  | _=>exact h.elim
 | value fop =>
  have hops:o.op.operands.toList=fop::args.toList:=by rw [ho];simp [Op.operands,Call.operands]
  simp only [evCall] at h
  split at h
  ·rename_i f first cap hf
   rw [forceL_iff] at h
   have hu:∀ u∈((fop::args.toList).map fun y=>(y,true,rd y):Uses),u∈usesOf rd o:=uses_all (by rw [hops];simp)
   cases h with
   | any args' touch R hd hc hb hflat hk =>
    obtain ⟨hd,rfl⟩:=hd
    refine ⟨touch,_,fun _=>opsem_uses (sem_call ho hf hb hc hflat).toX hu,fun h=>(h (gOk_getD hd)).elim,fun h=>(by cases h),?_⟩
    rintro r ⟨rs,hR,rfl⟩
    have:=takeR_eq _ _ _ _ _ (hk rs hR)
    simp only [List.reverse_nil,List.nil_append,List.append_nil] at this
    exact ⟨tn_ge rs nx,this⟩
   | raw touch Rr hd hdet hc hk =>
    exact ⟨touch,Rr,fun _=>opsem_uses (sem_callraw ho hf hc).toX hu,fun h=>(h (gOk_getD hd)).elim,hdet,hk⟩
   | pan touch Rr Px hd hdet hc hp hk =>
    exact ⟨touch,Rr,fun _=>opsem_uses (sem_callx ho hf hc hp) hu,fun h=>(h (gOk_getD hd)).elim,hdet,hk⟩
   | one args' touch rs hc hb hflat hg hk =>
    have hfl:touch=[]∨∀ rs',rs'=rs→∀ r∈rs',r.flat:=by
     rcases hflat with h | h
     ·exact .inl h
     ·exact .inr fun rs' e=>by subst e;exact h
    have hiff:∀ r':Res,(∃ rs',rs'=rs∧r'=⟨valR (tv rs' nx),touch,tw rs' nx,tn rs' nx⟩)↔r'=⟨valR (tv rs nx),touch,tw rs nx,tn rs nx⟩:=by
     intro r'
     constructor
     ·rintro ⟨rs',rfl,rfl⟩;rfl
     ·rintro rfl;exact ⟨rs,rfl,rfl⟩
    have htn:∀ (rs:List AR) (nx:Nat),tw rs nx=[]→tn rs nx=nx:=by
     intro rs
     induction rs with
     | nil=>intro nx _;rfl
     | cons r rs ih =>
      intro nx h
      cases r with
      | val a=>exact ih nx h
      | new b=>simp [tw] at h
    refine ⟨touch,fun r'=>∃ rs',rs'=rs∧r'=⟨valR (tv rs' nx),touch,tw rs' nx,tn rs' nx⟩,fun hg'=>opsem_uses (sem_call ho hf hb (hc hg') hfl).toX hu,fun hne=>⟨⟨valR (tv rs nx),touch,tw rs nx,tn rs nx⟩,hiff,?_,?_⟩,fun _=>⟨⟨valR (tv rs nx),touch,tw rs nx,tn rs nx⟩,hiff,rfl⟩,?_⟩
    ·rcases hg with h | h
     ·exact (hne (gOk_getD h)).elim
     ·exact h
    ·rcases hg with h | h
     ·exact (hne (gOk_getD h)).elim
     ·exact htn rs nx h
    ·rintro r hr
     obtain ⟨rs',rfl,rfl⟩:=hr
     have:=takeR_eq _ _ _ _ _ hk
     simp only [List.reverse_nil,List.nil_append,List.append_nil] at this
     exact ⟨tn_ge rs' nx,this⟩
  ·exact h.elim
theorem evMove_sound [Tabs] {P:Program} {rd:Operand→AV} {H:Heap} {nx:Nat} {x:Operand} {o:Oper} (ho:o.op=.move x∨o.op=.assign x) {k:Res→Prop} (h:k ⟨rd x,[],[],nx⟩) :
  ∃ r,OpSemP P o [(x,true,rd x)] H nx r∧(r.wr=[]∧r.nx=nx)∧k r:=by
 refine ⟨_,opsem_pure fun m S w a H₂ hG ht hus=>⟨a.eval x,fun w' _=>?_,hus (x,true,rd x) (by simp) rfl⟩,⟨rfl,rfl⟩,h⟩
 unfold execOp
 rcases ho with ho | ho<;>simp [ho]
theorem evOp_sound [Tabs] {C:Cx} (hT:TabOk C.P C.T) {det:Bool} {g:Option Bool} {rd:Operand→AV} {H:Heap} {nx:Nat} {o:Oper} {k:Res→Prop} (h:evOp C det g rd H nx o k):Shown C.P C.px det g rd H nx o k:=by
 unfold evOp at h
 split at h
 ·rename_i x ho
  exact shown_pure' (uses_all (l:=[x]) (by rw [ho];simp [Op.operands])) (evMove_sound (.inl ho) h)
 ·rename_i x ho
  exact shown_pure' (uses_all (l:=[x]) (by rw [ho];simp [Op.operands])) (evMove_sound (.inr ho) h)
 ·rename_i t ho
  obtain ⟨hg,h⟩:=un_iff.1 h
  exact shown_act hg (by simp) (evAlloc_sound hT ho h)
 ·rename_i t x ho
  obtain ⟨hg,h⟩:=un_iff.1 h
  exact shown_act hg (uses_all (l:=[x]) (by rw [ho];simp [Op.operands])) (evBox_sound ho h)
 ·rename_i t parts ho
  refine shown_pure' (us:=parts.toList.map fun p=>(p.2,true,rd p.2)) (fun u hu=>?_) (evBuild_sound hT ho h)
  obtain ⟨p,hp,rfl⟩:=List.mem_map.1 hu
  exact List.mem_map.2 ⟨p.2,by rw [ho];simp [Op.operands];exact ⟨p.1,by simpa using hp⟩,rfl⟩
 ·rename_i t n parts ho
  obtain ⟨hg,h⟩:=un_iff.1 h
  refine shown_act (us:=parts.toList.map fun p=>(p.2,true,rd p.2)) hg (fun u hu=>?_) (evBuildSliceF_sound hT ho h)
  obtain ⟨p,hp,rfl⟩:=List.mem_map.1 hu
  exact List.mem_map.2 ⟨p.2,by rw [ho];simp [Op.operands];exact ⟨p.1,by simpa using hp⟩,rfl⟩
 ·rename_i t x ho
  exact shown_pure (uses_all (l:=[x]) (by rw [ho];simp [Op.operands])) (evLoadX_sound hT ho h)
 ·rename_i t x y ho
  obtain ⟨hg,h⟩:=un_iff.1 h
  exact shown_act hg (uses_all (l:=[x,y]) (by rw [ho];simp [Op.operands])) (evStoreF_sound hT ho h)
 ·rename_i x ho
  exact shown_pure' (uses_all (l:=[x]) (by rw [ho];simp [Op.operands])) (evNilCheck_sound ho h)
 ·rename_i op t x y yt ho
  split at h
  ·rename_i hyn
   exact shown_pure' (uses_all (l:=[x,y]) (by rw [ho];simp [Op.operands])) (evNilX_sound hT ho h)
  rcases evSkipG_or h with ⟨hg0,h⟩ | h
  ·exact ⟨[],fun r'=>r'=⟨.undef,[],[],nx⟩,fun hg=>(by rw [hg0] at hg;cases hg),fun _=>⟨_,fun _=>Iff.rfl,rfl,rfl⟩,fun _=>⟨_,fun _=>Iff.rfl,rfl⟩,fun r' e=>by subst e;exact ⟨Nat.le_refl _,h⟩⟩
  unfold evBinO at h
  split at h
  ·rename_i hy
   split at h
   ·exact shown_pure' (uses_all (l:=[x,y]) (by rw [ho];simp [Op.operands])) (evNilG_sound hT ho hy h)
   ·split at h
    ·exact shown_pure' (uses_all (l:=[x,y]) (by rw [ho];simp [Op.operands])) (evNilG_sound hT ho hy h)
    have hu:∀ u∈([(x,true,rd x),(y,true,rd y)]:Uses),u∈usesOf rd o:=uses_all (l:=[x,y]) (by rw [ho];simp [Op.operands])
    split at h
    ·rename_i e a1 a2 a3 hi
     split at h
     ·obtain ⟨Rr,h1,h2⟩:=evNilS_sound (neg:=false) hT ho hy hi h
      exact ⟨[],Rr,fun _=>opsem_uses h1.toX hu,fun h=>(h trivial).elim,fun h=>(by cases h),h2⟩
     ·obtain ⟨Rr,h1,h2⟩:=evNilS_sound (neg:=true) hT ho hy hi h
      exact ⟨[],Rr,fun _=>opsem_uses h1.toX hu,fun h=>(h trivial).elim,fun h=>(by cases h),h2⟩
     ·exact h.elim
    ·exact h.elim
  ·split at h
   ·exact shown_pure (uses_all (l:=[x,y]) (by rw [ho];simp [Op.operands])) (evBin2_sound hT ho h)
   ·exact shown_pure (uses_all (l:=[x,y]) (by rw [ho];simp [Op.operands])) (evBinW_sound hT ho h)
 ·rename_i t x y ok ho
  exact shown_pure' (uses_all (l:=[x,y]) (by rw [ho];simp [Op.operands])) (evLookup_sound hT ho h)
 ·rename_i t x y z ho
  obtain ⟨hg,h⟩:=un_iff.1 h
  exact shown_act hg (uses_all (l:=[x,y,z]) (by rw [ho];simp [Op.operands])) (evMapUpdate_sound hT ho h)
 ·rename_i t ho
  obtain ⟨hg,h⟩:=un_iff.1 h
  exact shown_act hg (by simp) (evMakeMap_sound ho h)
 ·rename_i t x y ho
  obtain ⟨hg,h⟩:=un_iff.1 h
  exact shown_act hg (uses_all (l:=[x,y]) (by rw [ho];simp [Op.operands])) (evMakeSlice_sound hT ho h)
 ·rename_i op t x ho
  split at h
  ·exact shown_pure (uses_all (l:=[x]) (by rw [ho];simp [Op.operands])) (evUn_sound ho h)
  ·exact shown_pure (uses_all (l:=[x]) (by rw [ho];simp [Op.operands])) (evUnW_sound ho h)
 ·rename_i s d x ho
  exact shown_pure (uses_all (l:=[x]) (by rw [ho];simp [Op.operands])) (evConvX_sound hT ho h)
 ·rename_i fn first cap ho
  exact shown_pure' (uses_all (l:=first.toList++cap.toList) (by rw [ho];simp [Op.operands])) (evMakeFunc_sound ho h)
 ·rename_i t x lo hi ho
  have hus:∀ u∈optUses rd x lo hi,u∈usesOf rd o:=by
   have:optUses rd x lo hi=((x::(lo.toList++hi.toList)).map fun y=>(y,true,rd y)):=rfl
   rw [this]
   exact uses_all (by rw [ho];cases lo<;>cases hi<;>simp [Op.operands])
  split at h
  ·rename_i id hq
   obtain ⟨hg,h⟩:=un_iff.1 h
   exact shown_act hg hus (evSliceQ_sound hT ho (queOf_own hq) h)
  ·exact shown_pure (us:=optUses rd x lo hi) hus (evSlice_sound hT ho h)
 ·rename_i t x f ho
  exact shown_pure' (uses_all (l:=[x]) (by rw [ho];simp [Op.operands])) (evFieldAddr_sound hT ho h)
 ·rename_i t x f ho
  exact shown_pure (uses_all (l:=[x]) (by rw [ho];simp [Op.operands])) (evSkipG_sound (evField_sound hT ho) h)
 ·rename_i t x i ho
  split at h
  ·rename_i id hq
   exact shown_pure (uses_all (l:=[x,i]) (by rw [ho];simp [Op.operands])) (evIndexAddrQ_sound hT ho (queOf_own hq) h)
  ·exact shown_pure (uses_all (l:=[x,i]) (by rw [ho];simp [Op.operands])) (evIndexAddr_sound hT ho h)
 ·rename_i t x i ho
  exact shown_pure (uses_all (l:=[x,i]) (by rw [ho];simp [Op.operands])) (evIndex_sound hT ho h)
 ·rename_i x n ho
  exact shown_pure (uses_all (l:=[x]) (by rw [ho];simp [Op.operands])) (evSkipG_sound (evExtract_sound ho) h)
 ·rename_i c ho
  exact evCall_sound hT ho h
 ·rename_i t x ho
  exact shown_pure' (uses_all (l:=[x]) (by rw [ho];simp [Op.operands])) (evMakeI_sound hT ho h)
 ·rename_i x xt t ho
  exact shown_pure' (uses_all (l:=[x]) (by rw [ho];simp [Op.operands])) (evAssert_sound hT ho h)
 ·rename_i x ho
  split at h
  ·exact h.elim
  ·obtain ⟨hg,h⟩:=un_iff.1 h
   subst hg
   have hu:∀ u∈([(x,true,rd x)]:Uses),u∈usesOf rd o:=uses_all (l:=[x]) (by rw [ho];simp [Op.operands])
   exact ⟨[],fun _=>False,fun _=>opsem_uses (evPanic_sound ho h) hu,fun h=>(h trivial).elim,fun h=>(by cases h),fun r hr=>hr.elim⟩
 ·exact h.elim
def getLay (d:Nat):List Lay→Option Lay
 | []=>none
 | l::r=>if r.length+1=d then some l else getLay d r
def yieldT (tmps:Array Value) (t:Nat):Option Bool :=
 match tmps[t]? with
 | some (.bool b)=>some b
 | _=>none
def allG:List Lay→Prop
 | []=>True
 | l::r=>l.g=true∧allG r
def StkOk (tmps:Array Value):List Lay→Prop
 | []=>True
 | l::r=>StkOk tmps r∧(yieldT tmps l.tmp == some l.pol)=l.g∧(l.g=true→allG r)
def EntRel (m:Ids) (S:Blocks) (w:World) (stk:List Lay) (v:Value):Nat×AV→Prop
 | (0,a)=>RelV m S w v a
 | (d+1,a)=>∃ l,getLay (d+1) stk=some l∧(l.g=true→RelV m S w v a)∧(l.g=false→v=undef)
structure RunI (m:Ids) (S:Blocks) (w:World) (N:Nat) (tmps:Array Value) (loc:Loc) (env:Env) (stk:List Lay):Prop where
 size:tmps.size=N
 rel:∀ s,EntRel m S w stk (tmps.getD s undef) (look loc env s)
 stk:StkOk tmps stk
theorem getLay_le {d:Nat}:∀ {stk:List Lay} {l:Lay},getLay d stk=some l→1≤d∧d≤stk.length
 | [],_,h=>by simp [getLay] at h
 | l'::r,l,h=>by
  unfold getLay at h
  split at h
  ·rename_i e;simp;omega
  ·have:=getLay_le h;simp;omega
theorem getLay_mem {d:Nat}:∀ {stk:List Lay} {l:Lay},getLay d stk=some l→l∈stk
 | [],_,h=>by simp [getLay] at h
 | l'::r,l,h=>by
  unfold getLay at h
  split at h
  ·cases h;simp
  ·exact List.mem_cons.2 (.inr (getLay_mem h))
theorem getLay_suffix {d:Nat} {p s:List Lay} (h:d≤s.length):getLay d (p++s)=getLay d s:=by
 induction p with
 | nil=>rfl
 | cons l p ih =>
  rw [List.cons_append,getLay,if_neg (by simp;omega)]
  exact ih
theorem StkOk.suffix {tmps:Array Value} {p s:List Lay} (h:StkOk tmps (p++s)):StkOk tmps s:=by
 induction p with
 | nil=>exact h
 | cons l p ih=>exact ih h.1
theorem allG_mem:∀ {stk:List Lay},allG stk→∀ l∈stk,l.g=true
 | [],_,l,h=>by simp at h
 | l'::r,h,l,hl=>by
  rcases List.mem_cons.1 hl with rfl | hl
  ·exact h.1
  ·exact allG_mem h.2 l hl
theorem allG_top {tmps:Array Value} {stk:List Lay} (h:StkOk tmps stk) (hg:gOk (topG stk)):allG stk:=by
 cases stk with
 | nil=>trivial
 | cons l r=>exact ⟨hg,h.2.2 hg⟩
theorem popTo_suffix (d:Nat):∀ (stk:List Lay),∃ p,stk=p++popTo d stk
 | []=>⟨[],rfl⟩
 | l::r=>by
  unfold popTo
  split
  ·exact ⟨[],rfl⟩
  ·obtain ⟨p,hp⟩:=popTo_suffix d r
   exact ⟨l::p,by rw [List.cons_append,← hp]⟩
theorem popTo_len {d:Nat}:∀ (stk:List Lay),d≤stk.length→(popTo d stk).length=d
 | [],h=>by simp at h;subst h;rfl
 | l::r,h=>by
  unfold popTo
  split
  ·rename_i hb
   have:=Nat.le_of_ble_eq_true hb
   simp at h ⊢
   omega
  ·rename_i hb
   have:¬ r.length+1≤d:=fun hle=>by rw [Nat.ble_eq_true_of_le hle] at hb;cases hb
   exact popTo_len r (by omega)
theorem findLay_suffix {t:Nat} {pol:Bool}:∀ {stk s:List Lay},findLay t pol stk=some s→(∃ p,stk=p++s)∧∃ l r,s=l::r∧l.tmp=t∧l.pol=pol
 | [],s,h=>by simp [findLay] at h
 | l::r,s,h=>by
  unfold findLay at h
  split at h
  ·rename_i hb
   cases h
   simp only [Bool.and_eq_true] at hb
   refine ⟨⟨[],rfl⟩,l,r,rfl,Nat.eq_of_beq_eq_true hb.1,?_⟩
   have:=hb.2
   cases hl:l.pol<;>cases pol<;>simp [hl,boolEq] at this ⊢
  ·obtain ⟨⟨p,hp⟩,h2⟩:=findLay_suffix h
   exact ⟨⟨l::p,by rw [List.cons_append,← hp]⟩,h2⟩
theorem look_kill (d:Nat):∀ (loc:Loc) (env:Env) (s:Nat),look (kill d loc) env s=look loc env s∧(look loc env s).1≤d∨look (kill d loc) env s=(0,.undef)
 | [],env,s=>.inl ⟨rfl,Nat.zero_le _⟩
 | (i,e,v)::r,env,s=>by
  by_cases hi:i=s
  ·subst hi
   by_cases hd:e≤d
   ·left
    rw [kill,Nat.ble_eq_true_of_le hd]
    simp [look,hd]
   ·right
    have:Nat.ble e d=false:=by
     cases h:Nat.ble e d with
     | false=>rfl
     | true=>exact (hd (Nat.le_of_ble_eq_true h)).elim
    rw [kill,this]
    simp [look]
  ·have hb:Nat.beq i s=false:=by
    cases h:Nat.beq i s with
    | false=>rfl
    | true=>exact (hi (Nat.eq_of_beq_eq_true h)).elim
   have ih:=look_kill d r env s
   rw [kill]
   cases Nat.ble e d<;>simp only [look,hb]<;>exact ih
theorem RunI.pop {m:Ids} {S:Blocks} {w:World} {N:Nat} {tmps:Array Value} {loc:Loc} {env:Env} {p s:List Lay} (h:RunI m S w N tmps loc env (p++s)):RunI m S w N tmps (kill s.length loc) env s:=by
 refine ⟨h.size,fun x=>?_,h.stk.suffix⟩
 rcases look_kill s.length loc env x with ⟨h1,h2⟩ | h1
 ·rw [h1]
  have hr:=h.rel x
  revert hr h2
  generalize look loc env x=q
  obtain ⟨d,a⟩:=q
  intro h2 hr
  cases d with
  | zero=>exact hr
  | succ d =>
   obtain ⟨l,hl,h3⟩:=hr
   exact ⟨l,by rw [← hl,getLay_suffix h2],h3⟩
 ·rw [h1]
  exact .t _ _ (.undef _)
theorem RunI.push {m:Ids} {S:Blocks} {w:World} {N:Nat} {tmps:Array Value} {loc:Loc} {env:Env} {stk:List Lay} (h:RunI m S w N tmps loc env stk) {l:Lay} (h1:(yieldT tmps l.tmp == some l.pol)=l.g) (h2:l.g=true→allG stk):RunI m S w N tmps loc env (l::stk):=by
 refine ⟨h.size,fun x=>?_,h.stk,h1,h2⟩
 have hr:=h.rel x
 revert hr
 generalize look loc env x=q
 obtain ⟨d,a⟩:=q
 intro hr
 cases d with
 | zero=>exact hr
 | succ d =>
  obtain ⟨l',hl,h3⟩:=hr
  exact ⟨l',by rw [show l::stk=[l]++stk from rfl,getLay_suffix (getLay_le hl).2];exact hl,h3⟩
theorem andG_true {stk:List Lay} {b:Bool} (h:andG stk b=true):gOk (topG stk)∧b=true:=by
 cases stk with
 | nil=>exact ⟨trivial,h⟩
 | cons l r=>obtain ⟨t,p,g⟩:=l;simpa [andG,topG,gOk] using h
theorem yieldT_eq {tmps:Array Value} {t:Nat} {b:Bool} (h:tmps.getD t undef=.bool b):yieldT tmps t=some b:=by
 unfold yieldT
 by_cases hlt:t<tmps.size
 ·simp [Array.getD,hlt] at h ⊢
  simp [h]
 ·simp [Array.getD,hlt,undef] at h
theorem yieldT_undef {tmps:Array Value} {t:Nat} (h:tmps.getD t undef=undef):yieldT tmps t=none:=by
 unfold yieldT
 by_cases hlt:t<tmps.size
 ·simp [Array.getD,hlt] at h ⊢
  simp [h,undef]
 ·simp [hlt]
theorem enter_sound {all:List Oper} {o:Oper} {loc:Loc} {env:Env} {stk:List Lay} {k:List Lay→Loc→Prop} (h:enter all o.guard loc env stk k) {m:Ids} {S:Blocks} {w:World} {N:Nat} {tmps:Array Value} (hr:RunI m S w N tmps loc env stk) :
  ∃ stk' loc',k stk' loc'∧RunI m S w N tmps loc' env stk'∧(Region.wanted o (yielded all.toArray tmps)=true↔gOk (topG stk')) ∧
   (∀ s d v,look loc' env s=(d,v)→d≤stk'.length)∧(∃ p,stk=p++stk'∨∃ l r,stk'=l::r∧stk=p++r):=by
 have hd:∀ {loc:Loc} {stk:List Lay},RunI m S w N tmps loc env stk→∀ s d v,look loc env s=(d,v)→d≤stk.length:=by
  intro loc stk hr s d v hl
  have:=hr.rel s
  rw [hl] at this
  cases d with
  | zero=>omega
  | succ d=>obtain ⟨l,hl,_⟩:=this;exact (getLay_le hl).2
 unfold enter at h
 split at h
 ·rename_i hg
  have hw:Region.wanted o (yielded all.toArray tmps)=true:=by simp [Region.wanted,hg]
  split at h
  ·exact ⟨[],loc,h,hr,⟨fun _=>trivial,fun _=>hw⟩,hd hr,[],.inl rfl⟩
  ·rename_i l r
   have hp:RunI m S w N tmps (kill 0 loc) env []:=by
    have:RunI m S w N tmps loc env ((l::r)++[]):=by simpa using hr
    exact this.pop
   exact ⟨[],_,forceLoc_iff.1 h,hp,⟨fun _=>trivial,fun _=>hw⟩,hd hp,l::r,.inl (by simp)⟩
 ·rename_i j pol hg
  split at h
  ·exact h.elim
  ·rename_i oj hj
   split at h
   ·exact h.elim
   ·rename_i t ht
    have hy:yielded all.toArray tmps j=yieldT tmps t:=by
     unfold yielded yieldT
     simp [hj,ht]
     rfl
    have hwant:∀ {l:Lay} {r:List Lay},l.tmp=t→l.pol=pol→StkOk tmps (l::r)→(Region.wanted o (yielded all.toArray tmps)=true↔gOk (topG (l::r))):=by
     intro l r e1 e2 hs
     have:=hs.2.1
     rw [e1,e2] at this
     simp only [Region.wanted,hg,hy,topG,gOk]
     rw [this]
    split at h
    ·rename_i s hf
     obtain ⟨⟨p,hp⟩,l,r,rfl,e1,e2⟩:=findLay_suffix hf
     have hr':RunI m S w N tmps loc env (p++(l::r)):=by rw [← hp];exact hr
     split at h
     ·rename_i hb
      have hlen:=Nat.eq_of_beq_eq_true hb
      have hp0:p=[]:=by
       have:=congrArg List.length hp
       simp at this hlen
       apply List.eq_nil_of_length_eq_zero
       omega
      subst hp0
      exact ⟨_,_,h,hr',hwant e1 e2 hr'.stk,hd hr',[],.inl hp⟩
     ·exact ⟨_,_,forceLoc_iff.1 h,hr'.pop,hwant e1 e2 hr'.pop.stk,hd hr'.pop,p,.inl hp⟩
    ·split at h
     ·rename_i d b hl
      rw [forceStk_iff] at h
      obtain ⟨p,hp⟩:=popTo_suffix d stk
      have hr':RunI m S w N tmps loc env (p++popTo d stk):=by rw [← hp];exact hr
      have hdl:=hd hr t d _ hl
      have hpl:=popTo_len stk hdl
      -- the guard's own bool
      have hgd:(yieldT tmps t == some pol)=andG (popTo d stk) (polB pol b)∧(andG (popTo d stk) (polB pol b)=true→allG (popTo d stk)):=by
       have hent:=hr.rel t
       rw [hl] at hent
       have hst:StkOk tmps (popTo d stk):=hr'.stk.suffix
       have hpolb:∀ (b:Bool),((some b:Option Bool) == some pol)=polB pol b:=by intro b;cases b<;>cases pol<;>rfl
       refine ⟨?_,fun ha=>allG_top hst (andG_true ha).1⟩
       cases d with
       | zero =>
        have h0:popTo 0 stk=[]:=List.eq_nil_of_length_eq_zero hpl
        rw [h0]
        have:RelV m S w (tmps.getD t undef) (.bool b):=hent
        have hv:tmps.getD t undef=.bool b:=by
         generalize tmps.getD t undef=v at this
         cases this with
         | t _ _ h=>cases h;rfl
        rw [yieldT_eq hv]
        exact hpolb b
       | succ d =>
        obtain ⟨l,hgl,h1,h2⟩:=hent
        have hgl2:getLay (d+1) (popTo (d+1) stk)=some l:=by
         rw [← getLay_suffix (p:=p) (by rw [hpl];exact Nat.le_refl _),← hp]
         exact hgl
        cases hpop:popTo (d+1) stk with
        | nil=>rw [hpop] at hpl;simp at hpl
        | cons l' r =>
         rw [hpop] at hgl2 hpl
         have:l'=l:=by
          rw [getLay,if_pos (by simpa using hpl)] at hgl2
          cases hgl2
          rfl
         subst this
         simp only [andG]
         cases hlg:l'.g with
         | true =>
          have:=h1 hlg
          have hv:tmps.getD t undef=.bool b:=by
           generalize tmps.getD t undef=v at this
           cases this with
           | t _ _ h=>cases h;rfl
          rw [yieldT_eq hv]
          simpa using hpolb b
         | false =>
          rw [yieldT_undef (h2 hlg)]
          simp
      have fin:∀ {loc':Loc},RunI m S w N tmps loc' env (popTo d stk)→k (⟨t,pol,andG (popTo d stk) (polB pol b)⟩::popTo d stk) loc' →
        ∃ stk' loc',k stk' loc'∧RunI m S w N tmps loc' env stk'∧(Region.wanted o (yielded all.toArray tmps)=true↔gOk (topG stk')) ∧
         (∀ s d v,look loc' env s=(d,v)→d≤stk'.length)∧(∃ p,stk=p++stk'∨∃ l r,stk'=l::r∧stk=p++r):=by
       intro loc' hr2 hk
       have hpush:=hr2.push (l:=⟨t,pol,andG (popTo d stk) (polB pol b)⟩) hgd.1 hgd.2
       exact ⟨_,_,hk,hpush,hwant rfl rfl hpush.stk,hd hpush,p,.inr ⟨_,_,rfl,hp⟩⟩
      split at h
      ·rename_i hb
       have hlen:=Nat.eq_of_beq_eq_true hb
       have hp0:p=[]:=by
        have:=congrArg List.length hp
        simp at this
        apply List.eq_nil_of_length_eq_zero
        omega
       subst hp0
       exact fin hr' h
      ·exact fin hr'.pop (forceLoc_iff.1 h)
     ·exact h.elim
def putLoc (dst:Option Nat) (d:Nat) (v:AV) (loc:Loc):Loc :=
 match dst with
 | none=>loc
 | some t=>(t,d,v)::loc
def notTag (d:Nat):List Lay→Bool
 | []=>true
 | l::r=>match Nat.beq l.tmp d with
  | true=>false
  | false=>notTag d r
def dstOk (N:Nat) (dst:Option Nat) (stk:List Lay):Bool :=
 match dst with
 | none=>true
 | some d=>Nat.blt d N&&notTag d stk
theorem notTag_spec {d:Nat}:∀ {stk:List Lay},notTag d stk=true→∀ l∈stk,l.tmp≠d
 | [],_,l,h=>by simp at h
 | l'::r,h,l,hl=>by
  unfold notTag at h
  split at h
  ·cases h
  ·rename_i hb
   rcases List.mem_cons.1 hl with rfl | hl
   ·intro e;rw [e] at hb;simp at hb
   ·exact notTag_spec h l hl
def sideVal (loc loc':Loc) (env:Env) (stk stk':List Lay) (tc:Nat) (side:Bool):Operand→AV
 | .const v=>avOf v
 | .tmp s=>match look loc env s with
  | (d,v)=>match Nat.ble d stk'.length with
   | true=>(look loc' env s).2
   | false=>match getLay d stk with
    | some l=>match Nat.beq l.tmp tc&&boolEq l.pol side with
     | true=>v
     | false=>.undef
    | none=>.undef
 | _=>.undef
def evPick (loc loc':Loc) (env:Env) (stk stk':List Lay) (c a b:Operand) (k:AV→Prop):Prop :=
 match c with
 | .tmp tc=>match look loc' env tc with
  | (_,.bool cb)=>match a with
   | .const (.bool true)=>match sideVal loc loc' env stk stk' tc false b with
    | .bool y=>k (.bool (cb||y))
    | .undef=>match cb with
     | true=>k (.bool true)
     | false=>False
    | _=>False
   | _=>match b with
    | .const (.bool false)=>match sideVal loc loc' env stk stk' tc true a with
     | .bool x=>k (.bool (cb&&x))
     | .undef=>match cb with
      | false=>k (.bool false)
      | true=>False
     | _=>False
    | _=>False
  | _=>False
 | _=>False
def putK (dst:Option Nat) (stk:List Lay) (v:AV) (loc:Loc) (k:Loc→Prop):Prop :=
 match dst with
 | none=>k loc
 | some t=>forceAV v fun v=>lenK stk 0 fun d=>k ((t,d,v)::loc)
theorem putK_iff {dst:Option Nat} {stk:List Lay} {v:AV} {loc:Loc} {k:Loc→Prop}:putK dst stk v loc k↔k (putLoc dst stk.length v loc):=by
 cases dst<;>simp [putK,putLoc,forceAV_iff,lenK_iff]
def effOp (T:Tab) (o:Oper):Bool :=
 match o.op with
 | .alloc _=>true
 | .box _ _=>true
 | .buildSlice _ _ _=>true
 | .store _ _ _=>true
 | .mapUpdate _ _ _ _=>true
 | .makeMap _ _=>true
 | .makeSlice _ _ _=>true
 | .call c=>match c.callee with
  | .builtin .append=>true
  | .value _=>match lkT T o.type with
   | some ⟨.int _,_,_,_⟩=>false
   | some ⟨.bool,_,_,_⟩=>false
   | some ⟨.string,_,_,_⟩=>false
   | _=>true
  | _=>false
 | _=>false
def gated (T:Tab) (g:Option Bool) (o:Oper):Option Bool :=
 match g with
 | none=>none
 | some b=>match effOp T o with
  | true=>some b
  | false=>none
theorem gated_some {T:Tab} {g:Option Bool} {o:Oper} {b:Bool} (h:gated T g o=some b):g=some b:=by
 unfold gated at h
 split at h
 ·cases h
 ·split at h
  ·exact h
  ·cases h
def stepK [Tabs] (C:Cx) (det:Bool) (o:Oper) (loc loc':Loc) (env:Env) (stk stk':List Lay) (H:Heap) (nx:Nat) (next:AV→List (Nat×AB)→Nat→Prop):Prop :=
 match o.op with
 | .pick c a b=>evPick loc loc' env stk stk' c a b fun v=>next v [] nx
 | _=>match gated C.T (topG stk') o with
  | some b=>(b=true→evOp C det none (rdOp loc' env) H nx o fun r=>match r with
    | ⟨v,_,wr,nx'⟩=>next v wr nx')∧(b=false→next .undef [] nx)
  | none=>evOp C det (topG stk') (rdOp loc' env) H nx o fun r=>match r with
   | ⟨v,_,wr,nx'⟩=>next v wr nx'
def evOps [Tabs] (C:Cx) (det:Bool) (all:List Oper):List Oper→Loc→List Lay→Env→Heap→Nat→(Loc→Heap→Nat→Prop)→Prop
 | [],loc,_,_,H,nx,k=>k loc H nx
 | o::rest,loc,stk,env,H,nx,k=>enter all o.guard loc env stk fun stk' loc' =>
  match dstOk C.N o.dst stk' with
  | false=>False
  | true=>stepK C det o loc loc' env stk stk' H nx fun v wr nx'=>putK o.dst stk' v loc' fun loc2=>pushK wr H fun H'=>evOps C det all rest loc2 stk' env H' nx' k
structure Fr where
 w0:World
 F0:Blocks
 S0:Blocks
 pin:Ids
 ds:List Deferred
structure Core [Tabs] (F:Fr) (m:Ids) (S:Blocks) (w:World) (H:Heap) (nx:Nat):Prop where
 good:Good m S w H
 free:∀ i,nx≤i→m i=none
 far:Far F.F0 F.w0 w
 owns:∀ k,own m H k→F.F0 k∨F.w0.heap.size≤k
 ro:∀ g,S g→F.S0 g∨F.F0 g∨F.w0.heap.size≤g
 ro0:∀ g,F.S0 g→S g
 pins:∀ i v,F.pin i=some v→m i=some v
theorem Core.step [Tabs] {F:Fr} {m m':Ids} {S S':Blocks} {w w':World} {H H':Heap} {nx nx':Nat} (h:Core F m S w H nx) (e:Ext m S w H nx nx' m' S' w' H') (hn:nx≤nx'):Core F m' S' w' H' nx':=by
 refine ⟨e.good,fun i hi=>by rw [e.same i (by omega)];exact h.free i (by omega),?_,fun k hk=>?_,fun g hg=>?_,fun g hg=>e.ros g (h.ro0 g hg),fun i v hi=>e.ids i v (h.pins i v hi)⟩
 ·refine h.far.trans e.far fun i hi ho=>?_
  rcases h.owns i ho with h | h
  ·exact h
  ·omega
 ·rcases e.owns k hk with h1 | h1
  ·exact h.owns k h1
  ·exact .inr (Nat.le_trans h.far.size h1)
 ·rcases e.fresh g hg with h1 | h1 | h1
  ·exact h.ro g h1
  ·exact .inr (h.owns g h1)
  ·exact .inr (.inr (Nat.le_trans h.far.size h1))
theorem RunI.ext [Tabs] {F:Fr} {m m':Ids} {S S':Blocks} {w w':World} {H H':Heap} {nx nx' N:Nat} {tmps:Array Value} {loc:Loc} {env:Env} {stk:List Lay} (h:RunI m S w N tmps loc env stk) (hc:Core F m S w H nx) (e:Ext m S w H nx nx' m' S' w' H') :
  RunI m' S' w' N tmps loc env stk:=by
 refine ⟨h.size,fun s=>?_,h.stk⟩
 have hr:=h.rel s
 revert hr
 generalize look loc env s=q
 obtain ⟨d,a⟩:=q
 intro hr
 cases d with
 | zero=>exact e.relV hc.good hr
 | succ d =>
  obtain ⟨l,h1,h2,h3⟩:=hr
  exact ⟨l,h1,fun hg=>e.relV hc.good (h2 hg),h3⟩
theorem StkOk.set {tmps:Array Value} {d:Nat} {v:Value}:∀ {stk:List Lay},StkOk tmps stk→notTag d stk=true→StkOk (tmps.setIfInBounds d v) stk
 | [],_,_=>trivial
 | l::r,h,hn=>by
  have hne:=notTag_spec hn
  refine ⟨StkOk.set h.1 ?_,?_,h.2.2⟩
  ·unfold notTag at hn
   split at hn
   ·cases hn
   ·exact hn
  ·rw [← h.2.1]
   unfold yieldT
   rw [Array.getElem?_setIfInBounds_ne (fun e=>hne l (by simp) e.symm)]
theorem getD_set {tmps:Array Value} {d s:Nat} {v:Value} (h:d<tmps.size):(tmps.setIfInBounds d v).getD s undef=if d=s then v else tmps.getD s undef:=by
 by_cases e:d=s
 ·subst e;simp [Array.getD,h]
 ·rw [if_neg e]
  by_cases hs:s<tmps.size
  ·simp [Array.getD,hs,Array.getElem_setIfInBounds_ne hs (fun h=>e h)]
  ·simp [Array.getD,hs]
theorem look_put {t d:Nat} {v:AV} {loc:Loc} {env:Env} {s:Nat}:look ((t,d,v)::loc) env s=if t=s then (d,v) else look loc env s:=by
 show (match Nat.beq t s with | true=>(d,v) | false=>look loc env s)=_
 by_cases e:t=s
 ·subst e;simp
 ·have hb:Nat.beq t s=false:=by
   cases h:Nat.beq t s with
   | false=>rfl
   | true=>exact (e (Nat.eq_of_beq_eq_true h)).elim
  rw [if_neg e,hb]
theorem RunI.put {m:Ids} {S:Blocks} {w:World} {N:Nat} {a:Act} {loc:Loc} {env:Env} {stk:List Lay} (h:RunI m S w N a.tmps loc env stk) {dst:Option Nat} {v:Value} {av:AV} (hd:dstOk N dst stk=true)
  (hv:(gOk (topG stk)∧RelV m S w v av)∨(¬ gOk (topG stk)∧v=undef)):RunI m S w N (a.put dst v).tmps (putLoc dst stk.length av loc) env stk:=by
 cases dst with
 | none=>exact h
 | some d =>
  simp only [dstOk,Bool.and_eq_true] at hd
  obtain ⟨h1,h2⟩:=hd
  have hlt:d<a.tmps.size:=by rw [h.size];simpa [Nat.blt_eq] using h1
  refine ⟨by simp [Act.put,h.size],fun s=>?_,h.stk.set h2⟩
  show EntRel m S w stk ((a.tmps.setIfInBounds d v).getD s undef) (look ((d,stk.length,av)::loc) env s)
  rw [getD_set hlt,look_put]
  by_cases e:d=s
  ·rw [if_pos e,if_pos e]
   cases stk with
   | nil =>
    rcases hv with ⟨_,hv⟩ | ⟨hn,_⟩
    ·exact hv
    ·exact (hn trivial).elim
   | cons l r =>
    refine ⟨l,by simp [getLay],fun hg=>?_,fun hg=>?_⟩
    ·rcases hv with ⟨_,hv⟩ | ⟨hn,_⟩
     ·exact hv
     ·exact (hn hg).elim
    ·rcases hv with ⟨hn,_⟩ | ⟨_,hv⟩
     ·simp only [topG,gOk] at hn;rw [hg] at hn;cases hn
     ·exact hv
  ·rw [if_neg e,if_neg e]
   exact h.rel s
theorem RunI.read {m:Ids} {S:Blocks} {w:World} {N:Nat} {a:Act} {loc:Loc} {env:Env} {stk:List Lay} (h:RunI m S w N a.tmps loc env stk) (hg:gOk (topG stk)) (x:Operand):RelV m S w (a.eval x) (rdOp loc env x):=by
 cases x with
 | tmp s =>
  have hr:=h.rel s
  show RelV m S w (a.tmps.getD s undef) (look loc env s).2
  revert hr
  generalize look loc env s=q
  obtain ⟨d,av⟩:=q
  intro hr
  cases d with
  | zero=>exact hr
  | succ d =>
   obtain ⟨l,h1,h2,_⟩:=hr
   exact h2 (allG_mem (allG_top h.stk hg) l (getLay_mem h1))
 | const v=>exact .t _ _ (relT_avOf S w v)
 | global g=>exact .t _ _ (.undef _)
 | func f=>exact .t _ _ (.fn _ _ _ _ _ rfl rfl (fun j c x hj=>by simp at hj) (fun j c x hj=>by simp at hj))
theorem relV_bool {m:Ids} {S:Blocks} {w:World} {v:Value} {b:Bool} (h:RelV m S w v (.bool b)):v=.bool b:=by
 cases h with
 | t _ _ h=>cases h;rfl
theorem sideVal_sound {m:Ids} {S:Blocks} {w:World} {N:Nat} {a:Act} {loc loc':Loc} {env:Env} {stk stk':List Lay} (h:RunI m S w N a.tmps loc env stk) (h':RunI m S w N a.tmps loc' env stk') (hg:gOk (topG stk'))
  {tc:Nat} {side:Bool} (hc:a.tmps.getD tc undef=.bool side) (x:Operand):RelV m S w (a.eval x) (sideVal loc loc' env stk stk' tc side x):=by
 cases x with
 | const v=>exact .t _ _ (relT_avOf S w v)
 | global g=>exact .t _ _ (.undef _)
 | func f=>exact .t _ _ (.undef _)
 | tmp s =>
  obtain ⟨d,av,hq⟩:∃ d av,look loc env s=(d,av):=⟨_,_,rfl⟩
  have hr:=h.rel s
  rw [hq] at hr
  unfold sideVal
  simp only [hq]
  split
  ·exact h'.read hg (.tmp s)
  ·split
   ·rename_i l hl
    split
    ·rename_i hb
     simp only [Bool.and_eq_true] at hb
     have e1:=Nat.eq_of_beq_eq_true hb.1
     have e2:l.pol=side:=by
      have:=hb.2
      cases hlp:l.pol<;>cases side<;>simp [hlp,boolEq] at this ⊢
     cases d with
     | zero=>exact hr
     | succ d =>
      obtain ⟨l',h1,h2,_⟩:=hr
      rw [hl] at h1
      cases h1
      refine h2 ?_
      have hmem:=getLay_mem hl
      have hstk:∀ {stk:List Lay},StkOk a.tmps stk→∀ l∈stk,(yieldT a.tmps l.tmp == some l.pol)=l.g:=by
       intro stk
       induction stk with
       | nil=>intro _ l h;simp at h
       | cons l r ih =>
        intro hs l' hl'
        rcases List.mem_cons.1 hl' with rfl | hl'
        ·exact hs.2.1
        ·exact ih hs.1 l' hl'
      rw [← hstk h.stk l hmem,e1,e2,yieldT_eq hc]
      simp
    ·exact .t _ _ (.undef _)
   ·exact .t _ _ (.undef _)
theorem evPick_sound {m:Ids} {S:Blocks} {w:World} {N:Nat} {loc loc':Loc} {env:Env} {stk stk':List Lay} {P:Program} {o:Oper} {c x y:Operand} (ho:o.op=.pick c x y) {k:AV→Prop} (hk:evPick loc loc' env stk stk' c x y k) :
  ∃ av,k av∧∀ (a:Act),RunI m S w N a.tmps loc env stk→RunI m S w N a.tmps loc' env stk'→gOk (topG stk')→∃ v,(execOp a.eval o).run P w=.ok (.value v) w∧RelV m S w v av:=by
 unfold evPick at hk
 split at hk
 ·rename_i tc
  split at hk
  ·rename_i d cb hl
   have hcv:∀ (a:Act),RunI m S w N a.tmps loc' env stk'→gOk (topG stk')→a.tmps.getD tc undef=.bool cb:=by
    intro a h' hg
    have:=h'.read (a:=a) hg (.tmp tc)
    simp only [rdOp,hl] at this
    exact relV_bool this
   have hrun:∀ (a:Act),RunI m S w N a.tmps loc' env stk'→gOk (topG stk')→(execOp a.eval o).run P w=.ok (.value (if cb then a.eval x else a.eval y)) w:=by
    intro a h' hg
    have:=hcv a h' hg
    unfold execOp
    have hev:a.eval (.tmp tc)=.bool cb:=this
    simp [ho,hev,asBool]
   split at hk
   ·split at hk
    ·rename_i yb hs
     refine ⟨_,hk,fun a h h' hg=>⟨_,hrun a h' hg,?_⟩⟩
     cases cb with
     | true=>simp;exact .t _ _ (.bool true)
     | false =>
      have:=sideVal_sound h h' hg (hcv a h' hg) y
      rw [hs] at this
      simpa using this
    ·split at hk
     ·exact ⟨_,hk,fun a h h' hg=>⟨_,hrun a h' hg,.t _ _ (.bool true)⟩⟩
     ·exact hk.elim
    ·exact hk.elim
   ·split at hk
    ·split at hk
     ·rename_i xb hs
      refine ⟨_,hk,fun a h h' hg=>⟨_,hrun a h' hg,?_⟩⟩
      cases cb with
      | false=>simp;exact .t _ _ (.bool false)
      | true =>
       have:=sideVal_sound h h' hg (hcv a h' hg) x
       rw [hs] at this
       simpa using this
     ·split at hk
      ·exact ⟨_,hk,fun a h h' hg=>⟨_,hrun a h' hg,.t _ _ (.bool false)⟩⟩
      ·exact hk.elim
     ·exact hk.elim
    ·exact hk.elim
  ·exact hk.elim
 ·exact hk.elim
theorem evOps_seq [Tabs] {C:Cx} (hT:TabOk C.P C.T) {det:Bool} {F:Fr} {all:List Oper} {Q:Exit→Act→World→Prop}:∀ (rest:List Oper) (i:Nat) (loc:Loc) (stk:List Lay) (env:Env) (H:Heap) (nx:Nat) (k:Loc→Heap→Nat→Prop),(∀ j,rest[j]?=all[i+j]?)→evOps C det all rest loc stk env H nx k →
  (∀ (m:Ids) (S:Blocks) (w:World) (a:Act) (loc:Loc) (stk:List Lay) (H:Heap) (nx:Nat),k loc H nx→Core F m S w H nx→RunI m S w C.N a.tmps loc env stk→a.defers=F.ds→Q .normal a w) →
  (∀ (m:Ids) (S:Blocks) (w:World) (a:Act) (H:Heap) (nx:Nat) (ch:List PanicEntry),C.px ch→Core F m S w H nx→a.tmps.size=C.N→a.defers=F.ds→Q (.panic ch) a w) →
  ∀ (m:Ids) (S:Blocks) (w:World) (a:Act),Core F m S w H nx→RunI m S w C.N a.tmps loc env stk→a.defers=F.ds→wpOps C.P all.toArray Q (List.range' i rest.length) a w
 | [],i,loc,stk,env,H,nx,k,_,h,hQ,_,m,S,w,a,hc,hr,hd=>hQ m S w a loc stk H nx h hc hr hd
 | o::rest,i,loc,stk,env,H,nx,k,hall,h,hQ,hP,m,S,w,a,hc,hr,hd=>by
  have hi:all.toArray[i]?=some o:=by
   have:=hall 0
   simpa using this.symm
  have hall':∀ j,rest[j]?=all[i+1+j]?:=fun j=>by
   have:=hall (j+1)
   rw [List.getElem?_cons_succ] at this
   rw [this]
   congr 1
   omega
  obtain ⟨stk',loc',h,hr',hwant,hdep,_⟩:=enter_sound h hr
  rw [List.length_cons,List.range'_succ]
  simp only [wpOps,hi]
  split at h
  ·exact h.elim
  ·rename_i hdst
   have skip:∀ (v:AV),¬ gOk (topG stk')→(∀ (hr2:RunI m S w C.N (a.put o.dst undef).tmps (putLoc o.dst stk'.length v loc') env stk'),wpOps C.P all.toArray Q (List.range' (i+1) rest.length) (a.put o.dst undef) w) →
     (if Region.wanted o (yielded all.toArray a.tmps)=true then o.wp C.P a w (wpOps C.P all.toArray Q (List.range' (i+1) rest.length)) Q∨(o.asks C.P a w∧LetsOut Q) else wpOps C.P all.toArray Q (List.range' (i+1) rest.length) (a.put o.dst undef) w):=by
    intro v hg hnext
    rw [if_neg (fun hw=>hg (hwant.1 hw))]
    exact hnext (hr'.put hdst (.inr ⟨hg,rfl⟩))
   have hdp:∀ (v:Value),(a.put o.dst v).defers=F.ds:=by
    intro v
    cases hdo:o.dst<;>simp [Act.put,hd]
   unfold stepK at h
   by_cases hg:gOk (topG stk')
   ·rw [if_pos (hwant.2 hg)]
    left
    split at h
    ·rename_i c x y ho
     obtain ⟨av,hk,hrun⟩:=evPick_sound (m:=m) (S:=S) (w:=w) (N:=C.N) (P:=C.P) ho h
     obtain ⟨v,he,hv⟩:=hrun a hr hr' hg
     unfold Oper.wp
     rw [he,Oper.upon_value]
     exact evOps_seq hT rest (i+1) _ stk' env H nx k hall' (pushK_iff.1 (putK_iff.1 hk)) hQ hP m S w _ hc (hr'.put hdst (.inl ⟨hg,hv⟩)) (hdp v)
    ·split at h
     ·rename_i b hb
      have hg':=gated_some hb
      have hbt:b=true:=by rw [hg'] at hg;exact hg
      obtain ⟨touch,Rr,h1,h2,h3,h4⟩:=evOp_sound hT (h.1 hbt)
      refine h1 trivial m S w a H _ Q hc.good (fun _ _=>rfl) (fun i hi _=>hc.free i hi) (fun u hu _=>?_) (fun r hR v m' S' w' hE hV=>?_) (fun ch hx m' S' w' wr hE=>hP m' S' w' a (wr++H) nx ch hx (hc.step hE (Nat.le_refl _)) hr'.size hd)
      ·obtain ⟨x,hx,rfl⟩:=List.mem_map.1 hu
       exact hr'.read hg x
      ·obtain ⟨hn,hk⟩:=h4 r hR
       obtain ⟨rv,rt,rw,rn⟩:=r
       exact evOps_seq hT rest (i+1) _ stk' env _ _ k hall' (pushK_iff.1 (putK_iff.1 hk)) hQ hP m' S' w' _ (hc.step hE hn) ((hr'.ext hc hE).put hdst (.inl ⟨hg,hV⟩)) (hdp v)
     obtain ⟨touch,Rr,h1,h2,h3,h4⟩:=evOp_sound hT h
     refine h1 hg m S w a H _ Q hc.good (fun _ _=>rfl) (fun i hi _=>hc.free i hi) (fun u hu _=>?_) (fun r hR v m' S' w' hE hV=>?_) (fun ch hx m' S' w' wr hE=>hP m' S' w' a (wr++H) nx ch hx (hc.step hE (Nat.le_refl _)) hr'.size hd)
     ·obtain ⟨x,hx,rfl⟩:=List.mem_map.1 hu
      exact hr'.read hg x
     ·obtain ⟨hn,hk⟩:=h4 r hR
      obtain ⟨rv,rt,rw,rn⟩:=r
      exact evOps_seq hT rest (i+1) _ stk' env _ _ k hall' (pushK_iff.1 (putK_iff.1 hk)) hQ hP m' S' w' _ (hc.step hE hn) ((hr'.ext hc hE).put hdst (.inl ⟨hg,hV⟩)) (hdp v)
   ·split at h
    ·rename_i c x y ho
     obtain ⟨av,hk,_⟩:=evPick_sound (m:=m) (S:=S) (w:=w) (N:=C.N) (P:=C.P) ho h
     exact skip av hg fun hr2=>evOps_seq hT rest (i+1) _ stk' env H nx k hall' (pushK_iff.1 (putK_iff.1 hk)) hQ hP m S w _ hc hr2 (hdp undef)
    ·split at h
     ·rename_i b hb
      have hg':=gated_some hb
      have hbf:b=false:=by
       rw [hg'] at hg
       cases b with
       | true=>exact (hg rfl).elim
       | false=>rfl
      exact skip .undef hg fun hr2=>evOps_seq hT rest (i+1) _ stk' env H nx k hall' (pushK_iff.1 (putK_iff.1 (h.2 hbf))) hQ hP m S w _ hc hr2 (hdp undef)
     obtain ⟨touch,Rr,h1,h2,h3,h4⟩:=evOp_sound hT h
     obtain ⟨r,hR,hwr,hnx⟩:=h2 hg
     obtain ⟨_,hk⟩:=h4 r ((hR r).2 rfl)
     obtain ⟨rv,rt,rw,rn⟩:=r
     simp only at hwr hnx
     subst hwr
     subst hnx
     refine skip rv hg fun hr2=>?_
     exact evOps_seq hT rest (i+1) _ stk' env _ _ k hall' (pushK_iff.1 (putK_iff.1 hk)) hQ hP m S w _ hc hr2 (hdp undef)
def valD:AV→Option Value
 | .bool b=>some (.bool b)
 | .int k n=>some (.int k n)
 | .str l=>some (.string ⟨l.toArray⟩)
 | _=>none
theorem valD_eq {m:Ids} {S:Blocks} {w:World} {v u:Value} {a:AV} (h:RelV m S w v a) (hd:valD a=some u):v=u:=by
 cases a<;>simp [valD] at hd
 all_goals subst hd
 ·exact relV_bool h
 ·exact relV_int h
 ·cases h with
  | t _ _ h=>cases h with
   | str s l hs=>rw [← hs]
theorem valD_rel {m:Ids} {S:Blocks} {w:World} {u:Value} {a:AV} (hd:valD a=some u):RelV m S w u a:=by
 cases a<;>simp [valD] at hd
 all_goals subst hd
 ·exact .t _ _ (.bool _)
 ·exact .t _ _ (.int _ _)
 ·exact .t _ _ (.str _ _ (by simp))
inductive CallQ [Tabs] (P:Program) (f:FuncId) (avs:List AV) (H:Heap) (nx:Nat) (g:Option Bool) (k:Res→Prop):Prop
 | mk (args':List AV) (touch:List Nat) (a:AV) (v:Value) (hc:gOk g→APureV P f args' a) (hb:BorL (Lend H) avs args' touch) (ha:valD a=some v) (hk:k ⟨a,touch,[],nx⟩)
def evOpQ [Tabs] (C:Cx) (g:Option Bool) (rd:Operand→AV) (H:Heap) (nx:Nat) (o:Oper) (k:Res→Prop):Prop :=
 match o.op with
 | .move x=>k ⟨rd x,[],[],nx⟩
 | .assign x=>k ⟨rd x,[],[],nx⟩
 | .build t parts=>evBuild C.T nx t (parts.toList.map fun p=>(p.1,rd p.2)) k
 | .load t x=>evLoad C.T g H nx t (rd x) k
 | .nilCheck x=>evNilCheck (rd x) fun v=>k ⟨v,[],[],nx⟩
 | .binOp op t x y _=>match isNilX y with
  | true=>evNilX C.T op t y (rd x) fun v=>k ⟨v,[],[],nx⟩
  | false=>evBin2 C.P C.T g op t (rd x) (rd y) fun v=>k ⟨v,[],[],nx⟩
 | .lookup t x y ok=>evLookup C.P C.T H nx t (rd x) (rd y) ok k
 | .unOp op _ x=>evUn g op (rd x) fun v=>k ⟨v,[],[],nx⟩
 | .convert s d x=>evConvX C.T g H nx s d (rd x) k
 | .makeFunc fn first cap=>k ⟨.fn fn (first.toList.map rd) (cap.toList.map rd),[],[],nx⟩
 | .slice t x lo hi none=>evSlice C.T g H nx t (rd x) (lo.map rd) (hi.map rd) k
 | .fieldAddr t x f=>evFieldAddr C.T nx t (rd x) f k
 | .field t x f=>evField C.T nx t (rd x) f k
 | .indexAddr t x i=>match queOf H (rd x) with
  | some id=>evIndexAddrQ C.T g H nx t id (rd i) k
  | none=>evIndexAddr C.T g H nx t (rd x) (rd i) k
 | .index t x i=>evIndex C.T g t (rd x) (rd i) fun v=>k ⟨v,[],[],nx⟩
 | .extract x n=>evExtract nx (rd x) n k
 | .call c=>match c.callee with
  | .builtin .len=>match c.args.toList,c.argTypes.toList with
   | [x],[t]=>match queOf H (rd x) with
    | some id=>evLenQ C.T H nx t id k
    | none=>evLen C.T H nx t (rd x) k
   | _,_=>False
  | .builtin .min=>match c.args.toList with
   | [x,y]=>evMin false (rd x) (rd y) fun v=>k ⟨v,[],[],nx⟩
   | _=>False
  | .builtin .max=>match c.args.toList with
   | [x,y]=>evMin true (rd x) (rd y) fun v=>k ⟨v,[],[],nx⟩
   | _=>False
  | .value fop=>match rd fop with
   | .fn (.func f) first cap=>forceL (first++c.args.toList.map rd++cap) fun avs=>CallQ C.P f avs H nx g k
   | _=>False
  | _=>False
 | _=>False
def OpSemQ [Tabs] (P:Program) (o:Oper) (us:Uses) (H:Heap) (v:AV) (touch:List Nat):Prop :=
 ∀ (m:Ids) (S:Blocks) (w:World) (a:Act) (H₂:Heap),Good m S w H₂→(∀ id∈touch,lkH H₂ id=lkH H id)→(∀ u∈us,u.2.1=true→RelV m S w (a.eval u.1) u.2.2) →
  ∃ u,RelV m S w u v∧∀ w',RowKit.Below w.heap.size w w'→o.quietAt P a (RowKit.Below w.heap.size w) w' u
theorem OpSemP.quiet [Tabs] {P:Program} {o:Oper} {us us':Uses} {H:Heap} {nx:Nat} {r:Res} (h:OpSemP P o us H nx r) (hu:∀ u∈us,u∈us'):OpSemQ P o us' H r.v r.touch:=by
 intro m S w a H₂ hG ht hus
 obtain ⟨u,hr,hv⟩:=h.2 m S w a H₂ hG ht (fun u hm=>hus u (hu u hm))
 refine ⟨u,hv,fun w' hw'=>?_⟩
 unfold Oper.quietAt
 rw [hr w' ⟨hw'.size,hw'.block⟩]
 exact ⟨rfl,rfl⟩
theorem sem_callQ [Tabs] {P:Program} {o:Oper} {fop:Operand} {as:Array Operand} {ts:Array TypeId} (ho:o.op=.call { callee:=.value fop,args:=as,argTypes:=ts })
  {rd:Operand→AV} {H:Heap} {f:FuncId} {first cap:List AV} (hf:rd fop=.fn (.func f) first cap) {args':List AV} {touch:List Nat}
  (hb:BorL (Lend H) (first++as.toList.map rd++cap) args' touch) {av:AV} {v:Value} (hc:APureV P f args' av) (hv:valD av=some v) :
  OpSemQ P o ((fop::as.toList).map fun y=>(y,true,rd y)) H av touch:=by
 intro m S w a H₂ hG ht hus
 have hfn:RelV m S w (a.eval fop) (rd fop):=hus (fop,true,rd fop) (by simp) rfl
 rw [hf] at hfn
 obtain ⟨fs,cs,hfv,hfl,hcl,r1,r3⟩:=relV_fn hfn
 obtain ⟨⟨fn,hfun,hbody,hname⟩,hcall⟩:=hc
 have hvs:(fs++as.map a.eval++cs)=(fs.toList++as.toList.map a.eval++cs.toList).toArray:=by
  apply Array.ext'
  simp
 have hexec:∀ w',(execOp a.eval o).run P w'=.ok (.enter f (fs.toList++as.toList.map a.eval++cs.toList).toArray) w':=by
  intro w'
  rw [← hvs]
  unfold execOp
  have hb':¬ fn.body=none:=by intro e;simp [e] at hbody
  have hn' : ¬ fn.name = "runtime.NumGoroutine" := by simpa using hname
  simp [ho,resolve,hfv,Deferred.ofValue,invoke,callFunc,hfun,hn',hb']
 have r2:∀ (j:Nat) (c:Value) (p:AV),(as.toList.map a.eval)[j]?=some c→(as.toList.map rd)[j]?=some p→RelV m S w c p:=by
  intro j c p hj hp
  simp only [List.getElem?_map,Option.map_eq_some_iff] at hj hp
  obtain ⟨y,hy,rfl⟩:=hj
  obtain ⟨y',hy',rfl⟩:=hp
  rw [hy] at hy'
  cases hy'
  exact hus (y,true,rd y) (List.mem_map.2 ⟨y,List.mem_cons.2 (.inr (List.mem_of_getElem? hy)),rfl⟩) rfl
 obtain ⟨hlen,hbor⟩:=borL_sound (lend_ok H) hb
 refine ⟨v,valD_rel hv,fun w' hw'=>?_⟩
 unfold Oper.quietAt
 rw [hexec w']
 refine ⟨rfl,?_⟩
 have hlt:∀ g,(S g∨lent m H₂ touch g)→g<w.heap.size:=by
  rintro g (h | ⟨i,v,hi,hl,hm,hk⟩)
  ·exact (hG.ro g h).1
  ·exact hG.blk_lt hl hm hk
 refine (hcall (fun g=>S g∨lent m H₂ touch g) w' _ (fun g hg=>Nat.lt_of_lt_of_le (hlt g hg) hw'.size) (hG.tab.mono (fun _ h=>.inl h) fun g hg=>hw'.block g (hG.ro g hg).1) ⟨?_,?_⟩).mono ?_
 ·rw [hlen]
  simp [hfl,hcl]
 ·intro j c p hj hp
  refine (hbor m S w H₂ (fun g=>S g∨lent m H₂ touch g) hG ht (fun g h=>.inl h) (fun g h=>.inr h) _ (by simp [hfl,hcl]) (list3_get (by simpa using hfl) (by simp) (fun j c p h=>r1 j c p (by simpa using h)) r2 (fun j c p h=>r3 j c p (by simpa using h))) j c p hj hp).mono (fun _ h=>h) (fun g hg=>hw'.block g (hlt g hg))
 ·rintro e w'' ⟨us,rs,S'',rfl,rfl,hL⟩
  refine ⟨?_,hw'.trans (hL.below.mono hw'.size)⟩
  have hl:=hL.len
  match us,hl with
  | [u],_ =>
   have h0:RelR S'' w'' w'.heap.size u (.val av):=hL.rel 0 u _ rfl rfl
   rw [valD_eq (m:=fun _=>none) (.t _ _ h0) hv]
   rfl
def ShownQ [Tabs] (P:Program) (g:Option Bool) (rd:Operand→AV) (H:Heap) (nx:Nat) (o:Oper) (k:Res→Prop):Prop :=
 ∃ v touch,(gOk g→OpSemQ P o (usesOf rd o) H v touch)∧k ⟨v,touch,[],nx⟩
theorem shownQ_pure [Tabs] {P:Program} {g:Option Bool} {rd:Operand→AV} {H:Heap} {nx:Nat} {o:Oper} {k:Res→Prop} {us:Uses} (hu:∀ u∈us,u∈usesOf rd o)
  (h:∃ r,(gOk g→OpSemP P o us H nx r)∧(r.wr=[]∧r.nx=nx)∧k r):ShownQ P g rd H nx o k:=by
 obtain ⟨r,h1,⟨h2,h3⟩,h4⟩:=h
 refine ⟨r.v,r.touch,fun hg=>(h1 hg).quiet hu,?_⟩
 obtain ⟨v,t,wr,n⟩:=r
 simp only at h2 h3
 subst h2
 subst h3
 exact h4
theorem shownQ_pure' [Tabs] {P:Program} {g:Option Bool} {rd:Operand→AV} {H:Heap} {nx:Nat} {o:Oper} {k:Res→Prop} {us:Uses} (hu:∀ u∈us,u∈usesOf rd o)
  (h:∃ r,OpSemP P o us H nx r∧(r.wr=[]∧r.nx=nx)∧k r):ShownQ P g rd H nx o k :=
 shownQ_pure hu (let ⟨r,h1,h2⟩:=h;⟨r,fun _=>h1,h2⟩)
theorem evOpQ_sound [Tabs] {C:Cx} (hT:TabOk C.P C.T) {g:Option Bool} {rd:Operand→AV} {H:Heap} {nx:Nat} {o:Oper} {k:Res→Prop} (h:evOpQ C g rd H nx o k):ShownQ C.P g rd H nx o k:=by
 unfold evOpQ at h
 split at h
 ·rename_i x ho
  exact shownQ_pure' (uses_all (l:=[x]) (by rw [ho];simp [Op.operands])) (evMove_sound (.inl ho) h)
 ·rename_i x ho
  exact shownQ_pure' (uses_all (l:=[x]) (by rw [ho];simp [Op.operands])) (evMove_sound (.inr ho) h)
 ·rename_i t parts ho
  refine shownQ_pure' (us:=parts.toList.map fun p=>(p.2,true,rd p.2)) (fun u hu=>?_) (evBuild_sound hT ho h)
  obtain ⟨p,hp,rfl⟩:=List.mem_map.1 hu
  exact List.mem_map.2 ⟨p.2,by rw [ho];simp [Op.operands];exact ⟨p.1,by simpa using hp⟩,rfl⟩
 ·rename_i t x ho
  exact shownQ_pure (uses_all (l:=[x]) (by rw [ho];simp [Op.operands])) (evLoad_sound hT ho h)
 ·rename_i x ho
  exact shownQ_pure' (uses_all (l:=[x]) (by rw [ho];simp [Op.operands])) (evNilCheck_sound ho h)
 ·rename_i op t x y yt ho
  split at h
  ·rename_i hyn
   exact shownQ_pure' (uses_all (l:=[x,y]) (by rw [ho];simp [Op.operands])) (evNilX_sound hT ho h)
  exact shownQ_pure (uses_all (l:=[x,y]) (by rw [ho];simp [Op.operands])) (evBin2_sound hT ho h)
 ·rename_i t x y ok ho
  exact shownQ_pure' (uses_all (l:=[x,y]) (by rw [ho];simp [Op.operands])) (evLookup_sound hT ho h)
 ·rename_i op t x ho
  exact shownQ_pure (uses_all (l:=[x]) (by rw [ho];simp [Op.operands])) (evUn_sound ho h)
 ·rename_i s d x ho
  exact shownQ_pure (uses_all (l:=[x]) (by rw [ho];simp [Op.operands])) (evConvX_sound hT ho h)
 ·rename_i fn first cap ho
  exact shownQ_pure' (uses_all (l:=first.toList++cap.toList) (by rw [ho];simp [Op.operands])) (evMakeFunc_sound ho h)
 ·rename_i t x lo hi ho
  refine shownQ_pure (us:=optUses rd x lo hi) ?_ (evSlice_sound hT ho h)
  have:optUses rd x lo hi=((x::(lo.toList++hi.toList)).map fun y=>(y,true,rd y)):=rfl
  rw [this]
  exact uses_all (by rw [ho];cases lo<;>cases hi<;>simp [Op.operands])
 ·rename_i t x f ho
  exact shownQ_pure' (uses_all (l:=[x]) (by rw [ho];simp [Op.operands])) (evFieldAddr_sound hT ho h)
 ·rename_i t x f ho
  exact shownQ_pure' (uses_all (l:=[x]) (by rw [ho];simp [Op.operands])) (evField_sound hT ho h)
 ·rename_i t x i ho
  split at h
  ·rename_i id hq
   exact shownQ_pure (uses_all (l:=[x,i]) (by rw [ho];simp [Op.operands])) (evIndexAddrQ_sound hT ho (queOf_own hq) h)
  ·exact shownQ_pure (uses_all (l:=[x,i]) (by rw [ho];simp [Op.operands])) (evIndexAddr_sound hT ho h)
 ·rename_i t x i ho
  exact shownQ_pure (uses_all (l:=[x,i]) (by rw [ho];simp [Op.operands])) (evIndex_sound hT ho h)
 ·rename_i x n ho
  exact shownQ_pure' (uses_all (l:=[x]) (by rw [ho];simp [Op.operands])) (evExtract_sound ho h)
 ·rename_i c ho
  obtain ⟨callee,args,ats⟩:=c
  cases callee with
  | invoke r m=>exact h.elim
  | builtin b =>
   have hops:o.op.operands.toList=args.toList:=by rw [ho];simp [Op.operands,Call.operands]
   cases b with
   | len =>
    simp only at h
    split at h
    ·rename_i x t hx ht
     have ha:args=#[x]:=by apply Array.ext';simpa using hx
     have hb:ats=#[t]:=by apply Array.ext';simpa using ht
     subst ha
     subst hb
     split at h
     ·rename_i id hq
      exact shownQ_pure' (uses_all (l:=[x]) (by rw [hops];simp)) (evLenQ_sound hT ho (queOf_own hq) h)
     ·exact shownQ_pure' (uses_all (l:=[x]) (by rw [hops];simp)) (evLen_sound hT ho h)
    ·exact h.elim
   | min =>
    simp only at h
    split at h
    ·rename_i x y hx
     have ha:args=#[x,y]:=by apply Array.ext';simpa using hx
     subst ha
     exact shownQ_pure' (uses_all (l:=[x,y]) (by rw [hops];simp)) (evMin_sound (isMax:=false) ho h)
    ·exact h.elim
   | max =>
    simp only at h
    split at h
    ·rename_i x y hx
     have ha:args=#[x,y]:=by apply Array.ext';simpa using hx
     subst ha
     exact shownQ_pure' (uses_all (l:=[x,y]) (by rw [hops];simp)) (evMin_sound (isMax:=true) ho h)
    ·exact h.elim
   | _=>exact h.elim
  | value fop =>
   have hops:o.op.operands.toList=fop::args.toList:=by rw [ho];simp [Op.operands,Call.operands]
   simp only at h
   split at h
   ·rename_i f first cap hf
    rw [forceL_iff] at h
    obtain ⟨args',touch,av,v,hc,hb,ha,hk⟩:=h
    have hu:∀ u∈((fop::args.toList).map fun y=>(y,true,rd y):Uses),u∈usesOf rd o:=uses_all (by rw [hops];simp)
    exact ⟨av,touch,fun hg m S w a H₂ hG ht hus=>sem_callQ ho hf hb (hc hg) ha m S w a H₂ hG ht (fun u hm=>hus u (hu u hm)),hk⟩
   ·exact h.elim
 ·exact h.elim
def evOpsQ [Tabs] (C:Cx) (H:Heap) (nx:Nat) (env:Env) (all:List Oper):List Oper→Loc→List Lay→(Loc→Prop)→Prop
 | [],loc,_,k=>k loc
 | o::rest,loc,stk,k=>enter all o.guard loc env stk fun stk' loc' =>
  match dstOk C.N o.dst stk' with
  | false=>False
  | true=>match o.op with
   | .pick c a b=>evPick loc loc' env stk stk' c a b fun v=>putK o.dst stk' v loc' fun loc2=>evOpsQ C H nx env all rest loc2 stk' k
   | _=>evOpQ C (topG stk') (rdOp loc' env) H nx o fun r=>match r with
    | ⟨v,_,_,_⟩=>putK o.dst stk' v loc' fun loc2=>evOpsQ C H nx env all rest loc2 stk' k
theorem evOpsQ_sound [Tabs] {C:Cx} (hT:TabOk C.P C.T) {H:Heap} {nx:Nat} {env:Env} {all:List Oper} {m:Ids} {S:Blocks} {w:World} (hG:Good m S w H) {Q:Act→Prop} {ds:List Deferred} :
  ∀ (rest:List Oper) (loc:Loc) (stk:List Lay) (k:Loc→Prop),evOpsQ C H nx env all rest loc stk k →
  (∀ (a:Act) (loc:Loc) (stk:List Lay),k loc→RunI m S w C.N a.tmps loc env stk→a.defers=ds→Q a) →
  ∀ (a:Act),RunI m S w C.N a.tmps loc env stk→a.defers=ds→wpQuiet C.P all.toArray (RowKit.Below w.heap.size w) Q rest a
 | [],loc,stk,k,h,hQ,a,hr,hd=>hQ a loc stk h hr hd
 | o::rest,loc,stk,k,h,hQ,a,hr,hd=>by
  obtain ⟨stk',loc',h,hr',hwant,_,_⟩:=enter_sound h hr
  simp only [wpQuiet]
  split at h
  ·exact h.elim
  ·rename_i hdst
   have hdp:∀ (v:Value),(a.put o.dst v).defers=ds:=by
    intro v
    cases hdo:o.dst<;>simp [Act.put,hd]
   by_cases hg:gOk (topG stk')
   ·rw [if_pos (hwant.2 hg)]
    split at h
    ·rename_i c x y ho
     obtain ⟨av,hk,hrun⟩:=evPick_sound (m:=m) (S:=S) (w:=w) (N:=C.N) (P:=C.P) ho h
     obtain ⟨v,he,hv⟩:=hrun a hr hr' hg
     refine ⟨v,fun w' hw'=>?_,evOpsQ_sound hT hG rest _ stk' k (putK_iff.1 hk) hQ _ (hr'.put hdst (.inl ⟨hg,hv⟩)) (hdp v)⟩
     have he':(execOp a.eval o).run C.P w'=.ok (.value v) w':=by
      unfold execOp at he ⊢
      simp only [ho] at he ⊢
      cases hc:a.eval c<;>simp [hc,asBool] at he ⊢
      exact he
     unfold Oper.quietAt
     rw [he']
     exact ⟨rfl,rfl⟩
    ·obtain ⟨av,touch,h1,h2⟩:=evOpQ_sound hT h
     obtain ⟨u,hu,hq⟩:=h1 hg m S w a H hG (fun _ _=>rfl) (fun u hu _=>by
      obtain ⟨x,hx,rfl⟩:=List.mem_map.1 hu
      exact hr'.read hg x)
     exact ⟨u,fun w' hw'=>hq w' hw',evOpsQ_sound hT hG rest _ stk' k (putK_iff.1 h2) hQ _ (hr'.put hdst (.inl ⟨hg,hu⟩)) (hdp u)⟩
   ·rw [if_neg (fun hw=>hg (hwant.1 hw))]
    split at h
    ·rename_i c x y ho
     obtain ⟨av,hk,_⟩:=evPick_sound (m:=m) (S:=S) (w:=w) (N:=C.N) (P:=C.P) ho h
     exact evOpsQ_sound hT hG rest _ stk' k (putK_iff.1 hk) hQ _ (hr'.put hdst (.inr ⟨hg,rfl⟩)) (hdp undef)
    ·obtain ⟨av,touch,h1,h2⟩:=evOpQ_sound hT h
     exact evOpsQ_sound hT hG rest _ stk' k (putK_iff.1 h2) hQ _ (hr'.put hdst (.inr ⟨hg,rfl⟩)) (hdp undef)
theorem ext_below [Tabs] {m:Ids} {S:Blocks} {w w':World} {H:Heap} {nx:Nat} (h:Good m S w H) (hb:RowKit.Below w.heap.size w w'):Ext m S w H nx nx m S w' H:=by
 refine ⟨fun _ _ h=>h,fun _ _=>rfl,fun _ h=>h,fun _ h=>.inl h,Far.of_below hb,fun _ h=>.inl h,fun id=>?_,h.sep,fun g hg=>⟨Nat.lt_of_lt_of_le (h.ro g hg).1 hb.size,(h.ro g hg).2⟩,h.tab.mono (fun _ h=>h) fun g hg=>hb.block g (h.ro g hg).1⟩
 exact (h.rel id).mono (fun _ _ h=>h) (fun _ h=>h) (fun g hg=>hb.block g (h.ro g hg).1) (fun v k hl hv hk=>hb.block k (h.blk_lt hl hv hk))
end Go.Own
