import Derived.WalkKit
import Derived.WalkSpells
import Derived.WalkLawsBesides
import Derived.MapKept
import Derived.Deep.MidRow
import Derived.Great.BuildSlice
import Derived.Lib.AppendStr
import Derived.Lib.UnsafeStr
import Derived.Laws.IdiomStrings
import Derived.Laws.StructEq
import Derived.Laws.Cover3
namespace Go.Own
inductive KV where
 | vI (k:IntKind) (n:Int)
 | vS (l:List UInt8)
 | vB (x:Bool)
inductive KK where
 | kI (k:IntKind)
 | kS
 | kB
def KV.kk:KV→KK
 | .vI k _=>.kI k
 | .vS _=>.kS
 | .vB _=>.kB
def KV.holds (v:Value):KV→Prop
 | .vI k n=>v=.int k n
 | .vS l=>∃ s,v=.string s∧s.data.toList=l
 | .vB x=>v=.bool x
def KrG (sh:List KK) (v:Value) (ks:List KV):Prop :=
 ks.map KV.kk=sh∧∃ cs:Array Value,v=.agg cs∧cs.size=ks.length∧∀ (j:Nat) (c:Value) (q:KV),cs[j]?=some c→ks[j]?=some q→q.holds c
instance:DecidableEq KV:=fun a b =>
 match a,b with
 | .vI k n,.vI k' n'=>if h:k=k'∧n=n' then .isTrue (by rw [h.1,h.2]) else .isFalse (fun e=>h (by cases e;exact ⟨rfl,rfl⟩))
 | .vS l,.vS l'=>if h:l=l' then .isTrue (by rw [h]) else .isFalse (fun e=>h (by cases e;rfl))
 | .vB x,.vB x'=>if h:x=x' then .isTrue (by rw [h]) else .isFalse (fun e=>h (by cases e;rfl))
 | .vI ..,.vS _=>.isFalse (fun e=>by cases e)
 | .vI ..,.vB _=>.isFalse (fun e=>by cases e)
 | .vS _,.vI ..=>.isFalse (fun e=>by cases e)
 | .vS _,.vB _=>.isFalse (fun e=>by cases e)
 | .vB _,.vI ..=>.isFalse (fun e=>by cases e)
 | .vB _,.vS _=>.isFalse (fun e=>by cases e)
inductive AV:Type 1 where
 | undef
 | bool (b:Bool)
 | int (k:IntKind) (n:Int)
 | str (s:List UInt8)
 | agg (l:List AV)
 | tup (l:List AV)
 | nilp
 | rop (l:List AV)
 | nils
 | lsl (E:Nat) (l:List AV)
 | sl {T:Type} (E:Nat) (enc:T→AV) (d:T) (xs:List T)
 | nilm
 | rsmap {V:Type} (ev:V→AV) (dv:V) (es:List (List UInt8×V))
 | rimap {V:Type} (k:IntKind) (ev:V→AV) (dv:V) (es:List (Int×V))
 | nilf
 | fn (f:Fn) (first captured:List AV)
 | ptr (id off:Nat)
 | eptr (id E i off:Nat)
 | own (id:Nat)
 | pre (id len:Nat)
 | part (id E off len:Nat)
 | map (id:Nat)
 | skip
 | iarr (k:IntKind) (n:Nat) (f:Nat→Int)
 | qptr (id E i:Nat)
 | any1
 | ifc (b:Bool)
 | csl (id n:Nat)
 | rgmap {V:Type} (sh:List KK) (ev:V→AV) (dv:V) (es:List (List KV×V))
 | ival (t:TypeId) (l:List AV)
 | sem (p:(Nat→Prop)→World→Value→Prop)
instance:Inhabited AV:=⟨.undef⟩
def AV.cells:AV→List AV
 | .agg l=>l
 | v=>[v]
def AV.one:AV→Bool
 | .undef | .agg _ | .tup _ | .skip | .iarr ..=>false
 | _=>true
def flat (l:List AV):List AV:=l.flatMap AV.cells
inductive AB:Type 1 where
 | dead
 | cells (e:TypeId) (l:List AV)
 | lst (e:TypeId) (E:Nat) (l:List AV)
 | row {T:Type} (e:TypeId) (E:Nat) (enc:T→AV) (d:T) (xs:List T)
 | smap {V:Type} (ev:V→AV) (dv:V) (es:List (List UInt8×V))
 | imap {V:Type} (k:IntKind) (ev:V→AV) (dv:V) (es:List (Int×V))
 | arr (e:TypeId) (k:IntKind) (n:Nat) (f:Nat→Int)
 | que {T:Type} (e:TypeId) (E:Nat) (enc:T→AV) (d:T) (xs:List T)
 | gmap {V:Type} (sh:List KK) (ev:V→AV) (dv:V) (es:List (List KV×V))
instance:Inhabited AB:=⟨.dead⟩
def kidx:IntKind→Nat
 | .i8=>0 | .i16=>1 | .i32=>2 | .i64=>3 | .u8=>4 | .u16=>5 | .u32=>6 | .u64=>7
theorem kidx_inj {a b:IntKind} (h:Nat.beq (kidx a) (kidx b)=true):a=b:=by
 cases a<;>cases b<;>first | rfl | (simp [kidx] at h)
abbrev Heap:=List (Nat×AB)
abbrev Env:=List (Nat×AV)
def lk:Env→Nat→AV
 | [],_=>.undef
 | (i,v)::r,j=>match Nat.beq i j with
  | true=>v
  | false=>lk r j
def lkH:Heap→Nat→AB
 | [],_=>.dead
 | (i,v)::r,j=>match Nat.beq i j with
  | true=>v
  | false=>lkH r j
def AB.live:AB→Bool
 | .dead=>false
 | _=>true
abbrev Ids:=Nat→Option Value
abbrev Blocks:=Nat→Prop
def blk:Value→Option Nat
 | .pointer (some a)=>some a.block
 | .slice (some a) _ _=>some a.block
 | .map (some r)=>some r
 | _=>none
inductive RelT (S:Blocks) (w:World):Value→AV→Prop
 | undef (v:Value):RelT S w v .undef
 | bool (b:Bool):RelT S w (.bool b) (.bool b)
 | int (k:IntKind) (n:Int):RelT S w (.int k n) (.int k n)
 | str (s:ByteArray) (l:List UInt8) (h:s.data.toList=l):RelT S w (.string s) (.str l)
 | agg (cs:Array Value) (l:List AV) (hl:cs.size=l.length) (h:∀ (j:Nat) (c:Value) (a:AV),cs[j]?=some c→l[j]?=some a→RelT S w c a):RelT S w (.agg cs) (.agg l)
 | tup (cs:Array Value) (l:List AV) (hl:cs.size=l.length) (h:∀ (j:Nat) (c:Value) (a:AV),cs[j]?=some c→l[j]?=some a→RelT S w c a):RelT S w (.tuple cs) (.tup l)
 | nilp:RelT S w (.pointer none) .nilp
 | rop (g o:Nat) (l:List AV) (cs:List Value) (hs:S g) (hl:cs.length=l.length) (h1:∀ a∈l,a.one=true)
   (hc:∀ (j:Nat) (c:Value),cs[j]?=some c→w.cell? ⟨g,o+j,none⟩=some c) (h:∀ (j:Nat) (c:Value) (a:AV),cs[j]?=some c→l[j]?=some a→RelT S w c a) :
   RelT S w (.pointer (some ⟨g,o,none⟩)) (.rop l)
 | nils:RelT S w (.slice none 0 0) .nils
 | lslnil (E:Nat):RelT S w (.slice none 0 0) (.lsl E [])
 | lslz (E:Nat) (a:Addr):RelT S w (.slice (some a) 0 0) (.lsl E [])
 | lsl (E:Nat) (l:List AV) (g o cap:Nat) (cs:List Value) (hs:S g) (hcap:l.length≤cap) (hE:∀ x∈l,x.cells.length=E) (h1:∀ a∈flat l,a.one=true)
   (hl:cs.length=l.length*E) (hc:∀ (j:Nat) (c:Value),cs[j]?=some c→w.cell? ⟨g,o+j,none⟩=some c)
   (h:∀ (j:Nat) (c:Value) (a:AV),cs[j]?=some c→(flat l)[j]?=some a→RelT S w c a) :
   RelT S w (.slice (some ⟨g,o,none⟩) l.length cap) (.lsl E l)
 | sl {T:Type} (E:Nat) (enc:T→AV) (d:T) (xs:List T) (v:Value) (h:RelT S w v (.lsl E (xs.map enc))):RelT S w v (.sl E enc d xs)
 | nilm:RelT S w (.map none) .nilm
 | rsmap {V:Type} (ev:V→AV) (dv:V) (es:List (List UInt8×V)) (r clock:Nat) (en:Array MapEntry) (hs:S r)
   (hr:w.heap[r]?=some (.map en clock)) (hl:en.size=es.length) (hst:MapKept.Stamped en clock)
   (hk:∀ (j:Nat) (x:MapEntry) (p:List UInt8×V),en[j]?=some x→es[j]?=some p→∃ s,x.key=.string s∧s.data.toList=p.1)
   (hv:∀ (j:Nat) (x:MapEntry) (p:List UInt8×V),en[j]?=some x→es[j]?=some p→RelT S w x.val (ev p.2)) :
   RelT S w (.map (some r)) (.rsmap ev dv es)
 | rimap {V:Type} (k:IntKind) (ev:V→AV) (dv:V) (es:List (Int×V)) (r clock:Nat) (en:Array MapEntry) (hs:S r)
   (hr:w.heap[r]?=some (.map en clock)) (hl:en.size=es.length) (hst:MapKept.Stamped en clock)
   (hk:∀ (j:Nat) (x:MapEntry) (p:Int×V),en[j]?=some x→es[j]?=some p→x.key=.int k p.1)
   (hv:∀ (j:Nat) (x:MapEntry) (p:Int×V),en[j]?=some x→es[j]?=some p→RelT S w x.val (ev p.2)) :
   RelT S w (.map (some r)) (.rimap k ev dv es)
 | nilf:RelT S w .nilFunc .nilf
 | fn (f:Fn) (fs cs:Array Value) (lf lc:List AV) (hl:fs.size=lf.length) (hl':cs.size=lc.length)
   (h:∀ (j:Nat) (c:Value) (a:AV),fs[j]?=some c→lf[j]?=some a→RelT S w c a) (h':∀ (j:Nat) (c:Value) (a:AV),cs[j]?=some c→lc[j]?=some a→RelT S w c a) :
   RelT S w (.func f fs cs) (.fn f lf lc)
 | skip:RelT S w Go.undef .skip
 | iarr (k:IntKind) (n:Nat) (f:Nat→Int) (cs:Array Value) (hl:cs.size=n) (h:∀ (j:Nat) (c:Value),cs[j]?=some c→c=.int k (f j)):RelT S w (.agg cs) (.iarr k n f)
 | any1 (v:Value) (h:v.oneCell'=true):RelT S w v .any1
 | ifc0:RelT S w .nilIface (.ifc true)
 | ifc1 (t:TypeId) (v:Value):RelT S w (.iface t v) (.ifc false)
 | rgmap {V:Type} (sh:List KK) (ev:V→AV) (dv:V) (es:List (List KV×V)) (r clock:Nat) (en:Array MapEntry) (hs:S r)
   (hr:w.heap[r]?=some (.map en clock)) (hl:en.size=es.length) (hst:MapKept.Stamped en clock)
   (hk:∀ (j:Nat) (x:MapEntry) (p:List KV×V),en[j]?=some x→es[j]?=some p→KrG sh x.key p.1)
   (hv:∀ (j:Nat) (x:MapEntry) (p:List KV×V),en[j]?=some x→es[j]?=some p→RelT S w x.val (ev p.2)) :
   RelT S w (.map (some r)) (.rgmap sh ev dv es)
 | ival (t:TypeId) (cs:Array Value) (l:List AV) (hl:cs.size=l.length) (h:∀ (j:Nat) (c:Value) (a:AV),cs[j]?=some c→l[j]?=some a→RelT S w c a):RelT S w (.iface t (.agg cs)) (.ival t l)
 | sem (p:Blocks→World→Value→Prop) (v:Value) (h1:v.oneCell'=true) (h:∀ (S':Blocks) (w':World),(∀ g,S g→S' g)→(∀ g,S g→w'.heap[g]?=w.heap[g]?)→p S' w' v):RelT S w v (.sem p)
inductive RelV (m:Ids) (S:Blocks) (w:World):Value→AV→Prop
 | t (v:Value) (a:AV) (h:RelT S w v a):RelV m S w v a
 | agg (cs:Array Value) (l:List AV) (hl:cs.size=l.length) (h:∀ (j:Nat) (c:Value) (a:AV),cs[j]?=some c→l[j]?=some a→RelV m S w c a):RelV m S w (.agg cs) (.agg l)
 | tup (cs:Array Value) (l:List AV) (hl:cs.size=l.length) (h:∀ (j:Nat) (c:Value) (a:AV),cs[j]?=some c→l[j]?=some a→RelV m S w c a):RelV m S w (.tuple cs) (.tup l)
 | fn (f:Fn) (fs cs:Array Value) (lf lc:List AV) (hl:fs.size=lf.length) (hl':cs.size=lc.length)
   (h:∀ (j:Nat) (c:Value) (a:AV),fs[j]?=some c→lf[j]?=some a→RelV m S w c a) (h':∀ (j:Nat) (c:Value) (a:AV),cs[j]?=some c→lc[j]?=some a→RelV m S w c a) :
   RelV m S w (.func f fs cs) (.fn f lf lc)
 | ptr (id off g:Nat) (h:m id=some (.pointer (some ⟨g,0,none⟩))):RelV m S w (.pointer (some ⟨g,off,none⟩)) (.ptr id off)
 | eptr (id E i off g n cap:Nat) (h:m id=some (.slice (some ⟨g,0,none⟩) n cap)):RelV m S w (.pointer (some ⟨g,i*E+off,none⟩)) (.eptr id E i off)
 | own (id n cap:Nat) (a:Option Addr) (h:m id=some (.slice a n cap)):RelV m S w (.slice a n cap) (.own id)
 | pre (id len n cap:Nat) (a:Option Addr) (h:m id=some (.slice a n cap)) (hle:len≤n):RelV m S w (.slice a len cap) (.pre id len)
 | part (id E off len g n cap c:Nat) (h:m id=some (.slice (some ⟨g,0,none⟩) n cap)) (hle:off+len≤n) (hc:len≤c):RelV m S w (.slice (some ⟨g,off*E,none⟩) len c) (.part id E off len)
 | partE (id E off c g n cap:Nat) (h:m id=some (.slice (some ⟨g,0,none⟩) n cap)):RelV m S w (.slice (some ⟨g,0,none⟩) 0 c) (.part id E off 0)
 | partN (id E off:Nat):RelV m S w (.slice none 0 0) (.part id E off 0)
 | map (id r:Nat) (h:m id=some (.map (some r))):RelV m S w (.map (some r)) (.map id)
 | qptr (id E i g o n cap:Nat) (h:m id=some (.slice (some ⟨g,o,none⟩) n cap)):RelV m S w (.pointer (some ⟨g,o+i*E,none⟩)) (.qptr id E i)
 | csl (id n g:Nat) (h:m id=some (.pointer (some ⟨g,0,none⟩))):RelV m S w (.slice (some ⟨g,0,none⟩) n n) (.csl id n)
structure RowRel (S:Blocks) (w:World) (e:TypeId) (E:Nat) (l:List AV) (v:Value) (vs:List Value):Prop where
 owns:w.ownsRow 0 e E v l.length vs
 size:∀ x∈l,x.cells.length=E
 ones:∀ a∈flat l,a.one=true
 rel:∀ (j:Nat) (c:Value) (a:AV),vs[j]?=some c→(flat l)[j]?=some a→RelT S w c a
structure QueRel (S:Blocks) (w:World) (e E:Nat) (l:List AV) (g o cap:Nat) (cur:Array Value):Prop where
 at_:w.heap[g]?=some (.cells cur e (0,0))
 len:l.length≤cap
 max:cap≤maxLen
 room:o+cap*E≤cur.size
 size:∀ x∈l,x.cells.length=E
 ones:∀ a∈flat l,a.one=true
 rel:∀ (j:Nat) (c:Value) (a:AV),cur[o+j]?=some c→(flat l)[j]?=some a→RelT S w c a
def RelB (m:Ids) (S:Blocks) (w:World) (id:Nat):AB→Prop
 | .dead=>True
 | .cells e l=>∃ g cs,m id=some (.pointer (some ⟨g,0,none⟩))∧w.heap[g]?=some (.cells cs e (0,0))∧cs.size=l.length ∧
   (∀ a∈l,a.one=true)∧(∀ (j:Nat) (c:Value) (a:AV),cs[j]?=some c→l[j]?=some a→RelV m S w c a)
 | .lst e E l=>∃ v vs,m id=some v∧RowRel S w e E l v vs
 | .row e E enc _ xs=>∃ v vs,m id=some v∧RowRel S w e E (xs.map enc) v vs
 | .smap ev _ es=>∃ r en clock,m id=some (.map (some r))∧w.heap[r]?=some (.map en clock)∧en.size=es.length∧MapKept.Stamped en clock ∧
   (∀ (j:Nat) (x:MapEntry) p,en[j]?=some x→es[j]?=some p→(∃ s,x.key=.string s∧s.data.toList=p.1)∧RelT S w x.val (ev p.2))
 | .imap k ev _ es=>∃ r en clock,m id=some (.map (some r))∧w.heap[r]?=some (.map en clock)∧en.size=es.length∧MapKept.Stamped en clock ∧
   (∀ (j:Nat) (x:MapEntry) p,en[j]?=some x→es[j]?=some p→x.key=.int k p.1∧RelT S w x.val (ev p.2))
 | .arr e k n f=>∃ g cs,m id=some (.pointer (some ⟨g,0,none⟩))∧w.heap[g]?=some (.cells cs e (0,0))∧cs.size=n∧(∀ (j:Nat) (c:Value),cs[j]?=some c→c=.int k (f j))
 | .que e E enc _ xs=>∃ g o cap cur,m id=some (.slice (some ⟨g,o,none⟩) xs.length cap)∧QueRel S w e E (xs.map enc) g o cap cur
 | .gmap sh ev _ es=>∃ r en clock,m id=some (.map (some r))∧w.heap[r]?=some (.map en clock)∧en.size=es.length∧MapKept.Stamped en clock ∧
   (∀ (j:Nat) (x:MapEntry) p,en[j]?=some x→es[j]?=some p→KrG sh x.key p.1∧RelT S w x.val (ev p.2))
class Tabs where
 held:Nat→Option (Array Value→Prop)
def TabAt [Tabs] (S:Blocks) (w:World):Prop:=∀ g Q,Tabs.held g=some Q→S g∧∃ cs e fz,w.heap[g]?=some (.cells cs e fz)∧Q cs
theorem TabAt.mono [Tabs] {S S':Blocks} {w w':World} (h:TabAt S w) (hS:∀ g,S g→S' g) (hw:∀ g,S g→w'.heap[g]?=w.heap[g]?):TabAt S' w':=fun g cs hg=>by
 obtain ⟨h1,cs',e,fz,h2,h3⟩:=h g cs hg
 exact ⟨hS g h1,cs',e,fz,by rw [hw g h1];exact h2,h3⟩
structure Good [Tabs] (m:Ids) (S:Blocks) (w:World) (H:Heap):Prop where
 rel:∀ id,RelB m S w id (lkH H id)
 sep:∀ i j vi vj k,(lkH H i).live=true→(lkH H j).live=true→m i=some vi→m j=some vj→blk vi=some k→blk vj=some k→i=j
 ro:∀ g,S g→g<w.heap.size∧∀ i v,(lkH H i).live=true→m i=some v→blk v≠some g
 tab:TabAt S w
structure Far (F:Blocks) (w w':World):Prop where
 os:w'.os=w.os
 tape:w'.tape=w.tape
 output:w'.output=w.output
 size:w.heap.size≤w'.heap.size
 block:∀ k,k<w.heap.size→¬ F k→w'.heap[k]?=w.heap[k]?
def own (m:Ids) (H:Heap):Blocks:=fun k=>∃ i v,(lkH H i).live=true∧m i=some v∧blk v=some k
theorem Far.refl (F:Blocks) (w:World):Far F w w:=⟨rfl,rfl,rfl,Nat.le_refl _,fun _ _ _=>rfl⟩
theorem Far.trans {F:Blocks} {a b c:World} (h:Far F a b) {G:Blocks} (k:Far G b c) (hG:∀ i,i<a.heap.size→G i→F i):Far F a c :=
 ⟨k.os.trans h.os,k.tape.trans h.tape,k.output.trans h.output,Nat.le_trans h.size k.size,fun i hi hn =>
  (k.block i (Nat.lt_of_lt_of_le hi h.size) (fun hg=>hn (hG i hi hg))).trans (h.block i hi hn)⟩
theorem Far.below {F:Blocks} {w w':World} (h:Far F w w') (hF:∀ k,k<w.heap.size→¬ F k):RowKit.Below w.heap.size w w' :=
 ⟨h.os,h.tape,h.output,h.size,fun k hk=>h.block k hk (hF k hk)⟩
theorem Far.of_below {F:Blocks} {w w':World} (h:RowKit.Below w.heap.size w w'):Far F w w' :=
 ⟨h.os,h.tape,h.output,h.size,fun k hk _=>h.block k hk⟩
theorem RelT.mono {S S':Blocks} {w w':World} (hS:∀ g,S g→S' g) (hk:∀ g,S g→w'.heap[g]?=w.heap[g]?) {v:Value} {a:AV} (h:RelT S w v a):RelT S' w' v a:=by
 have hcell:∀ g o,S g→w'.cell? ⟨g,o,none⟩=w.cell? ⟨g,o,none⟩:=fun g o hg=>World.cell?_of_block (w:=w) (a:=⟨g,o,none⟩) (hk g hg)
 induction h with
 | undef v=>exact .undef v
 | bool b=>exact .bool b
 | int k n=>exact .int k n
 | str s l h=>exact .str s l h
 | agg cs l hl _ ih=>exact .agg cs l hl ih
 | tup cs l hl _ ih=>exact .tup cs l hl ih
 | nilp=>exact .nilp
 | rop g o l cs hs hl h1 hc _ ih=>exact .rop g o l cs (hS g hs) hl h1 (fun j c hj=>by rw [hcell g _ hs];exact hc j c hj) ih
 | nils=>exact .nils
 | lslnil E=>exact .lslnil E
 | lslz E a=>exact .lslz E a
 | lsl E l g o cap cs hs hcap hE h1 hl hc _ ih=>exact .lsl E l g o cap cs (hS g hs) hcap hE h1 hl (fun j c hj=>by rw [hcell g _ hs];exact hc j c hj) ih
 | sl E enc d xs v _ ih=>exact .sl E enc d xs v ih
 | nilm=>exact .nilm
 | rsmap ev dv es r clock en hs hr hl hst hk' _ ih=>exact .rsmap ev dv es r clock en (hS r hs) (by rw [hk r hs];exact hr) hl hst hk' ih
 | rimap k ev dv es r clock en hs hr hl hst hk' _ ih=>exact .rimap k ev dv es r clock en (hS r hs) (by rw [hk r hs];exact hr) hl hst hk' ih
 | nilf=>exact .nilf
 | fn f fs cs lf lc hl hl' _ _ ih ih'=>exact .fn f fs cs lf lc hl hl' ih ih'
 | skip=>exact .skip
 | iarr k n f cs hl h=>exact .iarr k n f cs hl h
 | any1 v h=>exact .any1 v h
 | ifc0=>exact .ifc0
 | ifc1 t v=>exact .ifc1 t v
 | rgmap k ev dv es r clock en hs hr hl hst hk' _ ih=>exact .rgmap k ev dv es r clock en (hS r hs) (by rw [hk r hs];exact hr) hl hst hk' ih
 | ival t cs l hl _ ih=>exact .ival t cs l hl ih
 | sem p v h1 h=>exact .sem p v h1 fun S2 w2 a b=>h S2 w2 (fun g hg=>a g (hS g hg)) (fun g hg=>(b g (hS g hg)).trans (hk g hg))
theorem RelV.mono {m m':Ids} {S S':Blocks} {w w':World} (hm:∀ i v,m i=some v→m' i=some v) (hS:∀ g,S g→S' g) (hk:∀ g,S g→w'.heap[g]?=w.heap[g]?)
  {v:Value} {a:AV} (h:RelV m S w v a):RelV m' S' w' v a:=by
 induction h with
 | t v a h=>exact .t v a (h.mono hS hk)
 | agg cs l hl _ ih=>exact .agg cs l hl ih
 | tup cs l hl _ ih=>exact .tup cs l hl ih
 | fn f fs cs lf lc hl hl' _ _ ih ih'=>exact .fn f fs cs lf lc hl hl' ih ih'
 | ptr id off g h=>exact .ptr id off g (hm _ _ h)
 | eptr id E i off g n cap h=>exact .eptr id E i off g n cap (hm _ _ h)
 | own id n cap a h=>exact .own id n cap a (hm _ _ h)
 | pre id len n cap a h hle=>exact .pre id len n cap a (hm _ _ h) hle
 | part id E off len g n cap c h hle hc=>exact .part id E off len g n cap c (hm _ _ h) hle hc
 | partE id E off c g n cap h=>exact .partE id E off c g n cap (hm _ _ h)
 | partN id E off=>exact .partN id E off
 | map id r h=>exact .map id r (hm _ _ h)
 | qptr id E i g o n cap h=>exact .qptr id E i g o n cap (hm _ _ h)
 | csl id n g h=>exact .csl id n g (hm _ _ h)
theorem RowRel.mono {S S':Blocks} {w w':World} {e E:Nat} {l:List AV} {v:Value} {vs:List Value} (h:RowRel S w e E l v vs) (hS:∀ g,S g→S' g) (hk:∀ g,S g→w'.heap[g]?=w.heap[g]?)
  (hb:∀ k,blk v=some k→w'.heap[k]?=w.heap[k]?):RowRel S' w' e E l v vs:=by
 refine ⟨?_,h.size,h.ones,fun j c a h1 h2=>(h.rel j c a h1 h2).mono hS hk⟩
 obtain ⟨hl,h2⟩:=h.owns
 refine ⟨hl,?_⟩
 rcases h2 with h2 | ⟨g,cap,cur,hv,hg,hh,r⟩
 ·exact Or.inl h2
 ·exact Or.inr ⟨g,cap,cur,hv,hg,by rw [hb g (by rw [hv];rfl)];exact hh,r⟩
theorem zt39 {p:Prop}(h:p:=by
 obtain ⟨r,en,clock,hmi,hr,hl,hb',h2⟩:=h
 exact ⟨r,en,clock,hm _ _ hmi,by rw [hb _ r rfl hmi rfl];exact hr,hl,hb',fun j x p q q'=>⟨(h2 j x p q q').1,(h2 j x p q q').2.mono hS hk⟩⟩):p:=h
theorem zt161 {p:Prop}(h:p:=by
 obtain ⟨v,vs,hmi,hr⟩:=h
 exact ⟨v,vs,hm _ _ hmi,hr.mono hS hk (fun k hk'=>hb v k rfl hmi hk')⟩):p:=h
theorem RelB.mono {m m':Ids} {S S':Blocks} {w w':World} {id:Nat} {b:AB} (h:RelB m S w id b) (hm:∀ i v,m i=some v→m' i=some v) (hS:∀ g,S g→S' g) (hk:∀ g,S g→w'.heap[g]?=w.heap[g]?)
  (hb:∀ v k,b.live=true→m id=some v→blk v=some k→w'.heap[k]?=w.heap[k]?):RelB m' S' w' id b:=by
 cases b with
 | dead=>trivial
 | cells e l =>
  obtain ⟨g,cs,hmi,hg,hl,h1,hr⟩:=h
  exact ⟨g,cs,hm _ _ hmi,by rw [hb _ g rfl hmi rfl];exact hg,hl,h1,fun j c a p q=>(hr j c a p q).mono hm hS hk⟩
 | lst e E l =>
  exact zt161
 | row e E enc d xs =>
  exact zt161
 | smap ev dv es =>
  exact zt39
 | imap k ev dv es =>
  exact zt39
 | arr e k n f =>
  obtain ⟨g,cs,hmi,hg,hl,hr⟩:=h
  exact ⟨g,cs,hm _ _ hmi,by rw [hb _ g rfl hmi rfl];exact hg,hl,hr⟩
 | que e E enc d xs =>
  obtain ⟨g,o,cap,cur,hmi,hr⟩:=h
  exact ⟨g,o,cap,cur,hm _ _ hmi,by rw [hb _ g rfl hmi rfl];exact hr.at_,hr.len,hr.max,hr.room,hr.size,hr.ones,fun j c a p q=>(hr.rel j c a p q).mono hS hk⟩
 | gmap sh ev dv es =>
  exact zt39
theorem zt91 {p:Prop}(h:p:=by
 obtain ⟨r,en,clock,hmi,hr,_⟩:=h
 rw [hmi] at hv;cases hv;simp [blk] at hk;subst hk;exact lt hr):p:=h
theorem zt93 {p:Prop}(h:p:=by
 obtain ⟨v',vs,hmi,hr⟩:=h
 rw [hmi] at hv;cases hv
 rcases hr.owns.2 with ⟨rfl,_⟩ | ⟨g,cap,cur,rfl,_,hh,_⟩
 ·simp [blk] at hk
 ·simp [blk] at hk;subst hk;exact lt hh):p:=h
theorem zt176 {p:Prop}(h:p:=by
 obtain ⟨g,cs,hmi,hg,_⟩:=h
 rw [hmi] at hv;cases hv;simp [blk] at hk;subst hk;exact lt hg):p:=h
theorem RelB.blk_lt {m:Ids} {S:Blocks} {w:World} {id:Nat} {b:AB} (h:RelB m S w id b) (hl:b.live=true) {v:Value} {k:Nat} (hv:m id=some v) (hk:blk v=some k):k<w.heap.size:=by
 have lt:∀ {o:Obj},w.heap[k]?=some o→k<w.heap.size:=fun h=>(Array.getElem?_eq_some_iff.1 h).1
 cases b with
 | dead=>simp [AB.live] at hl
 | cells e l =>
  exact zt176
 | lst e E l =>
  exact zt93
 | row e E enc d xs =>
  exact zt93
 | smap ev dv es =>
  exact zt91
 | imap k' ev dv es =>
  exact zt91
 | arr e k' n f =>
  exact zt176
 | que e E enc d xs =>
  obtain ⟨g,o,cap,cur,hmi,hr⟩:=h
  rw [hmi] at hv;cases hv;simp [blk] at hk;subst hk;exact lt hr.at_
 | gmap sh ev dv es =>
  exact zt91
theorem RelT.oneCell {S:Blocks} {w:World} {v:Value} {a:AV} (h:RelT S w v a) (h1:a.one=true):v.oneCell'=true:=by
 induction h<;>first | rfl | (simp [AV.one] at h1;done) | assumption | skip
 case sl E enc d xs v h ih=>exact ih rfl
theorem RelV.oneCell {m:Ids} {S:Blocks} {w:World} {v:Value} {a:AV} (h:RelV m S w v a) (h1:a.one=true):v.oneCell'=true:=by
 cases h with
 | t v a h=>exact h.oneCell h1
 | agg cs l hl h=>simp [AV.one] at h1
 | tup cs l hl h=>simp [AV.one] at h1
 | _=>rfl
structure Res:Type 1 where
 v:AV
 touch:List Nat
 wr:List (Nat×AB)
 nx:Nat
abbrev Uses:=List (Operand×Bool×AV)
structure Ext [Tabs] (m:Ids) (S:Blocks) (w:World) (H:Heap) (nx nx':Nat) (m':Ids) (S':Blocks) (w':World) (H':Heap):Prop where
 ids:∀ i v,m i=some v→m' i=some v
 same:∀ i,¬ (nx≤i∧i<nx')→m' i=m i
 ros:∀ g,S g→S' g
 fresh:∀ g,S' g→S g∨own m H g∨w.heap.size≤g
 far:Far (own m H) w w'
 owns:∀ k,own m' H' k→own m H k∨w.heap.size≤k
 good:Good m' S' w' H'
def OpSem [Tabs] (P:Program) (o:Oper) (us:Uses) (H:Heap) (nx:Nat) (r:Res):Prop :=
 ∀ (m:Ids) (S:Blocks) (w:World) (a:Act) (H₂:Heap) (K:Act→World→Prop) (Q:Exit→Act→World→Prop),
  Good m S w H₂→(∀ id∈r.touch,lkH H₂ id=lkH H id)→(∀ i,nx≤i→i<r.nx→m i=none) →
  (∀ u∈us,u.2.1=true→RelV m S w (a.eval u.1) u.2.2) →
  (∀ v m' S' w',Ext m S w H₂ nx r.nx m' S' w' (r.wr++H₂)→RelV m' S' w' v r.v→K (a.put o.dst v) w') →
  o.wp P a w K Q
theorem zt106 {p:Prop}(h:p:=by
 by_cases e:i=j
 ·subst e;simp
 ·have h:Nat.beq i j=false:=by cases h:Nat.beq i j with | false=>rfl | true=>exact (e (Nat.eq_of_beq_eq_true h)).elim
  rw [h,if_neg e]):p:=h
theorem lkH_cons (i:Nat) (b:AB) (H:Heap) (j:Nat):lkH ((i,b)::H) j=if i=j then b else lkH H j:=by
 show (match Nat.beq i j with | true=>b | false=>lkH H j)=_
 exact zt106
theorem lk_cons (i:Nat) (b:AV) (H:Env) (j:Nat):lk ((i,b)::H) j=if i=j then b else lk H j:=by
 show (match Nat.beq i j with | true=>b | false=>lk H j)=_
 exact zt106
theorem Good.blk_lt [Tabs] {m:Ids} {S:Blocks} {w:World} {H:Heap} (h:Good m S w H) {i:Nat} (hl:(lkH H i).live=true) {v:Value} (hv:m i=some v) {k:Nat} (hk:blk v=some k):k<w.heap.size :=
 (h.rel i).blk_lt hl hv hk
theorem Good.own_lt [Tabs] {m:Ids} {S:Blocks} {w:World} {H:Heap} (h:Good m S w H) {k:Nat} (hk:own m H k):k<w.heap.size:=by
 obtain ⟨i,v,hl,hv,hb⟩:=hk
 exact h.blk_lt hl hv hb
theorem Ext.refl [Tabs] {m:Ids} {S:Blocks} {w:World} {H:Heap} (h:Good m S w H) (nx:Nat):Ext m S w H nx nx m S w H :=
 ⟨fun _ _ h=>h,fun _ _=>rfl,fun _ h=>h,fun _ h=>.inl h,Far.refl _ _,fun _ h=>.inl h,h⟩
theorem Ext.keep [Tabs] {m m':Ids} {S S':Blocks} {w w':World} {H H':Heap} {nx nx':Nat} (h:Good m S w H) (e:Ext m S w H nx nx' m' S' w' H'):∀ g,S g→w'.heap[g]?=w.heap[g]? :=
 fun g hg=>e.far.block g (h.ro g hg).1 (fun ⟨i,v,hl,hv,hb⟩=>(h.ro g hg).2 i v hl hv hb)
theorem Ext.relV [Tabs] {m m':Ids} {S S':Blocks} {w w':World} {H H':Heap} {nx nx':Nat} (h:Good m S w H) (e:Ext m S w H nx nx' m' S' w' H') {v:Value} {a:AV} (r:RelV m S w v a):RelV m' S' w' v a :=
 r.mono e.ids e.ros (e.keep h)
theorem Good.drawn [Tabs] {m:Ids} {S:Blocks} {w w':World} {H:Heap} (h:Good m S w H) (hh:w'.heap=w.heap):Good m S w' H :=
 ⟨fun id=>(h.rel id).mono (fun _ _ h=>h) (fun _ h=>h) (fun g _=>by rw [hh]) (fun _ _ _ _ _=>by rw [hh]),h.sep,fun g hg=>⟨by rw [hh];exact (h.ro g hg).1,(h.ro g hg).2⟩,h.tab.mono (fun _ h=>h) fun g _=>by rw [hh]⟩
theorem zt69 {p:Prop}(h:p:=by
 intro i u hu
 have:i≠nx:=by intro e;subst e;rw [hn] at hu;cases hu
 simp [this,hu]):p:=h
theorem ext_new [Tabs] {m:Ids} {S:Blocks} {w:World} {H:Heap} {nx:Nat} (h:Good m S w H) (hn:m nx=none) (v:Value) (b:AB) (w':World)
  (hos:w'.os=w.os) (htape:w'.tape=w.tape) (hout:w'.output=w.output) (hsize:w.heap.size≤w'.heap.size) (hblock:∀ k,k<w.heap.size→w'.heap[k]?=w.heap[k]?)
  (hv:∀ k,blk v=some k→w.heap.size≤k)
  (hb:RelB (fun i=>if i=nx then some v else m i) S w' nx b) :
  Ext m S w H nx (nx+1) (fun i=>if i=nx then some v else m i) S w' ((nx,b)::H):=by
 have hids:∀ i u,m i=some u→(fun i=>if i=nx then some v else m i) i=some u:=by
  exact zt69
 have hne:∀ {i u},m i=some u→i≠nx:=by intro i u hu e;subst e;rw [hn] at hu;cases hu
 refine ⟨hids,fun i hi=>?_,fun _ h=>h,fun _ h=>.inl h,⟨hos,htape,hout,hsize,fun k hk _=>hblock k hk⟩,?_,?_⟩
 ·have:i≠nx:=by omega
  simp [this]
 ·rintro k ⟨i,u,hl,hu,hk⟩
  by_cases e:i=nx
  ·subst e
   simp at hu
   subst hu
   exact .inr (hv k hk)
  ·simp only [e,if_false] at hu
   rw [lkH_cons,if_neg (fun h=>e h.symm)] at hl
   exact .inl ⟨i,u,hl,hu,hk⟩
 ·refine ⟨fun id=>?_,?_,?_,h.tab.mono (fun _ h=>h) fun g hg=>hblock g (h.ro g hg).1⟩
  ·rw [lkH_cons]
   split
   ·rename_i e;subst e;exact hb
   ·exact (h.rel id).mono hids (fun _ h=>h) (fun g hg=>hblock g (h.ro g hg).1) (fun u k hl hu hk=>hblock k ((h.rel id).blk_lt hl hu hk))
  ·intro i j vi vj k hli hlj hvi hvj hki hkj
   rw [lkH_cons] at hli hlj
   by_cases ei:i=nx<;>by_cases ej:j=nx
   ·rw [ei,ej]
   ·subst ei
    rw [if_neg (fun h=>ej h.symm)] at hlj
    simp only [if_true] at hvi
    simp only [ej,if_false] at hvj
    cases hvi
    have h1:=hv k hki
    have h2:=h.blk_lt hlj hvj hkj
    omega
   ·subst ej
    rw [if_neg (fun h=>ei h.symm)] at hli
    simp only [if_true] at hvj
    simp only [ei,if_false] at hvi
    cases hvj
    have h1:=hv k hkj
    have h2:=h.blk_lt hli hvi hki
    omega
   ·rw [if_neg (fun h=>ei h.symm)] at hli
    rw [if_neg (fun h=>ej h.symm)] at hlj
    simp only [ei,if_false] at hvi
    simp only [ej,if_false] at hvj
    exact h.sep i j vi vj k hli hlj hvi hvj hki hkj
  ·intro g hg
   have hr:=h.ro g hg
   refine ⟨by omega,fun i u hl hu hk=>?_⟩
   by_cases e:i=nx
   ·subst e
    simp only [if_true] at hu
    cases hu
    have:=hv g hk
    omega
   ·rw [lkH_cons,if_neg (fun h=>e h.symm)] at hl
    simp only [e,if_false] at hu
    exact hr.2 i u hl hu hk
theorem ext_upd [Tabs] {m:Ids} {S:Blocks} {w:World} {H:Heap} {nx id k0:Nat} {v0:Value} (h:Good m S w H) (hlive:(lkH H id).live=true) (hm:m id=some v0) (hk0:blk v0=some k0) (b:AB) (w':World)
  (hos:w'.os=w.os) (htape:w'.tape=w.tape) (hout:w'.output=w.output) (hsize:w.heap.size≤w'.heap.size) (hblock:∀ k,k<w.heap.size→k≠k0→w'.heap[k]?=w.heap[k]?)
  (hb:RelB m S w' id b):Ext m S w H nx nx m S w' ((id,b)::H):=by
 have hsame:∀ i vi,m i=some vi→blk vi=some k0→(lkH H i).live=true→i=id:=fun i vi hvi hki hli=>h.sep i id vi v0 k0 hli hlive hvi hm hki hk0
 have hlv:∀ i,(lkH ((id,b)::H) i).live=true→(lkH H i).live=true:=by
  intro i hl
  rw [lkH_cons] at hl
  split at hl
  ·rename_i e;subst e;exact hlive
  ·exact hl
 refine ⟨fun _ _ h=>h,fun _ _=>rfl,fun _ h=>h,fun _ h=>.inl h,⟨hos,htape,hout,hsize,fun k hk hn=>hblock k hk (fun e=>hn ⟨id,v0,hlive,hm,by rw [e];exact hk0⟩)⟩,?_,?_⟩
 ·rintro k ⟨i,u,hl,hu,hk⟩
  exact .inl ⟨i,u,hlv i hl,hu,hk⟩
 ·refine ⟨fun i=>?_,fun i j vi vj k hli hlj=>h.sep i j vi vj k (hlv i hli) (hlv j hlj),fun g hg=>⟨Nat.lt_of_lt_of_le (h.ro g hg).1 hsize,fun i u hl=>(h.ro g hg).2 i u (hlv i hl)⟩,h.tab.mono (fun _ h=>h) fun g hg=>hblock g (h.ro g hg).1 (fun e'=>(h.ro g hg).2 id v0 hlive hm (by rw [e'];exact hk0))⟩
  rw [lkH_cons]
  split
  ·rename_i e;subst e;exact hb
  ·rename_i e
   refine (h.rel i).mono (fun _ _ h=>h) (fun _ h=>h) (fun g hg=>hblock g (h.ro g hg).1 (fun e'=>(h.ro g hg).2 id v0 hlive hm (by rw [e'];exact hk0))) (fun u k hl hu hk=>?_)
   refine hblock k ((h.rel i).blk_lt hl hu hk) (fun e'=>e ?_)
   subst e'
   exact (hsame i u hu hk hl).symm
theorem ext_move [Tabs] {m:Ids} {S:Blocks} {w:World} {H:Heap} {nx id:Nat} {v0:Value} (h:Good m S w H) (hlive:(lkH H id).live=true) (hm:m id=some v0) (hn:m nx=none) (v:Value) (b:AB) (w':World)
  (hos:w'.os=w.os) (htape:w'.tape=w.tape) (hout:w'.output=w.output) (hsize:w.heap.size≤w'.heap.size) (hblock:∀ k,k<w.heap.size→blk v0≠some k→w'.heap[k]?=w.heap[k]?)
  (hv:∀ k,blk v=some k→blk v0=some k∨w.heap.size≤k)
  (hb:RelB (fun i=>if i=nx then some v else m i) S w' nx b) :
  Ext m S w H nx (nx+1) (fun i=>if i=nx then some v else m i) S w' ((nx,b)::(id,.dead)::H):=by
 have hids:∀ i u,m i=some u→(fun i=>if i=nx then some v else m i) i=some u:=by
  exact zt69
 have hidnx:id≠nx:=by intro e;subst e;rw [hn] at hm;cases hm
 have hlv:∀ i,i≠nx→(lkH ((nx,b)::(id,.dead)::H) i).live=true→i≠id∧(lkH H i).live=true:=by
  intro i e hl
  rw [lkH_cons,if_neg (fun h=>e h.symm),lkH_cons] at hl
  split at hl
  ·simp [AB.live] at hl
  ·rename_i e';exact ⟨fun h=>e' h.symm,hl⟩
 refine ⟨hids,fun i hi=>?_,fun _ h=>h,fun _ h=>.inl h,⟨hos,htape,hout,hsize,fun k hk hno=>hblock k hk (fun e=>hno ⟨id,v0,hlive,hm,e⟩)⟩,?_,?_⟩
 ·have:i≠nx:=by omega
  simp [this]
 ·rintro k ⟨i,u,hl,hu,hk⟩
  by_cases e:i=nx
  ·subst e
   simp at hu
   subst hu
   rcases hv k hk with h1 | h1
   ·exact .inl ⟨id,v0,hlive,hm,h1⟩
   ·exact .inr h1
  ·simp only [e,if_false] at hu
   exact .inl ⟨i,u,(hlv i e hl).2,hu,hk⟩
 ·refine ⟨fun i=>?_,?_,?_,h.tab.mono (fun _ h=>h) fun g hg=>hblock g (h.ro g hg).1 ((h.ro g hg).2 id v0 hlive hm)⟩
  ·rw [lkH_cons]
   split
   ·rename_i e;subst e;exact hb
   ·rename_i e
    rw [lkH_cons]
    split
    ·trivial
    ·rename_i e'
     refine (h.rel i).mono hids (fun _ h=>h) (fun g hg=>hblock g (h.ro g hg).1 (fun e''=>(h.ro g hg).2 id v0 hlive hm e'')) (fun u k hl hu hk=>hblock k ((h.rel i).blk_lt hl hu hk) (fun e''=>e' ?_))
     exact (h.sep i id u v0 k hl hlive hu hm hk e'').symm
  ·intro i j vi vj k hli hlj hvi hvj hki hkj
   have cross:∀ {i:Nat} {vi:Value},i≠nx→(lkH ((nx,b)::(id,.dead)::H) i).live=true→m i=some vi→blk vi=some k→blk v=some k→False:=by
    intro i vi e hl hvi hki hk
    have h2:=hlv i e hl
    rcases hv k hk with h1 | h1
    ·exact h2.1 (h.sep i id vi v0 k h2.2 hlive hvi hm hki h1)
    ·have:=h.blk_lt h2.2 hvi hki
     omega
   by_cases ei:i=nx<;>by_cases ej:j=nx
   ·rw [ei,ej]
   ·subst ei
    simp only [if_true] at hvi
    simp only [ej,if_false] at hvj
    cases hvi
    exact (cross ej hlj hvj hkj hki).elim
   ·subst ej
    simp only [if_true] at hvj
    simp only [ei,if_false] at hvi
    cases hvj
    exact (cross ei hli hvi hki hkj).elim
   ·simp only [ei,if_false] at hvi
    simp only [ej,if_false] at hvj
    exact h.sep i j vi vj k (hlv i ei hli).2 (hlv j ej hlj).2 hvi hvj hki hkj
  ·intro g hg
   have hr:=h.ro g hg
   refine ⟨by omega,fun i u hl hu hk=>?_⟩
   by_cases e:i=nx
   ·subst e
    simp only [if_true] at hu
    cases hu
    rcases hv g hk with h1 | h1
    ·exact hr.2 id v0 hlive hm h1
    ·omega
   ·simp only [e,if_false] at hu
    exact hr.2 i u (hlv i e hl).2 hu hk
def Grows (w w':World):Prop:=w.heap.size≤w'.heap.size∧∀ k,k<w.heap.size→w'.heap[k]?=w.heap[k]?
theorem Grows.cell {w w':World} (h:Grows w w') {a:Addr} {v:Value} (hc:w.cell? a=some v):w'.cell? a=some v:=by
 rw [World.cell?_of_block (w:=w) (h.2 a.block (block_lt_of_cell hc))]
 exact hc
theorem Grows.obj {w w':World} (h:Grows w w') {k:Nat} {o:Obj} (hc:w.heap[k]?=some o):w'.heap[k]?=some o:=by
 rw [h.2 k (Array.getElem?_eq_some_iff.1 hc).1]
 exact hc
def OpSemP [Tabs] (P:Program) (o:Oper) (us:Uses) (H:Heap) (nx:Nat) (r:Res):Prop :=
 (r.wr=[]∧r.nx=nx)∧∀ (m:Ids) (S:Blocks) (w:World) (a:Act) (H₂:Heap),Good m S w H₂→(∀ id∈r.touch,lkH H₂ id=lkH H id)→(∀ u∈us,u.2.1=true→RelV m S w (a.eval u.1) u.2.2) →
  ∃ u,(∀ w',Grows w w'→(execOp a.eval o).run P w'=.ok (.value u) w')∧RelV m S w u r.v
theorem opsem_pure [Tabs] {P:Program} {o:Oper} {us:Uses} {H:Heap} {nx:Nat} {v:AV} {touch:List Nat}
  (h:∀ (m:Ids) (S:Blocks) (w:World) (a:Act) (H₂:Heap),Good m S w H₂→(∀ id∈touch,lkH H₂ id=lkH H id)→(∀ u∈us,u.2.1=true→RelV m S w (a.eval u.1) u.2.2) →
   ∃ u,(∀ w',Grows w w'→(execOp a.eval o).run P w'=.ok (.value u) w')∧RelV m S w u v):OpSemP P o us H nx ⟨v,touch,[],nx⟩:=⟨⟨rfl,rfl⟩,h⟩
theorem OpSemP.sem [Tabs] {P:Program} {o:Oper} {us:Uses} {H:Heap} {nx:Nat} {r:Res} (h:OpSemP P o us H nx r):OpSem P o us H nx r:=by
 intro m S w a H₂ K Q hG ht _ hu hK
 obtain ⟨⟨h1,h2⟩,h⟩:=h
 obtain ⟨u,hr,hv⟩:=h m S w a H₂ hG ht hu
 unfold Oper.wp
 rw [hr w ⟨Nat.le_refl _,fun _ _=>rfl⟩]
 refine hK u m S w ?_ hv
 rw [h1,h2]
 exact Ext.refl hG nx
structure TI where
 desc:TypeDesc
 size:Nat
 bytes:Nat
 zero:Value
 deriving Inhabited
abbrev Tab:=List (Nat×TI)
def lkT:Tab→Nat→Option TI
 | [],_=>none
 | (i,v)::r,j=>match Nat.beq i j with
  | true=>some v
  | false=>lkT r j
def TabOk (P:Program) (T:Tab):Prop :=
 ∀ t i,lkT T t=some i→P.underlying t=some i.desc∧∃ j,P.info? t=some j∧j.size=i.size∧j.bytes=i.bytes∧j.zero=some i.zero
def gOk:Option Bool→Prop
 | none=>True
 | some b=>b=true
def ob (g:Option Bool) (p q:Prop):Prop :=
 match g with
 | none=>p∧q
 | some b=>(b=true→p)∧q
theorem ob_iff {g:Option Bool} {p q:Prop}:ob g p q↔(gOk g→p)∧q:=by
 cases g<;>simp [ob,gOk]
def isAggD:TypeDesc→Bool
 | .struct _ | .array _ _=>true
 | _=>false
theorem isAggD_row {d:TypeDesc}:isAggD d=d.isRow:=by cases d<;>rfl
def dropL:Nat→List AV→List AV
 | 0,l=>l
 | _+1,[]=>[]
 | n+1,_::l=>dropL n l
def takeL:Nat→List AV→List AV
 | 0,_=>[]
 | _+1,[]=>[]
 | n+1,a::l=>a::takeL n l
theorem dropL_eq:∀ (n:Nat) (l:List AV),dropL n l=l.drop n
 | 0,l=>by simp [dropL]
 | _+1,[]=>by simp [dropL]
 | n+1,_::l=>by simp [dropL,dropL_eq n l]
theorem takeL_eq:∀ (n:Nat) (l:List AV),takeL n l=l.take n
 | 0,l=>by simp [takeL]
 | _+1,[]=>by simp [takeL]
 | n+1,a::l=>by simp [takeL,takeL_eq n l]
def putL:Nat→List AV→List AV→List AV
 | 0,x::xs,_::l=>x::putL 0 xs l
 | 0,[],l=>l
 | 0,_::_,[]=>[]
 | n+1,xs,a::l=>a::putL n xs l
 | _+1,_,[]=>[]
theorem putL_length:∀ (n:Nat) (xs l:List AV),(putL n xs l).length=l.length
 | 0,[],l=>by cases l<;>simp [putL]
 | 0,_::_,[]=>by simp [putL]
 | 0,x::xs,a::l=>by simp [putL,putL_length 0 xs l]
 | n+1,xs,[]=>by simp [putL]
 | n+1,xs,a::l=>by simp [putL,putL_length n xs l]
theorem putL_get:∀ (n:Nat) (xs l:List AV) (j:Nat),n+xs.length≤l.length →
  (putL n xs l)[j]?=if n≤j∧j<n+xs.length then xs[j-n]? else l[j]?
 | 0,[],l,j,_=>by
  have:putL 0 [] l=l:=by cases l<;>simp [putL]
  rw [this,if_neg (by simp)]
 | 0,_::_,[],j,h=>by simp at h
 | 0,x::xs,a::l,0,h=>by simp [putL]
 | 0,x::xs,a::l,j+1,h=>by
  have:=putL_get 0 xs l j (by simp at h ⊢;omega)
  simp only [putL,List.getElem?_cons_succ,this]
  simp only [List.length_cons,Nat.zero_add,Nat.zero_le,true_and,Nat.sub_zero,List.getElem?_cons_succ]
  by_cases hj:j<xs.length
  ·rw [if_pos hj,if_pos (by omega)]
  ·rw [if_neg hj,if_neg (by omega)]
 | n+1,xs,[],j,h=>by simp at h
 | n+1,xs,a::l,0,h=>by simp [putL]
 | n+1,xs,a::l,j+1,h=>by
  have:=putL_get n xs l j (by simp at h ⊢;omega)
  simp only [putL,List.getElem?_cons_succ,this]
  by_cases hj:n≤j∧j<n+xs.length
  ·rw [if_pos hj,if_pos (by omega)];congr 1;omega
  ·rw [if_neg hj,if_neg (by omega)]
def ptView (g:Option Bool) (H:Heap) (p:AV) (k:List AV→List Nat→Prop):Prop :=
 match p with
 | .rop l=>k l []
 | .ptr id off=>match lkH H id with
  | .cells _ l=>k (dropL off l) [id]
  | _=>False
 | .eptr id E i off=>match lkH H id with
  | .row _ E' enc d xs=>ob g (i<xs.length) (E=E'∧k (dropL off (enc (xs.getD i d)).cells) [id])
  | .lst _ E' l=>ob g (i<l.length) (E=E'∧k (dropL off (l.getD i .undef).cells) [id])
  | _=>False
 | .qptr id E i=>match lkH H id with
  | .que _ E' enc d xs=>ob g (i<xs.length) (E=E'∧k (enc (xs.getD i d)).cells [id])
  | _=>False
 | _=>False
def Lies (m:Ids) (S:Blocks) (w:World) (v:Value) (l:List AV):Prop :=
 ∃ (g o:Nat) (cs:List Value),v=.pointer (some ⟨g,o,none⟩)∧cs.length=l.length∧(∀ (j:Nat) (c:Value),cs[j]?=some c→w.cell? ⟨g,o+j,none⟩=some c) ∧
  (∀ (j:Nat) (c:Value) (a:AV),cs[j]?=some c→l[j]?=some a→RelV m S w c a)
theorem Lies.drop {m:Ids} {S:Blocks} {w:World} {g o:Nat} {l:List AV} (n:Nat) (h:Lies m S w (.pointer (some ⟨g,o,none⟩)) l) :
  Lies m S w (.pointer (some ⟨g,o+n,none⟩)) (dropL n l):=by
 obtain ⟨g',o',cs,hv,hl,hc,hr⟩:=h
 cases hv
 refine ⟨g,o+n,cs.drop n,rfl,by simp [dropL_eq,hl],fun j c hj=>?_,fun j c a hj ha=>?_⟩
 ·rw [List.getElem?_drop] at hj
  have:=hc _ _ hj
  rw [← Nat.add_assoc] at this
  exact this
 ·rw [dropL_eq,List.getElem?_drop] at ha
  rw [List.getElem?_drop] at hj
  exact hr _ _ _ hj ha
theorem zp19 {p:Prop} (h:p:=by simpa using h):p:=h
theorem flat_get {E:Nat}:∀ (l:List AV),(∀ x∈l,x.cells.length=E)→∀ (i j:Nat) (x:AV),l[i]?=some x→j<E→(flat l)[i*E+j]?=x.cells[j]?
 | [],_,i,j,x,h,_=>by simp at h
 | y::l,hE,0,j,x,h,hj=>by
  simp at h
  subst h
  have h0:y.cells.length=E:=hE y (by simp)
  simp [flat,List.getElem?_append,h0,hj]
 | y::l,hE,i+1,j,x,h,hj=>by
  have h0:y.cells.length=E:=hE y (by simp)
  have ih:=flat_get l (fun x hx=>hE x (by simp [hx])) i j x zp19 hj
  have:flat (y::l)=y.cells++flat l:=by simp [flat]
  rw [this,List.getElem?_append_right (by rw [h0,Nat.add_mul];omega),h0]
  have e:(i+1)*E+j-E=i*E+j:=by rw [Nat.add_mul];omega
  rw [e]
  exact ih
theorem flat_length {E:Nat}:∀ (l:List AV),(∀ x∈l,x.cells.length=E)→(flat l).length=l.length*E
 | [],_=>by simp [flat]
 | y::l,hE=>by
  have h0:y.cells.length=E:=hE y (by simp)
  have ih:=flat_length l (fun x hx=>hE x (by simp [hx]))
  have:flat (y::l)=y.cells++flat l:=by simp [flat]
  rw [this,List.length_append,ih,h0,List.length_cons,Nat.add_mul]
  omega
theorem zt68 {p:Prop}(h:p:=by
 have:(i+1)*E≤l.length*E:=Nat.mul_le_mul_right _ hi
 rw [Nat.add_mul] at this
 omega):p:=h
theorem RowRel.lies {m:Ids} {S:Blocks} {w:World} {e E:Nat} {l:List AV} {v:Value} {vs:List Value} (h:RowRel S w e E l v vs) {g n cap:Nat} (hv:v=.slice (some ⟨g,0,none⟩) n cap) {i:Nat} (hi:i<l.length) :
  Lies m S w (.pointer (some ⟨g,i*E,none⟩)) (l.getD i .undef).cells:=by
 subst hv
 have hx:l[i]?=some (l.getD i .undef):=by simp [List.getD,List.getElem?_eq_getElem hi]
 have hsz:=h.size _ (List.mem_of_getElem? hx)
 have hlen:=h.owns.1
 have hcells:=h.owns.cells (g:=g) rfl
 have hle:i*E+E≤l.length*E:=by
  exact zt68
 refine ⟨g,i*E,(vs.drop (i*E)).take E,rfl,by rw [List.length_take,List.length_drop,hsz,hlen];omega,fun j c hj=>?_,fun j c a hj ha=>?_⟩
 ·rw [List.getElem?_take] at hj
  split at hj
  ·rw [List.getElem?_drop] at hj
   have:=hcells _ _ hj
   rwa [Addr.add_mid,Nat.zero_add] at this
  ·cases hj
 ·rw [List.getElem?_take] at hj
  split at hj
  ·rename_i hlt
   rw [List.getElem?_drop] at hj
   rw [← flat_get l h.size i j _ hx hlt] at ha
   exact .t _ _ (h.rel _ _ _ hj ha)
  ·cases hj
theorem QueRel.lies {m:Ids} {S:Blocks} {w:World} {e E:Nat} {l:List AV} {g o cap:Nat} {cur:Array Value} (h:QueRel S w e E l g o cap cur) {i:Nat} (hi:i<l.length) :
  Lies m S w (.pointer (some ⟨g,o+i*E,none⟩)) (l.getD i .undef).cells:=by
 have hx:l[i]?=some (l.getD i .undef):=by simp [List.getD,List.getElem?_eq_getElem hi]
 have hsz:=h.size _ (List.mem_of_getElem? hx)
 have hle:i*E+E≤cap*E:=by
  have:(i+1)*E≤cap*E:=Nat.mul_le_mul_right _ (Nat.le_trans hi h.len)
  rw [Nat.add_mul] at this
  omega
 have hroom:=h.room
 refine ⟨g,o+i*E,(cur.toList.drop (o+i*E)).take E,rfl,by rw [List.length_take,List.length_drop,hsz,Array.length_toList];omega,fun j c hj=>?_,fun j c a hj ha=>?_⟩
 ·rw [List.getElem?_take] at hj
  split at hj
  ·rw [List.getElem?_drop] at hj
   rw [cell_of_row w g (o+i*E+j) cur e (0,0) h.at_]
   simpa using hj
  ·cases hj
 ·rw [List.getElem?_take] at hj
  split at hj
  ·rename_i hlt
   rw [List.getElem?_drop] at hj
   rw [← flat_get l h.size i j _ hx hlt] at ha
   refine .t _ _ (h.rel (i*E+j) c a ?_ ha)
   rw [← Nat.add_assoc]
   simpa using hj
  ·cases hj
theorem zt145 {p:Prop}(h:p:=by
 simp [List.getD,List.getElem?_eq_getElem this]):p:=h
theorem zp16 {p:Prop} (h:p:=by simpa using hj):p:=h
theorem ptView_sound [Tabs] {g:Option Bool} {H:Heap} {p:AV} {k:List AV→List Nat→Prop} (h:ptView g H p k) :
  ∃ l touch,(gOk g→∀ (m:Ids) (S:Blocks) (w:World) (H₂:Heap) (v:Value),Good m S w H₂→(∀ id∈touch,lkH H₂ id=lkH H id)→RelV m S w v p→Lies m S w v l)∧k l touch:=by
 unfold ptView at h
 split at h
 ·rename_i l
  refine ⟨l,[],fun _ m S w H₂ v hG _ hr=>?_,h⟩
  cases hr with
  | t _ _ h=>cases h with
   | rop g o l cs hs hl h1 hc h=>exact ⟨g,o,cs,rfl,hl,hc,fun j c a hj ha=>.t _ _ (h j c a hj ha)⟩
 ·rename_i id off
  split at h
  ·rename_i e l hid
   refine ⟨_,_,fun _ m S w H₂ v hG ht hr=>?_,h⟩
   have hid2:=ht id (by simp)
   have hb:=hG.rel id
   rw [hid2,hid] at hb
   obtain ⟨g,cs,hmi,hg,hl,h1,hrel⟩:=hb
   cases hr with
   | t _ _ h=>cases h
   | ptr id off g' hm =>
    rw [hmi] at hm
    cases hm
    have:Lies m S w (.pointer (some ⟨g,0,none⟩)) l :=
     ⟨g,0,cs.toList,rfl,by simpa using hl,fun j c hj=>by rw [cell_of_row w g (0+j) cs e (0,0) hg,Nat.zero_add];simpa using hj,fun j c a hj ha=>hrel j c a zp16 ha⟩
    have:=this.drop off
    rwa [Nat.zero_add] at this
  ·exact h.elim
 ·rename_i id E i off
  split at h
  ·rename_i e E' T enc d xs hid
   obtain ⟨hi,hE,hk⟩:=ob_iff.1 h
   subst hE
   refine ⟨_,_,fun hg m S w H₂ v hG ht hr=>?_,hk⟩
   have hid2:=ht id (by simp)
   have hb:=hG.rel id
   rw [hid2,hid] at hb
   obtain ⟨v',vs,hmi,hrow⟩:=hb
   cases hr with
   | t _ _ h=>cases h
   | eptr id E i off g' n cap hm =>
    rw [hmi] at hm
    cases hm
    have h1:=(hrow.lies (m:=m) rfl (i:=i) (by simpa using hi hg)).drop off
    have e1:(xs.map enc).getD i .undef=enc (xs.getD i d):=by
     have:=hi hg
     exact zt145
    rwa [e1] at h1
  ·rename_i e E' l hid
   obtain ⟨hi,hE,hk⟩:=ob_iff.1 h
   subst hE
   refine ⟨_,_,fun hg m S w H₂ v hG ht hr=>?_,hk⟩
   have hid2:=ht id (by simp)
   have hb:=hG.rel id
   rw [hid2,hid] at hb
   obtain ⟨v',vs,hmi,hrow⟩:=hb
   cases hr with
   | t _ _ h=>cases h
   | eptr id E i off g' n cap hm =>
    rw [hmi] at hm
    cases hm
    exact (hrow.lies (m:=m) rfl (i:=i) (hi hg)).drop off
  ·exact h.elim
 ·rename_i id E i
  split at h
  ·rename_i e E' T enc d xs hid
   obtain ⟨hi,hE,hk⟩:=ob_iff.1 h
   subst hE
   refine ⟨_,_,fun hg m S w H₂ v hG ht hr=>?_,hk⟩
   have hid2:=ht id (by simp)
   have hb:=hG.rel id
   rw [hid2,hid] at hb
   obtain ⟨g',o',cap',cur,hmi,hq⟩:=hb
   cases hr with
   | t _ _ h=>cases h
   | qptr id E i g'' o'' n cap hm =>
    rw [hmi] at hm
    cases hm
    have e1:(xs.map enc).getD i .undef=enc (xs.getD i d):=by
     have:=hi hg
     exact zt145
    rw [← e1]
    exact hq.lies (by simpa using hi hg)
  ·exact h.elim
 ·exact h.elim
structure ArrAt where
 id:Nat
 off:Nat
 e:TypeId
 k:IntKind
 n:Nat
 f:Nat→Int
def arrOf (H:Heap) (p:AV):Option ArrAt :=
 match p with
 | .ptr id off=>match lkH H id with
  | .arr e k n f=>some ⟨id,off,e,k,n,f⟩
  | _=>none
 | _=>none
theorem arrOf_some {H:Heap} {p:AV} {a:ArrAt} (h:arrOf H p=some a):p=.ptr a.id a.off∧lkH H a.id=.arr a.e a.k a.n a.f:=by
 unfold arrOf at h
 split at h
 ·split at h
  ·rename_i hid
   cases h
   exact ⟨rfl,hid⟩
  ·cases h
 ·cases h
def evLoad (T:Tab) (g:Option Bool) (H:Heap) (nx:Nat) (t:TypeId) (p:AV) (k:Res→Prop):Prop :=
 match lkT T t with
 | none=>False
 | some i=>match arrOf H p with
 | some ⟨id,off,_,k',n,f⟩=>match isAggD i.desc with
  | true=>match Nat.beq off 0&&Nat.beq i.size n with
   | true=>k ⟨.iarr k' n f,[id],[],nx⟩
   | false=>False
  | false=>ob g (off<n) (k ⟨.int k' (f off),[id],[],nx⟩)
 | none=>ptView g H p fun l touch =>
  match isAggD i.desc with
  | true=>match Nat.beq (takeL i.size l).length i.size with
   | true=>k ⟨.agg (takeL i.size l),touch,[],nx⟩
   | false=>False
  | false=>match l with
   | a::_=>k ⟨a,touch,[],nx⟩
   | []=>match g with
    | some b=>b=false∧∃ v,k ⟨v,[],[],nx⟩
    | none=>False
theorem run_loadVar_one {P:Program} (w:World) (b o:Nat) (ty:TypeId) (c:Value) (d:TypeDesc) (hc:w.cell? ⟨b,o,none⟩=some c) (hu:P.underlying ty=some d) (hd:d.isRow=false) :
  (loadVar ty ⟨b,o,none⟩).run P w=.ok c w:=by
 have hagg:(isAgg ty).run P w=.ok false w:=by
  unfold isAgg
  rw [Sem.run_bind,run_underlying hu w]
  cases d<;>simp_all
 simp [loadVar,Sem.run_bind,hagg,hc]
theorem zt56 {p:Prop}(h:p:=by
 simp only [ho,hv,Instr.loadAt,Instr.sureAddr,Sem.run_bind,Sem.run_pure,Result.andThen_ok,this]):p:=h
theorem zp47 {p:Prop} (h:p:=by rw [← isAggD_row];exact hag):p:=h
theorem evLoad_sound [Tabs] {P:Program} {T:Tab} (hT:TabOk P T) {g:Option Bool} {rd:Operand→AV} {H:Heap} {nx:Nat} {t:TypeId} {x:Operand} {o:Oper} (ho:o.op=.load t x) {k:Res→Prop}
  (h:evLoad T g H nx t (rd x) k):∃ r,(gOk g→OpSemP P o [(x,true,rd x)] H nx r)∧(r.wr=[]∧r.nx=nx)∧k r:=by
 unfold evLoad at h
 split at h
 ·exact h.elim
 ·rename_i i hi
  obtain ⟨hu,j,hj,hs,_,_⟩:=hT t i hi
  split at h
  ·rename_i id off e k' n f harr
   obtain ⟨hp,hid⟩:=arrOf_some harr
   simp only at hp hid
   have open1:∀ {m:Ids} {S:Blocks} {w:World} {H₂:Heap} {v:Value},Good m S w H₂→lkH H₂ id=lkH H id→RelV m S w v (rd x) →
     ∃ (g':Nat) (cs:Array Value),v=.pointer (some ⟨g',off,none⟩)∧w.heap[g']?=some (.cells cs e (0,0))∧cs.size=n∧∀ (j:Nat) (c:Value),cs[j]?=some c→c=.int k' (f j):=by
    intro m S w H₂ v hG ht hr
    have hb:=hG.rel id
    rw [ht,hid] at hb
    obtain ⟨g',cs,hmi,hg,hl,hrel⟩:=hb
    rw [hp] at hr
    cases hr with
    | t _ _ h=>cases h
    | ptr _ _ g2 hm =>
     rw [hmi] at hm
     cases hm
     exact ⟨g',cs,rfl,hg,hl,hrel⟩
   split at h
   ·rename_i hag
    split at h
    ·rename_i hc
     simp only [Bool.and_eq_true] at hc
     have hoff:off=0:=Nat.eq_of_beq_eq_true hc.1
     have hsz:i.size=n:=Nat.eq_of_beq_eq_true hc.2
     subst hoff
     refine ⟨_,fun hg=>opsem_pure fun m S w a H₂ hG ht hu'=>?_,⟨rfl,rfl⟩,h⟩
     have hr:=hu' _ (List.mem_singleton.2 rfl) rfl
     obtain ⟨g',cs,hv,hg',hl,hrel⟩:=open1 hG (ht id (by simp)) hr
     refine ⟨.agg cs,?_,.t _ _ (.iarr _ _ _ cs hl hrel)⟩
     intro w' hw'
     unfold execOp
     have:=run_loadVar_mid (P:=P) w' g' 0 t cs.toList i.desc (fun j v hj=>by
      refine hw'.cell ?_
      rw [cell_of_row w g' (0+j) cs e (0,0) hg',Nat.zero_add]
      simpa using hj) hu zp47 (by rw [hj];simp [hs,hl,hsz])
     exact zt56
    ·exact h.elim
   ·rename_i hag
    obtain ⟨hob,h⟩:=ob_iff.1 h
    refine ⟨_,fun hg=>opsem_pure fun m S w a H₂ hG ht hu'=>?_,⟨rfl,rfl⟩,h⟩
    have hr:=hu' _ (List.mem_singleton.2 rfl) rfl
    obtain ⟨g',cs,hv,hg',hl,hrel⟩:=open1 hG (ht id (by simp)) hr
    have hlt:off<cs.size:=by rw [hl];exact hob hg
    have hc:cs[off]?=some (cs[off]):=Array.getElem?_eq_getElem hlt
    refine ⟨.int k' (f off),?_,.t _ _ (.int _ _)⟩
    intro w' hw'
    unfold execOp
    have:=run_loadVar_one (P:=P) w' g' off t (.int k' (f off)) i.desc (by
     refine hw'.cell ?_
     rw [cell_of_row w g' off cs e (0,0) hg',hc,hrel off _ hc]) hu zp47
    exact zt56
  obtain ⟨l,touch,hl,hk⟩:=ptView_sound h
  split at hk
  ·rename_i hag
   split at hk
   ·rename_i hlen
    refine ⟨_,fun hg=>opsem_pure fun m S w a H₂ hG ht hu'=>?_,⟨rfl,rfl⟩,hk⟩
    have hr:=hu' _ (List.mem_singleton.2 rfl) rfl
    obtain ⟨g',o',cs,hv,hcl,hc,hrel⟩:=hl hg m S w H₂ _ hG ht hr
    have hsz:(takeL i.size l).length=i.size:=Nat.eq_of_beq_eq_true hlen
    rw [takeL_eq] at hsz
    have hle:i.size≤l.length:=by rw [List.length_take] at hsz;omega
    refine ⟨.agg (cs.take i.size).toArray,?_,?_⟩
    ·intro w' hw'
     unfold execOp
     have:=run_loadVar_mid (P:=P) w' g' o' t (cs.take i.size) i.desc (fun j v hj=>by
      rw [List.getElem?_take] at hj
      split at hj
      ·exact hw'.cell (hc j v hj)
      ·cases hj) hu zp47 (by rw [hj];simp [hs,List.length_take];omega)
     exact zt56
    ·refine .agg _ _ (by simp [takeL_eq,List.length_take];omega) (fun j c a hj ha=>?_)
     rw [takeL_eq,List.getElem?_take] at ha
     split at ha
     ·rename_i hlt
      simp [hlt] at hj
      exact hrel j c a hj ha
     ·cases ha
   ·exact hk.elim
  ·rename_i hag
   split at hk
   ·rename_i a rest
    refine ⟨_,fun hg=>opsem_pure fun m S w a H₂ hG ht hu'=>?_,⟨rfl,rfl⟩,hk⟩
    have hr:=hu' _ (List.mem_singleton.2 rfl) rfl
    obtain ⟨g',o',cs,hv,hcl,hc,hrel⟩:=hl hg m S w H₂ _ hG ht hr
    cases cs with
    | nil=>simp at hcl
    | cons c cs =>
     refine ⟨c,?_,hrel 0 c _ rfl rfl⟩
     intro w' hw'
     unfold execOp
     have:=run_loadVar_one (P:=P) w' g' o' t c i.desc (by have:=hw'.cell (hc 0 c rfl);simpa using this) hu zp47
     exact zt56
   ·split at hk
    ·obtain ⟨hb,v,hk⟩:=hk
     subst hb
     exact ⟨_,fun hg=>absurd (show false=true from hg) (by decide),⟨rfl,rfl⟩,hk⟩
    ·exact hk.elim
theorem zp21 {p:Prop} (h:p:=by simp;omega):p:=h
theorem setCells_block:∀ (vs:List Value) (o:Nat) (w:World) (g:Nat) (cs:Array Value) (e:TypeId) (fr:Nat×Nat),w.heap[g]?=some (.cells cs e fr) →
  ∃ cs',(w.setCells g o vs).heap[g]?=some (.cells cs' e fr)∧cs'.size=cs.size∧∀ j,j<cs.size→cs'[j]?=if o≤j∧j<o+vs.length then vs[j-o]? else cs[j]?
 | [],o,w,g,cs,e,fr,h=>⟨cs,h,rfl,fun j _=>by rw [if_neg (by simp)]⟩
 | v::vs,o,w,g,cs,e,fr,h=>by
  have h1:(w.setCell ⟨g,o,none⟩ v).heap[g]?=some (.cells (cs.setIfInBounds o v) e fr):=by
   simp [World.setCell,Array.getElem?_modify,h]
  obtain ⟨cs',h2,h3,h4⟩:=setCells_block vs (o+1) _ g _ e fr h1
  refine ⟨cs',h2,by simpa using h3,fun j hj=>?_⟩
  rw [h4 j zp16]
  by_cases hj1:o+1≤j∧j<o+1+vs.length
  ·rw [if_pos hj1,if_pos zp21]
   obtain ⟨q,hq⟩:∃ q,j-o=q+1:=⟨j-o-1,by omega⟩
   rw [hq,List.getElem?_cons_succ]
   congr 1
   omega
  ·rw [if_neg hj1]
   by_cases hjo:j=o
   ·subst hjo
    rw [if_pos (by simp)]
    simp [hj]
   ·rw [if_neg zp21,Array.getElem?_setIfInBounds_ne (by omega)]
theorem setCells_other:∀ (vs:List Value) (o:Nat) (w:World) (g k:Nat),k≠g→(w.setCells g o vs).heap[k]?=w.heap[k]?
 | [],_,_,_,_,_=>rfl
 | v::vs,o,w,g,k,h=>by
  rw [World.setCells,setCells_other vs (o+1) _ g k h]
  exact RowKit.Below.heap_setCell w ⟨g,o,none⟩ v k h
theorem setCells_rest:∀ (vs:List Value) (o:Nat) (w:World) (g:Nat),(w.setCells g o vs).os=w.os∧(w.setCells g o vs).tape=w.tape∧(w.setCells g o vs).output=w.output∧(w.setCells g o vs).heap.size=w.heap.size
 | [],_,_,_=>⟨rfl,rfl,rfl,rfl⟩
 | v::vs,o,w,g=>by
  obtain ⟨h1,h2,h3,h4⟩:=setCells_rest vs (o+1) (w.setCell ⟨g,o,none⟩ v) g
  exact ⟨h1,h2,h3,by rw [World.setCells,h4];simp [World.setCell]⟩
theorem flat_set {E:Nat}:∀ (l:List AV),(∀ x∈l,x.cells.length=E)→∀ (i:Nat) (y:AV),i<l.length→y.cells.length=E→∀ q,(flat (l.set i y))[q]?=if i*E≤q∧q<i*E+E then y.cells[q-i*E]? else (flat l)[q]?
 | [],_,i,y,h,_,q=>by simp at h
 | z::l,hE,0,y,h,hy,q=>by
  have h0:z.cells.length=E:=hE z (by simp)
  simp only [List.set_cons_zero,flat,List.flatMap_cons,Nat.zero_mul,Nat.zero_le,true_and,Nat.zero_add,Nat.sub_zero]
  by_cases hq:q<E
  ·rw [if_pos hq,List.getElem?_append_left (by omega)]
  ·rw [if_neg hq,List.getElem?_append_right (by omega),List.getElem?_append_right (by omega),hy,h0]
 | z::l,hE,i+1,y,h,hy,q=>by
  have h0:z.cells.length=E:=hE z (by simp)
  have ih:=flat_set l (fun x hx=>hE x (by simp [hx])) i y zp19 hy (q-E)
  simp only [List.set_cons_succ,flat,List.flatMap_cons] at ih ⊢
  have e1:(i+1)*E=i*E+E:=Nat.succ_mul i E
  by_cases hq:q<E
  ·rw [List.getElem?_append_left (by omega),if_neg (by omega),List.getElem?_append_left (by omega)]
  ·rw [List.getElem?_append_right (by omega),List.getElem?_append_right (by omega),h0,ih]
   by_cases hq2:i*E≤q-E∧q-E<i*E+E
   ·rw [if_pos hq2,if_pos (by omega)];congr 1;omega
   ·rw [if_neg hq2,if_neg (by omega)]
def AV.tree0:AV→Bool
 | .ptr .. | .eptr .. | .own .. | .pre .. | .part .. | .map .. | .agg _ | .tup _ | .qptr .. | .csl ..=>false
 | .fn _ [] []=>true
 | .fn ..=>false
 | _=>true
def AV.tree1:AV→Bool
 | .fn _ ls cs=>ls.all AV.tree0&&cs.all AV.tree0
 | v=>v.tree0
def AV.tree:AV→Bool
 | .agg l=>l.all AV.tree1
 | v=>v.tree1
theorem AV.tree_cells {y a:AV} (h:y.tree=true) (ha:a∈y.cells):a.tree1=true:=by
 cases y with
 | agg l=>simp only [AV.tree,List.all_eq_true] at h;exact h a ha
 | _=>simp only [AV.cells,List.mem_singleton] at ha;subst ha;exact h
theorem RelV.toT0 {m:Ids} {S:Blocks} {w:World} {v:Value} {a:AV} (h:RelV m S w v a) (ht:a.tree0=true):RelT S w v a:=by
 cases h with
 | t _ _ h=>exact h
 | fn f fs cs lf lc h1 h2 r1 r2 =>
  match lf,lc,h1,h2,ht with
  | [],[],h1,h2,_=>exact .fn f fs cs [] [] h1 h2 (fun j c a hj ha=>by simp at ha) (fun j c a hj ha=>by simp at ha)
  | _::_,_,_,_,ht=>simp [AV.tree0] at ht
  | [],_::_,_,_,ht=>simp [AV.tree0] at ht
 | _=>simp [AV.tree0] at ht
theorem RelV.toT1 {m:Ids} {S:Blocks} {w:World} {v:Value} {a:AV} (h:RelV m S w v a) (ht:a.tree1=true):RelT S w v a:=by
 cases h with
 | t _ _ h=>exact h
 | fn f fs cs lf lc h1 h2 r1 r2 =>
  simp only [AV.tree1,Bool.and_eq_true,List.all_eq_true] at ht
  exact .fn f fs cs lf lc h1 h2 (fun j c a hj ha=>(r1 j c a hj ha).toT0 (ht.1 a (List.mem_of_getElem? ha))) (fun j c a hj ha=>(r2 j c a hj ha).toT0 (ht.2 a (List.mem_of_getElem? ha)))
 | _=>simp [AV.tree1,AV.tree0] at ht
theorem RelV.toT {m:Ids} {S:Blocks} {w:World} {v:Value} {a:AV} (h:RelV m S w v a) (ht:a.tree=true):RelT S w v a:=by
 cases h with
 | t _ _ h=>exact h
 | agg cs l hl h=>exact .agg cs l hl fun j c a hj ha=>(h j c a hj ha).toT1 (by
   simp only [AV.tree,List.all_eq_true] at ht
   exact ht a (List.mem_of_getElem? ha))
 | fn f fs cs lf lc h1 h2 r1 r2=>exact RelV.toT1 (.fn f fs cs lf lc h1 h2 r1 r2) ht
 | _=>simp [AV.tree,AV.tree1,AV.tree0] at ht
theorem RelV.cells {m:Ids} {S:Blocks} {w:World} {v:Value} {a:AV} (h:RelV m S w v a) (h1:∀ x∈a.cells,x.one=true) :
  v.cells.size=a.cells.length∧(∀ (j:Nat) (c:Value) (x:AV),v.cells[j]?=some c→a.cells[j]?=some x→RelV m S w c x)∧(∀ c∈v.cells.toList,c.oneCell'=true):=by
 have key:∀ (cs:Array Value) (l:List AV),cs.size=l.length→(∀ x∈l,x.one=true)→(∀ (j:Nat) (c:Value) (a:AV),cs[j]?=some c→l[j]?=some a→RelV m S w c a)→∀ c∈cs.toList,c.oneCell'=true:=by
  intro cs l hl h1 h c hc
  obtain ⟨j,hj,rfl⟩:=List.getElem_of_mem hc
  have hj':j<l.length:=by simpa [hl] using hj
  exact (h j _ l[j] (by simp at hj;simp [hj]) (by simp [hj'])).oneCell (h1 _ (List.getElem_mem hj'))
 have single:∀ {v:Value} {a:AV},RelV m S w v a→a.cells=[a]→v.cells=#[v]→(∀ x∈a.cells,x.one=true) →
   v.cells.size=a.cells.length∧(∀ (j:Nat) (c:Value) (x:AV),v.cells[j]?=some c→a.cells[j]?=some x→RelV m S w c x)∧(∀ c∈v.cells.toList,c.oneCell'=true):=by
  intro v a h ha hv h1
  rw [ha] at h1
  rw [ha,hv]
  refine ⟨rfl,fun j c x hj hx=>?_,fun c hc=>?_⟩
  ·cases j with
   | zero=>simp at hj hx;subst hj;subst hx;exact h
   | succ j=>simp at hx
  ·simp at hc
   subst hc
   exact h.oneCell (h1 a (by simp))
 cases a with
 | agg l =>
  cases h with
  | t _ _ h=>cases h with
   | agg cs l hl h=>exact ⟨hl,fun j c x hj hx=>.t _ _ (h j c x hj hx),key cs l hl h1 fun j c x hj hx=>.t _ _ (h j c x hj hx)⟩
  | agg cs l hl h=>exact ⟨hl,h,key cs l hl h1 h⟩
 | _ =>
  have hone:=h.oneCell (h1 _ (by simp [AV.cells]))
  refine single h rfl ?_ h1
  cases v<;>first | rfl | (simp [Value.oneCell'] at hone)
def withCells (a:AV) (k:List AV→Prop):Prop :=
 match a with
 | .agg l=>k l
 | v=>k [v]
theorem withCells_iff {a:AV} {k:List AV→Prop}:withCells a k↔k a.cells:=by cases a<;>rfl
def allOne:List AV→Bool
 | []=>true
 | a::l=>match a.one with
  | true=>allOne l
  | false=>false
theorem allOne_spec:∀ {l:List AV},allOne l=true→∀ a∈l,a.one=true
 | [],_,a,h=>by simp at h
 | b::l,h,a,ha=>by
  unfold allOne at h
  split at h
  ·rename_i hb
   rcases List.mem_cons.1 ha with rfl | ha
   ·exact hb
   ·exact allOne_spec h a ha
  ·cases h
def updF (f:Nat→Int) (i:Nat) (x:Int):Nat→Int:=fun j=>if j=i then x else f j
def evStore (T:Tab) (H:Heap) (nx:Nat) (t:TypeId) (p v:AV) (k:Res→Prop):Prop :=
 match lkT T t with
 | none=>False
 | some i=>match p with
  | .ptr id off=>match lkH H id with
   | .cells e l=>withCells v fun xs =>
    match Nat.beq xs.length i.size&&allOne xs&&Nat.ble (off+i.size) l.length with
    | true=>k ⟨.undef,[id],[(id,.cells e (putL off xs l))],nx⟩
    | false=>False
   | .arr e k' n f=>match v with
    | .int kv x=>match Nat.beq (kidx kv) (kidx k')&&Nat.beq i.size 1 with
     | true=>off<n∧k ⟨.undef,[id],[(id,.arr e k' n (updF f off x))],nx⟩
     | false=>False
    | .iarr kv n' f'=>match Nat.beq (kidx kv) (kidx k')&&Nat.beq off 0&&Nat.beq n' n&&Nat.beq i.size n with
     | true=>k ⟨.undef,[id],[(id,.arr e k' n f')],nx⟩
     | false=>False
    | _=>False
   | _=>False
  | .eptr id E i' 0=>match lkH H id with
   | .row e E' enc d xs=>match Nat.beq i.size E with
    | true=>∃ y,enc y=v∧i'<xs.length∧(E=E'∧i.size=E∧v.tree=true∧v.cells.length=E∧allOne v.cells=true)∧k ⟨.undef,[id],[(id,.row e E' enc d (xs.set i' y))],nx⟩
    | false=>∃ y,(enc y).cells=putL 0 v.cells (enc (xs.getD i' d)).cells∧i'<xs.length∧(E=E'∧i.size=v.cells.length∧0+v.cells.length≤E∧v.tree=true∧allOne v.cells=true)∧k ⟨.undef,[id],[(id,.row e E' enc d (xs.set i' y))],nx⟩
   | .lst e E' l=>i'<l.length∧(E=E'∧i.size=E∧v.tree=true∧v.cells.length=E∧allOne v.cells=true)∧k ⟨.undef,[id],[(id,.lst e E' (l.set i' v))],nx⟩
   | _=>False
  | .eptr id E i' off=>match lkH H id with
   | .row e E' enc d xs=>∃ y,(enc y).cells=putL off v.cells (enc (xs.getD i' d)).cells∧i'<xs.length∧(E=E'∧i.size=v.cells.length∧off+v.cells.length≤E∧v.tree=true∧allOne v.cells=true)∧k ⟨.undef,[id],[(id,.row e E' enc d (xs.set i' y))],nx⟩
   | _=>False
  | _=>False
theorem run_storeVar_cells {P:Program} (w:World) (b o:Nat) (ty:TypeId) (v:Value) (ht:w.there b o v.cells.size) (hi:(P.info? ty).map (·.size)=some v.cells.size) (h1:∀ c∈v.cells.toList,c.oneCell'=true) :
  (storeVar ty ⟨b,o,none⟩ v).run P w=.ok () (w.setCells b o v.cells.toList):=by
 have:=run_storeCells_cells (P:=P) b o v.cells.toList 0 w (fun j hj=>by simpa using (ht j zp16).1) (fun j hj=>by simpa using (ht j zp16).2) h1
 cases hq:P.info? ty with
 | none=>simp [hq] at hi
 | some i =>
  have hs:v.cells.size=i.size:=by simp [hq] at hi;omega
  simp only [Nat.add_zero] at this
  simp [storeVar,sizeOf,typeInfo,hq,hs,this]
theorem zt111 {p:Prop}(h:p:=by
 rw [if_neg hq] at hj ha
 refine (h.rel j c a ?_ ha).mono (fun _ h=>h) hkeep
 rw [← htake,List.getElem?_take,if_pos hlt]
 simpa using hj):p:=h
theorem zt142 {p:Prop}(h:p:=by
 have htr:a.tree1=true:=AV.tree_cells ht (List.mem_of_getElem? ha)
 exact (this.toT1 htr).mono (fun _ h=>h) hkeep):p:=h
theorem zt170 {p:Prop}(h:p:=by
 split at hq
 ·exact h1 a (List.mem_of_getElem? hq)
 ·exact h.ones a (List.mem_of_getElem? hq)):p:=h
theorem RowRel.store {m:Ids} {S:Blocks} {w w':World} {e E:Nat} {l:List AV} {g n cap:Nat} {vs:List Value} (h:RowRel S w e E l (.slice (some ⟨g,0,none⟩) n cap) vs) {i:Nat} (hi:i<l.length) {y:AV} {v:Value}
  (hy:RelV m S w v y) (ht:y.tree=true) (hE:y.cells.length=E) (h1:∀ a∈y.cells,a.one=true) (hw':w'=w.setCells g (i*E) v.cells.toList) (hS:¬ S g) :
  ∃ vs',RowRel S w' e E (l.set i y) (.slice (some ⟨g,0,none⟩) n cap) vs':=by
 obtain ⟨hlen,hown⟩:=h.owns
 rcases hown with ⟨h0,_⟩ | ⟨g',cap',cur,hv,hg0,hh,hnc,hcm,hcs,htake⟩
 ·cases h0
 cases hv
 obtain ⟨cur',hh',hsz,hget⟩:=setCells_block v.cells.toList (i*E) w g cur e (0,0) hh
 rw [← hw'] at hh'
 obtain ⟨c1,c2,c3⟩:=hy.cells h1
 have hvE:v.cells.toList.length=E:=by simp [c1,hE]
 have hle:i*E+E≤l.length*E:=by
  exact zt68
 have hcapE:l.length*E≤cap*E:=Nat.mul_le_mul_right _ hnc
 have hkeep:∀ k,S k→w'.heap[k]?=w.heap[k]?:=fun k hk=>by rw [hw'];exact setCells_other _ _ _ _ _ (fun e=>hS (e ▸ hk))
 refine ⟨cur'.toList.take (l.length*E),⟨⟨by rw [List.length_take];simp;omega,.inr ⟨g,cap,cur',by simp,hg0,hh',by simpa using hnc,hcm,by omega,by simp⟩⟩,?_,?_,?_⟩⟩
 ·intro x hx
  rcases List.mem_or_eq_of_mem_set hx with hx | rfl
  ·exact h.size x hx
  ·exact hE
 ·intro a ha
  obtain ⟨q,hq⟩:=List.getElem?_of_mem ha
  rw [flat_set l h.size i y hi hE q] at hq
  exact zt170
 ·intro j c a hj ha
  rw [List.getElem?_take] at hj
  split at hj
  ·rename_i hlt
   rw [flat_set l h.size i y hi hE j] at ha
   rw [Array.getElem?_toList,hget j (by omega),hvE] at hj
   by_cases hq:i*E≤j∧j<i*E+E
   ·rw [if_pos hq] at hj ha
    have:RelV m S w c a:=c2 (j-i*E) c a zp16 ha
    exact zt142
   ·exact zt111
  ·cases hj
theorem RowRel.storePart {m:Ids} {S:Blocks} {w w':World} {e E:Nat} {l:List AV} {g n cap:Nat} {vs:List Value} (h:RowRel S w e E l (.slice (some ⟨g,0,none⟩) n cap) vs) {i:Nat} (hi:i<l.length) {off:Nat} {y z:AV} {v:Value}
  (hy:RelV m S w v y) (ht:y.tree=true) (hoff:off+y.cells.length≤E) (hz:z.cells=putL off y.cells l[i].cells) (h1:∀ a∈y.cells,a.one=true) (hw':w'=w.setCells g (i*E+off) v.cells.toList) (hS:¬ S g) :
  ∃ vs',RowRel S w' e E (l.set i z) (.slice (some ⟨g,0,none⟩) n cap) vs':=by
 obtain ⟨hlen,hown⟩:=h.owns
 rcases hown with ⟨h0,_⟩ | ⟨g',cap',cur,hv,hg0,hh,hnc,hcm,hcs,htake⟩
 ·cases h0
 cases hv
 obtain ⟨cur',hh',hsz,hget⟩:=setCells_block v.cells.toList (i*E+off) w g cur e (0,0) hh
 rw [← hw'] at hh'
 obtain ⟨c1,c2,c3⟩:=hy.cells h1
 have hiE:l[i].cells.length=E:=h.size _ (List.getElem_mem hi)
 have hzE:z.cells.length=E:=by rw [hz,putL_length,hiE]
 have hvE:v.cells.toList.length=y.cells.length:=by simp [c1]
 have hle:i*E+E≤l.length*E:=by
  exact zt68
 have hcapE:l.length*E≤cap*E:=Nat.mul_le_mul_right _ hnc
 have hkeep:∀ k,S k→w'.heap[k]?=w.heap[k]?:=fun k hk=>by rw [hw'];exact setCells_other _ _ _ _ _ (fun e=>hS (e ▸ hk))
 have hflat:∀ q,(flat (l.set i z))[q]?=if i*E+off≤q∧q<i*E+off+y.cells.length then y.cells[q-(i*E+off)]? else (flat l)[q]?:=by
  intro q
  have hself:=flat_set l h.size i l[i] hi hiE q
  rw [List.set_getElem_self] at hself
  rw [flat_set l h.size i z hi hzE q]
  by_cases hq:i*E≤q∧q<i*E+E
  ·rw [if_pos hq] at hself ⊢
   rw [hz,putL_get _ _ _ _ (by rw [hiE];exact hoff),hself]
   by_cases hq2:off≤q-i*E∧q-i*E<off+y.cells.length
   ·rw [if_pos hq2,if_pos (by omega),show q-(i*E+off)=q-i*E-off by omega]
   ·rw [if_neg hq2,if_neg (by omega)]
  ·rw [if_neg hq,if_neg (by omega)]
 refine ⟨cur'.toList.take (l.length*E),⟨⟨by rw [List.length_take];simp;omega,.inr ⟨g,cap,cur',by simp,hg0,hh',by simpa using hnc,hcm,by omega,by simp⟩⟩,?_,?_,?_⟩⟩
 ·intro x hx
  rcases List.mem_or_eq_of_mem_set hx with hx | rfl
  ·exact h.size x hx
  ·exact hzE
 ·intro a ha
  obtain ⟨q,hq⟩:=List.getElem?_of_mem ha
  rw [hflat q] at hq
  exact zt170
 ·intro j c a hj ha
  rw [List.getElem?_take] at hj
  split at hj
  ·rename_i hlt
   rw [hflat j] at ha
   rw [Array.getElem?_toList,hget j (by omega),hvE] at hj
   by_cases hq:i*E+off≤j∧j<i*E+off+y.cells.length
   ·rw [if_pos hq] at hj ha
    have:RelV m S w c a:=c2 (j-(i*E+off)) c a zp16 ha
    exact zt142
   ·exact zt111
  ·cases hj
theorem zt162 {p:Prop}(h:p:=by
 refine ⟨by rw [cell_of_row w g (off+j) cs e (0,0) hg];simp [hlt],frozen_of_row w g (off+j) cs e hg⟩):p:=h
theorem zp41 {p:Prop} (h:p:=by rw [r4];exact Nat.le_refl _):p:=h
theorem sem_store_arr [Tabs] {P:Program} {rd:Operand→AV} {H:Heap} {nx:Nat} {t:TypeId} {x y:Operand} {o:Oper} (ho:o.op=.store t x y) {id off:Nat} (hp:rd x=.ptr id off) {e:TypeId} {k':IntKind} {n:Nat} {f f':Nat→Int} (hid:lkH H id=.arr e k' n f)
  {sz:Nat} {j0:TypeInfo} (hj:P.info? t=some j0) (hsz:j0.size=sz) (hle:off+sz≤n)
  (hy:∀ (m:Ids) (S:Blocks) (w:World) (v:Value),RelV m S w v (rd y)→v.cells.size=sz∧(∀ (j:Nat) (c:Value),v.cells[j]?=some c→c=.int k' (f' (off+j))))
  (hf:∀ j,j<n→¬ (off≤j∧j<off+sz)→f' j=f j) :
  OpSem P o [(x,true,rd x),(y,true,rd y)] H nx ⟨.undef,[id],[(id,.arr e k' n f')],nx⟩:=by
 intro m S w a H₂ K Q hG ht _ hus hK
 have hx:RelV m S w (a.eval x) (rd x):=hus (x,true,rd x) (by simp) rfl
 have hyv:RelV m S w (a.eval y) (rd y):=hus (y,true,rd y) (by simp) rfl
 rw [hp] at hx
 have hid2:=ht id (by simp)
 have hb:=hG.rel id
 rw [hid2,hid] at hb
 obtain ⟨g,cs,hmi,hg,hl,hrel⟩:=hb
 cases hv:a.eval x with
 | pointer pa =>
  rw [hv] at hx
  cases hx with
  | t _ _ h=>cases h
  | ptr id off g' hm =>
   rw [hmi] at hm
   cases hm
   obtain ⟨c1,c2⟩:=hy m S w _ hyv
   have hthere:w.there g off (a.eval y).cells.size:=fun j hj=>by
    have hlt:off+j<cs.size:=by omega
    exact zt162
   have hrun:=run_storeVar_cells (P:=P) w g off t (a.eval y) hthere (by rw [hj];simp [hsz,c1]) (fun c hc=>by
    obtain ⟨j,hj⟩:=List.getElem?_of_mem hc
    rw [c2 j c zp16]
    rfl)
   unfold Oper.wp execOp
   simp only [ho,hv,Instr.storeAt,Instr.sureAddr,Sem.run_bind,Sem.run_pure,Result.andThen_ok,hrun]
   show K (a.put o.dst Go.undef) _
   obtain ⟨cs',hg',hsz',hget⟩:=setCells_block (a.eval y).cells.toList off w g cs e (0,0) hg
   obtain ⟨r1,r2,r3,r4⟩:=setCells_rest (a.eval y).cells.toList off w g
   have hlive:(lkH H₂ id).live=true:=by rw [hid2,hid];rfl
   refine hK Go.undef m S _ (ext_upd hG hlive hmi rfl _ _ r1 r2 r3 zp41 (fun k _ hne=>setCells_other _ _ _ _ _ hne) ?_) (.t _ _ (.undef _))
   refine ⟨g,cs',hmi,hg',by rw [hsz',hl],fun j c hj=>?_⟩
   have hjlt:j<cs.size:=by
    have:=(Array.getElem?_eq_some_iff.1 hj).1
    omega
   rw [hget j hjlt] at hj
   have hvl:(a.eval y).cells.toList.length=sz:=by simp [c1]
   rw [hvl] at hj
   by_cases hq:off≤j∧j<off+sz
   ·rw [if_pos hq] at hj
    have:=c2 (j-off) c zp16
    rwa [show off+(j-off)=j by omega] at this
   ·rw [if_neg hq] at hj
    rw [hf j (by omega) hq]
    exact hrel j c hj
 | _=>rw [hv] at hx;cases hx with
  | t _ _ h=>cases h
theorem zt89 {p:Prop}(h:p:=by
 have h2:(i'+1)*E≤xs.length*E:=Nat.mul_le_mul_right _ hi'
 have h3:(xs.map enc).length*E≤cap*E:=Nat.mul_le_mul_right _ hnc
 rw [Nat.add_mul] at h2
 simp at h3
 omega):p:=h
theorem zt100 {p:Prop}(h:p:=by
 exact ⟨by rw [cell_of_row w g _ cur e (0,0) hh];simp [hlt],frozen_of_row w g _ cur e hh⟩):p:=h
theorem store_part [Tabs] {P:Program} {rd:Operand→AV} {H:Heap} {nx:Nat} {t:TypeId} {x y:Operand} {o:Oper} {i:TI} {ji:TypeInfo} (ho:o.op=.store t x y) (hj:P.info? t=some ji) (hs:ji.size=i.size) {k:Res→Prop} {id E i' off:Nat} (hp:rd x=.eptr id E i' off) {T':Type} {e E':Nat} {enc:T'→AV} {d:T'} {xs:List T'} (hid:lkH H id=.row e E' enc d xs)
  {yv:T'} (hyv:(enc yv).cells=putL off (rd y).cells (enc (xs.getD i' d)).cells) (hi':i'<xs.length) (hE:E=E') (hE2:i.size=(rd y).cells.length) (hoff:off+(rd y).cells.length≤E) (htree:(rd y).tree=true) (hone:allOne (rd y).cells=true) (hk:k ⟨.undef,[id],[(id,.row e E' enc d (xs.set i' yv))],nx⟩) :
  ∃ r,OpSem P o [(x,true,rd x),(y,true,rd y)] H nx r∧nx≤r.nx∧k r:=by
 subst hE
 refine ⟨_,?_,Nat.le_refl _,hk⟩
 intro m S w a H₂ K Q hG ht _ hus hK
 have hx:RelV m S w (a.eval x) (rd x):=hus (x,true,rd x) (by simp) rfl
 have hy:RelV m S w (a.eval y) (rd y):=hus (y,true,rd y) (by simp) rfl
 simp only [hp] at hx
 have hid2:=ht id (by simp)
 have hb:=hG.rel id
 rw [hid2,hid] at hb
 obtain ⟨v',vs,hmi,hrow⟩:=hb
 cases hv:a.eval x with
 | pointer pa =>
  rw [hv] at hx
  cases hx with
  | t _ _ h=>cases h
  | eptr id E i off g n cap hm =>
   rw [hmi] at hm
   cases hm
   have h1:=allOne_spec hone
   obtain ⟨c1,c2,c3⟩:=hy.cells h1
   have hlive:(lkH H₂ id).live=true:=by rw [hid2,hid];rfl
   have hSg:¬ S g:=fun hSg=>(hG.ro g hSg).2 id _ hlive hmi rfl
   obtain ⟨hlen,hown⟩:=hrow.owns
   rcases hown with ⟨h0,_⟩ | ⟨g',cap',cur,hv',hg0,hh,hnc,hcm,hcs,htake⟩
   ·cases h0
   cases hv'
   have hle:i'*E+E≤cur.size:=by
    exact zt89
   have hthere:w.there g (i'*E+off) (a.eval y).cells.size:=fun j hj=>by
    have hlt:i'*E+off+j<cur.size:=by rw [c1] at hj;omega
    exact zt100
   have hrun:=run_storeVar_cells (P:=P) w g (i'*E+off) t (a.eval y) hthere (by rw [hj];simp [hs,c1,hE2]) c3
   unfold Oper.wp execOp
   simp only [ho,hv,Instr.storeAt,Instr.sureAddr,Sem.run_bind,Sem.run_pure,Result.andThen_ok,hrun]
   show K (a.put o.dst undef) _
   obtain ⟨r1,r2,r3,r4⟩:=setCells_rest (a.eval y).cells.toList (i'*E+off) w g
   refine hK undef m S _ (ext_upd hG hlive hmi rfl _ _ r1 r2 r3 zp41 (fun k _ hne=>setCells_other _ _ _ _ _ hne) ?_) (.t _ _ (.undef _))
   have hget:(xs.map enc)[i']'(by simpa using hi')=enc (xs.getD i' d):=by
    rw [List.getElem_map,List.getD_eq_getElem?_getD,List.getElem?_eq_getElem hi']
    rfl
   obtain ⟨vs',hrow'⟩:=hrow.storePart (m:=m) (i:=i') (by simpa using hi') (z:=enc yv) hy htree hoff (by rw [hget];exact hyv) h1 rfl hSg
   refine ⟨_,vs',hmi,?_⟩
   rw [List.map_set]
   exact hrow'
 | _=>rw [hv] at hx;cases hx with
  | t _ _ h=>cases h
theorem zt130 {p:Prop}(h:p:=by
 obtain ⟨yv,hyv,hi',⟨hE,hE2,hoff,htree,hone⟩,hk⟩:=h
 exact store_part ho hj hs hp hid hyv hi' hE hE2 hoff htree hone hk):p:=h
theorem evStore_sound [Tabs] {P:Program} {T:Tab} (hT:TabOk P T) {rd:Operand→AV} {H:Heap} {nx:Nat} {t:TypeId} {x y:Operand} {o:Oper} (ho:o.op=.store t x y) {k:Res→Prop}
  (h:evStore T H nx t (rd x) (rd y) k):∃ r,OpSem P o [(x,true,rd x),(y,true,rd y)] H nx r∧nx≤r.nx∧k r:=by
 unfold evStore at h
 split at h
 ·exact h.elim
 rename_i i hi
 obtain ⟨hu,ji,hj,hs,_,_⟩:=hT t i hi
 split at h
 ·rename_i id off hp
  split at h
  ·rename_i e l hid
   rw [withCells_iff] at h
   split at h
   ·rename_i hc
    simp only [Bool.and_eq_true] at hc
    obtain ⟨⟨hc1,hc2⟩,hc3⟩:=hc
    have hsz:(rd y).cells.length=i.size:=Nat.eq_of_beq_eq_true hc1
    have hle:off+i.size≤l.length:=Nat.le_of_ble_eq_true hc3
    have h1:=allOne_spec hc2
    refine ⟨_,?_,Nat.le_refl _,h⟩
    intro m S w a H₂ K Q hG ht _ hus hK
    have hx:RelV m S w (a.eval x) (rd x):=hus (x,true,rd x) (by simp) rfl
    have hy:RelV m S w (a.eval y) (rd y):=hus (y,true,rd y) (by simp) rfl
    simp only [hp] at hx
    have hid2:=ht id (by simp)
    have hb:=hG.rel id
    rw [hid2,hid] at hb
    obtain ⟨g,cs,hmi,hg,hl,h1l,hrel⟩:=hb
    cases hv:a.eval x with
    | pointer pa =>
     rw [hv] at hx
     cases hx with
     | t _ _ h=>cases h
     | ptr id off g' hm =>
      rw [hmi] at hm
      cases hm
      obtain ⟨c1,c2,c3⟩:=hy.cells h1
      have hthere:w.there g off (a.eval y).cells.size:=fun j hj=>by
       have hlt:off+j<cs.size:=by rw [hl];omega
       exact zt162
      have hrun:=run_storeVar_cells (P:=P) w g off t (a.eval y) hthere (by rw [hj];simp [hs,c1,hsz]) c3
      unfold Oper.wp execOp
      simp only [ho,hv,Instr.storeAt,Instr.sureAddr,Sem.run_bind,Sem.run_pure,Result.andThen_ok,hrun]
      show K (a.put o.dst undef) _
      obtain ⟨cs',hg',hsz',hget⟩:=setCells_block (a.eval y).cells.toList off w g cs e (0,0) hg
      obtain ⟨r1,r2,r3,r4⟩:=setCells_rest (a.eval y).cells.toList off w g
      have hlive:(lkH H₂ id).live=true:=by rw [hid2,hid];rfl
      have hSg:¬ S g:=fun hSg=>(hG.ro g hSg).2 id _ hlive hmi rfl
      refine hK undef m S _ (ext_upd hG hlive hmi rfl _ _ r1 r2 r3 zp41 (fun k _ hne=>setCells_other _ _ _ _ _ hne) ?_) (.t _ _ (.undef _))
      have hkeep:∀ k,S k→(w.setCells g off (a.eval y).cells.toList).heap[k]?=w.heap[k]?:=fun k hk=>setCells_other _ _ _ _ _ (fun e=>hSg (e ▸ hk))
      refine ⟨g,cs',hmi,hg',by rw [putL_length,hsz',hl],?_,?_⟩
      ·intro z hz
       obtain ⟨q,hq⟩:=List.getElem?_of_mem hz
       rw [putL_get _ _ _ _ (by rw [hsz];exact hle)] at hq
       split at hq
       ·exact h1 z (List.mem_of_getElem? hq)
       ·exact h1l z (List.mem_of_getElem? hq)
      ·intro j c z hj hz
       have hjlt:j<cs.size:=by
        have:=(Array.getElem?_eq_some_iff.1 hj).1
        omega
       rw [hget j hjlt] at hj
       rw [putL_get _ _ _ _ (by rw [hsz];exact hle)] at hz
       have hvl:(a.eval y).cells.toList.length=(rd y).cells.length:=by simp [c1]
       rw [hvl] at hj
       by_cases hq:off≤j∧j<off+(rd y).cells.length
       ·rw [if_pos hq] at hj hz
        exact (c2 (j-off) c z zp16 hz).mono (fun _ _ h=>h) (fun _ h=>h) hkeep
       ·rw [if_neg hq] at hj hz
        exact (hrel j c z hj hz).mono (fun _ _ h=>h) (fun _ h=>h) hkeep
    | _=>rw [hv] at hx;cases hx with
     | t _ _ h=>cases h
   ·exact h.elim
  ·rename_i e k' n f hid
   split at h
   ·rename_i kv xv hy0
    split at h
    ·rename_i hc
     simp only [Bool.and_eq_true] at hc
     have hk:=kidx_inj hc.1
     have hs1:i.size=1:=Nat.eq_of_beq_eq_true hc.2
     subst hk
     obtain ⟨hlt,h⟩:=h
     refine ⟨_,sem_store_arr ho hp hid hj (sz:=1) (by omega) (by omega) (fun m S w v hv=>?_) (fun j hj hq=>?_),Nat.le_refl _,h⟩
     ·rw [hy0] at hv
      cases hv with
      | t _ _ h=>cases h with
       | int _ _=>exact ⟨rfl,fun j c hj=>by
        cases j with
        | zero=>simp [Value.cells] at hj;subst hj;simp [updF]
        | succ j=>simp [Value.cells] at hj⟩
     ·have:j≠off:=by omega
      simp [updF,this]
    ·exact h.elim
   ·rename_i kv n' f' hy0
    split at h
    ·rename_i hc
     simp only [Bool.and_eq_true] at hc
     have hk:=kidx_inj hc.1.1.1
     have h0:off=0:=Nat.eq_of_beq_eq_true hc.1.1.2
     have hn:n'=n:=Nat.eq_of_beq_eq_true hc.1.2
     have hs1:i.size=n:=Nat.eq_of_beq_eq_true hc.2
     subst hk h0 hn
     refine ⟨_,sem_store_arr ho hp hid hj (sz:=n') (by omega) (by omega) (fun m S w v hv=>?_) (fun j hj hq=>(hq ⟨by omega,by omega⟩).elim),Nat.le_refl _,h⟩
     rw [hy0] at hv
     cases hv with
     | t _ _ h=>cases h with
      | iarr _ _ _ cs hl hr=>exact ⟨hl,fun j c hj=>by rw [Nat.zero_add];exact hr j c hj⟩
    ·exact h.elim
   ·exact h.elim
  ·exact h.elim
 ·rename_i id E i' hp
  split at h
  ·rename_i T' e E' enc d xs hid
   split at h
   rotate_left
   ·exact zt130
   obtain ⟨yv,hyv,hi',⟨hE,hE2,htree,hcl,hone⟩,hk⟩:=h
   subst hE
   refine ⟨_,?_,Nat.le_refl _,hk⟩
   intro m S w a H₂ K Q hG ht _ hus hK
   have hx:RelV m S w (a.eval x) (rd x):=hus (x,true,rd x) (by simp) rfl
   have hy:RelV m S w (a.eval y) (rd y):=hus (y,true,rd y) (by simp) rfl
   simp only [hp] at hx
   have hid2:=ht id (by simp)
   have hb:=hG.rel id
   rw [hid2,hid] at hb
   obtain ⟨v',vs,hmi,hrow⟩:=hb
   cases hv:a.eval x with
   | pointer pa =>
    rw [hv] at hx
    cases hx with
    | t _ _ h=>cases h
    | eptr id E i off g n cap hm =>
     rw [hmi] at hm
     cases hm
     have h1:=allOne_spec hone
     obtain ⟨c1,c2,c3⟩:=hy.cells h1
     have hlies:=hrow.lies (m:=m) rfl (i:=i') (by simpa using hi')
     have hlive:(lkH H₂ id).live=true:=by rw [hid2,hid];rfl
     have hSg:¬ S g:=fun hSg=>(hG.ro g hSg).2 id _ hlive hmi rfl
     obtain ⟨hlen,hown⟩:=hrow.owns
     rcases hown with ⟨h0,_⟩ | ⟨g',cap',cur,hv',hg0,hh,hnc,hcm,hcs,htake⟩
     ·cases h0
     cases hv'
     have hle:i'*E+E≤cur.size:=by
      exact zt89
     have hthere:w.there g (i'*E) (a.eval y).cells.size:=fun j hj=>by
      have hlt:i'*E+j<cur.size:=by rw [c1,hcl] at hj;omega
      exact zt100
     have hrun:=run_storeVar_cells (P:=P) w g (i'*E) t (a.eval y) hthere (by rw [hj];simp [hs,c1,hcl,hE2]) c3
     unfold Oper.wp execOp
     simp only [ho,hv,Instr.storeAt,Instr.sureAddr,Sem.run_bind,Sem.run_pure,Result.andThen_ok,Nat.add_zero,hrun]
     show K (a.put o.dst undef) _
     obtain ⟨r1,r2,r3,r4⟩:=setCells_rest (a.eval y).cells.toList (i'*E) w g
     refine hK undef m S _ (ext_upd hG hlive hmi rfl _ _ r1 r2 r3 zp41 (fun k _ hne=>setCells_other _ _ _ _ _ hne) ?_) (.t _ _ (.undef _))
     obtain ⟨vs',hrow'⟩:=hrow.store (m:=m) (i:=i') (by simpa using hi') hy htree hcl h1 rfl hSg
     refine ⟨_,vs',hmi,?_⟩
     have:(xs.set i' yv).map enc=(xs.map enc).set i' (rd y):=by rw [← hyv,List.map_set]
     rw [this]
     exact hrow'
   | _=>rw [hv] at hx;cases hx with
    | t _ _ h=>cases h
  ·rename_i e E' l hid
   obtain ⟨hi',⟨hE,hE2,htree,hcl,hone⟩,hk⟩:=h
   subst hE
   refine ⟨_,?_,Nat.le_refl _,hk⟩
   intro m S w a H₂ K Q hG ht _ hus hK
   have hx:RelV m S w (a.eval x) (rd x):=hus (x,true,rd x) (by simp) rfl
   have hy:RelV m S w (a.eval y) (rd y):=hus (y,true,rd y) (by simp) rfl
   simp only [hp] at hx
   have hid2:=ht id (by simp)
   have hb:=hG.rel id
   rw [hid2,hid] at hb
   obtain ⟨v',vs,hmi,hrow⟩:=hb
   cases hv:a.eval x with
   | pointer pa =>
    rw [hv] at hx
    cases hx with
    | t _ _ h=>cases h
    | eptr id E i off g n cap hm =>
     rw [hmi] at hm
     cases hm
     have h1:=allOne_spec hone
     obtain ⟨c1,c2,c3⟩:=hy.cells h1
     have hlive:(lkH H₂ id).live=true:=by rw [hid2,hid];rfl
     have hSg:¬ S g:=fun hSg=>(hG.ro g hSg).2 id _ hlive hmi rfl
     obtain ⟨hlen,hown⟩:=hrow.owns
     rcases hown with ⟨h0,_⟩ | ⟨g',cap',cur,hv',hg0,hh,hnc,hcm,hcs,htake⟩
     ·cases h0
     cases hv'
     have hle:i'*E+E≤cur.size:=by
      have h2:(i'+1)*E≤l.length*E:=Nat.mul_le_mul_right _ hi'
      have h3:l.length*E≤cap*E:=Nat.mul_le_mul_right _ hnc
      rw [Nat.add_mul] at h2
      omega
     have hthere:w.there g (i'*E) (a.eval y).cells.size:=fun j hj=>by
      have hlt:i'*E+j<cur.size:=by rw [c1,hcl] at hj;omega
      exact zt100
     have hrun:=run_storeVar_cells (P:=P) w g (i'*E) t (a.eval y) hthere (by rw [hj];simp [hs,c1,hcl,hE2]) c3
     unfold Oper.wp execOp
     simp only [ho,hv,Instr.storeAt,Instr.sureAddr,Sem.run_bind,Sem.run_pure,Result.andThen_ok,Nat.add_zero,hrun]
     show K (a.put o.dst undef) _
     obtain ⟨r1,r2,r3,r4⟩:=setCells_rest (a.eval y).cells.toList (i'*E) w g
     refine hK undef m S _ (ext_upd hG hlive hmi rfl _ _ r1 r2 r3 zp41 (fun k _ hne=>setCells_other _ _ _ _ _ hne) ?_) (.t _ _ (.undef _))
     obtain ⟨vs',hrow'⟩:=hrow.store (m:=m) (i:=i') hi' hy htree hcl h1 rfl hSg
     exact ⟨_,vs',hmi,hrow'⟩
   | _=>rw [hv] at hx;cases hx with
    | t _ _ h=>cases h
  ·exact h.elim
 ·rename_i id E i' off _ hp
  split at h
  ·rename_i T' e E' enc d xs hid
   exact zt130
  ·exact h.elim
 ·exact h.elim
def avOf1:Value→AV
 | .bool b=>.bool b
 | .int k n=>.int k n
 | .string s=>.str s.data.toList
 | .pointer none=>.nilp
 | .slice none 0 0=>.nils
 | .map none=>.nilm
 | .nilFunc=>.nilf
 | .nilIface=>.ifc true
 | _=>.undef
def avOf:Value→AV
 | .agg cs=>.agg (cs.toList.map avOf1)
 | .func f a b=>.fn f (a.toList.map avOf1) (b.toList.map avOf1)
 | v=>avOf1 v
theorem relT_avOf1 (S:Blocks) (w:World) (v:Value):RelT S w v (avOf1 v):=by
 unfold avOf1
 split<;>constructor
 rfl
theorem relT_avOfL (S:Blocks) (w:World) (cs:Array Value) (j:Nat) (c:Value) (a:AV) (hj:cs[j]?=some c) (ha:(cs.toList.map avOf1)[j]?=some a):RelT S w c a:=by
 simp only [List.getElem?_map,Option.map_eq_some_iff] at ha
 obtain ⟨c',hc',rfl⟩:=ha
 rw [Array.getElem?_toList] at hc'
 rw [hc'] at hj
 cases hj
 exact relT_avOf1 S w _
theorem relT_avOf (S:Blocks) (w:World) (v:Value):RelT S w v (avOf v):=by
 cases v with
 | agg cs=>exact .agg _ _ (by simp) fun j c a hj ha=>relT_avOfL S w cs j c a hj ha
 | func f a b=>exact .fn _ _ _ _ _ (by simp) (by simp) (fun j c x hj ha=>relT_avOfL S w a j c x hj ha) (fun j c x hj ha=>relT_avOfL S w b j c x hj ha)
 | _=>exact relT_avOf1 S w _
def evBox (nx:Nat) (t:TypeId) (v:AV) (k:Res→Prop):Prop :=
 withCells v fun xs=>match allOne xs with
  | true=>k ⟨.ptr nx 0,[],[(nx,.cells t xs)],nx+1⟩
  | false=>False
def elemK (T:Tab):Nat→TypeId→Option IntKind
 | 0,_=>none
 | n+1,t=>match lkT T t with
  | some ⟨.int k,_,_,_⟩=>some k
  | some ⟨.array _ e,_,_,_⟩=>elemK T n e
  | _=>none
def arrK (T:Tab) (i:TI):Option IntKind :=
 match i.desc with
 | .array _ e=>elemK T 3 e
 | _=>none
def evAlloc (T:Tab) (nx:Nat) (t:TypeId) (k:Res→Prop):Prop :=
 match lkT T t with
 | none=>False
 | some i=>match arrK T i with
  | some q=>i.zero=.agg (Array.replicate i.size (.int q 0))∧k ⟨.ptr nx 0,[],[(nx,.arr t q i.size (fun _=>0))],nx+1⟩
  | none=>evBox nx t (avOf i.zero) k
theorem sem_newVar [Tabs] {P:Program} {o:Oper} {us:Uses} {H:Heap} {nx:Nat} {t:TypeId} {av:AV} (h1:∀ x∈av.cells,x.one=true)
  (h:∀ (m:Ids) (S:Blocks) (w:World) (a:Act),(∀ u∈us,u.2.1=true→RelV m S w (a.eval u.1) u.2.2)→∃ v,RelV m S w v av∧(execOp a.eval o).run P w=.ok (.value (.pointer (some ⟨w.heap.size,0,none⟩))) (w.alloc (.cells v.cells t))) :
  OpSem P o us H nx ⟨.ptr nx 0,[],[(nx,.cells t av.cells)],nx+1⟩:=by
 intro m S w a H₂ K Q hG _ hfree hus hK
 obtain ⟨v,hv,hrun⟩:=h m S w a hus
 obtain ⟨c1,c2,c3⟩:=hv.cells h1
 unfold Oper.wp
 rw [hrun]
 have hn:m nx=none:=hfree nx (Nat.le_refl _) (Nat.lt_succ_self _)
 have hids:∀ i u,m i=some u→(fun i=>if i=nx then some (.pointer (some ⟨w.heap.size,0,none⟩)) else m i) i=some u:=by
  exact zt69
 refine hK _ _ S _ (ext_new hG hn (.pointer (some ⟨w.heap.size,0,none⟩)) _ (w.alloc (.cells v.cells t)) rfl rfl rfl (by simp) (fun k hk=>RowKit.Below.heap_alloc w _ k hk) (fun k hk=>by simp [blk] at hk;omega) ?_) (.ptr nx 0 w.heap.size (by simp))
 refine ⟨w.heap.size,v.cells,by simp,heap_alloc_new w _,c1,h1,fun j c x hj hx=>(c2 j c x hj hx).mono hids (fun _ h=>h) (fun g hg=>RowKit.Below.heap_alloc w _ g (hG.ro g hg).1)⟩
theorem evBox_sound [Tabs] {P:Program} {rd:Operand→AV} {H:Heap} {nx:Nat} {t:TypeId} {x:Operand} {o:Oper} (ho:o.op=.box t x) {k:Res→Prop}
  (h:evBox nx t (rd x) k):∃ r,OpSem P o [(x,true,rd x)] H nx r∧nx≤r.nx∧k r:=by
 unfold evBox at h
 rw [withCells_iff] at h
 split at h
 ·rename_i h1
  refine ⟨_,sem_newVar (allOne_spec h1) fun m S w a hus=>⟨a.eval x,hus _ (List.mem_singleton.2 rfl) rfl,?_⟩,Nat.le_succ _,h⟩
  unfold execOp
  simp [ho,Instr.box,newVar,newRow]
 ·exact h.elim
theorem evAlloc_sound [Tabs] {P:Program} {T:Tab} (hT:TabOk P T) {H:Heap} {nx:Nat} {t:TypeId} {o:Oper} (ho:o.op=.alloc t) {k:Res→Prop}
  (h:evAlloc T nx t k):∃ r,OpSem P o [] H nx r∧nx≤r.nx∧k r:=by
 unfold evAlloc at h
 split at h
 ·exact h.elim
 rename_i i hi
 obtain ⟨_,j,hj,_,_,hz⟩:=hT t i hi
 split at h
 ·rename_i q _
  obtain ⟨hz0,h⟩:=h
  refine ⟨_,?_,Nat.le_succ _,h⟩
  intro m S w a H₂ K Q hG _ hfree hus hK
  unfold Oper.wp
  have hrun:(execOp a.eval o).run P w=.ok (.value (.pointer (some ⟨w.heap.size,0,none⟩))) (w.alloc (.cells (Array.replicate i.size (.int q 0)) t)):=by
   unfold execOp
   simp [ho,Instr.alloc,zeroValue,typeInfo,hj,hz,newVar,newRow,hz0,Value.cells]
  rw [hrun]
  have hn:m nx=none:=hfree nx (Nat.le_refl _) (Nat.lt_succ_self _)
  refine hK _ _ S _ (ext_new hG hn (.pointer (some ⟨w.heap.size,0,none⟩)) _ (w.alloc (.cells (Array.replicate i.size (.int q 0)) t)) rfl rfl rfl (by simp) (fun k hk=>RowKit.Below.heap_alloc w _ k hk) (fun k hk=>by simp [blk] at hk;omega) ?_) (.ptr nx 0 w.heap.size (by simp))
  refine ⟨w.heap.size,_,by simp,heap_alloc_new w _,by simp,fun j c hj=>?_⟩
  rw [Array.getElem?_replicate] at hj
  split at hj
  ·cases hj;rfl
  ·cases hj
 unfold evBox at h
 rw [withCells_iff] at h
 split at h
 ·rename_i h1
  refine ⟨_,sem_newVar (allOne_spec h1) fun m S w a _=>⟨i.zero,.t _ _ (relT_avOf S w i.zero),?_⟩,Nat.le_succ _,h⟩
  unfold execOp
  simp [ho,Instr.alloc,zeroValue,typeInfo,hj,hz,newVar,newRow]
 ·exact h.elim
def evFieldAddr (T:Tab) (nx:Nat) (t:TypeId) (p:AV) (f:Nat) (k:Res→Prop):Prop :=
 match lkT T t with
 | some ⟨.struct fs,_,_,_⟩=>match fs.toList[f]? with
  | none=>False
  | some fl=>match lkT T fl.type with
   | none=>False
   | some fi=>match fi.size with
    | 0=>False
    | _+1=>match p with
     | .ptr id off=>k ⟨.ptr id (off+fl.offset),[],[],nx⟩
     | .rop l=>match Nat.ble fl.offset l.length with
      | true=>k ⟨.rop (dropL fl.offset l),[],[],nx⟩
      | false=>False
     | .eptr id E i off=>k ⟨.eptr id E i (off+fl.offset),[],[],nx⟩
     | _=>False
 | _=>False
theorem zt131 {p:Prop}(h:p:=by
 intro w' _
 unfold execOp
 simp only [ho,hv,Sem.run_bind,hplace,Result.andThen_ok]
 rfl):p:=h
theorem zt167 {p:Prop}(h:p:=by
 rw [List.getElem?_drop] at hj
 have:=hc _ _ hj
 rwa [← Nat.add_assoc] at this):p:=h
theorem evFieldAddr_sound [Tabs] {P:Program} {T:Tab} (hT:TabOk P T) {rd:Operand→AV} {H:Heap} {nx:Nat} {t:TypeId} {x:Operand} {f:Nat} {o:Oper} (ho:o.op=.fieldAddr t x f) {k:Res→Prop}
  (h:evFieldAddr T nx t (rd x) f k):∃ r,OpSemP P o [(x,true,rd x)] H nx r∧(r.wr=[]∧r.nx=nx)∧k r:=by
 unfold evFieldAddr at h
 split at h
 ·rename_i fs s b z hi
  split at h
  ·exact h.elim
  ·rename_i fl hfl
   split at h
   ·exact h.elim
   ·rename_i fi hfi
    split at h
    ·exact h.elim
    ·rename_i q hq
     obtain ⟨hu,_⟩:=hT t _ hi
     obtain ⟨_,j,hj,hs,_,_⟩:=hT _ _ hfi
     rw [Array.getElem?_toList] at hfl
     have hplace:∀ (w:World) (g o:Nat),(Instr.fieldAt t (.pointer (some ⟨g,o,none⟩)) f).run P w=.ok (.pointer (some ⟨g,o+fl.offset,none⟩)) w:=by
      intro w g o
      simp only at hu
      simp [Instr.fieldAt,run_underlying hu,hfl,Instr.sureAddr,fieldPlace,sizeOf,typeInfo,hj,hs,hq,Addr.add_mid]
     split at h
     ·rename_i id off hp
      refine ⟨_,opsem_pure fun m S w a H₂ hG ht hus=>?_,⟨rfl,rfl⟩,h⟩
      have hx:RelV m S w (a.eval x) (rd x):=hus _ (List.mem_singleton.2 rfl) rfl
      rw [hp] at hx
      generalize hv:a.eval x=v at hx
      cases hx with
      | t _ _ h=>cases h
      | ptr id off g hm =>
       refine ⟨_,?_,.ptr id (off+fl.offset) g hm⟩
       exact zt131
     ·rename_i l hp
      split at h
      ·rename_i hle
       refine ⟨_,opsem_pure fun m S w a H₂ hG ht hus=>?_,⟨rfl,rfl⟩,h⟩
       have hx:RelV m S w (a.eval x) (rd x):=hus _ (List.mem_singleton.2 rfl) rfl
       rw [hp] at hx
       generalize hv:a.eval x=v at hx
       cases hx with
       | t _ _ h=>cases h with
        | rop g o l cs hs hl h1 hc h =>
         refine ⟨.pointer (some ⟨g,o+fl.offset,none⟩),?_,.t _ _ (.rop g (o+fl.offset) _ (cs.drop fl.offset) hs (by simp [dropL_eq,hl]) (fun a ha=>h1 a (by rw [dropL_eq] at ha;exact List.mem_of_mem_drop ha)) (fun j c hj=>?_) (fun j c a hj ha=>?_))⟩
         ·exact zt131
         ·exact zt167
         ·rw [List.getElem?_drop] at hj
          rw [dropL_eq,List.getElem?_drop] at ha
          exact h _ _ _ hj ha
      ·exact h.elim
     ·rename_i id E i off hp
      refine ⟨_,opsem_pure fun m S w a H₂ hG ht hus=>?_,⟨rfl,rfl⟩,h⟩
      have hx:RelV m S w (a.eval x) (rd x):=hus _ (List.mem_singleton.2 rfl) rfl
      rw [hp] at hx
      generalize hv:a.eval x=v at hx
      cases hx with
      | t _ _ h=>cases h
      | eptr id E i off g n cap hm =>
       refine ⟨.pointer (some ⟨g,i*E+(off+fl.offset),none⟩),?_,.eptr id E i (off+fl.offset) g n cap hm⟩
       intro w' _
       unfold execOp
       simp only [ho,hv,Sem.run_bind,hplace,Result.andThen_ok,Nat.add_assoc]
       rfl
     ·exact h.elim
 ·exact h.elim
def evField (T:Tab) (nx:Nat) (t:TypeId) (v:AV) (f:Nat) (k:Res→Prop):Prop :=
 match lkT T t with
 | some ⟨.struct fs,_,_,_⟩=>match fs.toList[f]? with
  | none=>False
  | some fl=>match lkT T fl.type with
   | none=>False
   | some fi=>match v with
    | .agg l=>match isAggD fi.desc with
     | true=>match Nat.ble (fl.offset+fi.size) l.length with
      | true=>k ⟨.agg (takeL fi.size (dropL fl.offset l)),[],[],nx⟩
      | false=>False
     | false=>match dropL fl.offset l with
      | a::_=>k ⟨a,[],[],nx⟩
      | []=>False
    | _=>False
 | _=>False
theorem relV_agg {m:Ids} {S:Blocks} {w:World} {v:Value} {l:List AV} (h:RelV m S w v (.agg l)) :
  ∃ cs,v=.agg cs∧cs.size=l.length∧∀ (j:Nat) (c:Value) (a:AV),cs[j]?=some c→l[j]?=some a→RelV m S w c a:=by
 cases h with
 | t _ _ h=>cases h with
  | agg cs l hl h=>exact ⟨cs,rfl,hl,fun j c a p q=>.t _ _ (h j c a p q)⟩
 | agg cs l hl h=>exact ⟨cs,rfl,hl,h⟩
theorem relV_tup {m:Ids} {S:Blocks} {w:World} {v:Value} {l:List AV} (h:RelV m S w v (.tup l)) :
  ∃ cs,v=.tuple cs∧cs.size=l.length∧∀ (j:Nat) (c:Value) (a:AV),cs[j]?=some c→l[j]?=some a→RelV m S w c a:=by
 cases h with
 | t _ _ h=>cases h with
  | tup cs l hl h=>exact ⟨cs,rfl,hl,fun j c a p q=>.t _ _ (h j c a p q)⟩
 | tup cs l hl h=>exact ⟨cs,rfl,hl,h⟩
theorem evField_sound [Tabs] {P:Program} {T:Tab} (hT:TabOk P T) {rd:Operand→AV} {H:Heap} {nx:Nat} {t:TypeId} {x:Operand} {f:Nat} {o:Oper} (ho:o.op=.field t x f) {k:Res→Prop}
  (h:evField T nx t (rd x) f k):∃ r,OpSemP P o [(x,true,rd x)] H nx r∧(r.wr=[]∧r.nx=nx)∧k r:=by
 unfold evField at h
 split at h
 ·rename_i fs s b z hi
  split at h
  ·exact h.elim
  ·rename_i fl hfl
   split at h
   ·exact h.elim
   ·rename_i fi hfi
    obtain ⟨hu,_⟩:=hT t _ hi
    obtain ⟨hu',j,hj,hs,_,_⟩:=hT _ _ hfi
    rw [Array.getElem?_toList] at hfl
    have hagg:∀ w,(isAgg fl.type).run P w=.ok (isAggD fi.desc) w:=by
     intro w
     unfold isAgg
     rw [Sem.run_bind,run_underlying hu' w]
     cases fi.desc<;>rfl
    split at h
    ·rename_i l hp
     split at h
     ·rename_i hag
      split at h
      ·rename_i hle
       refine ⟨_,opsem_pure fun m S w a H₂ hG ht hus=>?_,⟨rfl,rfl⟩,h⟩
       have hx:RelV m S w (a.eval x) (rd x):=hus _ (List.mem_singleton.2 rfl) rfl
       rw [hp] at hx
       obtain ⟨cs,hv,hl,hrel⟩:=relV_agg hx
       have hle':=Nat.le_of_ble_eq_true hle
       refine ⟨.agg (cs.extract fl.offset (fl.offset+fi.size)),?_,.agg _ _ ?_ ?_⟩
       ·intro w' _
        unfold execOp
        simp only at hu
        simp [ho,hv,Instr.field,run_underlying hu,hfl,part,hagg,hag,asAgg,sizeOf,typeInfo,hj,hs]
       ·simp [takeL_eq,dropL_eq,List.length_take];omega
       ·intro j c a hj ha
        rw [takeL_eq,dropL_eq,List.getElem?_take] at ha
        split at ha
        ·rw [List.getElem?_drop] at ha
         rw [Array.getElem?_extract] at hj
         split at hj
         ·exact hrel _ _ _ hj ha
         ·cases hj
        ·cases ha
      ·exact h.elim
     ·rename_i hag
      split at h
      ·rename_i a0 rest hd
       refine ⟨_,opsem_pure fun m S w a H₂ hG ht hus=>?_,⟨rfl,rfl⟩,h⟩
       have hx:RelV m S w (a.eval x) (rd x):=hus _ (List.mem_singleton.2 rfl) rfl
       rw [hp] at hx
       obtain ⟨cs,hv,hl,hrel⟩:=relV_agg hx
       have hget:l[fl.offset]?=some a0:=by
        have:(dropL fl.offset l)[0]?=some a0:=by rw [hd];rfl
        rwa [dropL_eq,List.getElem?_drop,Nat.add_zero] at this
       have hlt:fl.offset<cs.size:=by rw [hl];exact (List.getElem?_eq_some_iff.1 hget).1
       refine ⟨cs[fl.offset],?_,hrel _ _ _ (by simp [hlt]) hget⟩
       intro w' _
       unfold execOp
       simp only at hu
       simp [ho,hv,Instr.field,run_underlying hu,hfl,part,hagg,hag,asAgg,hlt]
      ·exact h.elim
    ·exact h.elim
 ·exact h.elim
def evExtract (nx:Nat) (v:AV) (n:Nat) (k:Res→Prop):Prop :=
 match v with
 | .tup l=>match l[n]? with
  | some a=>k ⟨a,[],[],nx⟩
  | none=>False
 | _=>False
theorem evExtract_sound [Tabs] {P:Program} {rd:Operand→AV} {H:Heap} {nx:Nat} {x:Operand} {n:Nat} {o:Oper} (ho:o.op=.extract x n) {k:Res→Prop}
  (h:evExtract nx (rd x) n k):∃ r,OpSemP P o [(x,true,rd x)] H nx r∧(r.wr=[]∧r.nx=nx)∧k r:=by
 unfold evExtract at h
 split at h
 ·rename_i l hp
  split at h
  ·rename_i a0 hget
   refine ⟨_,opsem_pure fun m S w a H₂ hG ht hus=>?_,⟨rfl,rfl⟩,h⟩
   have hx:RelV m S w (a.eval x) (rd x):=hus _ (List.mem_singleton.2 rfl) rfl
   rw [hp] at hx
   obtain ⟨cs,hv,hl,hrel⟩:=relV_tup hx
   have hlt:n<cs.size:=by rw [hl];exact (List.getElem?_eq_some_iff.1 hget).1
   refine ⟨cs[n],?_,hrel _ _ _ (by simp [hlt]) hget⟩
   intro w' _
   unfold execOp
   simp [ho,hv,Instr.extract,hlt]
  ·exact h.elim
 ·exact h.elim
theorem foldl_set_list (off:Nat):∀ (l:List Value) (k:Nat) (cs:Array Value),off+k+l.length≤cs.size →
  ((l.zipIdx k).foldl (fun cs (x:Value×Nat)=>cs.setIfInBounds (off+x.2) x.1) cs).size=cs.size ∧
  ∀ q,((l.zipIdx k).foldl (fun cs (x:Value×Nat)=>cs.setIfInBounds (off+x.2) x.1) cs)[q]?=if off+k≤q∧q<off+k+l.length then l[q-(off+k)]? else cs[q]?
 | [],k,cs,_=>⟨rfl,fun q=>by rw [if_neg (by simp)];rfl⟩
 | v::l,k,cs,h=>by
  simp only [List.zipIdx_cons,List.foldl_cons]
  simp only [List.length_cons] at h
  obtain ⟨h1,h2⟩:=foldl_set_list off l (k+1) (cs.setIfInBounds (off+k) v) zp21
  refine ⟨by simpa using h1,fun q=>?_⟩
  rw [h2]
  by_cases hq:off+(k+1)≤q∧q<off+(k+1)+l.length
  ·rw [if_pos hq,if_pos zp21]
   obtain ⟨p,hp⟩:∃ p,q-(off+k)=p+1:=⟨q-(off+k)-1,by omega⟩
   rw [hp,List.getElem?_cons_succ]
   congr 1
   omega
  ·rw [if_neg hq]
   by_cases hqo:q=off+k
   ·subst hqo
    rw [if_pos (by simp)]
    have:off+k<cs.size:=by omega
    simp [this]
   ·rw [if_neg zp21,Array.getElem?_setIfInBounds_ne (by omega)]
theorem foldl_set (off:Nat) (v:Array Value) (cs:Array Value) (h:off+v.size≤cs.size) :
  (v.zipIdx.foldl (fun cs (x:Value×Nat)=>cs.setIfInBounds (off+x.2) x.1) cs).size=cs.size ∧
  ∀ q,(v.zipIdx.foldl (fun cs (x:Value×Nat)=>cs.setIfInBounds (off+x.2) x.1) cs)[q]?=if off≤q∧q<off+v.size then v[q-off]? else cs[q]?:=by
 have:=foldl_set_list off v.toList 0 cs zp19
 rw [← Array.foldl_toList,Array.toList_zipIdx]
 simpa using this
def fillA (place:Nat→Option (Nat×Nat)):List AV→List (Nat×AV)→(List AV→Prop)→Prop
 | cells,[],k=>k cells
 | cells,(i,v)::rest,k=>match place i with
  | none=>False
  | some (off,size)=>withCells v fun xs=>match Nat.beq xs.length size&&Nat.ble (off+size) cells.length&&allOne xs with
   | true=>fillA place (putL off xs cells) rest k
   | false=>False
theorem fill_cons (place:Nat→Option (Nat×Nat)) (cells:Array Value) (i:Nat) (v:Value) (rest:List (Nat×Value)) (off size:Nat) (hp:place i=some (off,size)) (h1:v.cells.size=size) (h2:off+size≤cells.size) :
  Instr.fill place cells ((i,v)::rest)=Instr.fill place (v.cells.zipIdx.foldl (fun cs (x:Value×Nat)=>cs.setIfInBounds (off+x.2) x.1) cells) rest:=by
 rw [Instr.fill,hp]
 simp only
 rw [if_neg zp21]
theorem fillA_sound {place:Nat→Option (Nat×Nat)} {k:List AV→Prop}:∀ (parts:List (Nat×Operand)) (rd:Operand→AV) (cells:List AV),fillA place cells (parts.map fun p=>(p.1,rd p.2)) k →
  (∀ a∈cells,a.one=true) →
  ∃ l,k l∧(∀ a∈l,a.one=true)∧∀ (m:Ids) (S:Blocks) (w:World) (a:Act) (cs:Array Value),(∀ p∈parts,RelV m S w (a.eval p.2) (rd p.2))→cs.size=cells.length→(∀ (j:Nat) (c:Value) (x:AV),cs[j]?=some c→cells[j]?=some x→RelV m S w c x) →
   ∃ cs',Instr.fill place cs (parts.map fun p=>(p.1,a.eval p.2))=some cs'∧cs'.size=l.length∧(∀ (j:Nat) (c:Value) (x:AV),cs'[j]?=some c→l[j]?=some x→RelV m S w c x)
 | [],rd,cells,h,h1=>⟨cells,h,h1,fun _ _ _ _ cs _ hs hr=>⟨cs,rfl,hs,hr⟩⟩
 | (i,y)::rest,rd,cells,h,h1=>by
  simp only [List.map_cons,fillA] at h
  split at h
  ·exact h.elim
  ·rename_i off size hpl
   rw [withCells_iff] at h
   split at h
   ·rename_i hc
    simp only [Bool.and_eq_true] at hc
    obtain ⟨⟨hc1,hc2⟩,hc3⟩:=hc
    have e1:(rd y).cells.length=size:=Nat.eq_of_beq_eq_true hc1
    have e2:off+size≤cells.length:=Nat.le_of_ble_eq_true hc2
    have e3:=allOne_spec hc3
    have hone:∀ a∈putL off (rd y).cells cells,a.one=true:=by
     intro z hz
     obtain ⟨q,hq⟩:=List.getElem?_of_mem hz
     rw [putL_get _ _ _ _ (by rw [e1];exact e2)] at hq
     split at hq
     ·exact e3 z (List.mem_of_getElem? hq)
     ·exact h1 z (List.mem_of_getElem? hq)
    obtain ⟨l,hk,hl1,hl⟩:=fillA_sound rest rd _ h hone
    refine ⟨l,hk,hl1,fun m S w a cs hrel hs hr=>?_⟩
    have hy:RelV m S w (a.eval y) (rd y):=hrel (i,y) (by simp)
    obtain ⟨c1,c2,_⟩:=hy.cells e3
    obtain ⟨s1,s2⟩:=foldl_set off (a.eval y).cells cs (by omega)
    obtain ⟨cs',hf,hsz,hrr⟩:=hl m S w a _ (fun p hp=>hrel p (by simp [hp])) (by rw [s1,putL_length];exact hs) (fun j c x hj hx=>by
     rw [s2] at hj
     rw [putL_get _ _ _ _ (by rw [e1];exact e2)] at hx
     have hsy:(a.eval y).cells.size=(rd y).cells.length:=c1
     rw [hsy] at hj
     by_cases hq:off≤j∧j<off+(rd y).cells.length
     ·rw [if_pos hq] at hj hx;exact c2 _ _ _ hj hx
     ·rw [if_neg hq] at hj hx;exact hr _ _ _ hj hx)
    exact ⟨cs',by simp only [List.map_cons];rw [fill_cons place cs i _ _ off size hpl (by omega) (by omega)];exact hf,hsz,hrr⟩
   ·exact h.elim
def placesA (T:Tab):List Field→Option (List (Nat×Nat))
 | []=>some []
 | f::fs=>match lkT T f.type with
  | none=>none
  | some i=>match placesA T fs with
   | none=>none
   | some r=>some ((f.offset,i.size)::r)
theorem placesA_sound {P:Program} {T:Tab} (hT:TabOk P T):∀ (fs:List Field) (pl:List (Nat×Nat)),placesA T fs=some pl→fs.mapM (fun f=>(P.info? f.type).map fun i=>(f.offset,i.size))=some pl
 | [],pl,h=>by simp [placesA] at h;subst h;simp
 | f::fs,pl,h=>by
  unfold placesA at h
  split at h
  ·cases h
  ·rename_i i hi
   obtain ⟨_,j,hj,hs,_⟩:=hT _ _ hi
   split at h
   ·cases h
   ·rename_i r hr
    cases h
    simp [List.mapM_cons,hj,hs,placesA_sound hT fs r hr]
def evBuild (T:Tab) (nx:Nat) (t:TypeId) (parts:List (Nat×AV)) (k:Res→Prop):Prop :=
 match lkT T t with
 | some ⟨.struct fs,_,_,z⟩=>match placesA T fs.toList with
  | none=>False
  | some pl=>withCells (avOf z) fun zs=>match allOne zs with
   | true=>fillA (fun i=>pl[i]?) zs parts fun l=>k ⟨.agg l,[],[],nx⟩
   | false=>False
 | some ⟨.array _ e,_,_,z⟩=>match lkT T e with
  | none=>False
  | some ie=>withCells (avOf z) fun zs=>match allOne zs with
   | true=>fillA (fun i=>some (i*ie.size,ie.size)) zs parts fun l=>k ⟨.agg l,[],[],nx⟩
   | false=>False
 | _=>False
theorem zt97 {p:Prop}(h:p:=by
 intro w' _
 have hrun:=run_build (P:=P) w' t (parts.map fun p=>(p.1,a.eval p.2)) cs' hb
 unfold execOp
 simp only [ho,Sem.run_bind,hrun,Result.andThen_ok]
 rfl):p:=h
theorem evBuild_sound [Tabs] {P:Program} {T:Tab} (hT:TabOk P T) {rd:Operand→AV} {H:Heap} {nx:Nat} {t:TypeId} {parts:Array (Nat×Operand)} {o:Oper} (ho:o.op=.build t parts) {k:Res→Prop}
  (h:evBuild T nx t (parts.toList.map fun p=>(p.1,rd p.2)) k):∃ r,OpSemP P o (parts.toList.map fun p=>(p.2,true,rd p.2)) H nx r∧(r.wr=[]∧r.nx=nx)∧k r:=by
 unfold evBuild at h
 split at h
 ·rename_i fs s b z hi
  obtain ⟨hu,j,hj,_,_,hz⟩:=hT t _ hi
  simp only at hu hz
  split at h
  ·exact h.elim
  ·rename_i pl hpl
   have hpl':=placesA_sound hT _ _ hpl
   rw [withCells_iff] at h
   split at h
   ·rename_i h1
    obtain ⟨l,hk,_,hl⟩:=fillA_sound _ rd _ h (allOne_spec h1)
    refine ⟨_,opsem_pure fun m S w a H₂ hG ht hus=>?_,⟨rfl,rfl⟩,hk⟩
    obtain ⟨c1,c2,_⟩:=(RelV.t (m:=m) _ _ (relT_avOf S w z)).cells (allOne_spec h1)
    obtain ⟨cs',hf,hsz,hrr⟩:=hl m S w a z.cells (fun p hp=>hus (p.2,true,rd p.2) (List.mem_map.2 ⟨p,hp,rfl⟩) rfl) c1 c2
    refine ⟨.agg cs',?_,.agg _ _ hsz hrr⟩
    have hb:P.built t (parts.map fun p=>(p.1,a.eval p.2)).toList=some cs':=by
     unfold Program.built
     simp only [hj,hu,hz,hpl']
     rw [Array.toList_map]
     simpa using hf
    exact zt97
   ·exact h.elim
 ·rename_i n e s b z hi
  obtain ⟨hu,j,hj,_,_,hz⟩:=hT t _ hi
  simp only at hu hz
  split at h
  ·exact h.elim
  ·rename_i ie hie
   obtain ⟨_,je,hje,hse,_⟩:=hT e _ hie
   rw [withCells_iff] at h
   split at h
   ·rename_i h1
    obtain ⟨l,hk,_,hl⟩:=fillA_sound _ rd _ h (allOne_spec h1)
    refine ⟨_,opsem_pure fun m S w a H₂ hG ht hus=>?_,⟨rfl,rfl⟩,hk⟩
    obtain ⟨c1,c2,_⟩:=(RelV.t (m:=m) _ _ (relT_avOf S w z)).cells (allOne_spec h1)
    obtain ⟨cs',hf,hsz,hrr⟩:=hl m S w a z.cells (fun p hp=>hus (p.2,true,rd p.2) (List.mem_map.2 ⟨p,hp,rfl⟩) rfl) c1 c2
    refine ⟨.agg cs',?_,.agg _ _ hsz hrr⟩
    have hb:P.built t (parts.map fun p=>(p.1,a.eval p.2)).toList=some cs':=by
     unfold Program.built
     simp only [hj,hu,hz,hje,hse]
     rw [Array.toList_map]
     simpa using hf
    exact zt97
   ·exact h.elim
 ·exact h.elim
theorem fill_seq (E:Nat):∀ (vs:List Value) (k:Nat) (cells:Array Value),(∀ v∈vs,v.cells.size=E)→(k+vs.length)*E≤cells.size →
  ∃ cells',Instr.fill (fun i=>some (i*E,E)) cells ((vs.zipIdx k).map fun x=>(x.2,x.1))=some cells'∧cells'.size=cells.size ∧
   ∀ q,cells'[q]?=if k*E≤q∧q<(k+vs.length)*E then (vs.flatMap (·.cells.toList))[q-k*E]? else cells[q]?
 | [],k,cells,_,_=>⟨cells,rfl,rfl,fun q=>by rw [if_neg (by simp)]⟩
 | v::vs,k,cells,hE,hle=>by
  have h0:v.cells.size=E:=hE v (by simp)
  have e1:(k+1+vs.length)*E=(k+(v::vs).length)*E:=by congr 1;simp;omega
  have e2:(k+1)*E=k*E+E:=Nat.succ_mul k E
  have e3:(k+1)*E≤(k+1+vs.length)*E:=Nat.mul_le_mul_right _ (by omega)
  obtain ⟨s1,s2⟩:=foldl_set (k*E) v.cells cells (by omega)
  obtain ⟨cells',hf,hsz,hg⟩:=fill_seq E vs (k+1) _ (fun u hu=>hE u (by simp [hu])) (by rw [s1,e1];exact hle)
  refine ⟨cells',?_,by rw [hsz,s1],fun q=>?_⟩
  ·simp only [List.zipIdx_cons,List.map_cons]
   rw [fill_cons _ cells k v _ (k*E) E rfl h0 (by omega)]
   exact hf
  ·rw [hg,s2,h0,← e1]
   have hl0:v.cells.toList.length=E:=by simpa using h0
   simp only [List.flatMap_cons]
   by_cases hq:(k+1)*E≤q∧q<(k+1+vs.length)*E
   ·rw [if_pos hq,if_pos (by omega),List.getElem?_append_right (by omega),hl0]
    congr 1
    omega
   ·rw [if_neg hq]
    by_cases hq2:k*E≤q∧q<k*E+E
    ·rw [if_pos hq2,if_pos (by omega),List.getElem?_append_left (by omega)]
     simp
    ·rw [if_neg hq2,if_neg (by omega)]
def seqB:Nat→List (Nat×AV)→Bool
 | _,[]=>true
 | k,(i,_)::r=>match Nat.beq i k with
  | true=>seqB (k+1) r
  | false=>false
def sizesB (E:Nat):List AV→Bool
 | []=>true
 | a::l=>match Nat.beq a.cells.length E&&allOne a.cells&&a.tree with
  | true=>sizesB E l
  | false=>false
theorem sizesB_spec {E:Nat}:∀ {l:List AV},sizesB E l=true→∀ x∈l,x.cells.length=E∧(∀ a∈x.cells,a.one=true)∧x.tree=true
 | [],_,x,h=>by simp at h
 | b::l,h,x,hx=>by
  unfold sizesB at h
  split at h
  ·rename_i hb
   simp only [Bool.and_eq_true] at hb
   rcases List.mem_cons.1 hx with rfl | hx
   ·exact ⟨Nat.eq_of_beq_eq_true hb.1.1,allOne_spec hb.1.2,hb.2⟩
   ·exact sizesB_spec h x hx
  ·cases h
theorem zp28 {p:Prop} (h:p:=by simpa using h1):p:=h
theorem zp33 {p:Prop} (h:p:=by simpa using h2):p:=h
theorem zp40 {p:Prop} (h:p:=by simpa using hl):p:=h
theorem flat_rel {m:Ids} {S:Blocks} {w:World} {E:Nat}:∀ (vs:List Value) (l:List AV),vs.length=l.length→(∀ x∈l,x.cells.length=E∧(∀ a∈x.cells,a.one=true)∧x.tree=true) →
  (∀ (j:Nat) (v:Value) (a:AV),vs[j]?=some v→l[j]?=some a→RelV m S w v a) →
  (∀ v∈vs,v.cells.size=E)∧∀ (j:Nat) (c:Value) (a:AV),(vs.flatMap (·.cells.toList))[j]?=some c→(flat l)[j]?=some a→RelT S w c a
 | [],l,hl,_,_=>⟨by simp,fun j c a h=>by simp at h⟩
 | v::vs,[],hl,_,_=>by simp at hl
 | v::vs,x::l,hl,hs,hr=>by
  obtain ⟨hx1,hx2,hx3⟩:=hs x (by simp)
  have hv:RelV m S w v x:=hr 0 v x rfl rfl
  obtain ⟨c1,c2,_⟩:=hv.cells hx2
  obtain ⟨ih1,ih2⟩:=flat_rel vs l zp40 (fun y hy=>hs y (by simp [hy])) (fun j u a h1 h2=>hr (j+1) u a zp28 zp33)
  refine ⟨fun u hu=>?_,fun j c a hj ha=>?_⟩
  ·rcases List.mem_cons.1 hu with rfl | hu
   ·omega
   ·exact ih1 u hu
  ·have hl0:v.cells.toList.length=E:=by simp;omega
   simp only [List.flatMap_cons] at hj
   have hfl:flat (x::l)=x.cells++flat l:=by simp [flat]
   rw [hfl] at ha
   by_cases hq:j<E
   ·rw [List.getElem?_append_left (by omega)] at hj ha
    have:=c2 j c a zp16 ha
    exact this.toT1 (AV.tree_cells hx3 (List.mem_of_getElem? ha))
   ·rw [List.getElem?_append_right (by omega),hl0] at hj
    rw [List.getElem?_append_right (by omega),hx1] at ha
    exact ih2 _ c a hj ha
def evBuildSlice (T:Tab) (nx:Nat) (t:TypeId) (n:Nat) (parts:List (Nat×AV)) (k:Res→Prop):Prop :=
 match lkT T t with
 | some ⟨.slice e,_,_,_⟩=>match lkT T e with
  | none=>False
  | some i=>match seqB 0 parts&&Nat.beq n parts.length&&sizesB i.size (parts.map (·.2))&&Nat.ble (n*i.size) 16777216&&Nat.ble 1 i.size with
   | true=>k ⟨.own nx,[],[(nx,.lst e i.size (parts.map (·.2)))],nx+1⟩
   | false=>False
 | _=>False
theorem seqB_spec:∀ (parts:List (Nat×AV)) (k:Nat),seqB k parts=true→parts.map (·.1)=List.range' k parts.length
 | [],_,_=>rfl
 | (i,v)::r,k,h=>by
  unfold seqB at h
  split at h
  ·rename_i hb
   have:i=k:=Nat.eq_of_beq_eq_true hb
   subst this
   simp [seqB_spec r (i+1) h,List.range'_succ]
  ·cases h
theorem zip_parts:∀ (parts:List (Nat×Operand)) (k:Nat) (f:Operand→Value),parts.map (·.1)=List.range' k parts.length→parts.map (fun p=>(p.1,f p.2))=((parts.map fun p=>f p.2).zipIdx k).map fun x=>(x.2,x.1)
 | [],_,_,_=>rfl
 | (i,x)::r,k,f,h=>by
  simp only [List.map_cons,List.length_cons,List.range'_succ,List.cons.injEq] at h
  obtain ⟨rfl,h⟩:=h
  simp only [List.map_cons,List.zipIdx_cons]
  rw [zip_parts r (i+1) f h]
theorem maxLen_ge {n:Nat} (h:n≤140737488355328):n≤maxLen:=by unfold maxLen;omega
theorem RowRel.made {S:Blocks} {w:World} {e E:Nat} {l:List AV} {cells:Array Value} (hsz:cells.size=l.length*E) (hmax:l.length≤maxLen) (hs:∀ x∈l,x.cells.length=E) (h1:∀ a∈flat l,a.one=true)
  (hr:∀ (j:Nat) (c:Value) (a:AV),cells[j]?=some c→(flat l)[j]?=some a→RelT S w c a) (hS:∀ g,S g→g<w.heap.size) :
  RowRel S (w.alloc (.cells cells e)) e E l (.slice (some ⟨w.heap.size,0,none⟩) l.length l.length) cells.toList :=
 ⟨World.ownsRow_lit w cells l.length (Nat.zero_le _) hmax hsz,hs,h1,fun j c a hj ha=>(hr j c a zp16 ha).mono (fun _ h=>h) (fun g hg=>RowKit.Below.heap_alloc w _ g (hS g hg))⟩
theorem flat_one {E:Nat} {l:List AV} (h:∀ x∈l,x.cells.length=E∧(∀ a∈x.cells,a.one=true)∧x.tree=true):∀ a∈flat l,a.one=true:=by
 intro a ha
 obtain ⟨x,hx,hax⟩:=List.mem_flatMap.1 ha
 exact (h x hx).2.1 a hax
theorem zt49 {p:Prop}(h:p:=by
 intro j v x hv hx
 simp only [List.getElem?_map,Option.map_eq_some_iff] at hv hx
 obtain ⟨p,hp,rfl⟩:=hv
 obtain ⟨p',hp',rfl⟩:=hx
 rw [hp] at hp'
 cases hp'
 exact hus (p.2,true,rd p.2) (List.mem_map.2 ⟨p,List.mem_of_getElem? hp,rfl⟩) rfl):p:=h
theorem zt139 {p:Prop}(h:p:=by
 rw [hg q,if_pos (by constructor<;>simp<;>(try rw [Array.length_toList] at hn)<;>(try rw [← hn])<;>omega)]
 simp):p:=h
theorem evBuildSlice_sound [Tabs] {P:Program} {T:Tab} (hT:TabOk P T) {rd:Operand→AV} {H:Heap} {nx:Nat} {t:TypeId} {n:Nat} {parts:Array (Nat×Operand)} {o:Oper} (ho:o.op=.buildSlice t n parts) {k:Res→Prop}
  (h:evBuildSlice T nx t n (parts.toList.map fun p=>(p.1,rd p.2)) k):∃ r,OpSem P o (parts.toList.map fun p=>(p.2,true,rd p.2)) H nx r∧nx≤r.nx∧k r:=by
 unfold evBuildSlice at h
 split at h
 ·rename_i e s b z hi
  split at h
  ·exact h.elim
  ·rename_i i he
   split at h
   ·rename_i hc
    simp only [Bool.and_eq_true] at hc
    obtain ⟨⟨⟨⟨c1,c2⟩,c3⟩,c4⟩,c5⟩:=hc
    have hseq:parts.toList.map (·.1)=List.range' 0 parts.toList.length:=by
     have:=seqB_spec _ _ c1
     simpa [List.map_map,Function.comp_def] using this
    have hn:n=parts.toList.length:=by have:=Nat.eq_of_beq_eq_true c2;simpa using this
    have hsp:=sizesB_spec c3
    have hsmall:n*i.size≤16777216:=Nat.le_of_ble_eq_true c4
    have hpos:1≤i.size:=Nat.le_of_ble_eq_true c5
    obtain ⟨hu,_⟩:=hT t _ hi
    obtain ⟨_,j,hj,hs,_,hz⟩:=hT e _ he
    simp only at hu
    simp only [List.map_map,Function.comp_def] at hsp
    refine ⟨_,?_,Nat.le_succ _,h⟩
    intro m S w a H₂ K Q hG _ hfree hus hK
    have hl:((parts.toList.map fun p=>rd p.2)).length=n:=by simp [hn]
    have hrelp:∀ (j:Nat) (v:Value) (x:AV),(parts.toList.map fun p=>a.eval p.2)[j]?=some v→(parts.toList.map fun p=>rd p.2)[j]?=some x→RelV m S w v x:=by
     exact zt49
    obtain ⟨f1,f2⟩:=flat_rel (m:=m) (S:=S) (w:=w) (parts.toList.map fun p=>a.eval p.2) (parts.toList.map fun p=>rd p.2) (by simp) hsp hrelp
    have hn':m nx=none:=hfree nx (Nat.le_refl _) (Nat.lt_succ_self _)
    have hlen2:(parts.toList.map fun p=>rd p.2).length*i.size=(flat (parts.toList.map fun p=>rd p.2)).length:=(flat_length _ fun x hx=>(hsp x hx).1).symm
    -- the cells
    have hcells:∃ cells:Array Value,(Instr.buildSlice t n (parts.map fun p=>(p.1,a.eval p.2))).run P w=.ok (.slice (some ⟨w.heap.size,0,none⟩) n n) (w.alloc (.cells cells e)) ∧
      cells.size=n*i.size∧∀ q,q<n*i.size→cells[q]?=((parts.toList.map fun p=>a.eval p.2).flatMap (·.cells.toList))[q]?:=by
     by_cases h0:n*i.size=0
     ·have hn0:n=0:=by
       rcases Nat.mul_eq_zero.1 h0 with h | h
       ·exact h
       ·omega
      have hp0:parts=#[]:=by
       apply Array.eq_empty_of_size_eq_zero
       simpa using hn.symm.trans hn0
      refine ⟨#[],?_,by simp [h0],fun q hq=>by omega⟩
      subst hn0
      simp [Instr.buildSlice,run_underlying hu,sizeOf,typeInfo,hj,hp0,Instr.fill,newRow,show Array.range 0=#[] from by decide]
     ·have hfs:=fill_seq i.size (parts.toList.map fun p=>a.eval p.2) 0 ((Array.range (n*i.size)).map (i.zero.cells[· % i.zero.cells.size]!)) f1 (by simp [← hn])
      obtain ⟨cells,hf,hsz,hg⟩:=hfs
      have hr:=run_buildSlice (P:=P) w t e n (parts.map fun p=>(p.1,a.eval p.2)) cells j i.zero hu hj hz (by rw [hs];omega) (by rw [hs];omega) (by
       rw [hs,Array.toList_map,zip_parts parts.toList 0 a.eval hseq]
       exact hf)
      refine ⟨cells,hr,by rw [hsz];simp,fun q hq=>?_⟩
      exact zt139
    obtain ⟨cells,hrun,hcsz,hcq⟩:=hcells
    unfold Oper.wp execOp
    simp only [ho,Sem.run_bind,hrun,Result.andThen_ok]
    show K (a.put o.dst (.slice (some ⟨w.heap.size,0,none⟩) n n)) _
    refine hK _ _ S _ (ext_new hG hn' (.slice (some ⟨w.heap.size,0,none⟩) n n) _ (w.alloc (.cells cells e)) rfl rfl rfl (by simp) (fun k hk=>RowKit.Below.heap_alloc w _ k hk) (fun k hk=>by simp [blk] at hk;omega) ?_) (.own nx n n (some ⟨w.heap.size,0,none⟩) (by simp))
    refine ⟨_,cells.toList,by simp;rfl,?_⟩
    have hmade:=RowRel.made (S:=S) (w:=w) (e:=e) (E:=i.size) (l:=parts.toList.map fun p=>rd p.2) (cells:=cells) (by rw [hl];exact hcsz) (maxLen_ge (by
      rw [hl]
      have:n*1≤n*i.size:=Nat.mul_le_mul_left _ hpos
      omega)) (fun x hx=>(hsp x hx).1) (flat_one hsp) (fun j c x hj hx=>f2 j c x (by
       have hjlt:j<cells.size:=(Array.getElem?_eq_some_iff.1 hj).1
       rw [← hcq j (by omega)];exact hj) hx) (fun g hg=>(hG.ro g hg).1)
    rw [hl] at hmade
    simpa [List.map_map,Function.comp_def] using hmade
   ·exact h.elim
 ·exact h.elim
theorem cells_one {a:AV} (h:a.one=true):a.cells=[a]:=by
 cases a<;>first | rfl | (simp [AV.one] at h)
theorem flat_relV {m:Ids} {S:Blocks} {w:World}:∀ (vs:List Value) (l:List AV),vs.length=l.length→(∀ x∈l,x.one=true) →
  (∀ (j:Nat) (v:Value) (a:AV),vs[j]?=some v→l[j]?=some a→RelV m S w v a) →
  (∀ v∈vs,v.cells.size=1)∧∀ (j:Nat) (c:Value) (a:AV),(vs.flatMap (·.cells.toList))[j]?=some c→l[j]?=some a→RelV m S w c a
 | [],l,hl,_,_=>⟨by simp,fun j c a h=>by simp at h⟩
 | v::vs,[],hl,_,_=>by simp at hl
 | v::vs,x::l,hl,hs,hr=>by
  have hx:=hs x (by simp)
  have hv:RelV m S w v x:=hr 0 v x rfl rfl
  obtain ⟨c1,c2,_⟩:=hv.cells (fun a ha=>by rw [cells_one hx] at ha;simp at ha;rw [ha];exact hx)
  rw [cells_one hx] at c1 c2
  obtain ⟨ih1,ih2⟩:=flat_relV vs l zp40 (fun y hy=>hs y (by simp [hy])) (fun j u a h1 h2=>hr (j+1) u a zp28 zp33)
  have hl0:v.cells.toList.length=1:=by simpa using c1
  refine ⟨fun u hu=>?_,fun j c a hj ha=>?_⟩
  ·rcases List.mem_cons.1 hu with rfl | hu
   ·simpa using c1
   ·exact ih1 u hu
  ·simp only [List.flatMap_cons] at hj
   cases j with
   | zero =>
    rw [List.getElem?_append_left (by omega)] at hj
    simp at ha
    subst ha
    exact c2 0 c x zp16 rfl
   | succ j =>
    rw [List.getElem?_append_right (by omega),hl0] at hj
    exact ih2 j c a zp16 (by simpa using ha)
def evBuildSliceP (T:Tab) (nx:Nat) (t:TypeId) (n:Nat) (parts:List (Nat×AV)) (k:Res→Prop):Prop :=
 match lkT T t with
 | some ⟨.slice e,_,_,_⟩=>match lkT T e with
  | none=>False
  | some i=>match seqB 0 parts&&Nat.beq n parts.length&&Nat.beq i.size 1&&allOne (parts.map (·.2))&&Nat.ble n 16777216&&Nat.ble 1 n with
   | true=>k ⟨.csl nx n,[],[(nx,.cells e (parts.map (·.2)))],nx+1⟩
   | false=>False
 | _=>False
theorem evBuildSliceP_sound [Tabs] {P:Program} {T:Tab} (hT:TabOk P T) {rd:Operand→AV} {H:Heap} {nx:Nat} {t:TypeId} {n:Nat} {parts:Array (Nat×Operand)} {o:Oper} (ho:o.op=.buildSlice t n parts) {k:Res→Prop}
  (h:evBuildSliceP T nx t n (parts.toList.map fun p=>(p.1,rd p.2)) k):∃ r,OpSem P o (parts.toList.map fun p=>(p.2,true,rd p.2)) H nx r∧nx≤r.nx∧k r:=by
 unfold evBuildSliceP at h
 split at h
 ·rename_i e s b z hi
  split at h
  ·exact h.elim
  ·rename_i i he
   split at h
   ·rename_i hc
    simp only [Bool.and_eq_true] at hc
    obtain ⟨⟨⟨⟨⟨c1,c2⟩,c3⟩,c4⟩,c5⟩,c6⟩:=hc
    have hseq:parts.toList.map (·.1)=List.range' 0 parts.toList.length:=by
     have:=seqB_spec _ _ c1
     simpa [List.map_map,Function.comp_def] using this
    have hn:n=parts.toList.length:=by have:=Nat.eq_of_beq_eq_true c2;simpa using this
    have hs1:i.size=1:=Nat.eq_of_beq_eq_true c3
    have hsp:=allOne_spec c4
    have hsmall:n≤16777216:=Nat.le_of_ble_eq_true c5
    have hpos:1≤n:=Nat.le_of_ble_eq_true c6
    obtain ⟨hu,_⟩:=hT t _ hi
    obtain ⟨_,j,hj,hs,_,hz⟩:=hT e _ he
    simp only at hu
    simp only [List.map_map,Function.comp_def] at hsp
    refine ⟨_,?_,Nat.le_succ _,h⟩
    intro m S w a H₂ K Q hG _ hfree hus hK
    have hl:((parts.toList.map fun p=>rd p.2)).length=n:=by simp [hn]
    have hrelp:∀ (j:Nat) (v:Value) (x:AV),(parts.toList.map fun p=>a.eval p.2)[j]?=some v→(parts.toList.map fun p=>rd p.2)[j]?=some x→RelV m S w v x:=by
     exact zt49
    obtain ⟨f1,f2⟩:=flat_relV (m:=m) (S:=S) (w:=w) (parts.toList.map fun p=>a.eval p.2) (parts.toList.map fun p=>rd p.2) (by simp) hsp hrelp
    have hn':m nx=none:=hfree nx (Nat.le_refl _) (Nat.lt_succ_self _)
    obtain ⟨cells,hf,hsz,hg⟩:=fill_seq 1 (parts.toList.map fun p=>a.eval p.2) 0 ((Array.range (n*1)).map (i.zero.cells[· % i.zero.cells.size]!)) f1 (by simp [← hn])
    have hrun:=run_buildSlice (P:=P) w t e n (parts.map fun p=>(p.1,a.eval p.2)) cells j i.zero hu hj hz (by rw [hs,hs1];omega) (by rw [hs,hs1];omega) (by
     rw [hs,hs1,Array.toList_map,zip_parts parts.toList 0 a.eval hseq]
     exact hf)
    have hcsz:cells.size=n:=by rw [hsz];simp
    have hcq:∀ q,q<n→cells[q]?=((parts.toList.map fun p=>a.eval p.2).flatMap (·.cells.toList))[q]?:=fun q hq=>by
     exact zt139
    unfold Oper.wp execOp
    simp only [ho,Sem.run_bind,hrun,Result.andThen_ok]
    show K (a.put o.dst (.slice (some ⟨w.heap.size,0,none⟩) n n)) _
    have hids:∀ i u,m i=some u→(fun i=>if i=nx then some (.pointer (some ⟨w.heap.size,0,none⟩)) else m i) i=some u:=by
     intro i u hu
     have:i≠nx:=by intro e;subst e;rw [hn'] at hu;cases hu
     simp [this,hu]
    refine hK _ _ S _ (ext_new hG hn' (.pointer (some ⟨w.heap.size,0,none⟩)) _ (w.alloc (.cells cells e)) rfl rfl rfl (by simp) (fun k hk=>RowKit.Below.heap_alloc w _ k hk) (fun k hk=>by simp [blk] at hk;omega) ?_) (.csl nx n w.heap.size (by simp))
    have hmm:(List.map (fun p=>(p.1,rd p.2)) parts.toList).map (·.2)=parts.toList.map fun p=>rd p.2:=by simp [List.map_map,Function.comp_def]
    rw [hmm]
    refine ⟨w.heap.size,cells,by simp,heap_alloc_new w _,by rw [hcsz,hl],hsp,fun j c x hj hx=>?_⟩
    have hjlt:j<cells.size:=(Array.getElem?_eq_some_iff.1 hj).1
    exact (f2 j c x (by rw [← hcq j (by omega)];exact hj) hx).mono hids (fun _ h=>h) (fun g hg=>RowKit.Below.heap_alloc w _ g (hG.ro g hg).1)
   ·exact h.elim
 ·exact h.elim
theorem relT_lsl {S:Blocks} {w:World} {v:Value} {E:Nat} {l:List AV} (h:RelT S w v (.lsl E l)) :
  ((v=.slice none 0 0∨∃ a,v=.slice (some a) 0 0)∧l=[])∨∃ (g o cap:Nat) (cs:List Value),v=.slice (some ⟨g,o,none⟩) l.length cap∧S g∧l.length≤cap∧(∀ x∈l,x.cells.length=E)∧(∀ a∈flat l,a.one=true) ∧
   cs.length=l.length*E∧(∀ (j:Nat) (c:Value),cs[j]?=some c→w.cell? ⟨g,o+j,none⟩=some c)∧(∀ (j:Nat) (c:Value) (a:AV),cs[j]?=some c→(flat l)[j]?=some a→RelT S w c a):=by
 cases h with
 | lslnil E=>exact .inl ⟨.inl rfl,rfl⟩
 | lslz E a=>exact .inl ⟨.inr ⟨a,rfl⟩,rfl⟩
 | lsl E l g o cap cs hs hcap hE h1 hl hc h=>exact .inr ⟨g,o,cap,cs,rfl,hs,hcap,hE,h1,hl,hc,h⟩
theorem relV_lsl {m:Ids} {S:Blocks} {w:World} {v:Value} {E:Nat} {l:List AV} (h:RelV m S w v (.lsl E l)):RelT S w v (.lsl E l):=by
 cases h with
 | t _ _ h=>exact h
theorem relV_sl {m:Ids} {S:Blocks} {w:World} {v:Value} {T:Type} {E:Nat} {enc:T→AV} {d:T} {xs:List T} (h:RelV m S w v (.sl E enc d xs)):RelT S w v (.lsl E (xs.map enc)):=by
 cases h with
 | t _ _ h=>cases h with
  | sl E enc d xs v h=>exact h
inductive SliceN:Value→Nat→Prop
 | mk (a:Option Addr) (n cap:Nat):SliceN (.slice a n cap) n
theorem lsl_n {S:Blocks} {w:World} {v:Value} {E:Nat} {l:List AV} (h:RelT S w v (.lsl E l)):SliceN v l.length:=by
 rcases relT_lsl h with ⟨rfl | ⟨a,rfl⟩,rfl⟩ | ⟨g,o,cap,cs,rfl,_⟩<;>constructor
theorem RowRel.n {S:Blocks} {w:World} {e E:Nat} {l:List AV} {v:Value} {vs:List Value} (h:RowRel S w e E l v vs):SliceN v l.length:=by
 rcases h.owns.2 with ⟨rfl,h0⟩ | ⟨g,cap,cur,rfl,_⟩
 ·rw [h0];constructor
 ·constructor
def slN (H:Heap) (x:AV) (k:Nat→List Nat→Prop):Prop :=
 match x with
 | .nils=>k 0 []
 | .lsl _ l=>k l.length []
 | .sl _ _ _ xs=>k xs.length []
 | .own id=>match lkH H id with
  | .lst _ _ l=>k l.length [id]
  | .row _ _ _ _ xs=>k xs.length [id]
  | _=>False
 | .pre _ n=>k n []
 | .part _ _ _ n=>k n []
 | .csl _ n=>k n []
 | _=>False
theorem slN_sound [Tabs] {H:Heap} {x:AV} {k:Nat→List Nat→Prop} (h:slN H x k) :
  ∃ (n:Nat) (touch:List Nat),(∀ (m:Ids) (S:Blocks) (w:World) (H₂:Heap) (v:Value),Good m S w H₂→(∀ id∈touch,lkH H₂ id=lkH H id)→RelV m S w v x→SliceN v n)∧k n touch:=by
 unfold slN at h
 split at h
 ·refine ⟨_,_,fun m S w H₂ v _ _ hr=>?_,h⟩
  cases hr with
  | t _ _ h=>cases h;constructor
 ·exact ⟨_,_,fun m S w H₂ v _ _ hr=>lsl_n (relV_lsl hr),h⟩
 ·exact ⟨_,_,fun m S w H₂ v _ _ hr=>by simpa using lsl_n (relV_sl hr),h⟩
 ·rename_i id
  split at h
  ·rename_i e E l hid
   refine ⟨_,_,fun m S w H₂ v hG ht hr=>?_,h⟩
   have hb:=hG.rel id
   rw [ht id (by simp),hid] at hb
   obtain ⟨v',vs,hmi,hrow⟩:=hb
   cases hr with
   | t _ _ h=>cases h
   | own id n cap a hm=>rw [hmi] at hm;cases hm;exact hrow.n
  ·rename_i T e E enc d xs hid
   refine ⟨_,_,fun m S w H₂ v hG ht hr=>?_,h⟩
   have hb:=hG.rel id
   rw [ht id (by simp),hid] at hb
   obtain ⟨v',vs,hmi,hrow⟩:=hb
   cases hr with
   | t _ _ h=>cases h
   | own id n cap a hm=>rw [hmi] at hm;cases hm;simpa using hrow.n
  ·exact h.elim
 ·refine ⟨_,_,fun m S w H₂ v hG ht hr=>?_,h⟩
  cases hr with
  | t _ _ h=>cases h
  | pre id len n cap a h hle=>constructor
 ·refine ⟨_,_,fun m S w H₂ v hG ht hr=>?_,h⟩
  cases hr with
  | t _ _ h=>cases h
  | part id E off len g n cap c h hle hc=>constructor
  | partE id E off c g n cap h=>constructor
  | partN id E off=>constructor
 ·refine ⟨_,_,fun m S w H₂ v hG ht hr=>?_,h⟩
  cases hr with
  | t _ _ h=>cases h
  | csl id n g h=>constructor
 ·exact h.elim
def mapN (H:Heap) (x:AV) (k:Nat→List Nat→Prop):Prop :=
 match x with
 | .nilm=>k 0 []
 | .map id=>match lkH H id with
  | .smap _ _ es=>k es.length [id]
  | .imap _ _ _ es=>k es.length [id]
  | .gmap _ _ _ es=>k es.length [id]
  | _=>False
 | .rsmap _ _ es=>k es.length []
 | .rimap _ _ _ es=>k es.length []
 | .rgmap _ _ _ es=>k es.length []
 | _=>False
theorem zt23 {p:Prop}(h:p:=by
 refine ⟨_,_,fun m S w H₂ v hG ht hr=>?_,h⟩
 have hb:=hG.rel id
 rw [ht id (by simp),hid] at hb
 obtain ⟨r,en,clock,hmi,hr',hl,_⟩:=hb
 cases hr with
 | t _ _ h=>cases h
 | map id r' hm=>rw [hmi] at hm;cases hm;exact fun w' hw'=>fin w' r clock en _ (hw'.obj hr') hl):p:=h
theorem mapN_sound [Tabs] {P:Program} {t ty kt et:TypeId} (hu:P.underlying t=some (.map kt et)) {H:Heap} {x:AV} {k:Nat→List Nat→Prop} (h:mapN H x k) :
  ∃ (n:Nat) (touch:List Nat),(∀ (m:Ids) (S:Blocks) (w:World) (H₂:Heap) (v:Value),Good m S w H₂→(∀ id∈touch,lkH H₂ id=lkH H id)→RelV m S w v x→∀ w',Grows w w'→(Builtin.len_ #[t] ty #[v]).run P w'=.ok (goInt (n:Nat)) w')∧k n touch:=by
 have fin:∀ (w:World) (r clock:Nat) (en:Array MapEntry) (n:Nat),w.heap[r]?=some (.map en clock)→en.size=n→(Builtin.len_ #[t] ty #[.map (some r)]).run P w=.ok (goInt n) w:=by
  intro w r clock en n hr hn
  have hg:(getObj r).run P w=.ok (.map en clock) w:=by simp [getObj,Sem.run,hr]
  simp [Builtin.len_,run_underlying hu,hg,hn]
 unfold mapN at h
 split at h
 ·refine ⟨_,_,fun m S w H₂ v _ _ hr=>?_,h⟩
  intro w' _
  cases hr with
  | t _ _ h=>cases h;simp [Builtin.len_,run_underlying hu]
 ·rename_i id
  split at h
  ·rename_i V ev dv es hid
   exact zt23
  ·rename_i V kk ev dv es hid
   exact zt23
  ·rename_i V kk ev dv es hid
   exact zt23
  ·exact h.elim
 ·refine ⟨_,_,fun m S w H₂ v _ _ hr=>?_,h⟩
  cases hr with
  | t _ _ h=>cases h with
   | rsmap ev dv es r clock en hs hr hl hst hk hv=>exact fun w' hw'=>fin w' r clock en _ (hw'.obj hr) hl
 ·refine ⟨_,_,fun m S w H₂ v _ _ hr=>?_,h⟩
  cases hr with
  | t _ _ h=>cases h with
   | rimap k ev dv es r clock en hs hr hl hst hk hv=>exact fun w' hw'=>fin w' r clock en _ (hw'.obj hr) hl
 ·refine ⟨_,_,fun m S w H₂ v _ _ hr=>?_,h⟩
  cases hr with
  | t _ _ h=>cases h with
   | rgmap k ev dv es r clock en hs hr hl hst hk hv=>exact fun w' hw'=>fin w' r clock en _ (hw'.obj hr) hl
 ·exact h.elim
def evLen (T:Tab) (H:Heap) (nx:Nat) (t:TypeId) (x:AV) (k:Res→Prop):Prop :=
 match lkT T t with
 | some ⟨.string,_,_,_⟩=>match x with
  | .str s=>k ⟨.int .i64 s.length,[],[],nx⟩
  | _=>False
 | some ⟨.slice _,_,_,_⟩=>slN H x fun n touch=>k ⟨.int .i64 n,touch,[],nx⟩
 | some ⟨.map _ _,_,_,_⟩=>mapN H x fun n touch=>k ⟨.int .i64 n,touch,[],nx⟩
 | some ⟨.array n _,_,_,_⟩=>k ⟨.int .i64 n,[],[],nx⟩
 | _=>False
theorem run_len_sl {P:Program} {t ty e:TypeId} (hu:P.underlying t=some (.slice e)) {v:Value} {n:Nat} (h:SliceN v n) (w:World) :
  (Builtin.len_ #[t] ty #[v]).run P w=.ok (goInt n) w:=by
 cases h
 simp [Builtin.len_,run_underlying hu]
theorem evLen_sound [Tabs] {P:Program} {T:Tab} (hT:TabOk P T) {rd:Operand→AV} {H:Heap} {nx:Nat} {t:TypeId} {x:Operand} {o:Oper}
  (ho:o.op=.call { callee:=.builtin .len,args:=#[x],argTypes:=#[t] }) {k:Res→Prop}
  (h:evLen T H nx t (rd x) k):∃ r,OpSemP P o [(x,true,rd x)] H nx r∧(r.wr=[]∧r.nx=nx)∧k r:=by
 have fin:∀ (n:Nat) (touch:List Nat),(∀ (m:Ids) (S:Blocks) (w:World) (H₂:Heap) (v:Value),Good m S w H₂→(∀ id∈touch,lkH H₂ id=lkH H id)→RelV m S w v (rd x)→∀ w',Grows w w'→(Builtin.len_ #[t] o.type #[v]).run P w'=.ok (goInt n) w') →
   k ⟨.int .i64 n,touch,[],nx⟩→∃ r,OpSemP P o [(x,true,rd x)] H nx r∧(r.wr=[]∧r.nx=nx)∧k r:=by
  intro n touch hrun hk
  refine ⟨_,opsem_pure fun m S w a H₂ hG ht hus=>?_,⟨rfl,rfl⟩,hk⟩
  have hx:RelV m S w (a.eval x) (rd x):=hus _ (List.mem_singleton.2 rfl) rfl
  refine ⟨goInt n,?_,.t _ _ (.int .i64 n)⟩
  intro w' hw'
  have:=hrun m S w H₂ _ hG ht hx w' hw'
  unfold execOp
  simp [ho,resolve,invoke,builtin,this]
 unfold evLen at h
 split at h
 ·rename_i hi
  obtain ⟨hu,_⟩:=hT t _ hi
  simp only at hu
  split at h
  ·rename_i s hp
   refine fin _ _ (fun m S w H₂ v hG ht hr w' _=>?_) h
   rw [hp] at hr
   cases hr with
   | t _ _ h=>cases h with
    | str s' l h=>simp [Builtin.len_,run_underlying hu,← h]
  ·exact h.elim
 ·rename_i hi
  obtain ⟨hu,_⟩:=hT t _ hi
  simp only at hu
  obtain ⟨n,touch,hn,hk⟩:=slN_sound h
  exact fin n touch (fun m S w H₂ v hG ht hr w' _=>run_len_sl hu (hn m S w H₂ v hG ht hr) w') hk
 ·rename_i hi
  obtain ⟨hu,_⟩:=hT t _ hi
  simp only at hu
  obtain ⟨n,touch,hn,hk⟩:=mapN_sound (ty:=o.type) hu h
  exact fin n touch hn hk
 ·rename_i hi
  obtain ⟨hu,_⟩:=hT t _ hi
  simp only at hu
  exact fin _ _ (fun m S w H₂ v hG ht hr w' _=>by simp [Builtin.len_,run_underlying hu]) h
 ·exact h.elim
def isRow:AB→Bool
 | .lst .. | .row ..=>true
 | _=>false
theorem row_addr [Tabs] {m:Ids} {S:Blocks} {w:World} {H:Heap} (hG:Good m S w H) {id n cap:Nat} {a:Option Addr} (hr:isRow (lkH H id)=true) (hm:m id=some (.slice a n cap)) :
  (a=none∧n=0∧cap=0)∨∃ g,a=some ⟨g,0,none⟩:=by
 have fin:∀ {e E:Nat} {l:List AV} {vs:List Value},RowRel S w e E l (.slice a n cap) vs→(a=none∧n=0∧cap=0)∨∃ g,a=some ⟨g,0,none⟩:=by
  intro e E l vs h
  rcases h.owns.2 with ⟨h,h0⟩ | ⟨g,cap,cur,h,_⟩
  ·cases h;exact .inl ⟨rfl,rfl,rfl⟩
  ·cases h;exact .inr ⟨g,rfl⟩
 have hb:=hG.rel id
 cases hc:lkH H id with
 | lst e E l=>rw [hc] at hb;obtain ⟨v,vs,hmi,h⟩:=hb;rw [hmi] at hm;cases hm;exact fin h
 | row e E enc d xs=>rw [hc] at hb;obtain ⟨v,vs,hmi,h⟩:=hb;rw [hmi] at hm;cases hm;exact fin h
 | _=>rw [hc] at hr;simp [isRow] at hr
def evIndexAddr (T:Tab) (g:Option Bool) (H:Heap) (nx:Nat) (t:TypeId) (x i:AV) (k:Res→Prop):Prop :=
 match lkT T t with
 | some ⟨.slice e,_,_,_⟩=>match lkT T e with
  | none=>False
  | some ie=>match i with
   | .int _ n=>match x with
    | .lsl E l=>ob g (0≤n∧n<l.length) (ie.size=E∧k ⟨.rop (l.getD n.toNat .undef).cells,[],[],nx⟩)
    | .sl E enc d xs=>ob g (0≤n∧n<xs.length) (ie.size=E∧k ⟨.rop (enc (xs.getD n.toNat d)).cells,[],[],nx⟩)
    | .own id=>slN H (.own id) fun len _=>ob g (0≤n∧n<len) (k ⟨.eptr id ie.size n.toNat 0,[id],[],nx⟩)
    | .pre id len=>match isRow (lkH H id) with
     | true=>ob g (0≤n∧n<len) (k ⟨.eptr id ie.size n.toNat 0,[id],[],nx⟩)
     | false=>False
    | .csl id len=>match Nat.beq ie.size 1 with
     | true=>ob g (0≤n∧n<len) (k ⟨.ptr id n.toNat,[id],[],nx⟩)
     | false=>False
    | _=>False
   | _=>False
 | some ⟨.array len e,_,_,_⟩=>match lkT T e with
  | none=>False
  | some ie=>match i,x with
   | .int _ n,.ptr id off=>ob g (0≤n∧n<len) (k ⟨.ptr id (off+n.toNat*ie.size),[],[],nx⟩)
   | _,_=>False
 | _=>False
theorem run_indexAt_sl {P:Program} {t e:TypeId} (hu:P.underlying t=some (.slice e)) {j:TypeInfo} (hj:P.info? e=some j) (w:World) (g o n cap:Nat) (kk:IntKind) (i:Int) (h0:0≤i) (h1:i<n) :
  (Instr.indexAt t (.slice (some ⟨g,o,none⟩) n cap) (.int kk i)).run P w=.ok (.pointer (some ⟨g,o+i.toNat*j.size,none⟩)) w:=by
 simp [Instr.indexAt,run_underlying hu,asIntOf,h0,h1,sizeOf,typeInfo,hj,Addr.add_mid]
theorem relV_int {m:Ids} {S:Blocks} {w:World} {v:Value} {kk:IntKind} {n:Int} (h:RelV m S w v (.int kk n)):v=.int kk n:=by
 cases h with
 | t _ _ h=>cases h;rfl
theorem lsl_elem {S:Blocks} {w:World} {g o cap E:Nat} {l:List AV} {cs:List Value} (hs:S g) (hE:∀ x∈l,x.cells.length=E) (h1:∀ a∈flat l,a.one=true) (hl:cs.length=l.length*E)
  (hc:∀ (j:Nat) (c:Value),cs[j]?=some c→w.cell? ⟨g,o+j,none⟩=some c) (h:∀ (j:Nat) (c:Value) (a:AV),cs[j]?=some c→(flat l)[j]?=some a→RelT S w c a) {i:Nat} (hi:i<l.length) :
  RelT S w (.pointer (some ⟨g,o+i*E,none⟩)) (.rop (l.getD i .undef).cells):=by
 have hx:l[i]?=some (l.getD i .undef):=by simp [List.getD,List.getElem?_eq_getElem hi]
 have hsz:=hE _ (List.mem_of_getElem? hx)
 have hle:i*E+E≤l.length*E:=by
  exact zt68
 refine .rop g (o+i*E) _ ((cs.drop (i*E)).take E) hs (by rw [List.length_take,List.length_drop,hsz,hl];omega) (fun a ha=>h1 a (List.mem_flatMap.2 ⟨_,List.mem_of_getElem? hx,ha⟩)) (fun j c hj=>?_) (fun j c a hj ha=>?_)
 ·rw [List.getElem?_take] at hj
  split at hj
  ·exact zt167
  ·cases hj
 ·rw [List.getElem?_take] at hj
  split at hj
  ·rename_i hlt
   rw [List.getElem?_drop] at hj
   rw [← flat_get l hE i j _ hx hlt] at ha
   exact h _ _ _ hj ha
  ·cases hj
theorem zt57 {p:Prop}(h:p:=by
 rcases row_addr hG (by rw [ht id (by simp)];exact hrow) hm with ⟨_,h2,_⟩ | ⟨g',rfl⟩
 ·omega
 ·exact ⟨_,fun w' _=>fin a w' g' 0 _ cap hv (relV_int hi') h0 h1,by rw [Nat.zero_add];exact .eptr id ie.size n.toNat 0 g' _ cap hm⟩):p:=h
theorem evIndexAddr_sound [Tabs] {P:Program} {T:Tab} (hT:TabOk P T) {g:Option Bool} {rd:Operand→AV} {H:Heap} {nx:Nat} {t:TypeId} {x i:Operand} {o:Oper} (ho:o.op=.indexAddr t x i) {k:Res→Prop}
  (h:evIndexAddr T g H nx t (rd x) (rd i) k):∃ r,(gOk g→OpSemP P o [(x,true,rd x),(i,true,rd i)] H nx r)∧(r.wr=[]∧r.nx=nx)∧k r:=by
 unfold evIndexAddr at h
 split at h
 ·rename_i e s b z hi
  obtain ⟨hu,_⟩:=hT t _ hi
  simp only at hu
  split at h
  ·exact h.elim
  ·rename_i ie hie
   obtain ⟨_,j,hj,hs,_⟩:=hT e _ hie
   split at h
   ·rename_i kk n hn
    have fin:∀ (a:Act) (w:World) (g' o' len cap:Nat),a.eval x=.slice (some ⟨g',o',none⟩) len cap→a.eval i=.int kk n→0≤n→n<len →
      (execOp a.eval o).run P w=.ok (.value (.pointer (some ⟨g',o'+n.toNat*ie.size,none⟩))) w:=by
     intro a w g' o' len cap hx hi' h0 h1
     have:=run_indexAt_sl (P:=P) hu hj w g' o' len cap kk n h0 h1
     unfold execOp
     simp only [ho,hx,hi',Sem.run_bind,this,Result.andThen_ok,hs]
     rfl
    split at h
    ·rename_i E l hp
     obtain ⟨hb,hE,hk⟩:=ob_iff.1 h
     subst hE
     refine ⟨_,fun hg=>opsem_pure fun m S w a H₂ hG ht hus=>?_,⟨rfl,rfl⟩,hk⟩
     have hx:RelV m S w (a.eval x) (rd x):=hus (x,true,rd x) (by simp) rfl
     have hi':RelV m S w (a.eval i) (rd i):=hus (i,true,rd i) (by simp) rfl
     rw [hp] at hx
     rw [hn] at hi'
     obtain ⟨h0,h1⟩:=hb hg
     rcases relT_lsl (relV_lsl hx) with ⟨_,hnil⟩ | ⟨g',o',cap,cs,hv,hS,hcap,hE,hone,hl,hc,hr⟩
     ·subst hnil;simp at h1;omega
     ·exact ⟨_,fun w' _=>fin a w' g' o' _ cap hv (relV_int hi') h0 h1,.t _ _ (lsl_elem (cap:=cap) hS hE hone hl hc hr (by omega))⟩
    ·rename_i T' E enc d xs hp
     obtain ⟨hb,hE,hk⟩:=ob_iff.1 h
     subst hE
     refine ⟨_,fun hg=>opsem_pure fun m S w a H₂ hG ht hus=>?_,⟨rfl,rfl⟩,hk⟩
     have hx:RelV m S w (a.eval x) (rd x):=hus (x,true,rd x) (by simp) rfl
     have hi':RelV m S w (a.eval i) (rd i):=hus (i,true,rd i) (by simp) rfl
     rw [hp] at hx
     rw [hn] at hi'
     obtain ⟨h0,h1⟩:=hb hg
     rcases relT_lsl (relV_sl hx) with ⟨_,hnil⟩ | ⟨g',o',cap,cs,hv,hS,hcap,hE,hone,hl,hc,hr⟩
     ·have:xs.length=0:=by simpa using congrArg List.length hnil
      omega
     ·have h1':n<((xs.map enc).length:Nat):=by simpa using h1
      refine ⟨_,fun w' _=>fin a w' g' o' _ cap hv (relV_int hi') h0 h1',.t _ _ ?_⟩
      have:=lsl_elem (cap:=cap) hS hE hone hl hc hr (i:=n.toNat) (by omega)
      have e1:(xs.map enc).getD n.toNat .undef=enc (xs.getD n.toNat d):=by
       have:n.toNat<xs.length:=by omega
       exact zt145
      rwa [e1] at this
    ·rename_i id hp
     unfold slN at h
     simp only at h
     have main:∀ (len:Nat),isRow (lkH H id)=true→(∀ (m:Ids) (S:Blocks) (w:World) (H₂:Heap) (v:Value),Good m S w H₂→(∀ id'∈[id],lkH H₂ id'=lkH H id')→RelV m S w v (.own id)→SliceN v len) →
       ob g (0≤n∧n<len) (k ⟨.eptr id ie.size n.toNat 0,[id],[],nx⟩)→∃ r,(gOk g→OpSemP P o [(x,true,rd x),(i,true,rd i)] H nx r)∧(r.wr=[]∧r.nx=nx)∧k r:=by
      intro len hrow hlen hk
      obtain ⟨hb,hk⟩:=ob_iff.1 hk
      refine ⟨_,fun hg=>opsem_pure fun m S w a H₂ hG ht hus=>?_,⟨rfl,rfl⟩,hk⟩
      have hx:RelV m S w (a.eval x) (rd x):=hus (x,true,rd x) (by simp) rfl
      have hi':RelV m S w (a.eval i) (rd i):=hus (i,true,rd i) (by simp) rfl
      rw [hn] at hi'
      rw [hp] at hx
      obtain ⟨h0,h1⟩:=hb hg
      have hsn:=hlen m S w H₂ _ hG ht hx
      generalize hv:a.eval x=v at hx hsn
      cases hx with
      | t _ _ h=>cases h
      | own id n' cap a' hm =>
       cases hsn
       exact zt57
     split at h
     ·rename_i e' E l hid
      exact main l.length (by rw [hid];rfl) (fun m S w H₂ v hG ht hr=>by
       have hb:=hG.rel id
       rw [ht id (by simp),hid] at hb
       obtain ⟨v',vs,hmi,hrow⟩:=hb
       cases hr with
       | t _ _ h=>cases h
       | own id n cap a hm=>rw [hmi] at hm;cases hm;exact hrow.n) h
     ·rename_i T' e' E enc d xs hid
      exact main xs.length (by rw [hid];rfl) (fun m S w H₂ v hG ht hr=>by
       have hb:=hG.rel id
       rw [ht id (by simp),hid] at hb
       obtain ⟨v',vs,hmi,hrow⟩:=hb
       cases hr with
       | t _ _ h=>cases h
       | own id n cap a hm=>rw [hmi] at hm;cases hm;simpa using hrow.n) h
     ·exact h.elim
    ·rename_i id len hp
     split at h
     ·rename_i hrow
      obtain ⟨hb,hk⟩:=ob_iff.1 h
      refine ⟨_,fun hg=>opsem_pure fun m S w a H₂ hG ht hus=>?_,⟨rfl,rfl⟩,hk⟩
      have hx:RelV m S w (a.eval x) (rd x):=hus (x,true,rd x) (by simp) rfl
      have hi':RelV m S w (a.eval i) (rd i):=hus (i,true,rd i) (by simp) rfl
      rw [hn] at hi'
      rw [hp] at hx
      obtain ⟨h0,h1⟩:=hb hg
      generalize hv:a.eval x=v at hx
      cases hx with
      | t _ _ h=>cases h
      | pre id len n' cap a' hm hle =>
       exact zt57
     ·exact h.elim
    ·rename_i id len hp
     split at h
     ·rename_i h1'
      have hs1:ie.size=1:=Nat.eq_of_beq_eq_true h1'
      obtain ⟨hb,hk⟩:=ob_iff.1 h
      refine ⟨_,fun hg=>opsem_pure fun m S w a H₂ hG ht hus=>?_,⟨rfl,rfl⟩,hk⟩
      have hx:RelV m S w (a.eval x) (rd x):=hus (x,true,rd x) (by simp) rfl
      have hi':RelV m S w (a.eval i) (rd i):=hus (i,true,rd i) (by simp) rfl
      rw [hn] at hi'
      rw [hp] at hx
      obtain ⟨h0,h1⟩:=hb hg
      generalize hv:a.eval x=v at hx
      cases hx with
      | t _ _ h=>cases h
      | csl id len g' hm =>
       refine ⟨_,fun w' _=>fin a w' g' 0 _ _ hv (relV_int hi') h0 h1,?_⟩
       rw [hs1,Nat.mul_one,Nat.zero_add]
       exact .ptr id n.toNat g' hm
     ·exact h.elim
    ·exact h.elim
   ·exact h.elim
 ·rename_i len e s b z hi
  obtain ⟨hu,_⟩:=hT t _ hi
  simp only at hu
  split at h
  ·exact h.elim
  ·rename_i ie hie
   obtain ⟨_,j,hj,hs,_⟩:=hT e _ hie
   split at h
   ·rename_i kk n id off hn hp
    obtain ⟨hb,hk⟩:=ob_iff.1 h
    refine ⟨_,fun hg=>opsem_pure fun m S w a H₂ hG ht hus=>?_,⟨rfl,rfl⟩,hk⟩
    have hx:RelV m S w (a.eval x) (rd x):=hus (x,true,rd x) (by simp) rfl
    have hi':RelV m S w (a.eval i) (rd i):=hus (i,true,rd i) (by simp) rfl
    rw [hn] at hi'
    rw [hp] at hx
    obtain ⟨h0,h1⟩:=hb hg
    have hiv:=relV_int hi'
    generalize hv:a.eval x=v at hx
    cases hx with
    | t _ _ h=>cases h
    | ptr id off g' hm =>
     refine ⟨_,?_,.ptr id (off+n.toNat*ie.size) g' hm⟩
     intro w' _
     unfold execOp
     simp [ho,hv,hiv,Instr.indexAt,run_underlying hu,asIntOf,Instr.sureAddr,h0,h1,sizeOf,typeInfo,hj,hs,Addr.add_mid]
   ·exact h.elim
 ·exact h.elim
theorem flat_append (a b:List AV):flat (a++b)=flat a++flat b:=by simp [flat]
theorem flat_take {E:Nat}:∀ (l:List AV) (n:Nat),(∀ x∈l,x.cells.length=E)→flat (l.take n)=(flat l).take (n*E)
 | [],n,_=>by simp [flat]
 | x::l,0,_=>by simp [flat]
 | x::l,n+1,h=>by
  have h0:x.cells.length=E:=h x (by simp)
  have ih:=flat_take l n (fun y hy=>h y (by simp [hy]))
  have e1:flat (x::l)=x.cells++flat l:=by simp [flat]
  have e2:flat ((x::l).take (n+1))=x.cells++flat (l.take n):=by simp [flat]
  have e3:(n+1)*E=E+n*E:=by rw [Nat.succ_mul];omega
  rw [e1,e2,ih,e3,List.take_append,List.take_of_length_le (l:=x.cells) (by omega),h0]
  congr 2
  omega
theorem flat_drop {E:Nat}:∀ (l:List AV) (n:Nat),(∀ x∈l,x.cells.length=E)→flat (l.drop n)=(flat l).drop (n*E)
 | [],n,_=>by simp [flat]
 | x::l,0,_=>by simp [flat]
 | x::l,n+1,h=>by
  have h0:x.cells.length=E:=h x (by simp)
  have ih:=flat_drop l n (fun y hy=>h y (by simp [hy]))
  have e1:flat (x::l)=x.cells++flat l:=by simp [flat]
  have e2:flat ((x::l).drop (n+1))=flat (l.drop n):=by simp [flat]
  have e3:(n+1)*E=E+n*E:=by rw [Nat.succ_mul];omega
  rw [e1,e2,ih,e3,List.drop_append,List.drop_of_length_le (l:=x.cells) (by omega),h0,List.nil_append]
  congr 1
  omega
theorem lsl_sub {S:Blocks} {w:World} {g o cap E:Nat} {l:List AV} {cs:List Value} (hs:S g) (hcap:l.length≤cap) (hE:∀ x∈l,x.cells.length=E) (h1:∀ a∈flat l,a.one=true) (hl:cs.length=l.length*E)
  (hc:∀ (j:Nat) (c:Value),cs[j]?=some c→w.cell? ⟨g,o+j,none⟩=some c) (h:∀ (j:Nat) (c:Value) (a:AV),cs[j]?=some c→(flat l)[j]?=some a→RelT S w c a) {lo hi:Nat} (h01:lo≤hi) (h02:hi≤l.length) :
  RelT S w (.slice (some ⟨g,o+lo*E,none⟩) (hi-lo) (cap-lo)) (.lsl E ((l.take hi).drop lo)):=by
 have hlen:((l.take hi).drop lo).length=hi-lo:=by simp;omega
 have hflat:flat ((l.take hi).drop lo)=((flat l).take (hi*E)).drop (lo*E):=by
  rw [flat_drop _ _ (fun x hx=>hE x (List.mem_of_mem_take hx)),flat_take _ _ hE]
 have hmul:hi*E≤l.length*E:=Nat.mul_le_mul_right _ h02
 have hmul2:lo*E≤hi*E:=Nat.mul_le_mul_right _ h01
 have:=RelT.lsl (S:=S) (w:=w) E ((l.take hi).drop lo) g (o+lo*E) (cap-lo) ((cs.take (hi*E)).drop (lo*E)) hs (by omega)
  (fun x hx=>hE x (List.mem_of_mem_take (List.mem_of_mem_drop hx))) (fun a ha=>by
   rw [hflat] at ha
   exact h1 a (List.mem_of_mem_take (List.mem_of_mem_drop ha)))
  (by rw [hlen,Nat.sub_mul];simp;omega)
  (fun j c hj=>by
   rw [List.getElem?_drop,List.getElem?_take] at hj
   split at hj
   ·have:=hc _ _ hj
    rwa [← Nat.add_assoc] at this
   ·cases hj)
  (fun j c a hj ha=>by
   rw [List.getElem?_drop,List.getElem?_take] at hj
   rw [hflat,List.getElem?_drop,List.getElem?_take] at ha
   split at hj
   ·rename_i hlt
    rw [if_pos hlt] at ha
    exact h _ _ _ hj ha
   ·cases hj)
 rwa [hlen] at this
inductive Src:Type 1 where
 | lst (l:List AV)
 | row {T:Type} (enc:T→AV) (d:T) (xs:List T)
def Src.list:Src→List AV
 | .lst l=>l
 | .row enc _ xs=>xs.map enc
def Src.len:Src→Nat
 | .lst l=>l.length
 | .row _ _ xs=>xs.length
theorem Src.len_eq (s:Src):s.len=s.list.length:=by cases s<;>simp [Src.len,Src.list]
def Src.obj (e:TypeId) (E:Nat):Src→AB
 | .lst l=>.lst e E l
 | .row enc d xs=>.row e E enc d xs
theorem relB_obj {m:Ids} {S:Blocks} {w:World} {id:Nat} {e E:Nat} {s:Src}:RelB m S w id (s.obj e E)↔∃ v vs,m id=some v∧RowRel S w e E s.list v vs:=by
 cases s<;>rfl
def SrcRel (S:Blocks) (w:World) (E:Nat) (v:Value) (l:List AV):Prop :=
 (v=.slice none 0 0∧l=[])∨(∃ a cap,v=.slice (some a) 0 cap∧l=[])∨∃ (g o cap:Nat) (cs:List Value),v=.slice (some ⟨g,o,none⟩) l.length cap∧cs.length=l.length*E ∧
  (∀ x∈l,x.cells.length=E)∧(∀ a∈flat l,a.one=true) ∧
  (∀ (j:Nat) (c:Value),cs[j]?=some c→w.cell? ⟨g,o+j,none⟩=some c)∧(∀ (j:Nat) (c:Value) (a:AV),cs[j]?=some c→(flat l)[j]?=some a→RelT S w c a)
def srcView (H:Heap) (E:Nat) (x:AV) (k:Src→List Nat→Prop):Prop :=
 match x with
 | .nils=>k (.lst []) []
 | .lsl E' l=>E'=E∧k (.lst l) []
 | .sl E' enc d xs=>E'=E∧k (.row enc d xs) []
 | .own id=>match lkH H id with
  | .lst _ E' l=>E'=E∧k (.lst l) [id]
  | .row _ E' enc d xs=>E'=E∧k (.row enc d xs) [id]
  | _=>False
 | .pre id n=>match lkH H id with
  | .lst _ E' l=>E'=E∧k (.lst (l.take n)) [id]
  | .row _ E' enc d xs=>E'=E∧k (.row enc d (xs.take n)) [id]
  | _=>False
 | .part id E₂ off n=>match lkH H id with
  | .lst _ E' l=>E'=E∧E₂=E∧k (.lst ((l.drop off).take n)) [id]
  | .row _ E' enc d xs=>E'=E∧E₂=E∧k (.row enc d ((xs.drop off).take n)) [id]
  | _=>False
 | _=>False
theorem RowRel.src {S:Blocks} {w:World} {e E:Nat} {l:List AV} {v:Value} {vs:List Value} (h:RowRel S w e E l v vs):SrcRel S w E v l:=by
 obtain ⟨hl,ho⟩:=h.owns
 rcases ho with ⟨rfl,h0⟩ | ⟨g,cap,cur,rfl,_,hh,hnc,hcm,hcs,htake⟩
 ·exact .inl ⟨rfl,List.eq_nil_of_length_eq_zero h0⟩
 ·refine .inr (.inr ⟨g,0,cap,vs,rfl,hl,h.size,h.ones,fun j c hj=>?_,h.rel⟩)
  have:=h.owns.cells (g:=g) rfl j c hj
  rwa [Addr.add_mid] at this
theorem RowRel.take {S:Blocks} {w:World} {e E:Nat} {l:List AV} {a:Option Addr} {n cap:Nat} {vs:List Value} (h:RowRel S w e E l (.slice a n cap) vs) {k:Nat} (hk:k≤n) :
  RowRel S w e E (l.take k) (.slice a k cap) (vs.take (k*E)):=by
 obtain ⟨hl,ho⟩:=h.owns
 have hn:l.length=n:=by have:=h.n;cases this;rfl
 have hmul:k*E≤l.length*E:=Nat.mul_le_mul_right _ (by omega)
 have hlk:(l.take k).length=k:=by simp;omega
 refine ⟨⟨by rw [hlk];simp;omega,?_⟩,fun x hx=>h.size x (List.mem_of_mem_take hx),fun a ha=>?_,fun j c a hj ha=>?_⟩
 ·rcases ho with ⟨h0,h00⟩ | ⟨g,cap',cur,hv,hb,hh,hnc,hcm,hcs,htake⟩
  ·cases h0
   exact .inl ⟨by have:k=0:=by omega
                  rw [this],by rw [hlk];omega⟩
  ·cases hv
   refine .inr ⟨g,cap,cur,by rw [hlk],hb,hh,by omega,hcm,hcs,?_⟩
   rw [hlk,← htake,List.take_take]
   congr 1
   omega
 ·rw [flat_take _ _ h.size] at ha
  exact h.ones a (List.mem_of_mem_take ha)
 ·rw [flat_take _ _ h.size,List.getElem?_take] at ha
  rw [List.getElem?_take] at hj
  split at hj
  ·rename_i hlt
   rw [if_pos hlt] at ha
   exact h.rel j c a hj ha
  ·cases hj
theorem SrcRel.sub {S:Blocks} {w:World} {E g n cap c:Nat} {l:List AV} (h:SrcRel S w E (.slice (some ⟨g,0,none⟩) n cap) l) {off k:Nat} (hle:off+k≤n) :
  SrcRel S w E (.slice (some ⟨g,off*E,none⟩) k c) ((l.drop off).take k):=by
 rcases h with ⟨h,_⟩ | ⟨a',c',hv,hl⟩ | ⟨g',o,cap',cs,hv,hcs,hE,h1,hc,hr⟩
 ·cases h
 ·cases hv
  have:k=0:=by omega
  subst this
  exact .inr (.inl ⟨_,c,rfl,by simp⟩)
 ·cases hv
  have hlen:((l.drop off).take k).length=k:=by simp;omega
  have hflat:flat ((l.drop off).take k)=((flat l).drop (off*E)).take (k*E):=by
   rw [flat_take _ _ (fun x hx=>hE x (List.mem_of_mem_drop hx)),flat_drop _ _ hE]
  have hmul:(off+k)*E≤l.length*E:=Nat.mul_le_mul_right _ hle
  rw [Nat.add_mul] at hmul
  refine .inr (.inr ⟨g,off*E,c,(cs.drop (off*E)).take (k*E),by rw [hlen],by rw [hlen];simp;omega,fun x hx=>hE x (List.mem_of_mem_drop (List.mem_of_mem_take hx)),fun a ha=>?_,fun j c hj=>?_,fun j c a hj ha=>?_⟩)
  ·rw [hflat] at ha
   exact h1 a (List.mem_of_mem_drop (List.mem_of_mem_take ha))
  ·rw [List.getElem?_take] at hj
   split at hj
   ·rw [List.getElem?_drop] at hj
    have:=hc _ _ hj
    rwa [Nat.zero_add] at this
   ·cases hj
  ·rw [List.getElem?_take] at hj
   rw [hflat,List.getElem?_take] at ha
   split at hj
   ·rename_i hlt
    rw [if_pos hlt] at ha
    rw [List.getElem?_drop] at hj ha
    exact hr _ _ _ hj ha
   ·cases hj
theorem own_row [Tabs] {m:Ids} {S:Blocks} {w:World} {H H₂:Heap} (hG:Good m S w H₂) {id:Nat} (ht:lkH H₂ id=lkH H id) {e E:Nat} {s:Src} (hid:lkH H id=s.obj e E):∃ v vs,m id=some v∧RowRel S w e E s.list v vs:=by
 have hb:=hG.rel id
 rw [ht,hid] at hb
 exact relB_obj.1 hb
theorem srcView_sound [Tabs] {H:Heap} {E:Nat} {x:AV} {k:Src→List Nat→Prop} (h:srcView H E x k) :
  ∃ s touch,(∀ (m:Ids) (S:Blocks) (w:World) (H₂:Heap) (v:Value),Good m S w H₂→(∀ id∈touch,lkH H₂ id=lkH H id)→RelV m S w v x→SrcRel S w E v s.list)∧k s touch:=by
 have lsl:∀ {S:Blocks} {w:World} {v:Value} {l:List AV},RelT S w v (.lsl E l)→SrcRel S w E v l:=by
  intro S w v l h
  rcases relT_lsl h with ⟨h | ⟨a,h⟩,h'⟩ | ⟨g,o,cap,cs,hv,hS,hcap,hE,h1,hl,hc,hr⟩
  ·exact .inl ⟨h,h'⟩
  ·exact .inr (.inl ⟨a,0,h,h'⟩)
  ·exact .inr (.inr ⟨g,o,cap,cs,hv,hl,hE,h1,hc,hr⟩)
 unfold srcView at h
 split at h
 ·refine ⟨_,_,fun m S w H₂ v _ _ hr=>?_,h⟩
  cases hr with
  | t _ _ h=>cases h;exact .inl ⟨rfl,rfl⟩
 ·obtain ⟨hE,h⟩:=h
  subst hE
  exact ⟨_,_,fun m S w H₂ v _ _ hr=>lsl (l:=Src.list (.lst _)) (relV_lsl hr),h⟩
 ·obtain ⟨hE,h⟩:=h
  subst hE
  exact ⟨_,_,fun m S w H₂ v _ _ hr=>lsl (l:=Src.list (.row _ _ _)) (relV_sl hr),h⟩
 ·rename_i id
  have main:∀ (e:TypeId) (s:Src),lkH H id=s.obj e E→k s [id]→∃ s touch,(∀ (m:Ids) (S:Blocks) (w:World) (H₂:Heap) (v:Value),Good m S w H₂→(∀ id∈touch,lkH H₂ id=lkH H id)→RelV m S w v (.own id)→SrcRel S w E v s.list)∧k s touch:=by
   intro e s hid hk
   refine ⟨s,[id],fun m S w H₂ v hG ht hr=>?_,hk⟩
   obtain ⟨v',vs,hmi,hrow⟩:=own_row hG (ht id (by simp)) hid
   cases hr with
   | t _ _ h=>cases h
   | own id n cap a hm=>rw [hmi] at hm;cases hm;exact hrow.src
  split at h
  ·rename_i e E' l hid
   obtain ⟨rfl,h⟩:=h
   exact main e (.lst l) hid h
  ·rename_i T e E' enc d xs hid
   obtain ⟨rfl,h⟩:=h
   exact main e (.row enc d xs) hid h
  ·exact h.elim
 ·rename_i id n
  have main:∀ (e:TypeId) (s s':Src),lkH H id=s.obj e E→s'.list=s.list.take n→k s' [id]→∃ s touch,(∀ (m:Ids) (S:Blocks) (w:World) (H₂:Heap) (v:Value),Good m S w H₂→(∀ id∈touch,lkH H₂ id=lkH H id)→RelV m S w v (.pre id n)→SrcRel S w E v s.list)∧k s touch:=by
   intro e s s' hid hs' hk
   refine ⟨s',[id],fun m S w H₂ v hG ht hr=>?_,hk⟩
   obtain ⟨v',vs,hmi,hrow⟩:=own_row hG (ht id (by simp)) hid
   cases hr with
   | t _ _ h=>cases h
   | pre id len n cap a hm hle=>rw [hmi] at hm;cases hm;rw [hs'];exact (hrow.take hle).src
  split at h
  ·rename_i e E' l hid
   obtain ⟨rfl,h⟩:=h
   exact main e (.lst l) (.lst (l.take n)) hid rfl h
  ·rename_i T e E' enc d xs hid
   obtain ⟨rfl,h⟩:=h
   exact main e (.row enc d xs) (.row enc d (xs.take n)) hid (by simp [Src.list,List.map_take]) h
  ·exact h.elim
 ·rename_i id E₂ off n
  have main:∀ (e:TypeId) (s s':Src),E₂=E→lkH H id=s.obj e E→s'.list=(s.list.drop off).take n→k s' [id]→∃ s touch,(∀ (m:Ids) (S:Blocks) (w:World) (H₂:Heap) (v:Value),Good m S w H₂→(∀ id∈touch,lkH H₂ id=lkH H id)→RelV m S w v (.part id E₂ off n)→SrcRel S w E v s.list)∧k s touch:=by
   intro e s s' hE2 hid hs' hk
   subst hE2
   refine ⟨s',[id],fun m S w H₂ v hG ht hr=>?_,hk⟩
   obtain ⟨v',vs,hmi,hrow⟩:=own_row hG (ht id (by simp)) hid
   cases hr with
   | t _ _ h=>cases h
   | part id E off len g n cap c hm hle hc =>
    rw [hmi] at hm
    cases hm
    rw [hs']
    exact hrow.src.sub hle
   | partE id E off c g n cap hm =>
    rw [hs',List.take_zero]
    exact .inr (.inr ⟨g,0,c,[],rfl,by simp,by simp,by simp [flat],by simp,by simp⟩)
   | partN id E off =>
    rw [hs',List.take_zero]
    exact .inl ⟨rfl,rfl⟩
  split at h
  ·rename_i e E' l hid
   obtain ⟨rfl,hE,h⟩:=h
   exact main e (.lst l) (.lst ((l.drop off).take n)) hE hid rfl h
  ·rename_i T e E' enc d xs hid
   obtain ⟨rfl,hE,h⟩:=h
   exact main e (.row enc d xs) (.row enc d ((xs.drop off).take n)) hE hid (by simp [Src.list,List.map_take,List.map_drop]) h
  ·exact h.elim
 ·exact h.elim
def cat:Src→Src→(Src→Prop)→Prop
 | .lst [],s,k=>k s
 | .lst (a::l),.lst l2,k=>k (.lst (a::l++l2))
 | .lst (a::l),.row enc d xs,k=>∃ ys,ys.map enc=a::l∧k (.row enc d (ys++xs))
 | .row enc d xs,.lst [],k=>k (.row enc d xs)
 | .row enc d xs,.lst [v],k=>∃ y,enc y=v∧k (.row enc d (xs++[y]))
 | .row enc d xs,.lst (a::b::l),k=>∃ ys,ys.map enc=a::b::l∧k (.row enc d (xs++ys))
 | .row enc d xs,.row enc2 _ xs2,k=>∃ ys,ys.map enc=xs2.map enc2∧k (.row enc d (xs++ys))
theorem zt147 {p:Prop}(h:p:=by
 obtain ⟨ys,hy,h⟩:=h
 exact ⟨_,by simp [Src.list,hy],h⟩):p:=h
theorem cat_sound {a b:Src} {k:Src→Prop} (h:cat a b k):∃ c,c.list=a.list++b.list∧k c:=by
 unfold cat at h
 split at h
 ·exact ⟨_,by simp [Src.list],h⟩
 ·exact ⟨_,rfl,h⟩
 ·exact zt147
 ·exact ⟨_,by simp [Src.list],h⟩
 ·obtain ⟨y,hy,h⟩:=h
  exact ⟨_,by simp [Src.list,hy],h⟩
 ·exact zt147
 ·exact zt147
theorem zt72 {p:Prop}(h:p:=by
 rw [hv0,hrn] at hrun
 cases hrun
 simp [blk] at hk
 exact .inr (by omega)):p:=h
theorem zt115 {p:Prop}(h:p:=by
 rw [List.getElem?_append_left hq] at hj
 rw [List.getElem?_append_left (by omega)] at ha
 exact (hd.rel j c a hj ha).mono (fun _ h=>h) hkeep):p:=h
theorem append_run {P:Program} {t ty e:TypeId} {i:TypeInfo} {z:Value} (ht:P.underlying t=some (.slice e)) (hi:P.info? e=some i) (hz:i.zero=some z) (hzs:z.cells.size=i.size) (hpos:0<i.size)
  {S:Blocks} {w:World} {dl sl:List AV} {vd vx:Value} {vs:List Value} (hd:RowRel S w e i.size dl vd vs) (hx:SrcRel S w i.size vx sl) (hS:∀ g,S g→g<w.heap.size∧blk vd≠some g)
  (hbytes:(dl.length+sl.length)*i.bytes≤140737488355328) (h63:dl.length+sl.length≤maxLen) :
  ∃ v' w' vs',(Builtin.append_ #[t,t] ty #[vd,vx]).run P w=.ok v' w'∧RowRel S w' e i.size (dl++sl) v' vs'∧w.grownBy w' (blk vd)∧(∀ k,blk v'=some k→blk vd=some k∨w.heap.size≤k):=by
 have hown:=hd.owns
 have hlen:(flat dl).length=dl.length*i.size:=flat_length dl hd.size
 have hvs:vs.length=(flat dl).length:=by rw [hlen];exact hown.1
 have hbo:Value.ownBlock vd=blk vd:=by
  rcases hown.2 with ⟨rfl,_⟩ | ⟨g,cap,cur,rfl,_⟩<;>rfl
 have fin:∀ (v':Value) (w':World) (news:List Value),news.length=sl.length*i.size→(∀ x∈sl,x.cells.length=i.size)→(∀ a∈flat sl,a.one=true)→(∀ (j:Nat) (c:Value) (a:AV),news[j]?=some c→(flat sl)[j]?=some a→RelT S w c a) →
   w'.ownsRow 0 e i.size v' (dl.length+sl.length) (vs++news)→w.grownBy w' (blk vd)→RowRel S w' e i.size (dl++sl) v' (vs++news):=by
  intro v' w' news hnl hnE hn1 hnr ho hg
  have hkeep:∀ g,S g→w'.heap[g]?=w.heap[g]?:=fun g hgS=>hg.block g (hS g hgS).1 (fun e=>(hS g hgS).2 e.symm)
  refine ⟨by rw [List.length_append];exact ho,fun x hx=>?_,fun a ha=>?_,fun j c a hj ha=>?_⟩
  ·rcases List.mem_append.1 hx with hx | hx
   ·exact hd.size x hx
   ·exact hnE x hx
  ·rw [flat_append] at ha
   rcases List.mem_append.1 ha with ha | ha
   ·exact hd.ones a ha
   ·exact hn1 a ha
  ·rw [flat_append] at ha
   by_cases hq:j<vs.length
   ·exact zt115
   ·rw [List.getElem?_append_right (by omega)] at hj ha
    rw [← hvs] at ha
    exact (hnr _ c a hj ha).mono (fun _ h=>h) hkeep
 have hx':(vx=.slice none 0 0∧sl=[])∨∃ (ad:Addr) (cap:Nat) (cs:List Value),vx=.slice (some ad) sl.length cap∧cs.length=sl.length*i.size ∧
   (∀ x∈sl,x.cells.length=i.size)∧(∀ a∈flat sl,a.one=true)∧(∀ (j:Nat) (u:Value),cs[j]?=some u→w.cell? (ad.add j)=some u)∧(∀ (j:Nat) (c:Value) (a:AV),cs[j]?=some c→(flat sl)[j]?=some a→RelT S w c a):=by
  rcases hx with h | ⟨a,cap,rfl,rfl⟩ | ⟨g,o,cap,cs,rfl,hcs,hE,h1,hc,hr⟩
  ·exact .inl h
  ·exact .inr ⟨a,cap,[],rfl,by simp,by simp,by simp [flat],by simp,by simp⟩
  ·exact .inr ⟨⟨g,o,none⟩,cap,cs,rfl,hcs,hE,h1,fun j u hu=>by rw [Addr.add_mid];exact hc j u hu,hr⟩
 rcases hx' with ⟨rfl,rfl⟩ | ⟨ad,cap,cs,rfl,hcs,hE,h1,hnews,hr⟩
 ·refine ⟨vd,w,vs,run_append_owned_none (P:=P) (w:=w) 0 t ty e i i.size ht hi vd dl.length vs hown,by rw [List.append_nil];exact hd,⟨rfl,rfl,rfl,Nat.le_refl _,fun _ _ _=>rfl⟩,fun k hk=>.inl hk⟩
 ·have hone:∀ u∈cs,u.oneCell'=true:=by
   intro u hu
   obtain ⟨j,hj⟩:=List.getElem?_of_mem hu
   have hjl:j<(flat sl).length:=by rw [flat_length sl hE,← hcs];exact (List.getElem?_eq_some_iff.1 hj).1
   exact (hr j u _ hj (List.getElem?_eq_getElem hjl)).oneCell (h1 _ (List.getElem_mem hjl))
  obtain ⟨v',w',hrun,ho,hg,_⟩:=run_append_own (P:=P) (w:=w) 0 t ty e i z i.size i.bytes ht hi hz rfl rfl hzs hpos vd dl.length vs hown ad sl.length cap cs hcs hnews hone h63 hbytes (Nat.zero_le _)
  rw [hbo] at hg
  refine ⟨v',w',vs++cs,hrun,fin v' w' cs hcs hE h1 hr ho hg,hg,?_⟩
  have hsmall:dl.length+sl.length≤9223372036854775807:=by simp only [maxLen] at h63;omega
  intro k hk
  rcases hown.2 with ⟨hv0,hl0⟩ | ⟨g',cap',cur,hv0,_,hh,hnc,hcm,hcsz,htake⟩
  ·by_cases hm:sl.length=0
   ·have h2:=ho.2
    have hz0:dl.length+sl.length=0:=by omega
    have hrn:(Builtin.append_ #[t,t] ty #[.slice none 0 0,.slice (some ad) sl.length cap]).run P w=.ok (.slice none 0 0) w:=by
     have:cs=[]:=List.eq_nil_of_length_eq_zero (by rw [hcs,hm];simp)
     simp [Builtin.append_,run_underlying ht,sizeOf,typeInfo,hi,Builtin.lenOf,hm,Builtin.firstCells,loadCells,loadCellsFrom]
    rw [hv0,hrn] at hrun
    cases hrun
    simp [blk] at hk
   ·have hrn:=run_append_nil (P:=P) w t ty e i z ht hi hz ad sl.length cap cs hcs hnews (by omega) (by omega) (by have hb:=hbytes;rw [hl0] at hb;simp only [Nat.zero_add] at hb;omega)
    exact zt72
  ·by_cases hroom:dl.length+sl.length≤cap'
   ·have hfit:dl.length*i.size+cs.length≤cur.size:=by rw [hcs,hcsz,← Nat.add_mul];exact Nat.mul_le_mul_right _ hroom
    have hrn:=run_append_room (P:=P) w t ty e i ht hi g' dl.length cap' cur hh ad sl.length cap cs hcs hnews hone hroom hfit
    rw [hv0,hrn] at hrun
    cases hrun
    rw [hv0]
    exact .inl hk
   ·have holds:∀ j u,vs[j]?=some u→w.cell? ((⟨g',0,none⟩:Addr).add j)=some u:=hown.cells (g:=g') (by rw [hv0];rfl)
    have hrn:=run_append_grow (P:=P) w t ty e i z ht hi hz ⟨g',0,none⟩ dl.length cap' vs hown.1 holds ad sl.length cap cs hcs hnews (by omega) (by omega) (growslice_fits (by omega) hbytes)
    exact zt72
def notIn (id:Nat):List Nat→Bool
 | []=>true
 | j::l=>match Nat.beq id j with
  | true=>false
  | false=>notIn id l
theorem notIn_spec {id:Nat}:∀ {l:List Nat},notIn id l=true→∀ j∈l,j≠id
 | [],_,j,h=>by simp at h
 | a::l,h,j,hj=>by
  unfold notIn at h
  split at h
  ·cases h
  ·rename_i hb
   rcases List.mem_cons.1 hj with rfl | hj
   ·intro e;subst e;simp at hb
   ·exact notIn_spec h j hj
def cellsN (v:Value):Nat:=v.cells.size
def evAppend (T:Tab) (H:Heap) (nx:Nat) (t:TypeId) (s x:AV) (k:Res→Prop):Prop :=
 match lkT T t with
 | some ⟨.slice e,_,_,_⟩=>match lkT T e with
  | none=>False
  | some ie=>match Nat.ble 1 ie.size&&Nat.ble 1 ie.bytes&&Nat.beq (cellsN ie.zero) ie.size with
   | false=>False
   | true=>srcView H ie.size x fun sx touch=>match s with
    | .nils=>sx.len*ie.bytes≤140737488355328∧cat (.lst []) sx fun c=>k ⟨.own nx,touch,[(nx,c.obj e ie.size)],nx+1⟩
    | .own id=>match notIn id touch with
     | false=>False
     | true=>match lkH H id with
      | .lst e' E' l=>(e'=e∧E'=ie.size)∧(l.length+sx.len)*ie.bytes≤140737488355328∧cat (.lst l) sx fun c=>k ⟨.own nx,id::touch,[(nx,c.obj e ie.size),(id,.dead)],nx+1⟩
      | .row e' E' enc d xs=>(e'=e∧E'=ie.size)∧(xs.length+sx.len)*ie.bytes≤140737488355328∧cat (.row enc d xs) sx fun c=>k ⟨.own nx,id::touch,[(nx,c.obj e ie.size),(id,.dead)],nx+1⟩
      | _=>False
    | .pre id n=>match notIn id touch with
     | false=>False
     | true=>match lkH H id with
      | .lst e' E' l=>(e'=e∧E'=ie.size)∧(l.length+sx.len)*ie.bytes≤140737488355328∧cat (.lst (l.take n)) sx fun c=>k ⟨.own nx,id::touch,[(nx,c.obj e ie.size),(id,.dead)],nx+1⟩
      | .row e' E' enc d xs=>(e'=e∧E'=ie.size)∧(xs.length+sx.len)*ie.bytes≤140737488355328∧cat (.row enc d (xs.take n)) sx fun c=>k ⟨.own nx,id::touch,[(nx,c.obj e ie.size),(id,.dead)],nx+1⟩
      | _=>False
    | _=>False
 | _=>False
theorem src_obj_live (c:Src) (e E:Nat):(c.obj e E).live=true:=by cases c<;>rfl
theorem blk_slice_of {S:Blocks} {w:World} {e E:Nat} {l:List AV} {v:Value} {vs:List Value} (h:RowRel S w e E l v vs):∃ a n c,v=.slice a n c:=by
 rcases h.owns.2 with ⟨rfl,_⟩ | ⟨g,cap,cur,rfl,_⟩<;>exact ⟨_,_,_,rfl⟩
theorem zt185 {p:Prop}(h:p:=by
 generalize a.eval s=v at hs'
 cases hs' with
 | t _ _ h=>cases h;rfl):p:=h
theorem zp43 {p:Prop} (h:p:=by simpa using hb):p:=h
theorem evAppend_sound [Tabs] {P:Program} {T:Tab} (hT:TabOk P T) {rd:Operand→AV} {H:Heap} {nx:Nat} {t:TypeId} {s x:Operand} {o:Oper}
  (ho:o.op=.call { callee:=.builtin .append,args:=#[s,x],argTypes:=#[t,t] }) {k:Res→Prop}
  (h:evAppend T H nx t (rd s) (rd x) k):∃ r,OpSem P o [(s,true,rd s),(x,true,rd x)] H nx r∧nx≤r.nx∧k r:=by
 unfold evAppend at h
 split at h
 ·rename_i e sz b z hi
  obtain ⟨hu,_⟩:=hT t _ hi
  simp only at hu
  split at h
  ·exact h.elim
  ·rename_i ie hie
   obtain ⟨_,j,hj,hs,hby,hz⟩:=hT e _ hie
   split at h
   ·exact h.elim
   ·rename_i hc
    simp only [Bool.and_eq_true] at hc
    obtain ⟨⟨c1,c2⟩,c3⟩:=hc
    have hpos:1≤ie.size:=Nat.le_of_ble_eq_true c1
    have hbpos:1≤ie.bytes:=Nat.le_of_ble_eq_true c2
    have hzs:ie.zero.cells.size=ie.size:=Nat.eq_of_beq_eq_true c3
    obtain ⟨sx,touch,hsrc,h⟩:=srcView_sound h
    have run:∀ {S:Blocks} {w:World} {a:Act} {dl:List AV} {vs:List Value} {n:Nat},RowRel S w e ie.size dl (a.eval s) vs→SrcRel S w ie.size (a.eval x) sx.list→(∀ g,S g→g<w.heap.size∧blk (a.eval s)≠some g) →
      (n+sx.len)*ie.bytes≤140737488355328→dl.length≤n →
      ∃ v' w' vs',(execOp a.eval o).run P w=.ok (.value v') w'∧RowRel S w' e ie.size (dl++sx.list) v' vs'∧w.grownBy w' (blk (a.eval s))∧(∀ k,blk v'=some k→blk (a.eval s)=some k∨w.heap.size≤k):=by
     intro S w a dl vs n hd hx hS hb hn
     have h1:(dl.length+sx.list.length)*j.bytes≤140737488355328:=by
      rw [hby,← Src.len_eq]
      refine Nat.le_trans (Nat.mul_le_mul_right _ ?_) hb
      omega
     have h2:dl.length+sx.list.length≤maxLen:=maxLen_ge (by
      have:(dl.length+sx.list.length)*1≤(dl.length+sx.list.length)*j.bytes:=Nat.mul_le_mul_left _ (by omega)
      omega)
     rw [← hs] at hd hx hpos hzs
     obtain ⟨v',w',vs',hr,hrow,hg,hbk⟩:=append_run (P:=P) (ty:=o.type) hu hj hz hzs hpos hd hx hS h1 h2
     refine ⟨v',w',vs',?_,by rw [← hs];exact hrow,hg,hbk⟩
     unfold execOp
     simp [ho,resolve,invoke,builtin,hr]
    have moved:∀ (id n:Nat) (dst:Src) (c:Src),(∀ (m:Ids) (S:Blocks) (w:World) (H₂:Heap) (v:Value),Good m S w H₂→lkH H₂ id=lkH H id→RelV m S w v (rd s)→∃ v0 vs,m id=some v0∧(lkH H₂ id).live=true∧blk v0=blk v∧RowRel S w e ie.size dst.list v vs) →
      (n+sx.len)*ie.bytes≤140737488355328→dst.list.length≤n→c.list=dst.list++sx.list →
      OpSem P o [(s,true,rd s),(x,true,rd x)] H nx ⟨.own nx,id::touch,[(nx,c.obj e ie.size),(id,.dead)],nx+1⟩:=by
     intro id n dst c hdst hb hn hcl m S w a H₂ K Q hG ht hfree hus hK
     have hs':RelV m S w (a.eval s) (rd s):=hus (s,true,rd s) (by simp) rfl
     have hx':RelV m S w (a.eval x) (rd x):=hus (x,true,rd x) (by simp) rfl
     obtain ⟨v0,vs,hm,hlive,hb0,hrow⟩:=hdst m S w H₂ _ hG (ht id (by simp)) hs'
     obtain ⟨v',w',vs',hrun,hrow',hg,hbk⟩:=run (n:=n) hrow (hsrc m S w H₂ _ hG (fun i hi=>ht i (by simp [hi])) hx') (fun g hg=>⟨(hG.ro g hg).1,fun e=>(hG.ro g hg).2 id v0 hlive hm (by rw [hb0];exact e)⟩) hb hn
     obtain ⟨a',n',c',rfl⟩:=blk_slice_of hrow'
     unfold Oper.wp
     rw [hrun]
     have hn0:m nx=none:=hfree nx (Nat.le_refl _) (Nat.lt_succ_self _)
     refine hK _ _ S w' (ext_move hG hlive hm hn0 (.slice a' n' c') _ w' hg.os hg.tape hg.output hg.size (fun k hk hne=>hg.block k hk (fun e=>hne (by rw [hb0];exact e.symm))) (fun k hk=>by rw [hb0];exact hbk k hk) ?_) (.own nx n' c' a' (by simp))
     exact relB_obj.2 ⟨.slice a' n' c',vs',by simp,by rw [hcl];exact hrow'⟩
    split at h
    ·rename_i hp
     obtain ⟨hb,h⟩:=h
     obtain ⟨c,hcl,hk⟩:=cat_sound h
     refine ⟨_,?_,Nat.le_succ _,hk⟩
     intro m S w a H₂ K Q hG ht hfree hus hK
     have hs':RelV m S w (a.eval s) (rd s):=hus (s,true,rd s) (by simp) rfl
     have hx':RelV m S w (a.eval x) (rd x):=hus (x,true,rd x) (by simp) rfl
     rw [hp] at hs'
     have hv:a.eval s=.slice none 0 0:=by
      exact zt185
     have hd:RowRel S w e ie.size [] (a.eval s) []:=⟨by rw [hv];exact World.ownsRow_nil w 0 e ie.size,by simp,by simp [flat],by simp⟩
     obtain ⟨v',w',vs',hrun,hrow',hg,hbk⟩:=run (n:=0) hd (hsrc m S w H₂ _ hG (fun i hi=>ht i (by simp [hi])) hx') (fun g hg=>⟨(hG.ro g hg).1,by rw [hv];simp [blk]⟩) zp43 (by simp)
     obtain ⟨a',n',c',rfl⟩:=blk_slice_of hrow'
     unfold Oper.wp
     rw [hrun]
     have hn0:m nx=none:=hfree nx (Nat.le_refl _) (Nat.lt_succ_self _)
     rw [hv] at hg hbk
     refine hK _ _ S w' (ext_new hG hn0 (.slice a' n' c') _ w' hg.os hg.tape hg.output hg.size (fun k hk=>hg.block k hk (by simp [blk])) (fun k hk=>by
      rcases hbk k hk with h | h
      ·simp [blk] at h
      ·exact h) ?_) (.own nx n' c' a' (by simp))
     exact relB_obj.2 ⟨.slice a' n' c',vs',by simp,by rw [hcl];exact hrow'⟩
    ·rename_i id hp
     split at h
     ·exact h.elim
     ·have hdst:∀ (dst:Src),lkH H id=dst.obj e ie.size→∀ (m:Ids) (S:Blocks) (w:World) (H₂:Heap) (v:Value),Good m S w H₂→lkH H₂ id=lkH H id→RelV m S w v (rd s)→∃ v0 vs,m id=some v0∧(lkH H₂ id).live=true∧blk v0=blk v∧RowRel S w e ie.size dst.list v vs:=by
       intro dst hid m S w H₂ v hG ht hr
       obtain ⟨v',vs,hmi,hrow⟩:=own_row hG ht hid
       rw [hp] at hr
       cases hr with
       | t _ _ h=>cases h
       | own id n cap a hm =>
        rw [hmi] at hm
        cases hm
        exact ⟨_,vs,hmi,by rw [ht,hid];exact src_obj_live _ _ _,rfl,hrow⟩
      split at h
      ·rename_i e' E' l hid
       obtain ⟨⟨rfl,rfl⟩,hb,h⟩:=h
       obtain ⟨c,hcl,hk⟩:=cat_sound h
       exact ⟨_,moved id _ (.lst l) c (hdst (.lst l) hid) hb (Nat.le_refl _) hcl,Nat.le_succ _,hk⟩
      ·rename_i T' e' E' enc d xs hid
       obtain ⟨⟨rfl,rfl⟩,hb,h⟩:=h
       obtain ⟨c,hcl,hk⟩:=cat_sound h
       exact ⟨_,moved id _ (.row enc d xs) c (hdst (.row enc d xs) hid) hb (by simp [Src.list]) hcl,Nat.le_succ _,hk⟩
      ·exact h.elim
    ·rename_i id n hp
     split at h
     ·exact h.elim
     ·have hdst:∀ (dst dst':Src),lkH H id=dst.obj e ie.size→dst'.list=dst.list.take n→∀ (m:Ids) (S:Blocks) (w:World) (H₂:Heap) (v:Value),Good m S w H₂→lkH H₂ id=lkH H id→RelV m S w v (rd s)→∃ v0 vs,m id=some v0∧(lkH H₂ id).live=true∧blk v0=blk v∧RowRel S w e ie.size dst'.list v vs:=by
       intro dst dst' hid hd' m S w H₂ v hG ht hr
       obtain ⟨v',vs,hmi,hrow⟩:=own_row hG ht hid
       rw [hp] at hr
       cases hr with
       | t _ _ h=>cases h
       | pre id len n cap a hm hle =>
        rw [hmi] at hm
        cases hm
        exact ⟨_,_,hmi,by rw [ht,hid];exact src_obj_live _ _ _,by cases a<;>rfl,by rw [hd'];exact hrow.take hle⟩
      split at h
      ·rename_i e' E' l hid
       obtain ⟨⟨rfl,rfl⟩,hb,h⟩:=h
       obtain ⟨c,hcl,hk⟩:=cat_sound h
       exact ⟨_,moved id _ (.lst (l.take n)) c (hdst (.lst l) (.lst (l.take n)) hid rfl) hb (by simp [Src.list];omega) hcl,Nat.le_succ _,hk⟩
      ·rename_i T' e' E' enc d xs hid
       obtain ⟨⟨rfl,rfl⟩,hb,h⟩:=h
       obtain ⟨c,hcl,hk⟩:=cat_sound h
       exact ⟨_,moved id _ (.row enc d (xs.take n)) c (hdst (.row enc d xs) (.row enc d (xs.take n)) hid (by simp [Src.list,List.map_take])) hb (by simp [Src.list];omega) hcl,Nat.le_succ _,hk⟩
      ·exact h.elim
    ·exact h.elim
 ·exact h.elim
open Go.Lib
def strAVs (s:List UInt8):List AV:=s.map fun b=>.int .u8 b.toNat
theorem strAVs_len (s:List UInt8):(strAVs s).length=s.length:=by unfold strAVs;simp
theorem strAVs_append (a b:List UInt8):strAVs (a++b)=strAVs a++strAVs b:=by unfold strAVs;simp
theorem flat_strAVs (s:List UInt8):flat (strAVs s)=strAVs s:=by
 unfold strAVs flat
 rw [List.flatMap_map]
 induction s with
 | nil=>rfl
 | cons b s ih=>rw [List.flatMap_cons,ih];rfl
theorem strCells_rel (S:Blocks) (w:World) (s:ByteArray) (j:Nat) (c:Value) (a:AV) (hj:(strCells s)[j]?=some c) (ha:(strAVs s.data.toList)[j]?=some a):RelT S w c a:=by
 unfold strCells at hj
 unfold strAVs at ha
 rw [List.getElem?_map,Option.map_eq_some_iff] at hj ha
 obtain ⟨x,hx,rfl⟩:=hj
 obtain ⟨y,hy,rfl⟩:=ha
 rw [hx] at hy
 cases hy
 exact .int _ _
theorem appendS_run {P:Program} {t u ty e:TypeId} {i:TypeInfo} (ht:P.underlying t=some (.slice e)) (hu:P.underlying u=some .string) (hi:P.info? e=some i) (hz:i.zero=some (.int .u8 0)) (hsize:i.size=1) (hby:i.bytes=1)
  {S:Blocks} {w:World} {dl:List AV} {vd:Value} {vs:List Value} (hd:RowRel S w e 1 dl vd vs) (s:ByteArray) (hS:∀ g,S g→g<w.heap.size∧blk vd≠some g) (hb:dl.length+s.size≤140737488355328) :
  ∃ v' w' vs',(Builtin.append_ #[t,u] ty #[vd,.string s]).run P w=.ok v' w'∧RowRel S w' e 1 (dl++strAVs s.data.toList) v' vs'∧w.grownBy w' (blk vd)∧(∀ k,blk v'=some k→blk vd=some k∨w.heap.size≤k):=by
 have hown:=hd.owns
 have hbo:Value.ownBlock vd=blk vd:=by
  rcases hown.2 with ⟨rfl,_⟩ | ⟨g,cap,cur,rfl,_⟩<;>rfl
 have h63:dl.length+s.size≤maxLen:=by unfold maxLen;omega
 obtain ⟨v',w',hrun,ho,hg,_⟩:=run_append_own_string (P:=P) w 0 t u ty e i ht hu hi hz hsize hby vd dl.length vs hown s h63 hb (Nat.zero_le _)
 rw [hbo] at hg
 have hvs:vs.length=dl.length:=by simpa using hown.1
 have hfl:(flat dl).length=dl.length:=by have:=flat_length dl hd.size;omega
 have hkeep:∀ g,S g→w'.heap[g]?=w.heap[g]?:=fun g hgS=>hg.block g (hS g hgS).1 (fun e=>(hS g hgS).2 e.symm)
 have hsl:(strAVs s.data.toList).length=s.size:=by rw [strAVs_len,Array.length_toList];rfl
 refine ⟨v',w',vs++strCells s,hrun,⟨?_,fun x hx=>?_,fun a ha=>?_,fun j c a hj ha=>?_⟩,hg,?_⟩
 ·rw [List.length_append,hsl];exact ho
 ·rcases List.mem_append.1 hx with hx | hx
  ·exact hd.size x hx
  ·unfold strAVs at hx
   obtain ⟨b,_,rfl⟩:=List.mem_map.1 hx
   rfl
 ·rw [flat_append,flat_strAVs] at ha
  rcases List.mem_append.1 ha with ha | ha
  ·exact hd.ones a ha
  ·unfold strAVs at ha
   obtain ⟨b,_,rfl⟩:=List.mem_map.1 ha
   rfl
 ·rw [flat_append,flat_strAVs] at ha
  by_cases hq:j<vs.length
  ·exact zt115
  ·rw [List.getElem?_append_right (by omega)] at hj ha
   rw [hfl,← hvs] at ha
   exact strCells_rel S w' s _ c a hj ha
 ·intro k hk
  rcases hown.2 with ⟨hv0,hl0⟩ | ⟨g',cap',cur,hv0,_,hh,hnc,hcm,hcsz,htake⟩
  ·by_cases hm:s.size=0
   ·have hf:=run_firstCells_string (P:=P) w 1 s
    rw [hm] at hf
    have hn:strCells s=[]:=List.eq_nil_of_length_eq_zero (by rw [strCells_length];exact hm)
    have hrn:(Builtin.append_ #[t,u] ty #[.slice none 0 0,.string s]).run P w=.ok (.slice none 0 0) w:=by
     simp [Builtin.append_,run_underlying ht,run_underlying hu,sizeOf,typeInfo,hi,hsize,Builtin.lenOf,hm,hf]
    rw [hv0,hrn] at hrun
    cases hrun
    simp [blk] at hk
   ·have hrn:=run_append_nil_string (P:=P) w t u ty e i (.int .u8 0) ht hu hi hz s (by omega) (by omega) (by rw [hby];omega)
    exact zt72
  ·by_cases hroom:dl.length+s.size≤cap'
   ·have hcs':cur.size=cap':=by simpa using hcsz
    have hrn:=run_append_room_string (P:=P) w t u ty e i ht hu hi hsize g' dl.length cap' cur hh s hroom (by omega)
    rw [hv0,hrn] at hrun
    cases hrun
    rw [hv0]
    exact .inl hk
   ·have holds:∀ j u,vs[j]?=some u→w.cell? ((⟨g',0,none⟩:Addr).add j)=some u:=hown.cells (g:=g') (by rw [hv0];rfl)
    have hrn:=run_append_grow_string (P:=P) w t u ty e i (.int .u8 0) ht hu hi hz ⟨g',0,none⟩ dl.length cap' vs (by rw [hsize];simpa using hown.1) holds s (by omega) (by omega) (by rw [hby];exact growslice_fits (by omega) (by omega))
    exact zt72
def evAppendS (T:Tab) (H:Heap) (nx:Nat) (t t':TypeId) (d x:AV) (k:Res→Prop):Prop :=
 match lkT T t with
 | some ⟨.slice e,_,_,_⟩=>match lkT T e with
  | some ⟨_,1,1,.int .u8 0⟩=>match lkT T t' with
   | some ⟨.string,_,_,_⟩=>match x with
    | .str s=>match d with
     | .nils=>s.length≤140737488355328∧k ⟨.own nx,[],[(nx,.lst e 1 (strAVs s))],nx+1⟩
     | .own id=>match lkH H id with
      | .lst e' E l=>(e'=e∧E=1)∧l.length+s.length≤140737488355328∧k ⟨.own nx,[id],[(nx,.lst e 1 (l++strAVs s)),(id,.dead)],nx+1⟩
      | .row e' E enc d xs=>(e'=e∧E=1)∧xs.length+s.length≤140737488355328∧∃ ys,ys.map enc=strAVs s∧k ⟨.own nx,[id],[(nx,.row e 1 enc d (xs++ys)),(id,.dead)],nx+1⟩
      | _=>False
     | _=>False
    | _=>False
   | _=>False
  | _=>False
 | _=>False
theorem evAppendS_sound [Tabs] {P:Program} {T:Tab} (hT:TabOk P T) {rd:Operand→AV} {H:Heap} {nx:Nat} {t t':TypeId} {s x:Operand} {o:Oper}
  (ho:o.op=.call { callee:=.builtin .append,args:=#[s,x],argTypes:=#[t,t'] }) {k:Res→Prop}
  (h:evAppendS T H nx t t' (rd s) (rd x) k):∃ r,OpSem P o [(s,true,rd s),(x,true,rd x)] H nx r∧nx≤r.nx∧k r:=by
 unfold evAppendS at h
 split at h
 ·rename_i e sz b z hi
  obtain ⟨hu,_⟩:=hT t _ hi
  simp only at hu
  split at h
  ·rename_i ds hie
   obtain ⟨_,j,hj,hs,hby,hz⟩:=hT e _ hie
   simp only at hs hby hz
   split at h
   ·rename_i sz2 b2 z2 hi2
    obtain ⟨hu2,_⟩:=hT t' _ hi2
    simp only at hu2
    split at h
    ·rename_i l hx
     have strv:∀ {m:Ids} {S:Blocks} {w:World} {v:Value},RelV m S w v (.str l)→∃ q:ByteArray,v=.string q∧q.data.toList=l:=by
      intro m S w v hr
      cases hr with
      | t _ _ hr=>cases hr with | str q _ hq=>exact ⟨q,rfl,hq⟩
     have size_of:∀ {q:ByteArray},q.data.toList=l→q.size=l.length:=by
      intro q hq
      rw [← hq,Array.length_toList]
      rfl
     have run:∀ {S:Blocks} {w:World} {a:Act} {dl:List AV} {vs:List Value} {q:ByteArray},RowRel S w e 1 dl (a.eval s) vs→a.eval x=.string q→(∀ g,S g→g<w.heap.size∧blk (a.eval s)≠some g)→dl.length+q.size≤140737488355328 →
       ∃ v' w' vs',(execOp a.eval o).run P w=.ok (.value v') w'∧RowRel S w' e 1 (dl++strAVs q.data.toList) v' vs'∧w.grownBy w' (blk (a.eval s))∧(∀ k,blk v'=some k→blk (a.eval s)=some k∨w.heap.size≤k):=by
      intro S w a dl vs q hd hxe hS hb
      obtain ⟨v',w',vs',hr,hrow,hg,hbk⟩:=appendS_run (P:=P) (ty:=o.type) hu hu2 hj hz hs hby hd q hS hb
      refine ⟨v',w',vs',?_,hrow,hg,hbk⟩
      unfold execOp
      simp [ho,resolve,invoke,builtin,hxe,hr]
     have moved:∀ (id:Nat) (dst c:Src),lkH H id=dst.obj e 1→rd s=.own id→dst.list.length+l.length≤140737488355328→c.list=dst.list++strAVs l →
       OpSem P o [(s,true,rd s),(x,true,rd x)] H nx ⟨.own nx,[id],[(nx,c.obj e 1),(id,.dead)],nx+1⟩:=by
      intro id dst c hid hp hb hcl m S w a H₂ K Q hG ht hfree hus hK
      have hs':RelV m S w (a.eval s) (rd s):=hus (s,true,rd s) (by simp) rfl
      have hx':RelV m S w (a.eval x) (rd x):=hus (x,true,rd x) (by simp) rfl
      rw [hx] at hx'
      obtain ⟨q,hq1,hq2⟩:=strv hx'
      have ht':=ht id (by simp)
      obtain ⟨v0,vs,hm,hrow⟩:=own_row hG ht' hid
      have hlive:(lkH H₂ id).live=true:=by rw [ht',hid];exact src_obj_live _ _ _
      have hev:a.eval s=v0:=by
       rw [hp] at hs'
       generalize a.eval s=v at hs'
       cases hs' with
       | t _ _ h=>cases h
       | own id n cap a hm'=>rw [hm] at hm';cases hm';rfl
      rw [← hev] at hrow hm
      obtain ⟨v',w',vs',hrun,hrow',hg,hbk⟩:=run (q:=q) hrow hq1 (fun g hg=>⟨(hG.ro g hg).1,fun e=>(hG.ro g hg).2 id _ hlive hm e⟩) (by rw [size_of hq2];exact hb)
      obtain ⟨a',n',c',rfl⟩:=blk_slice_of hrow'
      unfold Oper.wp
      rw [hrun]
      have hn0:m nx=none:=hfree nx (Nat.le_refl _) (Nat.lt_succ_self _)
      refine hK _ _ S w' (ext_move hG hlive hm hn0 (.slice a' n' c') _ w' hg.os hg.tape hg.output hg.size (fun k hk hne=>hg.block k hk (fun e=>hne e.symm)) (fun k hk=>hbk k hk) ?_) (.own nx n' c' a' (by simp))
      exact relB_obj.2 ⟨.slice a' n' c',vs',by simp,by rw [hcl,← hq2];exact hrow'⟩
     split at h
     ·rename_i hp
      obtain ⟨hb,h⟩:=h
      refine ⟨_,?_,Nat.le_succ _,h⟩
      intro m S w a H₂ K Q hG ht hfree hus hK
      have hs':RelV m S w (a.eval s) (rd s):=hus (s,true,rd s) (by simp) rfl
      have hx':RelV m S w (a.eval x) (rd x):=hus (x,true,rd x) (by simp) rfl
      rw [hp] at hs'
      rw [hx] at hx'
      obtain ⟨q,hq1,hq2⟩:=strv hx'
      have hv:a.eval s=.slice none 0 0:=by
       exact zt185
      have hd:RowRel S w e 1 [] (a.eval s) []:=⟨by rw [hv];exact World.ownsRow_nil w 0 e 1,by simp,by simp [flat],by simp⟩
      obtain ⟨v',w',vs',hrun,hrow',hg,hbk⟩:=run (q:=q) hd hq1 (fun g hg=>⟨(hG.ro g hg).1,by rw [hv];simp [blk]⟩) (by rw [size_of hq2];simpa using hb)
      obtain ⟨a',n',c',rfl⟩:=blk_slice_of hrow'
      unfold Oper.wp
      rw [hrun]
      have hn0:m nx=none:=hfree nx (Nat.le_refl _) (Nat.lt_succ_self _)
      rw [hv] at hg hbk
      refine hK _ _ S w' (ext_new hG hn0 (.slice a' n' c') _ w' hg.os hg.tape hg.output hg.size (fun k hk=>hg.block k hk (by simp [blk])) (fun k hk=>by
       rcases hbk k hk with h | h
       ·simp [blk] at h
       ·exact h) ?_) (.own nx n' c' a' (by simp))
      exact ⟨.slice a' n' c',vs',by simp,by rw [← hq2];exact hrow'⟩
     ·rename_i id hp
      split at h
      ·rename_i e' E l0 hid
       obtain ⟨⟨rfl,rfl⟩,hb,h⟩:=h
       exact ⟨_,moved id (.lst l0) (.lst (l0++strAVs l)) hid hp hb rfl,Nat.le_succ _,h⟩
      ·rename_i T' e' E enc d xs hid
       obtain ⟨⟨rfl,rfl⟩,hb,ys,hys,h⟩:=h
       exact ⟨_,moved id (.row enc d xs) (.row enc d (xs++ys)) hid hp (by simp [Src.list];omega) (by simp [Src.list,hys]),Nat.le_succ _,h⟩
      ·exact h.elim
     ·exact h.elim
    ·exact h.elim
   ·exact h.elim
  ·exact h.elim
 ·exact h.elim
def rowLen (H:Heap) (id:Nat) (k:Nat→Prop):Prop :=
 match lkH H id with
 | .lst _ _ l=>k l.length
 | .row _ _ _ _ xs=>k xs.length
 | _=>False
def evSliceData (H:Heap) (nx:Nat) (x:AV) (k:Res→Prop):Prop :=
 match x with
 | .own id=>rowLen H id fun n=>0<n∧k ⟨.eptr id 1 0 0,[id],[],nx⟩
 | _=>False
theorem own_head [Tabs] {m:Ids} {S:Blocks} {w:World} {H H₂:Heap} (hG:Good m S w H₂) {id:Nat} (ht:lkH H₂ id=lkH H id) {e E:Nat} {s:Src} (hid:lkH H id=s.obj e E) (hn:0<s.list.length) :
  ∃ g cap cur vs,m id=some (.slice (some ⟨g,0,none⟩) s.list.length cap)∧w.heap[g]?=some (.cells cur e (0,0))∧s.list.length≤cap∧cap≤maxLen∧cur.size=cap*E∧RowRel S w e E s.list (.slice (some ⟨g,0,none⟩) s.list.length cap) vs:=by
 obtain ⟨v,vs,hm,hrow⟩:=own_row hG ht hid
 rcases hrow.owns.2 with ⟨_,h0⟩ | ⟨g,cap,cur,rfl,_,hh,hnc,hcm,hcs,_⟩
 ·omega
 ·exact ⟨g,cap,cur,vs,hm,hh,hnc,hcm,hcs,hrow⟩
theorem evSliceData_sound [Tabs] {P:Program} {rd:Operand→AV} {H:Heap} {nx:Nat} {t:TypeId} {x:Operand} {o:Oper}
  (ho:o.op=.call { callee:=.builtin .unsafeSliceData,args:=#[x],argTypes:=#[t] }) {k:Res→Prop} (h:evSliceData H nx (rd x) k):∃ r,OpSem P o [(x,true,rd x)] H nx r∧nx≤r.nx∧k r:=by
 unfold evSliceData at h
 split at h
 ·rename_i id hx
  have main:∀ {e E:Nat} (s:Src),lkH H id=s.obj e E→0<s.list.length→OpSem P o [(x,true,rd x)] H nx ⟨.eptr id 1 0 0,[id],[],nx⟩:=by
   intro e E s hid hn m S w a H₂ K Q hG ht hfree hus hK
   have hx':RelV m S w (a.eval x) (rd x):=hus (x,true,rd x) (by simp) rfl
   rw [hx] at hx'
   obtain ⟨g,cap,cur,vs,hm,hh,hnc,hcm,hcs,hrow⟩:=own_head hG (ht id (by simp)) hid hn
   have hev:a.eval x=.slice (some ⟨g,0,none⟩) s.list.length cap:=by
    generalize a.eval x=v at hx'
    cases hx' with
    | t _ _ h=>cases h
    | own _ n c ad hm'=>rw [hm] at hm';cases hm';rfl
   have hr:=run_unsafeSliceData_row (P:=P) w #[t] o.type ⟨g,0,none⟩ s.list.length cap (by omega)
   unfold Oper.wp execOp
   simp only [ho,resolve,invoke,builtin,Sem.run_bind,Sem.run_pure,Result.andThen_ok,List.map_toArray,List.map_cons,List.map_nil,hev,hr]
   exact hK _ m S w (Ext.refl hG nx) (.eptr id 1 0 0 g _ cap hm)
  unfold rowLen at h
  split at h
  ·rename_i e E l hid
   exact ⟨_,main (.lst l) hid h.1,Nat.le_refl _,h.2⟩
  ·rename_i T e E enc d xs hid
   exact ⟨_,main (.row enc d xs) hid (by simpa [Src.list] using h.1),Nat.le_refl _,h.2⟩
  ·exact h.elim
 ·exact h.elim
def evUStr (T:Tab) (H:Heap) (nx:Nat) (pt:TypeId) (p z:AV) (k:Res→Prop):Prop :=
 match lkT T pt with
 | some ⟨.pointer e,_,_,_⟩=>match lkT T e with
  | some ⟨_,1,_,_⟩=>match p with
   | .eptr id 1 0 0=>match z with
    | .int .i64 n=>match lkH H id with
     | .lst e' E l=>(e'=e∧E=1)∧0<l.length∧n=l.length∧∃ s,l=strAVs s∧k ⟨.str s,[id],[(id,.dead)],nx⟩
     | .row e' E enc _ xs=>(e'=e∧E=1)∧0<xs.length∧n=xs.length∧∃ s,xs.map enc=strAVs s∧k ⟨.str s,[id],[(id,.dead)],nx⟩
     | _=>False
    | _=>False
   | _=>False
  | _=>False
 | _=>False
theorem evUStr_sound [Tabs] {P:Program} {T:Tab} (hT:TabOk P T) {rd:Operand→AV} {H:Heap} {nx:Nat} {pt it:TypeId} {x y:Operand} {o:Oper}
  (ho:o.op=.call { callee:=.builtin .unsafeString,args:=#[x,y],argTypes:=#[pt,it] }) {k:Res→Prop} (h:evUStr T H nx pt (rd x) (rd y) k):∃ r,OpSem P o [(x,true,rd x),(y,true,rd y)] H nx r∧nx≤r.nx∧k r:=by
 unfold evUStr at h
 split at h
 ·rename_i e s0 b0 z0 hi
  obtain ⟨hu,_⟩:=hT pt _ hi
  simp only at hu
  split at h
  ·rename_i ds b1 z1 hie
   obtain ⟨_,j,hj,hs,_,_⟩:=hT e _ hie
   simp only at hs
   have hcell:P.cellsOf e=1:=by unfold Program.cellsOf;rw [hj];simp [hs]
   split at h
   ·rename_i id hx
    split at h
    ·rename_i n hy
     have main:∀ (q:Src) (s:List UInt8),lkH H id=q.obj e 1→q.list=strAVs s→0<q.list.length→n=q.list.length→OpSem P o [(x,true,rd x),(y,true,rd y)] H nx ⟨.str s,[id],[(id,.dead)],nx⟩:=by
      intro q s hid hqs hn hnl m S w a H₂ K Q hG ht hfree hus hK
      have hx':RelV m S w (a.eval x) (rd x):=hus (x,true,rd x) (by simp) rfl
      have hy':RelV m S w (a.eval y) (rd y):=hus (y,true,rd y) (by simp) rfl
      rw [hx] at hx'
      rw [hy] at hy'
      have ht':=ht id (by simp)
      obtain ⟨g,cap,cur,vs,hm,hh,hnc,hcm,hcs,hrow⟩:=own_head hG ht' hid hn
      have hlive:(lkH H₂ id).live=true:=by rw [ht',hid];exact src_obj_live _ _ _
      have hev:a.eval x=.pointer (some ⟨g,0,none⟩):=by
       generalize a.eval x=v at hx'
       cases hx' with
       | t _ _ h=>cases h
       | eptr _ _ _ _ g' n' c' hm'=>rw [hm] at hm';cases hm';rfl
      have hey:a.eval y=.int .i64 n:=by
       generalize a.eval y=v at hy'
       cases hy' with
       | t _ _ h=>cases h;rfl
      have hsl:s.length=q.list.length:=by rw [hqs,strAVs_len]
      have hr:=run_unsafeString_row (P:=P) w pt it o.type e hu hcell g cur.size (by simp [World.shape?,hh]) s (by intro e;rw [e] at hsl;simp at hsl;omega) (by omega) (by unfold maxLen at hcm;omega) (fun i b hb=>by
       have hvl:vs.length=q.list.length:=by simpa using hrow.owns.1
       have hil:i<s.length:=(List.getElem?_eq_some_iff.1 hb).1
       have h1:vs[i]?=some vs[i]:=List.getElem?_eq_getElem (by omega)
       have h2:(flat q.list)[i]?=some (.int .u8 b.toNat):=by
        rw [hqs,flat_strAVs]
        unfold strAVs
        rw [List.getElem?_map,hb]
        rfl
       have h3:=hrow.rel i _ _ h1 h2
       have h4:=hrow.owns.cells (g:=g) rfl i _ h1
       rw [h4]
       generalize vs[i]=u at h3
       cases h3
       rfl)
      unfold Oper.wp execOp
      have hsn:(s.length:Int)=n:=by rw [hnl,hsl]
      rw [hsn] at hr
      simp only [ho,resolve,invoke,builtin,Sem.run_bind,Sem.run_pure,Result.andThen_ok,List.map_toArray,List.map_cons,List.map_nil,hev,hey,hr]
      refine hK _ m S _ (ext_upd (k0:=g) hG hlive hm rfl .dead _ ?_ ?_ ?_ ?_ ?_ trivial) (.t _ _ (.str _ _ (by simp)))
      ·unfold World.freeze;split<;>rfl
      ·unfold World.freeze;split<;>rfl
      ·unfold World.freeze;split<;>rfl
      ·unfold World.freeze;split<;>simp
      ·intro i _ hne
       unfold World.freeze
       split
       ·rfl
       ·simp only [Array.getElem?_modify]
        rw [if_neg (fun e=>hne e.symm)]
     split at h
     ·rename_i e' E l hid
      obtain ⟨⟨rfl,rfl⟩,hn,hnl,s,hs',h⟩:=h
      exact ⟨_,main (.lst l) s hid hs' hn hnl,Nat.le_refl _,h⟩
     ·rename_i T' e' E enc d xs hid
      obtain ⟨⟨rfl,rfl⟩,hn,hnl,s,hs',h⟩:=h
      exact ⟨_,main (.row enc d xs) s hid hs' (by simpa [Src.list] using hn) (by simpa [Src.list] using hnl),Nat.le_refl _,h⟩
     ·exact h.elim
    ·exact h.elim
   ·exact h.elim
  ·exact h.elim
 ·exact h.elim
def bndI:Option AV→Int→(Int→Prop)→Prop
 | none,d,k=>k d
 | some (.int _ n),_,k=>k n
 | some _,_,_=>False
def cut {α:Type _} (lo hi:Option AV) (s:List α) (l h:Int):List α :=
 match lo,hi with
 | none,none=>s
 | none,some _=>s.take h.toNat
 | some _,none=>s.drop l.toNat
 | some _,some _=>(s.take h.toNat).drop l.toNat
theorem bndI_sound {x:Option AV} {d:Int} {k:Int→Prop} (h:bndI x d k):∃ n,k n∧(x=none→n=d)∧∀ a,x=some a→∃ kk,a=.int kk n:=by
 unfold bndI at h
 split at h
 ·exact ⟨_,h,fun _=>rfl,fun a ha=>by cases ha⟩
 ·exact ⟨_,h,fun h=>by (cases h),fun a ha=>by cases ha;exact ⟨_,rfl⟩⟩
 ·exact h.elim
theorem run_sliceBounds {P:Program} {w:World} (isSlice:Bool) (len cap:Nat) (lo hi:Option Value) (l h:Int) (hlo:(lo=none∧l=0)∨∃ k,lo=some (.int k l)) (hhi:(hi=none∧h=len)∨∃ k,hi=some (.int k h))
  (h0:0≤l) (h1:l≤h) (h2:h≤len) (h3:len≤cap):(Instr.sliceBounds isSlice len cap lo hi none).run P w=.ok (l.toNat,h.toNat,cap) w:=by
 have hc:(h.toNat:Int)=h:=by omega
 rcases hlo with ⟨rfl,rfl⟩ | ⟨k1,rfl⟩<;>rcases hhi with ⟨rfl,rfl⟩ | ⟨k2,rfl⟩
 ·simp [Instr.sliceBounds]
 ·simp [Instr.sliceBounds,Instr.sliceBound,asIntOf,show 0≤h by omega,show h≤(cap:Int) by omega]
 ·simp [Instr.sliceBounds,Instr.sliceBound,asIntOf,h0,h1]
 ·simp [Instr.sliceBounds,Instr.sliceBound,asIntOf,h0,h1,hc,show 0≤h by omega,show h≤(cap:Int) by omega]
theorem cut_eq {α:Type _} {lo hi:Option AV} {s:List α} {l h:Int} (hl:lo=none→l=0) (hh:hi=none→h=s.length):cut lo hi s l h=(s.take h.toNat).drop l.toNat:=by
 unfold cut
 split
 ·rw [hl rfl,hh rfl];simp
 ·rw [hl rfl];simp
 ·rw [hh rfl];simp
 ·rfl
def evSlice (T:Tab) (g:Option Bool) (H:Heap) (nx:Nat) (t:TypeId) (x:AV) (lo hi:Option AV) (k:Res→Prop):Prop :=
 match lkT T t with
 | some ⟨.string,_,_,_⟩=>match x with
  | .str s=>bndI lo 0 fun l=>bndI hi s.length fun h=>ob g (0≤l∧l≤h∧h≤s.length) (k ⟨.str (cut lo hi s l h),[],[],nx⟩)
  | _=>False
 | some ⟨.slice e,_,_,_⟩=>match lkT T e with
  | none=>False
  | some ie=>match x with
   | .lsl E s=>bndI lo 0 fun l=>bndI hi s.length fun h=>ob g (0≤l∧l≤h∧h≤s.length) (E=ie.size∧k ⟨.lsl E (cut lo hi s l h),[],[],nx⟩)
   | .sl E enc d s=>bndI lo 0 fun l=>bndI hi s.length fun h=>ob g (0≤l∧l≤h∧h≤s.length) (E=ie.size∧k ⟨.sl E enc d (cut lo hi s l h),[],[],nx⟩)
   | .own id=>slN H (.own id) fun n _=>bndI lo 0 fun l=>bndI hi n fun h=>ob g (0≤l∧l≤h∧h≤n) (match lo,hi with
    | none,none=>k ⟨.own id,[id],[],nx⟩
    | none,some _=>k ⟨.pre id h.toNat,[id],[],nx⟩
    | some _,_=>k ⟨.part id ie.size l.toNat (h.toNat-l.toNat),[id],[],nx⟩)
   | _=>False
 | _=>False
def optUses (rd:Operand→AV) (x:Operand) (lo hi:Option Operand):Uses :=
 (x,true,rd x)::(lo.toList++hi.toList).map fun y=>(y,true,rd y)
theorem opt_val {m:Ids} {S:Blocks} {w:World} {a:Act} {rd:Operand→AV} {lo:Option Operand} {l d:Int} (hl:lo.map rd=none→l=d) (hl2:∀ a,lo.map rd=some a→∃ kk,a=.int kk l)
  (hr:∀ y∈lo.toList,RelV m S w (a.eval y) (rd y)):(lo.map a.eval=none∧l=d)∨∃ k,lo.map a.eval=some (.int k l):=by
 cases lo with
 | none=>exact .inl ⟨rfl,hl rfl⟩
 | some y =>
  obtain ⟨kk,hk⟩:=hl2 (rd y) rfl
  have:=hr y (by simp)
  rw [hk] at this
  exact .inr ⟨kk,by simp [relV_int this]⟩
theorem zp55 {p:Prop} (h:p:=by simpa using b2):p:=h
theorem zt44 {p:Prop}(h:p:=by
 have hbnd:=run_sliceBounds (P:=P) (w:=w) true 0 0 (lo.map a.eval) (hi.map a.eval) l hh hlo hhi b0 b1 zp55 (Nat.le_refl _)
 have e1:l.toNat=0:=by omega
 have e2:hh.toNat=0:=by omega
 unfold execOp
 simp [ho,hx,Instr.sliceAt,run_underlying hu,Instr.slice,hbnd,sizeOf,typeInfo,hj,hs,e1,e2]):p:=h
theorem zt119 {p:Prop}(h:p:=by
 rcases hrow.owns.2 with ⟨h,_⟩ | ⟨g,cap,cur,h,_,_,hnc,_⟩<;>rw [h] at e<;>cases e
 ·exact Nat.le_refl _
 ·exact hnc):p:=h
theorem evSlice_sound [Tabs] {P:Program} {T:Tab} (hT:TabOk P T) {g:Option Bool} {rd:Operand→AV} {H:Heap} {nx:Nat} {t:TypeId} {x:Operand} {lo hi:Option Operand} {o:Oper} (ho:o.op=.slice t x lo hi none) {k:Res→Prop}
  (h:evSlice T g H nx t (rd x) (lo.map rd) (hi.map rd) k):∃ r,(gOk g→OpSemP P o (optUses rd x lo hi) H nx r)∧(r.wr=[]∧r.nx=nx)∧k r:=by
 have uses:∀ {m:Ids} {S:Blocks} {w:World} {a:Act},(∀ u∈optUses rd x lo hi,u.2.1=true→RelV m S w (a.eval u.1) u.2.2) →
   RelV m S w (a.eval x) (rd x)∧(∀ y∈lo.toList,RelV m S w (a.eval y) (rd y))∧(∀ y∈hi.toList,RelV m S w (a.eval y) (rd y)):=by
  intro m S w a hus
  refine ⟨hus (x,true,rd x) (by simp [optUses]) rfl,fun y hy=>hus (y,true,rd y) ?_ rfl,fun y hy=>hus (y,true,rd y) ?_ rfl⟩
  ·exact List.mem_cons.2 (.inr (List.mem_map.2 ⟨y,by simp at hy ⊢;exact .inl hy,rfl⟩))
  ·exact List.mem_cons.2 (.inr (List.mem_map.2 ⟨y,by simp at hy ⊢;exact .inr hy,rfl⟩))
 unfold evSlice at h
 split at h
 ·rename_i hi'
  obtain ⟨hu,_⟩:=hT t _ hi'
  simp only at hu
  split at h
  ·rename_i s hp
   obtain ⟨l,h,hl1,hl2⟩:=bndI_sound h
   obtain ⟨hh,h,hh1,hh2⟩:=bndI_sound h
   obtain ⟨hb,hk⟩:=ob_iff.1 h
   refine ⟨_,fun hg=>opsem_pure fun m S w a H₂ hG ht hus=>?_,⟨rfl,rfl⟩,hk⟩
   obtain ⟨hx,hlo,hhi⟩:=uses hus
   obtain ⟨b0,b1,b2⟩:=hb hg
   rw [hp] at hx
   generalize hv:a.eval x=v at hx
   cases hx with
   | t _ _ h=>cases h with
    | str s' _ hs =>
     have hsz:s'.size=s.length:=by rw [← hs];simp
     have hbnd:=fun w'=>run_sliceBounds (P:=P) (w:=w') false s'.size s'.size (lo.map a.eval) (hi.map a.eval) l hh (opt_val hl1 hl2 hlo) (opt_val (by rw [hsz];exact hh1) hh2 hhi) b0 b1 (by rw [hsz];exact b2) (Nat.le_refl _)
     refine ⟨.string (s'.extract l.toNat hh.toNat),?_,.t _ _ (.str _ _ ?_)⟩
     ·intro w' _
      unfold execOp
      simp [ho,hv,Instr.sliceAt,run_underlying hu,Instr.slice,hbnd]
     ·rw [cut_eq hl1 hh1,← hs]
      rw [ByteArray.data_extract]
      simp [List.extract_eq_take_drop,List.take_drop]
      rw [show l.toNat+(hh.toNat-l.toNat)=hh.toNat by omega]
  ·exact h.elim
 ·rename_i e sz b z hi'
  obtain ⟨hu,_⟩:=hT t _ hi'
  simp only at hu
  split at h
  ·exact h.elim
  ·rename_i ie hie
   obtain ⟨_,j,hj,hs,_⟩:=hT e _ hie
   have run:∀ (w:World) (a:Act) (g' o' n cap:Nat) (l hh:Int),a.eval x=.slice (some ⟨g',o',none⟩) n cap→((lo.map a.eval=none∧l=0)∨∃ k,lo.map a.eval=some (.int k l))→((hi.map a.eval=none∧hh=n)∨∃ k,hi.map a.eval=some (.int k hh)) →
     0≤l→l≤hh→hh≤n→n≤cap→(execOp a.eval o).run P w=.ok (.value (.slice (some (if cap=l.toNat then ⟨g',o',none⟩ else ⟨g',o'+l.toNat*ie.size,none⟩)) (hh.toNat-l.toNat) (cap-l.toNat))) w:=by
    intro w a g' o' n cap l hh hx hlo hhi b0 b1 b2 b3
    have hbnd:=run_sliceBounds (P:=P) (w:=w) true n cap (lo.map a.eval) (hi.map a.eval) l hh hlo hhi b0 b1 b2 b3
    unfold execOp
    simp [ho,hx,Instr.sliceAt,run_underlying hu,Instr.slice,hbnd,sizeOf,typeInfo,hj,hs,Addr.add_mid]
    split<;>rfl
   have runN:∀ (w:World) (a:Act) (l hh:Int),a.eval x=.slice none 0 0→((lo.map a.eval=none∧l=0)∨∃ k,lo.map a.eval=some (.int k l))→((hi.map a.eval=none∧hh=(0:Nat))∨∃ k,hi.map a.eval=some (.int k hh)) →
     0≤l→l≤hh→hh≤0→(execOp a.eval o).run P w=.ok (.value (.slice none 0 0)) w:=by
    intro w a l hh hx hlo hhi b0 b1 b2
    exact zt44
   have runZ:∀ (w:World) (a:Act) (ad:Addr) (l hh:Int),a.eval x=.slice (some ad) 0 0→((lo.map a.eval=none∧l=0)∨∃ k,lo.map a.eval=some (.int k l))→((hi.map a.eval=none∧hh=(0:Nat))∨∃ k,hi.map a.eval=some (.int k hh)) →
     0≤l→l≤hh→hh≤0→(execOp a.eval o).run P w=.ok (.value (.slice (some ad) 0 0)) w:=by
    intro w a ad l hh hx hlo hhi b0 b1 b2
    exact zt44
   have lslcase:∀ (s:List AV) {m:Ids} {S:Blocks} {w:World} {a:Act} (l hh:Int),RelT S w (a.eval x) (.lsl ie.size s)→((lo.map a.eval=none∧l=0)∨∃ k,lo.map a.eval=some (.int k l))→((hi.map a.eval=none∧hh=s.length)∨∃ k,hi.map a.eval=some (.int k hh)) →
     0≤l→l≤hh→hh≤s.length→∃ u,(∀ w',Grows w w'→(execOp a.eval o).run P w'=.ok (.value u) w')∧RelT S w u (.lsl ie.size ((s.take hh.toNat).drop l.toNat)):=by
    intro s m S w a l hh hx hlo hhi b0 b1 b2
    rcases relT_lsl hx with ⟨hv,hnil⟩ | ⟨g',o',cap,cs,hv,hS,hcap,hE,h1,hl,hc,hr⟩
    ·subst hnil
     rcases hv with hv | ⟨ad,hv⟩
     ·exact ⟨_,fun w' _=>runN w' a l hh hv hlo (by simpa using hhi) b0 b1 zp55,by simp;exact .lslnil _⟩
     ·exact ⟨_,fun w' _=>runZ w' a ad l hh hv hlo (by simpa using hhi) b0 b1 zp55,by simp;exact .lslz _ _⟩
    ·refine ⟨_,fun w' _=>run w' a g' o' _ cap l hh hv hlo hhi b0 b1 b2 hcap,?_⟩
     have hsub:=lsl_sub hS hcap hE h1 hl hc hr (lo:=l.toNat) (hi:=hh.toNat) (by omega) (by omega)
     by_cases hcl:cap=l.toNat
     ·have e1:hh.toNat=l.toNat:=by omega
      have e2:(s.take hh.toNat).drop l.toNat=[]:=by rw [e1];simp
      rw [e2]
      have:=RelT.lsl (S:=S) (w:=w) ie.size [] g' o' (cap-l.toNat) [] hS (by simp) (by simp) (by simp [flat]) (by simp) (by simp) (by simp)
      simpa [hcl,e1] using this
     ·simpa [hcl] using hsub
   split at h
   ·rename_i E s hp
    obtain ⟨l,h,hl1,hl2⟩:=bndI_sound h
    obtain ⟨hh,h,hh1,hh2⟩:=bndI_sound h
    obtain ⟨hb,hE,hk⟩:=ob_iff.1 h
    subst hE
    refine ⟨_,fun hg=>opsem_pure fun m S w a H₂ hG ht hus=>?_,⟨rfl,rfl⟩,hk⟩
    obtain ⟨hx,hlo,hhi⟩:=uses hus
    obtain ⟨b0,b1,b2⟩:=hb hg
    rw [hp] at hx
    obtain ⟨u,hr,hu'⟩:=lslcase s (m:=m) l hh (relV_lsl hx) (opt_val hl1 hl2 hlo) (opt_val hh1 hh2 hhi) b0 b1 b2
    exact ⟨u,hr,.t _ _ (by rw [cut_eq hl1 hh1];exact hu')⟩
   ·rename_i T' E enc d s hp
    obtain ⟨l,h,hl1,hl2⟩:=bndI_sound h
    obtain ⟨hh,h,hh1,hh2⟩:=bndI_sound h
    obtain ⟨hb,hE,hk⟩:=ob_iff.1 h
    subst hE
    refine ⟨_,fun hg=>opsem_pure fun m S w a H₂ hG ht hus=>?_,⟨rfl,rfl⟩,hk⟩
    obtain ⟨hx,hlo,hhi⟩:=uses hus
    obtain ⟨b0,b1,b2⟩:=hb hg
    rw [hp] at hx
    obtain ⟨u,hr,hu'⟩:=lslcase (s.map enc) (m:=m) l hh (relV_sl hx) (opt_val hl1 hl2 hlo) (by simpa using opt_val hh1 hh2 hhi) b0 b1 zp55
    exact ⟨u,hr,.t _ _ (.sl _ _ _ _ _ (by rw [cut_eq hl1 hh1,List.map_drop,List.map_take];exact hu'))⟩
   ·rename_i id hp
    unfold slN at h
    simp only at h
    have main:∀ (n:Nat),isRow (lkH H id)=true→(∀ (m:Ids) (S:Blocks) (w:World) (H₂:Heap) (v:Value),Good m S w H₂→lkH H₂ id=lkH H id→RelV m S w v (.own id)→SliceN v n∧∀ a n' c,v=.slice a n' c→n'≤c) →
      (bndI (lo.map rd) 0 fun l=>bndI (hi.map rd) n fun h=>ob g (0≤l∧l≤h∧h≤n) (match lo.map rd,hi.map rd with
       | none,none=>k ⟨.own id,[id],[],nx⟩
       | none,some _=>k ⟨.pre id h.toNat,[id],[],nx⟩
       | some _,_=>k ⟨.part id ie.size l.toNat (h.toNat-l.toNat),[id],[],nx⟩)) →
      ∃ r,(gOk g→OpSemP P o (optUses rd x lo hi) H nx r)∧(r.wr=[]∧r.nx=nx)∧k r:=by
     intro n hrow hlen h
     obtain ⟨l,h,hl1,hl2⟩:=bndI_sound h
     obtain ⟨hh,h,hh1,hh2⟩:=bndI_sound h
     obtain ⟨hb,hk⟩:=ob_iff.1 h
     have key:∀ (v:AV),(∀ (m:Ids) (S:Blocks) (w:World) (a:Option Addr) (n' cap:Nat),0≤l→l≤hh→hh≤n→m id=some (.slice a n' cap)→n'=n→n'≤cap→((a=none∧n'=0∧cap=0)∨∃ g,a=some ⟨g,0,none⟩) →
       RelV m S w (.slice (if cap=l.toNat then a else a.map fun a=>⟨a.block,0+l.toNat*ie.size,none⟩) (hh.toNat-l.toNat) (cap-l.toNat)) v)→k ⟨v,[id],[],nx⟩→∃ r,(gOk g→OpSemP P o (optUses rd x lo hi) H nx r)∧(r.wr=[]∧r.nx=nx)∧k r:=by
      intro v hrel hk
      refine ⟨_,fun hg=>opsem_pure fun m S w a H₂ hG ht hus=>?_,⟨rfl,rfl⟩,hk⟩
      obtain ⟨hx,hlo,hhi⟩:=uses hus
      obtain ⟨b0,b1,b2⟩:=hb hg
      rw [hp] at hx
      obtain ⟨hsn,hcap⟩:=hlen m S w H₂ _ hG (ht id (by simp)) hx
      generalize hv:a.eval x=v0 at hx hsn hcap
      cases hx with
      | t _ _ h=>cases h
      | own id n' cap a' hm =>
       cases hsn
       have hc:=hcap _ _ _ rfl
       have hra:=row_addr hG (by rw [ht id (by simp)];exact hrow) hm
       refine ⟨_,?_,hrel m S w a' n cap b0 b1 b2 hm rfl hc hra⟩
       intro w' _
       rcases hra with ⟨rfl,hn0,hcap0⟩ | ⟨g',rfl⟩
       ·subst hn0
        subst hcap0
        have e1:l.toNat=0:=by omega
        have e2:hh.toNat=0:=by omega
        have:=runN w' a l hh hv (opt_val hl1 hl2 hlo) (opt_val hh1 hh2 hhi) b0 b1 zp55
        simpa [e1,e2] using this
       ·have:=run w' a g' 0 n cap l hh hv (opt_val hl1 hl2 hlo) (opt_val hh1 hh2 hhi) b0 b1 b2 hc
        rw [this]
        split<;>rfl
     split at hk
     ·rename_i e1 e2
      refine key _ (fun m S w a n' cap b0 b1 b2 hm hn hc hra=>?_) hk
      have h0:l=0:=hl1 e1
      have h1:hh=n:=hh1 e2
      subst h0
      have e3:hh.toNat=n':=by omega
      have:(if cap=(0:Int).toNat then a else a.map fun a=>(⟨a.block,0+(0:Int).toNat*ie.size,none⟩:Addr))=a:=by
       split
       ·rfl
       ·rcases hra with ⟨rfl,_⟩ | ⟨g',rfl⟩<;>simp
      rw [this,e3]
      exact .own id _ _ _ hm
     ·rename_i e1 e2
      refine key _ (fun m S w a n' cap b0 b1 b2 hm hn hc hra=>?_) hk
      have h0:l=0:=hl1 e1
      subst h0
      have:(if cap=(0:Int).toNat then a else a.map fun a=>(⟨a.block,0+(0:Int).toNat*ie.size,none⟩:Addr))=a:=by
       split
       ·rfl
       ·rcases hra with ⟨rfl,_⟩ | ⟨g',rfl⟩<;>simp
      rw [this]
      exact .pre id _ n' cap a hm (by omega)
     ·refine key _ (fun m S w a n' cap b0 b1 b2 hm hn hc hra=>?_) hk
      rcases hra with ⟨rfl,hn0,hcap0⟩ | ⟨g',rfl⟩
      ·have e1:l.toNat=0:=by omega
       have e2:hh.toNat=0:=by omega
       rw [e1,e2,hcap0]
       exact .partN id ie.size 0
      ·by_cases hcl:cap=l.toNat
       ·have e1:hh.toNat-l.toNat=0:=by omega
        rw [if_pos hcl,e1]
        exact .partE id ie.size _ _ g' _ _ hm
       ·rw [if_neg hcl]
        have:=RelV.part (m:=m) (S:=S) (w:=w) id ie.size l.toNat (hh.toNat-l.toNat) g' n' cap (cap-l.toNat) hm (by omega) (by omega)
        simpa using this
    split at h
    ·rename_i e' E' s hid
     refine main s.length (by rw [hid];rfl) (fun m S w H₂ v hG ht hr=>?_) h
     obtain ⟨v',vs,hmi,hrow⟩:=own_row (s:=.lst s) hG ht hid
     cases hr with
     | t _ _ h=>cases h
     | own id n cap a hm =>
      rw [hmi] at hm
      cases hm
      refine ⟨hrow.n,fun a n' c e=>?_⟩
      exact zt119
    ·rename_i T' e' E' enc d xs hid
     refine main xs.length (by rw [hid];rfl) (fun m S w H₂ v hG ht hr=>?_) h
     obtain ⟨v',vs,hmi,hrow⟩:=own_row (s:=.row enc d xs) hG ht hid
     cases hr with
     | t _ _ h=>cases h
     | own id n cap a hm =>
      rw [hmi] at hm
      cases hm
      refine ⟨by simpa [Src.list] using hrow.n,fun a n' c e=>?_⟩
      exact zt119
    ·exact h.elim
   ·exact h.elim
 ·exact h.elim
theorem wrap64_in' {n:Int} (h:-9223372036854775808≤n∧n≤9223372036854775807):IntKind.i64.wrap n=n:=IntWalk.i64_in n h
def fits (g:Option Bool) (k:IntKind) (r:Int) (c:AV→Prop):Prop :=
 match k with
 | .i64=>ob g (-9223372036854775808≤r∧r≤9223372036854775807) (c (.int .i64 r))
 | k=>c (.int k (k.wrap r))
theorem fits_sound {g:Option Bool} {k:IntKind} {r:Int} {c:AV→Prop} (h:fits g k r c):∃ n,(gOk g→k.wrap r=n)∧c (.int k n):=by
 unfold fits at h
 split at h
 ·obtain ⟨h1,h2⟩:=ob_iff.1 h
  exact ⟨_,fun hg=>wrap64_in' (h1 hg),h2⟩
 ·exact ⟨_,fun _=>rfl,h⟩
def evInt (g:Option Bool) (op:BinOp) (k:IntKind) (a b:Int) (c:AV→Prop):Prop :=
 match op with
 | .add=>fits g k (a+b) c
 | .sub=>fits g k (a-b) c
 | .mul=>fits g k (a*b) c
 | .quo=>ob g (b≠0) (fits g k (a.tdiv b) c)
 | .rem=>ob g (b≠0) (c (.int k (a.tmod b)))
 | .and=>c (.int k (k.wrap (BitVec.ofInt k.bits a &&& BitVec.ofInt k.bits b).toNat))
 | .or=>c (.int k (k.wrap (BitVec.ofInt k.bits a ||| BitVec.ofInt k.bits b).toNat))
 | .xor=>c (.int k (k.wrap (BitVec.ofInt k.bits a ^^^ BitVec.ofInt k.bits b).toNat))
 | .andNot=>c (.int k (k.wrap (BitVec.ofInt k.bits a &&& ~~~ BitVec.ofInt k.bits b).toNat))
 | .eql=>c (.bool (decide (a=b)))
 | .neq=>c (.bool (!decide (a=b)))
 | .lss=>c (.bool (decide (a<b)))
 | .leq=>c (.bool (decide (a≤b)))
 | .gtr=>c (.bool (decide (b<a)))
 | .geq=>c (.bool (decide (b≤a)))
 | _=>False
theorem zt63 {p:Prop}(h:p:=by
 obtain ⟨n,hn,hc⟩:=fits_sound h
 exact ⟨_,fun hg t=>⟨_,by intro w;simp only [binOp,Op.intArith];simp [hn hg],ri n⟩,hc⟩):p:=h
theorem zt77 {p:Prop}(h:p:=by
 exact ⟨_,fun hg t=>⟨_,by intro w;simp only [binOp,Op.intCmp];simp,rb _⟩,h⟩):p:=h
theorem zt74 {p:Prop}(h:p:=by
 exact ⟨_,fun hg t=>⟨_,by intro w;simp only [binOp,Op.intBits];simp,ri _⟩,h⟩):p:=h
theorem evInt_sound {P:Program} {g:Option Bool} {op:BinOp} {k:IntKind} {a b:Int} {c:AV→Prop} (hop:op≠.shl∧op≠.shr) (h:evInt g op k a b c) :
  ∃ v,(gOk g→∀ (t:TypeId),∃ u,(∀ w,(binOp op t (.int k a) (.int k b)).run P w=.ok u w)∧∀ m S w,RelV m S w u v)∧c v:=by
 have ri:∀ (n:Int) (m:Ids) (S:Blocks) (w:World),RelV m S w (.int k n) (.int k n):=fun n m S w=>.t _ _ (.int k n)
 have rb:∀ (n:Bool) (m:Ids) (S:Blocks) (w:World),RelV m S w (.bool n) (.bool n):=fun n m S w=>.t _ _ (.bool n)
 unfold evInt at h
 split at h
 ·exact zt63
 ·exact zt63
 ·exact zt63
 ·obtain ⟨h0,h⟩:=ob_iff.1 h
  obtain ⟨n,hn,hc⟩:=fits_sound h
  exact ⟨_,fun hg t=>⟨_,by intro w;simp only [binOp,Op.intDiv];simp [hn hg,h0 hg],ri n⟩,hc⟩
 ·obtain ⟨h0,hc⟩:=ob_iff.1 h
  exact ⟨_,fun hg t=>⟨_,by intro w;simp only [binOp,Op.intDiv];simp [h0 hg],ri _⟩,hc⟩
 ·exact zt74
 ·exact zt74
 ·exact zt74
 ·exact zt74
 ·exact ⟨_,fun hg t=>⟨.bool (decide (a=b)),by intro w;simp only [binOp,Op.intCmp];simp;rfl,rb _⟩,h⟩
 ·exact ⟨_,fun hg t=>⟨.bool (!decide (a=b)),by intro w;simp only [binOp,Op.intCmp];simp [bne];rfl,rb _⟩,h⟩
 ·exact zt77
 ·exact zt77
 ·exact zt77
 ·exact zt77
 ·exact h.elim
def evShift (g:Option Bool) (op:BinOp) (k:IntKind) (a b:Int) (c:AV→Prop):Prop :=
 match op with
 | .shl=>ob g (0≤b) (c (.int k (k.wrap (a*2 ^ (min b.toNat k.bits)))))
 | .shr=>ob g (0≤b) (c (.int k (a.fdiv (2 ^ (min b.toNat k.bits)))))
 | _=>False
def evStr (g:Option Bool) (op:BinOp) (a b:List UInt8) (c:AV→Prop):Prop :=
 match op with
 | .add=>ob g (((a.length+b.length:Nat):Int)≤9223372036854775807) (c (.str (a++b)))
 | .eql=>c (.bool (decide (a=b)))
 | .neq=>c (.bool (!decide (a=b)))
 | .lss=>c (.bool (Op.bytesLess a b))
 | .leq=>c (.bool (Op.bytesLess a b||decide (a=b)))
 | .gtr=>c (.bool (!(Op.bytesLess a b||decide (a=b))))
 | .geq=>c (.bool (!Op.bytesLess a b))
 | _=>False
def isShift:BinOp→Bool
 | .shl | .shr=>true
 | _=>false
def evBin (T:Tab) (g:Option Bool) (op:BinOp) (t:TypeId) (x y:AV) (c:AV→Prop):Prop :=
 match x,y with
 | .int kx a,.int ky b=>match isShift op with
  | true=>evShift g op kx a b c
  | false=>match Nat.beq (kidx kx) (kidx ky) with
   | true=>evInt g op kx a b c
   | false=>False
 | .str a,.str b=>evStr g op a b c
 | .bool a,.bool b=>match lkT T t with
  | some ⟨.bool,_,_,_⟩=>match op with
   | .eql=>c (.bool (a == b))
   | .neq=>c (.bool (!(a == b)))
   | _=>False
  | _=>False
 | _,_=>False
theorem zt114 {p:Prop}(h:p:=by
 obtain ⟨h0,hc⟩:=ob_iff.1 h
 exact ⟨_,fun hg t=>⟨_,by intro w;simp only [binOp,Op.shift];rw [if_neg (by have:=h0 hg;omega)];rfl,ri _⟩,hc⟩):p:=h
theorem evShift_sound {P:Program} {g:Option Bool} {op:BinOp} {k ky:IntKind} {a b:Int} {c:AV→Prop} (h:evShift g op k a b c) :
  ∃ v,(gOk g→∀ (t:TypeId),∃ u,(∀ w,(binOp op t (.int k a) (.int ky b)).run P w=.ok u w)∧∀ m S w,RelV m S w u v)∧c v:=by
 have ri:∀ (n:Int) (m:Ids) (S:Blocks) (w:World),RelV m S w (.int k n) (.int k n):=fun n m S w=>.t _ _ (.int k n)
 unfold evShift at h
 split at h
 ·exact zt114
 ·exact zt114
 ·exact h.elim
theorem beq_dec (a b:List UInt8):(a == b)=decide (a=b):=by
 rw [Bool.eq_iff_iff]
 simp
theorem evStr_sound {P:Program} {g:Option Bool} {op:BinOp} {a b:List UInt8} {c:AV→Prop} (h:evStr g op a b c) :
  ∃ v,(gOk g→∀ (t:TypeId) (x y:ByteArray),x.data.toList=a→y.data.toList=b→∃ u,(∀ w,(binOp op t (.string x) (.string y)).run P w=.ok u w)∧∀ m S w,RelV m S w u v)∧c v:=by
 have rb:∀ (n:Bool) (m:Ids) (S:Blocks) (w:World),RelV m S w (.bool n) (.bool n):=fun n m S w=>.t _ _ (.bool n)
 unfold evStr at h
 split at h
 ·obtain ⟨h0,hc⟩:=ob_iff.1 h
  refine ⟨_,fun hg t x y hx hy=>⟨.string (x++y),fun w=>?_,fun m S w=>.t _ _ (.str _ _ (by rw [← hx,← hy];simp))⟩,hc⟩
  have h1:=h0 hg
  rw [← hx,← hy] at h1
  simp only [Array.length_toList,ByteArray.size_data] at h1
  simp only [binOp,Op.stringOp]
  rw [if_neg (by
   show ¬ ((x.size+y.size:Nat):Int)>IntKind.i64.max
   have:IntKind.i64.max=9223372036854775807:=by decide
   omega)]
  rfl
 all_goals first
  | exact h.elim
  | (refine ⟨_,fun hg t x y hx hy=>⟨_,fun w=>?_,rb _⟩,h⟩
     simp only [binOp,Op.stringOp,ByteArray.toList_eq,hx,hy,beq_dec]
     simp
     try rfl)
theorem zt61 {p:Prop}(h:p:=by
 refine fin _ (fun hg m S w a' b' h1 h2=>?_) h
 rw [hx] at h1
 rw [hy] at h2
 cases h1 with
 | t _ _ h1=>cases h1;cases h2 with
  | t _ _ h2=>cases h2;exact ⟨_,fun w=>by rw [Sem.run_bind,guard];simp [binOp,heq],rb _ m S w⟩):p:=h
theorem zt75 {p:Prop}(h:p:=by
 refine fin v (fun hg m S w a' b' h1 h2=>?_) hk
 rw [hx] at h1
 rw [hy] at h2
 obtain ⟨u,hr,hu⟩:=hv hg t
 rw [relV_int h1,relV_int h2]
 exact ⟨u,fun w=>by rw [Sem.run_bind,guard];exact hr w,hu m S w⟩):p:=h
theorem evBin_sound [Tabs] {P:Program} {T:Tab} (hT:TabOk P T) {g:Option Bool} {rd:Operand→AV} {H:Heap} {nx:Nat} {op:BinOp} {t yt:TypeId} {x y:Operand} {o:Oper} (ho:o.op=.binOp op t x y yt) {k:Res→Prop}
  (h:evBin T g op t (rd x) (rd y) fun v=>k ⟨v,[],[],nx⟩):∃ r,(gOk g→OpSemP P o [(x,true,rd x),(y,true,rd y)] H nx r)∧(r.wr=[]∧r.nx=nx)∧k r:=by
 have fin:∀ (v:AV),(gOk g→∀ (m:Ids) (S:Blocks) (w:World) (a b:Value),RelV m S w a (rd x)→RelV m S w b (rd y)→∃ u,(∀ w,(do eqGuard op t x y a b;binOp op t a b:Sem Value).run P w=.ok u w)∧RelV m S w u v) →
   k ⟨v,[],[],nx⟩→∃ r,(gOk g→OpSemP P o [(x,true,rd x),(y,true,rd y)] H nx r)∧(r.wr=[]∧r.nx=nx)∧k r:=by
  intro v hv hk
  refine ⟨_,fun hg=>opsem_pure fun m S w a H₂ hG ht hus=>?_,⟨rfl,rfl⟩,hk⟩
  obtain ⟨u,hr,hu⟩:=hv hg m S w _ _ (hus (x,true,rd x) (by simp) rfl) (hus (y,true,rd y) (by simp) rfl)
  refine ⟨u,fun w' _=>?_,hu⟩
  have hr:=hr w'
  unfold execOp
  simp only [ho,Sem.run_bind] at hr ⊢
  rw [hr]
  rfl
 unfold evBin at h
 split at h
 ·rename_i kx a ky b hx hy
  have guard:∀ (w:World),(eqGuard op t x y (.int kx a) (.int ky b)).run P w=.ok () w:=by
   intro w;unfold eqGuard;split<;>rfl
  split at h
  ·obtain ⟨v,hv,hk⟩:=evShift_sound (P:=P) (ky:=ky) h
   exact zt75
  ·rename_i hns
   split at h
   ·rename_i hk0
    have:=kidx_inj hk0
    subst this
    obtain ⟨v,hv,hk⟩:=evInt_sound (P:=P) (by constructor<;>(intro e;subst e;simp [isShift] at hns)) h
    exact zt75
   ·exact h.elim
 ·rename_i a b hx hy
  obtain ⟨v,hv,hk⟩:=evStr_sound (P:=P) h
  refine fin v (fun hg m S w a' b' h1 h2=>?_) hk
  rw [hx] at h1
  rw [hy] at h2
  cases h1 with
  | t _ _ h1=>cases h1 with
   | str s l hs=>cases h2 with
    | t _ _ h2=>cases h2 with
     | str s' l' hs' =>
      obtain ⟨u,hr,hu⟩:=hv hg t s s' hs hs'
      refine ⟨u,fun w=>?_,hu m S w⟩
      have guard:(eqGuard op t x y (.string s) (.string s')).run P w=.ok () w:=by unfold eqGuard;split<;>rfl
      rw [Sem.run_bind,guard];exact hr w
 ·rename_i a b hx hy
  split at h
  ·rename_i hi
   obtain ⟨hu,_⟩:=hT t _ hi
   simp only at hu
   have rb:∀ (n:Bool) (m:Ids) (S:Blocks) (w:World),RelV m S w (.bool n) (.bool n):=fun n m S w=>.t _ _ (.bool n)
   have guard:∀ (w:World),(eqGuard op t x y (.bool a) (.bool b)).run P w=.ok () w:=by
    intro w;unfold eqGuard;split<;>rfl
   have heq:∀ (w:World),(Op.equal t (.bool a) (.bool b)).run P w=.ok (a == b) w:=by
    intro w
    unfold Op.equal Op.maxDepth
    rw [show (10000:Nat)=9999+1 from rfl,Op.equalIn]
    simp [run_underlying hu]
   split at h
   ·exact zt61
   ·exact zt61
   ·exact h.elim
  ·exact h.elim
 ·exact h.elim
def OpSemR [Tabs] (P:Program) (o:Oper) (us:Uses) (H:Heap) (nx:Nat) (touch:List Nat) (Rr:Res→Prop):Prop :=
 ∀ (m:Ids) (S:Blocks) (w:World) (a:Act) (H₂:Heap) (K:Act→World→Prop) (Q:Exit→Act→World→Prop),
  Good m S w H₂→(∀ id∈touch,lkH H₂ id=lkH H id)→(∀ i,nx≤i→(∃ r,Rr r∧i<r.nx)→m i=none) →
  (∀ u∈us,u.2.1=true→RelV m S w (a.eval u.1) u.2.2) →
  (∀ r,Rr r→∀ v m' S' w',Ext m S w H₂ nx r.nx m' S' w' (r.wr++H₂)→RelV m' S' w' v r.v→K (a.put o.dst v) w') →
  o.wp P a w K Q
theorem OpSem.toR [Tabs] {P:Program} {o:Oper} {us:Uses} {H:Heap} {nx:Nat} {r:Res} (h:OpSem P o us H nx r):OpSemR P o us H nx r.touch (fun r'=>r'=r) :=
 fun m S w a H₂ K Q hG ht hf hu hK=>h m S w a H₂ K Q hG ht (fun i hi hr=>hf i hi ⟨r,rfl,hr⟩) hu (hK r rfl)
def evUn (g:Option Bool) (op:UnOp) (x:AV) (c:AV→Prop):Prop :=
 match op,x with
 | .not,.bool b=>c (.bool (!b))
 | .neg,.int k n=>fits g k (0-n) c
 | _,_=>False
theorem evUn_sound [Tabs] {P:Program} {g:Option Bool} {rd:Operand→AV} {H:Heap} {nx:Nat} {op:UnOp} {t:TypeId} {x:Operand} {o:Oper} (ho:o.op=.unOp op t x) {k:Res→Prop}
  (h:evUn g op (rd x) fun v=>k ⟨v,[],[],nx⟩):∃ r,(gOk g→OpSemP P o [(x,true,rd x)] H nx r)∧(r.wr=[]∧r.nx=nx)∧k r:=by
 unfold evUn at h
 split at h
 ·rename_i b hp
  refine ⟨_,fun hg=>opsem_pure fun m S w a H₂ hG ht hus=>?_,⟨rfl,rfl⟩,h⟩
  have hx:RelV m S w (a.eval x) (rd x):=hus (x,true,rd x) (by simp) rfl
  rw [hp] at hx
  generalize hv:a.eval x=v at hx
  cases hx with
  | t _ _ hx=>cases hx;exact ⟨.bool (!b),fun w' _=>by unfold execOp;simp [ho,hv,Op.unary],.t _ _ (.bool _)⟩
 ·rename_i kk n hp
  obtain ⟨r,hr,h⟩:=fits_sound h
  refine ⟨_,fun hg=>opsem_pure fun m S w a H₂ hG ht hus=>?_,⟨rfl,rfl⟩,h⟩
  have hx:RelV m S w (a.eval x) (rd x):=hus (x,true,rd x) (by simp) rfl
  rw [hp] at hx
  have hr':=hr hg
  exact ⟨.int kk r,fun w' _=>by unfold execOp;simp only [ho,relV_int hx,Op.unary,Op.intArith];rw [hr'];rfl,.t _ _ (.int _ _)⟩
 ·exact h.elim
def evConvert (T:Tab) (g:Option Bool) (src dst:TypeId) (x:AV) (c:AV→Prop):Prop :=
 match lkT T src,lkT T dst with
 | some _,some ⟨.int k,_,_,_⟩=>match x with
  | .int _ n=>fits g k n c
  | _=>False
 | some _,some ⟨.string,_,_,_⟩=>match x with
  | .str s=>c (.str s)
  | _=>False
 | _,_=>False
theorem evConvert_sound [Tabs] {P:Program} {T:Tab} (hT:TabOk P T) {g:Option Bool} {rd:Operand→AV} {H:Heap} {nx:Nat} {src dst:TypeId} {x:Operand} {o:Oper} (ho:o.op=.convert src dst x) {k:Res→Prop}
  (h:evConvert T g src dst (rd x) fun v=>k ⟨v,[],[],nx⟩):∃ r,(gOk g→OpSemP P o [(x,true,rd x)] H nx r)∧(r.wr=[]∧r.nx=nx)∧k r:=by
 unfold evConvert at h
 split at h
 ·rename_i i kk s b z hi hi'
  obtain ⟨hu,_⟩:=hT src _ hi
  obtain ⟨hu',_⟩:=hT dst _ hi'
  simp only at hu'
  split at h
  ·rename_i kx n hp
   obtain ⟨r,hr,h⟩:=fits_sound h
   refine ⟨_,fun hg=>opsem_pure fun m S w a H₂ hG ht hus=>?_,⟨rfl,rfl⟩,h⟩
   have hx:RelV m S w (a.eval x) (rd x):=hus (x,true,rd x) (by simp) rfl
   rw [hp] at hx
   refine ⟨.int kk r,fun w' _=>?_,.t _ _ (.int _ _)⟩
   unfold execOp
   simp [ho,relV_int hx,convert,run_underlying hu,run_underlying hu',Conv.intToInt,hr hg]
  ·exact h.elim
 ·rename_i i s b z hi hi'
  obtain ⟨hu,_⟩:=hT src _ hi
  obtain ⟨hu',_⟩:=hT dst _ hi'
  simp only at hu'
  split at h
  ·rename_i str hp
   refine ⟨_,fun hg=>opsem_pure fun m S w a H₂ hG ht hus=>?_,⟨rfl,rfl⟩,h⟩
   have hx:RelV m S w (a.eval x) (rd x):=hus (x,true,rd x) (by simp) rfl
   rw [hp] at hx
   generalize hv:a.eval x=v at hx
   cases hx with
   | t _ _ hx=>cases hx with
    | str s' l hs =>
     refine ⟨.string s',fun w' _=>?_,.t _ _ (.str _ _ hs)⟩
     unfold execOp
     cases hd:i.desc<;>simp [ho,hv,convert,run_underlying hu,run_underlying hu',hd]
  ·exact h.elim
 ·exact h.elim
def evIndex (T:Tab) (g:Option Bool) (t:TypeId) (x i:AV) (c:AV→Prop):Prop :=
 match lkT T t with
 | some ⟨.string,_,_,_⟩=>match x,i with
  | .str s,.int _ n=>ob g (0≤n∧n<s.length) (c (.int .u8 (s.getD n.toNat 0).toNat))
  | _,_=>False
 | some ⟨.array len e,_,_,_⟩=>match lkT T e with
  | some ie=>match isAggD ie.desc with
   | false=>match Nat.beq ie.size 1 with
    | true=>match x,i with
     | .agg l,.int _ n=>match Nat.beq l.length len with
      | true=>ob g (0≤n∧n<len) (c (l.getD n.toNat .undef))
      | false=>False
     | _,_=>False
    | false=>False
   | true=>False
  | none=>False
 | _=>False
theorem evIndex_sound [Tabs] {P:Program} {T:Tab} (hT:TabOk P T) {g:Option Bool} {rd:Operand→AV} {H:Heap} {nx:Nat} {t:TypeId} {x i:Operand} {o:Oper} (ho:o.op=.index t x i) {k:Res→Prop}
  (h:evIndex T g t (rd x) (rd i) fun v=>k ⟨v,[],[],nx⟩):∃ r,(gOk g→OpSemP P o [(x,true,rd x),(i,true,rd i)] H nx r)∧(r.wr=[]∧r.nx=nx)∧k r:=by
 unfold evIndex at h
 split at h
 ·rename_i hi
  obtain ⟨hu,_⟩:=hT t _ hi
  simp only at hu
  split at h
  ·rename_i s kk n hp hq
   obtain ⟨hb,h⟩:=ob_iff.1 h
   refine ⟨_,fun hg=>opsem_pure fun m S w a H₂ hG ht hus=>?_,⟨rfl,rfl⟩,h⟩
   have hx:RelV m S w (a.eval x) (rd x):=hus (x,true,rd x) (by simp) rfl
   have hi':RelV m S w (a.eval i) (rd i):=hus (i,true,rd i) (by simp) rfl
   obtain ⟨b0,b1⟩:=hb hg
   rw [hp] at hx
   rw [hq] at hi'
   have hiv:=relV_int hi'
   generalize hv:a.eval x=v at hx
   cases hx with
   | t _ _ hx=>cases hx with
    | str s' l hs =>
     have hsz:s'.size=s.length:=by rw [← hs];simp
     have hlt:n.toNat<s'.size:=by omega
     have hlt2:n.toNat<s.length:=by omega
     have hb:s'[n.toNat]=s[n.toNat]:=by
      show s'.data[n.toNat]=_
      subst hs
      simp
     refine ⟨.int .u8 (s.getD n.toNat 0).toNat,fun w' _=>?_,.t _ _ (.int _ _)⟩
     unfold execOp
     simp [ho,hv,hiv,Instr.index,asIntOf,run_underlying hu,b0,ByteArray.getElem?_lt' s' _ hlt,hb,List.getD,List.getElem?_eq_getElem hlt2]
  ·exact h.elim
 ·rename_i len e a1 a2 a3 hi
  obtain ⟨hu,_⟩:=hT t _ hi
  split at h
  ·rename_i ie hie
   obtain ⟨hue,je,hje,hse,_⟩:=hT e _ hie
   split at h
   ·rename_i hag
    split at h
    ·rename_i hsz
     split at h
     ·rename_i l kk n hp hq
      split at h
      ·rename_i hll
       have hlen:=Nat.eq_of_beq_eq_true hll
       have hs1:=Nat.eq_of_beq_eq_true hsz
       obtain ⟨hb,h⟩:=ob_iff.1 h
       refine ⟨_,fun hg=>opsem_pure fun m S w a H₂ hG ht hus=>?_,⟨rfl,rfl⟩,h⟩
       have hx:RelV m S w (a.eval x) (rd x):=hus (x,true,rd x) (by simp) rfl
       have hi':RelV m S w (a.eval i) (rd i):=hus (i,true,rd i) (by simp) rfl
       obtain ⟨b0,b1⟩:=hb hg
       rw [hp] at hx
       rw [hq] at hi'
       have hiv:=relV_int hi'
       obtain ⟨cs,hv,hcl,hr⟩:=relV_agg hx
       have hlt:n.toNat<cs.size:=by omega
       have hlt2:n.toNat<l.length:=by omega
       have hagg:∀ w,(isAgg e).run P w=.ok (isAggD ie.desc) w:=by
        intro w
        unfold isAgg
        cases hd:ie.desc<;>simp [run_underlying hue,hd,isAggD]
       have hsize:∀ w,(sizeOf e).run P w=.ok 1 w:=by
        intro w
        simp [sizeOf,typeInfo,hje,hse,hs1]
       refine ⟨cs[n.toNat],fun w' _=>?_,hr _ _ _ (Array.getElem?_eq_getElem hlt) (by simp [List.getD,List.getElem?_eq_getElem hlt2])⟩
       unfold execOp
       simp [ho,hv,hiv,Instr.index,asIntOf,run_underlying hu,b0,b1,part,hagg,hag,hsize,Array.getElem?_eq_getElem hlt]
      ·exact h.elim
     ·exact h.elim
    ·exact h.elim
   ·exact h.elim
  ·exact h.elim
 ·exact h.elim
def evNilCheck (x:AV) (c:AV→Prop):Prop :=
 match x with
 | .ptr id off=>c (.ptr id off)
 | .eptr id E i off=>c (.eptr id E i off)
 | .rop l=>c (.rop l)
 | .fn (.func f) a b=>c (.fn (.func f) a b)
 | _=>False
theorem evNilCheck_sound [Tabs] {P:Program} {rd:Operand→AV} {H:Heap} {nx:Nat} {x:Operand} {o:Oper} (ho:o.op=.nilCheck x) {k:Res→Prop}
  (h:evNilCheck (rd x) fun v=>k ⟨v,[],[],nx⟩):∃ r,OpSemP P o [(x,true,rd x)] H nx r∧(r.wr=[]∧r.nx=nx)∧k r:=by
 have fin:(∀ (m:Ids) (S:Blocks) (w:World) (v:Value),RelV m S w v (rd x)→(∃ p,v=.pointer (some p))∨∃ f a b,v=.func (.func f) a b)→k ⟨rd x,[],[],nx⟩ →
   ∃ r,OpSemP P o [(x,true,rd x)] H nx r∧(r.wr=[]∧r.nx=nx)∧k r:=by
  intro hv hk
  refine ⟨_,opsem_pure fun m S w a H₂ hG ht hus=>?_,⟨rfl,rfl⟩,hk⟩
  have hx:RelV m S w (a.eval x) (rd x):=hus (x,true,rd x) (by simp) rfl
  refine ⟨a.eval x,fun w' _=>?_,hx⟩
  unfold execOp
  rcases hv m S w _ hx with ⟨p,hp⟩ | ⟨f,a',b',hp⟩<;>simp [ho,hp]
 unfold evNilCheck at h
 split at h
 ·rename_i id off hp
  rw [← hp] at h
  refine fin (fun m S w v hr=>?_) h
  rw [hp] at hr
  cases hr with
  | t _ _ h=>cases h
  | ptr=>exact .inl ⟨_,rfl⟩
 ·rename_i hp
  rw [← hp] at h
  refine fin (fun m S w v hr=>?_) h
  rw [hp] at hr
  cases hr with
  | t _ _ h=>cases h
  | eptr=>exact .inl ⟨_,rfl⟩
 ·rename_i hp
  rw [← hp] at h
  refine fin (fun m S w v hr=>?_) h
  rw [hp] at hr
  cases hr with
  | t _ _ h=>cases h with
   | rop=>exact .inl ⟨_,rfl⟩
 ·rename_i hp
  rw [← hp] at h
  refine fin (fun m S w v hr=>?_) h
  rw [hp] at hr
  cases hr with
  | t _ _ h=>cases h;exact .inr ⟨_,_,_,rfl⟩
  | fn=>exact .inr ⟨_,_,_,rfl⟩
 ·exact h.elim
theorem evMakeFunc_sound [Tabs] {P:Program} {rd:Operand→AV} {H:Heap} {nx:Nat} {fn:Fn} {first captured:Array Operand} {o:Oper} (ho:o.op=.makeFunc fn first captured) {k:Res→Prop}
  (h:k ⟨.fn fn (first.toList.map rd) (captured.toList.map rd),[],[],nx⟩) :
  ∃ r,OpSemP P o ((first.toList++captured.toList).map fun y=>(y,true,rd y)) H nx r∧(r.wr=[]∧r.nx=nx)∧k r:=by
 refine ⟨_,opsem_pure fun m S w a H₂ hG ht hus=>?_,⟨rfl,rfl⟩,h⟩
 have key:∀ (l:Array Operand),(∀ y∈l.toList,RelV m S w (a.eval y) (rd y))→∀ (j:Nat) (c:Value) (x:AV),(l.map a.eval)[j]?=some c→(l.toList.map rd)[j]?=some x→RelV m S w c x:=by
  intro l hl j c x hc hx
  simp only [Array.getElem?_map,List.getElem?_map,Array.getElem?_toList,Option.map_eq_some_iff] at hc hx
  obtain ⟨y,hy,rfl⟩:=hc
  obtain ⟨y',hy',rfl⟩:=hx
  rw [hy] at hy'
  cases hy'
  exact hl y (Array.mem_toList_iff.2 (Array.mem_of_getElem? hy))
 refine ⟨.func fn (first.map a.eval) (captured.map a.eval),fun w' _=>?_,.fn _ _ _ _ _ (by simp) (by simp) (key first fun y hy=>hus (y,true,rd y) (List.mem_map.2 ⟨y,by simp at hy ⊢;exact .inl hy,rfl⟩) rfl) (key captured fun y hy=>hus (y,true,rd y) (List.mem_map.2 ⟨y,by simp at hy ⊢;exact .inr hy,rfl⟩) rfl)⟩
 unfold execOp
 simp [ho,Instr.makeFunc]
def evMin (isMax:Bool) (x y:AV) (c:AV→Prop):Prop :=
 match x,y with
 | .int k a,.int k' b=>match Nat.beq (kidx k) (kidx k') with
  | true=>match isMax with
   | false=>c (.int k (min a b))
   | true=>c (.int k (max a b))
  | false=>False
 | _,_=>False
theorem evMin_sound [Tabs] {P:Program} {rd:Operand→AV} {H:Heap} {nx:Nat} {x y:Operand} {ts:Array TypeId} {isMax:Bool} {o:Oper}
  (ho:o.op=.call { callee:=.builtin (if isMax then .max else .min),args:=#[x,y],argTypes:=ts }) {k:Res→Prop}
  (h:evMin isMax (rd x) (rd y) fun v=>k ⟨v,[],[],nx⟩):∃ r,OpSemP P o [(x,true,rd x),(y,true,rd y)] H nx r∧(r.wr=[]∧r.nx=nx)∧k r:=by
 unfold evMin at h
 split at h
 ·rename_i kk a b' n hp hq
  split at h
  ·rename_i hk0
   have:=kidx_inj hk0
   subst this
   split at h
   all_goals
    refine ⟨_,opsem_pure fun m S w a H₂ hG ht hus=>?_,⟨rfl,rfl⟩,h⟩
    have hx:RelV m S w (a.eval x) (rd x):=hus (x,true,rd x) (by simp) rfl
    have hy:RelV m S w (a.eval y) (rd y):=hus (y,true,rd y) (by simp) rfl
    rw [hp] at hx
    rw [hq] at hy
    refine ⟨.int kk _,fun w' _=>?_,.t _ _ (.int _ _)⟩
    unfold execOp
    simp [ho,resolve,invoke,builtin,relV_int hx,relV_int hy,Builtin.min_,Builtin.max_,Builtin.min2,Builtin.max2]
    omega
  ·exact h.elim
 ·exact h.elim
def evConvB (T:Tab) (H:Heap) (nx:Nat) (src dst:TypeId) (x:AV) (k:Res→Prop):Prop :=
 match lkT T src,lkT T dst with
 | some ⟨.slice e,_,_,_⟩,some ⟨.string,_,_,_⟩=>match lkT T e with
  | some ⟨.int .u8,_,_,_⟩=>srcView H 1 x fun s touch=>∃ str,s.list=strAVs str∧k ⟨.str str,touch,[],nx⟩
  | _=>False
 | _,_=>False
def evConvX (T:Tab) (g:Option Bool) (H:Heap) (nx:Nat) (src dst:TypeId) (x:AV) (k:Res→Prop):Prop :=
 match x with
 | .int i n=>evConvert T g src dst (.int i n) fun v=>k ⟨v,[],[],nx⟩
 | .str s=>evConvert T g src dst (.str s) fun v=>k ⟨v,[],[],nx⟩
 | x=>evConvB T H nx src dst x k
theorem strAVs_cell {S:Blocks} {w:World} {g o:Nat} {str:List UInt8} {cs:List Value} (hl:cs.length=(strAVs str).length*1) (hc:∀ (j:Nat) (c:Value),cs[j]?=some c→w.cell? ⟨g,o+j,none⟩=some c)
  (hr:∀ (j:Nat) (c:Value) (a:AV),cs[j]?=some c→(flat (strAVs str))[j]?=some a→RelT S w c a):∀ j (hj:j<str.length),w.cell? ((⟨g,o,none⟩:Addr).add j)=some (.int .u8 (str[j].toNat:Int)):=by
 intro j hj
 rw [strAVs_len,Nat.mul_one] at hl
 have hplain:(⟨g,o,none⟩:Addr).add j=⟨g,o+j,none⟩:=by unfold Addr.add;split<;>simp_all
 have hcj:cs[j]?=some cs[j]:=List.getElem?_eq_getElem (by omega)
 have h1:=hr j cs[j] (.int .u8 (str[j].toNat:Int)) hcj (by
  rw [flat_strAVs]
  unfold strAVs
  rw [List.getElem?_map,List.getElem?_eq_getElem hj]
  rfl)
 rw [hplain,hc j cs[j] hcj]
 generalize cs[j]=c at h1
 cases h1
 rfl
theorem evConvB_sound [Tabs] {P:Program} {T:Tab} (hT:TabOk P T) {rd:Operand→AV} {H:Heap} {nx:Nat} {src dst:TypeId} {x:Operand} {o:Oper} (ho:o.op=.convert src dst x) {k:Res→Prop}
  (h:evConvB T H nx src dst (rd x) k):∃ r,OpSemP P o [(x,true,rd x)] H nx r∧(r.wr=[]∧r.nx=nx)∧k r:=by
 unfold evConvB at h
 split at h
 ·rename_i e s0 b0 z0 s1 b1 z1 hi hi'
  obtain ⟨hu,_⟩:=hT src _ hi
  obtain ⟨hu',_⟩:=hT dst _ hi'
  simp only at hu hu'
  split at h
  ·rename_i s2 b2 z2 hie
   obtain ⟨hue,_⟩:=hT e _ hie
   simp only at hue
   obtain ⟨s,touch,hv,str,hstr,hk⟩:=srcView_sound h
   refine ⟨_,opsem_pure fun m S w a H₂ hG ht hus=>?_,⟨rfl,rfl⟩,hk⟩
   have hx:RelV m S w (a.eval x) (rd x):=hus (x,true,rd x) (by simp) rfl
   have hr:=hv m S w H₂ (a.eval x) hG ht hx
   refine ⟨.string ⟨str.toArray⟩,fun w' hw=>?_,.t _ _ (.str _ _ (by simp))⟩
   unfold execOp
   rw [hstr] at hr
   have hsz:=strAVs_len str
   rcases hr with ⟨hv0,hl0⟩ | ⟨ad,cap,hv0,hl0⟩ | ⟨g,of,cap,cs,hv0,hl,hE,h1,hc,hrel⟩
   ·have:str=[]:=by
     apply List.eq_nil_of_length_eq_zero
     rw [← hsz,hl0]
     rfl
    subst this
    simp [ho,hv0,run_convert_bytes_string w' src dst e none 0 0 hu hue hu',Conv.bytesToString]
    rfl
   ·have:str=[]:=by
     apply List.eq_nil_of_length_eq_zero
     rw [← hsz,hl0]
     rfl
    subst this
    have:=run_convert_bytes_back (P:=P) w' src dst e ad cap [] hu hue hu' (fun j hj=>by simp at hj)
    simp only [List.length_nil] at this
    simp [ho,hv0,this]
   ·have hcell:=strAVs_cell (S:=S) (w:=w) hl hc hrel
    have:=run_convert_bytes_back (P:=P) w' src dst e ⟨g,of,none⟩ cap str hu hue hu' (fun j hj=>hw.cell (hcell j hj))
    rw [hsz] at hv0
    simp [ho,hv0,this]
  ·exact h.elim
 ·exact h.elim
theorem evConvX_sound [Tabs] {P:Program} {T:Tab} (hT:TabOk P T) {g:Option Bool} {rd:Operand→AV} {H:Heap} {nx:Nat} {src dst:TypeId} {x:Operand} {o:Oper} (ho:o.op=.convert src dst x) {k:Res→Prop}
  (h:evConvX T g H nx src dst (rd x) k):∃ r,(gOk g→OpSemP P o [(x,true,rd x)] H nx r)∧(r.wr=[]∧r.nx=nx)∧k r:=by
 unfold evConvX at h
 split at h
 ·rename_i i n hx
  exact evConvert_sound hT ho (by rw [hx];exact h)
 ·rename_i s hx
  exact evConvert_sound hT ho (by rw [hx];exact h)
 ·obtain ⟨r,h1,h2⟩:=evConvB_sound hT ho h
  exact ⟨r,fun _=>h1,h2⟩
theorem beq_bytes (a b:ByteArray):(a == b)=decide (a.data.toList=b.data.toList):=by
 rw [beq_toListBytes,ByteArray.toList_eq,ByteArray.toList_eq]
 by_cases e:a.data.toList=b.data.toList
 ·simp [e]
 ·simp only [e,decide_false]
  simpa using fun h=>e (by rw [h])
inductive PlainKey (P:Program) (kt:TypeId):TypeDesc→Value→Prop
 | str (s:ByteArray) (h:P.underlying kt=some .string):PlainKey P kt .string (.string s)
 | int (k:IntKind) (n:Int) (h:P.underlying kt=some (.int k)):PlainKey P kt (.int k) (.int k n)
theorem PlainKey.und {P:Program} {kt:TypeId} {d:TypeDesc} {v:Value} (h:PlainKey P kt d v):P.underlying kt=some d:=by cases h<;>assumption
theorem PlainKey.same {P:Program} {kt:TypeId} {d:TypeDesc} {v:Value} (h:PlainKey P kt d v) (n:Nat):Instr.sameBits n v v=true:=by
 cases h with
 | str s h=>cases n<;>simp [Instr.sameBits,beq_bytes]
 | int k n h=>rename_i q;cases q<;>simp [Instr.sameBits]
def KV.av:KV→AV
 | .vI k n=>.int k n
 | .vS l=>.str l
 | .vB x=>.bool x
def kvTy (T:Tab) (t:TypeId):KK→Bool
 | .kI k=>match lkT T t with
  | some ⟨.int k',_,_,_⟩=>Nat.beq (kidx k) (kidx k')
  | _=>false
 | .kS=>match lkT T t with
  | some ⟨.string,_,_,_⟩=>true
  | _=>false
 | .kB=>match lkT T t with
  | some ⟨.bool,_,_,_⟩=>true
  | _=>false
def keyFs (T:Tab):List Field→List KK→Nat→Bool
 | [],[],_=>true
 | f::fs,q::ks,j=>Nat.beq f.offset j&&kvTy T f.type q&&keyFs T fs ks (j+1)
 | _,_,_=>false
def kkDesc:KK→TypeDesc
 | .kI k=>.int k
 | .kS=>.string
 | .kB=>.bool
theorem kvTy_und {P:Program} {T:Tab} (hT:TabOk P T) {t:TypeId} {q:KK} (h:kvTy T t q=true):P.underlying t=some (kkDesc q):=by
 cases q with
 | kI k =>
  simp only [kvTy] at h
  split at h
  ·rename_i k' _ _ _ hi
   have:=kidx_inj h
   subst this
   exact (hT _ _ hi).1
  ·cases h
 | kS =>
  simp only [kvTy] at h
  split at h
  ·rename_i hi;exact (hT _ _ hi).1
  ·cases h
 | kB =>
  simp only [kvTy] at h
  split at h
  ·rename_i hi;exact (hT _ _ hi).1
  ·cases h
theorem part_kk {P:Program} {t:TypeId} {q:KK} (hu:P.underlying t=some (kkDesc q)) (cs:Array Value) (off:Nat) (c:Value) (hc:cs[off]?=some c) (w:World):(part t cs off).run P w=.ok c w:=by
 cases q<;>simp [part,isAgg,run_underlying hu,hc,kkDesc]
theorem eq_kk {P:Program} {t:TypeId} {q p:KV} (hu:P.underlying t=some (kkDesc q.kk)) (hk:p.kk=q.kk) {c e:Value} (hc:q.holds c) (he:p.holds e) (d:Nat) (w:World):(Op.equalIn (d+1) t c e).run P w=.ok (decide (q=p)) w:=by
 cases q with
 | vI k n =>
  cases p with
  | vI k' n' =>
   simp only [KV.kk,KK.kI.injEq] at hk
   subst hk
   simp only [KV.holds] at hc he
   subst hc he
   rw [run_equalIn_int w d t _ _ n n' hu]
   by_cases e:n=n'<;>simp [e]
  | vS l=>simp [KV.kk] at hk
  | vB x=>simp [KV.kk] at hk
 | vS l =>
  cases p with
  | vI k' n'=>simp [KV.kk] at hk
  | vS l' =>
   obtain ⟨s1,rfl,rfl⟩:=hc
   obtain ⟨s2,rfl,rfl⟩:=he
   rw [run_equalIn_string w d t _ _ hu,ByteArray.toList_eq,ByteArray.toList_eq]
   have:(s1.data.toList == s2.data.toList)=decide (KV.vS s1.data.toList=KV.vS s2.data.toList):=by
    by_cases e:s1.data.toList=s2.data.toList
    ·simp [e]
    ·simp only [KV.vS.injEq,e,decide_false]
     exact beq_eq_false_iff_ne.2 e
   rw [this]
  | vB x=>simp [KV.kk] at hk
 | vB x =>
  cases p with
  | vI k' n'=>simp [KV.kk] at hk
  | vS l=>simp [KV.kk] at hk
  | vB x' =>
   simp only [KV.holds] at hc he
   subst hc he
   rw [run_equalIn_bool w d t _ _ hu]
   cases x<;>cases x'<;>rfl
theorem zp45 {p:Prop} (h:p:=by simpa using q):p:=h
theorem zp49 {p:Prop} (h:p:=by rw [← p];congr 1;omega):p:=h
theorem eqFields_kk {P : Program} {T : Tab} (hT : TabOk P T) : ∀ (fs : List Field) (ks ps : List KV) (j : Nat) (cs es : Array Value), keyFs T fs (ks.map KV.kk) j = true → ps.map KV.kk = ks.map KV.kk → (∀ f ∈ fs, f.name ≠ "_") → (∀ (i : Nat) (c : Value) (q : KV), cs[j + i]? = some c → ks[i]? = some q → q.holds c) →
  (∀ (i:Nat) (c:Value) (q:KV),es[j+i]?=some c→ps[i]?=some q→q.holds c)→cs.size=j+ks.length→es.size=j+ps.length→∀ (d:Nat) (w:World),(Op.eqFields (d+1) cs es fs).run P w=.ok (decide (ks=ps)) w
 | [],ks,ps,j,cs,es,h,hk,_,_,_,_,_,d,w=>by
  cases ks with
  | nil =>
   cases ps with
   | nil=>rfl
   | cons p ps=>simp at hk
  | cons q ks=>simp [keyFs] at h
 | f::fs,[],ps,j,cs,es,h,_,_,_,_,_,_,d,w=>by simp [keyFs] at h
 | f::fs,q::ks,[],j,cs,es,h,hk,_,_,_,_,_,d,w=>by simp at hk
 | f::fs,q::ks,p::ps,j,cs,es,h,hk,hn,h1,h2,hl1,hl2,d,w=>by
  simp only [List.map_cons,keyFs,Bool.and_eq_true] at h
  simp only [List.map_cons,List.cons.injEq] at hk
  have hoff:=Nat.eq_of_beq_eq_true h.1.1
  have hu:=kvTy_und hT h.1.2
  simp at hl1 hl2
  obtain ⟨c,hc⟩:∃ c,cs[j]?=some c:=⟨_,Array.getElem?_eq_getElem (by omega)⟩
  obtain ⟨e,he⟩:∃ e,es[j]?=some e:=⟨_,Array.getElem?_eq_getElem (by omega)⟩
  have hname:=hn f (by simp)
  have hE:=eq_kk hu hk.1 (h1 0 c q (by rw [Nat.add_zero];exact hc) rfl) (h2 0 e p (by rw [Nat.add_zero];exact he) rfl) d w
  have hrest:=eqFields_kk hT fs ks ps (j+1) cs es h.2 hk.2 (fun f hf=>hn f (by simp [hf])) (fun i c a p q=>h1 (i+1) c a zp49 zp45) (fun i c a p q=>h2 (i+1) c a zp49 zp45) (by omega) (by omega) d w
  simp only [Op.eqFields,hname,ne_eq,not_false_eq_true,if_true,hoff,Sem.run_bind,part_kk hu cs j _ hc w,part_kk hu es j _ he w,Result.andThen_ok,hE]
  by_cases e0:q=p
  ·simp [e0] at hrest ⊢
   simpa using hrest
  ·simp [e0]
structure KeyG (P:Program) (T:Tab) (kt:TypeId) (sh:List KK) (fs:Array Field):Prop where
 und:P.underlying kt=some (.struct fs)
 fits:keyFs T fs.toList sh 0=true
 names : ∀ f ∈ fs.toList, f.name ≠ "_"
 stood:P.stoodInHeld kt=false
theorem KeyG.equal {P:Program} {T:Tab} (hT:TabOk P T) {kt:TypeId} {sh:List KK} {fs:Array Field} (h:KeyG P T kt sh fs) {v u:Value} {k p:List KV} (hv:KrG sh v k) (hu:KrG sh u p) (w:World):(Op.equal kt v u).run P w=.ok (decide (p=k)) w:=by
 obtain ⟨h1,cs,rfl,hl1,r1⟩:=hv
 obtain ⟨h2,es,rfl,hl2,r2⟩:=hu
 have hfo:P.fieldsOf kt=fs:=by simp [Program.fieldsOf,h.und]
 unfold Op.equal
 rw [show Op.maxDepth=9999+1 from rfl,run_equalIn_struct w 9999 kt cs es (by rw [hfo];exact h.und) h.stood,hfo]
 rw [eqFields_kk hT fs.toList k p 0 cs es (by rw [h1];exact h.fits) (by rw [h1,h2]) h.names (fun i c q a b=>r1 i c q (by simpa using a) b) (fun i c q a b=>r2 i c q (by simpa using a) b) (by omega) (by omega) 9998 w]
 congr 1
 by_cases e:k=p
 ·simp [e]
 ·have:¬ p=k:=fun h=>e h.symm
  simp [e,this]
theorem KeyG.inj {sh:List KK} {v u:Value} {k:List KV} (hv:KrG sh v k) (hu:KrG sh u k):v=u:=by
 obtain ⟨_,cs,rfl,hl1,r1⟩:=hv
 obtain ⟨_,es,rfl,hl2,r2⟩:=hu
 congr 1
 apply Array.ext (by omega)
 intro i h1 h2
 have hk:k[i]?=some k[i]:=List.getElem?_eq_getElem (by omega)
 have a:=r1 i _ _ (Array.getElem?_eq_getElem h1) hk
 have b:=r2 i _ _ (Array.getElem?_eq_getElem h2) hk
 revert a b
 generalize k[i]=q
 intro a b
 cases q with
 | vI k n=>simp only [KV.holds] at a b;rw [a,b]
 | vS l =>
  obtain ⟨s1,e1,l1⟩:=a
  obtain ⟨s2,e2,l2⟩:=b
  rw [e1,e2]
  obtain ⟨⟨x⟩⟩:=s1
  obtain ⟨⟨y⟩⟩:=s2
  simp only at l1 l2
  subst l1
  simp only [Value.string.injEq,ByteArray.mk.injEq,Array.mk.injEq]
  exact l2.symm
 | vB x=>simp only [KV.holds] at a b;rw [a,b]
theorem KeyG.same {sh:List KK} {v:Value} {k:List KV} (hv:KrG sh v k):Instr.sameBits 10000 v v=true:=by
 obtain ⟨_,cs,rfl,hl,r⟩:=hv
 show Instr.sameBits (9999+1) (.agg cs) (.agg cs)=true
 simp only [Instr.sameBits,beq_self_eq_true,Bool.true_and,List.all_eq_true]
 intro p hp
 obtain ⟨i,hi,e⟩:=List.getElem_of_mem hp
 rw [List.getElem_zip] at e
 rw [← e]
 simp only [List.length_zip,Array.length_toList,Nat.min_self] at hi
 have a:=r i _ _ (Array.getElem?_eq_getElem hi) (List.getElem?_eq_getElem (by omega))
 simp only [Array.getElem_toList]
 revert a
 generalize cs[i]=c
 generalize k[i]'(by omega)=q
 intro a
 cases q with
 | vI k n=>simp only [KV.holds] at a;subst a;simp [Instr.sameBits]
 | vS l=>obtain ⟨s,rfl,_⟩:=a;simp [Instr.sameBits,beq_bytes]
 | vB x=>simp only [KV.holds] at a;subst a;simp [Instr.sameBits]
theorem relV_int' {m:Ids} {S:Blocks} {w:World} {v:Value} {k:IntKind} {n:Int} (h:RelV m S w v (.int k n)):v=.int k n:=by
 cases h with
 | t _ _ h=>cases h;rfl
theorem relV_str' {m:Ids} {S:Blocks} {w:World} {v:Value} {l:List UInt8} (h:RelV m S w v (.str l)):∃ s,v=.string s∧s.data.toList=l:=by
 cases h with
 | t _ _ h=>cases h;exact ⟨_,rfl,by assumption⟩
def sameKind (q q1 q2:IntKind):Bool:=Nat.beq (kidx q) (kidx q1)&&Nat.beq (kidx q) (kidx q2)
theorem sameKind_eq {q q1 q2:IntKind} (h:sameKind q q1 q2=true):q1=q∧q2=q:=by
 simp only [sameKind,Bool.and_eq_true] at h
 exact ⟨(kidx_inj h.1).symm,(kidx_inj h.2).symm⟩
def evLookup (P:Program) (T:Tab) (H:Heap) (nx:Nat) (t:TypeId) (m k:AV) (ok:Bool) (c:Res→Prop):Prop:=False
theorem evLookup_sound [Tabs] {P:Program} {T:Tab} (hT:TabOk P T) {rd:Operand→AV} {H:Heap} {nx:Nat} {t:TypeId} {x y:Operand} {ok:Bool} {o:Oper} (ho:o.op=.lookup t x y ok) {k:Res→Prop}
  (h:evLookup P T H nx t (rd x) (rd y) ok k):∃ r,OpSemP P o [(x,true,rd x),(y,true,rd y)] H nx r∧(r.wr=[]∧r.nx=nx)∧k r:=(show False from h).elim
def evMakeMap (nx:Nat) (k:Res→Prop):Prop:=False
theorem evMakeMap_sound [Tabs] {P:Program} {H:Heap} {nx:Nat} {t:TypeId} {o:Oper} (ho:o.op=.makeMap t none) {k:Res→Prop} (h:evMakeMap nx k):∃ r,OpSem P o [] H nx r∧nx≤r.nx∧k r:=(show False from h).elim
def evMapUpdate (P:Program) (T:Tab) (H:Heap) (nx:Nat) (t:TypeId) (m k v:AV) (c:Res→Prop):Prop:=False
theorem evMapUpdate_sound [Tabs] {P:Program} {T:Tab} (hT:TabOk P T) {rd:Operand→AV} {H:Heap} {nx:Nat} {t:TypeId} {x y z:Operand} {o:Oper} (ho:o.op=.mapUpdate t x y z) {k:Res→Prop}
  (h:evMapUpdate P T H nx t (rd x) (rd y) (rd z) k):∃ r,OpSem P o [(x,true,rd x),(y,true,rd y),(z,true,rd z)] H nx r∧nx≤r.nx∧k r:=(show False from h).elim
end Go.Own
