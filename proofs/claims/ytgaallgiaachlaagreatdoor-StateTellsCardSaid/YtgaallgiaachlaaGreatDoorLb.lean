import Derived.Test.YtgaallgiaachlaaGreatDoorLa
import Derived.Laws.Build
import Derived.Laws.OwnMore
import Derived.Deep.Quiet
namespace Go.Own
def Tq (T:Tab) (t:TypeId) (x y:AV) (k:Bool→Prop):Prop :=
 match h_ T t with
 | some ⟨.int q,_,_,_⟩=>match x with
  | .int q1 a=>match y with
   | .int q2 b=>match sameKind q q1 q2 with
    | true=>k (decide (a=b))
    | false=>False
   | _=>False
  | _=>False
 | some ⟨.string,_,_,_⟩=>match x with
  | .str a=>match y with
   | .str b=>k (decide (a=b))
   | _=>False
  | _=>False
 | some ⟨.bool,_,_,_⟩=>match x with
  | .bool a=>match y with
   | .bool b=>k (decide (a=b))
   | _=>False
  | _=>False
 | _=>False
def Qo (T:Tab):List Field→List AV→List AV→Nat→(Bool→Prop)→Prop
 | [],_,_,_,k=>k true
 | f::fs,xs,ys,j,k=>match xs with
  | []=>False
  | x::xs=>match ys with
   | []=>False
   | y::ys=>match Nat.beq f.offset j with
    | false=>False
    | true=>Tq T f.type x y fun b=>Qo T fs xs ys (j+1) fun r=>k (b&&r)
theorem Q5 {P:Program} {T:Tab} (hT:dh P T) {t:TypeId} {x y:AV} {k:Bool→Prop} (h:Tq T t x y k) :
  ∃ b,k b∧(∀ (cs:Array Value) (off:Nat) (c:Value),cs[off]?=some c→∀ w,(part t cs off).run P w=.ok c w)∧∀ {m:Ids} {S:Blocks} {w:World} {c e:Value},RelV m S w c x→RelV m S w e y→∀ (d:Nat) (w':World),(Op.equalIn (d+1) t c e).run P w'=.ok b w':=by
 unfold Tq at h;split at h
 ·rename_i q a1 a2 a3 hi;obtain ⟨hu,_⟩:=hT t _ hi;have hpart:∀ (cs:Array Value) (off:Nat) (c:Value),cs[off]?=some c→∀ w,(part t cs off).run P w=.ok c w:=fun cs off c hc w=>by
   simp [part,isAgg,run_underlying hu,hc]
  split at h
  ·rename_i q1 a;split at h
   ·rename_i q2 b;split at h
    ·rename_i hq;obtain ⟨rfl,rfl⟩:=UG hq;refine ⟨_,h,hpart,fun {m S w c e} h1 h2 d w'=>?_⟩;rw [PV h1,PV h2,run_equalIn_int w' d t _ _ a b hu];by_cases e:a=b<;>simp [e]
    ·exact h.elim
   ·exact h.elim
  ·exact h.elim
 ·rename_i a1 a2 a3 hi;obtain ⟨hu,_⟩:=hT t _ hi;have hpart:∀ (cs:Array Value) (off:Nat) (c:Value),cs[off]?=some c→∀ w,(part t cs off).run P w=.ok c w:=fun cs off c hc w=>by
   simp [part,isAgg,run_underlying hu,hc]
  split at h
  ·rename_i a;split at h
   ·rename_i b;refine ⟨_,h,hpart,fun {m S w c e} h1 h2 d w'=>?_⟩;obtain ⟨s1,rfl,rfl⟩:=Pv h1;obtain ⟨s2,rfl,rfl⟩:=Pv h2;rw [run_equalIn_string w' d t _ _ hu,ByteArray.toList_eq,ByteArray.toList_eq];have:(s1.data.toList == s2.data.toList)=decide (s1.data.toList=s2.data.toList):=by
     by_cases e:s1.data.toList=s2.data.toList
     ·simp [e]
     ·simp only [e,decide_false];exact beq_eq_false_iff_ne.2 e
    rw [this]
   ·exact h.elim
  ·exact h.elim
 ·rename_i a1 a2 a3 hi;obtain ⟨hu,_⟩:=hT t _ hi;have hpart:∀ (cs:Array Value) (off:Nat) (c:Value),cs[off]?=some c→∀ w,(part t cs off).run P w=.ok c w:=fun cs off c hc w=>by
   simp [part,isAgg,run_underlying hu,hc]
  split at h
  ·rename_i a;split at h
   ·rename_i b;refine ⟨_,h,hpart,fun {m S w c e} h1 h2 d w'=>?_⟩;have e1:c=.bool a:=by cases h1 with | t _ _ h=>cases h;rfl
    have e2:e=.bool b:=by cases h2 with | t _ _ h=>cases h;rfl
    rw [e1,e2,run_equalIn_bool w' d t _ _ hu];cases a<;>cases b<;>rfl
   ·exact h.elim
  ·exact h.elim
 ·exact h.elim
theorem Jj {P : Program} {T : Tab} (hT : dh P T) : ∀ (fs : List Field) (xs ys : List AV) (j : Nat) (k : Bool → Prop), Qo T fs xs ys j k → (∀ f ∈ fs, f.name ≠ "_") →
  ∃ b,k b∧∀ {m:Ids} {S:Blocks} {w:World} {cs es:Array Value},(∀ (i:Nat) (c:Value) (a:AV),cs[j+i]?=some c→xs[i]?=some a→RelV m S w c a)→(∀ (i:Nat) (c:Value) (a:AV),es[j+i]?=some c→ys[i]?=some a→RelV m S w c a) →
   cs.size=j+xs.length→es.size=j+ys.length→∀ (d:Nat) (w':World),(Op.eqFields (d+1) cs es fs).run P w'=.ok b w'
 | [],xs,ys,j,k,h,_=>⟨true,h,fun _ _ _ _ d w'=>rfl⟩
 | f::fs,[],ys,j,k,h,_=>h.elim
 | f::fs,x::xs,[],j,k,h,_=>h.elim
 | f::fs,x::xs,y::ys,j,k,h,hn=>by
  simp only [Qo] at h;split at h
  ·exact h.elim
  ·rename_i hb;have hoff:=Nat.eq_of_beq_eq_true hb;obtain ⟨b,h,hpart,heq⟩:=Q5 hT h;obtain ⟨r,hk,hr⟩:=Jj hT fs xs ys (j+1) _ h fun f hf=>hn f (by simp [hf])
   refine ⟨_,hk,fun {m S w cs es} h1 h2 hl1 hl2 d w'=>?_⟩;simp at hl1 hl2;obtain ⟨c,hc⟩:∃ c,cs[j]?=some c:=⟨_,Array.getElem?_eq_getElem (by omega)⟩;obtain ⟨e,he⟩:∃ e,es[j]?=some e:=⟨_,Array.getElem?_eq_getElem (by omega)⟩;have hname:=hn f (by simp);have hE:=heq (h1 0 c x (by rw [Nat.add_zero];exact hc) rfl) (h2 0 e y (by rw [Nat.add_zero];exact he) rfl) d w';have hrest:=hr (m:=m) (S:=S) (w:=w) (cs:=cs) (es:=es) (fun i c a p q=>h1 (i+1) c a Yf GV) (fun i c a p q=>h2 (i+1) c a Yf GV) (by omega) (by omega) d w';simp only [Op.eqFields,hname,ne_eq,not_false_eq_true,if_true,hoff,Sem.run_bind,hpart cs j _ hc w',hpart es j _ he w',Result.andThen_ok,hE];cases b with
   | false=>simp
   | true=>simpa using hrest
def Qg (P:Program) (T:Tab) (neg:Bool) (t:TypeId) (xs:List AV) (y:AV) (k:AV→Prop):Prop :=
 match h_ T t with
 | some ⟨.struct fs,_,_,_⟩=>match y with
  | .agg ys=>(P.keyTypeAt 3 t=true∧P.eqGuardType P.depth t=false)∧Qo T fs.toList xs ys 0 fun b=>match neg with
   | true=>k (.bool (!b))
   | false=>k (.bool b)
  | _=>False
 | _=>False
theorem Gu {p:Prop} (h:p:=by simpa using p):p:=h
theorem I5 [Tabs] {P:Program} {T:Tab} (hT:dh P T) {rd:Operand→AV} {H:Heap} {nx:Nat} {neg:Bool} {t yt:TypeId} {x y:Operand} {xs:List AV} {o:Oper} (ho:o.op=.binOp (if neg then .neq else .eql) t x y yt) (hx:rd x=.agg xs) {k:Res→Prop}
  (h:Qg P T neg t xs (rd y) fun v=>k ⟨v,[],[],nx⟩):∃ r,cZ P o [(x,true,rd x),(y,true,rd y)] H nx r∧(r.wr=[]∧r.nx=nx)∧k r:=by
 unfold Qg at h;split at h
 ·rename_i fs a1 a2 a3 hi;obtain ⟨hu,_⟩:=hT t _ hi;split at h
  ·rename_i ys hy;obtain ⟨⟨hkey,hgd⟩,h⟩:=h;unfold Program.keyTypeAt at hkey;simp only [hu,Bool.and_eq_true,Bool.not_eq_true',Array.all_eq_true_iff_forall_mem,bne_iff_ne,ne_eq] at hkey;obtain ⟨⟨hnames,_⟩,hstood⟩:=hkey;obtain ⟨b,hk,hb⟩:=Jj hT fs.toList xs ys 0 _ h fun f hf=>(hnames f (by simpa using hf)).1
   have hfo:P.fieldsOf t=fs:=by simp [Program.fieldsOf,hu]
   refine ⟨⟨.bool (if neg then !b else b),[],[],nx⟩,bF fun m S w a H₂ hG ht hus=>?_,⟨rfl,rfl⟩,?_⟩
   ·have h1:RelV m S w (a.eval x) (rd x):=hus (x,true,rd x) (by simp) rfl;have h2:RelV m S w (a.eval y) (rd y):=hus (y,true,rd y) (by simp) rfl;rw [hx] at h1;rw [hy] at h2;obtain ⟨cs,hcs,hl1,r1⟩:=pF h1;obtain ⟨es,hes,hl2,r2⟩:=pF h2;refine ⟨.bool (if neg then !b else b),fun w' _=>?_,.t _ _ (.bool _)⟩;have hf:=hb (m:=m) (S:=S) (w:=w) (cs:=cs) (es:=es) (fun i c a p q=>r1 i c a Gu q) (fun i c a p q=>r2 i c a Gu q) (by omega) (by omega) 9998 w';have heq:(Op.equalIn 10000 t (.agg cs) (.agg es)).run P w'=.ok b w':=by
     rw [run_equalIn_struct w' 9999 t cs es (by rw [hfo];exact hu) hstood,hfo];exact hf
    unfold execOp;cases neg with
    | false=>simp [ho,hcs,hes,run_eqGuard_agg w' .eql t x y cs es hgd,run_eql_struct,heq]
    | true=>simp [ho,hcs,hes,run_eqGuard_agg w' .neq t x y cs es hgd,run_neq_struct,heq]
   ·cases neg<;>exact hk
  ·exact h.elim
 ·exact h.elim
def MO (neg:Bool) (x:AV) (k:AV→Prop):Prop :=
 match x with
 | .nils=>k (.bool (!neg))
 | .sl _ _ _ xs=>∀ b:Bool,((if neg then !b else b)=true→xs=[])→k (.bool b)
 | .lsl _ xs=>∀ b:Bool,((if neg then !b else b)=true→xs=[])→k (.bool b)
 | _=>False
theorem GK [Tabs] {P:Program} {T:Tab} (hT:dh P T) {rd:Operand→AV} {H:Heap} {nx:Nat} {neg:Bool} {t yt e:TypeId} {s b:Nat} {z:Value} {x y:Operand} {o:Oper} (ho:o.op=.binOp (if neg then .neq else .eql) t x y yt) (hy:rd y=.nils)
  (hi:h_ T t=some ⟨.slice e,s,b,z⟩) {k:Res→Prop} (h:MO neg (rd x) fun v=>k ⟨v,[],[],nx⟩) :
  ∃ Rr,Bq P o [(x,true,rd x),(y,true,rd y)] H nx [] Rr∧∀ r,Rr r→nx≤r.nx∧k r:=by
 obtain ⟨hu,_⟩:=hT t _ hi;have hu':P.underlying t=some (.slice e):=hu;have run:∀ (a:Act) (w:World) (p:Option Addr) (n c:Nat),a.eval x=.slice p n c→a.eval y=.slice none 0 0→(execOp a.eval o).run P w=.ok (.value (.bool (if neg then !p.isNone else p.isNone))) w:=by
  intro a w p n c h1 h2;have hg:∀ (op:BinOp),(eqGuard op t x y (.slice p n c) (.slice none 0 0)).run P w=.ok () w:=by
   intro op;unfold eqGuard;split<;>rfl
  unfold execOp;cases neg with
  | false =>
   have he:(binOp .eql t (.slice p n c) (.slice none 0 0)).run P w=.ok (.bool p.isNone) w:=by
    simp only [binOp];simp [run_equal_slice_nil w t e p n c hu']
   simp [ho,h1,h2,hg,he]
  | true=>simp [ho,h1,h2,hg,run_neq_slice_nil w t e p n c hu']
 have nil:∀ {m:Ids} {S:Blocks} {w:World} {v:Value},RelV m S w v .nils→v=.slice none 0 0:=by
  intro m S w v h;cases h with
  | t _ _ h=>cases h;rfl
 have lsl:∀ {m:Ids} {S:Blocks} {w:World} {v:Value} {E:Nat} {l:List AV},RelT S w v (.lsl E l)→∃ p n c,v=.slice p n c∧(p.isNone=true→l=[]):=by
  intro m S w v E l h;rcases pq h with ⟨rfl | ⟨a,rfl⟩,hl⟩ | ⟨g',o',cap',cs,hv,_⟩
  ·exact ⟨none,0,0,rfl,fun _=>hl⟩
  ·exact ⟨_,0,0,rfl,fun _=>hl⟩
  ·exact ⟨_,_,_,hv,fun h=>by simp at h⟩
 have sem:∀ (Pb:Bool→Prop),(∀ (m:Ids) (S:Blocks) (w:World) (v:Value),RelV m S w v (rd x)→∃ p n c,v=.slice p n c∧Pb (if neg then !p.isNone else p.isNone)) →
   Bq P o [(x,true,rd x),(y,true,rd y)] H nx [] (fun r=>∃ b,Pb b∧r=⟨.bool b,[],[],nx⟩):=by
  intro Pb hp m S w a H₂ K Q hG ht hf hus hK;have h1:RelV m S w (a.eval x) (rd x):=hus (x,true,rd x) (by simp) rfl;have h2:RelV m S w (a.eval y) (rd y):=hus (y,true,rd y) (by simp) rfl;rw [hy] at h2;obtain ⟨p,n,c,hv,hb⟩:=hp m S w _ h1;unfold Oper.wp;rw [run a w p n c hv (nil h2),Oper.upon_value];exact hK _ ⟨_,hb,rfl⟩ _ m S w (Ext.refl hG nx) (.t _ _ (.bool _))
 unfold MO at h;split at h
 ·rename_i hx;refine ⟨_,sem (fun b=>b=!neg) fun m S w v hv=>?_,?_⟩
  ·rw [hx] at hv;exact ⟨none,0,0,nil hv,by cases neg<;>rfl⟩
  ·rintro r ⟨b,rfl,rfl⟩;exact ⟨Nat.le_refl _,h⟩
 ·rename_i V E enc d xs hx;refine ⟨_,sem (fun b=>(if neg then !b else b)=true→xs=[]) fun m S w v hv=>?_,?_⟩
  ·rw [hx] at hv;cases hv with
   | t _ _ h=>cases h with
    | sl E enc d xs v h =>
     obtain ⟨p,n,c,hp,hl⟩:=lsl (m:=m) h;refine ⟨p,n,c,hp,fun hb=>?_⟩;have:p.isNone=true:=by cases neg<;>simpa using hb
     simpa using hl this
  ·rintro r ⟨b,hb,rfl⟩;exact ⟨Nat.le_refl _,h b hb⟩
 ·rename_i E xs hx;refine ⟨_,sem (fun b=>(if neg then !b else b)=true→xs=[]) fun m S w v hv=>?_,?_⟩
  ·rw [hx] at hv;cases hv with
   | t _ _ h =>
    obtain ⟨p,n,c,hp,hl⟩:=lsl (m:=m) h;refine ⟨p,n,c,hp,fun hb=>?_⟩;have:p.isNone=true:=by cases neg<;>simpa using hb
    exact hl this
  ·rintro r ⟨b,hb,rfl⟩;exact ⟨Nat.le_refl _,h b hb⟩
 ·exact h.elim
def y9 (P:Program) (T:Tab) (g:Option Bool) (op:BinOp) (t:TypeId) (x y:AV) (c:AV→Prop):Prop :=
 match x with
 | .agg xs=>match op with
  | .eql=>Qg P T false t xs y c
  | .neq=>Qg P T true t xs y c
  | _=>False
 | _=>Yu T g op t x y c
theorem qp [Tabs] {P:Program} {T:Tab} (hT:dh P T) {g:Option Bool} {rd:Operand→AV} {H:Heap} {nx:Nat} {op:BinOp} {t yt:TypeId} {x y:Operand} {o:Oper} (ho:o.op=.binOp op t x y yt) {k:Res→Prop}
  (h:y9 P T g op t (rd x) (rd y) fun v=>k ⟨v,[],[],nx⟩):∃ r,(ig g→cZ P o [(x,true,rd x),(y,true,rd y)] H nx r)∧(r.wr=[]∧r.nx=nx)∧k r:=by
 unfold y9 at h;split at h
 ·rename_i xs hx;split at h
  ·obtain ⟨r,h1,h2⟩:=I5 (neg:=false) hT ho hx h;exact ⟨r,fun _=>h1,h2⟩
  ·obtain ⟨r,h1,h2⟩:=I5 (neg:=true) hT ho hx h;exact ⟨r,fun _=>h1,h2⟩
  ·exact h.elim
 ·exact UJ hT ho h
def QN (P:Program) (T:Tab) (g:Option Bool) (op:BinOp) (t:TypeId) (x y:AV) (c:AV→Prop):Prop :=
 match op with
 | .add=>match x,y with
  | .int .i64 a,.int .i64 b=>c (.int .i64 (IntKind.i64.wrap (a+b)))
  | _,_=>y9 P T g op t x y c
 | .sub=>match x,y with
  | .int .i64 a,.int .i64 b=>c (.int .i64 (IntKind.i64.wrap (a-b)))
  | _,_=>y9 P T g op t x y c
 | .mul=>match x,y with
  | .int .i64 a,.int .i64 b=>c (.int .i64 (IntKind.i64.wrap (a*b)))
  | _,_=>y9 P T g op t x y c
 | _=>y9 P T g op t x y c
theorem Ue [Tabs] {P:Program} {T:Tab} (hT:dh P T) {g:Option Bool} {rd:Operand→AV} {H:Heap} {nx:Nat} {op:BinOp} {t yt:TypeId} {x y:Operand} {o:Oper} (ho:o.op=.binOp op t x y yt) {k:Res→Prop}
  (h:QN P T g op t (rd x) (rd y) fun v=>k ⟨v,[],[],nx⟩):∃ r,(ig g→cZ P o [(x,true,rd x),(y,true,rd y)] H nx r)∧(r.wr=[]∧r.nx=nx)∧k r:=by
 have fin:∀ (op':BinOp) (f:Int→Int→Int) (a b:Int),op=op'→(∀ (w:World) (a b:Int),(binOp op' t (.int .i64 a) (.int .i64 b)).run P w=.ok (.int .i64 (IntKind.i64.wrap (f a b))) w)→rd x=.int .i64 a→rd y=.int .i64 b→k ⟨.int .i64 (IntKind.i64.wrap (f a b)),[],[],nx⟩ →
   ∃ r,(ig g→cZ P o [(x,true,rd x),(y,true,rd y)] H nx r)∧(r.wr=[]∧r.nx=nx)∧k r:=by
  intro op' f a b hop hrun hx hy hk;subst hop;refine ⟨_,fun hg=>bF fun m S w act H₂ hG ht hus=>?_,⟨rfl,rfl⟩,hk⟩;have h1:=hus (x,true,rd x) (by simp) rfl;have h2:=hus (y,true,rd y) (by simp) rfl;simp only [hx,hy] at h1 h2;refine ⟨.int .i64 (IntKind.i64.wrap (f a b)),fun w' _=>?_,.t _ _ (.int _ _)⟩;have guard:(eqGuard op t x y (.int .i64 a) (.int .i64 b)).run P w'=.ok () w':=by unfold eqGuard;split<;>rfl
  unfold execOp;simp only [ho,iF h1,iF h2];simp only [Sem.run_bind,guard,Result.andThen_ok,hrun w' a b,Sem.run_pure]
 unfold QN at h;split at h
 ·split at h
  ·rename_i a b hx hy;exact fin .add (·+·) a b rfl (fun w a b=>by simp only [binOp,Op.intArith];simp) hx hy h
  ·exact qp hT ho h
 ·split at h
  ·rename_i a b hx hy;exact fin .sub (·-·) a b rfl (fun w a b=>by simp only [binOp,Op.intArith];simp) hx hy h
  ·exact qp hT ho h
 ·split at h
  ·rename_i a b hx hy;exact fin .mul (·*·) a b rfl (fun w a b=>by simp only [binOp,Op.intArith];simp) hx hy h
  ·exact qp hT ho h
 ·exact qp hT ho h
def abj:AV→Option Bool
 | .nils=>some true
 | .lsl _ (_::_)=>some false
 | .sl _ _ _ (_::_)=>some false
 | _=>none
def Lh (T:Tab) (op:BinOp) (t:TypeId) (x:AV) (k:AV→Prop):Prop :=
 match h_ T t with
 | some ⟨.slice _,_,_,_⟩=>match abj x with
  | some b=>match op with
   | .eql=>k (.bool b)
   | .neq=>k (.bool (!b))
   | _=>False
  | none=>False
 | _=>False
theorem Yg {m:Ids} {S:Blocks} {w:World} {v:Value} {a:AV} {b:Bool} (h:RelV m S w v a) (hd:abj a=some b):∃ p n c,v=.slice p n c∧p.isNone=b:=by
 unfold abj at hd;split at hd
 ·cases hd;cases h with
  | t _ _ h=>cases h;exact ⟨_,_,_,rfl,rfl⟩
 ·cases hd;rcases pq (yu h) with ⟨_,hl⟩ | ⟨g',o',cap',cs,hv,_⟩
  ·cases hl
  ·exact ⟨_,_,_,hv,rfl⟩
 ·cases hd;rcases pq (Ec h) with ⟨_,hl⟩ | ⟨g',o',cap',cs,hv,_⟩
  ·cases hl
  ·exact ⟨_,_,_,hv,rfl⟩
 ·cases hd
theorem Ri [Tabs] {P:Program} {T:Tab} (hT:dh P T) {rd:Operand→AV} {H:Heap} {nx:Nat} {op:BinOp} {t yt:TypeId} {x y:Operand} {o:Oper} (ho:o.op=.binOp op t x y yt) (hy:rd y=.nils) {k:Res→Prop}
  (h:Lh T op t (rd x) fun v=>k ⟨v,[],[],nx⟩):∃ r,cZ P o [(x,true,rd x),(y,true,rd y)] H nx r∧(r.wr=[]∧r.nx=nx)∧k r:=by
 unfold Lh at h;split at h
 ·rename_i e s b z hi;obtain ⟨hu,_⟩:=hT t _ hi;have hu':P.underlying t=some (.slice e):=hu;split at h
  ·rename_i b hb;have main:∀ neg:Bool,op=(if neg then .neq else .eql)→k ⟨.bool (if neg then !b else b),[],[],nx⟩→∃ r,cZ P o [(x,true,rd x),(y,true,rd y)] H nx r∧(r.wr=[]∧r.nx=nx)∧k r:=by
    intro neg hop hk;refine ⟨_,bF fun m S w a H₂ hG ht hus=>?_,⟨rfl,rfl⟩,hk⟩;have hx:RelV m S w (a.eval x) (rd x):=hus (x,true,rd x) (by simp) rfl;have hy':RelV m S w (a.eval y) (rd y):=hus (y,true,rd y) (by simp) rfl;obtain ⟨p,n,c,h1,h3⟩:=Yg hx hb;have h2:a.eval y=.slice none 0 0:=by
     rw [hy] at hy';generalize a.eval y=v at hy';cases hy' with
     | t _ _ h=>cases h;rfl
    refine ⟨.bool (if neg then !b else b),fun w' _=>?_,.t _ _ (.bool _)⟩;have hg:∀ (op:BinOp),(eqGuard op t x y (.slice p n c) (.slice none 0 0)).run P w'=.ok () w':=by
     intro op;unfold eqGuard;split<;>rfl
    unfold execOp;cases neg with
    | false =>
     have he:(binOp .eql t (.slice p n c) (.slice none 0 0)).run P w'=.ok (.bool p.isNone) w':=by
      simp only [binOp];simp [run_equal_slice_nil w' t e p n c hu']
     simp [ho,hop,h1,h2,hg,he,h3]
    | true=>simp [ho,hop,h1,h2,hg,run_neq_slice_nil w' t e p n c hu',h3]
   split at h
   ·exact main false rfl h
   ·exact main true rfl h
   ·exact h.elim
  ·exact h.elim
 ·exact h.elim
def Zk:Operand→Bool
 | .const .nilIface=>true
 | _=>false
def QM (T:Tab) (op:BinOp) (t:TypeId) (x:AV) (k:AV→Prop):Prop :=
 match h_ T t with
 | some ⟨.interface _,_,_,_⟩=>match x with
  | .ifc b=>match op with
   | .eql=>k (.bool b)
   | .neq=>k (.bool (!b))
   | _=>False
  | .ival _ _=>match op with
   | .eql=>k (.bool false)
   | .neq=>k (.bool true)
   | _=>False
  | _=>False
 | _=>False
theorem Qe {p:Prop}(h:p:=by
 unfold Op.equal Op.maxDepth;rw [Op.equalIn];simp [run_underlying hu']):p:=h
theorem S9 [Tabs] {P:Program} {T:Tab} (hT:dh P T) {rd:Operand→AV} {H:Heap} {nx:Nat} {op:BinOp} {t yt:TypeId} {x y:Operand} {o:Oper} (ho:o.op=.binOp op t x y yt) (hy:Zk y=true) {k:Res→Prop}
  (h:QM T op t (rd x) fun v=>k ⟨v,[],[],nx⟩):∃ r,cZ P o [(x,true,rd x),(y,true,rd y)] H nx r∧(r.wr=[]∧r.nx=nx)∧k r:=by
 have hyc:y=.const .nilIface:=by
  unfold Zk at hy;split at hy
  ·rfl
  ·cases hy
 subst hyc;unfold QM at h;split at h
 ·rename_i ms s b0 z hi;obtain ⟨hu,_⟩:=hT t _ hi;have hu':P.underlying t=some (.interface ms):=hu;have eq0:∀ w':World,(Op.equal t .nilIface .nilIface).run P w'=.ok true w':=fun w'=>by
   exact Qe
  have eq1:∀ (w':World) (u:TypeId) (v:Value),(Op.equal t (.iface u v) .nilIface).run P w'=.ok false w':=fun w' u v=>by
   exact Qe
  have main:∀ (b:Bool),(∀ (m:Ids) (S:Blocks) (w:World) (v:Value),RelV m S w v (rd x)→(v=.nilIface∧b=true)∨(∃ u q,v=.iface u q)∧b=false)→∀ neg:Bool,op=(if neg then .neq else .eql)→k ⟨.bool (if neg then !b else b),[],[],nx⟩→∃ r,cZ P o [(x,true,rd x),(.const .nilIface,true,rd (.const .nilIface))] H nx r∧(r.wr=[]∧r.nx=nx)∧k r:=by
   intro b hb neg hop hk;refine ⟨_,bF fun m S w a H₂ hG ht hus=>?_,⟨rfl,rfl⟩,hk⟩;have hx:RelV m S w (a.eval x) (rd x):=hus (x,true,rd x) (by simp) rfl;refine ⟨.bool (if neg then !b else b),fun w' _=>?_,.t _ _ (.bool _)⟩;have h2:a.eval (.const .nilIface)=.nilIface:=rfl;have hx:=hb m S w _ hx;generalize hv:a.eval x=v at hx;have hg:∀ (op:BinOp),(eqGuard op t x (.const .nilIface) .nilIface .nilIface).run P w'=.ok () w':=by
    intro op;cases op<;>cases x<;>rfl
   have hg1:∀ (op:BinOp) (u:TypeId) (q:Value),(eqGuard op t x (.const .nilIface) (.iface u q) .nilIface).run P w'=.ok () w':=by
    intro op u q;cases op<;>rfl
   unfold execOp;rcases hx with ⟨rfl,rfl⟩ | ⟨⟨u,q,rfl⟩,rfl⟩
   ·cases neg<;>simp [ho,hop,hv,h2,hg,binOp,eq0]
   ·cases neg<;>simp [ho,hop,hv,h2,hg1,binOp,eq1]
  split at h
  ·rename_i b hb;have hb':∀ (m:Ids) (S:Blocks) (w:World) (v:Value),RelV m S w v (rd x)→(v=.nilIface∧b=true)∨(∃ u q,v=.iface u q)∧b=false:=by
    intro m S w v hx;rw [hb] at hx;cases hx with
    | t _ _ hx=>cases hx with
     | ifc0=>exact .inl ⟨rfl,rfl⟩
     | ifc1 u v=>exact .inr ⟨⟨u,v,rfl⟩,rfl⟩
   split at h
   ·exact main b hb' false rfl h
   ·exact main b hb' true rfl h
   ·exact h.elim
  ·rename_i u l hb;have hb':∀ (m:Ids) (S:Blocks) (w:World) (v:Value),RelV m S w v (rd x)→(v=.nilIface∧false=true)∨(∃ u q,v=.iface u q)∧false=false:=by
    intro m S w v hx;rw [hb] at hx;cases hx with
    | t _ _ hx=>cases hx with
     | ival u cs l hl h=>exact .inr ⟨⟨u,_,rfl⟩,rfl⟩
   split at h
   ·exact main false hb' false rfl h
   ·exact main false hb' true rfl h
   ·exact h.elim
  ·exact h.elim
 ·exact h.elim
def Q8:AV→Option Bool
 | .ptr _ _=>some false
 | .rop _=>some false
 | .eptr _ _ _ _=>some false
 | .nilp=>some true
 | _=>none
def TQ (T:Tab) (op:BinOp) (t:TypeId) (x:AV) (k:AV→Prop):Prop :=
 match h_ T t with
 | some ⟨.pointer _,_,_,_⟩=>match Q8 x with
  | some b=>match op with
   | .eql=>k (.bool b)
   | .neq=>k (.bool (!b))
   | _=>False
  | _=>False
 | _=>False
def YF:Operand→Bool
 | .const .nilIface=>true
 | .const (.pointer none)=>true
 | _=>false
def KZ (T:Tab) (op:BinOp) (t:TypeId) (y:Operand) (x:AV) (k:AV→Prop):Prop :=
 match y with
 | .const .nilIface=>QM T op t x k
 | .const (.pointer none)=>TQ T op t x k
 | _=>False
theorem Si {m:Ids} {S:Blocks} {w:World} {v:Value} {x:AV} {b:Bool} (h:RelV m S w v x) (hb:Q8 x=some b):(b=true∧v=.pointer none)∨(b=false∧∃ a,v=.pointer (some a)):=by
 cases x<;>simp only [Q8,Option.some.injEq,reduceCtorEq] at hb
 case nilp =>
  cases h with
  | t _ _ h=>cases h;exact .inl ⟨hb.symm,rfl⟩
 case rop =>
  cases h with
  | t _ _ h=>cases h;exact .inr ⟨hb.symm,_,rfl⟩
 case ptr =>
  cases h with
  | t _ _ h=>cases h
  | ptr=>exact .inr ⟨hb.symm,_,rfl⟩
 case eptr =>
  cases h with
  | t _ _ h=>cases h
  | eptr=>exact .inr ⟨hb.symm,_,rfl⟩
theorem Tz [Tabs] {P:Program} {T:Tab} (hT:dh P T) {rd:Operand→AV} {H:Heap} {nx:Nat} {op:BinOp} {t yt:TypeId} {x:Operand} {o:Oper} (ho:o.op=.binOp op t x (.const (.pointer none)) yt) {k:Res→Prop}
  (h:TQ T op t (rd x) fun v=>k ⟨v,[],[],nx⟩):∃ r,cZ P o [(x,true,rd x),(.const (.pointer none),true,rd (.const (.pointer none)))] H nx r∧(r.wr=[]∧r.nx=nx)∧k r:=by
 unfold TQ at h;split at h
 ·rename_i el s b0 z hi;obtain ⟨hu,_⟩:=hT t _ hi;have hu':P.underlying t=some (.pointer el):=hu;split at h
  ·rename_i b hb;have eq0:∀ w':World,(Op.equal t (.pointer none) (.pointer none)).run P w'=.ok true w':=fun w'=>by
    exact Qe
   have eq1:∀ (w':World) (a:Addr),(Op.equal t (.pointer (some a)) (.pointer none)).run P w'=.ok false w':=fun w' a=>by
    exact Qe
   have main:∀ neg:Bool,op=(if neg then .neq else .eql)→k ⟨.bool (if neg then !b else b),[],[],nx⟩→∃ r,cZ P o [(x,true,rd x),(.const (.pointer none),true,rd (.const (.pointer none)))] H nx r∧(r.wr=[]∧r.nx=nx)∧k r:=by
    intro neg hop hk;refine ⟨_,bF fun m S w a H₂ hG ht hus=>?_,⟨rfl,rfl⟩,hk⟩;have hx:RelV m S w (a.eval x) (rd x):=hus (x,true,rd x) (by simp) rfl;refine ⟨.bool (if neg then !b else b),fun w' _=>?_,.t _ _ (.bool _)⟩;have h2:a.eval (.const (.pointer none))=.pointer none:=rfl;have hv:=Si hx hb;generalize he:a.eval x=v at hv;have hg:∀ (op:BinOp) (u:Option Addr),(eqGuard op t x (.const (.pointer none)) (.pointer u) (.pointer none)).run P w'=.ok () w':=by
     intro op u;cases op<;>rfl
    unfold execOp;rcases hv with ⟨rfl,rfl⟩ | ⟨rfl,u,rfl⟩
    ·cases neg<;>simp [ho,hop,he,h2,hg,binOp,eq0]
    ·cases neg<;>simp [ho,hop,he,h2,hg,binOp,eq1]
   split at h
   ·exact main false rfl h
   ·exact main true rfl h
   ·exact h.elim
  ·exact h.elim
 ·exact h.elim
theorem Hw [Tabs] {P:Program} {T:Tab} (hT:dh P T) {rd:Operand→AV} {H:Heap} {nx:Nat} {op:BinOp} {t yt:TypeId} {x y:Operand} {o:Oper} (ho:o.op=.binOp op t x y yt) {k:Res→Prop}
  (h:KZ T op t y (rd x) fun v=>k ⟨v,[],[],nx⟩):∃ r,cZ P o [(x,true,rd x),(y,true,rd y)] H nx r∧(r.wr=[]∧r.nx=nx)∧k r:=by
 unfold KZ at h;split at h
 ·exact S9 hT ho rfl h
 ·exact Tz hT ho h
 ·exact h.elim
def Ws (g:Option Bool) (op:UnOp) (x:AV) (c:AV→Prop):Prop :=
 match op,x with
 | .neg,.int .i64 n=>c (.int .i64 (IntKind.i64.wrap (0-n)))
 | _,_=>Ur g op x c
theorem UY [Tabs] {P:Program} {g:Option Bool} {rd:Operand→AV} {H:Heap} {nx:Nat} {op:UnOp} {t:TypeId} {x:Operand} {o:Oper} (ho:o.op=.unOp op t x) {k:Res→Prop}
  (h:Ws g op (rd x) fun v=>k ⟨v,[],[],nx⟩):∃ r,(ig g→cZ P o [(x,true,rd x)] H nx r)∧(r.wr=[]∧r.nx=nx)∧k r:=by
 unfold Ws at h;split at h
 ·rename_i n hp;refine ⟨_,fun hg=>bF fun m S w a H₂ hG ht hus=>?_,⟨rfl,rfl⟩,h⟩;have hx:RelV m S w (a.eval x) (rd x):=hus (x,true,rd x) (by simp) rfl;rw [hp] at hx;exact ⟨.int .i64 (IntKind.i64.wrap (0-n)),fun w' _=>by unfold execOp;simp only [ho,iF hx,Op.unary,Op.intArith];rfl,.t _ _ (.int _ _)⟩
 ·exact Fg ho h
inductive AR:Type 1 where
 | val (a:AV)
 | new (b:AB)
def qI (S:Blocks) (w:World) (B:Nat) (v:Value):AR→Prop
 | .val a=>RelT S w v a
 | .new b=>b.live=true∧(∀ k,blk v=some k→B≤k)∧∀ n,RelB (fun i=>if i=n then some v else none) S w n b
def nG:List Value→Value
 | [v]=>v
 | vs=>.tuple vs.toArray
structure Left (S:Blocks) (w:World) (us:List Value) (rs:List AR) (S':Blocks) (w':World):Prop where
 len:us.length=rs.length
 rel:∀ (j:Nat) (u:Value) (r:AR),us[j]?=some u→rs[j]?=some r→qI S' w' w.heap.size u r
 below:RowKit.Below w.heap.size w w'
 ros:∀ g,S g→S' g
 fresh:∀ g,S' g→S g∨w.heap.size≤g
 lt:∀ g,S' g→g<w'.heap.size
 apart:∀ (i:Nat) (u:Value) (b:AB) (k:Nat),us[i]?=some u→rs[i]?=some (.new b)→blk u=some k→¬ S' k ∧
  ∀ (j:Nat) (u':Value) (b':AB),us[j]?=some u'→rs[j]?=some (.new b')→blk u'=some k→i=j
def zN (P : Program) (f : FuncId) : Prop := ∃ fn, P.funcs[f]? = some fn ∧ fn.body.isSome = true ∧ (fn.name == "runtime.NumGoroutine") = false
def Me (S:Blocks) (w:World) (vs:List Value) (args:List AV):Prop :=
 vs.length=args.length∧∀ (j:Nat) (v:Value) (a:AV),vs[j]?=some v→args[j]?=some a→RelT S w v a
def bM [Tabs] (P:Program) (f:FuncId) (args:List AV) (R:List AR→Prop):Prop :=
 zN P f∧∀ (S:Blocks) (w:World) (vs:List Value),(∀ g,S g→g<w.heap.size)→TabAt S w→Me S w vs args →
  Calls P f vs.toArray w fun e w'=>∃ us rs S',e=.returned (nG us)∧R rs∧Left S w us rs S' w'
abbrev ak [Tabs] (P:Program) (f:FuncId) (args:List AV) (v:AV):Prop:=bM P f args (fun rs=>rs=[.val v])
theorem bM.mono [Tabs] {P:Program} {f:FuncId} {args:List AV} {R R':List AR→Prop} (h:bM P f args R) (hr:∀ rs,R rs→R' rs):bM P f args R' :=
 ⟨h.1,fun S w vs hS hT hv=>(h.2 S w vs hS hT hv).mono fun _ _ ⟨us,rs,S',he,hR,hl⟩=>⟨us,rs,S',he,hr _ hR,hl⟩⟩
def rF:List AV→Bool
 | []=>true
 | a::l=>match a.tree with
  | true=>rF l
  | false=>false
theorem vH:∀ {l:List AV},rF l=true→∀ a∈l,a.tree=true
 | [],_,a,h=>by simp at h
 | b::l,h,a,ha=>by
  unfold rF at h;split at h
  ·rename_i hb;rcases List.mem_cons.1 ha with rfl | ha
   ·exact hb
   ·exact vH h a ha
  ·cases h
inductive Bor (H:Heap):AV→AV→List Nat→Prop
 | same (a:AV) (h:a.tree=true):Bor H a a []
 | lsl {T:Type} (E:Nat) (l:List AV) (enc:T→AV) (d:T) (xs:List T) (h:l=xs.map enc):Bor H (.lsl E l) (.sl E enc d xs) []
 | nils {T:Type} (E:Nat) (enc:T→AV) (d:T):Bor H .nils (.sl E enc d []) []
 | nill (E:Nat):Bor H .nils (.lsl E []) []
 | row {T:Type} (id e E:Nat) (enc:T→AV) (d:T) (xs:List T) (h:aA H id=.row e E enc d xs):Bor H (.own id) (.sl E enc d xs) [id]
 | lst (id e E:Nat) (l:List AV) (h:aA H id=.lst e E l):Bor H (.own id) (.lsl E l) [id]
 | lstrow {T:Type} (id e E:Nat) (l:List AV) (enc:T→AV) (d:T) (xs:List T) (h:aA H id=.lst e E l) (hl:l=xs.map enc):Bor H (.own id) (.sl E enc d xs) [id]
 | pre {T:Type} (id n e E:Nat) (enc:T→AV) (d:T) (xs:List T) (h:aA H id=.row e E enc d xs):Bor H (.pre id n) (.sl E enc d (xs.take n)) [id]
 | part {T:Type} (id off n e E:Nat) (enc:T→AV) (d:T) (xs:List T) (h:aA H id=.row e E enc d xs):Bor H (.part id E off n) (.sl E enc d ((xs.drop off).take n)) [id]
 | smap {V:Type} (id:Nat) (ev:V→AV) (dv:V) (es:List (List UInt8×V)) (h:aA H id=.smap ev dv es):Bor H (.map id) (.rsmap ev dv es) [id]
 | imap {V:Type} (id:Nat) (k:IntKind) (ev:V→AV) (dv:V) (es:List (Int×V)) (h:aA H id=.imap k ev dv es):Bor H (.map id) (.rimap k ev dv es) [id]
 | gmap {V:Type} (id:Nat) (k:List KK) (ev:V→AV) (dv:V) (es:List (List KV×V)) (h:aA H id=.gmap k ev dv es):Bor H (.map id) (.rgmap k ev dv es) [id]
 | boxt (id e:Nat) (l:List AV) (h:aA H id=.cells e l) (ht:rF l=true) (h1:lF l=true):Bor H (.ptr id 0) (.rop l) [id]
inductive BorL (B:AV→AV→List Nat→Prop):List AV→List AV→List Nat→Prop
 | nil:BorL B [] [] []
 | cons {a a':AV} {l l':List AV} {t t':List Nat} (h:B a a' t) (hl:BorL B l l' t'):BorL B (a::l) (a'::l') (t++t')
inductive Bor1 (H:Heap) (B:AV→AV→List Nat→Prop):AV→AV→List Nat→Prop
 | base {a a':AV} {t:List Nat} (h:B a a' t):Bor1 H B a a' t
 | box (id off e:Nat) (l l':List AV) (t:List Nat) (h:aA H id=.cells e l) (hl:BorL B (l.drop off) l' t) (h1:∀ a∈l',a.one=true):Bor1 H B (.ptr id off) (.rop l') (id::t)
 | fn (f:Fn) (a b a' b':List AV) (t t':List Nat) (h:BorL B a a' t) (h':BorL B b b' t'):Bor1 H B (.fn f a b) (.fn f a' b') (t++t')
 | agg (l l':List AV) (t:List Nat) (h:BorL B l l' t):Bor1 H B (.agg l) (.agg l') t
def lent (m:Ids) (H:Heap) (touch:List Nat):Blocks:=fun g=>∃ id v,id∈touch∧(aA H id).live=true∧m id=some v∧blk v=some g
def LU [Tabs] (H:Heap) (B:AV→AV→List Nat→Prop):Prop :=
 ∀ a a' touch,B a a' touch→∀ (m:Ids) (S:Blocks) (w:World) (H₂:Heap) (S₂:Blocks) (v:Value),Good m S w H₂→(∀ id∈touch,aA H₂ id=aA H id)→(∀ g,S g→S₂ g)→(∀ g,lent m H₂ touch g→S₂ g) →
  RelV m S w v a→RelT S₂ w v a'
theorem RelT.more {S S':Blocks} {w:World} (hS:∀ g,S g→S' g) {v:Value} {a:AV} (h:RelT S w v a):RelT S' w v a:=h.mono hS (fun _ _=>rfl)
theorem RowRel.lent {S S₂:Blocks} {w:World} {e E:Nat} {l:List AV} {v:Value} {vs:List Value} (h:RowRel S w e E l v vs) (hS:∀ g,S g→S₂ g) (hl:∀ g,blk v=some g→S₂ g):RelT S₂ w v (.lsl E l):=by
 obtain ⟨hlen,ho⟩:=h.owns;rcases ho with ⟨rfl,h0⟩ | ⟨g,cap,cur,rfl,_,hh,hnc,hcm,hcs,htake⟩
 ·have:l=[]:=List.eq_nil_of_length_eq_zero h0;subst this;exact .lslnil E
 ·refine .lsl E l g 0 cap vs (hl g rfl) hnc h.size h.ones hlen (fun j c hj=>?_) (fun j c a hj ha=>(h.rel j c a hj ha).more hS);have:=h.owns.cells (g:=g) rfl j c hj
  rwa [Addr.add_mid] at this
theorem adu {p:Prop}(h:p:=by
 have:=RelT.lsl (S:=S₂) (w:=w) E [] g (off*E) c [] (hl g ⟨id,_,by simp,by rw [ht id (by simp),h];rfl,hmi,rfl⟩) (by simp) (by simp) (by simp [flat]) (by simp) (by simp) (by simp);simpa using this):p:=h
theorem ae_ {p:Prop}(h:p:=by
 exact hrow.lent hS fun g hg=>hl g ⟨id,_,by simp,by rw [ht id (by simp),h];rfl,hmi,hg⟩):p:=h
theorem Xm [Tabs] (H:Heap):LU H (Bor H):=by
 intro a a' touch hb m S w H₂ S₂ v hG ht hS hl hr;cases hb with
 | same a h=>exact (hr.toT h).more hS
 | lsl E l enc d xs h=>exact .sl _ _ _ _ _ (by rw [← h];exact (yu hr).more hS)
 | nils E enc d=>cases hr with
  | t _ _ h=>cases h;exact .sl _ _ _ _ _ (.lslnil E)
 | nill E=>cases hr with
  | t _ _ h=>cases h;exact .lslnil E
 | row id e E enc d xs h =>
  obtain ⟨v',vs,hmi,hrow⟩:=jB (s:=.row enc d xs) hG (ht id (by simp)) h;cases hr with
  | t _ _ h=>cases h
  | own id n cap a hm =>
   rw [hmi] at hm;cases hm;exact .sl _ _ _ _ _ (hrow.lent hS fun g hg=>hl g ⟨id,_,by simp,by rw [ht id (by simp),h];rfl,hmi,hg⟩)
 | lst id e E l h =>
  obtain ⟨v',vs,hmi,hrow⟩:=jB (s:=.lst l) hG (ht id (by simp)) h;cases hr with
  | t _ _ h=>cases h
  | own id n cap a hm =>
   rw [hmi] at hm;cases hm;exact ae_
 | lstrow id e E l enc d xs h hle =>
  obtain ⟨v',vs,hmi,hrow⟩:=jB (s:=.lst l) hG (ht id (by simp)) h;cases hr with
  | t _ _ h=>cases h
  | own id n cap a hm =>
   rw [hmi] at hm;cases hm;refine .sl _ _ _ _ _ ?_;rw [← hle];exact ae_
 | pre id n e E enc d xs h =>
  obtain ⟨v',vs,hmi,hrow⟩:=jB (s:=.row enc d xs) hG (ht id (by simp)) h;cases hr with
  | t _ _ h=>cases h
  | pre id len n cap a hm hle =>
   rw [hmi] at hm;cases hm;refine .sl _ _ _ _ _ ?_;rw [List.map_take];exact (hrow.take hle).lent hS fun g hg=>hl g ⟨id,_,by simp,by rw [ht id (by simp),h];rfl,hmi,by cases a with
    | none=>simp [blk] at hg
    | some a=>exact hg⟩
 | part id off n e E enc d xs h =>
  obtain ⟨v',vs,hmi,hrow⟩:=jB (s:=.row enc d xs) hG (ht id (by simp)) h;cases hr with
  | t _ _ h=>cases h
  | part _ _ _ _ g n' cap c hm hle hc0 =>
   rw [hmi] at hm;cases hm;have hL:=hrow.lent hS fun g hg=>hl g ⟨id,_,by simp,by rw [ht id (by simp),h];rfl,hmi,hg⟩
   rcases pq hL with ⟨h0 | ⟨ad,h0⟩,hnil⟩ | ⟨g',o',cap',cs,hv,hSg,hcap,hE,h1,hlen,hc,hrr⟩
   ·cases h0
   ·cases h0;have hx0:xs=[]:=by simpa [Src.list] using hnil
    have hn0:n=0:=by omega
    subst hx0;subst hn0;refine .sl _ _ _ _ _ ?_;exact adu
   ·cases hv;have hsub:=VE hSg hcap hE h1 hlen hc hrr (lo:=off) (hi:=off+n) (by omega) hle;refine .sl _ _ _ _ _ ?_;have e1:(((Src.row enc d xs).list.take (off+n)).drop off)=((xs.drop off).take n).map enc:=by
     simp [Src.list,List.map_take,List.map_drop,List.drop_take]
    rw [e1] at hsub;have hlen2:(((xs.drop off).take n).map enc).length=n:=by
     have:off+n≤(xs.map enc).length:=hle;simp at this ⊢;omega
    rcases pq hsub with ⟨h0 | ⟨ad,h0⟩,hnil⟩ | ⟨g2,o2,cap2,cs2,hv2,hS2,hcap2,hE2,h12,hlen3,hc2,hrr2⟩
    ·cases h0
    ·have hn0:n=0:=by rw [← hlen2,hnil];rfl
     subst hn0;exact adu
    ·have hg:g=g2∧o2=0+off*E:=by
      have:=hv2;simp at this;omega
     obtain ⟨rfl,rfl⟩:=hg;have:=RelT.lsl (S:=S₂) (w:=w) E _ g (0+off*E) c cs2 hS2 (by rw [hlen2];exact hc0) hE2 h12 hlen3 hc2 hrr2;rw [hlen2] at this;simpa using this
  | partE _ _ _ c g n' cap hm =>
   rw [List.take_zero];refine .sl _ _ _ _ _ ?_;have:=RelT.lsl (S:=S₂) (w:=w) E [] g 0 c [] (hl g ⟨id,_,by simp,by rw [ht id (by simp),h];rfl,hm,rfl⟩) (by simp) (by simp) (by simp [flat]) (by simp) (by simp) (by simp);simpa using this
  | partN id E off=>simp;exact .sl _ _ _ _ _ (.lslnil E)
 | smap id ev dv es h =>
  have hb:=hG.rel id;rw [ht id (by simp),h] at hb;obtain ⟨r,en,clock,hmi,hr',hlen,hst,hrel⟩:=hb;cases hr with
  | t _ _ h=>cases h
  | map id r' hm =>
   rw [hmi] at hm;cases hm;exact .rsmap ev dv es r clock en (hl r ⟨id,_,by simp,by rw [ht id (by simp),h];rfl,hmi,rfl⟩) hr' hlen hst (fun j x p h1 h2=>(hrel j x p h1 h2).1) (fun j x p h1 h2=>(hrel j x p h1 h2).2.more hS)
 | imap id k ev dv es h =>
  have hb:=hG.rel id;rw [ht id (by simp),h] at hb;obtain ⟨r,en,clock,hmi,hr',hlen,hst,hrel⟩:=hb;cases hr with
  | t _ _ h=>cases h
  | map id r' hm =>
   rw [hmi] at hm;cases hm;exact .rimap k ev dv es r clock en (hl r ⟨id,_,by simp,by rw [ht id (by simp),h];rfl,hmi,rfl⟩) hr' hlen hst (fun j x p h1 h2=>(hrel j x p h1 h2).1) (fun j x p h1 h2=>(hrel j x p h1 h2).2.more hS)
 | gmap id k ev dv es h =>
  have hb:=hG.rel id;rw [ht id (by simp),h] at hb;obtain ⟨r,en,clock,hmi,hr',hlen,hst,hrel⟩:=hb;cases hr with
  | t _ _ h=>cases h
  | map id r' hm =>
   rw [hmi] at hm;cases hm;exact .rgmap k ev dv es r clock en (hl r ⟨id,_,by simp,by rw [ht id (by simp),h];rfl,hmi,rfl⟩) hr' hlen hst (fun j x p h1 h2=>(hrel j x p h1 h2).1) (fun j x p h1 h2=>(hrel j x p h1 h2).2.more hS)
 | boxt id e l h htr h1 =>
  have hid2:=ht id (by simp);have hb:=hG.rel id;rw [hid2,h] at hb;obtain ⟨g,cs,hmi,hg,hlen,hone,hrel⟩:=hb;cases hr with
  | t _ _ h=>cases h
  | ptr id off g' hm =>
   rw [hmi] at hm;cases hm;refine .rop g 0 l cs.toList (hl g ⟨id,_,by simp,by rw [hid2,h];rfl,hmi,rfl⟩) nC (dZ h1) (fun j c hj=>?_) ?_
   ·rw [cell_of_row w g _ cs e (0,0) hg];simpa using hj
   ·exact fun j c a hj ha=>((hrel j c a ni ha).toT (vH htr a (List.mem_of_getElem? ha))).more hS
theorem uH [Tabs] {H:Heap} {B:AV→AV→List Nat→Prop} (hB:LU H B) {l l':List AV} {touch:List Nat} (h:BorL B l l' touch):l'.length=l.length ∧
  ∀ (m:Ids) (S:Blocks) (w:World) (H₂:Heap) (S₂:Blocks),Good m S w H₂→(∀ id∈touch,aA H₂ id=aA H id)→(∀ g,S g→S₂ g)→(∀ g,lent m H₂ touch g→S₂ g) →
  ∀ (cs:List Value),cs.length=l.length→(∀ (j:Nat) (c:Value) (a:AV),cs[j]?=some c→l[j]?=some a→RelV m S w c a)→∀ (j:Nat) (c:Value) (a:AV),cs[j]?=some c→l'[j]?=some a→RelT S₂ w c a:=by
 induction h with
 | nil=>exact ⟨rfl,fun m S w H₂ S₂ _ _ _ _ cs hl _ j c a hj ha=>by simp at ha⟩
 | cons h hl ih =>
  rename_i a a' l l' t t';refine ⟨by simp [ih.1],fun m S w H₂ S₂ hG ht hS hle cs hlen hr j c x hj hx=>?_⟩;cases cs with
  | nil=>simp at hj
  | cons c0 cs =>
   cases j with
   | zero =>
    simp at hj hx;subst hj;subst hx;exact hB a _ t h m S w H₂ S₂ _ hG (fun id hid=>ht id (by simp [hid])) hS (fun g ⟨id,v,h1,h2⟩=>hle g ⟨id,v,by simp [h1],h2⟩) (hr 0 _ _ rfl rfl)
   | succ j =>
    simp at hj hx
    exact ih.2 m S w H₂ S₂ hG (fun id hid=>ht id (by simp [hid])) hS (fun g ⟨id,v,h1,h2⟩=>hle g ⟨id,v,by simp [h1],h2⟩) cs (by simpa using hlen)
     (fun j c a h1 h2=>hr (j+1) c a wF tJ) j c x hj hx
theorem Oq [Tabs] {H:Heap} {B:AV→AV→List Nat→Prop} (hB:LU H B):LU H (Bor1 H B):=by
 intro a a' touch hb m S w H₂ S₂ v hG ht hS hl hr;cases hb with
 | base h=>exact hB a a' touch h m S w H₂ S₂ v hG ht hS hl hr
 | box id off e l l' t h hL h1 =>
  have hid2:=ht id (by simp);have hb:=hG.rel id;rw [hid2,h] at hb;obtain ⟨g,cs,hmi,hg,hlen,hone,hrel⟩:=hb;obtain ⟨hl1,hl2⟩:=uH hB hL;cases hr with
  | t _ _ h=>cases h
  | ptr id off g' hm =>
   rw [hmi] at hm;cases hm;refine .rop g off l' (cs.toList.drop off) (hl g ⟨id,_,by simp,by rw [hid2,h];rfl,hmi,rfl⟩) (by rw [hl1];simp;omega) h1 (fun j c hj=>?_) ?_
   ·rw [List.getElem?_drop] at hj;rw [cell_of_row w g _ cs e (0,0) hg];simpa using hj
   ·exact hl2 m S w H₂ S₂ hG (fun i hi=>ht i (by simp [hi])) hS (fun g ⟨i,v,p,q⟩=>hl g ⟨i,v,by simp [p],q⟩) _ nC (fun j c a hj ha=>by
     rw [List.getElem?_drop] at hj ha;exact hrel _ c a ni ha)
 | fn f x y x' y' t t' h h' =>
  obtain ⟨l1,l2⟩:=uH hB h;obtain ⟨l1',l2'⟩:=uH hB h'
  have main:∀ (fs cs:Array Value),fs.size=x.length→cs.size=y.length→(∀ (j:Nat) (c:Value) (a:AV),fs[j]?=some c→x[j]?=some a→RelV m S w c a)→(∀ (j:Nat) (c:Value) (a:AV),cs[j]?=some c→y[j]?=some a→RelV m S w c a) →
    RelT S₂ w (.func f fs cs) (.fn f x' y'):=by
   intro fs cs h1 h2 r1 r2;refine .fn f fs cs x' y' (by omega) (by omega) (fun j c a hj ha=>?_) (fun j c a hj ha=>?_)
   ·exact l2 m S w H₂ S₂ hG (fun i hi=>ht i (by simp [hi])) hS (fun g ⟨i,v,p,q⟩=>hl g ⟨i,v,by simp [p],q⟩) fs.toList wF (fun j c a p q=>r1 j c a Gu q) j c a ni ha
   ·exact l2' m S w H₂ S₂ hG (fun i hi=>ht i (by simp [hi])) hS (fun g ⟨i,v,p,q⟩=>hl g ⟨i,v,by simp [p],q⟩) cs.toList tJ (fun j c a p q=>r2 j c a Gu q) j c a ni ha
  cases hr with
  | t _ _ h=>cases h with
   | fn f fs cs lf lc h1 h2 r1 r2=>exact main fs cs h1 h2 (fun j c a p q=>.t _ _ (r1 j c a p q)) (fun j c a p q=>.t _ _ (r2 j c a p q))
  | fn f fs cs lf lc h1 h2 r1 r2=>exact main fs cs h1 h2 r1 r2
 | agg x x' t h =>
  obtain ⟨l1,l2⟩:=uH hB h;obtain ⟨cs,rfl,hlen,hrel⟩:=pF hr;exact .agg cs x' (by omega) fun j c a hj ha=>l2 m S w H₂ S₂ hG ht hS hl cs.toList (by simpa using hlen) (fun j c a p q=>hrel j c a Gu q) j c a ni ha
def AV.scal1:AV→Bool
 | .bool _ | .int .. | .str _ | .nilp | .nils | .nilm | .nilf | .undef | .skip | .iarr .. | .any1 | .ifc _=>true
 | _=>false
def AV.scal:AV→Bool
 | .agg l=>l.all AV.scal1
 | v=>v.scal1
theorem RelT.scal1 {S S':Blocks} {w:World} {v:Value} {a:AV} (h:RelT S w v a) (hs:a.scal1=true):RelT S' w v a:=by
 cases h<;>first | (simp [AV.scal1] at hs;done) | (constructor;done) | skip
 all_goals (constructor<;>assumption)
theorem RelT.scal {S S':Blocks} {w:World} {v:Value} {a:AV} (h:RelT S w v a) (hs:a.scal=true):RelT S' w v a:=by
 cases h with
 | agg cs l hl h=>exact .agg cs l hl fun j c a hj ha=>(h j c a hj ha).scal1 (by
   simp only [AV.scal,List.all_eq_true] at hs;exact hs a (List.mem_of_getElem? ha))
 | undef v=>exact .undef v
 | _=>exact RelT.scal1 (S:=S) (by constructor<;>assumption) hs
def AR.flat:AR→Prop
 | .val a=>a.scal=true
 | .new (.lst _ _ l)=>∀ x∈l,x.scal=true
 | .new (.row _ _ enc _ xs)=>∀ x∈xs,(enc x).scal=true
 | .new (.smap ev _ es)=>∀ p∈es,(ev p.2).scal=true
 | .new (.imap _ ev _ es)=>∀ p∈es,(ev p.2).scal=true
 | .new (.gmap _ ev _ es)=>∀ p∈es,(ev p.2).scal=true
 | .new (.cells _ l)=>∀ x∈l,x.scal1=true
 | .new .dead=>True
 | .new (.arr ..)=>True
 | .new (.que _ _ enc _ xs)=>∀ x∈xs,(enc x).scal=true
theorem O9 {l:List AV} (h:∀ x∈l,x.scal=true):∀ a∈flat l,a.scal1=true:=by
 intro a ha;obtain ⟨x,hx,hax⟩:=List.mem_flatMap.1 ha;have:=h x hx;cases x with
 | agg l=>simp only [AV.scal,List.all_eq_true] at this;exact this a hax
 | _=>simp only [AV.cells,List.mem_singleton] at hax;subst hax;exact this
theorem RowRel.scal {S S':Blocks} {w:World} {e E:Nat} {l:List AV} {v:Value} {vs:List Value} (h:RowRel S w e E l v vs) (hs:∀ x∈l,x.scal=true):RowRel S' w e E l v vs :=
 ⟨h.owns,h.size,h.ones,fun j c a hj ha=>(h.rel j c a hj ha).scal1 (O9 hs a (List.mem_of_getElem? ha))⟩
theorem acM {p:Prop}(h:p:=by
 obtain ⟨r,en,clock,hmi,hr,hl,hb',h2⟩:=hb;exact ⟨r,en,clock,hmi,hr,hl,hb',fun j x p h3 h4=>⟨(h2 j x p h3 h4).1,(h2 j x p h3 h4).2.scal (hf p (List.mem_of_getElem? h4))⟩⟩):p:=h
theorem Ht {S S':Blocks} {w:World} {B:Nat} {v:Value} {r:AR} (h:qI S w B v r) (hf:r.flat):qI S' w B v r:=by
 cases r with
 | val a=>exact RelT.scal h hf
 | new b =>
  refine ⟨h.1,h.2.1,fun n=>?_⟩;have hb:=h.2.2 n;cases b with
  | dead=>trivial
  | cells e l =>
   obtain ⟨g,cs,hmi,hg,hl,h1,hr⟩:=hb;refine ⟨g,cs,hmi,hg,hl,h1,fun j c a hj ha=>?_⟩;have hs:=hf a (List.mem_of_getElem? ha);have:=hr j c a hj ha;cases this with
   | t _ _ h=>exact .t _ _ (h.scal1 hs)
   | _=>simp [AV.scal1] at hs
  | arr e k n f=>exact hb
  | que e E enc d xs =>
   obtain ⟨g,o,cap,cur,hmi,hr⟩:=hb;refine ⟨g,o,cap,cur,hmi,hr.at_,hr.len,hr.max,hr.room,hr.size,hr.ones,fun j c a hj ha=>(hr.rel j c a hj ha).scal1 (O9 (fun x hx=>?_) a (List.mem_of_getElem? ha))⟩;obtain ⟨y,hy,rfl⟩:=List.mem_map.1 hx;exact hf y hy
  | lst e E l=>obtain ⟨v',vs,hmi,hr⟩:=hb;exact ⟨v',vs,hmi,hr.scal hf⟩
  | row e E enc d xs =>
   obtain ⟨v',vs,hmi,hr⟩:=hb;refine ⟨v',vs,hmi,hr.scal fun x hx=>?_⟩;obtain ⟨y,hy,rfl⟩:=List.mem_map.1 hx;exact hf y hy
  | smap ev dv es =>
   exact acM
  | imap k ev dv es =>
   exact acM
  | gmap k ev dv es =>
   exact acM
def W9 (nx:Nat):AR→AV
 | .val a=>a
 | .new (.cells ..)=>.ptr nx 0
 | .new (.lst ..)=>.own nx
 | .new (.row ..)=>.own nx
 | .new (.smap ..)=>.map nx
 | .new (.imap ..)=>.map nx
 | .new (.gmap ..)=>.map nx
 | .new (.arr ..)=>.ptr nx 0
 | .new (.que ..)=>.own nx
 | .new .dead=>.undef
def Dh:List AR→Nat→List AV→List (Nat×AB)→(List AV→List (Nat×AB)→Nat→Prop)→Prop
 | [],nx,vs,wr,k=>k vs.reverse wr nx
 | .val a::rs,nx,vs,wr,k=>Dh rs nx (a::vs) wr k
 | .new b::rs,nx,vs,wr,k=>Dh rs (nx+1) (W9 nx (.new b)::vs) ((nx,b)::wr) k
def oM:List AV→AV
 | [v]=>v
 | vs=>.tup vs
theorem Zd {m:Ids} {S:Blocks} {w:World} {id:Nat} {b:AB} {v:Value} (h:RelB m S w id b) (hl:b.live=true) (hm:m id=some v):RelV m S w v (W9 id (.new b)):=by
 cases b with
 | dead=>simp [AB.live] at hl
 | cells e l=>obtain ⟨g,cs,hmi,_⟩:=h;rw [hmi] at hm;cases hm;exact .ptr id 0 g hmi
 | lst e E l=>obtain ⟨v',vs,hmi,hr⟩:=h;rw [hmi] at hm;cases hm;obtain ⟨a,n,c,rfl⟩:=oG hr;exact .own id n c a hmi
 | row e E enc d xs=>obtain ⟨v',vs,hmi,hr⟩:=h;rw [hmi] at hm;cases hm;obtain ⟨a,n,c,rfl⟩:=oG hr;exact .own id n c a hmi
 | smap ev dv es=>obtain ⟨r,en,clock,hmi,_⟩:=h;rw [hmi] at hm;cases hm;exact .map id r hmi
 | imap k ev dv es=>obtain ⟨r,en,clock,hmi,_⟩:=h;rw [hmi] at hm;cases hm;exact .map id r hmi
 | gmap k ev dv es=>obtain ⟨r,en,clock,hmi,_⟩:=h;rw [hmi] at hm;cases hm;exact .map id r hmi
 | arr e k n f=>obtain ⟨g,cs,hmi,_⟩:=h;rw [hmi] at hm;cases hm;exact .ptr id 0 g hmi
 | que e E enc d xs=>obtain ⟨g,o,cap,cur,hmi,_⟩:=h;rw [hmi] at hm;cases hm;exact .own id _ cap _ hmi
theorem Ext.trans [Tabs] {m m1 m2:Ids} {S S1 S2:Blocks} {w w1 w2:World} {H H1 H2:Heap} {n n1 n2:Nat} (h1:Ext m S w H n n1 m1 S1 w1 H1) (h2:Ext m1 S1 w1 H1 n1 n2 m2 S2 w2 H2) (hn:n≤n1∧n1≤n2):Ext m S w H n n2 m2 S2 w2 H2:=by
 refine ⟨fun i v h=>h2.ids i v (h1.ids i v h),fun i hi=>?_,fun g h=>h2.ros g (h1.ros g h),fun g hg=>?_,?_,fun k hk=>?_,h2.good⟩
 ·rw [h2.same i (by omega),h1.same i (by omega)]
 ·rcases h2.fresh g hg with h | h | h
  ·exact h1.fresh g h
  ·exact .inr (h1.owns g h)
  ·exact .inr (.inr (Nat.le_trans h1.far.size h))
 ·refine h1.far.trans h2.far fun i hi ho=>?_
  rcases h1.owns i ho with h | h
  ·exact h
  ·omega
 ·rcases h2.owns k hk with h | h
  ·exact h1.owns k h
  ·exact .inr (Nat.le_trans h1.far.size h)
theorem afw [Tabs] {m:Ids} {S:Blocks} {w:World} {H:Heap} {nx B:Nat} (h:Good m S w H) (hn:m nx=none) (v:Value) (b:AB) (hb:RelB (fun i=>if i=nx then some v else m i) S w nx b)
  (hS:∀ k,blk v=some k→¬ S k) (ho:∀ k,blk v=some k→¬ own m H k) (hB:∀ k,blk v=some k→B≤k) :
  Good (fun i=>if i=nx then some v else m i) S w ((nx,b)::H)∧(∀ k,own (fun i=>if i=nx then some v else m i) ((nx,b)::H) k→own m H k∨B≤k):=by
 have hids:∀ i u,m i=some u→(fun i=>if i=nx then some v else m i) i=some u:=by
  exact V7
 have old:∀ i,i≠nx→(aA ((nx,b)::H) i).live=true→(aA H i).live=true:=by
  intro i e hl
  rwa [dX,if_neg (fun h=>e h.symm)] at hl
 refine ⟨⟨fun id=>?_,?_,?_,h.tab⟩,?_⟩
 ·rw [dX];split
  ·rename_i e;subst e;exact hb
  ·exact (h.rel id).mono hids (fun _ h=>h) (fun _ _=>rfl) (fun _ _ _ _ _=>rfl)
 ·intro i j vi vj k hli hlj hvi hvj hki hkj;by_cases ei:i=nx<;>by_cases ej:j=nx
  ·rw [ei,ej]
  ·subst ei;simp only [if_true] at hvi;simp only [ej,if_false] at hvj;cases hvi;exact (ho k hki ⟨j,vj,old j ej hlj,hvj,hkj⟩).elim
  ·subst ej;simp only [if_true] at hvj;simp only [ei,if_false] at hvi;cases hvj;exact (ho k hkj ⟨i,vi,old i ei hli,hvi,hki⟩).elim
  ·simp only [ei,if_false] at hvi;simp only [ej,if_false] at hvj;exact h.sep i j vi vj k (old i ei hli) (old j ej hlj) hvi hvj hki hkj
 ·intro g hg;refine ⟨(h.ro g hg).1,fun i u hl hu hk=>?_⟩;by_cases e:i=nx
  ·subst e;simp only [if_true] at hu;cases hu;exact hS g hk hg
  ·simp only [e,if_false] at hu;exact (h.ro g hg).2 i u (old i e hl) hu hk
 ·rintro k ⟨i,u,hl,hu,hk⟩;by_cases e:i=nx
  ·subst e;simp only [if_true] at hu;cases hu;exact .inr (hB k hk)
  ·simp only [e,if_false] at hu;exact .inl ⟨i,u,old i e hl,hu,hk⟩
def tv:List AR→Nat→List AV
 | [],_=>[]
 | .val a::rs,nx=>a::tv rs nx
 | .new b::rs,nx=>W9 nx (.new b)::tv rs (nx+1)
def tw:List AR→Nat→List (Nat×AB)
 | [],_=>[]
 | .val _::rs,nx=>tw rs nx
 | .new b::rs,nx=>tw rs (nx+1)++[(nx,b)]
def tn:List AR→Nat→Nat
 | [],nx=>nx
 | .val _::rs,nx=>tn rs nx
 | .new _::rs,nx=>tn rs (nx+1)
theorem Ew:∀ (rs:List AR) (nx:Nat) (vs:List AV) (wr:List (Nat×AB)) (k:List AV→List (Nat×AB)→Nat→Prop),Dh rs nx vs wr k→k (vs.reverse++tv rs nx) (tw rs nx++wr) (tn rs nx)
 | [],nx,vs,wr,k,h=>by simpa [Dh,tv,tw,tn] using h
 | .val a::rs,nx,vs,wr,k,h=>by
  have:=Ew rs nx (a::vs) wr k h;simpa [tv,tw,tn] using this
 | .new b::rs,nx,vs,wr,k,h=>by
  have:=Ew rs (nx+1) _ _ k h;simpa [tv,tw,tn] using this
theorem aS:∀ (rs:List AR) (nx:Nat),nx≤tn rs nx
 | [],nx=>Nat.le_refl _
 | .val _::rs,nx=>aS rs nx
 | .new _::rs,nx=>Nat.le_trans (Nat.le_succ _) (aS rs (nx+1))
theorem Ak [Tabs] {S:Blocks} {w:World} {B:Nat}:∀ (rs:List AR) (us:List Value) (nx:Nat) (m:Ids) (H:Heap),Good m S w H→(∀ i,nx≤i→i<tn rs nx→m i=none)→us.length=rs.length →
  (∀ (j:Nat) (u:Value) (r:AR),us[j]?=some u→rs[j]?=some r→qI S w B u r) →
  (∀ (j:Nat) (u:Value) (b:AB) (k:Nat),us[j]?=some u→rs[j]?=some (.new b)→blk u=some k→¬ S k∧¬ own m H k∧∀ (j':Nat) (u':Value) (b':AB),us[j']?=some u'→rs[j']?=some (.new b')→blk u'=some k→j=j') →
  ∃ m',Good m' S w (tw rs nx++H)∧(∀ i v,m i=some v→m' i=some v)∧(∀ i,¬ (nx≤i∧i<tn rs nx)→m' i=m i)∧(∀ k,own m' (tw rs nx++H) k→own m H k∨B≤k) ∧
   (tv rs nx).length=us.length∧∀ (j:Nat) (u:Value) (a:AV),us[j]?=some u→(tv rs nx)[j]?=some a→RelV m' S w u a
 | [],us,nx,m,H,hG,hf,hl,hr,ha=>by
  have:us=[]:=List.eq_nil_of_length_eq_zero hl;subst this;exact ⟨m,hG,fun _ _ h=>h,fun _ _=>rfl,fun k h=>.inl h,rfl,fun j u a h=>by simp at h⟩
 | .val x::rs,[],nx,m,H,hG,hf,hl,hr,ha=>by simp at hl
 | .new b::rs,[],nx,m,H,hG,hf,hl,hr,ha=>by simp at hl
 | .val x::rs,u::us,nx,m,H,hG,hf,hl,hr,ha=>by
  obtain ⟨m',g1,g2,g3,g4,g5,g6⟩:=Ak rs us nx m H hG hf EL (fun j u r h1 h2=>hr (j+1) u r wF tJ) (fun j u b k h1 h2 h3=>by
   obtain ⟨a1,a2,a3⟩:=ha (j+1) u b k wF tJ h3;exact ⟨a1,a2,fun j' u' b' p q r=>by have:=a3 (j'+1) u' b' Gu GV r;omega⟩)
  refine ⟨m',g1,g2,g3,g4,by simp [tv,g5],fun j u' a h1 h2=>?_⟩;cases j with
  | zero =>
   simp [tv] at h1 h2;subst h1;subst h2;exact .t _ _ (hr 0 _ _ rfl rfl)
  | succ j=>exact g6 j u' a wF (by simpa [tv] using h2)
 | .new b::rs,u::us,nx,m,H,hG,hf,hl,hr,ha=>by
  obtain ⟨b1,b2,b3⟩:qI S w B u (.new b):=hr 0 u (.new b) rfl rfl;have hn:m nx=none:=hf nx (Nat.le_refl _) (Nat.lt_of_lt_of_le (Nat.lt_succ_self nx) (aS rs (nx+1)));have hids:∀ i v,m i=some v→(fun i=>if i=nx then some u else m i) i=some v:=by
   intro i v hv;have:i≠nx:=by intro e;subst e;rw [hn] at hv;cases hv
   simp [this,hv]
  have hb:RelB (fun i=>if i=nx then some u else m i) S w nx b:=(b3 nx).mono (fun i v h=>by
   by_cases e:i=nx
   ·simpa [e] using h
   ·simp [e] at h) (fun _ h=>h) (fun _ _=>rfl) (fun _ _ _ _ _=>rfl)
  obtain ⟨e1,e2⟩:=afw (B:=B) hG hn u b hb (fun k hk=>(ha 0 u b k rfl rfl hk).1) (fun k hk=>(ha 0 u b k rfl rfl hk).2.1) b2
  obtain ⟨m',g1,g2,g3,g4,g5,g6⟩:=Ak rs us (nx+1) _ _ e1 (fun i hi hlt=>by
    have:i≠nx:=by omega
    simp [this,hf i (by omega) hlt]) EL (fun j u r h1 h2=>hr (j+1) u r wF tJ) (fun j u' b' k h1 h2 h3=>by
   obtain ⟨a1,a2,a3⟩:=ha (j+1) u' b' k wF tJ h3;refine ⟨a1,fun ho=>?_,fun j' u'' b'' p q r=>by have:=a3 (j'+1) u'' b'' Gu GV r;omega⟩;obtain ⟨i,vi,hli,hvi,hki⟩:=ho;by_cases ei:i=nx
   ·subst ei;simp only [if_true] at hvi;cases hvi;have:=a3 0 u b rfl rfl hki;omega
   ·simp only [ei,if_false] at hvi;rw [dX,if_neg (fun h=>ei h.symm)] at hli;exact a2 ⟨i,vi,hli,hvi,hki⟩)
  have happ:tw (.new b::rs) nx++H=tw rs (nx+1)++(nx,b)::H:=by simp [tw]
  have hge:=aS rs (nx+1);refine ⟨m',by rw [happ];exact g1,fun i v h=>g2 i v (hids i v h),fun i hi=>?_,fun k hk=>?_,by simp [tv,g5],fun j u' a h1 h2=>?_⟩
  ·have hi':¬ (nx≤i∧i<tn rs (nx+1)):=hi;have hne:i≠nx:=by omega
   rw [g3 i (by omega)];simp [hne]
  ·rw [happ] at hk;rcases g4 k hk with h | h
   ·exact e2 k h
   ·exact .inr h
  ·cases j with
   | zero =>
    simp [tv] at h1 h2;subst h1;subst h2;have hm:m' nx=some u:=g2 nx u (by simp);exact Zd (hb.mono (fun i v h=>g2 i v h) (fun _ h=>h) (fun _ _=>rfl) (fun _ _ _ _ _=>rfl)) b1 hm
   | succ j=>exact g6 j u' a wF (by simpa [tv] using h2)
theorem zX {m:Ids} {S:Blocks} {w:World} {us:List Value} {l:List AV} (hl:l.length=us.length) (h:∀ (j:Nat) (u:Value) (a:AV),us[j]?=some u→l[j]?=some a→RelV m S w u a):RelV m S w (nG us) (oM l):=by
 match us,l,hl with
 | [],[],_=>exact .tup _ _ rfl (fun j c a hj=>by simp at hj)
 | [u],[a],_=>exact h 0 u a rfl rfl
 | u::u'::us,a::a'::l,hl=>exact .tup _ _ (by simp at hl ⊢;omega) (fun j c x hj hx=>h j c x ni hx)
abbrev oN (H:Heap):AV→AV→List Nat→Prop:=Bor1 H (Bor1 H (Bor1 H (Bor H)))
theorem MP [Tabs] (H:Heap):LU H (oN H):=Oq (Oq (Oq (Xm H)))
theorem wO {m:Ids} {S:Blocks} {w:World} {v:Value} {f:Fn} {lf lc:List AV} (h:RelV m S w v (.fn f lf lc)) :
  ∃ fs cs,v=.func f fs cs∧fs.size=lf.length∧cs.size=lc.length∧(∀ (j:Nat) (c:Value) (a:AV),fs[j]?=some c→lf[j]?=some a→RelV m S w c a)∧(∀ (j:Nat) (c:Value) (a:AV),cs[j]?=some c→lc[j]?=some a→RelV m S w c a):=by
 cases h with
 | t _ _ h=>cases h with
  | fn f fs cs lf lc h1 h2 r1 r2=>exact ⟨fs,cs,rfl,h1,h2,fun j c a p q=>.t _ _ (r1 j c a p q),fun j c a p q=>.t _ _ (r2 j c a p q)⟩
 | fn f fs cs lf lc h1 h2 r1 r2=>exact ⟨fs,cs,rfl,h1,h2,r1,r2⟩
theorem ZV {S S':Blocks} {w:World} {B:Nat} {v:Value} {r:AR} (hS:∀ g,S g→S' g) (h:qI S w B v r):qI S' w B v r:=by
 cases r with
 | val a=>exact RelT.more hS h
 | new b=>exact ⟨h.1,h.2.1,fun n=>(h.2.2 n).mono (fun _ _ h=>h) hS (fun _ _=>rfl) (fun _ _ _ _ _=>rfl)⟩
theorem CU {m:Ids} {S:Blocks} {w:World} {a b c:List Value} {x y z:List AV} (h1:a.length=x.length) (h2:b.length=y.length) (r1:∀ (j:Nat) (c:Value) (p:AV),a[j]?=some c→x[j]?=some p→RelV m S w c p)
  (r2:∀ (j:Nat) (c:Value) (p:AV),b[j]?=some c→y[j]?=some p→RelV m S w c p) (r3:∀ (j:Nat) (d:Value) (p:AV),c[j]?=some d→z[j]?=some p→RelV m S w d p) :
  ∀ (j:Nat) (d:Value) (p:AV),(a++b++c)[j]?=some d→(x++y++z)[j]?=some p→RelV m S w d p:=by
 intro j d p hd hp;by_cases hj1:j<a.length
 ·rw [List.append_assoc,List.getElem?_append_left hj1] at hd;rw [List.append_assoc,List.getElem?_append_left (by omega)] at hp;exact r1 j d p hd hp
 ·by_cases hj2:j<a.length+b.length
  ·rw [List.append_assoc,List.getElem?_append_right (by omega),List.getElem?_append_left (by omega)] at hd;rw [List.append_assoc,List.getElem?_append_right (by omega),List.getElem?_append_left (by omega),← h1] at hp;exact r2 _ d p hd hp
  ·rw [List.getElem?_append_right nC] at hd;rw [List.getElem?_append_right nC] at hp;have e:(x++y).length=(a++b).length:=by simp;omega
   rw [e] at hp;exact r3 _ d p hd hp
theorem Wn {p:Prop}(h:p:=by
 intro j c p hj hp;simp only [List.getElem?_map,Option.map_eq_some_iff] at hj hp;obtain ⟨y,hy,rfl⟩:=hj;obtain ⟨y',hy',rfl⟩:=hp;rw [hy] at hy';cases hy';exact hus (y,true,rd y) (List.mem_map.2 ⟨y,List.mem_cons.2 (.inr (List.mem_of_getElem? hy)),rfl⟩) rfl):p:=h
theorem ab7 {p:Prop}(h:p:=by
 rw [← hvs];unfold execOp;have hb':¬ fn.body=none:=by intro e;simp [e] at hbody
 have hn' : ¬ fn.name = "runtime.NumGoroutine" := by simpa using hname
 simp [ho,resolve,hv,Deferred.ofValue,invoke,callFunc,hfun,hn',hb']):p:=h
theorem WA {p:Prop}(h:p:=by
 rintro g (h | ⟨i,v,hi,hl,hm,hk⟩)
 ·exact (hG.ro g h).1
 ·exact hG.blk_lt hl hm hk):p:=h
theorem aeh {p:Prop}(h:p:=by
 exact ZV (fun g hg=>⟨hg,fun ⟨i,v,hi,_⟩=>by rw [h0] at hi;simp at hi⟩) (hL.rel j u r hu hr)):p:=h
theorem Rw [Tabs] {P:Program} {o:Oper} {fop:Operand} {as:Array Operand} {ts:Array TypeId} (ho:o.op=.call { callee:=.value fop,args:=as,argTypes:=ts })
  {rd:Operand→AV} {H:Heap} {nx:Nat} {f:FuncId} {first cap:List AV} (hf:rd fop=.fn (.func f) first cap) {args':List AV} {touch:List Nat}
  (hb:BorL (oN H) (first++as.toList.map rd++cap) args' touch) {R:List AR→Prop} (hc:bM P f args' R) (hflat:touch=[]∨∀ rs,R rs→∀ r∈rs,r.flat) :
  Bq P o ((fop::as.toList).map fun y=>(y,true,rd y)) H nx touch (fun r=>∃ rs,R rs∧r=⟨oM (tv rs nx),touch,tw rs nx,tn rs nx⟩):=by
 intro m S w a H₂ K Q hG ht hfree hus hK;have hfn:RelV m S w (a.eval fop) (rd fop):=hus (fop,true,rd fop) (by simp) rfl;rw [hf] at hfn;obtain ⟨fs,cs,hv,hfl,hcl,r1,r3⟩:=wO hfn;obtain ⟨⟨fn,hfun,hbody,hname⟩,hcall⟩:=hc;have hvs:(fs++as.map a.eval++cs)=(fs.toList++as.toList.map a.eval++cs.toList).toArray:=by
  apply Array.ext';simp
 have hexec:(execOp a.eval o).run P w=.ok (.enter f (fs.toList++as.toList.map a.eval++cs.toList).toArray) w:=by
  exact ab7
 have r2:∀ (j:Nat) (c:Value) (p:AV),(as.toList.map a.eval)[j]?=some c→(as.toList.map rd)[j]?=some p→RelV m S w c p:=by
  exact Wn
 obtain ⟨hlen,hbor⟩:=uH (MP H) hb;unfold Oper.wp;rw [hexec,Oper.upon_enter];have hlt:∀ g,(S g∨lent m H₂ touch g)→g<w.heap.size:=by
  exact WA
 refine (hcall (fun g=>S g∨lent m H₂ touch g) w _ hlt (hG.tab.mono (fun _ h=>.inl h) fun _ _=>rfl) ⟨?_,?_⟩).mono ?_
 ·rw [hlen];simp [hfl,hcl]
 ·exact hbor m S w H₂ _ hG ht (fun g h=>.inl h) (fun g h=>.inr h) _ (by simp [hfl,hcl]) (CU (by simpa using hfl) (by simp) (fun j c p h=>r1 j c p oz) r2 (fun j c p h=>r3 j c p oz))
 ·rintro e w' ⟨us,rs,S'',rfl,hR,hL⟩;show K (a.put o.dst (nG us)) w';have hnl:∀ g,S g→¬ lent m H₂ touch g:=fun g hg ⟨i,v,hi,hl,hm,hk⟩=>(hG.ro g hg).2 i v hl hm hk
  have hrel:∀ (j:Nat) (u:Value) (r:AR),us[j]?=some u→rs[j]?=some r→qI (fun g=>S'' g∧¬ lent m H₂ touch g) w' w.heap.size u r:=by
   intro j u r hu hr;rcases hflat with h0 | h0
   ·exact aeh
   ·exact Ht (hL.rel j u r hu hr) (h0 rs hR r (List.mem_of_getElem? hr))
  have hG':Good m (fun g=>S'' g∧¬ lent m H₂ touch g) w' H₂:=by
   refine ⟨fun id=>(hG.rel id).mono (fun _ _ h=>h) (fun g hg=>⟨hL.ros g (.inl hg),hnl g hg⟩) (fun g hg=>hL.below.block g (hG.ro g hg).1) (fun v k hl hv hk=>hL.below.block k (hG.blk_lt hl hv hk)),hG.sep,fun g hg=>⟨hL.lt g hg.1,fun i v hl hv hk=>?_⟩,hG.tab.mono (fun g hg=>⟨hL.ros g (.inl hg),hnl g hg⟩) fun g hg=>hL.below.block g (hG.ro g hg).1⟩;rcases hL.fresh g hg.1 with (h | h) | h
   ·exact (hG.ro g h).2 i v hl hv hk
   ·exact hg.2 h
   ·have:=hG.blk_lt hl hv hk;omega
  obtain ⟨m',g1,g2,g3,g4,g5,g6⟩:=Ak (B:=w.heap.size) rs us nx m H₂ hG' (fun i hi hlt=>hfree i hi ⟨_,⟨rs,hR,rfl⟩,hlt⟩) hL.len hrel (fun j u b k hu hr hk=>by
   obtain ⟨a1,a2⟩:=hL.apart j u b k hu hr hk;refine ⟨fun h=>a1 h.1,fun ho=>?_,fun j' u' b' p q r=>a2 j' u' b' p q r⟩;have h1:=hG.own_lt ho;have h2:qI _ w' w.heap.size u (.new b):=hrel j u _ hu hr;have:=h2.2.1 k hk;omega)
  refine hK _ ⟨rs,hR,rfl⟩ (nG us) m' _ w' ⟨g2,g3,fun g hg=>⟨hL.ros g (.inl hg),hnl g hg⟩,fun g hg=>?_,Far.of_below hL.below,g4,g1⟩ (zX g5 g6);rcases hL.fresh g hg.1 with (h | h) | h
  ·exact .inl h
  ·exact (hg.2 h).elim
  ·exact .inr (.inr h)
def jT [Tabs] (P:Program) (f:FuncId) (avs:List AV) (H:Heap) (nx:Nat) (touch:List Nat) (Rr:Res→Prop):Prop :=
 zN P f∧∀ (m:Ids) (S:Blocks) (w:World) (H₂:Heap) (vs:List Value),Good m S w H₂→(∀ id∈touch,aA H₂ id=aA H id)→(∀ i,nx≤i→(∃ r,Rr r∧i<r.nx)→m i=none) →
  vs.length=avs.length→(∀ (j:Nat) (v:Value) (a:AV),vs[j]?=some v→avs[j]?=some a→RelV m S w v a) →
  Calls P f vs.toArray w fun e w'=>∃ v r m' S',e=.returned v∧Rr r∧Ext m S w H₂ nx r.nx m' S' w' (r.wr++H₂)∧RelV m' S' w' v r.v
theorem UH [Tabs] {P:Program} {o:Oper} {fop:Operand} {as:Array Operand} {ts:Array TypeId} (ho:o.op=.call { callee:=.value fop,args:=as,argTypes:=ts })
  {rd:Operand→AV} {H:Heap} {nx:Nat} {f:FuncId} {first cap:List AV} (hf:rd fop=.fn (.func f) first cap) {touch:List Nat} {Rr:Res→Prop} (hc:jT P f (first++as.toList.map rd++cap) H nx touch Rr) :
  Bq P o ((fop::as.toList).map fun y=>(y,true,rd y)) H nx touch Rr:=by
 intro m S w a H₂ K Q hG ht hfree hus hK;have hfn:RelV m S w (a.eval fop) (rd fop):=hus (fop,true,rd fop) (by simp) rfl;rw [hf] at hfn;obtain ⟨fs,cs,hv,hfl,hcl,r1,r3⟩:=wO hfn;obtain ⟨⟨fn,hfun,hbody,hname⟩,hcall⟩:=hc;have hvs:(fs++as.map a.eval++cs)=(fs.toList++as.toList.map a.eval++cs.toList).toArray:=by
  apply Array.ext';simp
 have hexec:(execOp a.eval o).run P w=.ok (.enter f (fs.toList++as.toList.map a.eval++cs.toList).toArray) w:=by
  exact ab7
 have r2:∀ (j:Nat) (c:Value) (p:AV),(as.toList.map a.eval)[j]?=some c→(as.toList.map rd)[j]?=some p→RelV m S w c p:=by
  exact Wn
 unfold Oper.wp;rw [hexec,Oper.upon_enter];refine (hcall m S w H₂ _ hG ht hfree (by simp [hfl,hcl]) (CU (by simpa using hfl) (by simp) (fun j c p h=>r1 j c p oz) r2 (fun j c p h=>r3 j c p oz))).mono ?_;rintro e w' ⟨v,r,m',S',rfl,hR,hE,hV⟩;exact hK r hR v m' S' w' hE hV
def vg [Tabs] (P:Program) (px:List PanicEntry→Prop) (o:Oper) (us:Uses) (H:Heap) (nx:Nat) (touch:List Nat) (Rr:Res→Prop):Prop :=
 ∀ (m:Ids) (S:Blocks) (w:World) (a:Act) (H₂:Heap) (K:Act→World→Prop) (Q:Exit→Act→World→Prop),
  Good m S w H₂→(∀ id∈touch,aA H₂ id=aA H id)→(∀ i,nx≤i→(∃ r,Rr r∧i<r.nx)→m i=none) →
  (∀ u∈us,u.2.1=true→RelV m S w (a.eval u.1) u.2.2) →
  (∀ r,Rr r→∀ v m' S' w',Ext m S w H₂ nx r.nx m' S' w' (r.wr++H₂)→RelV m' S' w' v r.v→K (a.put o.dst v) w') →
  (∀ ch,px ch→∀ m' S' w' wr,Ext m S w H₂ nx nx m' S' w' (wr++H₂)→Q (.panic ch) a w') →
  o.wp P a w K Q
theorem Bq.toX [Tabs] {P:Program} {px:List PanicEntry→Prop} {o:Oper} {us:Uses} {H:Heap} {nx:Nat} {touch:List Nat} {Rr:Res→Prop} (h:Bq P o us H nx touch Rr):vg P px o us H nx touch Rr :=
 fun m S w a H₂ K Q hG ht hf hu hK _=>h m S w a H₂ K Q hG ht hf hu hK
def jY [Tabs] (P:Program) (f:FuncId) (avs:List AV) (H:Heap) (nx:Nat) (touch:List Nat) (Rr:Res→Prop) (Px:List PanicEntry→Prop):Prop :=
 zN P f∧∀ (m:Ids) (S:Blocks) (w:World) (H₂:Heap) (vs:List Value),Good m S w H₂→(∀ id∈touch,aA H₂ id=aA H id)→(∀ i,nx≤i→(∃ r,Rr r∧i<r.nx)→m i=none) →
  vs.length=avs.length→(∀ (j:Nat) (v:Value) (a:AV),vs[j]?=some v→avs[j]?=some a→RelV m S w v a) →
  Calls P f vs.toArray w fun e w'=>(∃ v r m' S',e=.returned v∧Rr r∧Ext m S w H₂ nx r.nx m' S' w' (r.wr++H₂)∧RelV m' S' w' v r.v) ∨
   (∃ ch m' S' wr,e=.panicked ch∧Px ch∧Ext m S w H₂ nx nx m' S' w' (wr++H₂))
theorem PD [Tabs] {P:Program} {px Px:List PanicEntry→Prop} {o:Oper} {fop:Operand} {as:Array Operand} {ts:Array TypeId} (ho:o.op=.call { callee:=.value fop,args:=as,argTypes:=ts })
  {rd:Operand→AV} {H:Heap} {nx:Nat} {f:FuncId} {first cap:List AV} (hf:rd fop=.fn (.func f) first cap) {touch:List Nat} {Rr:Res→Prop} (hc:jY P f (first++as.toList.map rd++cap) H nx touch Rr Px)
  (hp:∀ ch,Px ch→px ch):vg P px o ((fop::as.toList).map fun y=>(y,true,rd y)) H nx touch Rr:=by
 intro m S w a H₂ K Q hG ht hfree hus hK hP;have hfn:RelV m S w (a.eval fop) (rd fop):=hus (fop,true,rd fop) (by simp) rfl;rw [hf] at hfn;obtain ⟨fs,cs,hv,hfl,hcl,r1,r3⟩:=wO hfn;obtain ⟨⟨fn,hfun,hbody,hname⟩,hcall⟩:=hc;have hvs:(fs++as.map a.eval++cs)=(fs.toList++as.toList.map a.eval++cs.toList).toArray:=by
  apply Array.ext';simp
 have hexec:(execOp a.eval o).run P w=.ok (.enter f (fs.toList++as.toList.map a.eval++cs.toList).toArray) w:=by
  exact ab7
 have r2:∀ (j:Nat) (c:Value) (p:AV),(as.toList.map a.eval)[j]?=some c→(as.toList.map rd)[j]?=some p→RelV m S w c p:=by
  exact Wn
 unfold Oper.wp;rw [hexec,Oper.upon_enter];refine (hcall m S w H₂ _ hG ht hfree (by simp [hfl,hcl]) (CU (by simpa using hfl) (by simp) (fun j c p h=>r1 j c p oz) r2 (fun j c p h=>r3 j c p oz))).mono ?_;rintro e w' (⟨v,r,m',S',rfl,hR,hE,hV⟩ | ⟨ch,m',S',wr,rfl,hp',hE⟩)
 ·exact hK r hR v m' S' w' hE hV
 ·exact hP ch (hp ch hp') m' S' w' wr hE
def MC:List AV→Bool
 | []=>true
 | a::l=>match a.tree1 with
  | true=>MC l
  | false=>false
theorem Je:∀ {l:List AV},MC l=true→∀ a∈l,a.tree1=true
 | [],_,a,h=>by simp at h
 | b::l,h,a,ha=>by
  unfold MC at h;split at h
  ·rename_i hb;rcases List.mem_cons.1 ha with rfl | ha
   ·exact hb
   ·exact Je h a ha
  ·cases h
def NK (T:Tab) (t:TypeId) (x:AV) (k:AV→Prop):Prop :=
 match h_ T t with
 | some ⟨.struct _,_,_,_⟩=>match x with
  | .agg l=>match MC l with
   | true=>k (.ival t l)
   | false=>False
  | _=>False
 | _=>False
theorem Qa [Tabs] {P:Program} {T:Tab} (hT:dh P T) {rd:Operand→AV} {H:Heap} {nx:Nat} {t:TypeId} {x:Operand} {o:Oper} (ho:o.op=.makeInterface t x) {k:Res→Prop}
  (h:NK T t (rd x) fun v=>k ⟨v,[],[],nx⟩):∃ r,cZ P o [(x,true,rd x)] H nx r∧(r.wr=[]∧r.nx=nx)∧k r:=by
 unfold NK at h;split at h
 ·rename_i fs s b0 z hi;obtain ⟨hu,_⟩:=hT t _ hi;split at h
  ·rename_i l hl;split at h
   ·rename_i htr;refine ⟨_,bF fun m S w a H₂ hG ht hus=>?_,⟨rfl,rfl⟩,h⟩;have hx:RelV m S w (a.eval x) (rd x):=hus (x,true,rd x) (by simp) rfl;rw [hl] at hx;obtain ⟨cs,hv,hlen,hrel⟩:=pF hx;refine ⟨.iface t (.agg cs),fun w' _=>?_,.t _ _ (.ival t cs l hlen fun j c b hj hb=>?_)⟩
    ·have hr:(Instr.makeInterface t (.agg cs)).run P w'=.ok (.iface t (.agg cs)) w':=by
      unfold Instr.makeInterface;simp [run_underlying hu]
     unfold execOp;simp [ho,hv,hr]
    ·have h1:=Je htr b (List.mem_of_getElem? hb);exact (hrel j c b hj hb).toT (by cases b<;>simp_all [AV.tree,AV.tree1,AV.tree0])
   ·exact h.elim
  ·exact h.elim
 ·exact h.elim
def JU (T:Tab) (t:TypeId) (x:AV) (k:AV→Prop):Prop :=
 match h_ T t with
 | some ⟨.struct _,_,_,z⟩=>match x with
  | .ival u l=>match Nat.beq u t with
   | true=>k (.tup [.agg l,.bool true])
   | false=>False
  | .ifc true=>k (.tup [JV z,.bool false])
  | _=>False
 | _=>False
theorem Ns [Tabs] {P:Program} {T:Tab} (hT:dh P T) {rd:Operand→AV} {H:Heap} {nx:Nat} {t xt:TypeId} {x:Operand} {o:Oper} (ho:o.op=.typeAssert x xt t true) {k:Res→Prop}
  (h:JU T t (rd x) fun v=>k ⟨v,[],[],nx⟩):∃ r,cZ P o [(x,true,rd x)] H nx r∧(r.wr=[]∧r.nx=nx)∧k r:=by
 unfold JU at h;split at h
 ·rename_i fs s b0 z hi;obtain ⟨hu,j,hj,_,_,hz⟩:=hT t _ hi;have hzero:∀ w':World,(zeroValue t).run P w'=.ok z w':=fun w'=>by simp [zeroValue,typeInfo,hj,hz]
  split at h
  ·rename_i u l hl;split at h
   ·rename_i hut;have:=Nat.eq_of_beq_eq_true hut;subst this;refine ⟨_,bF fun m S w a H₂ hG ht hus=>?_,⟨rfl,rfl⟩,h⟩;have hx:RelV m S w (a.eval x) (rd x):=hus (x,true,rd x) (by simp) rfl;rw [hl] at hx;generalize hv:a.eval x=v at hx;cases hx with
    | t _ _ hx=>cases hx with
     | ival _ cs _ hlen hrel =>
      refine ⟨.tuple #[.agg cs,.bool true],fun w' _=>?_,.t _ _ (.tup _ _ rfl fun j c b hjc hb=>?_)⟩
      ·unfold execOp Instr.typeAssert;simp [ho,hv,run_underlying hu]
      ·match j with
       | 0=>simp at hjc hb;subst hjc;subst hb;exact .agg cs l hlen hrel
       | 1=>simp at hjc hb;subst hjc;subst hb;exact .bool _
       | n+2=>simp at hjc
   ·exact h.elim
  ·rename_i hl;refine ⟨_,bF fun m S w a H₂ hG ht hus=>?_,⟨rfl,rfl⟩,h⟩;have hx:RelV m S w (a.eval x) (rd x):=hus (x,true,rd x) (by simp) rfl;rw [hl] at hx;generalize hv:a.eval x=v at hx;cases hx with
   | t _ _ hx=>cases hx with
    | ifc0 =>
     refine ⟨.tuple #[z,.bool false],fun w' _=>?_,.t _ _ (.tup _ _ rfl fun j c b hjc hb=>?_)⟩
     ·unfold execOp Instr.typeAssert;simp [ho,hv,run_underlying hu,hzero]
     ·match j with
      | 0=>simp at hjc hb;subst hjc;subst hb;exact uo S w z
      | 1=>simp at hjc hb;subst hjc;subst hb;exact .bool _
      | n+2=>simp at hjc
  ·exact h.elim
 ·exact h.elim
inductive PanG (px:List PanicEntry→Prop) (x:AV):Prop
 | mk (t:TypeId) (l:List AV) (hx:x=.ival t l) (h:∀ (S:Blocks) (w:World) (cs:Array Value),RelT S w (.agg cs) (.agg l)→px [{ v:=.iface t (.agg cs),recovered:=false }])
theorem P5 [Tabs] {P:Program} {px:List PanicEntry→Prop} {rd:Operand→AV} {H:Heap} {nx:Nat} {x:Operand} {o:Oper} (ho:o.op=.panic x) (h:PanG px (rd x)) :
  vg P px o [(x,true,rd x)] H nx [] (fun _=>False):=by
 intro m S w a H₂ K Q hG ht hfree hus hK hP;obtain ⟨t,l,hx,h⟩:=h;have hv:RelV m S w (a.eval x) (rd x):=hus (x,true,rd x) (by simp) rfl;rw [hx] at hv;generalize hv2:a.eval x=v at hv;cases hv with
 | t _ _ hv=>cases hv with
  | ival _ cs _ hlen hrel =>
   have hr:(execOp a.eval o).run P w=.halt (.panic (.iface t (.agg cs))) w:=by
    unfold execOp Instr.panic;simp [ho,hv2,goPanic]
   unfold Oper.wp;rw [hr,Oper.upon_panic];exact hP _ (h S w cs (.agg cs l hlen hrel)) m S w [] (Ext.refl hG nx)
def Jl (T:Tab) (nx:Nat) (t:TypeId) (x y:AV) (k:Res→Prop):Prop:=False
theorem IY [Tabs] {P:Program} {T:Tab} (hT:dh P T) {rd:Operand→AV} {H:Heap} {nx:Nat} {t:TypeId} {x y:Operand} {o:Oper} (ho:o.op=.makeSlice t x y) {k:Res→Prop}
  (h:Jl T nx t (rd x) (rd y) k):∃ r,iH P o [(x,true,rd x),(y,true,rd y)] H nx r∧nx≤r.nx∧k r:=(show False from h).elim
def J4 (H:Heap):AV→AV
 | .own id=>match aA H id with
  | .lst _ E l=>.lsl E l
  | .row _ E enc d xs=>.sl E enc d xs
  | _=>.own id
 | .pre id n=>match aA H id with
  | .lst _ E l=>.lsl E (l.take n)
  | .row _ E enc d xs=>.sl E enc d (xs.take n)
  | _=>.pre id n
 | v=>v
def sV:AV→List Nat
 | .own id=>[id]
 | .pre id _=>[id]
 | _=>[]
def BF (H:Heap):AV→AV
 | .agg l=>.agg (l.map (J4 H))
 | v=>J4 H v
def BO:AV→List Nat
 | .agg l=>l.flatMap sV
 | v=>sV v
theorem JQ [Tabs] {m:Ids} {S S':Blocks} {w:World} {H H₂:Heap} {u:Value} {v:AV} (hG:Good m S w H₂) (ht:∀ id∈sV v,aA H₂ id=aA H id) (hS:∀ g,S g→S' g) (hl:∀ g,lent m H₂ (sV v) g→S' g)
  (h:RelV m S w u v):RelV m S' w u (J4 H v):=by
 have same:RelV m S' w u v:=h.mono (fun _ _ h=>h) hS (fun _ _=>rfl);unfold J4;split
 ·rename_i id;have hid:=ht id (by simp [sV]);split
  ·rename_i e E l hc;obtain ⟨v',vs,hmi,hrow⟩:=jB (s:=.lst l) hG hid hc;cases h with
   | t _ _ h=>cases h
   | own id n cap a hm =>
    rw [hmi] at hm;cases hm;exact .t _ _ (hrow.lent hS fun g hg=>hl g ⟨id,_,by simp [sV],by rw [hid,hc];rfl,hmi,hg⟩)
  ·rename_i T' e E enc d xs hc;obtain ⟨v',vs,hmi,hrow⟩:=jB (s:=.row enc d xs) hG hid hc;cases h with
   | t _ _ h=>cases h
   | own id n cap a hm =>
    rw [hmi] at hm;cases hm;exact .t _ _ (.sl _ _ _ _ _ (hrow.lent hS fun g hg=>hl g ⟨id,_,by simp [sV],by rw [hid,hc];rfl,hmi,hg⟩))
  ·exact same
 ·rename_i id n;have hid:=ht id (by simp [sV]);split
  ·rename_i e E l hc;obtain ⟨v',vs,hmi,hrow⟩:=jB (s:=.lst l) hG hid hc;cases h with
   | t _ _ h=>cases h
   | pre id n n' cap a hm hle =>
    rw [hmi] at hm;cases hm;exact .t _ _ ((hrow.take hle).lent hS fun g hg=>hl g ⟨id,_,by simp [sV],by rw [hid,hc];rfl,hmi,by cases a<;>simp_all [blk]⟩)
  ·rename_i T' e E enc d xs hc;obtain ⟨v',vs,hmi,hrow⟩:=jB (s:=.row enc d xs) hG hid hc;cases h with
   | t _ _ h=>cases h
   | pre id n n' cap a hm hle =>
    rw [hmi] at hm;cases hm;have:=(hrow.take hle).lent hS fun g hg=>hl g ⟨id,_,by simp [sV],by rw [hid,hc];rfl,hmi,by cases a<;>simp_all [blk]⟩
    simp only [Src.list] at this;rw [← List.map_take] at this;exact .t _ _ (.sl _ _ _ _ _ this)
  ·exact same
 ·exact same
theorem Rl [Tabs] {m:Ids} {S S':Blocks} {w:World} {H H₂:Heap} {u:Value} {v:AV} (hG:Good m S w H₂) (ht:∀ id∈BO v,aA H₂ id=aA H id) (hS:∀ g,S g→S' g) (hl:∀ g,lent m H₂ (BO v) g→S' g)
  (h:RelV m S w u v):RelV m S' w u (BF H v):=by
 unfold BF;split
 ·rename_i l;have main:∀ (cs:Array Value),cs.size=l.length→(∀ (j:Nat) (c:Value) (a:AV),cs[j]?=some c→l[j]?=some a→RelV m S w c a)→RelV m S' w (.agg cs) (.agg (l.map (J4 H))):=by
   intro cs hcs hr;refine .agg cs _ (by simpa using hcs) fun j c a hj ha=>?_
   simp only [List.getElem?_map,Option.map_eq_some_iff] at ha;obtain ⟨a0,ha0,rfl⟩:=ha;have hmem:∀ id,id∈sV a0→id∈BO (.agg l):=fun id hi=>List.mem_flatMap.2 ⟨a0,List.mem_of_getElem? ha0,hi⟩
   exact JQ hG (fun id hi=>ht id (hmem id hi)) hS (fun g ⟨i,v,hi,h1,h2,h3⟩=>hl g ⟨i,v,hmem i hi,h1,h2,h3⟩) (hr j c a0 hj ha0)
  cases h with
  | t _ _ h=>cases h with
   | agg cs _ hcs hr=>exact main cs hcs fun j c a h1 h2=>.t _ _ (hr j c a h1 h2)
  | agg cs _ hcs hr=>exact main cs hcs hr
 ·rename_i v2 hv;have hi:BO v=sV v:=by
   cases v<;>first | rfl | (exact (hv _ rfl).elim)
  rw [hi] at ht hl;exact JQ hG ht hS hl h
theorem yE (ids:List Nat) (H:Heap) (i:Nat):aA (ids.map (fun i=>(i,AB.dead))++H) i=if i∈ids then .dead else aA H i:=by
 induction ids with
 | nil=>simp
 | cons j ids ih =>
  rw [List.map_cons,List.cons_append,dX,ih];by_cases e:j=i
  ·subst e;simp
  ·rw [if_neg e];have:i≠j:=fun h=>e h.symm
   simp [this]
theorem DL [Tabs] {m:Ids} {S:Blocks} {w:World} {H:Heap} (h:Good m S w H) (ids:List Nat):Good m (fun g=>S g∨lent m H ids g) w (ids.map (fun i=>(i,AB.dead))++H):=by
 have live:∀ i,(aA (ids.map (fun i=>(i,AB.dead))++H) i).live=true→i∉ids∧(aA H i).live=true:=by
  intro i hl;rw [yE] at hl;by_cases e:i∈ids
  ·rw [if_pos e] at hl;cases hl
  ·rw [if_neg e] at hl;exact ⟨e,hl⟩
 refine ⟨fun id=>?_,fun i j vi vj k hi hj=>h.sep i j vi vj k (live i hi).2 (live j hj).2,fun g hg=>?_,h.tab.mono (fun _ h=>.inl h) fun _ _=>rfl⟩
 ·rw [yE];split
  ·trivial
  ·exact (h.rel id).mono (fun _ _ h=>h) (fun _ h=>.inl h) (fun _ _=>rfl) (fun _ _ _ _ _=>rfl)
 ·rcases hg with hg | ⟨i0,v0,hi0,hl0,hm0,hb0⟩
  ·exact ⟨(h.ro g hg).1,fun i v hl=>(h.ro g hg).2 i v (live i hl).2⟩
  ·refine ⟨h.blk_lt hl0 hm0 hb0,fun i v hl hm hb=>?_⟩;have:=h.sep i i0 v v0 g (live i hl).2 hl0 hm hm0 hb hb0;subst this;exact (live i hl).1 hi0
theorem aik {p:Prop}(h:p:=by
 have hown:∀ g,own m (ids.map (fun i=>(i,AB.dead))++H₂) g→own m H₂ g:=by
  rintro g ⟨i,v,hl,hm,hb⟩;rw [yE] at hl;by_cases e:i∈ids
  ·rw [if_pos e] at hl;cases hl
  ·rw [if_neg e] at hl;exact ⟨i,v,hl,hm,hb⟩
 refine hK v m' S' w' ⟨hE.ids,hE.same,fun g hg=>hE.ros g (.inl hg),fun g hg=>?_,⟨hE.far.os,hE.far.tape,hE.far.output,hE.far.size,fun k hk hn=>hE.far.block k hk fun ho=>hn (hown k ho)⟩,fun k hk=>?_,by rw [List.append_assoc];exact hE.good⟩ hV
 ·rcases hE.fresh g hg with (h | ⟨i,v,hi,h1,h2,h3⟩) | h | h
  ·exact .inl h
  ·exact .inr (.inl ⟨i,v,h1,h2,h3⟩)
  ·exact .inr (.inl (hown g h))
  ·exact .inr (.inr h)
 ·rcases hE.owns k (by rw [← List.append_assoc];exact hk) with h | h
  ·exact .inl (hown k h)
  ·exact .inr h):p:=h
theorem Rz [Tabs] {P:Program} {o:Oper} {l:List Operand} {rd:Operand→AV} {H:Heap} {nx:Nat} {r:Res} {ids:List Nat} (hids:∀ x∈l,∀ id∈BO (rd x),id∈ids)
  (h:iH P o (l.map fun x=>(x,true,BF H (rd x))) H nx r) (ht0:r.touch=[]):iH P o (l.map fun x=>(x,true,rd x)) H nx ⟨r.v,ids,r.wr++ids.map (fun i=>(i,AB.dead)),r.nx⟩:=by
 intro m S w a H₂ K Q hG ht hfree hus hK;refine h m (fun g=>S g∨lent m H₂ ids g) w a (ids.map (fun i=>(i,AB.dead))++H₂) K Q (DL hG ids) (by rw [ht0];simp) hfree (fun u hu _=>?_) (fun v m' S' w' hE hV=>?_)
 ·obtain ⟨x,hx,rfl⟩:=List.mem_map.1 hu;exact Rl hG (fun id hi=>ht id (hids x hx id hi)) (fun _ h=>.inl h) (fun g ⟨i,v,hi,h1,h2,h3⟩=>.inr ⟨i,v,hids x hx i hi,h1,h2,h3⟩) (hus (x,true,rd x) (List.mem_map.2 ⟨x,hx,rfl⟩) rfl)
 ·exact aik
def agT:List (Nat×AV)→Bool
 | (_,.ptr _ _)::_=>true
 | _=>false
def zK (T:Tab) (H:Heap) (nx:Nat) (t:TypeId) (n:Nat) (parts:List (Nat×AV)) (k:Res→Prop):Prop :=
 match agT parts with
 | true=>zI T nx t n parts k
 | false=>match parts.flatMap fun p=>BO p.2 with
 | []=>xq T nx t n parts k
 | i::is=>xq T nx t n (parts.map fun p=>(p.1,BF H p.2)) fun r=>match r.touch with
  | []=>k ⟨r.v,i::is,r.wr++(i::is).map (fun i=>(i,AB.dead)),r.nx⟩
  | _=>False
theorem F5 [Tabs] {P:Program} {T:Tab} (hT:dh P T) {rd:Operand→AV} {H:Heap} {nx:Nat} {t:TypeId} {n:Nat} {parts:Array (Nat×Operand)} {o:Oper} (ho:o.op=.buildSlice t n parts) {k:Res→Prop}
  (h:zK T H nx t n (parts.toList.map fun p=>(p.1,rd p.2)) k):∃ r,iH P o (parts.toList.map fun p=>(p.2,true,rd p.2)) H nx r∧nx≤r.nx∧k r:=by
 unfold zK at h;split at h
 ·exact FZ hT ho h
 split at h
 ·exact zq hT ho h
 ·rename_i i is hids;rw [List.map_map] at h;obtain ⟨r,h1,h2,h3⟩:=zq (rd:=fun x=>BF H (rd x)) hT ho h;split at h3
  ·rename_i ht;refine ⟨_,?_,?_,h3⟩
   ·have:=Rz (P:=P) (o:=o) (l:=parts.toList.map (·.2)) (rd:=rd) (H:=H) (nx:=nx) (r:=r) (ids:=i::is) (fun x hx id hid=>?_) (by rw [List.map_map];exact h1) ht
    ·rw [List.map_map] at this;exact this
    ·obtain ⟨p,hp,rfl⟩:=List.mem_map.1 hx;rw [← hids];exact List.mem_flatMap.2 ⟨_,List.mem_map.2 ⟨p,hp,rfl⟩,hid⟩
   ·exact h2
  ·exact h3.elim
def EF (H:Heap) (x:AV):Option Nat :=none
theorem wJ {H:Heap} {x:AV} {id:Nat} (h:EF H x=some id):x=.own id:=(by have h0:(none:Option Nat)=some id:=h;cases h0)
def OJ (T:Tab) (H:Heap) (nx:Nat) (t:TypeId) (id:Nat) (x:AV) (k:Res→Prop):Prop:=False
theorem KI [Tabs] {P:Program} {T:Tab} (hT:dh P T) {rd:Operand→AV} {H:Heap} {nx id:Nat} {t:TypeId} {s x:Operand} {o:Oper}
  (ho:o.op=.call { callee:=.builtin .append,args:=#[s,x],argTypes:=#[t,t] }) (hs:rd s=.own id) {k:Res→Prop}
  (h:OJ T H nx t id (rd x) k):∃ r,iH P o [(s,true,rd s),(x,true,rd x)] H nx r∧nx≤r.nx∧k r:=(show False from h).elim
def RV (T:Tab) (H:Heap) (nx:Nat) (t:TypeId) (id:Nat) (lo hi:Option AV) (k:Res→Prop):Prop:=False
theorem QueRel.drop {S:Blocks} {w:World} {e E:Nat} {l:List AV} {g o cap:Nat} {cur:Array Value} (h:QueRel S w e E l g o cap cur) {n:Nat} (hn:n≤l.length) :
  QueRel S w e E (l.drop n) g (if cap=n then o else o+n*E) (cap-n) cur:=by
 have hr:=h.room;have hl:=h.len;have hsub:n*E+(cap-n)*E=cap*E:=by rw [← Nat.add_mul];congr 1;omega
 refine ⟨h.at_,by rw [List.length_drop];omega,Nat.le_trans (Nat.sub_le _ _) h.max,?_,fun x hx=>h.size x (List.mem_of_mem_drop hx),fun a ha=>?_,fun j c a hj ha=>?_⟩
 ·split
  ·rename_i e;subst e;rw [Nat.sub_self,Nat.zero_mul];omega
  ·omega
 ·rw [zy _ _ h.size] at ha;exact h.ones a (List.mem_of_mem_drop ha)
 ·rw [zy _ _ h.size] at ha;rw [List.getElem?_drop] at ha;split at hj
  ·rename_i e;subst e;have:=(List.getElem?_eq_some_iff.1 ha).1;rw [flat_length l h.size] at this;have:l.length*E≤cap*E:=Nat.mul_le_mul_right _ hl;omega
  ·exact h.rel (n*E+j) c a (by rw [← Nat.add_assoc];exact hj) ha
theorem Oh [Tabs] {P:Program} {T:Tab} (hT:dh P T) {rd:Operand→AV} {H:Heap} {nx id:Nat} {t:TypeId} {x:Operand} {lo hi:Option Operand} {o:Oper} (ho:o.op=.slice t x lo hi none) (hx0:rd x=.own id) {k:Res→Prop}
  (h:RV T H nx t id (lo.map rd) (hi.map rd) k):∃ r,iH P o (rV rd x lo hi) H nx r∧nx≤r.nx∧k r:=(show False from h).elim
def CB (T:Tab) (g:Option Bool) (H:Heap) (nx:Nat) (t:TypeId) (id:Nat) (i:AV) (k:Res→Prop):Prop:=False
theorem zC [Tabs] {P:Program} {T:Tab} (hT:dh P T) {g:Option Bool} {rd:Operand→AV} {H:Heap} {nx id:Nat} {t:TypeId} {x i:Operand} {o:Oper} (ho:o.op=.indexAddr t x i) (hx0:rd x=.own id) {k:Res→Prop}
  (h:CB T g H nx t id (rd i) k):∃ r,(ig g→cZ P o [(x,true,rd x),(i,true,rd i)] H nx r)∧(r.wr=[]∧r.nx=nx)∧k r:=(show False from h).elim
def Q9 (T:Tab) (H:Heap) (nx:Nat) (t:TypeId) (id:Nat) (k:Res→Prop):Prop:=False
theorem GZ [Tabs] {P:Program} {T:Tab} (hT:dh P T) {rd:Operand→AV} {H:Heap} {nx id:Nat} {t:TypeId} {x:Operand} {o:Oper}
  (ho:o.op=.call { callee:=.builtin .len,args:=#[x],argTypes:=#[t] }) (hx0:rd x=.own id) {k:Res→Prop}
  (h:Q9 T H nx t id k):∃ r,cZ P o [(x,true,rd x)] H nx r∧(r.wr=[]∧r.nx=nx)∧k r:=(show False from h).elim
def g_ (a b:AV):Prop:=∀ (S:Blocks) (w:World) (v:Value),RelT S w v a→RelT S w v b
theorem PX [Tabs] {P:Program} {o:Oper} {l:List Operand} {rd:Operand→AV} {H:Heap} {nx:Nat} {r:Res} {ids:List Nat} (hids:∀ x∈l,∀ id∈BO (rd x),id∈ids)
  (h:iH P o (l.map fun x=>(x,true,BF H (rd x))) H nx r) (ht0:∀ id∈r.touch,id∉ids):iH P o (l.map fun x=>(x,true,rd x)) H nx ⟨r.v,r.touch++ids,r.wr++ids.map (fun i=>(i,AB.dead)),r.nx⟩:=by
 intro m S w a H₂ K Q hG ht hfree hus hK;refine h m (fun g=>S g∨lent m H₂ ids g) w a (ids.map (fun i=>(i,AB.dead))++H₂) K Q (DL hG ids) (fun id hid=>?_) hfree (fun u hu _=>?_) (fun v m' S' w' hE hV=>?_)
 ·rw [yE,if_neg (ht0 id hid)];exact ht id (List.mem_append.2 (.inl hid))
 ·obtain ⟨x,hx,rfl⟩:=List.mem_map.1 hu;exact Rl hG (fun id hi=>ht id (List.mem_append.2 (.inr (hids x hx id hi)))) (fun _ h=>.inl h) (fun g ⟨i,v,hi,h1,h2,h3⟩=>.inr ⟨i,v,hids x hx i hi,h1,h2,h3⟩) (hus (x,true,rd x) (List.mem_map.2 ⟨x,hx,rfl⟩) rfl)
 ·exact aik
def Ce:List Nat→List Nat→Bool
 | [],_=>true
 | i::l,ids=>match mP i ids with
  | true=>Ce l ids
  | false=>false
theorem Jt {ids:List Nat}:∀ {l:List Nat},Ce l ids=true→∀ i∈l,i∉ids
 | [],_,i,h=>by simp at h
 | j::l,h,i,hi=>by
  unfold Ce at h;split at h
  ·rename_i hb;rcases List.mem_cons.1 hi with rfl | hi
   ·intro hm;exact uF hb _ hm rfl
   ·exact Jt h i hi
  ·cases h
def JD (T:Tab) (H:Heap) (nx:Nat) (t:TypeId) (p v:AV) (k:Res→Prop):Prop :=
 match p with
 | .eptr id E i (q+1)=>match v with
  | .nils=>∃ v',g_ .nils v'∧rW T H nx t (.eptr id E i (q+1)) v' k
  | _=>match BO v with
   | []=>rW T H nx t p v k
   | i::is=>rW T H nx t p (BF H v) fun r=>match Ce r.touch (i::is) with
    | true=>k ⟨r.v,r.touch++(i::is),r.wr++(i::is).map (fun i=>(i,AB.dead)),r.nx⟩
    | false=>False
 | .eptr ..=>match BO v with
  | []=>rW T H nx t p v k
  | i::is=>rW T H nx t p (BF H v) fun r=>match Ce r.touch (i::is) with
   | true=>k ⟨r.v,r.touch++(i::is),r.wr++(i::is).map (fun i=>(i,AB.dead)),r.nx⟩
   | false=>False
 | _=>rW T H nx t p v k
theorem Nr [Tabs] {P:Program} {T:Tab} (hT:dh P T) {rd:Operand→AV} {H:Heap} {nx:Nat} {t:TypeId} {x y:Operand} {o:Oper} (ho:o.op=.store t x y) {k:Res→Prop}
  (h:JD T H nx t (rd x) (rd y) k):∃ r,iH P o [(x,true,rd x),(y,true,rd y)] H nx r∧nx≤r.nx∧k r:=by
 have frz:∀ (a b c d:Nat),rd x=.eptr a b c d→(match BO (rd y) with
   | []=>rW T H nx t (rd x) (rd y) k
   | i::is=>rW T H nx t (rd x) (BF H (rd y)) fun r=>match Ce r.touch (i::is) with
    | true=>k ⟨r.v,r.touch++(i::is),r.wr++(i::is).map (fun i=>(i,AB.dead)),r.nx⟩
    | false=>False)→∃ r,iH P o [(x,true,rd x),(y,true,rd y)] H nx r∧nx≤r.nx∧k r:=by
  intro a b c d hp h;split at h
  ·exact vT hT ho h
  ·rename_i i is hids;have hp2:BF H (rd x)=rd x:=by rw [hp];rfl
   obtain ⟨r,h1,h2,h3⟩:=vT (rd:=fun z=>BF H (rd z)) hT ho (k:=fun r=>match Ce r.touch (i::is) with
    | true=>k ⟨r.v,r.touch++(i::is),r.wr++(i::is).map (fun i=>(i,AB.dead)),r.nx⟩
    | false=>False) (by rw [hp2];exact h)
   split at h3
   ·rename_i ht;refine ⟨_,?_,?_,h3⟩
    ·exact PX (P:=P) (o:=o) (l:=[x,y]) (rd:=rd) (H:=H) (nx:=nx) (r:=r) (ids:=i::is) (fun z hz id hid=>by
      simp only [List.mem_cons,List.not_mem_nil,or_false] at hz;rcases hz with rfl | rfl
      ·rw [hp] at hid;simp [BO,sV] at hid
      ·rw [← hids];exact hid) h1 (Jt ht)
    ·exact h2
   ·exact h3.elim
 unfold JD at h;split at h
 ·rename_i a b c d hp;split at h
  ·rename_i hy;haveI:∀ z:Operand,Decidable (z=y):=fun _=>Classical.propDecidable _
   obtain ⟨v',hle,h⟩:=h;obtain ⟨r,h1,h2,h3⟩:=vT (rd:=fun z=>if z=y then v' else rd z) hT ho (k:=k) (by
    by_cases e:x=y
    ·rw [← e,hp] at hy;cases hy
    ·simp only [if_neg e,if_true];rw [hp];exact h)
   have hxy:x≠y:=fun e=>by rw [← e,hp] at hy;cases hy
   refine ⟨r,?_,h2,h3⟩;intro m S w a₀ H₂ K Q hG ht hf hus hK;refine h1 m S w a₀ H₂ K Q hG ht hf (fun u hu hu2=>?_) hK;simp only [List.mem_cons,List.not_mem_nil,or_false,if_neg hxy,if_true] at hu;rcases hu with rfl | rfl
   ·exact hus _ (by simp) rfl
   ·have:=hus (y,true,rd y) (by simp) rfl;simp only [hy] at this;exact .t _ _ (hle _ _ _ (this.toT rfl))
  ·exact frz a b c (d+1) hp h
 ·rename_i a b c d _ hp;exact frz a b c d hp h
 ·exact vT hT ho h
structure St:Type 1 where
 env:Env
 heap:Heap
 nx:Nat
structure Lay where
 tmp:Nat
 pol:Bool
 g:Bool
abbrev Loc:=List (Nat×Nat×AV)
def look:Loc→Env→Nat→Nat×AV
 | [],env,s=>(0,lk env s)
 | (i,d,v)::r,env,s=>match Nat.beq i s with
  | true=>(d,v)
  | false=>look r env s
def kill (d:Nat):Loc→Loc
 | []=>[]
 | (i,e,v)::r=>match Nat.ble e d with
  | true=>(i,e,v)::kill d r
  | false=>(i,0,.undef)::kill d r
def n_:List Lay→Option Bool
 | []=>none
 | ⟨_,_,g⟩::_=>some g
def IG:List AV→(List AV→Prop)→Prop
 | [],k=>k []
 | a::l,k=>IG l fun l=>k (a::l)
theorem Jk:∀ {l:List AV} {k:List AV→Prop},IG l k↔k l
 | [],k=>Iff.rfl
 | a::l,k=>by simp only [IG,Jk]
def uJ (v:AV) (k:AV→Prop):Prop :=
 match v with
 | .undef=>k .undef
 | .bool b=>k (.bool b)
 | .int i n=>k (.int i n)
 | .str l=>k (.str l)
 | .agg l=>k (.agg l)
 | .tup l=>k (.tup l)
 | .nilp=>k .nilp
 | .rop l=>k (.rop l)
 | .nils=>k .nils
 | .lsl E l=>k (.lsl E l)
 | .sl E enc d xs=>k (.sl E enc d xs)
 | .nilm=>k .nilm
 | .rsmap ev dv es=>k (.rsmap ev dv es)
 | .rimap i ev dv es=>k (.rimap i ev dv es)
 | .rgmap i ev dv es=>k (.rgmap i ev dv es)
 | .nilf=>k .nilf
 | .fn f a b=>k (.fn f a b)
 | .ptr id off=>k (.ptr id off)
 | .eptr id E i off=>k (.eptr id E i off)
 | .own id=>k (.own id)
 | .pre id n=>k (.pre id n)
 | .part id E off n=>k (.part id E off n)
 | .map id=>k (.map id)
 | .skip=>k .skip
 | .iarr q n f=>k (.iarr q n f)
 | .qptr id E i=>k (.qptr id E i)
 | .any1=>k .any1
 | .ifc b=>k (.ifc b)
 | .csl id n=>k (.csl id n)
 | .ival t l=>IG l fun l=>k (.ival t l)
 | .sem p=>k (.sem p)
theorem pz {v:AV} {k:AV→Prop}:uJ v k↔k v:=by cases v<;>simp [uJ,Jk]
def B_:List AV→(List AV→Prop)→Prop
 | [],k=>k []
 | a::l,k=>uJ a fun a=>B_ l fun l=>k (a::l)
theorem xg:∀ {l:List AV} {k:List AV→Prop},B_ l k↔k l
 | [],k=>Iff.rfl
 | a::l,k=>by simp only [B_,pz,xg]
def Ob (b:AB) (k:AB→Prop):Prop :=
 match b with
 | .dead=>k .dead
 | .cells e l=>B_ l fun l=>k (.cells e l)
 | .lst e E l=>k (.lst e E l)
 | .row e E enc d xs=>k (.row e E enc d xs)
 | .smap ev dv es=>k (.smap ev dv es)
 | .imap i ev dv es=>k (.imap i ev dv es)
 | .gmap i ev dv es=>k (.gmap i ev dv es)
 | .arr e q n f=>k (.arr e q n f)
 | .que e E enc d xs=>k (.que e E enc d xs)
theorem U5 {b:AB} {k:AB→Prop}:Ob b k↔k b:=by cases b<;>simp [Ob,xg]
def yB:Loc→(Loc→Prop)→Prop
 | [],k=>k []
 | (i,d,v)::l,k=>yB l fun l=>k ((i,d,v)::l)
theorem xu:∀ {l:Loc} {k:Loc→Prop},yB l k↔k l
 | [],k=>Iff.rfl
 | (i,d,v)::l,k=>by simp only [yB,xu]
def EY:List Lay→(List Lay→Prop)→Prop
 | [],k=>k []
 | ⟨t,p,g⟩::l,k=>EY l fun l=>k (⟨t,p,g⟩::l)
theorem Gy:∀ {l:List Lay} {k:List Lay→Prop},EY l k↔k l
 | [],k=>Iff.rfl
 | ⟨t,p,g⟩::l,k=>by simp only [EY,Gy]
def Xk:List Lay→Nat→(Nat→Prop)→Prop
 | [],n,k=>k n
 | _::l,n,k=>Xk l (n+1) k
theorem TT:∀ {l:List Lay} {n:Nat} {k:Nat→Prop},Xk l n k↔k (n+l.length)
 | [],n,k=>Iff.rfl
 | _::l,n,k=>by rw [Xk,TT,List.length_cons];rw [show n+1+l.length=n+(l.length+1) by omega]
def LH:List (Nat×AB)→Heap→(Heap→Prop)→Prop
 | [],H,k=>k H
 | (i,b)::r,H,k=>Ob b fun b=>LH r H fun H=>k ((i,b)::H)
theorem jq:∀ {wr:List (Nat×AB)} {H:Heap} {k:Heap→Prop},LH wr H k↔k (wr++H)
 | [],H,k=>Iff.rfl
 | (i,b)::r,H,k=>by simp only [LH,U5,jq];rfl
def oI (d:Nat):List Lay→List Lay
 | []=>[]
 | l::r=>match Nat.ble (r.length+1) d with
  | true=>l::r
  | false=>oI d r
def LQ:Bool→Bool→Bool
 | true,true=>true
 | false,false=>true
 | _,_=>false
def Et (t:Nat) (pol:Bool):List Lay→Option (List Lay)
 | []=>none
 | l::r=>match Nat.beq l.tmp t&&LQ l.pol pol with
  | true=>some (l::r)
  | false=>Et t pol r
def yc:Bool→Bool→Bool
 | true,b=>b
 | false,b=>!b
def wo:List Lay→Bool→Bool
 | [],b=>b
 | ⟨_,_,g⟩::_,b=>g&&b
def enter (all:List Oper) (gd:Option (Nat×Bool)) (loc:Loc) (env:Env) (stk:List Lay) (k:List Lay→Loc→Prop):Prop :=
 match gd with
 | none=>match stk with
  | []=>k [] loc
  | _::_=>yB (kill 0 loc) fun loc=>k [] loc
 | some (j,pol)=>match all[j]? with
  | none=>False
  | some oj=>match oj.dst with
   | none=>False
   | some t=>match Et t pol stk with
    | some s=>match Nat.beq s.length stk.length with
     | true=>k s loc
     | false=>yB (kill s.length loc) fun loc=>k s loc
    | none=>match look loc env t with
     | (d,.bool b)=>EY (oI d stk) fun p=>match Nat.beq p.length stk.length with
      | true=>k (⟨t,pol,wo p (yc pol b)⟩::p) loc
      | false=>yB (kill p.length loc) fun loc=>k (⟨t,pol,wo p (yc pol b)⟩::p) loc
     | _=>False
structure Cx where
 P:Program
 T:Tab
 N:Nat
 keep:List Nat
 pn:Nat
 wr:Bool
 px:List PanicEntry→Prop
def yA (loc:Loc) (env:Env):Operand→AV
 | .tmp s=>(look loc env s).2
 | .const v=>JV v
 | .global _=>.undef
 | .func f=>.fn (.func f) [] []
theorem BP {g:Option Bool} (h:g.getD true=true):ig g:=by
 cases g with
 | none=>trivial
 | some b=>exact h
inductive CallG [Tabs] (P:Program) (px:List PanicEntry→Prop) (f:FuncId) (avs:List AV) (H:Heap) (nx:Nat) (g:Option Bool) (det:Bool) (k:Res→Prop):Prop
 | any (args':List AV) (touch:List Nat) (R:List AR→Prop) (hd:g.getD true=true∧det=false) (hc:bM P f args' R) (hb:BorL (oN H) avs args' touch) (hflat:touch=[]∨∀ rs,R rs→∀ r∈rs,r.flat)
   (hk:∀ rs,R rs→Dh rs nx [] [] fun vs wr n=>k ⟨oM vs,touch,wr,n⟩)
 | one (args':List AV) (touch:List Nat) (rs:List AR) (hc:ig g→bM P f args' (fun r=>r=rs)) (hb:BorL (oN H) avs args' touch) (hflat:touch=[]∨∀ r∈rs,r.flat)
   (hg:g.getD true=true∨tw rs nx=[]) (hk:Dh rs nx [] [] fun vs wr n=>k ⟨oM vs,touch,wr,n⟩)
 | raw (touch:List Nat) (Rr:Res→Prop) (hd:g.getD true=true) (hdet:det=true→∃ r,(∀ r',Rr r'↔r'=r)∧r.touch=touch) (hc:jT P f avs H nx touch Rr) (hk:∀ r,Rr r→nx≤r.nx∧k r)
 | pan (touch:List Nat) (Rr:Res→Prop) (Px:List PanicEntry→Prop) (hd:g.getD true=true) (hdet:det=true→∃ r,(∀ r',Rr r'↔r'=r)∧r.touch=touch) (hc:jY P f avs H nx touch Rr Px) (hp:∀ ch,Px ch→px ch) (hk:∀ r,Rr r→nx≤r.nx∧k r)
def un (g:Option Bool) (p:Prop):Prop :=
 match g with
 | none=>p
 | some _=>False
def wX [Tabs] (C:Cx) (det:Bool) (g:Option Bool) (rd:Operand→AV) (H:Heap) (nx:Nat) (c:Call) (k:Res→Prop):Prop :=
 match c.callee with
 | .builtin .len=>match c.args.toList,c.argTypes.toList with
  | [x],[t]=>match EF H (rd x) with
   | some id=>Q9 C.T H nx t id k
   | none=>Qr C.T H nx t (rd x) k
  | _,_=>False
 | .builtin .append=>match c.args.toList,c.argTypes.toList with
  | [s,x],[t,t']=>match Nat.beq t t' with
   | true=>un g (match EF H (rd s) with
    | some id=>OJ C.T H nx t id (rd x) k
    | none=>JE C.T H nx t (rd s) (rd x) k)
   | false=>un g (Gg C.T H nx t t' (rd s) (rd x) k)
  | _,_=>False
 | .builtin .unsafeSliceData=>match c.args.toList,c.argTypes.toList with
  | [x],[_]=>un g (DC H nx (rd x) k)
  | _,_=>False
 | .builtin .unsafeString=>match c.args.toList,c.argTypes.toList with
  | [x,y],[pt,_]=>un g (Rk C.T H nx pt (rd x) (rd y) k)
  | _,_=>False
 | .builtin .min=>match c.args.toList with
  | [x,y]=>IW false (rd x) (rd y) fun v=>k ⟨v,[],[],nx⟩
  | _=>False
 | .builtin .max=>match c.args.toList with
  | [x,y]=>IW true (rd x) (rd y) fun v=>k ⟨v,[],[],nx⟩
  | _=>False
 | .value fop=>match rd fop with
  | .fn (.func f) first cap=>B_ (first++c.args.toList.map rd++cap) fun avs=>CallG C.P C.px f avs H nx g det k
  | _=>False
 | _=>False
def aap (C:Cx) (det:Bool) (g:Option Bool) (op:BinOp) (t:TypeId) (x y:AV) (c:AV→Prop):Prop :=
 match y with
 | .nils=>match det with
  | true=>Lh C.T op t x c
  | false=>match g with
   | some _=>Lh C.T op t x c
   | none=>match h_ C.T t with
    | some ⟨.slice _,_,_,_⟩=>match op with
     | .eql=>MO false x c
     | .neq=>MO true x c
     | _=>False
    | _=>False
 | _=>match C.wr with
  | false=>y9 C.P C.T g op t x y c
  | true=>QN C.P C.T g op t x y c
inductive LoadGl [Tabs] (T:Tab) (t:TypeId) (n:Nat) (k:AV→Prop):Prop
 | arr (i:TI) (l:List AV) (Qc:Array Value→Prop) (hi:h_ T t=some i) (ha:wZ i.desc=true) (hs:i.size=l.length) (hh:Tabs.held n=some Qc)
   (hq:∀ cs,Qc cs→cs.size=l.length∧∀ (S:Blocks) (w:World) (j:Nat) (c:Value) (a:AV),cs[j]?=some c→l[j]?=some a→RelT S w c a) (hk:k (.agg l))
def Np [Tabs] (C:Cx) (g:Option Bool) (rd:Operand→AV) (H:Heap) (nx:Nat) (t:TypeId) (x:Operand) (k:Res→Prop):Prop :=
 match x with
 | .global n=>LoadGl C.T t n fun v=>k ⟨v,[],[],nx⟩
 | x=>Ej C.T g H nx t (rd x) k
theorem U4 (w:World) (g j:Nat) (cs:Array Value) (e:TypeId) (fz:Nat×Nat) (h:w.heap[g]?=some (.cells cs e fz)):w.cell? ⟨g,j,none⟩=cs[j]?:=by
 simp [World.cell?,h]
theorem PZ [Tabs] {C:Cx} (hT:dh C.P C.T) {g:Option Bool} {rd:Operand→AV} {H:Heap} {nx:Nat} {t:TypeId} {x:Operand} {o:Oper} (ho:o.op=.load t x) {k:Res→Prop}
  (h:Np C g rd H nx t x k):∃ r,(ig g→cZ C.P o [(x,true,rd x)] H nx r)∧(r.wr=[]∧r.nx=nx)∧k r:=by
 unfold Np at h;split at h
 ·rename_i n;cases h with
  | arr i l Qc hi ha hs hh hq hk =>
   obtain ⟨hu,j,hj,hsz,_,_⟩:=hT t i hi;refine ⟨_,fun _=>bF fun m S w a H₂ hG ht hus=>?_,⟨rfl,rfl⟩,hk⟩;obtain ⟨hS,cs,e,fz,hg,hQ⟩:=hG.tab n Qc hh;obtain ⟨hl,hrel⟩:=hq cs hQ;refine ⟨.agg cs,fun w' hw'=>?_,.t _ _ (.agg cs l hl fun j c a=>hrel S w j c a)⟩;unfold execOp;have hev:a.eval (.global n)=.pointer (some ⟨n,0,none⟩):=rfl;have:=run_loadVar_mid (P:=C.P) w' n 0 t cs.toList i.desc (fun j v hj=>by
    refine hw'.cell ?_;rw [U4 w n (0+j) cs e fz hg,Nat.zero_add];simpa using hj) hu (by rw [← La];exact ha) (by rw [hj];simp [hsz,hl,hs])
   simp only [ho,hev,Instr.loadAt,Instr.sureAddr,Sem.run_bind,Sem.run_pure,Result.andThen_ok,this]
 ·exact xk hT ho h
def yF (g:Option Bool) (nx:Nat) (v:AV) (k:Res→Prop) (h:Prop):Prop :=
 match v with
 | .undef=>match g with
  | some false=>k ⟨.undef,[],[],nx⟩
  | _=>h
 | _=>h
theorem FH [Tabs] {P:Program} {g:Option Bool} {nx:Nat} {v:AV} {k:Res→Prop} {h:Prop} {o:Oper} {us:Uses} {H:Heap} (hs:h→∃ r,cZ P o us H nx r∧(r.wr=[]∧r.nx=nx)∧k r)
  (hh:yF g nx v k h):∃ r,(ig g→cZ P o us H nx r)∧(r.wr=[]∧r.nx=nx)∧k r:=by
 have main:h→∃ r,(ig g→cZ P o us H nx r)∧(r.wr=[]∧r.nx=nx)∧k r:=fun h=>let ⟨r,h1,h2⟩:=hs h;⟨r,fun _=>h1,h2⟩
 unfold yF at hh;split at hh
 ·split at hh
  ·exact ⟨_,fun hg=>(by cases hg),⟨rfl,rfl⟩,hh⟩
  ·exact main hh
 ·exact main hh
theorem Xt {g:Option Bool} {nx:Nat} {v:AV} {k:Res→Prop} {h:Prop} (hh:yF g nx v k h):(g=some false∧k ⟨.undef,[],[],nx⟩)∨h:=by
 unfold yF at hh;split at hh
 ·split at hh
  ·exact .inl ⟨rfl,hh⟩
  ·exact .inr hh
 ·exact .inr hh
def Rj [Tabs] (C:Cx) (det:Bool) (g:Option Bool) (rd:Operand→AV) (H:Heap) (nx:Nat) (o:Oper) (k:Res→Prop):Prop :=
 match o.op with
 | .move x=>k ⟨rd x,[],[],nx⟩
 | .assign x=>k ⟨rd x,[],[],nx⟩
 | .alloc t=>un g (Nb C.T nx t k)
 | .box t x=>un g (Lr nx t (rd x) k)
 | .build t parts=>Ij C.T nx t (parts.toList.map fun p=>(p.1,rd p.2)) k
 | .buildSlice t n parts=>un g (zK C.T H nx t n (parts.toList.map fun p=>(p.1,rd p.2)) k)
 | .load t x=>Np C g rd H nx t x k
 | .store t x y=>un g (JD C.T H nx t (rd x) (rd y) k)
 | .nilCheck x=>Ai (rd x) fun v=>k ⟨v,[],[],nx⟩
 | .binOp op t x y _=>match YF y with
  | true=>KZ C.T op t y (rd x) fun v=>k ⟨v,[],[],nx⟩
  | false=>yF g nx (rd x) k (aap C det g op t (rd x) (rd y) fun v=>k ⟨v,[],[],nx⟩)
 | .lookup t x y ok=>JL C.P C.T H nx t (rd x) (rd y) ok k
 | .mapUpdate t x y z=>un g (Jd C.P C.T H nx t (rd x) (rd y) (rd z) k)
 | .makeMap _ none=>un g (OX nx k)
 | .makeSlice t x y=>un g (Jl C.T nx t (rd x) (rd y) k)
 | .unOp op _ x=>match C.wr with
  | false=>Ur g op (rd x) fun v=>k ⟨v,[],[],nx⟩
  | true=>Ws g op (rd x) fun v=>k ⟨v,[],[],nx⟩
 | .convert s d x=>Il C.T g H nx s d (rd x) k
 | .makeFunc fn first cap=>k ⟨.fn fn (first.toList.map rd) (cap.toList.map rd),[],[],nx⟩
 | .slice t x lo hi none=>match EF H (rd x) with
  | some id=>un g (RV C.T H nx t id (lo.map rd) (hi.map rd) k)
  | none=>IU C.T g H nx t (rd x) (lo.map rd) (hi.map rd) k
 | .fieldAddr t x f=>yV C.T nx t (rd x) f k
 | .field t x f=>yF g nx (rd x) k (Ip C.T nx t (rd x) f k)
 | .indexAddr t x i=>match EF H (rd x) with
  | some id=>CB C.T g H nx t id (rd i) k
  | none=>yT C.T g H nx t (rd x) (rd i) k
 | .index t x i=>IC C.T g t (rd x) (rd i) fun v=>k ⟨v,[],[],nx⟩
 | .extract x n=>yF g nx (rd x) k (Di nx (rd x) n k)
 | .call c=>wX C det g rd H nx c k
 | .makeInterface t x=>NK C.T t (rd x) fun v=>k ⟨v,[],[],nx⟩
 | .typeAssert x _ t true=>JU C.T t (rd x) fun v=>k ⟨v,[],[],nx⟩
 | .panic x=>match det with
  | true=>False
  | false=>un g (PanG C.px (rd x))
 | _=>False
def lZ (rd:Operand→AV) (o:Oper):Uses:=o.op.operands.toList.map fun y=>(y,true,rd y)
theorem nO [Tabs] {P:Program} {px:List PanicEntry→Prop} {o:Oper} {us us':Uses} {H:Heap} {nx:Nat} {touch:List Nat} {Rr:Res→Prop} (h:vg P px o us H nx touch Rr) (hu:∀ u∈us,u∈us'):vg P px o us' H nx touch Rr :=
 fun m S w a H₂ K Q hG ht hf hus hK hP=>h m S w a H₂ K Q hG ht hf (fun u hm=>hus u (hu u hm)) hK hP
theorem qA {g:Option Bool} {p:Prop}:un g p↔g=none∧p:=by cases g<;>simp [un]
def Shown [Tabs] (P:Program) (px:List PanicEntry→Prop) (det:Bool) (g:Option Bool) (rd:Operand→AV) (H:Heap) (nx:Nat) (o:Oper) (k:Res→Prop):Prop :=
 ∃ touch Rr,(ig g→vg P px o (lZ rd o) H nx touch Rr)∧(¬ ig g→∃ r,(∀ r',Rr r'↔r'=r)∧r.wr=[]∧r.nx=nx)∧(det=true→∃ r,(∀ r',Rr r'↔r'=r)∧r.touch=touch)∧∀ r,Rr r→nx≤r.nx∧k r
theorem jC [Tabs] {P:Program} {px:List PanicEntry→Prop} {det:Bool} {g:Option Bool} {rd:Operand→AV} {H:Heap} {nx:Nat} {o:Oper} {k:Res→Prop} {us:Uses} (hu:∀ u∈us,u∈lZ rd o)
  (h:∃ r,(ig g→cZ P o us H nx r)∧(r.wr=[]∧r.nx=nx)∧k r):Shown P px det g rd H nx o k:=by
 obtain ⟨r,h1,⟨h2,h3⟩,h4⟩:=h;exact ⟨r.touch,fun r'=>r'=r,fun hg=>nO (h1 hg).sem.toR.toX hu,fun _=>⟨r,fun _=>Iff.rfl,h2,h3⟩,fun _=>⟨r,fun _=>Iff.rfl,rfl⟩,fun r' e=>by subst e;exact ⟨Nat.le_of_eq h3.symm,h4⟩⟩
theorem gG [Tabs] {P:Program} {px:List PanicEntry→Prop} {det:Bool} {g:Option Bool} {rd:Operand→AV} {H:Heap} {nx:Nat} {o:Oper} {k:Res→Prop} {us:Uses} (hu:∀ u∈us,u∈lZ rd o)
  (h:∃ r,cZ P o us H nx r∧(r.wr=[]∧r.nx=nx)∧k r):Shown P px det g rd H nx o k :=
 jC hu (let ⟨r,h1,h2⟩:=h;⟨r,fun _=>h1,h2⟩)
theorem kE [Tabs] {P:Program} {px:List PanicEntry→Prop} {det:Bool} {g:Option Bool} {rd:Operand→AV} {H:Heap} {nx:Nat} {o:Oper} {k:Res→Prop} {us:Uses} (hg:g=none) (hu:∀ u∈us,u∈lZ rd o)
  (h:∃ r,iH P o us H nx r∧nx≤r.nx∧k r):Shown P px det g rd H nx o k:=by
 obtain ⟨r,h1,h2,h3⟩:=h;subst hg;exact ⟨r.touch,fun r'=>r'=r,fun _=>nO h1.toR.toX hu,fun h=>(h trivial).elim,fun _=>⟨r,fun _=>Iff.rfl,rfl⟩,fun r' e=>by subst e;exact ⟨h2,h3⟩⟩
theorem Shown.mono [Tabs] {P:Program} {px:List PanicEntry→Prop} {det:Bool} {g:Option Bool} {rd:Operand→AV} {H:Heap} {nx:Nat} {o:Oper} {k k':Res→Prop} (h:Shown P px det g rd H nx o k) (hk:∀ r,k r→k' r):Shown P px det g rd H nx o k' :=
 let ⟨t,R,h1,h2,h3,h4⟩:=h
 ⟨t,R,h1,h2,h3,fun r hr=>⟨(h4 r hr).1,hk r (h4 r hr).2⟩⟩
theorem bg {rd:Operand→AV} {o:Oper} {l:List Operand} (h:∀ y∈l,y∈o.op.operands.toList):∀ u∈(l.map fun y=>(y,true,rd y):Uses),u∈lZ rd o:=by
 intro u hu;obtain ⟨y,hy,rfl⟩:=List.mem_map.1 hu;exact List.mem_map.2 ⟨y,h y hy,rfl⟩
theorem uS {p:Prop} (h:p:=by rw [hops];simp):p:=h
theorem Sl [Tabs] {C:Cx} (hT:dh C.P C.T) {det:Bool} {g:Option Bool} {rd:Operand→AV} {H:Heap} {nx:Nat} {o:Oper} {c:Call} (ho:o.op=.call c) {k:Res→Prop} (h:wX C det g rd H nx c k):Shown C.P C.px det g rd H nx o k:=by
 obtain ⟨callee,args,ats⟩:=c;cases callee with
 | invoke r m=>exact h.elim
 | builtin b =>
  have hops:o.op.operands.toList=args.toList:=by rw [ho];simp [Op.operands,Call.operands]
  cases b with
  | len =>
   simp only [wX] at h;split at h
   ·rename_i x t hx ht;have ha:args=#[x]:=by apply Array.ext';simpa using hx
    have hb:ats=#[t]:=by apply Array.ext';simpa using ht
    subst ha;subst hb;split at h
    ·rename_i id hq;exact gG (bg (l:=[x]) uS) (GZ hT ho (wJ hq) h)
    ·exact gG (bg (l:=[x]) uS) (Jb hT ho h)
   ·exact h.elim
  | append =>
   simp only [wX] at h;split at h
   ·rename_i s x t t' hx ht;have ha:args=#[s,x]:=by apply Array.ext';simpa using hx
    have hb:ats=#[t,t']:=by apply Array.ext';simpa using ht
    subst ha;subst hb;split at h
    ·rename_i hbeq;have:=Nat.eq_of_beq_eq_true hbeq;subst this;obtain ⟨hg,h⟩:=qA.1 h;split at h
     ·rename_i id hq;exact kE hg (bg (l:=[s,x]) uS) (KI hT ho (wJ hq) h)
     ·exact kE hg (bg (l:=[s,x]) uS) (N_ hT ho h)
    ·obtain ⟨hg,h⟩:=qA.1 h;exact kE hg (bg (l:=[s,x]) uS) (KG hT ho h)
   ·exact h.elim
  | unsafeSliceData =>
   simp only [wX] at h;split at h
   ·rename_i x t hx ht;have ha:args=#[x]:=by apply Array.ext';simpa using hx
    have hb:ats=#[t]:=by apply Array.ext';simpa using ht
    subst ha;subst hb;obtain ⟨hg,h⟩:=qA.1 h;exact kE hg (bg (l:=[x]) uS) (IZ ho h)
   ·exact h.elim
  | unsafeString =>
   simp only [wX] at h;split at h
   ·rename_i x y t t' hx ht;have ha:args=#[x,y]:=by apply Array.ext';simpa using hx
    have hb:ats=#[t,t']:=by apply Array.ext';simpa using ht
    subst ha;subst hb;obtain ⟨hg,h⟩:=qA.1 h;exact kE hg (bg (l:=[x,y]) uS) (Rn hT ho h)
   ·exact h.elim
  | min =>
   simp only [wX] at h;split at h
   ·rename_i x y hx;have ha:args=#[x,y]:=by apply Array.ext';simpa using hx
    subst ha;exact gG (bg (l:=[x,y]) uS) (yM (isMax:=false) ho h)
   ·exact h.elim
  | max =>
   simp only [wX] at h;split at h
   ·rename_i x y hx;have ha:args=#[x,y]:=by apply Array.ext';simpa using hx
    subst ha;exact gG (bg (l:=[x,y]) uS) (yM (isMax:=true) ho h)
   ·exact h.elim
  | _=>exact h.elim
 | value fop =>
  have hops:o.op.operands.toList=fop::args.toList:=by rw [ho];simp [Op.operands,Call.operands]
  simp only [wX] at h;split at h
  ·rename_i f first cap hf
   rw [xg] at h;have hu:∀ u∈((fop::args.toList).map fun y=>(y,true,rd y):Uses),u∈lZ rd o:=bg uS;cases h with
   | any args' touch R hd hc hb hflat hk =>
    obtain ⟨hd,rfl⟩:=hd;refine ⟨touch,_,fun _=>nO (Rw ho hf hb hc hflat).toX hu,fun h=>(h (BP hd)).elim,fun h=>(by cases h),?_⟩;rintro r ⟨rs,hR,rfl⟩;have:=Ew _ _ _ _ _ (hk rs hR);simp only [List.reverse_nil,List.nil_append,List.append_nil] at this;exact ⟨aS rs nx,this⟩
   | raw touch Rr hd hdet hc hk =>
    exact ⟨touch,Rr,fun _=>nO (UH ho hf hc).toX hu,fun h=>(h (BP hd)).elim,hdet,hk⟩
   | pan touch Rr Px hd hdet hc hp hk =>
    exact ⟨touch,Rr,fun _=>nO (PD ho hf hc hp) hu,fun h=>(h (BP hd)).elim,hdet,hk⟩
   | one args' touch rs hc hb hflat hg hk =>
    have hfl:touch=[]∨∀ rs',rs'=rs→∀ r∈rs',r.flat:=by
     rcases hflat with h | h
     ·exact .inl h
     ·exact .inr fun rs' e=>by subst e;exact h
    have hiff:∀ r':Res,(∃ rs',rs'=rs∧r'=⟨oM (tv rs' nx),touch,tw rs' nx,tn rs' nx⟩)↔r'=⟨oM (tv rs nx),touch,tw rs nx,tn rs nx⟩:=by
     intro r';constructor
     ·rintro ⟨rs',rfl,rfl⟩;rfl
     ·rintro rfl;exact ⟨rs,rfl,rfl⟩
    have htn:∀ (rs:List AR) (nx:Nat),tw rs nx=[]→tn rs nx=nx:=by
     intro rs;induction rs with
     | nil=>intro nx _;rfl
     | cons r rs ih =>
      intro nx h;cases r with
      | val a=>exact ih nx h
      | new b=>simp [tw] at h
    refine ⟨touch,fun r'=>∃ rs',rs'=rs∧r'=⟨oM (tv rs' nx),touch,tw rs' nx,tn rs' nx⟩,fun hg'=>nO (Rw ho hf hb (hc hg') hfl).toX hu,fun hne=>⟨⟨oM (tv rs nx),touch,tw rs nx,tn rs nx⟩,hiff,?_,?_⟩,fun _=>⟨⟨oM (tv rs nx),touch,tw rs nx,tn rs nx⟩,hiff,rfl⟩,?_⟩
    ·rcases hg with h | h
     ·exact (hne (BP h)).elim
     ·exact h
    ·rcases hg with h | h
     ·exact (hne (BP h)).elim
     ·exact htn rs nx h
    ·rintro r hr;obtain ⟨rs',rfl,rfl⟩:=hr;have:=Ew _ _ _ _ _ hk;simp only [List.reverse_nil,List.nil_append,List.append_nil] at this;exact ⟨aS rs' nx,this⟩
  ·exact h.elim
theorem xG [Tabs] {P:Program} {rd:Operand→AV} {H:Heap} {nx:Nat} {x:Operand} {o:Oper} (ho:o.op=.move x∨o.op=.assign x) {k:Res→Prop} (h:k ⟨rd x,[],[],nx⟩) :
  ∃ r,cZ P o [(x,true,rd x)] H nx r∧(r.wr=[]∧r.nx=nx)∧k r:=by
 refine ⟨_,bF fun m S w a H₂ hG ht hus=>⟨a.eval x,fun w' _=>?_,hus (x,true,rd x) (by simp) rfl⟩,⟨rfl,rfl⟩,h⟩;unfold execOp;rcases ho with ho | ho<;>simp [ho]
theorem acJ {p:Prop}(h:p:=by
 obtain ⟨p,hp,rfl⟩:=List.mem_map.1 hu;exact List.mem_map.2 ⟨p.2,by rw [ho];simp [Op.operands];exact ⟨p.1,by simpa using hp⟩,rfl⟩):p:=h
theorem afe {p:Prop}(h:p:=by
 have:rV rd x lo hi=((x::(lo.toList++hi.toList)).map fun y=>(y,true,rd y)):=rfl;rw [this];exact bg (by rw [ho];cases lo<;>cases hi<;>simp [Op.operands])):p:=h
theorem aei {p:Prop}(h:p:=by
 exact ⟨[],Rr,fun _=>nO h1.toX hu,fun h=>(h trivial).elim,fun h=>(by cases h),h2⟩):p:=h
theorem iq {p:Prop} (h:p:=by rw [ho];simp [Op.operands]):p:=h
theorem ad1 {p:Prop}(h:p:=by
 exact gG (bg (l:=[x,y]) iq) (Ri hT ho hy h)):p:=h
theorem qV [Tabs] {C:Cx} (hT:dh C.P C.T) {det:Bool} {g:Option Bool} {rd:Operand→AV} {H:Heap} {nx:Nat} {o:Oper} {k:Res→Prop} (h:Rj C det g rd H nx o k):Shown C.P C.px det g rd H nx o k:=by
 unfold Rj at h;split at h
 ·rename_i x ho;exact gG (bg (l:=[x]) iq) (xG (.inl ho) h)
 ·rename_i x ho;exact gG (bg (l:=[x]) iq) (xG (.inr ho) h)
 ·rename_i t ho;obtain ⟨hg,h⟩:=qA.1 h;exact kE hg (by simp) (P6 hT ho h)
 ·rename_i t x ho;obtain ⟨hg,h⟩:=qA.1 h;exact kE hg (bg (l:=[x]) iq) (UW ho h)
 ·rename_i t parts ho;refine gG (us:=parts.toList.map fun p=>(p.2,true,rd p.2)) (fun u hu=>?_) (FX hT ho h);exact acJ
 ·rename_i t n parts ho;obtain ⟨hg,h⟩:=qA.1 h;refine kE (us:=parts.toList.map fun p=>(p.2,true,rd p.2)) hg (fun u hu=>?_) (F5 hT ho h);exact acJ
 ·rename_i t x ho;exact jC (bg (l:=[x]) iq) (PZ hT ho h)
 ·rename_i t x y ho;obtain ⟨hg,h⟩:=qA.1 h;exact kE hg (bg (l:=[x,y]) iq) (Nr hT ho h)
 ·rename_i x ho;exact gG (bg (l:=[x]) iq) (BQ ho h)
 ·rename_i op t x y yt ho;split at h
  ·rename_i hyn;exact gG (bg (l:=[x,y]) iq) (Hw hT ho h)
  rcases Xt h with ⟨hg0,h⟩ | h
  ·exact ⟨[],fun r'=>r'=⟨.undef,[],[],nx⟩,fun hg=>(by rw [hg0] at hg;cases hg),fun _=>⟨_,fun _=>Iff.rfl,rfl,rfl⟩,fun _=>⟨_,fun _=>Iff.rfl,rfl⟩,fun r' e=>by subst e;exact ⟨Nat.le_refl _,h⟩⟩
  unfold aap at h;split at h
  ·rename_i hy;split at h
   ·exact ad1
   ·split at h
    ·exact ad1
    have hu:∀ u∈([(x,true,rd x),(y,true,rd y)]:Uses),u∈lZ rd o:=bg (l:=[x,y]) iq;split at h
    ·rename_i e a1 a2 a3 hi;split at h
     ·obtain ⟨Rr,h1,h2⟩:=GK (neg:=false) hT ho hy hi h;exact aei
     ·obtain ⟨Rr,h1,h2⟩:=GK (neg:=true) hT ho hy hi h;exact aei
     ·exact h.elim
    ·exact h.elim
  ·split at h
   ·exact jC (bg (l:=[x,y]) iq) (qp hT ho h)
   ·exact jC (bg (l:=[x,y]) iq) (Ue hT ho h)
 ·rename_i t x y ok ho;exact gG (bg (l:=[x,y]) iq) (Ed hT ho h)
 ·rename_i t x y z ho;obtain ⟨hg,h⟩:=qA.1 h;exact kE hg (bg (l:=[x,y,z]) iq) (I4 hT ho h)
 ·rename_i t ho;obtain ⟨hg,h⟩:=qA.1 h;exact kE hg (by simp) (MG ho h)
 ·rename_i t x y ho;obtain ⟨hg,h⟩:=qA.1 h;exact kE hg (bg (l:=[x,y]) iq) (IY hT ho h)
 ·rename_i op t x ho;split at h
  ·exact jC (bg (l:=[x]) iq) (Fg ho h)
  ·exact jC (bg (l:=[x]) iq) (UY ho h)
 ·rename_i s d x ho;exact jC (bg (l:=[x]) iq) (FM hT ho h)
 ·rename_i fn first cap ho
  exact gG (bg (l:=first.toList++cap.toList) iq) (BZ ho h)
 ·rename_i t x lo hi ho;have hus:∀ u∈rV rd x lo hi,u∈lZ rd o:=by
   exact afe
  split at h
  ·rename_i id hq;obtain ⟨hg,h⟩:=qA.1 h;exact kE hg hus (Oh hT ho (wJ hq) h)
  ·exact jC (us:=rV rd x lo hi) hus (FK hT ho h)
 ·rename_i t x f ho;exact gG (bg (l:=[x]) iq) (zV hT ho h)
 ·rename_i t x f ho;exact jC (bg (l:=[x]) iq) (FH (FP hT ho) h)
 ·rename_i t x i ho;split at h
  ·rename_i id hq;exact jC (bg (l:=[x,i]) iq) (zC hT ho (wJ hq) h)
  ·exact jC (bg (l:=[x,i]) iq) (zW hT ho h)
 ·rename_i t x i ho;exact jC (bg (l:=[x,i]) iq) (FQ hT ho h)
 ·rename_i x n ho;exact jC (bg (l:=[x]) iq) (FH (CY ho) h)
 ·rename_i c ho;exact Sl hT ho h
 ·rename_i t x ho;exact gG (bg (l:=[x]) iq) (Qa hT ho h)
 ·rename_i x xt t ho;exact gG (bg (l:=[x]) iq) (Ns hT ho h)
 ·rename_i x ho;split at h
  ·exact h.elim
  ·obtain ⟨hg,h⟩:=qA.1 h;subst hg;have hu:∀ u∈([(x,true,rd x)]:Uses),u∈lZ rd o:=bg (l:=[x]) iq;exact ⟨[],fun _=>False,fun _=>nO (P5 ho h) hu,fun h=>(h trivial).elim,fun h=>(by cases h),fun r hr=>hr.elim⟩
 ·exact h.elim
def oD (d:Nat):List Lay→Option Lay
 | []=>none
 | l::r=>if r.length+1=d then some l else oD d r
def yieldT (tmps:Array Value) (t:Nat):Option Bool :=
 match tmps[t]? with
 | some (.bool b)=>some b
 | _=>none
def NM:List Lay→Prop
 | []=>True
 | l::r=>l.g=true∧NM r
def uz (tmps:Array Value):List Lay→Prop
 | []=>True
 | l::r=>uz tmps r∧(yieldT tmps l.tmp == some l.pol)=l.g∧(l.g=true→NM r)
def ZM (m:Ids) (S:Blocks) (w:World) (stk:List Lay) (v:Value):Nat×AV→Prop
 | (0,a)=>RelV m S w v a
 | (d+1,a)=>∃ l,oD (d+1) stk=some l∧(l.g=true→RelV m S w v a)∧(l.g=false→v=undef)
structure RunI (m:Ids) (S:Blocks) (w:World) (N:Nat) (tmps:Array Value) (loc:Loc) (env:Env) (stk:List Lay):Prop where
 size:tmps.size=N
 rel:∀ s,ZM m S w stk (tmps.getD s undef) (look loc env s)
 stk:uz tmps stk
theorem GL {d:Nat}:∀ {stk:List Lay} {l:Lay},oD d stk=some l→1≤d∧d≤stk.length
 | [],_,h=>by simp [oD] at h
 | l'::r,l,h=>by
  unfold oD at h;split at h
  ·rename_i e;simp;omega
  ·have:=GL h;simp;omega
theorem Fz {d:Nat}:∀ {stk:List Lay} {l:Lay},oD d stk=some l→l∈stk
 | [],_,h=>by simp [oD] at h
 | l'::r,l,h=>by
  unfold oD at h;split at h
  ·cases h;simp
  ·exact List.mem_cons.2 (.inr (Fz h))
theorem zS {d:Nat} {p s:List Lay} (h:d≤s.length):oD d (p++s)=oD d s:=by
 induction p with
 | nil=>rfl
 | cons l p ih =>
  rw [List.cons_append,oD,if_neg nC];exact ih
theorem uz.suffix {tmps:Array Value} {p s:List Lay} (h:uz tmps (p++s)):uz tmps s:=by
 induction p with
 | nil=>exact h
 | cons l p ih=>exact ih h.1
theorem Rf:∀ {stk:List Lay},NM stk→∀ l∈stk,l.g=true
 | [],_,l,h=>by simp at h
 | l'::r,h,l,hl=>by
  rcases List.mem_cons.1 hl with rfl | hl
  ·exact h.1
  ·exact Rf h.2 l hl
theorem Tj {tmps:Array Value} {stk:List Lay} (h:uz tmps stk) (hg:ig (n_ stk)):NM stk:=by
 cases stk with
 | nil=>trivial
 | cons l r=>exact ⟨hg,h.2.2 hg⟩
theorem G7 (d:Nat):∀ (stk:List Lay),∃ p,stk=p++oI d stk
 | []=>⟨[],rfl⟩
 | l::r=>by
  unfold oI;split
  ·exact ⟨[],rfl⟩
  ·obtain ⟨p,hp⟩:=G7 d r;exact ⟨l::p,by rw [List.cons_append,← hp]⟩
theorem O5 {d:Nat}:∀ (stk:List Lay),d≤stk.length→(oI d stk).length=d
 | [],h=>by simp at h;subst h;rfl
 | l::r,h=>by
  unfold oI;split
  ·rename_i hb;have:=Nat.le_of_ble_eq_true hb;simp at h ⊢;omega
  ·rename_i hb;have:¬ r.length+1≤d:=fun hle=>by rw [Nat.ble_eq_true_of_le hle] at hb;cases hb
   exact O5 r (by omega)
theorem DX {t:Nat} {pol:Bool}:∀ {stk s:List Lay},Et t pol stk=some s→(∃ p,stk=p++s)∧∃ l r,s=l::r∧l.tmp=t∧l.pol=pol
 | [],s,h=>by simp [Et] at h
 | l::r,s,h=>by
  unfold Et at h;split at h
  ·rename_i hb;cases h;simp only [Bool.and_eq_true] at hb;refine ⟨⟨[],rfl⟩,l,r,rfl,Nat.eq_of_beq_eq_true hb.1,?_⟩;have:=hb.2;cases hl:l.pol<;>cases pol<;>simp [hl,LQ] at this ⊢
  ·obtain ⟨⟨p,hp⟩,h2⟩:=DX h;exact ⟨⟨l::p,by rw [List.cons_append,← hp]⟩,h2⟩
theorem O4 (d:Nat):∀ (loc:Loc) (env:Env) (s:Nat),look (kill d loc) env s=look loc env s∧(look loc env s).1≤d∨look (kill d loc) env s=(0,.undef)
 | [],env,s=>.inl ⟨rfl,Nat.zero_le _⟩
 | (i,e,v)::r,env,s=>by
  by_cases hi:i=s
  ·subst hi;by_cases hd:e≤d
   ·left;rw [kill,Nat.ble_eq_true_of_le hd];simp [look,hd]
   ·right;have:Nat.ble e d=false:=by
     cases h:Nat.ble e d with
     | false=>rfl
     | true=>exact (hd (Nat.le_of_ble_eq_true h)).elim
    rw [kill,this];simp [look]
  ·have hb:Nat.beq i s=false:=by
    cases h:Nat.beq i s with
    | false=>rfl
    | true=>exact (hi (Nat.eq_of_beq_eq_true h)).elim
   have ih:=O4 d r env s;rw [kill];cases Nat.ble e d<;>simp only [look,hb]<;>exact ih
theorem RunI.pop {m:Ids} {S:Blocks} {w:World} {N:Nat} {tmps:Array Value} {loc:Loc} {env:Env} {p s:List Lay} (h:RunI m S w N tmps loc env (p++s)):RunI m S w N tmps (kill s.length loc) env s:=by
 refine ⟨h.size,fun x=>?_,h.stk.suffix⟩;rcases O4 s.length loc env x with ⟨h1,h2⟩ | h1
 ·rw [h1];have hr:=h.rel x;revert hr h2;generalize look loc env x=q;obtain ⟨d,a⟩:=q;intro h2 hr;cases d with
  | zero=>exact hr
  | succ d =>
   obtain ⟨l,hl,h3⟩:=hr;exact ⟨l,by rw [← hl,zS h2],h3⟩
 ·rw [h1];exact .t _ _ (.undef _)
theorem RunI.push {m:Ids} {S:Blocks} {w:World} {N:Nat} {tmps:Array Value} {loc:Loc} {env:Env} {stk:List Lay} (h:RunI m S w N tmps loc env stk) {l:Lay} (h1:(yieldT tmps l.tmp == some l.pol)=l.g) (h2:l.g=true→NM stk):RunI m S w N tmps loc env (l::stk):=by
 refine ⟨h.size,fun x=>?_,h.stk,h1,h2⟩;have hr:=h.rel x;revert hr;generalize look loc env x=q;obtain ⟨d,a⟩:=q;intro hr;cases d with
 | zero=>exact hr
 | succ d =>
  obtain ⟨l',hl,h3⟩:=hr;exact ⟨l',by rw [show l::stk=[l]++stk from rfl,zS (GL hl).2];exact hl,h3⟩
theorem YU {stk:List Lay} {b:Bool} (h:wo stk b=true):ig (n_ stk)∧b=true:=by
 cases stk with
 | nil=>exact ⟨trivial,h⟩
 | cons l r=>obtain ⟨t,p,g⟩:=l;simpa [wo,n_,ig] using h
theorem zf {tmps:Array Value} {t:Nat} {b:Bool} (h:tmps.getD t undef=.bool b):yieldT tmps t=some b:=by
 unfold yieldT;by_cases hlt:t<tmps.size
 ·simp [Array.getD,hlt] at h ⊢;simp [h]
 ·simp [Array.getD,hlt,undef] at h
theorem Gq {tmps:Array Value} {t:Nat} (h:tmps.getD t undef=undef):yieldT tmps t=none:=by
 unfold yieldT;by_cases hlt:t<tmps.size
 ·simp [Array.getD,hlt] at h ⊢;simp [h,undef]
 ·simp [hlt]
theorem adD {p:Prop}(h:p:=by
 generalize tmps.getD t undef=v at this;cases this with
 | t _ _ h=>cases h;rfl):p:=h
theorem Du {all:List Oper} {o:Oper} {loc:Loc} {env:Env} {stk:List Lay} {k:List Lay→Loc→Prop} (h:enter all o.guard loc env stk k) {m:Ids} {S:Blocks} {w:World} {N:Nat} {tmps:Array Value} (hr:RunI m S w N tmps loc env stk) :
  ∃ stk' loc',k stk' loc'∧RunI m S w N tmps loc' env stk'∧(Region.wanted o (yielded all.toArray tmps)=true↔ig (n_ stk')) ∧
   (∀ s d v,look loc' env s=(d,v)→d≤stk'.length)∧(∃ p,stk=p++stk'∨∃ l r,stk'=l::r∧stk=p++r):=by
 have hd:∀ {loc:Loc} {stk:List Lay},RunI m S w N tmps loc env stk→∀ s d v,look loc env s=(d,v)→d≤stk.length:=by
  intro loc stk hr s d v hl;have:=hr.rel s;rw [hl] at this;cases d with
  | zero=>omega
  | succ d=>obtain ⟨l,hl,_⟩:=this;exact (GL hl).2
 unfold enter at h;split at h
 ·rename_i hg;have hw:Region.wanted o (yielded all.toArray tmps)=true:=by simp [Region.wanted,hg]
  split at h
  ·exact ⟨[],loc,h,hr,⟨fun _=>trivial,fun _=>hw⟩,hd hr,[],.inl rfl⟩
  ·rename_i l r;have hp:RunI m S w N tmps (kill 0 loc) env []:=by
    have:RunI m S w N tmps loc env ((l::r)++[]):=by simpa using hr
    exact this.pop
   exact ⟨[],_,xu.1 h,hp,⟨fun _=>trivial,fun _=>hw⟩,hd hp,l::r,.inl (by simp)⟩
 ·rename_i j pol hg;split at h
  ·exact h.elim
  ·rename_i oj hj;split at h
   ·exact h.elim
   ·rename_i t ht;have hy:yielded all.toArray tmps j=yieldT tmps t:=by
     unfold yielded yieldT;simp [hj,ht];rfl
    have hwant:∀ {l:Lay} {r:List Lay},l.tmp=t→l.pol=pol→uz tmps (l::r)→(Region.wanted o (yielded all.toArray tmps)=true↔ig (n_ (l::r))):=by
     intro l r e1 e2 hs;have:=hs.2.1;rw [e1,e2] at this;simp only [Region.wanted,hg,hy,n_,ig];rw [this]
    split at h
    ·rename_i s hf;obtain ⟨⟨p,hp⟩,l,r,rfl,e1,e2⟩:=DX hf;have hr':RunI m S w N tmps loc env (p++(l::r)):=by rw [← hp];exact hr
     split at h
     ·rename_i hb;have hlen:=Nat.eq_of_beq_eq_true hb;have hp0:p=[]:=by
       have:=congrArg List.length hp;simp at this hlen;apply List.eq_nil_of_length_eq_zero;omega
      subst hp0;exact ⟨_,_,h,hr',hwant e1 e2 hr'.stk,hd hr',[],.inl hp⟩
     ·exact ⟨_,_,xu.1 h,hr'.pop,hwant e1 e2 hr'.pop.stk,hd hr'.pop,p,.inl hp⟩
    ·split at h
     ·rename_i d b hl;rw [Gy] at h;obtain ⟨p,hp⟩:=G7 d stk;have hr':RunI m S w N tmps loc env (p++oI d stk):=by rw [← hp];exact hr
      have hdl:=hd hr t d _ hl;have hpl:=O5 stk hdl
      -- the guard's own bool
      have hgd:(yieldT tmps t == some pol)=wo (oI d stk) (yc pol b)∧(wo (oI d stk) (yc pol b)=true→NM (oI d stk)):=by
       have hent:=hr.rel t;rw [hl] at hent;have hst:uz tmps (oI d stk):=hr'.stk.suffix;have hpolb:∀ (b:Bool),((some b:Option Bool) == some pol)=yc pol b:=by intro b;cases b<;>cases pol<;>rfl
       refine ⟨?_,fun ha=>Tj hst (YU ha).1⟩;cases d with
       | zero =>
        have h0:oI 0 stk=[]:=List.eq_nil_of_length_eq_zero hpl;rw [h0];have:RelV m S w (tmps.getD t undef) (.bool b):=hent;have hv:tmps.getD t undef=.bool b:=by
         exact adD
        rw [zf hv];exact hpolb b
       | succ d =>
        obtain ⟨l,hgl,h1,h2⟩:=hent;have hgl2:oD (d+1) (oI (d+1) stk)=some l:=by
         rw [← zS (p:=p) (by rw [hpl];exact Nat.le_refl _),← hp];exact hgl
        cases hpop:oI (d+1) stk with
        | nil=>rw [hpop] at hpl;simp at hpl
        | cons l' r =>
         rw [hpop] at hgl2 hpl;have:l'=l:=by
          rw [oD,if_pos (by simpa using hpl)] at hgl2;cases hgl2;rfl
         subst this;simp only [wo];cases hlg:l'.g with
         | true =>
          have:=h1 hlg;have hv:tmps.getD t undef=.bool b:=by
           exact adD
          rw [zf hv];simpa using hpolb b
         | false =>
          rw [Gq (h2 hlg)];simp
      have fin:∀ {loc':Loc},RunI m S w N tmps loc' env (oI d stk)→k (⟨t,pol,wo (oI d stk) (yc pol b)⟩::oI d stk) loc' →
        ∃ stk' loc',k stk' loc'∧RunI m S w N tmps loc' env stk'∧(Region.wanted o (yielded all.toArray tmps)=true↔ig (n_ stk')) ∧
         (∀ s d v,look loc' env s=(d,v)→d≤stk'.length)∧(∃ p,stk=p++stk'∨∃ l r,stk'=l::r∧stk=p++r):=by
       intro loc' hr2 hk;have hpush:=hr2.push (l:=⟨t,pol,wo (oI d stk) (yc pol b)⟩) hgd.1 hgd.2;exact ⟨_,_,hk,hpush,hwant rfl rfl hpush.stk,hd hpush,p,.inr ⟨_,_,rfl,hp⟩⟩
      split at h
      ·rename_i hb;have hlen:=Nat.eq_of_beq_eq_true hb;have hp0:p=[]:=by
        have:=congrArg List.length hp;simp at this;apply List.eq_nil_of_length_eq_zero;omega
       subst hp0;exact fin hr' h
      ·exact fin hr'.pop (xu.1 h)
     ·exact h.elim
def G_ (dst:Option Nat) (d:Nat) (v:AV) (loc:Loc):Loc :=
 match dst with
 | none=>loc
 | some t=>(t,d,v)::loc
def Cc (d:Nat):List Lay→Bool
 | []=>true
 | l::r=>match Nat.beq l.tmp d with
  | true=>false
  | false=>Cc d r
def Aq (N:Nat) (dst:Option Nat) (stk:List Lay):Bool :=
 match dst with
 | none=>true
 | some d=>Nat.blt d N&&Cc d stk
theorem I_ {d:Nat}:∀ {stk:List Lay},Cc d stk=true→∀ l∈stk,l.tmp≠d
 | [],_,l,h=>by simp at h
 | l'::r,h,l,hl=>by
  unfold Cc at h;split at h
  ·cases h
  ·rename_i hb;rcases List.mem_cons.1 hl with rfl | hl
   ·intro e;rw [e] at hb;simp at hb
   ·exact I_ h l hl
def Iy (loc loc':Loc) (env:Env) (stk stk':List Lay) (tc:Nat) (side:Bool):Operand→AV
 | .const v=>JV v
 | .tmp s=>match look loc env s with
  | (d,v)=>match Nat.ble d stk'.length with
   | true=>(look loc' env s).2
   | false=>match oD d stk with
    | some l=>match Nat.beq l.tmp tc&&LQ l.pol side with
     | true=>v
     | false=>.undef
    | none=>.undef
 | _=>.undef
def LP (loc loc':Loc) (env:Env) (stk stk':List Lay) (c a b:Operand) (k:AV→Prop):Prop :=
 match c with
 | .tmp tc=>match look loc' env tc with
  | (_,.bool cb)=>match a with
   | .const (.bool true)=>match Iy loc loc' env stk stk' tc false b with
    | .bool y=>k (.bool (cb||y))
    | .undef=>match cb with
     | true=>k (.bool true)
     | false=>False
    | _=>False
   | _=>match b with
    | .const (.bool false)=>match Iy loc loc' env stk stk' tc true a with
     | .bool x=>k (.bool (cb&&x))
     | .undef=>match cb with
      | false=>k (.bool false)
      | true=>False
     | _=>False
    | _=>False
  | _=>False
 | _=>False
def Rh (dst:Option Nat) (stk:List Lay) (v:AV) (loc:Loc) (k:Loc→Prop):Prop :=
 match dst with
 | none=>k loc
 | some t=>uJ v fun v=>Xk stk 0 fun d=>k ((t,d,v)::loc)
theorem kN {dst:Option Nat} {stk:List Lay} {v:AV} {loc:Loc} {k:Loc→Prop}:Rh dst stk v loc k↔k (G_ dst stk.length v loc):=by
 cases dst<;>simp [Rh,G_,pz,TT]
def ajm (T:Tab) (o:Oper):Bool :=
 match o.op with
 | .alloc _=>true
 | .box _ _=>true
 | .buildSlice _ _ _=>true
 | .store _ _ _=>true
 | .mapUpdate _ _ _ _=>true
 | .makeMap _ _=>true
 | .makeSlice _ _ _=>true
 | .call c=>match c.callee with
  | .builtin .append=>true
  | .value _=>match h_ T o.type with
   | some ⟨.int _,_,_,_⟩=>false
   | some ⟨.bool,_,_,_⟩=>false
   | some ⟨.string,_,_,_⟩=>false
   | _=>true
  | _=>false
 | _=>false
def gated (T:Tab) (g:Option Bool) (o:Oper):Option Bool :=
 match g with
 | none=>none
 | some b=>match ajm T o with
  | true=>some b
  | false=>none
theorem Ac {T:Tab} {g:Option Bool} {o:Oper} {b:Bool} (h:gated T g o=some b):g=some b:=by
 unfold gated at h;split at h
 ·cases h
 ·split at h
  ·exact h
  ·cases h
def V5 [Tabs] (C:Cx) (det:Bool) (o:Oper) (loc loc':Loc) (env:Env) (stk stk':List Lay) (H:Heap) (nx:Nat) (next:AV→List (Nat×AB)→Nat→Prop):Prop :=
 match o.op with
 | .pick c a b=>LP loc loc' env stk stk' c a b fun v=>next v [] nx
 | _=>match gated C.T (n_ stk') o with
  | some b=>(b=true→Rj C det none (yA loc' env) H nx o fun r=>match r with
    | ⟨v,_,wr,nx'⟩=>next v wr nx')∧(b=false→next .undef [] nx)
  | none=>Rj C det (n_ stk') (yA loc' env) H nx o fun r=>match r with
   | ⟨v,_,wr,nx'⟩=>next v wr nx'
def Lu [Tabs] (C:Cx) (det:Bool) (all:List Oper):List Oper→Loc→List Lay→Env→Heap→Nat→(Loc→Heap→Nat→Prop)→Prop
 | [],loc,_,_,H,nx,k=>k loc H nx
 | o::rest,loc,stk,env,H,nx,k=>enter all o.guard loc env stk fun stk' loc' =>
  match Aq C.N o.dst stk' with
  | false=>False
  | true=>V5 C det o loc loc' env stk stk' H nx fun v wr nx'=>Rh o.dst stk' v loc' fun loc2=>LH wr H fun H'=>Lu C det all rest loc2 stk' env H' nx' k
structure Fr where
 w0:World
 F0:Blocks
 S0:Blocks
 pin:Ids
 ds:List Deferred
structure Core [Tabs] (F:Fr) (m:Ids) (S:Blocks) (w:World) (H:Heap) (nx:Nat):Prop where
 good:Good m S w H
 free:∀ i,nx≤i→m i=none
 far:Far F.F0 F.w0 w
 owns:∀ k,own m H k→F.F0 k∨F.w0.heap.size≤k
 ro:∀ g,S g→F.S0 g∨F.F0 g∨F.w0.heap.size≤g
 ro0:∀ g,F.S0 g→S g
 pins:∀ i v,F.pin i=some v→m i=some v
theorem Core.step [Tabs] {F:Fr} {m m':Ids} {S S':Blocks} {w w':World} {H H':Heap} {nx nx':Nat} (h:Core F m S w H nx) (e:Ext m S w H nx nx' m' S' w' H') (hn:nx≤nx'):Core F m' S' w' H' nx':=by
 refine ⟨e.good,fun i hi=>by rw [e.same i (by omega)];exact h.free i (by omega),?_,fun k hk=>?_,fun g hg=>?_,fun g hg=>e.ros g (h.ro0 g hg),fun i v hi=>e.ids i v (h.pins i v hi)⟩
 ·refine h.far.trans e.far fun i hi ho=>?_
  rcases h.owns i ho with h | h
  ·exact h
  ·omega
 ·rcases e.owns k hk with h1 | h1
  ·exact h.owns k h1
  ·exact .inr (Nat.le_trans h.far.size h1)
 ·rcases e.fresh g hg with h1 | h1 | h1
  ·exact h.ro g h1
  ·exact .inr (h.owns g h1)
  ·exact .inr (.inr (Nat.le_trans h.far.size h1))
theorem RunI.ext [Tabs] {F:Fr} {m m':Ids} {S S':Blocks} {w w':World} {H H':Heap} {nx nx' N:Nat} {tmps:Array Value} {loc:Loc} {env:Env} {stk:List Lay} (h:RunI m S w N tmps loc env stk) (hc:Core F m S w H nx) (e:Ext m S w H nx nx' m' S' w' H') :
  RunI m' S' w' N tmps loc env stk:=by
 refine ⟨h.size,fun s=>?_,h.stk⟩;have hr:=h.rel s;revert hr;generalize look loc env s=q;obtain ⟨d,a⟩:=q;intro hr;cases d with
 | zero=>exact e.relV hc.good hr
 | succ d =>
  obtain ⟨l,h1,h2,h3⟩:=hr;exact ⟨l,h1,fun hg=>e.relV hc.good (h2 hg),h3⟩
theorem uz.set {tmps:Array Value} {d:Nat} {v:Value}:∀ {stk:List Lay},uz tmps stk→Cc d stk=true→uz (tmps.setIfInBounds d v) stk
 | [],_,_=>trivial
 | l::r,h,hn=>by
  have hne:=I_ hn;refine ⟨uz.set h.1 ?_,?_,h.2.2⟩
  ·unfold Cc at hn;split at hn
   ·cases hn
   ·exact hn
  ·rw [← h.2.1];unfold yieldT;rw [Array.getElem?_setIfInBounds_ne (fun e=>hne l (by simp) e.symm)]
theorem pV {tmps:Array Value} {d s:Nat} {v:Value} (h:d<tmps.size):(tmps.setIfInBounds d v).getD s undef=if d=s then v else tmps.getD s undef:=by
 by_cases e:d=s
 ·subst e;simp [Array.getD,h]
 ·rw [if_neg e];by_cases hs:s<tmps.size
  ·simp [Array.getD,hs,Array.getElem_setIfInBounds_ne hs (fun h=>e h)]
  ·simp [Array.getD,hs]
theorem ab1 {t d:Nat} {v:AV} {loc:Loc} {env:Env} {s:Nat}:look ((t,d,v)::loc) env s=if t=s then (d,v) else look loc env s:=by
 show (match Nat.beq t s with | true=>(d,v) | false=>look loc env s)=_;by_cases e:t=s
 ·subst e;simp
 ·have hb:Nat.beq t s=false:=by
   cases h:Nat.beq t s with
   | false=>rfl
   | true=>exact (e (Nat.eq_of_beq_eq_true h)).elim
  rw [if_neg e,hb]
theorem RunI.put {m:Ids} {S:Blocks} {w:World} {N:Nat} {a:Act} {loc:Loc} {env:Env} {stk:List Lay} (h:RunI m S w N a.tmps loc env stk) {dst:Option Nat} {v:Value} {av:AV} (hd:Aq N dst stk=true)
  (hv:(ig (n_ stk)∧RelV m S w v av)∨(¬ ig (n_ stk)∧v=undef)):RunI m S w N (a.put dst v).tmps (G_ dst stk.length av loc) env stk:=by
 cases dst with
 | none=>exact h
 | some d =>
  simp only [Aq,Bool.and_eq_true] at hd;obtain ⟨h1,h2⟩:=hd;have hlt:d<a.tmps.size:=by rw [h.size];simpa [Nat.blt_eq] using h1
  refine ⟨by simp [Act.put,h.size],fun s=>?_,h.stk.set h2⟩;show ZM m S w stk ((a.tmps.setIfInBounds d v).getD s undef) (look ((d,stk.length,av)::loc) env s);rw [pV hlt,ab1];by_cases e:d=s
  ·rw [if_pos e,if_pos e];cases stk with
   | nil =>
    rcases hv with ⟨_,hv⟩ | ⟨hn,_⟩
    ·exact hv
    ·exact (hn trivial).elim
   | cons l r =>
    refine ⟨l,by simp [oD],fun hg=>?_,fun hg=>?_⟩
    ·rcases hv with ⟨_,hv⟩ | ⟨hn,_⟩
     ·exact hv
     ·exact (hn hg).elim
    ·rcases hv with ⟨hn,_⟩ | ⟨_,hv⟩
     ·simp only [n_,ig] at hn;rw [hg] at hn;cases hn
     ·exact hv
  ·rw [if_neg e,if_neg e];exact h.rel s
theorem RunI.read {m:Ids} {S:Blocks} {w:World} {N:Nat} {a:Act} {loc:Loc} {env:Env} {stk:List Lay} (h:RunI m S w N a.tmps loc env stk) (hg:ig (n_ stk)) (x:Operand):RelV m S w (a.eval x) (yA loc env x):=by
 cases x with
 | tmp s =>
  have hr:=h.rel s;show RelV m S w (a.tmps.getD s undef) (look loc env s).2;revert hr;generalize look loc env s=q;obtain ⟨d,av⟩:=q;intro hr;cases d with
  | zero=>exact hr
  | succ d =>
   obtain ⟨l,h1,h2,_⟩:=hr;exact h2 (Rf (Tj h.stk hg) l (Fz h1))
 | const v=>exact .t _ _ (uo S w v)
 | global g=>exact .t _ _ (.undef _)
 | func f=>exact .t _ _ (.fn _ _ _ _ _ rfl rfl (fun j c x hj=>by simp at hj) (fun j c x hj=>by simp at hj))
theorem wU {m:Ids} {S:Blocks} {w:World} {v:Value} {b:Bool} (h:RelV m S w v (.bool b)):v=.bool b:=by
 cases h with
 | t _ _ h=>cases h;rfl
theorem FV {m:Ids} {S:Blocks} {w:World} {N:Nat} {a:Act} {loc loc':Loc} {env:Env} {stk stk':List Lay} (h:RunI m S w N a.tmps loc env stk) (h':RunI m S w N a.tmps loc' env stk') (hg:ig (n_ stk'))
  {tc:Nat} {side:Bool} (hc:a.tmps.getD tc undef=.bool side) (x:Operand):RelV m S w (a.eval x) (Iy loc loc' env stk stk' tc side x):=by
 cases x with
 | const v=>exact .t _ _ (uo S w v)
 | global g=>exact .t _ _ (.undef _)
 | func f=>exact .t _ _ (.undef _)
 | tmp s =>
  obtain ⟨d,av,hq⟩:∃ d av,look loc env s=(d,av):=⟨_,_,rfl⟩;have hr:=h.rel s;rw [hq] at hr;unfold Iy;simp only [hq];split
  ·exact h'.read hg (.tmp s)
  ·split
   ·rename_i l hl;split
    ·rename_i hb;simp only [Bool.and_eq_true] at hb;have e1:=Nat.eq_of_beq_eq_true hb.1;have e2:l.pol=side:=by
      have:=hb.2;cases hlp:l.pol<;>cases side<;>simp [hlp,LQ] at this ⊢
     cases d with
     | zero=>exact hr
     | succ d =>
      obtain ⟨l',h1,h2,_⟩:=hr;rw [hl] at h1;cases h1;refine h2 ?_;have hmem:=Fz hl;have hstk:∀ {stk:List Lay},uz a.tmps stk→∀ l∈stk,(yieldT a.tmps l.tmp == some l.pol)=l.g:=by
       intro stk;induction stk with
       | nil=>intro _ l h;simp at h
       | cons l r ih =>
        intro hs l' hl';rcases List.mem_cons.1 hl' with rfl | hl'
        ·exact hs.2.1
        ·exact ih hs.1 l' hl'
      rw [← hstk h.stk l hmem,e1,e2,zf hc];simp
    ·exact .t _ _ (.undef _)
   ·exact .t _ _ (.undef _)
theorem qx {m:Ids} {S:Blocks} {w:World} {N:Nat} {loc loc':Loc} {env:Env} {stk stk':List Lay} {P:Program} {o:Oper} {c x y:Operand} (ho:o.op=.pick c x y) {k:AV→Prop} (hk:LP loc loc' env stk stk' c x y k) :
  ∃ av,k av∧∀ (a:Act),RunI m S w N a.tmps loc env stk→RunI m S w N a.tmps loc' env stk'→ig (n_ stk')→∃ v,(execOp a.eval o).run P w=.ok (.value v) w∧RelV m S w v av:=by
 unfold LP at hk;split at hk
 ·rename_i tc;split at hk
  ·rename_i d cb hl;have hcv:∀ (a:Act),RunI m S w N a.tmps loc' env stk'→ig (n_ stk')→a.tmps.getD tc undef=.bool cb:=by
    intro a h' hg;have:=h'.read (a:=a) hg (.tmp tc);simp only [yA,hl] at this;exact wU this
   have hrun:∀ (a:Act),RunI m S w N a.tmps loc' env stk'→ig (n_ stk')→(execOp a.eval o).run P w=.ok (.value (if cb then a.eval x else a.eval y)) w:=by
    intro a h' hg;have:=hcv a h' hg;unfold execOp;have hev:a.eval (.tmp tc)=.bool cb:=this;simp [ho,hev,asBool]
   split at hk
   ·split at hk
    ·rename_i yb hs;refine ⟨_,hk,fun a h h' hg=>⟨_,hrun a h' hg,?_⟩⟩;cases cb with
     | true=>simp;exact .t _ _ (.bool true)
     | false =>
      have:=FV h h' hg (hcv a h' hg) y;rw [hs] at this;simpa using this
    ·split at hk
     ·exact ⟨_,hk,fun a h h' hg=>⟨_,hrun a h' hg,.t _ _ (.bool true)⟩⟩
     ·exact hk.elim
    ·exact hk.elim
   ·split at hk
    ·split at hk
     ·rename_i xb hs;refine ⟨_,hk,fun a h h' hg=>⟨_,hrun a h' hg,?_⟩⟩;cases cb with
      | false=>simp;exact .t _ _ (.bool false)
      | true =>
       have:=FV h h' hg (hcv a h' hg) x;rw [hs] at this;simpa using this
     ·split at hk
      ·exact ⟨_,hk,fun a h h' hg=>⟨_,hrun a h' hg,.t _ _ (.bool false)⟩⟩
      ·exact hk.elim
     ·exact hk.elim
    ·exact hk.elim
  ·exact hk.elim
 ·exact hk.elim
theorem ah6 {p:Prop}(h:p:=by
 obtain ⟨hn,hk⟩:=h4 r hR;obtain ⟨rv,rt,rw,rn⟩:=r;exact tH hT rest (i+1) _ stk' env _ _ k hall' (jq.1 (kN.1 hk)) hQ hP m' S' w' _ (hc.step hE hn) ((hr'.ext hc hE).put hdst (.inl ⟨hg,hV⟩)) (hdp v)):p:=h
theorem Qy {p:Prop}(h:p:=by
 obtain ⟨x,hx,rfl⟩:=List.mem_map.1 hu;exact hr'.read hg x):p:=h
theorem aeH {p:Prop}(h:p:=by
 rw [hg'] at hg;cases b with
 | true=>exact (hg rfl).elim
 | false=>rfl):p:=h
theorem aeu {p:Prop}(h:p:=by
 intro v hg hnext;rw [if_neg (fun hw=>hg (hwant.1 hw))];exact hnext (hr'.put hdst (.inr ⟨hg,rfl⟩))):p:=h
theorem aef {p:Prop}(h:p:=by
 have:=hall (j+1);rw [List.getElem?_cons_succ] at this;rw [this];congr 1
 omega):p:=h
theorem tH [Tabs] {C:Cx} (hT:dh C.P C.T) {det:Bool} {F:Fr} {all:List Oper} {Q:Exit→Act→World→Prop}:∀ (rest:List Oper) (i:Nat) (loc:Loc) (stk:List Lay) (env:Env) (H:Heap) (nx:Nat) (k:Loc→Heap→Nat→Prop),(∀ j,rest[j]?=all[i+j]?)→Lu C det all rest loc stk env H nx k →
  (∀ (m:Ids) (S:Blocks) (w:World) (a:Act) (loc:Loc) (stk:List Lay) (H:Heap) (nx:Nat),k loc H nx→Core F m S w H nx→RunI m S w C.N a.tmps loc env stk→a.defers=F.ds→Q .normal a w) →
  (∀ (m:Ids) (S:Blocks) (w:World) (a:Act) (H:Heap) (nx:Nat) (ch:List PanicEntry),C.px ch→Core F m S w H nx→a.tmps.size=C.N→a.defers=F.ds→Q (.panic ch) a w) →
  ∀ (m:Ids) (S:Blocks) (w:World) (a:Act),Core F m S w H nx→RunI m S w C.N a.tmps loc env stk→a.defers=F.ds→wpOps C.P all.toArray Q (List.range' i rest.length) a w
 | [],i,loc,stk,env,H,nx,k,_,h,hQ,_,m,S,w,a,hc,hr,hd=>hQ m S w a loc stk H nx h hc hr hd
 | o::rest,i,loc,stk,env,H,nx,k,hall,h,hQ,hP,m,S,w,a,hc,hr,hd=>by
  have hi:all.toArray[i]?=some o:=by
   have:=hall 0;simpa using this.symm
  have hall':∀ j,rest[j]?=all[i+1+j]?:=fun j=>by
   exact aef
  obtain ⟨stk',loc',h,hr',hwant,hdep,_⟩:=Du h hr;rw [List.length_cons,List.range'_succ];simp only [wpOps,hi];split at h
  ·exact h.elim
  ·rename_i hdst
   have skip:∀ (v:AV),¬ ig (n_ stk')→(∀ (hr2:RunI m S w C.N (a.put o.dst undef).tmps (G_ o.dst stk'.length v loc') env stk'),wpOps C.P all.toArray Q (List.range' (i+1) rest.length) (a.put o.dst undef) w) →
     (if Region.wanted o (yielded all.toArray a.tmps)=true then o.wp C.P a w (wpOps C.P all.toArray Q (List.range' (i+1) rest.length)) Q∨(o.asks C.P a w∧LetsOut Q) else wpOps C.P all.toArray Q (List.range' (i+1) rest.length) (a.put o.dst undef) w):=by
    exact aeu
   have hdp:∀ (v:Value),(a.put o.dst v).defers=F.ds:=by
    intro v;cases hdo:o.dst<;>simp [Act.put,hd]
   unfold V5 at h;by_cases hg:ig (n_ stk')
   ·rw [if_pos (hwant.2 hg)];left;split at h
    ·rename_i c x y ho;obtain ⟨av,hk,hrun⟩:=qx (m:=m) (S:=S) (w:=w) (N:=C.N) (P:=C.P) ho h;obtain ⟨v,he,hv⟩:=hrun a hr hr' hg;unfold Oper.wp;rw [he,Oper.upon_value];exact tH hT rest (i+1) _ stk' env H nx k hall' (jq.1 (kN.1 hk)) hQ hP m S w _ hc (hr'.put hdst (.inl ⟨hg,hv⟩)) (hdp v)
    ·split at h
     ·rename_i b hb;have hg':=Ac hb;have hbt:b=true:=by rw [hg'] at hg;exact hg
      obtain ⟨touch,Rr,h1,h2,h3,h4⟩:=qV hT (h.1 hbt);refine h1 trivial m S w a H _ Q hc.good (fun _ _=>rfl) (fun i hi _=>hc.free i hi) (fun u hu _=>?_) (fun r hR v m' S' w' hE hV=>?_) (fun ch hx m' S' w' wr hE=>hP m' S' w' a (wr++H) nx ch hx (hc.step hE (Nat.le_refl _)) hr'.size hd)
      ·exact Qy
      ·exact ah6
     obtain ⟨touch,Rr,h1,h2,h3,h4⟩:=qV hT h;refine h1 hg m S w a H _ Q hc.good (fun _ _=>rfl) (fun i hi _=>hc.free i hi) (fun u hu _=>?_) (fun r hR v m' S' w' hE hV=>?_) (fun ch hx m' S' w' wr hE=>hP m' S' w' a (wr++H) nx ch hx (hc.step hE (Nat.le_refl _)) hr'.size hd)
     ·exact Qy
     ·exact ah6
   ·split at h
    ·rename_i c x y ho;obtain ⟨av,hk,_⟩:=qx (m:=m) (S:=S) (w:=w) (N:=C.N) (P:=C.P) ho h;exact skip av hg fun hr2=>tH hT rest (i+1) _ stk' env H nx k hall' (jq.1 (kN.1 hk)) hQ hP m S w _ hc hr2 (hdp undef)
    ·split at h
     ·rename_i b hb;have hg':=Ac hb;have hbf:b=false:=by
       exact aeH
      exact skip .undef hg fun hr2=>tH hT rest (i+1) _ stk' env H nx k hall' (jq.1 (kN.1 (h.2 hbf))) hQ hP m S w _ hc hr2 (hdp undef)
     obtain ⟨touch,Rr,h1,h2,h3,h4⟩:=qV hT h;obtain ⟨r,hR,hwr,hnx⟩:=h2 hg;obtain ⟨_,hk⟩:=h4 r ((hR r).2 rfl);obtain ⟨rv,rt,rw,rn⟩:=r;simp only at hwr hnx;subst hwr;subst hnx;refine skip rv hg fun hr2=>?_
     exact tH hT rest (i+1) _ stk' env _ _ k hall' (jq.1 (kN.1 hk)) hQ hP m S w _ hc hr2 (hdp undef)
def Og:AV→Option Value
 | .bool b=>some (.bool b)
 | .int k n=>some (.int k n)
 | .str l=>some (.string ⟨l.toArray⟩)
 | _=>none
theorem afs {m:Ids} {S:Blocks} {w:World} {v u:Value} {a:AV} (h:RelV m S w v a) (hd:Og a=some u):v=u:=by
 cases a<;>simp [Og] at hd;all_goals subst hd
 ·exact wU h
 ·exact iF h
 ·cases h with
  | t _ _ h=>cases h with
   | str s l hs=>rw [← hs]
theorem abt {m:Ids} {S:Blocks} {w:World} {u:Value} {a:AV} (hd:Og a=some u):RelV m S w u a:=by
 cases a<;>simp [Og] at hd;all_goals subst hd
 ·exact .t _ _ (.bool _)
 ·exact .t _ _ (.int _ _)
 ·exact .t _ _ (.str _ _ (by simp))
inductive CallQ [Tabs] (P:Program) (f:FuncId) (avs:List AV) (H:Heap) (nx:Nat) (g:Option Bool) (k:Res→Prop):Prop
 | mk (args':List AV) (touch:List Nat) (a:AV) (v:Value) (hc:ig g→ak P f args' a) (hb:BorL (oN H) avs args' touch) (ha:Og a=some v) (hk:k ⟨a,touch,[],nx⟩)
def X0 [Tabs] (C:Cx) (g:Option Bool) (rd:Operand→AV) (H:Heap) (nx:Nat) (o:Oper) (k:Res→Prop):Prop :=
 match o.op with
 | .move x=>k ⟨rd x,[],[],nx⟩
 | .assign x=>k ⟨rd x,[],[],nx⟩
 | .build t parts=>Ij C.T nx t (parts.toList.map fun p=>(p.1,rd p.2)) k
 | .load t x=>Ej C.T g H nx t (rd x) k
 | .nilCheck x=>Ai (rd x) fun v=>k ⟨v,[],[],nx⟩
 | .binOp op t x y _=>match YF y with
  | true=>KZ C.T op t y (rd x) fun v=>k ⟨v,[],[],nx⟩
  | false=>y9 C.P C.T g op t (rd x) (rd y) fun v=>k ⟨v,[],[],nx⟩
 | .lookup t x y ok=>JL C.P C.T H nx t (rd x) (rd y) ok k
 | .unOp op _ x=>Ur g op (rd x) fun v=>k ⟨v,[],[],nx⟩
 | .convert s d x=>Il C.T g H nx s d (rd x) k
 | .makeFunc fn first cap=>k ⟨.fn fn (first.toList.map rd) (cap.toList.map rd),[],[],nx⟩
 | .slice t x lo hi none=>IU C.T g H nx t (rd x) (lo.map rd) (hi.map rd) k
 | .fieldAddr t x f=>yV C.T nx t (rd x) f k
 | .field t x f=>Ip C.T nx t (rd x) f k
 | .indexAddr t x i=>match EF H (rd x) with
  | some id=>CB C.T g H nx t id (rd i) k
  | none=>yT C.T g H nx t (rd x) (rd i) k
 | .index t x i=>IC C.T g t (rd x) (rd i) fun v=>k ⟨v,[],[],nx⟩
 | .extract x n=>Di nx (rd x) n k
 | .call c=>match c.callee with
  | .builtin .len=>match c.args.toList,c.argTypes.toList with
   | [x],[t]=>match EF H (rd x) with
    | some id=>Q9 C.T H nx t id k
    | none=>Qr C.T H nx t (rd x) k
   | _,_=>False
  | .builtin .min=>match c.args.toList with
   | [x,y]=>IW false (rd x) (rd y) fun v=>k ⟨v,[],[],nx⟩
   | _=>False
  | .builtin .max=>match c.args.toList with
   | [x,y]=>IW true (rd x) (rd y) fun v=>k ⟨v,[],[],nx⟩
   | _=>False
  | .value fop=>match rd fop with
   | .fn (.func f) first cap=>B_ (first++c.args.toList.map rd++cap) fun avs=>CallQ C.P f avs H nx g k
   | _=>False
  | _=>False
 | _=>False
def TY [Tabs] (P:Program) (o:Oper) (us:Uses) (H:Heap) (v:AV) (touch:List Nat):Prop :=
 ∀ (m:Ids) (S:Blocks) (w:World) (a:Act) (H₂:Heap),Good m S w H₂→(∀ id∈touch,aA H₂ id=aA H id)→(∀ u∈us,u.2.1=true→RelV m S w (a.eval u.1) u.2.2) →
  ∃ u,RelV m S w u v∧∀ w',RowKit.Below w.heap.size w w'→o.quietAt P a (RowKit.Below w.heap.size w) w' u
theorem cZ.quiet [Tabs] {P:Program} {o:Oper} {us us':Uses} {H:Heap} {nx:Nat} {r:Res} (h:cZ P o us H nx r) (hu:∀ u∈us,u∈us'):TY P o us' H r.v r.touch:=by
 intro m S w a H₂ hG ht hus;obtain ⟨u,hr,hv⟩:=h.2 m S w a H₂ hG ht (fun u hm=>hus u (hu u hm));refine ⟨u,hv,fun w' hw'=>?_⟩;unfold Oper.quietAt;rw [hr w' ⟨hw'.size,hw'.block⟩];exact ⟨rfl,rfl⟩
theorem Zv [Tabs] {P:Program} {o:Oper} {fop:Operand} {as:Array Operand} {ts:Array TypeId} (ho:o.op=.call { callee:=.value fop,args:=as,argTypes:=ts })
  {rd:Operand→AV} {H:Heap} {f:FuncId} {first cap:List AV} (hf:rd fop=.fn (.func f) first cap) {args':List AV} {touch:List Nat}
  (hb:BorL (oN H) (first++as.toList.map rd++cap) args' touch) {av:AV} {v:Value} (hc:ak P f args' av) (hv:Og av=some v) :
  TY P o ((fop::as.toList).map fun y=>(y,true,rd y)) H av touch:=by
 intro m S w a H₂ hG ht hus;have hfn:RelV m S w (a.eval fop) (rd fop):=hus (fop,true,rd fop) (by simp) rfl;rw [hf] at hfn;obtain ⟨fs,cs,hfv,hfl,hcl,r1,r3⟩:=wO hfn;obtain ⟨⟨fn,hfun,hbody,hname⟩,hcall⟩:=hc;have hvs:(fs++as.map a.eval++cs)=(fs.toList++as.toList.map a.eval++cs.toList).toArray:=by
  apply Array.ext';simp
 have hexec:∀ w',(execOp a.eval o).run P w'=.ok (.enter f (fs.toList++as.toList.map a.eval++cs.toList).toArray) w':=by
  intro w';rw [← hvs];unfold execOp;have hb':¬ fn.body=none:=by intro e;simp [e] at hbody
  have hn' : ¬ fn.name = "runtime.NumGoroutine" := by simpa using hname
  simp [ho,resolve,hfv,Deferred.ofValue,invoke,callFunc,hfun,hn',hb']
 have r2:∀ (j:Nat) (c:Value) (p:AV),(as.toList.map a.eval)[j]?=some c→(as.toList.map rd)[j]?=some p→RelV m S w c p:=by
  exact Wn
 obtain ⟨hlen,hbor⟩:=uH (MP H) hb;refine ⟨v,abt hv,fun w' hw'=>?_⟩;unfold Oper.quietAt;rw [hexec w'];refine ⟨rfl,?_⟩;have hlt:∀ g,(S g∨lent m H₂ touch g)→g<w.heap.size:=by
  exact WA
 refine (hcall (fun g=>S g∨lent m H₂ touch g) w' _ (fun g hg=>Nat.lt_of_lt_of_le (hlt g hg) hw'.size) (hG.tab.mono (fun _ h=>.inl h) fun g hg=>hw'.block g (hG.ro g hg).1) ⟨?_,?_⟩).mono ?_
 ·rw [hlen];simp [hfl,hcl]
 ·intro j c p hj hp;refine (hbor m S w H₂ (fun g=>S g∨lent m H₂ touch g) hG ht (fun g h=>.inl h) (fun g h=>.inr h) _ (by simp [hfl,hcl]) (CU (by simpa using hfl) (by simp) (fun j c p h=>r1 j c p oz) r2 (fun j c p h=>r3 j c p oz)) j c p hj hp).mono (fun _ h=>h) (fun g hg=>hw'.block g (hlt g hg))
 ·rintro e w'' ⟨us,rs,S'',rfl,rfl,hL⟩;refine ⟨?_,hw'.trans (hL.below.mono hw'.size)⟩;have hl:=hL.len;match us,hl with
  | [u],_ =>
   have h0:qI S'' w'' w'.heap.size u (.val av):=hL.rel 0 u _ rfl rfl;rw [afs (m:=fun _=>none) (.t _ _ h0) hv];rfl
def TA [Tabs] (P:Program) (g:Option Bool) (rd:Operand→AV) (H:Heap) (nx:Nat) (o:Oper) (k:Res→Prop):Prop :=
 ∃ v touch,(ig g→TY P o (lZ rd o) H v touch)∧k ⟨v,touch,[],nx⟩
theorem lU [Tabs] {P:Program} {g:Option Bool} {rd:Operand→AV} {H:Heap} {nx:Nat} {o:Oper} {k:Res→Prop} {us:Uses} (hu:∀ u∈us,u∈lZ rd o)
  (h:∃ r,(ig g→cZ P o us H nx r)∧(r.wr=[]∧r.nx=nx)∧k r):TA P g rd H nx o k:=by
 obtain ⟨r,h1,⟨h2,h3⟩,h4⟩:=h;refine ⟨r.v,r.touch,fun hg=>(h1 hg).quiet hu,?_⟩;obtain ⟨v,t,wr,n⟩:=r;simp only at h2 h3;subst h2;subst h3;exact h4
theorem gW [Tabs] {P:Program} {g:Option Bool} {rd:Operand→AV} {H:Heap} {nx:Nat} {o:Oper} {k:Res→Prop} {us:Uses} (hu:∀ u∈us,u∈lZ rd o)
  (h:∃ r,cZ P o us H nx r∧(r.wr=[]∧r.nx=nx)∧k r):TA P g rd H nx o k :=
 lU hu (let ⟨r,h1,h2⟩:=h;⟨r,fun _=>h1,h2⟩)
theorem Jf [Tabs] {C:Cx} (hT:dh C.P C.T) {g:Option Bool} {rd:Operand→AV} {H:Heap} {nx:Nat} {o:Oper} {k:Res→Prop} (h:X0 C g rd H nx o k):TA C.P g rd H nx o k:=by
 unfold X0 at h;split at h
 ·rename_i x ho;exact gW (bg (l:=[x]) iq) (xG (.inl ho) h)
 ·rename_i x ho;exact gW (bg (l:=[x]) iq) (xG (.inr ho) h)
 ·rename_i t parts ho;refine gW (us:=parts.toList.map fun p=>(p.2,true,rd p.2)) (fun u hu=>?_) (FX hT ho h);exact acJ
 ·rename_i t x ho;exact lU (bg (l:=[x]) iq) (xk hT ho h)
 ·rename_i x ho;exact gW (bg (l:=[x]) iq) (BQ ho h)
 ·rename_i op t x y yt ho;split at h
  ·rename_i hyn;exact gW (bg (l:=[x,y]) iq) (Hw hT ho h)
  exact lU (bg (l:=[x,y]) iq) (qp hT ho h)
 ·rename_i t x y ok ho;exact gW (bg (l:=[x,y]) iq) (Ed hT ho h)
 ·rename_i op t x ho;exact lU (bg (l:=[x]) iq) (Fg ho h)
 ·rename_i s d x ho;exact lU (bg (l:=[x]) iq) (FM hT ho h)
 ·rename_i fn first cap ho
  exact gW (bg (l:=first.toList++cap.toList) iq) (BZ ho h)
 ·rename_i t x lo hi ho;refine lU (us:=rV rd x lo hi) ?_ (FK hT ho h);exact afe
 ·rename_i t x f ho;exact gW (bg (l:=[x]) iq) (zV hT ho h)
 ·rename_i t x f ho;exact gW (bg (l:=[x]) iq) (FP hT ho h)
 ·rename_i t x i ho;split at h
  ·rename_i id hq;exact lU (bg (l:=[x,i]) iq) (zC hT ho (wJ hq) h)
  ·exact lU (bg (l:=[x,i]) iq) (zW hT ho h)
 ·rename_i t x i ho;exact lU (bg (l:=[x,i]) iq) (FQ hT ho h)
 ·rename_i x n ho;exact gW (bg (l:=[x]) iq) (CY ho h)
 ·rename_i c ho;obtain ⟨callee,args,ats⟩:=c;cases callee with
  | invoke r m=>exact h.elim
  | builtin b =>
   have hops:o.op.operands.toList=args.toList:=by rw [ho];simp [Op.operands,Call.operands]
   cases b with
   | len =>
    simp only at h;split at h
    ·rename_i x t hx ht;have ha:args=#[x]:=by apply Array.ext';simpa using hx
     have hb:ats=#[t]:=by apply Array.ext';simpa using ht
     subst ha;subst hb;split at h
     ·rename_i id hq;exact gW (bg (l:=[x]) uS) (GZ hT ho (wJ hq) h)
     ·exact gW (bg (l:=[x]) uS) (Jb hT ho h)
    ·exact h.elim
   | min =>
    simp only at h;split at h
    ·rename_i x y hx;have ha:args=#[x,y]:=by apply Array.ext';simpa using hx
     subst ha;exact gW (bg (l:=[x,y]) uS) (yM (isMax:=false) ho h)
    ·exact h.elim
   | max =>
    simp only at h;split at h
    ·rename_i x y hx;have ha:args=#[x,y]:=by apply Array.ext';simpa using hx
     subst ha;exact gW (bg (l:=[x,y]) uS) (yM (isMax:=true) ho h)
    ·exact h.elim
   | _=>exact h.elim
  | value fop =>
   have hops:o.op.operands.toList=fop::args.toList:=by rw [ho];simp [Op.operands,Call.operands]
   simp only at h;split at h
   ·rename_i f first cap hf
    rw [xg] at h;obtain ⟨args',touch,av,v,hc,hb,ha,hk⟩:=h;have hu:∀ u∈((fop::args.toList).map fun y=>(y,true,rd y):Uses),u∈lZ rd o:=bg uS;exact ⟨av,touch,fun hg m S w a H₂ hG ht hus=>Zv ho hf hb (hc hg) ha m S w a H₂ hG ht (fun u hm=>hus u (hu u hm)),hk⟩
   ·exact h.elim
 ·exact h.elim
def MN [Tabs] (C:Cx) (H:Heap) (nx:Nat) (env:Env) (all:List Oper):List Oper→Loc→List Lay→(Loc→Prop)→Prop
 | [],loc,_,k=>k loc
 | o::rest,loc,stk,k=>enter all o.guard loc env stk fun stk' loc' =>
  match Aq C.N o.dst stk' with
  | false=>False
  | true=>match o.op with
   | .pick c a b=>LP loc loc' env stk stk' c a b fun v=>Rh o.dst stk' v loc' fun loc2=>MN C H nx env all rest loc2 stk' k
   | _=>X0 C (n_ stk') (yA loc' env) H nx o fun r=>match r with
    | ⟨v,_,_,_⟩=>Rh o.dst stk' v loc' fun loc2=>MN C H nx env all rest loc2 stk' k
theorem tu [Tabs] {C:Cx} (hT:dh C.P C.T) {H:Heap} {nx:Nat} {env:Env} {all:List Oper} {m:Ids} {S:Blocks} {w:World} (hG:Good m S w H) {Q:Act→Prop} {ds:List Deferred} :
  ∀ (rest:List Oper) (loc:Loc) (stk:List Lay) (k:Loc→Prop),MN C H nx env all rest loc stk k →
  (∀ (a:Act) (loc:Loc) (stk:List Lay),k loc→RunI m S w C.N a.tmps loc env stk→a.defers=ds→Q a) →
  ∀ (a:Act),RunI m S w C.N a.tmps loc env stk→a.defers=ds→wpQuiet C.P all.toArray (RowKit.Below w.heap.size w) Q rest a
 | [],loc,stk,k,h,hQ,a,hr,hd=>hQ a loc stk h hr hd
 | o::rest,loc,stk,k,h,hQ,a,hr,hd=>by
  obtain ⟨stk',loc',h,hr',hwant,_,_⟩:=Du h hr;simp only [wpQuiet];split at h
  ·exact h.elim
  ·rename_i hdst;have hdp:∀ (v:Value),(a.put o.dst v).defers=ds:=by
    intro v;cases hdo:o.dst<;>simp [Act.put,hd]
   by_cases hg:ig (n_ stk')
   ·rw [if_pos (hwant.2 hg)];split at h
    ·rename_i c x y ho;obtain ⟨av,hk,hrun⟩:=qx (m:=m) (S:=S) (w:=w) (N:=C.N) (P:=C.P) ho h;obtain ⟨v,he,hv⟩:=hrun a hr hr' hg;refine ⟨v,fun w' hw'=>?_,tu hT hG rest _ stk' k (kN.1 hk) hQ _ (hr'.put hdst (.inl ⟨hg,hv⟩)) (hdp v)⟩;have he':(execOp a.eval o).run C.P w'=.ok (.value v) w':=by
      unfold execOp at he ⊢;simp only [ho] at he ⊢;cases hc:a.eval c<;>simp [hc,asBool] at he ⊢;exact he
     unfold Oper.quietAt;rw [he'];exact ⟨rfl,rfl⟩
    ·obtain ⟨av,touch,h1,h2⟩:=Jf hT h;obtain ⟨u,hu,hq⟩:=h1 hg m S w a H hG (fun _ _=>rfl) (fun u hu _=>by
      obtain ⟨x,hx,rfl⟩:=List.mem_map.1 hu;exact hr'.read hg x)
     exact ⟨u,fun w' hw'=>hq w' hw',tu hT hG rest _ stk' k (kN.1 h2) hQ _ (hr'.put hdst (.inl ⟨hg,hu⟩)) (hdp u)⟩
   ·rw [if_neg (fun hw=>hg (hwant.1 hw))];split at h
    ·rename_i c x y ho;obtain ⟨av,hk,_⟩:=qx (m:=m) (S:=S) (w:=w) (N:=C.N) (P:=C.P) ho h;exact tu hT hG rest _ stk' k (kN.1 hk) hQ _ (hr'.put hdst (.inr ⟨hg,rfl⟩)) (hdp undef)
    ·obtain ⟨av,touch,h1,h2⟩:=Jf hT h;exact tu hT hG rest _ stk' k (kN.1 h2) hQ _ (hr'.put hdst (.inr ⟨hg,rfl⟩)) (hdp undef)
theorem Dc [Tabs] {m:Ids} {S:Blocks} {w w':World} {H:Heap} {nx:Nat} (h:Good m S w H) (hb:RowKit.Below w.heap.size w w'):Ext m S w H nx nx m S w' H:=by
 refine ⟨fun _ _ h=>h,fun _ _=>rfl,fun _ h=>h,fun _ h=>.inl h,Far.of_below hb,fun _ h=>.inl h,fun id=>?_,h.sep,fun g hg=>⟨Nat.lt_of_lt_of_le (h.ro g hg).1 hb.size,(h.ro g hg).2⟩,h.tab.mono (fun _ h=>h) fun g hg=>hb.block g (h.ro g hg).1⟩;exact (h.rel id).mono (fun _ _ h=>h) (fun _ h=>h) (fun g hg=>hb.block g (h.ro g hg).1) (fun v k hl hv hk=>hb.block k (h.blk_lt hl hv hk))
def zB:List Nat→Loc→Env→Env→(Env→Prop)→Prop
 | [],_,_,acc,k=>k acc
 | s::r,loc,env,acc,k=>match look loc env s with
  | (0,v)=>uJ v fun v=>zB r loc env ((s,v)::acc) k
  | (_+1,_)=>zB r loc env acc k
def Rel [Tabs] (F:Fr) (N:Nat) (st:St) (a:Act) (w:World):Prop :=
 ∃ m S,Core F m S w st.heap st.nx∧a.tmps.size=N∧a.defers=F.ds∧∀ s,RelV m S w (a.tmps.getD s undef) (lk st.env s)
def ZI (px:List PanicEntry→Prop) (Q:Exit→St→Prop):Exit→St→Prop
 | .panic ch,st=>px ch∨Q (.panic ch) st
 | e,st=>Q e st
def JC (px:List PanicEntry→Prop) (Q:St→Prop):Exit→St→Prop
 | .normal,st=>Q st
 | .panic ch,_=>px ch
 | _,_=>False
inductive DrawG [Tabs] (C:Cx) (id:Nat) (ops:Array Oper) (env:Env) (H:Heap) (nx:Nat) (Q:St→Prop):Prop
 | quiet (hB:Region.lexB .any ops=true) (h:MN C H nx env ops.toList ops.toList [] [] fun loc=>zB C.keep loc env [] fun env=>Q ⟨env,H,nx⟩)
 | any (h:∀ F a w,(∀ i v,F.pin i=some v→i<C.pn)→Rel F C.N ⟨env,H,nx⟩ a w→(Code.region id ops true).wp C.P (fun e a' w'=>∃ st',Rel F C.N st' a' w'∧JC C.px Q e st') a w)
structure CxOk (C:Cx):Prop where
 tab:dh C.P C.T
 mixed:C.P.follows .mixedOrders=true
def Fr.fits (F:Fr) (pn:Nat):Prop:=∀ i v,F.pin i=some v→i<pn
inductive LoopG [Tabs] (C:Cx) (body:Code) (st:St) (Q:Exit→St→Prop):Prop
 | mk (h:∀ F a w,F.fits C.pn→Rel F C.N st a w→(Code.loop body).wp C.P (fun e a' w'=>∃ st',Rel F C.N st' a' w'∧ZI C.px Q e st') a w)
def ajA (next:St→Prop) (Q:Exit→St→Prop):Exit→St→Prop
 | .normal,st=>next st
 | e,st=>Q e st
def Uk (id:Nat) (Q:Exit→St→Prop):Exit→St→Prop
 | .exit id',st=>match Nat.beq id' id with
  | true=>Q .normal st
  | false=>Q (.exit id') st
 | e,st=>Q e st
def JB [Tabs] (C:Cx) (ops:Array Oper) (st:St) (Q:St→Prop):Prop :=
 match st with
 | ⟨env,H,nx⟩=>Lu C false ops.toList ops.toList [] [] env H nx fun loc H nx=>zB C.keep loc env [] fun env=>Q ⟨env,H,nx⟩
def fQ [Tabs] (C:Cx):Code→St→(Exit→St→Prop)→Prop
 | .skip,st,Q=>Q .normal st
 | .label _,st,Q=>Q .normal st
 | .region id ops draw,st,Q=>match draw with
  | false=>JB C ops st (Q .normal)
  | true=>match st with
   | ⟨env,H,nx⟩=>DrawG C id ops env H nx (Q .normal)
 | .seq x y,st,Q=>fQ C x st (ajA (fun st'=>fQ C y st' Q) Q)
 | .cond c x y,st,Q=>match st with
  | ⟨env,H,nx⟩=>match yA [] env c with
   | .bool b=>(b=true→fQ C x ⟨env,H,nx⟩ Q)∧(b=false→fQ C y ⟨env,H,nx⟩ Q)
   | _=>False
 | .block id body,st,Q=>fQ C body st (Uk id Q)
 | .loop body,st,Q=>LoopG C body st Q
 | .exit id,st,Q=>Q (.exit id) st
 | .ret,st,Q=>Q .ret st
 | _,_,_=>False
theorem nU {m:Ids} {S:Blocks} {w:World} {N:Nat} {tmps:Array Value} {loc:Loc} {env:Env} {stk:List Lay} (h:RunI m S w N tmps loc env stk):∀ (keep:List Nat) (acc:Env) (k:Env→Prop),zB keep loc env acc k →
  (∀ s,RelV m S w (tmps.getD s undef) (lk acc s))→∃ env',k env'∧∀ s,RelV m S w (tmps.getD s undef) (lk env' s)
 | [],acc,k,hk,ha=>⟨acc,hk,ha⟩
 | s::r,acc,k,hk,ha=>by
  unfold zB at hk;split at hk
  ·rename_i v hl;refine nU h r _ k (pz.1 hk) fun x=>?_
   rw [AY];split
   ·rename_i e;subst e;have:=h.rel s;rw [hl] at this;exact this
   ·exact ha x
  ·exact nU h r acc k hk ha
theorem Rel.run {F:Fr} {N:Nat} {st:St} {a:Act} {m:Ids} {S:Blocks} {w:World} (hs:a.tmps.size=N) (hr:∀ s,RelV m S w (a.tmps.getD s undef) (lk st.env s)):RunI m S w N a.tmps [] st.env [] :=
 ⟨hs,fun s=>hr s,trivial⟩
theorem PI (n:Nat):List.range n=List.range' 0 n:=by rw [List.range_eq_range']
theorem Nq [Tabs] {C:Cx} (hT:dh C.P C.T) {id:Nat} {ops:Array Oper} {st:St} {Q:St→Prop} (h:JB C ops st Q) {F:Fr} {a:Act} {w:World} (hr:Rel F C.N st a w) :
  (Code.region id ops false).wp C.P (fun e a' w'=>∃ st',Rel F C.N st' a' w'∧JC C.px Q e st') a w:=by
 obtain ⟨m,S,hc,hs,hd,hrel⟩:=hr;refine wp_region ?_;obtain ⟨env,H,nx⟩:=st;have:=tH hT (F:=F) (all:=ops.toList) (Q:=fun e a' w'=>∃ st',Rel F C.N st' a' w'∧JC C.px Q e st') ops.toList 0 [] [] env H nx _ (by simp) h ?_ (fun m S w a H nx ch hx hc hs hd=>⟨⟨[],H,nx⟩,⟨m,S,hc,hs,hd,fun s=>.t _ _ (.undef _)⟩,hx⟩) m S w a hc (Rel.run (F:=F) (st:=⟨env,H,nx⟩) hs hrel) hd
 ·rw [PI];simpa using this
 ·intro m S w a loc stk H nx hk hc hr hd;obtain ⟨env',hq,he⟩:=nU hr _ _ _ hk (fun s=>.t _ _ (.undef _));exact ⟨⟨env',H,nx⟩,⟨m,S,hc,hr.size,hd,he⟩,hq⟩
theorem UU [Tabs] {C:Cx} (hC:CxOk C) {id:Nat} {ops:Array Oper} {env:Env} {H:Heap} {nx:Nat} {Q:St→Prop} (h:DrawG C id ops env H nx Q) {F:Fr} {a:Act} {w:World} (hF:∀ i v,F.pin i=some v→i<C.pn) (hr:Rel F C.N ⟨env,H,nx⟩ a w) :
  (Code.region id ops true).wp C.P (fun e a' w'=>∃ st',Rel F C.N st' a' w'∧JC C.px Q e st') a w:=by
 cases h with
 | any h=>exact h F a w hF hr
 | quiet hB h =>
  obtain ⟨m,S,hc,hs,hd,hrel⟩:=hr;refine wp_region_quiet (C:=RowKit.Below w.heap.size w) hC.mixed hB ⟨rfl,rfl,rfl,Nat.le_refl _,fun _ _=>rfl⟩ ?_;refine tu hC.tab hc.good ops.toList [] [] _ h (fun a loc stk hk hr hd w' hw'=>?_) a (Rel.run (F:=F) (st:=⟨env,H,nx⟩) hs hrel) hd;obtain ⟨env',hq,he⟩:=nU hr _ _ _ hk (fun s=>.t _ _ (.undef _));have e:=Dc (nx:=nx) hc.good hw';exact ⟨⟨env',H,nx⟩,⟨m,S,hc.step e (Nat.le_refl _),hr.size,hd,fun s=>e.relV hc.good (he s)⟩,hq⟩
theorem QS {px:List PanicEntry→Prop} {Q:Exit→St→Prop} {e:Exit} {st:St} (h:JC px (Q .normal) e st):ZI px Q e st:=by
 cases e with
 | normal=>exact h
 | panic ch=>exact .inl h
 | exit _=>exact h.elim
 | goto _=>exact h.elim
 | ret=>exact h.elim
 | outgrown=>exact h.elim
theorem D5 {px:List PanicEntry→Prop} (hp:∀ ch,¬ px ch) {Q:Exit→St→Prop} {e:Exit} {st:St} (h:ZI px Q e st):Q e st:=by
 cases e with
 | panic ch=>exact h.resolve_left (hp ch)
 | _=>exact h
theorem gY [Tabs] {C:Cx} (hT:CxOk C) {F:Fr} (hF:F.fits C.pn):∀ (c:Code) (st:St) (Q:Exit→St→Prop),fQ C c st Q→∀ a w,Rel F C.N st a w→c.wp C.P (fun e a' w'=>∃ st',Rel F C.N st' a' w'∧ZI C.px Q e st') a w
 | .skip,st,Q,h,a,w,hr=>wp_skip ⟨st,hr,h⟩
 | .label _,st,Q,h,a,w,hr=>wp_label ⟨st,hr,h⟩
 | .region id ops draw,st,Q,h,a,w,hr=>by
  unfold fQ at h;cases draw with
  | false=>exact wp_mono (Nq hT.tab h hr) fun e a w ⟨st',h1,h2⟩=>⟨st',h1,QS h2⟩
  | true =>
   exact wp_mono (UU hT h hF hr) fun e a w ⟨st',h1,h2⟩=>⟨st',h1,QS h2⟩
 | .seq x y,st,Q,h,a,w,hr=>by
  refine wp_seq (wp_mono (gY hT hF x st _ h a w hr) fun e a' w' ⟨st',h1,h2⟩=>?_);cases e with
  | normal=>exact gY hT hF y st' Q h2 a' w' h1
  | _=>exact ⟨st',h1,h2⟩
 | .cond c x y,st,Q,h,a,w,hr=>by
  obtain ⟨env,H,nx⟩:=st;simp only [fQ] at h;split at h
  ·rename_i b hb;have hv:a.eval c=.bool b:=by
    obtain ⟨m,S,hc,hs,hd,hrel⟩:=hr;have:=(Rel.run (F:=F) (st:=⟨env,H,nx⟩) hs hrel).read (a:=a) trivial c;rw [hb] at this;exact wU this
   exact wp_cond_split hv (fun hb=>gY hT hF x _ Q (h.1 hb) a w hr) (fun hb=>gY hT hF y _ Q (h.2 hb) a w hr)
  ·exact h.elim
 | .block id body,st,Q,h,a,w,hr=>by
  refine wp_block (wp_mono (gY hT hF body st _ h a w hr) fun e a' w' ⟨st',h1,h2⟩=>?_);cases e with
  | exit id' =>
   change Uk id Q (.exit id') st' at h2;simp only [Uk] at h2;by_cases e:id'=id
   ·subst e;simp only [Nat.beq_refl] at h2;simp only [Exit.inBlock,if_true];exact ⟨st',h1,h2⟩
   ·have hb:Nat.beq id' id=false:=by
     cases h:Nat.beq id' id with
     | false=>rfl
     | true=>exact (e (Nat.eq_of_beq_eq_true h)).elim
    rw [hb] at h2;simp only [Exit.inBlock,e,if_false];exact ⟨st',h1,h2⟩
  | _=>exact ⟨st',h1,h2⟩
 | .loop body,st,Q,h,a,w,hr=>by
  obtain ⟨h⟩:=h;exact h F a w hF hr
 | .exit id,st,Q,h,a,w,hr=>wp_exit ⟨st,hr,h⟩
 | .ret,st,Q,h,a,w,hr=>wp_ret ⟨st,hr,h⟩
 | .rangeFunc ..,st,Q,h,a,w,hr=>h.elim
 | .scope _,st,Q,h,a,w,hr=>h.elim
 | .goto _,st,Q,h,a,w,hr=>h.elim
 | .refuse _,st,Q,h,a,w,hr=>h.elim
def Wk [Tabs] (pn N:Nat) (st st':St):Prop:=∀ F a w,F.fits pn→Rel F N st a w→Rel F N st' a w
def ad4 [Tabs] {σ:Type _} (I:σ→Prop) (μ:σ→Nat) (n:Nat) (pn N:Nat) (st:σ→St) (Q:Exit→St→Prop):Exit→St→Prop
 | .normal,st'=>∃ s,I s∧μ s<n∧Wk pn N st' (st s)
 | e,st'=>Q e st'
theorem dO [Tabs] {C:Cx} (hT:CxOk C) {body:Code} {st0:St} {Q:Exit→St→Prop} {σ:Type _} (I:σ→Prop) (μ:σ→Nat) (st:σ→St) (s0:σ) (h0:I s0) (hw:Wk C.pn C.N st0 (st s0))
  (round:∀ s,I s→fQ C body (st s) (ad4 I μ (μ s) C.pn C.N st Q)):LoopG C body st0 Q:=by
 refine ⟨fun F a w hF hr b k cs=>?_⟩
 have key:∀ n s a w,μ s=n→I s→Rel F C.N (st s) a w →
   ∃ e a' w',(∃ st',Rel F C.N st' a' w'∧ZI C.px Q e st')∧Arrives C.P (lone (b.at a (.code body::.inLoop body::k)) cs w) b k cs e a' w':=by
  intro n;induction n using Nat.strongRecOn with
  | _ n ih =>
   intro s a w hn hI hR;obtain ⟨e,a₁,w₁,⟨st',h1,h2⟩,harr⟩:=gY hT hF body (st s) _ (round s hI) a w hR b (.inLoop body::k) cs;cases e with
   | normal =>
    obtain ⟨s',hI',hlt,hwk⟩:=h2;obtain ⟨e₂,a₂,w₂,hq₂,harr₂⟩:=ih (μ s') (hn ▸ hlt) s' a₁ w₁ rfl hI' (hwk F a₁ w₁ hF h1);exact ⟨e₂,a₂,w₂,hq₂,.of_steps (Steps.trans harr (.one step_inLoop)) harr₂⟩
   | exit id=>exact ⟨.exit id,a₁,w₁,⟨st',h1,h2⟩,.pass (x:=.inLoop body) rfl (fun _ _=>.inl (by simp)) harr⟩
   | goto l=>exact ⟨.goto l,a₁,w₁,⟨st',h1,h2⟩,.pass (x:=.inLoop body) rfl (fun _ _=>.inl (by simp)) harr⟩
   | ret=>exact ⟨.ret,a₁,w₁,⟨st',h1,h2⟩,.pass (x:=.inLoop body) rfl (fun _ _=>.inl (by simp)) harr⟩
   | panic ch=>exact ⟨.panic ch,a₁,w₁,⟨st',h1,h2⟩,.pass (x:=.inLoop body) rfl (fun _ _=>.inl (by simp)) harr⟩
   | outgrown=>exact ⟨.outgrown,a₁,w₁,⟨st',h1,h2⟩,.pass (x:=.inLoop body) rfl (fun _ _=>.inl (by simp)) harr⟩
 obtain ⟨e,a',w',hq,harr⟩:=key _ s0 a w rfl h0 (hw F a w hF hr);exact ⟨e,a',w',hq,.of_steps (.one step_loop) harr⟩
def kC:List AV→Nat→Env
 | [],_=>[]
 | a::l,i=>(i,a)::kC l (i+1)
def AB.trees:AB→Bool
 | .cells _ l=>rF l
 | _=>true
def nV (T:Tab):List ResultVar→St→List AR→List Nat→(List AR→Prop)→Prop
 | [],_,acc,_,k=>k acc.reverse
 | .tmp t::r,st,acc,used,k=>match lk st.env t with
  | .own id=>match mP id used with
   | false=>False
   | true=>match aA st.heap id with
    | .lst e E l=>nV T r st (.new (.lst e E l)::acc) (id::used) k
    | .row e E enc d xs=>nV T r st (.new (.row e E enc d xs)::acc) (id::used) k
    | _=>False
  | .map id=>match mP id used with
   | false=>False
   | true=>match aA st.heap id with
    | .smap ev dv es=>nV T r st (.new (.smap ev dv es)::acc) (id::used) k
    | .imap kk ev dv es=>nV T r st (.new (.imap kk ev dv es)::acc) (id::used) k
    | .gmap kk ev dv es=>nV T r st (.new (.gmap kk ev dv es)::acc) (id::used) k
    | _=>False
  | .ptr id 0=>match mP id used with
   | false=>False
   | true=>match aA st.heap id with
    | .cells e l=>match rF l with
     | true=>nV T r st (.new (.cells e l)::acc) (id::used) k
     | false=>False
    | _=>False
  | v=>uJ v fun v=>match v.tree with
   | true=>nV T r st (.val v::acc) used k
   | false=>False
 | .cell t ty::r,st,acc,used,k=>Ej T none st.heap st.nx ty (lk st.env t) fun res=>match res with
  | ⟨v,_,_,_⟩=>uJ v fun v=>match v.tree with
   | true=>nV T r st (.val v::acc) used k
   | false=>False
def Uj (T:Tab) (rs:Array ResultVar) (R:List AR→Prop):Exit→St→Prop
 | .normal,st=>nV T rs.toList st [] [] R
 | .ret,st=>nV T rs.toList st [] [] R
 | _,_=>False
theorem y7 {m m':Ids} {S:Blocks} {w:World} {id n:Nat} {b:AB} {v:Value} (h:RelB m S w id b) (hm:m id=some v) (hm':m' n=some v) (hb:b.trees=true):RelB m' S w n b:=by
 cases b with
 | dead=>trivial
 | cells e l =>
  obtain ⟨g,cs,hmi,hg,hl,h1,hr⟩:=h;rw [hmi] at hm;cases hm;exact ⟨g,cs,hm',hg,hl,h1,fun j c a hj ha=>.t _ _ ((hr j c a hj ha).toT (vH hb a (List.mem_of_getElem? ha)))⟩
 | arr e k n' f=>obtain ⟨g,cs,hmi,hr⟩:=h;rw [hmi] at hm;cases hm;exact ⟨g,cs,hm',hr⟩
 | lst e E l=>obtain ⟨v',vs,hmi,hr⟩:=h;rw [hmi] at hm;cases hm;exact ⟨_,vs,hm',hr⟩
 | row e E enc d xs=>obtain ⟨v',vs,hmi,hr⟩:=h;rw [hmi] at hm;cases hm;exact ⟨_,vs,hm',hr⟩
 | smap ev dv es=>obtain ⟨r,en,clock,hmi,hr⟩:=h;rw [hmi] at hm;cases hm;exact ⟨r,en,clock,hm',hr⟩
 | imap k ev dv es=>obtain ⟨r,en,clock,hmi,hr⟩:=h;rw [hmi] at hm;cases hm;exact ⟨r,en,clock,hm',hr⟩
 | gmap k ev dv es=>obtain ⟨r,en,clock,hmi,hr⟩:=h;rw [hmi] at hm;cases hm;exact ⟨r,en,clock,hm',hr⟩
 | que e E enc d xs=>obtain ⟨g,o,cap,cur,hmi,hr⟩:=h;rw [hmi] at hm;cases hm;exact ⟨g,o,cap,cur,hm',hr⟩
theorem Jq {m:Ids} {S:Blocks} {w:World} {id:Nat} {b:AB} {v:Value} (h:RelB m S w id b) (hm:m id=some v) (hb:b.trees=true):∀ n,RelB (fun i=>if i=n then some v else none) S w n b:=by
 intro n;exact y7 h hm (by simp) hb
def slotVal (P:Program) (a:Act) (w:World):ResultVar→Value
 | .tmp t=>a.tmps.getD t undef
 | .cell t ty=>match a.tmps.getD t undef with
  | .pointer (some p)=>match (loadVar ty p).run P w with
   | .ok v _=>v
   | _=>undef
  | _=>undef
def eH (P:Program) (rs:List ResultVar) (a:Act) (w:World):List Value:=rs.map (slotVal P a w)
def AU (P:Program) (a:Act) (w:World):ResultVar→Prop
 | .tmp _=>True
 | .cell t ty=>∃ p v,a.tmps.getD t undef=.pointer (some p)∧(loadVar ty p).run P w=.ok v w
inductive ResRel (m:Ids) (S:Blocks) (w:World) (H:Heap) (v:Value):AR→Option Nat→Prop
 | val (a:AV) (h:RelT S w v a):ResRel m S w H v (.val a) none
 | obj (id:Nat) (b:AB) (hm:m id=some v) (hl:aA H id=b) (hlive:b.live=true) (hb:b.trees=true):ResRel m S w H v (.new b) (some id)
theorem ahk {p:Prop}(h:p:=by
 unfold execOp at hu;have he:a.eval (.tmp t)=a.tmps.getD t undef:=rfl;simp only [o,he,Instr.loadAt,Instr.sureAddr] at hu;generalize a.tmps.getD t undef=v0 at hu ⊢;cases v0 with
 | pointer p0 =>
  cases p0 with
  | none=>simp [stuck,Sem.run_bind,Result.andThen] at hu
  | some p =>
   refine ⟨p,rfl,?_⟩;simp only [Sem.run_bind,Sem.run_pure,Result.andThen_ok] at hu;cases hr:(loadVar ty p).run P w with
   | ok v1 w1=>rw [hr] at hu;simp at hu;rw [hu.1,hu.2]
   | _=>rw [hr] at hu;simp [Result.andThen] at hu
 | _=>simp [stuck,Sem.run_bind,Result.andThen] at hu):p:=h
theorem SX {p:Prop}(h:p:=by
 exact put _ (some id) _ (.obj id _ hmid hid rfl rfl) (fun i hi=>by cases hi;exact ⟨fun hu=>uF hn _ hu rfl,rfl⟩) (fun h=>by cases h) h):p:=h
theorem Au [Tabs] {P:Program} {T:Tab} (hT:dh P T) {m:Ids} {S:Blocks} {w:World} {st:St} {a:Act} (hG:Good m S w st.heap) (hrel:∀ s,RelV m S w (a.tmps.getD s undef) (lk st.env s)) :
  ∀ (rs:List ResultVar) (acc:List AR) (used:List Nat) (k:List AR→Prop),nV T rs st acc used k →
   ∃ (rs':List AR) (ids:List (Option Nat)),k (acc.reverse++rs')∧rs'.length=rs.length∧ids.length=rs.length ∧
    (∀ (j:Nat) (v:Value) (r:AR) (o:Option Nat),(eH P rs a w)[j]?=some v→rs'[j]?=some r→ids[j]?=some o→ResRel m S w st.heap v r o) ∧
    (∀ (i j x:Nat),ids[i]?=some (some x)→ids[j]?=some (some x)→i=j)∧(∀ x,some x∈ids→x∉used)∧∀ r∈rs,AU P a w r
 | [],acc,used,k,h=>⟨[],[],by simpa [nV] using h,rfl,rfl,fun j v r o h=>by simp [eH] at h,fun i j x h=>by simp at h,by simp,by simp⟩
 | r0::r,acc,used,k,h=>by
  have put:∀ (x:AR) (o:Option Nat) (used':List Nat),AU P a w r0→ResRel m S w st.heap (slotVal P a w r0) x o→(∀ i,o=some i→i∉used∧used'=i::used)→(o=none→used'=used)→nV T r st (x::acc) used' k →
    ∃ (rs':List AR) (ids:List (Option Nat)),k (acc.reverse++rs')∧rs'.length=(r0::r).length∧ids.length=(r0::r).length ∧
     (∀ (j:Nat) (v:Value) (r':AR) (o:Option Nat),(eH P (r0::r) a w)[j]?=some v→rs'[j]?=some r'→ids[j]?=some o→ResRel m S w st.heap v r' o) ∧
     (∀ (i j x:Nat),ids[i]?=some (some x)→ids[j]?=some (some x)→i=j)∧(∀ x,some x∈ids→x∉used)∧∀ r'∈r0::r,AU P a w r':=by
   intro x o used' hrun hx ho1 ho2 hk;obtain ⟨rs',ids,h1,h2,h3,h4,h5,h6,h7⟩:=Au hT hG hrel r _ _ k hk;refine ⟨x::rs',o::ids,by simpa using h1,by simp [h2],by simp [h3],fun j v r' o' p q s=>?_,fun i j y p q=>?_,fun y hy=>?_,fun r' hr'=>?_⟩
   ·cases j with
    | zero =>
     simp only [eH,List.map_cons,List.getElem?_cons_zero,Option.some.injEq] at p q s;subst p;subst q;subst s;exact hx
    | succ j=>exact h4 j v r' o' (by simpa [eH] using p) GV (by simpa using s)
   ·cases i with
    | zero=>cases j with
     | zero=>rfl
     | succ j =>
      simp at p q;subst p;have:=h6 y (List.mem_of_getElem? q);rw [(ho1 y rfl).2] at this;exact (this (by simp)).elim
    | succ i=>cases j with
     | zero =>
      simp at p q;subst q;have:=h6 y (List.mem_of_getElem? p);rw [(ho1 y rfl).2] at this;exact (this (by simp)).elim
     | succ j=>have:=h5 i j y Gu GV;omega
   ·rcases List.mem_cons.1 hy with hy | hy
    ·exact (ho1 y hy.symm).1
    ·have:=h6 y hy;cases o with
     | none=>rw [ho2 rfl] at this;exact this
     | some i=>rw [(ho1 i rfl).2] at this;intro hu;exact this (by simp [hu])
   ·rcases List.mem_cons.1 hr' with rfl | hr'
    ·exact hrun
    ·exact h7 r' hr'
  match r0,put,h with
  | .cell t ty,put,h =>
  unfold nV at h;let o : Oper := { dst := none, op := .load ty (.tmp t), type := 0, pos := "", after := #[], guard := none }
  obtain ⟨res,hsem,_,h⟩:=xk (P:=P) (T:=T) hT (g:=none) (rd:=fun x=>match x with | .tmp s=>lk st.env s | _=>.undef) (o:=o) (x:=.tmp t) rfl h;obtain ⟨v,touch,wr,nx'⟩:=res;simp only [pz] at h;obtain ⟨_,hsem⟩:=hsem trivial;obtain ⟨u,hu,hru⟩:=hsem m S w a st.heap hG (fun _ _=>rfl) (fun x hx _=>by
   simp only [List.mem_singleton] at hx;subst hx;exact hrel t)
  have hu:=hu w ⟨Nat.le_refl _,fun _ _=>rfl⟩;have hld:∃ p,a.tmps.getD t undef=.pointer (some p)∧(loadVar ty p).run P w=.ok u w:=by
   exact ahk
  obtain ⟨p,hp,hl⟩:=hld;split at h
  ·rename_i htr;refine put (.val v) none used ⟨p,u,hp,hl⟩ (.val _ ?_) (fun i hi=>by cases hi) (fun _=>rfl) h;have:slotVal P a w (.cell t ty)=u:=by simp only [slotVal,hp,hl]
   rw [this];exact hru.toT htr
  ·exact h.elim
  | .tmp t,put,h =>
  have hv:=hrel t;unfold nV at h;have put:∀ (x:AR) (o:Option Nat) (used':List Nat),ResRel m S w st.heap (a.tmps.getD t undef) x o→(∀ i,o=some i→i∉used∧used'=i::used)→(o=none→used'=used)→nV T r st (x::acc) used' k→_ :=
   fun x o used'=>put x o used' trivial
  split at h
  ·rename_i id hl;rw [hl] at hv;split at h
   ·exact h.elim
   ·rename_i hn;have hmid:m id=some (a.tmps.getD t undef):=by
     generalize a.tmps.getD t undef=v at hv;cases hv with
     | t _ _ h=>cases h
     | own id n cap ad hm=>exact hm
    split at h
    ·rename_i e E l hid;exact SX
    ·rename_i T e E enc d xs hid;exact SX
    ·exact h.elim
  ·rename_i id hl;rw [hl] at hv;split at h
   ·exact h.elim
   ·rename_i hn;have hmid:m id=some (a.tmps.getD t undef):=by
     generalize a.tmps.getD t undef=v at hv;cases hv with
     | t _ _ h=>cases h
     | map id r hm=>exact hm
    split at h
    ·rename_i V ev dv es hid;exact SX
    ·rename_i V kk ev dv es hid;exact SX
    ·rename_i V kk ev dv es hid;exact SX
    ·exact h.elim
  ·rename_i id hl;rw [hl] at hv;split at h
   ·exact h.elim
   ·rename_i hn;have hmid:∀ e l,aA st.heap id=.cells e l→m id=some (a.tmps.getD t undef):=by
     intro e l hid;have hb:=hG.rel id;rw [hid] at hb;obtain ⟨g,cs,hmi,_⟩:=hb;generalize a.tmps.getD t undef=v at hv;cases hv with
     | t _ _ h=>cases h
     | ptr id off g' hm=>exact hm
    split at h
    ·rename_i e l hid;split at h
     ·rename_i htr;exact put _ (some id) _ (.obj id _ (hmid e l hid) hid rfl htr) (fun i hi=>by cases hi;exact ⟨fun hu=>uF hn _ hu rfl,rfl⟩) (fun h=>by cases h) h
     ·exact h.elim
    ·exact h.elim
  ·rw [pz] at h;split at h
   ·rename_i htr;exact put _ none _ (.val _ (hv.toT htr)) (fun i hi=>by cases hi) (fun _=>rfl) h
   ·exact h.elim
theorem uX {P:Program} {fn:Func} {w:World} {a:Act} (h:∀ r∈fn.results.toList,AU P a w r) (hn:fn.results.size≤4):(results fn a.tmps).run P w=Result.ok (nG (eH P fn.results.toList a w)) w:=by
 obtain ⟨l,hl⟩:∃ l,fn.results=Array.mk l:=⟨fn.results.toList,rfl⟩;rw [hl] at h hn;simp only [List.size_toArray] at hn;have one:∀ r,AU P a w r→(∃ t,r=.tmp t)∨∃ t ty p v,r=.cell t ty∧a.tmps[t]?.getD undef=.pointer (some p)∧(loadVar ty p).run P w=.ok v w:=by
  intro r hr;cases r with
  | tmp t=>exact .inl ⟨t,rfl⟩
  | cell t ty=>obtain ⟨p,v,h1,h2⟩:=hr;exact .inr ⟨t,ty,p,v,rfl,by simpa using h1,h2⟩
 match l,h,hn with
 | [],h,hn=>simp [results,hl,eH,nG]
 | [r0],h,hn =>
  rcases one r0 (h r0 (by simp)) with ⟨t0,rfl⟩ | ⟨t0,y0,p0,v0,rfl,a0,b0⟩<;>simp [results,hl,eH,slotVal,nG,asAddr, *]
 | [r0,r1],h,hn =>
  rcases one r0 (h r0 (by simp)) with ⟨t0,rfl⟩ | ⟨t0,y0,p0,v0,rfl,a0,b0⟩<;>rcases one r1 (h r1 (by simp)) with ⟨t1,rfl⟩ | ⟨t1,y1,p1,v1,rfl,a1,b1⟩<;>simp [results,hl,eH,slotVal,nG,asAddr, *]
 | [r0,r1,r2],h,hn =>
  rcases one r0 (h r0 (by simp)) with ⟨t0,rfl⟩ | ⟨t0,y0,p0,v0,rfl,a0,b0⟩<;>rcases one r1 (h r1 (by simp)) with ⟨t1,rfl⟩ | ⟨t1,y1,p1,v1,rfl,a1,b1⟩ <;>
   rcases one r2 (h r2 (by simp)) with ⟨t2,rfl⟩ | ⟨t2,y2,p2,v2,rfl,a2,b2⟩<;>simp [results,hl,eH,slotVal,nG,asAddr, *]
 | [r0,r1,r2,r3],h,hn =>
  rcases one r0 (h r0 (by simp)) with ⟨t0,rfl⟩ | ⟨t0,y0,p0,v0,rfl,a0,b0⟩<;>rcases one r1 (h r1 (by simp)) with ⟨t1,rfl⟩ | ⟨t1,y1,p1,v1,rfl,a1,b1⟩ <;>
   rcases one r2 (h r2 (by simp)) with ⟨t2,rfl⟩ | ⟨t2,y2,p2,v2,rfl,a2,b2⟩<;>rcases one r3 (h r3 (by simp)) with ⟨t3,rfl⟩ | ⟨t3,y3,p3,v3,rfl,a3,b3⟩<;>simp [results,hl,eH,slotVal,nG,asAddr, *]
 | _::_::_::_::_::_,h,hn=>simp at hn
theorem zn:∀ (args:List AV) (i s:Nat),lk (kC args i) s=if i≤s then args.getD (s-i) .undef else .undef
 | [],i,s=>by simp [kC,lk]
 | a::l,i,s=>by
  rw [kC,AY,zn l (i+1) s];by_cases h1:i=s
  ·subst h1;simp
  ·rw [if_neg h1];by_cases h2:i≤s
   ·rw [if_pos h2,if_pos (by omega)];obtain ⟨q,hq⟩:∃ q,s-i=q+1:=⟨s-i-1,by omega⟩;rw [hq,show s-(i+1)=q by omega];simp
   ·rw [if_neg h2,if_neg (by omega)]
theorem ahs {p:Prop}(h:p:=by
 obtain ⟨o,ho⟩:∃ o,ids[i]?=some o:=⟨_,List.getElem?_eq_getElem (by
  have:=(List.getElem?_eq_some_iff.1 hb).1;omega)⟩
 cases h4 i u (.new b) o hu hb ho with
 | obj id _ hm hl hlive hbc =>
  refine ⟨fun hSk=>(hc.good.ro k hSk).2 id u (by rw [hl];exact hlive) hm hk,fun j u' b' hu' hb' hk'=>?_⟩;obtain ⟨o',ho'⟩:∃ o,ids[j]?=some o:=⟨_,List.getElem?_eq_getElem (by
   have:=(List.getElem?_eq_some_iff.1 hb').1;omega)⟩
  cases h4 j u' (.new b') o' hu' hb' ho' with
  | obj id' _ hm' hl' hlive' hbc' =>
   have:=hc.good.sep id id' u u' k (by rw [hl];exact hlive) (by rw [hl'];exact hlive') hm hm' hk hk';subst this;exact h5 i j id ho ho'):p:=h
theorem Qk {p:Prop}(h:p:=by
 have:s<vs.length:=by omega
 simp [Array.getElem?_append,this]):p:=h
theorem aii {p:Prop}(h:p:=by
 refine ⟨fun _=>none,S,⟨⟨fun id=>trivial,fun i j vi vj k hl=>by simp [aA,AB.live] at hl,fun g hg=>⟨hS g hg,fun i v hl=>by simp [aA,AB.live] at hl⟩,hTb⟩,fun _ _=>rfl,Far.refl _ _,fun k ⟨i,v,hl,_⟩=>by simp [aA,AB.live] at hl,fun g hg=>.inl hg,fun g hg=>hg,fun i v h=>by cases h⟩,by simp;omega,rfl,fun s=>?_⟩;rw [zn,if_pos (Nat.zero_le _),Nat.sub_zero];by_cases hs:s<args.length
 ·have h1:args[s]?=some (args.getD s .undef):=by simp [List.getD,List.getElem?_eq_getElem hs]
  have h2:vs[s]?=some ((vs.toArray++Array.replicate (fn.ntmps-vs.toArray.size) undef).getD s undef):=by
   exact Qk
  exact .t _ _ (hrel s _ _ h2 h1)
 ·have:args.getD s .undef=.undef:=by simp [List.getD,List.getElem?_eq_none (by omega:args.length≤s)]
  rw [this];exact .t _ _ (.undef _)):p:=h
theorem agG {p:Prop}(h:p:=by
 obtain ⟨o,ho⟩:∃ o,ids[j]?=some o:=⟨_,List.getElem?_eq_getElem (by
  have:=(List.getElem?_eq_some_iff.1 hr').1;omega)⟩
 cases h4 j u r o hu hr' ho with
 | val a h=>exact h
 | obj id b hm hl hlive hb =>
  refine ⟨hlive,fun k hk=>?_,Jq (by rw [← hl];exact hc.good.rel id) hm hb⟩;rcases hc.owns k ⟨id,u,by rw [hl];exact hlive,hm,hk⟩ with h | h
  ·exact h.elim
  ·exact h):p:=h
theorem OO [Tabs] {C : Cx} (hT : CxOk C) {f : FuncId} {fn : Func} {code : Code} {args : List AV} {R : List AR → Prop} (hf : C.P.funcs[f]? = some fn) (hb : fn.body = some code) (hname : (fn.name == "runtime.NumGoroutine") = false)
  (hN:C.N=fn.ntmps) (hle:args.length≤fn.ntmps) (hres:fn.results.size≤4) (h:∀ F a w,F.fits C.pn→Rel F C.N ⟨kC args 0,[],0⟩ a w→code.wp C.P (fun e a' w'=>∃ st',Rel F C.N st' a' w'∧Uj C.T fn.results R e st') a w):bM C.P f args R:=by
 refine ⟨⟨fn,hf,by rw [hb];rfl,hname⟩,fun S w vs hS hTb ⟨hlen,hrel⟩=>calls_of_wp hf hb ?_⟩;let F:Fr:=⟨w,fun _=>False,S,fun _=>none,[]⟩
 have hrel0:Rel F C.N ⟨kC args 0,[],0⟩ { tmps:=vs.toArray++Array.replicate (fn.ntmps-vs.toArray.size) undef,defers:=[] } w:=by
  exact aii
 refine wp_mono (h F _ w (fun i v h=>by cases h) hrel0) fun e a' w' ⟨st',⟨m,S',hc,hs,hd,hr⟩,hq⟩=>?_
 have fin:nV C.T fn.results.toList st' [] [] R→a'.defers=[]∧∃ v,(results fn a'.tmps).run C.P w'=.ok v w'∧∃ us rs S',Ending.returned v=.returned (nG us)∧R rs∧Left S w us rs S' w':=by
  intro hq;obtain ⟨rs,ids,h1,h2,h3,h4,h5,_,h7⟩:=Au hT.tab hc.good hr _ _ _ _ hq;have hlenv:(eH C.P fn.results.toList a' w').length=rs.length:=by rw [h2];simp [eH]
  refine ⟨hd,_,uX h7 hres,eH C.P fn.results.toList a' w',rs,S',rfl,by simpa using h1,⟨hlenv,fun j u r hu hr'=>?_,hc.far.below (fun k _ h=>h),hc.ro0,fun g hg=>(hc.ro g hg).elim .inl (fun h=>h.elim (fun h=>h.elim) .inr),fun g hg=>(hc.good.ro g hg).1,fun i u b k hu hb hk=>?_⟩⟩
  ·exact agG
  ·exact ahs
 cases e with
 | normal=>exact fin hq
 | ret=>exact fin hq
 | _=>exact hq.elim
theorem aaR [Tabs] {C : Cx} (hT : CxOk C) {f : FuncId} {fn : Func} {code : Code} {args : List AV} {R : List AR → Prop} (hf : C.P.funcs[f]? = some fn) (hb : fn.body = some code) (hname : (fn.name == "runtime.NumGoroutine") = false)
  (hN:C.N=fn.ntmps) (hle:args.length≤fn.ntmps) (hres:fn.results.size≤4) (h:fQ C code ⟨kC args 0,[],0⟩ (Uj C.T fn.results R)) (hpx:∀ ch,¬ C.px ch:=by exact fun _ h=>h):bM C.P f args R :=
 OO hT hf hb hname hN hle hres fun _ a w hF hr=>wp_mono (gY hT hF code _ _ h a w hr) fun _ _ _ ⟨st',h1,h2⟩=>⟨st',h1,D5 hpx h2⟩
def wkQ [Tabs] (pn N:Nat) (Q:Exit→St→Prop) (e:Exit) (st:St):Prop:=∃ st',Wk pn N st st'∧Q e st'
theorem Wk.refl [Tabs] {pn N:Nat} (st:St):Wk pn N st st:=fun _ _ _ _ h=>h
theorem Wk.trans [Tabs] {pn N:Nat} {a b c:St} (h:Wk pn N a b) (k:Wk pn N b c):Wk pn N a c:=fun F x w hF hr=>k F x w hF (h F x w hF hr)
theorem ZJ [Tabs] {C : Cx} (hT : CxOk C) {f : FuncId} {fn : Func} {code : Code} {args : List AV} {R : List AR → Prop} (hf : C.P.funcs[f]? = some fn) (hb : fn.body = some code) (hname : (fn.name == "runtime.NumGoroutine") = false)
  (hN:C.N=fn.ntmps) (hle:args.length≤fn.ntmps) (hres:fn.results.size≤4) (h:fQ C code ⟨kC args 0,[],0⟩ (wkQ C.pn C.N (Uj C.T fn.results R))) (hpx:∀ ch,¬ C.px ch:=by exact fun _ h=>h):bM C.P f args R :=
 OO hT hf hb hname hN hle hres fun _ a w hF hr=>wp_mono (gY hT hF code _ _ h a w hr) fun _ a' w' ⟨_,h1,h2⟩=>let ⟨st2,hw,hq⟩:=D5 hpx h2;⟨st2,hw _ a' w' hF h1,hq⟩
def agY (P:Program):Tab→Prop
 | []=>True
 | (t,i)::r=>(P.underlying t,(P.info? t).map fun j=>(j.size,j.bytes,j.zero))=(some i.desc,some (i.size,i.bytes,some i.zero))∧agY P r
theorem TN {P:Program}:∀ {T:Tab},agY P T→dh P T
 | [],_,t,i,h=>by simp [h_] at h
 | (t',i')::r,hL,t,i,h=>by
  have hc:h_ ((t',i')::r) t=(match Nat.beq t' t with | true=>some i' | false=>h_ r t):=rfl;rw [hc] at h;split at h
  ·rename_i hb;have:=Nat.eq_of_beq_eq_true hb;subst this;cases h;have h1:=hL.1;simp only [Prod.mk.injEq] at h1;obtain ⟨h1,h2⟩:=h1;refine ⟨h1,?_⟩;cases hj:P.info? t' with
   | none=>rw [hj] at h2;cases h2
   | some j =>
    rw [hj] at h2;simp only [Option.map_some,Option.some.injEq,Prod.mk.injEq] at h2;exact ⟨j,rfl,h2⟩
  ·exact TN hL.2 t i h
inductive SrcId where
 | id (i:Nat)
 | nil
 | trunc (i n:Nat)
abbrev Ren:=List (Nat×SrcId)
def ql:Ren→Nat→Option SrcId
 | [],_=>none
 | (i,s)::r,j=>match Nat.beq i j with
  | true=>some s
  | false=>ql r j
inductive LeV1 (ρ:Ren):AV→AV→Prop
 | undef (v:AV):LeV1 ρ v .undef
 | tree (v v':AV) (h:v=v') (ht:v'.tree=true):LeV1 ρ v v'
 | leT (v v':AV) (h:g_ v v') (ht:v.tree=true):LeV1 ρ v v'
 | own (i j:Nat) (h:ql ρ j=some (.id i)):LeV1 ρ (.own i) (.own j)
 | nilown (j:Nat) (h:ql ρ j=some .nil):LeV1 ρ .nils (.own j)
 | trunc (i n j:Nat) (h:ql ρ j=some (.trunc i n)):LeV1 ρ (.pre i n) (.own j)
 | pre (i n n' j:Nat) (h:ql ρ j=some (.id i)) (hn:n=n'):LeV1 ρ (.pre i n) (.pre j n')
 | ptr (i j off:Nat) (h:ql ρ j=some (.id i)):LeV1 ρ (.ptr i off) (.ptr j off)
 | map (i j:Nat) (h:ql ρ j=some (.id i)):LeV1 ρ (.map i) (.map j)
 | csl (i n j:Nat) (h:ql ρ j=some (.id i)):LeV1 ρ (.csl i n) (.csl j n)
inductive LeL (R:AV→AV→Prop):List AV→List AV→Prop
 | nil:LeL R [] []
 | cons {a a':AV} {l l':List AV} (h:R a a') (hl:LeL R l l'):LeL R (a::l) (a'::l')
inductive LeV (ρ:Ren):AV→AV→Prop
 | base {v v':AV} (h:LeV1 ρ v v'):LeV ρ v v'
 | fn (f:Fn) (a b a' b':List AV) (h:LeL (LeV1 ρ) a a') (h':LeL (LeV1 ρ) b b'):LeV ρ (.fn f a b) (.fn f a' b')
 | agg (l l':List AV) (h:LeL (LeV1 ρ) l l'):LeV ρ (.agg l) (.agg l')
theorem g_.refl (a:AV):g_ a a:=fun _ _ _ h=>h
theorem g_.nils_lsl (E:Nat) {l:List AV} (h:[]=l):g_ .nils (.lsl E l):=fun S w v hr=>by
 subst h;cases hr;exact .lslnil E
theorem g_.nils_sl {T:Type} (E:Nat) (enc:T→AV) (d:T):g_ .nils (.sl E enc d []):=fun S w v h=>by
 cases h;exact .sl _ _ _ _ _ (.lslnil E)
theorem g_.lsl_sl {T:Type} {E:Nat} {l:List AV} (enc:T→AV) (d:T) (xs:List T) (h:l=xs.map enc):g_ (.lsl E l) (.sl E enc d xs):=fun S w v hr=>.sl _ _ _ _ _ (by rw [← h];exact hr)
inductive LeTs:List AV→List AV→Prop
 | nil:LeTs [] []
 | cons {a b:AV} {l r:List AV} (h:g_ a b) (t:LeTs l r):LeTs (a::l) (b::r)
theorem LeTs.len {l r:List AV} (h:LeTs l r):r.length=l.length:=by
 induction h with
 | nil=>rfl
 | cons _ _ ih=>simp [ih]
theorem LeTs.get {l r:List AV} (h:LeTs l r):∀ {j:Nat} {b:AV},r[j]?=some b→∃ a,l[j]?=some a∧g_ a b:=by
 induction h with
 | nil=>intro j b h;simp at h
 | cons h0 t ih =>
  intro j b h;cases j with
  | zero=>simp at h;subst h;exact ⟨_,rfl,h0⟩
  | succ j=>exact ih oz
theorem g_.any1 {a:AV} (h:a.one=true):g_ a .any1:=fun _ _ _ hr=>.any1 _ (hr.oneCell h)
theorem RowRel.leT {S:Blocks} {w:World} {e E:Nat} {l r:List AV} {v:Value} {vs:List Value} (h:RowRel S w e E l v vs) (hlen:r.length=l.length) (hE:∀ x∈r,x.cells.length=E) (h1:∀ a∈flat r,a.one=true) (ht:LeTs (flat l) (flat r)):RowRel S w e E r v vs :=
 ⟨by rw [hlen];exact h.owns,hE,h1,fun j c b hj hb=>by
  obtain ⟨a,ha,hab⟩:=ht.get hb;exact hab S w c (h.rel j c a hj ha)⟩
inductive LeB (H:Heap) (ρ:Ren):SrcId→AB→Prop
 | dead (s:SrcId):LeB H ρ s .dead
 | row {T:Type} (i e E:Nat) (enc:T→AV) (d:T) (xs xs':List T) (h:aA H i=.row e E enc d xs) (hx:xs=xs'):LeB H ρ (.id i) (.row e E enc d xs')
 | lst (i e E:Nat) (l l':List AV) (h:aA H i=.lst e E l) (hx:l=l'):LeB H ρ (.id i) (.lst e E l')
 | lstrow {T:Type} (i e E:Nat) (l:List AV) (enc:T→AV) (d:T) (xs:List T) (h:aA H i=.lst e E l) (hx:l=xs.map enc):LeB H ρ (.id i) (.row e E enc d xs)
 | cells (i e:Nat) (l l':List AV) (h:aA H i=.cells e l) (hl:LeL (LeV ρ) l l') (h1:lF l'=true):LeB H ρ (.id i) (.cells e l')
 | smap {V:Type} (i:Nat) (ev:V→AV) (dv:V) (es es':List (List UInt8×V)) (h:aA H i=.smap ev dv es) (hx:es=es'):LeB H ρ (.id i) (.smap ev dv es')
 | imap {V:Type} (i:Nat) (k:IntKind) (ev:V→AV) (dv:V) (es es':List (Int×V)) (h:aA H i=.imap k ev dv es) (hx:es=es'):LeB H ρ (.id i) (.imap k ev dv es')
 | gmap {V:Type} (i:Nat) (k:List KK) (ev:V→AV) (dv:V) (es es':List (List KV×V)) (h:aA H i=.gmap k ev dv es) (hx:es=es'):LeB H ρ (.id i) (.gmap k ev dv es')
 | newgmap {V W:Type} (i:Nat) (ev:V→AV) (dv:V) (es:List (List UInt8×V)) (k:List KK) (ev':W→AV) (dv':W) (es':List (List KV×W)) (h:aA H i=.smap ev dv es) (hx:es=[]) (hx':es'=[]):LeB H ρ (.id i) (.gmap k ev' dv' es')
 | newsmap {V W:Type} (i:Nat) (ev:V→AV) (dv:V) (es:List (List UInt8×V)) (ev':W→AV) (dv':W) (es':List (List UInt8×W)) (h:aA H i=.smap ev dv es) (hx:es=[]) (hx':es'=[]):LeB H ρ (.id i) (.smap ev' dv' es')
 | newimap {V W:Type} (i:Nat) (ev:V→AV) (dv:V) (es:List (List UInt8×V)) (k:IntKind) (ev':W→AV) (dv':W) (es':List (Int×W)) (h:aA H i=.smap ev dv es) (hx:es=[]) (hx':es'=[]):LeB H ρ (.id i) (.imap k ev' dv' es')
 | arr (i e:Nat) (k:IntKind) (n:Nat) (f f':Nat→Int) (h:aA H i=.arr e k n f) (hx:∀ j,j<n→f j=f' j):LeB H ρ (.id i) (.arr e k n f')
 | nilrow {T:Type} (e E:Nat) (enc:T→AV) (d:T) (xs:List T) (hx:xs=[]):LeB H ρ .nil (.row e E enc d xs)
 | nillst (e E:Nat):LeB H ρ .nil (.lst e E [])
 | que {T:Type} (i e E:Nat) (enc:T→AV) (d:T) (xs xs':List T) (h:aA H i=.que e E enc d xs) (hx:xs=xs'):LeB H ρ (.id i) (.que e E enc d xs')
 | rowque {T:Type} (i e E:Nat) (enc:T→AV) (d:T) (xs xs':List T) (h:aA H i=.row e E enc d xs) (hx:xs=xs') (hn:xs≠[]):LeB H ρ (.id i) (.que e E enc d xs')
 | lstque {T:Type} (i e E:Nat) (l:List AV) (enc:T→AV) (d:T) (xs:List T) (h:aA H i=.lst e E l) (hx:l=xs.map enc) (hn:xs≠[]):LeB H ρ (.id i) (.que e E enc d xs)
 | rowT {T:Type} (i e E:Nat) (s:Src) (enc:T→AV) (d:T) (xs:List T) (h:aA H i=s.obj e E) (hlen:(xs.map enc).length=s.list.length) (hE:∀ x∈xs.map enc,x.cells.length=E) (h1:∀ a∈flat (xs.map enc),a.one=true)
   (ht:LeTs (flat s.list) (flat (xs.map enc))):LeB H ρ (.id i) (.row e E enc d xs)
 | truncrow {T:Type} (i n e E:Nat) (enc:T→AV) (d:T) (xs xs':List T) (h:aA H i=.row e E enc d xs) (hn:n≤xs.length) (hx:xs.take n=xs'):LeB H ρ (.trunc i n) (.row e E enc d xs')
def Xi (ρ:Ren) (env:Env):Env→Prop
 | []=>True
 | (s,v')::r=>LeV ρ (lk env s) v'∧Xi ρ env r
def Ul (H:Heap) (ρ:Ren):Heap→Prop
 | []=>True
 | (j,b')::r=>(∃ s,ql ρ j=some s∧LeB H ρ s b')∧Ul H ρ r
def IQ:SrcId→Option Nat
 | .id i=>some i
 | .nil=>none
 | .trunc i _=>some i
def IE (nx:Nat):Ren→Bool
 | []=>true
 | (j,s)::r=>Nat.blt j nx&&(match IQ s with
  | none=>true
  | some i=>r.all fun p=>match IQ p.2 with
   | none=>true
   | some i'=>!(Nat.beq i i'))&&IE nx r
def TL (n:Nat):Value→Value
 | .slice a _ c=>.slice a n c
 | v=>v
def qO (ρ:Ren) (m:Ids):Ids:=fun j=>match ql ρ j with
 | none=>none
 | some (.id i)=>m i
 | some .nil=>some (.slice none 0 0)
 | some (.trunc i n)=>(m i).map (TL n)
theorem Pn {nx:Nat}:∀ {ρ:Ren},IE nx ρ=true→∀ j j' s s' i,ql ρ j=some s→ql ρ j'=some s'→IQ s=some i→IQ s'=some i→j=j'
 | [],_,j,j',s,s',i,h,_,_,_=>by simp [ql] at h
 | (k,t)::r,hr,j,j',s,s',i,h1,h2,e1,e2=>by
  simp only [IE,Bool.and_eq_true] at hr;obtain ⟨⟨_,hd⟩,hr⟩:=hr;have hin:∀ {ρ:Ren} {j:Nat} {s:SrcId},ql ρ j=some s→∃ p∈ρ,p.2=s:=by
   intro ρ;induction ρ with
   | nil=>intro j s h;simp [ql] at h
   | cons p ρ ih =>
    intro j s h;obtain ⟨a,b⟩:=p;simp only [ql] at h;split at h
    ·cases h;exact ⟨_,List.mem_cons_self,rfl⟩
    ·obtain ⟨p,hp,e⟩:=ih h;exact ⟨p,List.mem_cons.2 (.inr hp),e⟩
  simp only [ql] at h1 h2;split at h1<;>split at h2
  ·rename_i _ b1 _ b2;rw [← Nat.eq_of_beq_eq_true b1,← Nat.eq_of_beq_eq_true b2]
  ·cases h1;rw [e1] at hd;obtain ⟨p,hp,rfl⟩:=hin h2;have:=List.all_eq_true.1 hd p hp;rw [e2] at this;simp at this
  ·cases h2;rw [e2] at hd;obtain ⟨p,hp,rfl⟩:=hin h1;have:=List.all_eq_true.1 hd p hp;rw [e1] at this;simp at this
  ·exact Pn hr j j' s s' i h1 h2 e1 e2
theorem RI {nx:Nat}:∀ {ρ:Ren},IE nx ρ=true→∀ j s,ql ρ j=some s→j<nx
 | [],_,j,s,h=>by simp [ql] at h
 | (k,t)::r,hr,j,s,h=>by
  simp only [IE,Bool.and_eq_true] at hr;simp only [ql] at h;split at h
  ·rename_i b;rw [← Nat.eq_of_beq_eq_true b];simpa [Nat.blt_eq] using hr.1.1
  ·exact RI hr.2 j s h
theorem LeV1.rel {ρ:Ren} {m:Ids} {S:Blocks} {w:World} {v:Value} {a a':AV} (h:LeV1 ρ a a') (hr:RelV m S w v a):RelV (qO ρ m) S w v a':=by
 have hid:∀ {i j u},ql ρ j=some (.id i)→m i=some u→qO ρ m j=some u:=by
  intro i j u h hm;simp [qO,h,hm]
 cases h with
 | undef v=>exact .t _ _ (.undef _)
 | tree v v' h ht=>subst h;exact .t _ _ (hr.toT ht)
 | leT v v' h ht=>exact .t _ _ (h _ _ _ (hr.toT ht))
 | own i j h=>cases hr with
  | t _ _ h=>cases h
  | own id n cap a hm=>exact .own j n cap a (hid h hm)
 | nilown j h=>cases hr with
  | t _ _ h'=>cases h';exact .own j 0 0 none (by simp [qO,h])
 | trunc i n j h=>cases hr with
  | t _ _ h=>cases h
  | pre id len n' cap a hm hle=>exact .own j n cap a (by simp [qO,h,hm,TL])
 | pre i n n' j h hn=>subst hn;cases hr with
  | t _ _ h=>cases h
  | pre id len n' cap a hm hle=>exact .pre j n n' cap a (hid h hm) hle
 | ptr i j off h=>cases hr with
  | t _ _ h=>cases h
  | ptr id off g hm=>exact .ptr j off g (hid h hm)
 | map i j h=>cases hr with
  | t _ _ h=>cases h
  | map id r hm=>exact .map j r (hid h hm)
 | csl i n j h=>cases hr with
  | t _ _ h=>cases h
  | csl id n g hm=>exact .csl j n g (hid h hm)
theorem LeL.get {R:AV→AV→Prop} {l l':List AV} (h:LeL R l l'):l'.length=l.length∧∀ (j:Nat) (a':AV),l'[j]?=some a'→∃ a,l[j]?=some a∧R a a':=by
 induction h with
 | nil=>exact ⟨rfl,fun j a' h=>by simp at h⟩
 | cons h hl ih =>
  refine ⟨by simp [ih.1],fun j a' hj=>?_⟩;cases j with
  | zero=>simp at hj;subst hj;exact ⟨_,rfl,h⟩
  | succ j=>simpa using ih.2 j a' ni
theorem LeV.rel {ρ:Ren} {m:Ids} {S:Blocks} {w:World} {v:Value} {a a':AV} (h:LeV ρ a a') (hr:RelV m S w v a):RelV (qO ρ m) S w v a':=by
 cases h with
 | base h=>exact h.rel hr
 | fn f x y x' y' h h' =>
  obtain ⟨fs,cs,rfl,h1,h2,r1,r2⟩:=wO hr;obtain ⟨l1,g1⟩:=h.get;obtain ⟨l2,g2⟩:=h'.get;refine .fn f fs cs x' y' (by omega) (by omega) (fun j c a hj ha=>?_) (fun j c a hj ha=>?_)
  ·obtain ⟨a0,h0,hle⟩:=g1 j a ha;exact hle.rel (r1 j c a0 hj h0)
  ·obtain ⟨a0,h0,hle⟩:=g2 j a ha;exact hle.rel (r2 j c a0 hj h0)
 | agg l l' h =>
  obtain ⟨cs,rfl,h1,r1⟩:=pF hr;obtain ⟨l1,g1⟩:=h.get;refine .agg cs l' (by omega) (fun j c a hj ha=>?_);obtain ⟨a0,h0,hle⟩:=g1 j a ha;exact hle.rel (r1 j c a0 hj h0)
theorem RowRel.que {S:Blocks} {w:World} {e E:Nat} {l:List AV} {v:Value} {vs:List Value} (h:RowRel S w e E l v vs) (hn:l≠[]):∃ g cap cur,v=.slice (some ⟨g,0,none⟩) l.length cap∧QueRel S w e E l g 0 cap cur:=by
 rcases h.owns.2 with ⟨_,h0⟩ | ⟨g,cap,cur,hv,_,hh,hnc,hcm,hcs,htake⟩
 ·exact (hn (List.eq_nil_of_length_eq_zero h0)).elim
 ·refine ⟨g,cap,cur,hv,hh,hnc,hcm,by omega,h.size,h.ones,fun j c a hj ha=>h.rel j c a ?_ ha⟩;have hlt:=(List.getElem?_eq_some_iff.1 ha).1;rw [flat_length l h.size] at hlt;rw [← htake,List.getElem?_take,if_pos hlt];rw [Nat.zero_add] at hj;simpa using hj
theorem Hr {p:Prop} (h:p:=by rw [h];rfl):p:=h
theorem aaT {p:Prop}(h:p:=by
 subst hx;subst hx';have hb:=hG.rel i;rw [h] at hb;obtain ⟨r,en,clock,hm,hr,hl,hb1,_⟩:=hb;exact ⟨⟨r,en,clock,by rw [hid rfl];exact hm,hr,by simpa using hl,hb1,fun j x p _ hp=>by simp at hp⟩,fun _=>fin rfl Hr⟩):p:=h
theorem ada {p:Prop}(h:p:=by
 subst hx;have hb:=hG.rel i;rw [h] at hb;obtain ⟨r,en,clock,hm,hr⟩:=hb;exact ⟨⟨r,en,clock,by rw [hid rfl];exact hm,hr⟩,fun _=>fin rfl Hr⟩):p:=h
theorem adq {p:Prop}(h:p:=by
 have hm:qO ρ m j=some (.slice none 0 0):=by simp [qO,hs]
 refine ⟨⟨_,[],hm,⟨World.ownsRow_nil w 0 e E,by simp,by simp [flat],by simp⟩⟩,fun _ v k hv hk=>?_⟩;rw [hm] at hv;cases hv;simp [blk] at hk):p:=h
theorem ahb {p:Prop}(h:p:=by
 subst hx;have hb:=hG.rel i;rw [h] at hb;obtain ⟨v,vs,hm,hr⟩:=hb;obtain ⟨g,cap,cur,rfl,hq⟩:=hr.que (by simpa using hn);exact ⟨⟨g,0,cap,cur,by rw [hid rfl,hm,List.length_map],hq⟩,fun _=>fin rfl Hr⟩):p:=h
theorem ad2 {p:Prop}(h:p:=by
 subst hx;have hb:=hG.rel i;rw [h] at hb;obtain ⟨v,vs,hm,hr⟩:=hb;exact ⟨⟨v,vs,by rw [hid rfl];exact hm,hr⟩,fun _=>fin rfl Hr⟩):p:=h
theorem LeB.rel [Tabs] {H:Heap} {ρ:Ren} {m:Ids} {S:Blocks} {w:World} {s:SrcId} {b':AB} {j:Nat} (hG:Good m S w H) (hs:ql ρ j=some s) (h:LeB H ρ s b') :
  RelB (qO ρ m) S w j b'∧(b'.live=true→∀ v k,qO ρ m j=some v→blk v=some k→∃ i u,IQ s=some i∧(aA H i).live=true∧m i=some u∧blk u=some k):=by
 have hid:∀ {i:Nat},s=.id i→qO ρ m j=m i:=by
  intro i e;subst e;simp [qO,hs]
 have fin:∀ {i:Nat},s=.id i→(aA H i).live=true→∀ v k,qO ρ m j=some v→blk v=some k→∃ i u,IQ s=some i∧(aA H i).live=true∧m i=some u∧blk u=some k:=by
  intro i e hl v k hv hk;rw [hid e] at hv;subst e;exact ⟨i,v,rfl,hl,hv,hk⟩
 cases h with
 | dead s=>exact ⟨trivial,fun h=>by simp [AB.live] at h⟩
 | row i e E enc d xs xs' h hx =>
  exact ad2
 | lst i e E l l' h hx =>
  exact ad2
 | newsmap i ev dv es ev' dv' es' h hx hx' =>
  exact aaT
 | newimap i ev dv es k ev' dv' es' h hx hx' =>
  exact aaT
 | newgmap i ev dv es k ev' dv' es' h hx hx' =>
  exact aaT
 | lstrow i e E l enc d xs h hx =>
  have hb:=hG.rel i;rw [h] at hb;obtain ⟨v,vs,hm,hr⟩:=hb;rw [hx] at hr;exact ⟨⟨v,vs,by rw [hid rfl];exact hm,hr⟩,fun _=>fin rfl Hr⟩
 | cells i e l l' h hl h1 =>
  have hb:=hG.rel i;rw [h] at hb;obtain ⟨g,cs,hm,hg,hlen,hone,hr⟩:=hb;obtain ⟨l1,g1⟩:=hl.get;refine ⟨⟨g,cs,by rw [hid rfl];exact hm,hg,by omega,dZ h1,fun j c a hj ha=>?_⟩,fun _=>fin rfl Hr⟩;obtain ⟨a0,h0,hle⟩:=g1 j a ha;exact hle.rel (hr j c a0 hj h0)
 | smap i ev dv es es' h hx =>
  exact ada
 | imap i k ev dv es es' h hx =>
  exact ada
 | gmap i k ev dv es es' h hx =>
  exact ada
 | arr i e k n f f' h hx =>
  have hb:=hG.rel i;rw [h] at hb;obtain ⟨g,cs,hm,hg,hl,hr⟩:=hb;refine ⟨⟨g,cs,by rw [hid rfl];exact hm,hg,hl,fun j c hj=>?_⟩,fun _=>fin rfl Hr⟩;rw [← hx j (by have:=(Array.getElem?_eq_some_iff.1 hj).1;omega)];exact hr j c hj
 | que i e E enc d xs xs' h hx =>
  subst hx;have hb:=hG.rel i;rw [h] at hb;obtain ⟨g,o,cap,cur,hm,hr⟩:=hb;exact ⟨⟨g,o,cap,cur,by rw [hid rfl];exact hm,hr⟩,fun _=>fin rfl Hr⟩
 | rowque i e E enc d xs xs' h hx hn =>
  exact ahb
 | lstque i e E l enc d xs h hx hn =>
  exact ahb
 | rowT i e E s enc d xs h hlen hE h1 ht =>
  obtain ⟨v,vs,hm,hr⟩:=jB hG rfl h;exact ⟨⟨v,vs,by rw [hid rfl];exact hm,hr.leT hlen hE h1 ht⟩,fun _=>fin rfl (by rw [h];exact uf _ _ _)⟩
 | nilrow e E enc d xs hx =>
  subst hx;exact adq
 | nillst e E =>
  exact adq
 | truncrow i n e E enc d xs xs' h hn hx =>
  subst hx;have hb:=hG.rel i;rw [h] at hb;obtain ⟨v,vs,hm,hr⟩:=hb;obtain ⟨a,n0,c,rfl⟩:=oG hr;have hn0:n≤n0:=by
   have:=hr.n;cases this;simpa using hn
  have hm':qO ρ m j=some (.slice a n c):=by simp [qO,hs,hm,TL]
  refine ⟨⟨_,_,hm',by rw [List.map_take];exact hr.take hn0⟩,fun _ v k hv hk=>⟨i,_,rfl,by rw [h];rfl,hm,?_⟩⟩;rw [hm'] at hv;cases hv;cases a with
  | none=>simp [blk] at hk
  | some a=>exact hk
theorem E8 {H:Heap} {ρ:Ren}:∀ {H':Heap},Ul H ρ H'→∀ j,aA H' j=.dead∨∃ s,ql ρ j=some s∧LeB H ρ s (aA H' j)
 | [],_,j=>.inl rfl
 | (i,b)::r,h,j=>by
  rw [dX];split
  ·rename_i e;subst e;exact .inr h.1
  ·exact E8 h.2 j
theorem PS {ρ:Ren} {env:Env}:∀ {env':Env},Xi ρ env env'→∀ s,lk env' s=.undef∨LeV ρ (lk env s) (lk env' s)
 | [],_,s=>.inl rfl
 | (i,v)::r,h,s=>by
  rw [AY];split
  ·rename_i e;subst e;exact .inr h.1
  ·exact PS h.2 s
def Qm (ρ:Ren):Nat→Bool
 | 0=>true
 | n+1=>match ql ρ n with
  | some (.id i)=>match Nat.beq i n with
   | true=>Qm ρ n
   | false=>false
  | _=>false
theorem Ll {ρ:Ren}:∀ {n:Nat},Qm ρ n=true→∀ i,i<n→ql ρ i=some (.id i)
 | 0,_,i,h=>by omega
 | n+1,hp,i,h=>by
  unfold Qm at hp;split at hp
  ·rename_i j hj;split at hp
   ·rename_i hb;have:=Nat.eq_of_beq_eq_true hb;subst this;by_cases e:i=j
    ·subst e;exact hj
    ·exact Ll hp i (by omega)
   ·cases hp
  ·cases hp
theorem aj [Tabs] {pn N:Nat} {env env':Env} {H H':Heap} {nx nx':Nat} (ρ:Ren) (hρ0:(IE nx' ρ&&Qm ρ pn)=true) (he:Xi ρ env env') (hh:Ul H ρ H'):Wk pn N ⟨env,H,nx⟩ ⟨env',H',nx'⟩:=by
 rw [Bool.and_eq_true] at hρ0;obtain ⟨hρ,hpin⟩:=hρ0;rintro F a w hF ⟨m,S,hc,hs,hd,hr⟩;have hlive:∀ j,(aA H' j).live=true→∃ s,ql ρ j=some s∧LeB H ρ s (aA H' j):=by
  intro j hl;rcases E8 hh j with h | h
  ·rw [h] at hl;simp [AB.live] at hl
  ·exact h
 refine ⟨qO ρ m,S,⟨⟨fun j=>?_,?_,?_,hc.good.tab⟩,fun j hj=>?_,hc.far,?_,hc.ro,hc.ro0,fun i v hi=>by
  have h1:=Ll hpin i (hF i v hi);show qO ρ m i=some v;unfold qO;rw [h1];exact hc.pins i v hi⟩,hs,hd,fun s=>?_⟩
 ·rcases E8 hh j with h | ⟨s,h1,h2⟩
  ·rw [h];trivial
  ·exact (h2.rel hc.good h1).1
 ·intro i j vi vj k hli hlj hvi hvj hki hkj;obtain ⟨s1,a1,b1⟩:=hlive i hli;obtain ⟨s2,a2,b2⟩:=hlive j hlj;obtain ⟨i1,u1,c1,d1,e1,f1⟩:=(b1.rel hc.good a1).2 hli vi k hvi hki;obtain ⟨i2,u2,c2,d2,e2,f2⟩:=(b2.rel hc.good a2).2 hlj vj k hvj hkj;have:=hc.good.sep i1 i2 u1 u2 k d1 d2 e1 e2 f1 f2;subst this;exact Pn hρ i j s1 s2 i1 a1 a2 c1 c2
 ·intro g hg;refine ⟨(hc.good.ro g hg).1,fun i v hl hv hk=>?_⟩;obtain ⟨s1,a1,b1⟩:=hlive i hl;obtain ⟨i1,u1,c1,d1,e1,f1⟩:=(b1.rel hc.good a1).2 hl v g hv hk;exact (hc.good.ro g hg).2 i1 u1 d1 e1 f1
 ·simp only at hj;cases hk:ql ρ j with
  | none=>simp [qO,hk]
  | some s=>have:=RI hρ j s hk;omega
 ·rintro k ⟨i,v,hl,hv,hk⟩;obtain ⟨s1,a1,b1⟩:=hlive i hl;obtain ⟨i1,u1,c1,d1,e1,f1⟩:=(b1.rel hc.good a1).2 hl v k hv hk;exact hc.owns k ⟨i1,u1,d1,e1,f1⟩
 ·rcases PS he s with h | h
  ·simp only [h];exact .t _ _ (.undef _)
  ·exact h.rel (hr s)
def aa6 (H:Heap) (id off:Nat):AV :=
 match aA H id with
 | .cells _ l=>match rF l with
  | true=>.rop (sH off l)
  | false=>.ptr id off
 | _=>.ptr id off
def aaU (H:Heap) (id:Nat):AV :=
 match aA H id with
 | .smap ev dv es=>.rsmap ev dv es
 | .imap k ev dv es=>.rimap k ev dv es
 | .gmap k ev dv es=>.rgmap k ev dv es
 | _=>.map id
def EO (H:Heap) (ids:List Nat):AV→AV
 | .map id=>match mP id ids with
  | true=>.map id
  | false=>aaU H id
 | .own id=>match mP id ids with
  | true=>.own id
  | false=>J4 H (.own id)
 | .ptr id off=>match mP id ids with
  | true=>.ptr id off
  | false=>aa6 H id off
 | v=>v
def WI (H:Heap) (ids:List Nat):AV→AV
 | .agg l=>.agg (l.map (EO H ids))
 | .fn f a b=>.fn f (a.map (EO H ids)) (b.map (EO H ids))
 | v=>EO H ids v
def Wi (H:Heap) (ids:List Nat):AB→AB
 | .cells e l=>.cells e (l.map (EO H ids))
 | b=>b
def Eu (H:Heap) (ids:List Nat):Env→Env
 | []=>[]
 | (s,v)::r=>(s,WI H ids v)::Eu H ids r
def yZ (H:Heap) (ids:List Nat):Heap→Heap
 | []=>[]
 | (i,b)::r=>(i,Wi H ids b)::yZ H ids r
def iL:List Nat→Heap→Heap
 | [],H=>H
 | i::l,H=>(i,.dead)::iL l H
theorem rX {id:Nat}:∀ {l:List Nat},mP id l=false→id∈l
 | [],h=>by simp [mP] at h
 | j::l,h=>by
  unfold mP at h;split at h
  ·rename_i hb;rw [Nat.eq_of_beq_eq_true hb];exact List.mem_cons_self
  ·exact List.mem_cons.2 (.inr (rX h))
theorem PL (H:Heap) (ids:List Nat):∀ (env:Env) (s:Nat),lk (Eu H ids env) s=WI H ids (lk env s)
 | [],s=>rfl
 | (i,v)::r,s=>by
  rw [Eu,AY,AY,PL H ids r s];split<;>rfl
theorem KA (H:Heap) (ids:List Nat):∀ (H':Heap) (s:Nat),aA (yZ H ids H') s=Wi H ids (aA H' s)
 | [],s=>rfl
 | (i,v)::r,s=>by
  rw [yZ,dX,dX,KA H ids r s];split<;>rfl
theorem mO:∀ (ids:List Nat) (H:Heap) (s:Nat),aA (iL ids H) s=if s∈ids then .dead else aA H s
 | [],H,s=>by simp [iL]
 | i::l,H,s=>by
  rw [iL,dX,mO l H s];by_cases e:i=s
  ·subst e;simp
  ·rw [if_neg e];have:s≠i:=fun h=>e h.symm
   simp [this]
theorem Ci [Tabs] {m:Ids} {S:Blocks} {w:World} {H:Heap} {ids:List Nat} {u:Value} {v:AV} (hG:Good m S w H) (h:RelV m S w u v):RelV m (fun g=>S g∨lent m H ids g) w u (EO H ids v):=by
 have same:RelV m (fun g=>S g∨lent m H ids g) w u v:=h.mono (fun _ _ h=>h) (fun _ h=>.inl h) (fun _ _=>rfl);unfold EO;split
 ·rename_i id;split
  ·exact same
  ·rename_i hn;unfold aaU;split
   ·rename_i V ev dv es hc;have hb:=hG.rel id;rw [hc] at hb;obtain ⟨r,en,clock,hmi,hr',hlen,hst,hrel⟩:=hb;cases h with
    | t _ _ h=>cases h
    | map id r' hm =>
     rw [hmi] at hm;cases hm;exact .t _ _ (.rsmap ev dv es r clock en (.inr ⟨id,_,rX hn,by rw [hc];rfl,hmi,rfl⟩) hr' hlen hst (fun j x p h1 h2=>(hrel j x p h1 h2).1) (fun j x p h1 h2=>(hrel j x p h1 h2).2.more fun _ h=>.inl h))
   ·rename_i V k ev dv es hc;have hb:=hG.rel id;rw [hc] at hb;obtain ⟨r,en,clock,hmi,hr',hlen,hst,hrel⟩:=hb;cases h with
    | t _ _ h=>cases h
    | map id r' hm =>
     rw [hmi] at hm;cases hm;exact .t _ _ (.rimap k ev dv es r clock en (.inr ⟨id,_,rX hn,by rw [hc];rfl,hmi,rfl⟩) hr' hlen hst (fun j x p h1 h2=>(hrel j x p h1 h2).1) (fun j x p h1 h2=>(hrel j x p h1 h2).2.more fun _ h=>.inl h))
   ·rename_i V k ev dv es hc;have hb:=hG.rel id;rw [hc] at hb;obtain ⟨r,en,clock,hmi,hr',hlen,hst,hrel⟩:=hb;cases h with
    | t _ _ h=>cases h
    | map id r' hm =>
     rw [hmi] at hm;cases hm;exact .t _ _ (.rgmap k ev dv es r clock en (.inr ⟨id,_,rX hn,by rw [hc];rfl,hmi,rfl⟩) hr' hlen hst (fun j x p h1 h2=>(hrel j x p h1 h2).1) (fun j x p h1 h2=>(hrel j x p h1 h2).2.more fun _ h=>.inl h))
   ·exact same
 ·rename_i id;split
  ·exact same
  ·rename_i hn;exact JQ hG (fun _ _=>rfl) (fun _ h=>.inl h) (fun g ⟨i,v,hi,h1,h2,h3⟩=>.inr ⟨i,v,by
    simp only [sV,List.mem_singleton] at hi;subst hi;exact rX hn,h1,h2,h3⟩) h
 ·rename_i id off;split
  ·exact same
  ·rename_i hn;unfold aa6;split
   ·rename_i e l hc;split
    ·rename_i ht;have hb:=hG.rel id;rw [hc] at hb;obtain ⟨g,cs,hmi,hg,hl,h1,hrel⟩:=hb;cases h with
     | t _ _ h=>cases h
     | ptr id off g' hm =>
      rw [hmi] at hm;cases hm;rw [pG];refine .t _ _ (.rop g off (l.drop off) (cs.toList.drop off) (.inr ⟨id,_,rX hn,by rw [hc];rfl,hmi,rfl⟩) nC (fun a ha=>h1 a (List.mem_of_mem_drop ha)) (fun j c hj=>?_) (fun j c a hj ha=>?_))
      ·rw [List.getElem?_drop] at hj;rw [cell_of_row w g (off+j) cs e (0,0) hg];simpa using hj
      ·rw [List.getElem?_drop] at hj ha;refine RelT.more (fun _ h=>.inl h) ((hrel (off+j) c a ni ha).toT (vH ht a (List.mem_of_getElem? ha)))
    ·exact same
   ·exact same
 ·exact same
theorem adh (H:Heap) (ids:List Nat) (v:AV) (h:v.one=true):(EO H ids v).one=true:=by
 unfold EO;split
 ·split
  ·rfl
  ·unfold aaU;split<;>rfl
 ·split
  ·rfl
  ·simp only [J4];split<;>rfl
 ·split
  ·rfl
  ·unfold aa6;split
   ·split<;>rfl
   ·rfl
 ·exact h
theorem acZ [Tabs] {m:Ids} {S:Blocks} {w:World} {H:Heap} {ids:List Nat} {u:Value} {v:AV} (hG:Good m S w H) (h:RelV m S w u v):RelV m (fun g=>S g∨lent m H ids g) w u (WI H ids v):=by
 unfold WI;split
 ·rename_i l;obtain ⟨cs,rfl,hl,hr⟩:=pF h;refine .agg cs _ EL fun j c a hj ha=>?_
  simp only [List.getElem?_map,Option.map_eq_some_iff] at ha;obtain ⟨a0,ha0,rfl⟩:=ha;exact Ci hG (hr j c a0 hj ha0)
 ·rename_i f x y;obtain ⟨fs,cs,rfl,h1,h2,r1,r2⟩:=wO h;refine .fn f fs cs _ _ wF tJ (fun j c a hj ha=>?_) (fun j c a hj ha=>?_)
  ·simp only [List.getElem?_map,Option.map_eq_some_iff] at ha;obtain ⟨a0,ha0,rfl⟩:=ha;exact Ci hG (r1 j c a0 hj ha0)
  ·simp only [List.getElem?_map,Option.map_eq_some_iff] at ha;obtain ⟨a0,ha0,rfl⟩:=ha;exact Ci hG (r2 j c a0 hj ha0)
 ·exact Ci hG h
theorem O1 (H:Heap) (ids:List Nat) (b:AB):(Wi H ids b).live=b.live:=by cases b<;>rfl
theorem afM [Tabs] {F:Fr} {N:Nat} {env:Env} {H:Heap} {nx:Nat} {a:Act} {w:World} (ids:List Nat):Rel F N ⟨env,H,nx⟩ a w→Rel F N ⟨Eu H ids env,iL ids (yZ H ids H),nx⟩ a w:=by
 rintro ⟨m,S,hc,hs,hd,hr⟩;have hG:=hc.good;have hG1:=DL hG ids;have hlk:∀ i,aA (iL ids (yZ H ids H)) i=if i∈ids then .dead else Wi H ids (aA H i):=fun i=>by rw [mO,KA]
 have hlive:∀ i,(aA (iL ids (yZ H ids H)) i).live=(aA (ids.map (fun i=>(i,AB.dead))++H) i).live:=fun i=>by
  rw [hlk,yE];split
  ·rfl
  ·exact O1 H ids _
 have hlive0:∀ i,(aA (iL ids (yZ H ids H)) i).live=true→(aA H i).live=true:=fun i hl=>by
  rw [hlk] at hl;split at hl
  ·cases hl
  ·rwa [O1] at hl
 refine ⟨m,fun g=>S g∨lent m H ids g,⟨⟨fun id=>?_,fun i j vi vj k hi hj=>hG1.sep i j vi vj k (by rw [← hlive];exact hi) (by rw [← hlive];exact hj),fun g hg=>⟨(hG1.ro g hg).1,fun i v hl=>(hG1.ro g hg).2 i v (by rw [← hlive];exact hl)⟩,hG1.tab⟩,hc.free,hc.far,?_,?_,fun g hg=>.inl (hc.ro0 g hg),hc.pins⟩,hs,hd,fun s=>?_⟩
 ·have h0:=hG1.rel id;rw [yE] at h0;rw [hlk];split
  ·trivial
  ·rename_i hn;rw [if_neg hn] at h0;have h1:=hG.rel id;cases hb:aA H id with
   | cells e l =>
    rw [hb] at h1;obtain ⟨g,cs,hmi,hg,hl,hone,hrel⟩:=h1;refine ⟨g,cs,hmi,hg,by simpa using hl,fun x hx=>?_,fun j c a hj ha=>?_⟩
    ·obtain ⟨y,hy,rfl⟩:=List.mem_map.1 hx;exact adh H ids y (hone y hy)
    ·simp only [List.getElem?_map,Option.map_eq_some_iff] at ha;obtain ⟨a0,ha0,rfl⟩:=ha;exact Ci hG (hrel j c a0 hj ha0)
   | _=>rw [hb] at h0;exact h0
 ·rintro k ⟨i,v,hl,hm,hb⟩;exact hc.owns k ⟨i,v,hlive0 i hl,hm,hb⟩
 ·rintro g (hg | ⟨i,v,hi,h1,h2,h3⟩)
  ·exact hc.ro g hg
  ·exact .inr (hc.owns g ⟨i,v,h1,h2,h3⟩)
 ·show RelV m _ w (a.tmps.getD s undef) (lk (Eu H ids env) s);rw [PL];exact acZ hG (hr s)
theorem dY [Tabs] {pn N:Nat} {env:Env} {H:Heap} {nx:Nat} (ids:List Nat):Wk pn N ⟨env,H,nx⟩ ⟨Eu H ids env,iL ids (yZ H ids H),nx⟩ :=
 fun _ _ _ _ h=>afM ids h
structure Rec:Type 1 where
 o:Oper
 v:AV
 touch:List Nat
 wr:List (Nat×AB)
 n0:Nat
 n1:Nat
def X7 (dst:Option Nat) (v:AV) (env:Env):Env :=
 match dst with
 | none=>env
 | some d=>(d,v)::env
def pK (env:Env):List Rec→Env
 | []=>env
 | r::R=>X7 r.o.dst r.v (pK env R)
def sW (H:Heap):List Rec→Heap
 | []=>H
 | r::R=>r.wr++sW H R
def oK (nx:Nat):List Rec→Nat
 | []=>nx
 | r::_=>r.n1
def Want (ops:Array Oper) (env:Env) (o:Oper):Prop :=
 o.guard=none∨∃ j pol oj t,o.guard=some (j,pol)∧ops[j]?=some oj∧oj.dst=some t∧lk env t=.bool pol
def Skips (ops:Array Oper) (env:Env) (o:Oper):Prop :=
 ∃ j pol oj t,o.guard=some (j,pol)∧ops[j]?=some oj∧oj.dst=some t∧(lk env t=.bool (!pol)∨lk env t=.skip)
def Hist [Tabs] (C:Cx) (ops:Array Oper) (env:Env) (H:Heap) (nx:Nat):List Rec→Prop
 | []=>True
 | r::R=>Hist C ops env H nx R∧ops[R.length]?=some r.o∧(∀ d,r.o.dst=some d→d<C.N)∧r.n0=oK nx R∧r.n0≤r.n1 ∧
   ((Want ops (pK env R) r.o∧vg C.P C.px r.o (lZ (yA [] (pK env R)) r.o) (sW H R) r.n0 r.touch (fun r'=>r'=⟨r.v,r.touch,r.wr,r.n1⟩)) ∨
    (Skips ops (pK env R) r.o∧r.v=.skip∧r.wr=[]∧r.n1=r.n0))
abbrev OY:=List (Oper×List Nat×List Nat)
def Xc:List (Nat×AB)→(List Nat→Prop)→Prop
 | [],k=>k []
 | (i,_)::r,k=>Xc r fun l=>k (i::l)
theorem BR:∀ {wr:List (Nat×AB)} {k:List Nat→Prop},Xc wr k↔k (wr.map (·.1))
 | [],k=>Iff.rfl
 | (i,b)::r,k=>by simp only [Xc,BR,List.map_cons]
def Na (rd:Operand→AV) (c a b:Operand) (k:AV→Prop):Prop :=
 match rd c with
 | .bool cb=>(cb=true→k (rd a))∧(cb=false→k (rd b))
 | _=>False
theorem P_ [Tabs] {P:Program} {rd:Operand→AV} {H:Heap} {nx:Nat} {c x y:Operand} {o:Oper} (ho:o.op=.pick c x y) {k:Res→Prop} (h:Na rd c x y fun v=>k ⟨v,[],[],nx⟩) :
  ∃ r,cZ P o [(c,true,rd c),(x,true,rd x),(y,true,rd y)] H nx r∧(r.wr=[]∧r.nx=nx)∧k r:=by
 unfold Na at h;split at h
 ·rename_i cb hc;refine ⟨⟨if cb then rd x else rd y,[],[],nx⟩,bF fun m S w a H₂ hG ht hus=>?_,⟨rfl,rfl⟩,?_⟩
  ·have h1:=hus (c,true,rd c) (by simp) rfl;have h2:=hus (x,true,rd x) (by simp) rfl;have h3:=hus (y,true,rd y) (by simp) rfl;simp only [hc] at h1;have hv:=wU h1;cases cb with
   | true =>
    refine ⟨a.eval x,fun w' _=>?_,h2⟩;unfold execOp;simp [ho,hv,asBool]
   | false =>
    refine ⟨a.eval y,fun w' _=>?_,h3⟩;unfold execOp;simp [ho,hv,asBool]
  ·cases cb with
   | true=>exact h.1 rfl
   | false=>exact h.2 rfl
 ·exact h.elim
def ML [Tabs] (C:Cx) (rd:Operand→AV) (H:Heap) (nx:Nat) (o:Oper) (k:Res→Prop):Prop :=
 match o.op with
 | .pick c a b=>Na rd c a b fun v=>k ⟨v,[],[],nx⟩
 | _=>Rj C true none rd H nx o k
def Xr (dst:Option Nat) (v:AV) (env:Env) (k:Env→Prop):Prop :=
 match dst with
 | none=>k env
 | some d=>uJ v fun v=>k ((d,v)::env)
theorem Dk {dst:Option Nat} {v:AV} {env:Env} {k:Env→Prop}:Xr dst v env k↔k (X7 dst v env):=by
 cases dst with
 | none=>exact Iff.rfl
 | some d=>simp only [Xr,pz];rfl
def Xj [Tabs] (C:Cx) (all:List Oper) (env:Env) (H:Heap) (nx:Nat) (o:Oper) (next:AV→List Nat→List (Nat×AB)→Nat→Prop):Prop :=
 match o.guard with
 | none=>ML C (yA [] env) H nx o fun r=>match r with
  | ⟨v,touch,wr,nx'⟩=>next v touch wr nx'
 | some (j,pol)=>match all[j]? with
  | none=>False
  | some oj=>match oj.dst with
   | none=>False
   | some t=>match lk env t with
    | .skip=>next .skip [] [] nx
    | .bool b=>(b=pol→ML C (yA [] env) H nx o fun r=>match r with
      | ⟨v,touch,wr,nx'⟩=>next v touch wr nx')∧(b=!pol→next .skip [] [] nx)
    | _=>False
def Qj (all:List Oper) (env:Env) (g:Option (Nat×Bool)) (yes no:Prop):Prop :=
 match g with
 | none=>yes
 | some (j,pol)=>match all[j]? with
  | none=>False
  | some oj=>match oj.dst with
   | none=>False
   | some t=>match lk env t with
    | .skip=>no
    | .bool b=>(b=pol→yes)∧(b=!pol→no)
    | _=>False
theorem Jo {ops:Array Oper} {env:Env} {o:Oper} {yes no:Prop} (h:Qj ops.toList env o.guard yes no):(Want ops env o∧yes)∨(Skips ops env o∧no):=by
 unfold Qj at h;split at h
 ·rename_i hg;exact .inl ⟨.inl hg,h⟩
 ·rename_i j pol hg;split at h
  ·exact h.elim
  ·rename_i oj hj;have hj':ops[j]?=some oj:=by simpa using hj
   split at h
   ·exact h.elim
   ·rename_i t ht;split at h
    ·rename_i hl;exact .inr ⟨⟨j,pol,oj,t,hg,hj',ht,.inr hl⟩,h⟩
    ·rename_i b hl;by_cases e:b=pol
     ·subst e;exact .inl ⟨.inr ⟨j,b,oj,t,hg,hj',ht,hl⟩,h.1 rfl⟩
     ·have e':b=!pol:=by cases b<;>cases pol<;>simp_all
      subst e';exact .inr ⟨⟨j,pol,oj,t,hg,hj',ht,.inl hl⟩,h.2 rfl⟩
    ·exact h.elim
theorem Jp [Tabs] {C:Cx} {ops:Array Oper} {env:Env} {H:Heap} {nx:Nat} {o:Oper} {next:AV→List Nat→List (Nat×AB)→Nat→Prop} (h:Xj C ops.toList env H nx o next) :
  (Want ops env o∧ML C (yA [] env) H nx o fun r=>match r with | ⟨v,touch,wr,nx'⟩=>next v touch wr nx')∨(Skips ops env o∧next .skip [] [] nx):=by
 refine Jo ?_;unfold Xj at h;unfold Qj;exact h
def CG [Tabs] (C:Cx) (all:List Oper):List Oper→Env→Heap→Nat→OY→(OY→Env→Heap→Nat→Prop)→Prop
 | [],env,H,nx,sg,k=>k sg env H nx
 | o::rest,env,H,nx,sg,k=>match Aq C.N o.dst [] with
  | false=>False
  | true=>Xj C all env H nx o fun v touch wr nx'=>Xc wr fun ids=>Xr o.dst v env fun env'=>LH wr H fun H'=>CG C all rest env' H' nx' ((o,touch,ids)::sg) k
def yC (ops:List Oper) (o:Oper):List Nat:=(match o.guard with
 | none=>[]
 | some (j,_)=>match ops[j]? with
  | some oj=>oj.dst.toList
  | none=>[])++o.op.operands.toList.filterMap fun
 | .tmp t=>some t
 | _=>none
def meets (a b:List Nat):Bool:=a.any fun i=>b.any fun j=>Nat.beq i j
def Xb (d:Option Nat) (l:List Nat):Bool :=
 match d with
 | none=>false
 | some d=>l.any fun j=>Nat.beq d j
def NU (a b:Option Nat):Bool :=
 match a,b with
 | some d,some e=>Nat.beq d e
 | _,_=>false
def clash (ops:List Oper) (x y:Oper×List Nat×List Nat):Bool :=
 Xb x.1.dst (yC ops y.1)||Xb y.1.dst (yC ops x.1)||NU x.1.dst y.1.dst||meets x.2.2 y.2.1||meets x.2.2 y.2.2||meets y.2.2 x.2.1
def vw (ms:List Nat):List Edge→Nat
 | []=>0
 | e::r=>match Region.binds .any e with
  | true=>(2 ^ e.on ||| ms.getD e.on 0) ||| vw ms r
  | false=>vw ms r
def wY:List Oper→List Nat→List Nat
 | [],ms=>ms
 | o::r,ms=>wY r (ms++[vw ms o.after.toList])
def Hg (ops:List Oper) (m:Nat) (x:Oper×List Nat×List Nat):OY→Bool
 | []=>true
 | y::L=>(!clash ops y x||Nat.testBit m L.length)&&Hg ops m x L
def Gh (n:Nat):List Edge→Bool
 | []=>true
 | e::r=>(!Region.binds .any e||Nat.blt e.on n)&&Gh n r
def Wq (ops:List Oper) (ms:List Nat):OY→Bool
 | []=>true
 | x::L=>Gh L.length x.1.after.toList&&Hg ops (ms.getD L.length 0) x L&&Wq ops ms L
def NP (ops:Array Oper) (L:OY):Bool:=Wq ops.toList (wY ops.toList []) L
def Closed (ops:Array Oper) (E:Nat→Bool):Prop:=∀ (j:Nat) (o:Oper),ops[j]?=some o→E j=true→∀ e∈o.after,Region.binds .any e=true→E e.on=true
theorem Dv {ms:List Nat} {i:Nat}:∀ {l:List Edge},(vw ms l).testBit i=true→∃ e∈l,Region.binds .any e=true∧(e.on=i∨(ms.getD e.on 0).testBit i=true)
 | [],h=>by simp [vw] at h
 | e::l,h=>by
  unfold vw at h;split at h
  ·rename_i hb;simp only [Nat.testBit_or,Bool.or_eq_true] at h;rcases h with (h | h) | h
   ·refine ⟨e,by simp,hb,.inl ?_⟩;rw [Nat.testBit_two_pow] at h;simpa using h
   ·exact ⟨e,by simp,hb,.inr h⟩
   ·obtain ⟨e',h1,h2⟩:=Dv h;exact ⟨e',by simp [h1],h2⟩
  ·obtain ⟨e',h1,h2⟩:=Dv h;exact ⟨e',by simp [h1],h2⟩
theorem DK {ops:Array Oper} {E:Nat→Bool} (hE:Closed ops E):∀ (l:List Oper) (ms:List Nat),(∀ k,l[k]?=ops[ms.length+k]?) →
  (∀ j i,(ms.getD j 0).testBit i=true→(∀ o,ops[j]?=some o→∀ e∈o.after,Region.binds .any e=true→E e.on=true)→E i=true) →
  ∀ j i,((wY l ms).getD j 0).testBit i=true→(∀ o,ops[j]?=some o→∀ e∈o.after,Region.binds .any e=true→E e.on=true)→E i=true
 | [],ms,hl,h,j,i=>h j i
 | o::l,ms,hl,h,j,i=>by
  refine DK hE l _ (fun k=>?_) (fun j i hb hp=>?_) j i
  ·have:=hl (k+1);rw [List.getElem?_cons_succ] at this;rw [this];simp [Nat.add_assoc,Nat.add_comm 1 k]
  ·by_cases hj:j<ms.length
   ·have:(ms++[vw ms o.after.toList]).getD j 0=ms.getD j 0:=by simp [List.getD,List.getElem?_append_left hj]
    rw [this] at hb;exact h j i hb hp
   ·by_cases hj2:j=ms.length
    ·subst hj2;have:(ms++[vw ms o.after.toList]).getD ms.length 0=vw ms o.after.toList:=by simp [List.getD]
     rw [this] at hb;obtain ⟨e,he,hbe,hor⟩:=Dv hb;have ho:ops[ms.length]?=some o:=by have:=hl 0;simpa using this.symm
     have hon:=hp o ho e (by simpa using he) hbe;rcases hor with h1 | h1
     ·rw [← h1];exact hon
     ·exact h e.on i h1 fun o' ho' e' he' hb'=>hE e.on o' ho' hon e' he' hb'
    ·have:(ms++[vw ms o.after.toList]).getD j 0=0:=by
      rw [List.getD,List.getElem?_eq_none nC];rfl
     rw [this] at hb;simp at hb
def lay {X:Type _} (f:Rec→Option X) (x0:X) (E:Nat→Bool):List Rec→X
 | []=>x0
 | r::R=>match E R.length,f r with
  | true,some x=>x
  | _,_=>lay f x0 E R
theorem Jy {X:Type _} {f:Rec→Option X} {x0:X} {E:Nat→Bool} {r:Rec} {R:List Rec}:lay f x0 E (r::R)=match E R.length with | true=>(f r).getD (lay f x0 E R) | false=>lay f x0 E R:=by
 have e:lay f x0 E (r::R)=(match E R.length,f r with | true,some x=>x | _,_=>lay f x0 E R):=rfl;rw [e];cases E R.length<;>cases f r<;>rfl
theorem acA {X:Type _} {f:Rec→Option X} {x0:X} {E:Nat→Bool} {r:Rec} {R:List Rec} (h:f r≠none→E R.length=false):lay f x0 E (r::R)=lay f x0 E R:=by
 have e:lay f x0 E (r::R)=(match E R.length,f r with | true,some x=>x | _,_=>lay f x0 E R):=rfl;rw [e];cases hf:f r with
 | none=>cases E R.length<;>rfl
 | some x=>rw [h (by rw [hf];simp)]
theorem AP {X:Type _} {f:Rec→Option X} {x0:X} {E:Nat→Bool} {T:List Rec}:∀ {R:List Rec},T <:+ R→(∀ r B,(r::B) <:+ R→T.length≤B.length→f r≠none→E B.length=false)→lay f x0 E R=lay f x0 E T
 | [],hs,h=>by rw [List.suffix_nil.1 hs]
 | x::R,hs,h=>by
  rcases List.suffix_cons_iff.1 hs with rfl | hs'
  ·rfl
  ·rw [acA fun hf=>h x R (List.suffix_refl _) hs'.length_le hf];exact AP hs' fun r B hrB=>h r B (hrB.trans (List.suffix_cons _ _))
theorem wH {X:Type _} {f:Rec→Option X} {x0:X} {E E':Nat→Bool}:∀ {R:List Rec},(∀ r B,(r::B) <:+ R→f r≠none→E B.length=E' B.length)→lay f x0 E R=lay f x0 E' R
 | [],h=>rfl
 | x::R,h=>by
  have ih:lay f x0 E R=lay f x0 E' R:=wH fun r B hrB=>h r B (hrB.trans (List.suffix_cons _ _))
  show (match E R.length,f x with | true,some x=>x | _,_=>lay f x0 E R)=(match E' R.length,f x with | true,some x=>x | _,_=>lay f x0 E' R);rw [ih];cases hf:f x with
  | none=>cases E R.length<;>cases E' R.length<;>rfl
  | some y=>rw [h x R (List.suffix_refl _) (by rw [hf];simp)]
def fE (s:Nat) (r:Rec):Option AV :=
 match r.o.dst with
 | none=>none
 | some d=>if d=s then some r.v else none
def Dj:List (Nat×AB)→Nat→Option AB
 | [],_=>none
 | (i,b)::r,j=>if i=j then some b else Dj r j
def fH (id:Nat) (r:Rec):Option AB:=Dj r.wr id
theorem KY (wr:List (Nat×AB)) (H:Heap) (id:Nat):aA (wr++H) id=(Dj wr id).getD (aA H id):=by
 induction wr with
 | nil=>rfl
 | cons p wr ih =>
  obtain ⟨i,b⟩:=p;rw [List.cons_append,dX];unfold Dj;split
  ·rfl
  ·exact ih
theorem H7 {wr:List (Nat×AB)} {id:Nat} (h:Dj wr id≠none):id∈wr.map (·.1):=by
 induction wr with
 | nil=>exact (h rfl).elim
 | cons p wr ih =>
  obtain ⟨i,b⟩:=p;unfold Dj at h;split at h
  ·rename_i e;simp [e]
  ·simp [ih h]
theorem D9 (env:Env) (s:Nat):∀ (R:List Rec),lk (pK env R) s=lay (fE s) (lk env s) (fun _=>true) R
 | []=>rfl
 | r::R=>by
  rw [Jy,← D9 env s R];show lk (X7 r.o.dst r.v (pK env R)) s=(fE s r).getD (lk (pK env R) s);unfold X7 fE;cases hd:r.o.dst with
  | none=>rfl
  | some d =>
   simp only [AY];split<;>rfl
theorem CS (H:Heap) (id:Nat):∀ (R:List Rec),aA (sW H R) id=lay (fH id) (aA H id) (fun _=>true) R
 | []=>rfl
 | r::R=>by
  rw [Jy,← CS H id R];exact KY r.wr (sW H R) id
def fU (r:Rec):Oper×List Nat×List Nat:=(r.o,r.touch,r.wr.map (·.1))
theorem Ja {ops:List Oper} {m:Nat} {x:Oper×List Nat×List Nat}:∀ {R:List Rec},Hg ops m x (R.map fU)=true→∀ r B,(r::B) <:+ R→clash ops (fU r) x=true→Nat.testBit m B.length=true
 | [],_,r,B,hs,_=>by simp at hs
 | y::R,h,r,B,hs,hc=>by
  simp only [List.map_cons,Hg,Bool.and_eq_true,Bool.or_eq_true,List.length_map] at h;rcases List.suffix_cons_iff.1 hs with e | hs'
  ·cases e;rcases h.1 with h1 | h1
   ·rw [hc] at h1;cases h1
   ·exact h1
  ·exact Ja h.2 r B hs' hc
theorem GX {ops:List Oper} {ms:List Nat}:∀ {R:List Rec},Wq ops ms (R.map fU)=true→∀ r B,(r::B) <:+ R→Gh B.length r.o.after.toList=true∧Hg ops (ms.getD B.length 0) (fU r) (B.map fU)=true
 | [],_,r,B,hs=>by simp at hs
 | y::R,h,r,B,hs=>by
  simp only [List.map_cons,Wq,Bool.and_eq_true,List.length_map] at h;rcases List.suffix_cons_iff.1 hs with e | hs'
  ·cases e;exact h.1
  ·exact GX h.2 r B hs'
theorem Ji {n:Nat}:∀ {l:List Edge},Gh n l=true→∀ e∈l,Region.binds .any e=true→e.on<n
 | [],_,e,he,_=>by simp at he
 | x::l,h,e,he,hb=>by
  simp only [Gh,Bool.and_eq_true,Bool.or_eq_true] at h;rcases List.mem_cons.1 he with rfl | he
  ·rcases h.1 with h1 | h1
   ·rw [hb] at h1;cases h1
   ·simpa [Nat.blt_eq] using h1
  ·exact Ji h.2 e he hb
end Go.Own
