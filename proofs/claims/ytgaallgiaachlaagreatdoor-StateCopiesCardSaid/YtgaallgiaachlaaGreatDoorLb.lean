import Derived.Test.YtgaallgiaachlaaGreatDoorLa
import Derived.Laws.Build
import Derived.Laws.OwnMore
import Derived.Deep.Quiet
namespace Go.Own
def eqCell (T:Tab) (t:TypeId) (x y:AV) (k:Bool→Prop):Prop :=
 match lkT T t with
 | some ⟨.int q,_,_,_⟩=>match x with
  | .int q1 a=>match y with
   | .int q2 b=>match sameKind q q1 q2 with
    | true=>k (decide (a=b))
    | false=>False
   | _=>False
  | _=>False
 | some ⟨.string,_,_,_⟩=>match x with
  | .str a=>match y with
   | .str b=>k (decide (a=b))
   | _=>False
  | _=>False
 | some ⟨.bool,_,_,_⟩=>match x with
  | .bool a=>match y with
   | .bool b=>k (decide (a=b))
   | _=>False
  | _=>False
 | _=>False
def eqFsK (T:Tab):List Field→List AV→List AV→Nat→(Bool→Prop)→Prop
 | [],_,_,_,k=>k true
 | f::fs,xs,ys,j,k=>match xs with
  | []=>False
  | x::xs=>match ys with
   | []=>False
   | y::ys=>match Nat.beq f.offset j with
    | false=>False
    | true=>eqCell T f.type x y fun b=>eqFsK T fs xs ys (j+1) fun r=>k (b&&r)
theorem eqCell_sound {P:Program} {T:Tab} (hT:TabOk P T) {t:TypeId} {x y:AV} {k:Bool→Prop} (h:eqCell T t x y k) :
  ∃ b,k b∧(∀ (cs:Array Value) (off:Nat) (c:Value),cs[off]?=some c→∀ w,(part t cs off).run P w=.ok c w)∧∀ {m:Ids} {S:Blocks} {w:World} {c e:Value},RelV m S w c x→RelV m S w e y→∀ (d:Nat) (w':World),(Op.equalIn (d+1) t c e).run P w'=.ok b w':=by
 unfold eqCell at h
 split at h
 ·rename_i q a1 a2 a3 hi
  obtain ⟨hu,_⟩:=hT t _ hi
  have hpart:∀ (cs:Array Value) (off:Nat) (c:Value),cs[off]?=some c→∀ w,(part t cs off).run P w=.ok c w:=fun cs off c hc w=>by
   simp [part,isAgg,run_underlying hu,hc]
  split at h
  ·rename_i q1 a
   split at h
   ·rename_i q2 b
    split at h
    ·rename_i hq
     obtain ⟨rfl,rfl⟩:=sameKind_eq hq
     refine ⟨_,h,hpart,fun {m S w c e} h1 h2 d w'=>?_⟩
     rw [relV_int' h1,relV_int' h2,run_equalIn_int w' d t _ _ a b hu]
     by_cases e:a=b<;>simp [e]
    ·exact h.elim
   ·exact h.elim
  ·exact h.elim
 ·rename_i a1 a2 a3 hi
  obtain ⟨hu,_⟩:=hT t _ hi
  have hpart:∀ (cs:Array Value) (off:Nat) (c:Value),cs[off]?=some c→∀ w,(part t cs off).run P w=.ok c w:=fun cs off c hc w=>by
   simp [part,isAgg,run_underlying hu,hc]
  split at h
  ·rename_i a
   split at h
   ·rename_i b
    refine ⟨_,h,hpart,fun {m S w c e} h1 h2 d w'=>?_⟩
    obtain ⟨s1,rfl,rfl⟩:=relV_str' h1
    obtain ⟨s2,rfl,rfl⟩:=relV_str' h2
    rw [run_equalIn_string w' d t _ _ hu,ByteArray.toList_eq,ByteArray.toList_eq]
    have:(s1.data.toList == s2.data.toList)=decide (s1.data.toList=s2.data.toList):=by
     by_cases e:s1.data.toList=s2.data.toList
     ·simp [e]
     ·simp only [e,decide_false]
      exact beq_eq_false_iff_ne.2 e
    rw [this]
   ·exact h.elim
  ·exact h.elim
 ·rename_i a1 a2 a3 hi
  obtain ⟨hu,_⟩:=hT t _ hi
  have hpart:∀ (cs:Array Value) (off:Nat) (c:Value),cs[off]?=some c→∀ w,(part t cs off).run P w=.ok c w:=fun cs off c hc w=>by
   simp [part,isAgg,run_underlying hu,hc]
  split at h
  ·rename_i a
   split at h
   ·rename_i b
    refine ⟨_,h,hpart,fun {m S w c e} h1 h2 d w'=>?_⟩
    have e1:c=.bool a:=by cases h1 with | t _ _ h=>cases h;rfl
    have e2:e=.bool b:=by cases h2 with | t _ _ h=>cases h;rfl
    rw [e1,e2,run_equalIn_bool w' d t _ _ hu]
    cases a<;>cases b<;>rfl
   ·exact h.elim
  ·exact h.elim
 ·exact h.elim
theorem eqFsK_sound {P : Program} {T : Tab} (hT : TabOk P T) : ∀ (fs : List Field) (xs ys : List AV) (j : Nat) (k : Bool → Prop), eqFsK T fs xs ys j k → (∀ f ∈ fs, f.name ≠ "_") →
  ∃ b,k b∧∀ {m:Ids} {S:Blocks} {w:World} {cs es:Array Value},(∀ (i:Nat) (c:Value) (a:AV),cs[j+i]?=some c→xs[i]?=some a→RelV m S w c a)→(∀ (i:Nat) (c:Value) (a:AV),es[j+i]?=some c→ys[i]?=some a→RelV m S w c a) →
   cs.size=j+xs.length→es.size=j+ys.length→∀ (d:Nat) (w':World),(Op.eqFields (d+1) cs es fs).run P w'=.ok b w'
 | [],xs,ys,j,k,h,_=>⟨true,h,fun _ _ _ _ d w'=>rfl⟩
 | f::fs,[],ys,j,k,h,_=>h.elim
 | f::fs,x::xs,[],j,k,h,_=>h.elim
 | f::fs,x::xs,y::ys,j,k,h,hn=>by
  simp only [eqFsK] at h
  split at h
  ·exact h.elim
  ·rename_i hb
   have hoff:=Nat.eq_of_beq_eq_true hb
   obtain ⟨b,h,hpart,heq⟩:=eqCell_sound hT h
   obtain ⟨r,hk,hr⟩:=eqFsK_sound hT fs xs ys (j+1) _ h fun f hf=>hn f (by simp [hf])
   refine ⟨_,hk,fun {m S w cs es} h1 h2 hl1 hl2 d w'=>?_⟩
   simp at hl1 hl2
   obtain ⟨c,hc⟩:∃ c,cs[j]?=some c:=⟨_,Array.getElem?_eq_getElem (by omega)⟩
   obtain ⟨e,he⟩:∃ e,es[j]?=some e:=⟨_,Array.getElem?_eq_getElem (by omega)⟩
   have hname:=hn f (by simp)
   have hE:=heq (h1 0 c x (by rw [Nat.add_zero];exact hc) rfl) (h2 0 e y (by rw [Nat.add_zero];exact he) rfl) d w'
   have hrest:=hr (m:=m) (S:=S) (w:=w) (cs:=cs) (es:=es) (fun i c a p q=>h1 (i+1) c a zp49 zp45) (fun i c a p q=>h2 (i+1) c a zp49 zp45) (by omega) (by omega) d w'
   simp only [Op.eqFields,hname,ne_eq,not_false_eq_true,if_true,hoff,Sem.run_bind,hpart cs j _ hc w',hpart es j _ he w',Result.andThen_ok,hE]
   cases b with
   | false=>simp
   | true=>simpa using hrest
def evEqS (P:Program) (T:Tab) (neg:Bool) (t:TypeId) (xs:List AV) (y:AV) (k:AV→Prop):Prop :=
 match lkT T t with
 | some ⟨.struct fs,_,_,_⟩=>match y with
  | .agg ys=>(P.keyTypeAt 3 t=true∧P.eqGuardType P.depth t=false)∧eqFsK T fs.toList xs ys 0 fun b=>match neg with
   | true=>k (.bool (!b))
   | false=>k (.bool b)
  | _=>False
 | _=>False
theorem zp46 {p:Prop} (h:p:=by simpa using p):p:=h
theorem evEqS_sound [Tabs] {P:Program} {T:Tab} (hT:TabOk P T) {rd:Operand→AV} {H:Heap} {nx:Nat} {neg:Bool} {t yt:TypeId} {x y:Operand} {xs:List AV} {o:Oper} (ho:o.op=.binOp (if neg then .neq else .eql) t x y yt) (hx:rd x=.agg xs) {k:Res→Prop}
  (h:evEqS P T neg t xs (rd y) fun v=>k ⟨v,[],[],nx⟩):∃ r,OpSemP P o [(x,true,rd x),(y,true,rd y)] H nx r∧(r.wr=[]∧r.nx=nx)∧k r:=by
 unfold evEqS at h
 split at h
 ·rename_i fs a1 a2 a3 hi
  obtain ⟨hu,_⟩:=hT t _ hi
  split at h
  ·rename_i ys hy
   obtain ⟨⟨hkey,hgd⟩,h⟩:=h
   unfold Program.keyTypeAt at hkey
   simp only [hu,Bool.and_eq_true,Bool.not_eq_true',Array.all_eq_true_iff_forall_mem,bne_iff_ne,ne_eq] at hkey
   obtain ⟨⟨hnames,_⟩,hstood⟩:=hkey
   obtain ⟨b,hk,hb⟩:=eqFsK_sound hT fs.toList xs ys 0 _ h fun f hf=>(hnames f (by simpa using hf)).1
   have hfo:P.fieldsOf t=fs:=by simp [Program.fieldsOf,hu]
   refine ⟨⟨.bool (if neg then !b else b),[],[],nx⟩,opsem_pure fun m S w a H₂ hG ht hus=>?_,⟨rfl,rfl⟩,?_⟩
   ·have h1:RelV m S w (a.eval x) (rd x):=hus (x,true,rd x) (by simp) rfl
    have h2:RelV m S w (a.eval y) (rd y):=hus (y,true,rd y) (by simp) rfl
    rw [hx] at h1
    rw [hy] at h2
    obtain ⟨cs,hcs,hl1,r1⟩:=relV_agg h1
    obtain ⟨es,hes,hl2,r2⟩:=relV_agg h2
    refine ⟨.bool (if neg then !b else b),fun w' _=>?_,.t _ _ (.bool _)⟩
    have hf:=hb (m:=m) (S:=S) (w:=w) (cs:=cs) (es:=es) (fun i c a p q=>r1 i c a zp46 q) (fun i c a p q=>r2 i c a zp46 q) (by omega) (by omega) 9998 w'
    have heq:(Op.equalIn 10000 t (.agg cs) (.agg es)).run P w'=.ok b w':=by
     rw [run_equalIn_struct w' 9999 t cs es (by rw [hfo];exact hu) hstood,hfo]
     exact hf
    unfold execOp
    cases neg with
    | false=>simp [ho,hcs,hes,run_eqGuard_agg w' .eql t x y cs es hgd,run_eql_struct,heq]
    | true=>simp [ho,hcs,hes,run_eqGuard_agg w' .neq t x y cs es hgd,run_neq_struct,heq]
   ·cases neg<;>exact hk
  ·exact h.elim
 ·exact h.elim
def evNilS (neg:Bool) (x:AV) (k:AV→Prop):Prop :=
 match x with
 | .nils=>k (.bool (!neg))
 | .sl _ _ _ xs=>∀ b:Bool,((if neg then !b else b)=true→xs=[])→k (.bool b)
 | .lsl _ xs=>∀ b:Bool,((if neg then !b else b)=true→xs=[])→k (.bool b)
 | _=>False
theorem evNilS_sound [Tabs] {P:Program} {T:Tab} (hT:TabOk P T) {rd:Operand→AV} {H:Heap} {nx:Nat} {neg:Bool} {t yt e:TypeId} {s b:Nat} {z:Value} {x y:Operand} {o:Oper} (ho:o.op=.binOp (if neg then .neq else .eql) t x y yt) (hy:rd y=.nils)
  (hi:lkT T t=some ⟨.slice e,s,b,z⟩) {k:Res→Prop} (h:evNilS neg (rd x) fun v=>k ⟨v,[],[],nx⟩) :
  ∃ Rr,OpSemR P o [(x,true,rd x),(y,true,rd y)] H nx [] Rr∧∀ r,Rr r→nx≤r.nx∧k r:=by
 obtain ⟨hu,_⟩:=hT t _ hi
 have hu':P.underlying t=some (.slice e):=hu
 have run:∀ (a:Act) (w:World) (p:Option Addr) (n c:Nat),a.eval x=.slice p n c→a.eval y=.slice none 0 0→(execOp a.eval o).run P w=.ok (.value (.bool (if neg then !p.isNone else p.isNone))) w:=by
  intro a w p n c h1 h2
  have hg:∀ (op:BinOp),(eqGuard op t x y (.slice p n c) (.slice none 0 0)).run P w=.ok () w:=by
   intro op;unfold eqGuard;split<;>rfl
  unfold execOp
  cases neg with
  | false =>
   have he:(binOp .eql t (.slice p n c) (.slice none 0 0)).run P w=.ok (.bool p.isNone) w:=by
    simp only [binOp]
    simp [run_equal_slice_nil w t e p n c hu']
   simp [ho,h1,h2,hg,he]
  | true=>simp [ho,h1,h2,hg,run_neq_slice_nil w t e p n c hu']
 have nil:∀ {m:Ids} {S:Blocks} {w:World} {v:Value},RelV m S w v .nils→v=.slice none 0 0:=by
  intro m S w v h
  cases h with
  | t _ _ h=>cases h;rfl
 have lsl:∀ {m:Ids} {S:Blocks} {w:World} {v:Value} {E:Nat} {l:List AV},RelT S w v (.lsl E l)→∃ p n c,v=.slice p n c∧(p.isNone=true→l=[]):=by
  intro m S w v E l h
  rcases relT_lsl h with ⟨rfl | ⟨a,rfl⟩,hl⟩ | ⟨g',o',cap',cs,hv,_⟩
  ·exact ⟨none,0,0,rfl,fun _=>hl⟩
  ·exact ⟨_,0,0,rfl,fun _=>hl⟩
  ·exact ⟨_,_,_,hv,fun h=>by simp at h⟩
 have sem:∀ (Pb:Bool→Prop),(∀ (m:Ids) (S:Blocks) (w:World) (v:Value),RelV m S w v (rd x)→∃ p n c,v=.slice p n c∧Pb (if neg then !p.isNone else p.isNone)) →
   OpSemR P o [(x,true,rd x),(y,true,rd y)] H nx [] (fun r=>∃ b,Pb b∧r=⟨.bool b,[],[],nx⟩):=by
  intro Pb hp m S w a H₂ K Q hG ht hf hus hK
  have h1:RelV m S w (a.eval x) (rd x):=hus (x,true,rd x) (by simp) rfl
  have h2:RelV m S w (a.eval y) (rd y):=hus (y,true,rd y) (by simp) rfl
  rw [hy] at h2
  obtain ⟨p,n,c,hv,hb⟩:=hp m S w _ h1
  unfold Oper.wp
  rw [run a w p n c hv (nil h2),Oper.upon_value]
  exact hK _ ⟨_,hb,rfl⟩ _ m S w (Ext.refl hG nx) (.t _ _ (.bool _))
 unfold evNilS at h
 split at h
 ·rename_i hx
  refine ⟨_,sem (fun b=>b=!neg) fun m S w v hv=>?_,?_⟩
  ·rw [hx] at hv
   exact ⟨none,0,0,nil hv,by cases neg<;>rfl⟩
  ·rintro r ⟨b,rfl,rfl⟩
   exact ⟨Nat.le_refl _,h⟩
 ·rename_i V E enc d xs hx
  refine ⟨_,sem (fun b=>(if neg then !b else b)=true→xs=[]) fun m S w v hv=>?_,?_⟩
  ·rw [hx] at hv
   cases hv with
   | t _ _ h=>cases h with
    | sl E enc d xs v h =>
     obtain ⟨p,n,c,hp,hl⟩:=lsl (m:=m) h
     refine ⟨p,n,c,hp,fun hb=>?_⟩
     have:p.isNone=true:=by cases neg<;>simpa using hb
     simpa using hl this
  ·rintro r ⟨b,hb,rfl⟩
   exact ⟨Nat.le_refl _,h b hb⟩
 ·rename_i E xs hx
  refine ⟨_,sem (fun b=>(if neg then !b else b)=true→xs=[]) fun m S w v hv=>?_,?_⟩
  ·rw [hx] at hv
   cases hv with
   | t _ _ h =>
    obtain ⟨p,n,c,hp,hl⟩:=lsl (m:=m) h
    refine ⟨p,n,c,hp,fun hb=>?_⟩
    have:p.isNone=true:=by cases neg<;>simpa using hb
    exact hl this
  ·rintro r ⟨b,hb,rfl⟩
   exact ⟨Nat.le_refl _,h b hb⟩
 ·exact h.elim
def evBin2 (P:Program) (T:Tab) (g:Option Bool) (op:BinOp) (t:TypeId) (x y:AV) (c:AV→Prop):Prop :=
 match x with
 | .agg xs=>match op with
  | .eql=>evEqS P T false t xs y c
  | .neq=>evEqS P T true t xs y c
  | _=>False
 | _=>evBin T g op t x y c
theorem evBin2_sound [Tabs] {P:Program} {T:Tab} (hT:TabOk P T) {g:Option Bool} {rd:Operand→AV} {H:Heap} {nx:Nat} {op:BinOp} {t yt:TypeId} {x y:Operand} {o:Oper} (ho:o.op=.binOp op t x y yt) {k:Res→Prop}
  (h:evBin2 P T g op t (rd x) (rd y) fun v=>k ⟨v,[],[],nx⟩):∃ r,(gOk g→OpSemP P o [(x,true,rd x),(y,true,rd y)] H nx r)∧(r.wr=[]∧r.nx=nx)∧k r:=by
 unfold evBin2 at h
 split at h
 ·rename_i xs hx
  split at h
  ·obtain ⟨r,h1,h2⟩:=evEqS_sound (neg:=false) hT ho hx h
   exact ⟨r,fun _=>h1,h2⟩
  ·obtain ⟨r,h1,h2⟩:=evEqS_sound (neg:=true) hT ho hx h
   exact ⟨r,fun _=>h1,h2⟩
  ·exact h.elim
 ·exact evBin_sound hT ho h
def evBinW (P:Program) (T:Tab) (g:Option Bool) (op:BinOp) (t:TypeId) (x y:AV) (c:AV→Prop):Prop :=
 match op with
 | .add=>match x,y with
  | .int .i64 a,.int .i64 b=>c (.int .i64 (IntKind.i64.wrap (a+b)))
  | _,_=>evBin2 P T g op t x y c
 | .sub=>match x,y with
  | .int .i64 a,.int .i64 b=>c (.int .i64 (IntKind.i64.wrap (a-b)))
  | _,_=>evBin2 P T g op t x y c
 | .mul=>match x,y with
  | .int .i64 a,.int .i64 b=>c (.int .i64 (IntKind.i64.wrap (a*b)))
  | _,_=>evBin2 P T g op t x y c
 | _=>evBin2 P T g op t x y c
theorem evBinW_sound [Tabs] {P:Program} {T:Tab} (hT:TabOk P T) {g:Option Bool} {rd:Operand→AV} {H:Heap} {nx:Nat} {op:BinOp} {t yt:TypeId} {x y:Operand} {o:Oper} (ho:o.op=.binOp op t x y yt) {k:Res→Prop}
  (h:evBinW P T g op t (rd x) (rd y) fun v=>k ⟨v,[],[],nx⟩):∃ r,(gOk g→OpSemP P o [(x,true,rd x),(y,true,rd y)] H nx r)∧(r.wr=[]∧r.nx=nx)∧k r:=by
 have fin:∀ (op':BinOp) (f:Int→Int→Int) (a b:Int),op=op'→(∀ (w:World) (a b:Int),(binOp op' t (.int .i64 a) (.int .i64 b)).run P w=.ok (.int .i64 (IntKind.i64.wrap (f a b))) w)→rd x=.int .i64 a→rd y=.int .i64 b→k ⟨.int .i64 (IntKind.i64.wrap (f a b)),[],[],nx⟩ →
   ∃ r,(gOk g→OpSemP P o [(x,true,rd x),(y,true,rd y)] H nx r)∧(r.wr=[]∧r.nx=nx)∧k r:=by
  intro op' f a b hop hrun hx hy hk
  subst hop
  refine ⟨_,fun hg=>opsem_pure fun m S w act H₂ hG ht hus=>?_,⟨rfl,rfl⟩,hk⟩
  have h1:=hus (x,true,rd x) (by simp) rfl
  have h2:=hus (y,true,rd y) (by simp) rfl
  simp only [hx,hy] at h1 h2
  refine ⟨.int .i64 (IntKind.i64.wrap (f a b)),fun w' _=>?_,.t _ _ (.int _ _)⟩
  have guard:(eqGuard op t x y (.int .i64 a) (.int .i64 b)).run P w'=.ok () w':=by unfold eqGuard;split<;>rfl
  unfold execOp
  simp only [ho,relV_int h1,relV_int h2]
  simp only [Sem.run_bind,guard,Result.andThen_ok,hrun w' a b,Sem.run_pure]
 unfold evBinW at h
 split at h
 ·split at h
  ·rename_i a b hx hy
   exact fin .add (·+·) a b rfl (fun w a b=>by simp only [binOp,Op.intArith];simp) hx hy h
  ·exact evBin2_sound hT ho h
 ·split at h
  ·rename_i a b hx hy
   exact fin .sub (·-·) a b rfl (fun w a b=>by simp only [binOp,Op.intArith];simp) hx hy h
  ·exact evBin2_sound hT ho h
 ·split at h
  ·rename_i a b hx hy
   exact fin .mul (·*·) a b rfl (fun w a b=>by simp only [binOp,Op.intArith];simp) hx hy h
  ·exact evBin2_sound hT ho h
 ·exact evBin2_sound hT ho h
def nilD:AV→Option Bool
 | .nils=>some true
 | .lsl _ (_::_)=>some false
 | .sl _ _ _ (_::_)=>some false
 | _=>none
def evNilG (T:Tab) (op:BinOp) (t:TypeId) (x:AV) (k:AV→Prop):Prop :=
 match lkT T t with
 | some ⟨.slice _,_,_,_⟩=>match nilD x with
  | some b=>match op with
   | .eql=>k (.bool b)
   | .neq=>k (.bool (!b))
   | _=>False
  | none=>False
 | _=>False
theorem nilD_sound {m:Ids} {S:Blocks} {w:World} {v:Value} {a:AV} {b:Bool} (h:RelV m S w v a) (hd:nilD a=some b):∃ p n c,v=.slice p n c∧p.isNone=b:=by
 unfold nilD at hd
 split at hd
 ·cases hd
  cases h with
  | t _ _ h=>cases h;exact ⟨_,_,_,rfl,rfl⟩
 ·cases hd
  rcases relT_lsl (relV_lsl h) with ⟨_,hl⟩ | ⟨g',o',cap',cs,hv,_⟩
  ·cases hl
  ·exact ⟨_,_,_,hv,rfl⟩
 ·cases hd
  rcases relT_lsl (relV_sl h) with ⟨_,hl⟩ | ⟨g',o',cap',cs,hv,_⟩
  ·cases hl
  ·exact ⟨_,_,_,hv,rfl⟩
 ·cases hd
theorem evNilG_sound [Tabs] {P:Program} {T:Tab} (hT:TabOk P T) {rd:Operand→AV} {H:Heap} {nx:Nat} {op:BinOp} {t yt:TypeId} {x y:Operand} {o:Oper} (ho:o.op=.binOp op t x y yt) (hy:rd y=.nils) {k:Res→Prop}
  (h:evNilG T op t (rd x) fun v=>k ⟨v,[],[],nx⟩):∃ r,OpSemP P o [(x,true,rd x),(y,true,rd y)] H nx r∧(r.wr=[]∧r.nx=nx)∧k r:=by
 unfold evNilG at h
 split at h
 ·rename_i e s b z hi
  obtain ⟨hu,_⟩:=hT t _ hi
  have hu':P.underlying t=some (.slice e):=hu
  split at h
  ·rename_i b hb
   have main:∀ neg:Bool,op=(if neg then .neq else .eql)→k ⟨.bool (if neg then !b else b),[],[],nx⟩→∃ r,OpSemP P o [(x,true,rd x),(y,true,rd y)] H nx r∧(r.wr=[]∧r.nx=nx)∧k r:=by
    intro neg hop hk
    refine ⟨_,opsem_pure fun m S w a H₂ hG ht hus=>?_,⟨rfl,rfl⟩,hk⟩
    have hx:RelV m S w (a.eval x) (rd x):=hus (x,true,rd x) (by simp) rfl
    have hy':RelV m S w (a.eval y) (rd y):=hus (y,true,rd y) (by simp) rfl
    obtain ⟨p,n,c,h1,h3⟩:=nilD_sound hx hb
    have h2:a.eval y=.slice none 0 0:=by
     rw [hy] at hy'
     generalize a.eval y=v at hy'
     cases hy' with
     | t _ _ h=>cases h;rfl
    refine ⟨.bool (if neg then !b else b),fun w' _=>?_,.t _ _ (.bool _)⟩
    have hg:∀ (op:BinOp),(eqGuard op t x y (.slice p n c) (.slice none 0 0)).run P w'=.ok () w':=by
     intro op;unfold eqGuard;split<;>rfl
    unfold execOp
    cases neg with
    | false =>
     have he:(binOp .eql t (.slice p n c) (.slice none 0 0)).run P w'=.ok (.bool p.isNone) w':=by
      simp only [binOp]
      simp [run_equal_slice_nil w' t e p n c hu']
     simp [ho,hop,h1,h2,hg,he,h3]
    | true=>simp [ho,hop,h1,h2,hg,run_neq_slice_nil w' t e p n c hu',h3]
   split at h
   ·exact main false rfl h
   ·exact main true rfl h
   ·exact h.elim
  ·exact h.elim
 ·exact h.elim
def isNilI:Operand→Bool
 | .const .nilIface=>true
 | _=>false
def evNilI (T:Tab) (op:BinOp) (t:TypeId) (x:AV) (k:AV→Prop):Prop :=
 match lkT T t with
 | some ⟨.interface _,_,_,_⟩=>match x with
  | .ifc b=>match op with
   | .eql=>k (.bool b)
   | .neq=>k (.bool (!b))
   | _=>False
  | .ival _ _=>match op with
   | .eql=>k (.bool false)
   | .neq=>k (.bool true)
   | _=>False
  | _=>False
 | _=>False
theorem zt83 {p:Prop}(h:p:=by
 unfold Op.equal Op.maxDepth
 rw [Op.equalIn]
 simp [run_underlying hu']):p:=h
theorem evNilI_sound [Tabs] {P:Program} {T:Tab} (hT:TabOk P T) {rd:Operand→AV} {H:Heap} {nx:Nat} {op:BinOp} {t yt:TypeId} {x y:Operand} {o:Oper} (ho:o.op=.binOp op t x y yt) (hy:isNilI y=true) {k:Res→Prop}
  (h:evNilI T op t (rd x) fun v=>k ⟨v,[],[],nx⟩):∃ r,OpSemP P o [(x,true,rd x),(y,true,rd y)] H nx r∧(r.wr=[]∧r.nx=nx)∧k r:=by
 have hyc:y=.const .nilIface:=by
  unfold isNilI at hy
  split at hy
  ·rfl
  ·cases hy
 subst hyc
 unfold evNilI at h
 split at h
 ·rename_i ms s b0 z hi
  obtain ⟨hu,_⟩:=hT t _ hi
  have hu':P.underlying t=some (.interface ms):=hu
  have eq0:∀ w':World,(Op.equal t .nilIface .nilIface).run P w'=.ok true w':=fun w'=>by
   exact zt83
  have eq1:∀ (w':World) (u:TypeId) (v:Value),(Op.equal t (.iface u v) .nilIface).run P w'=.ok false w':=fun w' u v=>by
   exact zt83
  have main:∀ (b:Bool),(∀ (m:Ids) (S:Blocks) (w:World) (v:Value),RelV m S w v (rd x)→(v=.nilIface∧b=true)∨(∃ u q,v=.iface u q)∧b=false)→∀ neg:Bool,op=(if neg then .neq else .eql)→k ⟨.bool (if neg then !b else b),[],[],nx⟩→∃ r,OpSemP P o [(x,true,rd x),(.const .nilIface,true,rd (.const .nilIface))] H nx r∧(r.wr=[]∧r.nx=nx)∧k r:=by
   intro b hb neg hop hk
   refine ⟨_,opsem_pure fun m S w a H₂ hG ht hus=>?_,⟨rfl,rfl⟩,hk⟩
   have hx:RelV m S w (a.eval x) (rd x):=hus (x,true,rd x) (by simp) rfl
   refine ⟨.bool (if neg then !b else b),fun w' _=>?_,.t _ _ (.bool _)⟩
   have h2:a.eval (.const .nilIface)=.nilIface:=rfl
   have hx:=hb m S w _ hx
   generalize hv:a.eval x=v at hx
   have hg:∀ (op:BinOp),(eqGuard op t x (.const .nilIface) .nilIface .nilIface).run P w'=.ok () w':=by
    intro op;cases op<;>cases x<;>rfl
   have hg1:∀ (op:BinOp) (u:TypeId) (q:Value),(eqGuard op t x (.const .nilIface) (.iface u q) .nilIface).run P w'=.ok () w':=by
    intro op u q;cases op<;>rfl
   unfold execOp
   rcases hx with ⟨rfl,rfl⟩ | ⟨⟨u,q,rfl⟩,rfl⟩
   ·cases neg<;>simp [ho,hop,hv,h2,hg,binOp,eq0]
   ·cases neg<;>simp [ho,hop,hv,h2,hg1,binOp,eq1]
  split at h
  ·rename_i b hb
   have hb':∀ (m:Ids) (S:Blocks) (w:World) (v:Value),RelV m S w v (rd x)→(v=.nilIface∧b=true)∨(∃ u q,v=.iface u q)∧b=false:=by
    intro m S w v hx
    rw [hb] at hx
    cases hx with
    | t _ _ hx=>cases hx with
     | ifc0=>exact .inl ⟨rfl,rfl⟩
     | ifc1 u v=>exact .inr ⟨⟨u,v,rfl⟩,rfl⟩
   split at h
   ·exact main b hb' false rfl h
   ·exact main b hb' true rfl h
   ·exact h.elim
  ·rename_i u l hb
   have hb':∀ (m:Ids) (S:Blocks) (w:World) (v:Value),RelV m S w v (rd x)→(v=.nilIface∧false=true)∨(∃ u q,v=.iface u q)∧false=false:=by
    intro m S w v hx
    rw [hb] at hx
    cases hx with
    | t _ _ hx=>cases hx with
     | ival u cs l hl h=>exact .inr ⟨⟨u,_,rfl⟩,rfl⟩
   split at h
   ·exact main false hb' false rfl h
   ·exact main false hb' true rfl h
   ·exact h.elim
  ·exact h.elim
 ·exact h.elim
def ptrNil:AV→Option Bool
 | .ptr _ _=>some false
 | .rop _=>some false
 | .eptr _ _ _ _=>some false
 | .nilp=>some true
 | _=>none
def evNilP (T:Tab) (op:BinOp) (t:TypeId) (x:AV) (k:AV→Prop):Prop :=
 match lkT T t with
 | some ⟨.pointer _,_,_,_⟩=>match ptrNil x with
  | some b=>match op with
   | .eql=>k (.bool b)
   | .neq=>k (.bool (!b))
   | _=>False
  | _=>False
 | _=>False
def isNilX:Operand→Bool
 | .const .nilIface=>true
 | .const (.pointer none)=>true
 | _=>false
def evNilX (T:Tab) (op:BinOp) (t:TypeId) (y:Operand) (x:AV) (k:AV→Prop):Prop :=
 match y with
 | .const .nilIface=>evNilI T op t x k
 | .const (.pointer none)=>evNilP T op t x k
 | _=>False
theorem ptrNil_sound {m:Ids} {S:Blocks} {w:World} {v:Value} {x:AV} {b:Bool} (h:RelV m S w v x) (hb:ptrNil x=some b):(b=true∧v=.pointer none)∨(b=false∧∃ a,v=.pointer (some a)):=by
 cases x<;>simp only [ptrNil,Option.some.injEq,reduceCtorEq] at hb
 case nilp =>
  cases h with
  | t _ _ h=>cases h;exact .inl ⟨hb.symm,rfl⟩
 case rop =>
  cases h with
  | t _ _ h=>cases h;exact .inr ⟨hb.symm,_,rfl⟩
 case ptr =>
  cases h with
  | t _ _ h=>cases h
  | ptr=>exact .inr ⟨hb.symm,_,rfl⟩
 case eptr =>
  cases h with
  | t _ _ h=>cases h
  | eptr=>exact .inr ⟨hb.symm,_,rfl⟩
theorem evNilP_sound [Tabs] {P:Program} {T:Tab} (hT:TabOk P T) {rd:Operand→AV} {H:Heap} {nx:Nat} {op:BinOp} {t yt:TypeId} {x:Operand} {o:Oper} (ho:o.op=.binOp op t x (.const (.pointer none)) yt) {k:Res→Prop}
  (h:evNilP T op t (rd x) fun v=>k ⟨v,[],[],nx⟩):∃ r,OpSemP P o [(x,true,rd x),(.const (.pointer none),true,rd (.const (.pointer none)))] H nx r∧(r.wr=[]∧r.nx=nx)∧k r:=by
 unfold evNilP at h
 split at h
 ·rename_i el s b0 z hi
  obtain ⟨hu,_⟩:=hT t _ hi
  have hu':P.underlying t=some (.pointer el):=hu
  split at h
  ·rename_i b hb
   have eq0:∀ w':World,(Op.equal t (.pointer none) (.pointer none)).run P w'=.ok true w':=fun w'=>by
    exact zt83
   have eq1:∀ (w':World) (a:Addr),(Op.equal t (.pointer (some a)) (.pointer none)).run P w'=.ok false w':=fun w' a=>by
    exact zt83
   have main:∀ neg:Bool,op=(if neg then .neq else .eql)→k ⟨.bool (if neg then !b else b),[],[],nx⟩→∃ r,OpSemP P o [(x,true,rd x),(.const (.pointer none),true,rd (.const (.pointer none)))] H nx r∧(r.wr=[]∧r.nx=nx)∧k r:=by
    intro neg hop hk
    refine ⟨_,opsem_pure fun m S w a H₂ hG ht hus=>?_,⟨rfl,rfl⟩,hk⟩
    have hx:RelV m S w (a.eval x) (rd x):=hus (x,true,rd x) (by simp) rfl
    refine ⟨.bool (if neg then !b else b),fun w' _=>?_,.t _ _ (.bool _)⟩
    have h2:a.eval (.const (.pointer none))=.pointer none:=rfl
    have hv:=ptrNil_sound hx hb
    generalize he:a.eval x=v at hv
    have hg:∀ (op:BinOp) (u:Option Addr),(eqGuard op t x (.const (.pointer none)) (.pointer u) (.pointer none)).run P w'=.ok () w':=by
     intro op u;cases op<;>rfl
    unfold execOp
    rcases hv with ⟨rfl,rfl⟩ | ⟨rfl,u,rfl⟩
    ·cases neg<;>simp [ho,hop,he,h2,hg,binOp,eq0]
    ·cases neg<;>simp [ho,hop,he,h2,hg,binOp,eq1]
   split at h
   ·exact main false rfl h
   ·exact main true rfl h
   ·exact h.elim
  ·exact h.elim
 ·exact h.elim
theorem evNilX_sound [Tabs] {P:Program} {T:Tab} (hT:TabOk P T) {rd:Operand→AV} {H:Heap} {nx:Nat} {op:BinOp} {t yt:TypeId} {x y:Operand} {o:Oper} (ho:o.op=.binOp op t x y yt) {k:Res→Prop}
  (h:evNilX T op t y (rd x) fun v=>k ⟨v,[],[],nx⟩):∃ r,OpSemP P o [(x,true,rd x),(y,true,rd y)] H nx r∧(r.wr=[]∧r.nx=nx)∧k r:=by
 unfold evNilX at h
 split at h
 ·exact evNilI_sound hT ho rfl h
 ·exact evNilP_sound hT ho h
 ·exact h.elim
def evUnW (g:Option Bool) (op:UnOp) (x:AV) (c:AV→Prop):Prop :=
 match op,x with
 | .neg,.int .i64 n=>c (.int .i64 (IntKind.i64.wrap (0-n)))
 | _,_=>evUn g op x c
theorem evUnW_sound [Tabs] {P:Program} {g:Option Bool} {rd:Operand→AV} {H:Heap} {nx:Nat} {op:UnOp} {t:TypeId} {x:Operand} {o:Oper} (ho:o.op=.unOp op t x) {k:Res→Prop}
  (h:evUnW g op (rd x) fun v=>k ⟨v,[],[],nx⟩):∃ r,(gOk g→OpSemP P o [(x,true,rd x)] H nx r)∧(r.wr=[]∧r.nx=nx)∧k r:=by
 unfold evUnW at h
 split at h
 ·rename_i n hp
  refine ⟨_,fun hg=>opsem_pure fun m S w a H₂ hG ht hus=>?_,⟨rfl,rfl⟩,h⟩
  have hx:RelV m S w (a.eval x) (rd x):=hus (x,true,rd x) (by simp) rfl
  rw [hp] at hx
  exact ⟨.int .i64 (IntKind.i64.wrap (0-n)),fun w' _=>by unfold execOp;simp only [ho,relV_int hx,Op.unary,Op.intArith];rfl,.t _ _ (.int _ _)⟩
 ·exact evUn_sound ho h
inductive AR:Type 1 where
 | val (a:AV)
 | new (b:AB)
def RelR (S:Blocks) (w:World) (B:Nat) (v:Value):AR→Prop
 | .val a=>RelT S w v a
 | .new b=>b.live=true∧(∀ k,blk v=some k→B≤k)∧∀ n,RelB (fun i=>if i=n then some v else none) S w n b
def retVal:List Value→Value
 | [v]=>v
 | vs=>.tuple vs.toArray
structure Left (S:Blocks) (w:World) (us:List Value) (rs:List AR) (S':Blocks) (w':World):Prop where
 len:us.length=rs.length
 rel:∀ (j:Nat) (u:Value) (r:AR),us[j]?=some u→rs[j]?=some r→RelR S' w' w.heap.size u r
 below:RowKit.Below w.heap.size w w'
 ros:∀ g,S g→S' g
 fresh:∀ g,S' g→S g∨w.heap.size≤g
 lt:∀ g,S' g→g<w'.heap.size
 apart:∀ (i:Nat) (u:Value) (b:AB) (k:Nat),us[i]?=some u→rs[i]?=some (.new b)→blk u=some k→¬ S' k ∧
  ∀ (j:Nat) (u':Value) (b':AB),us[j]?=some u'→rs[j]?=some (.new b')→blk u'=some k→i=j
def FnOk (P : Program) (f : FuncId) : Prop := ∃ fn, P.funcs[f]? = some fn ∧ fn.body.isSome = true ∧ (fn.name == "runtime.NumGoroutine") = false
def RelTs (S:Blocks) (w:World) (vs:List Value) (args:List AV):Prop :=
 vs.length=args.length∧∀ (j:Nat) (v:Value) (a:AV),vs[j]?=some v→args[j]?=some a→RelT S w v a
def APure [Tabs] (P:Program) (f:FuncId) (args:List AV) (R:List AR→Prop):Prop :=
 FnOk P f∧∀ (S:Blocks) (w:World) (vs:List Value),(∀ g,S g→g<w.heap.size)→TabAt S w→RelTs S w vs args →
  Calls P f vs.toArray w fun e w'=>∃ us rs S',e=.returned (retVal us)∧R rs∧Left S w us rs S' w'
abbrev APureV [Tabs] (P:Program) (f:FuncId) (args:List AV) (v:AV):Prop:=APure P f args (fun rs=>rs=[.val v])
theorem APure.mono [Tabs] {P:Program} {f:FuncId} {args:List AV} {R R':List AR→Prop} (h:APure P f args R) (hr:∀ rs,R rs→R' rs):APure P f args R' :=
 ⟨h.1,fun S w vs hS hT hv=>(h.2 S w vs hS hT hv).mono fun _ _ ⟨us,rs,S',he,hR,hl⟩=>⟨us,rs,S',he,hr _ hR,hl⟩⟩
def treesB:List AV→Bool
 | []=>true
 | a::l=>match a.tree with
  | true=>treesB l
  | false=>false
theorem treesB_spec:∀ {l:List AV},treesB l=true→∀ a∈l,a.tree=true
 | [],_,a,h=>by simp at h
 | b::l,h,a,ha=>by
  unfold treesB at h
  split at h
  ·rename_i hb
   rcases List.mem_cons.1 ha with rfl | ha
   ·exact hb
   ·exact treesB_spec h a ha
  ·cases h
inductive Bor (H:Heap):AV→AV→List Nat→Prop
 | same (a:AV) (h:a.tree=true):Bor H a a []
 | lsl {T:Type} (E:Nat) (l:List AV) (enc:T→AV) (d:T) (xs:List T) (h:l=xs.map enc):Bor H (.lsl E l) (.sl E enc d xs) []
 | nils {T:Type} (E:Nat) (enc:T→AV) (d:T):Bor H .nils (.sl E enc d []) []
 | nill (E:Nat):Bor H .nils (.lsl E []) []
 | row {T:Type} (id e E:Nat) (enc:T→AV) (d:T) (xs:List T) (h:lkH H id=.row e E enc d xs):Bor H (.own id) (.sl E enc d xs) [id]
 | lst (id e E:Nat) (l:List AV) (h:lkH H id=.lst e E l):Bor H (.own id) (.lsl E l) [id]
 | lstrow {T:Type} (id e E:Nat) (l:List AV) (enc:T→AV) (d:T) (xs:List T) (h:lkH H id=.lst e E l) (hl:l=xs.map enc):Bor H (.own id) (.sl E enc d xs) [id]
 | pre {T:Type} (id n e E:Nat) (enc:T→AV) (d:T) (xs:List T) (h:lkH H id=.row e E enc d xs):Bor H (.pre id n) (.sl E enc d (xs.take n)) [id]
 | part {T:Type} (id off n e E:Nat) (enc:T→AV) (d:T) (xs:List T) (h:lkH H id=.row e E enc d xs):Bor H (.part id E off n) (.sl E enc d ((xs.drop off).take n)) [id]
 | smap {V:Type} (id:Nat) (ev:V→AV) (dv:V) (es:List (List UInt8×V)) (h:lkH H id=.smap ev dv es):Bor H (.map id) (.rsmap ev dv es) [id]
 | imap {V:Type} (id:Nat) (k:IntKind) (ev:V→AV) (dv:V) (es:List (Int×V)) (h:lkH H id=.imap k ev dv es):Bor H (.map id) (.rimap k ev dv es) [id]
 | gmap {V:Type} (id:Nat) (k:List KK) (ev:V→AV) (dv:V) (es:List (List KV×V)) (h:lkH H id=.gmap k ev dv es):Bor H (.map id) (.rgmap k ev dv es) [id]
 | boxt (id e:Nat) (l:List AV) (h:lkH H id=.cells e l) (ht:treesB l=true) (h1:allOne l=true):Bor H (.ptr id 0) (.rop l) [id]
inductive BorL (B:AV→AV→List Nat→Prop):List AV→List AV→List Nat→Prop
 | nil:BorL B [] [] []
 | cons {a a':AV} {l l':List AV} {t t':List Nat} (h:B a a' t) (hl:BorL B l l' t'):BorL B (a::l) (a'::l') (t++t')
inductive Bor1 (H:Heap) (B:AV→AV→List Nat→Prop):AV→AV→List Nat→Prop
 | base {a a':AV} {t:List Nat} (h:B a a' t):Bor1 H B a a' t
 | box (id off e:Nat) (l l':List AV) (t:List Nat) (h:lkH H id=.cells e l) (hl:BorL B (l.drop off) l' t) (h1:∀ a∈l',a.one=true):Bor1 H B (.ptr id off) (.rop l') (id::t)
 | fn (f:Fn) (a b a' b':List AV) (t t':List Nat) (h:BorL B a a' t) (h':BorL B b b' t'):Bor1 H B (.fn f a b) (.fn f a' b') (t++t')
 | agg (l l':List AV) (t:List Nat) (h:BorL B l l' t):Bor1 H B (.agg l) (.agg l') t
def lent (m:Ids) (H:Heap) (touch:List Nat):Blocks:=fun g=>∃ id v,id∈touch∧(lkH H id).live=true∧m id=some v∧blk v=some g
def BorOk [Tabs] (H:Heap) (B:AV→AV→List Nat→Prop):Prop :=
 ∀ a a' touch,B a a' touch→∀ (m:Ids) (S:Blocks) (w:World) (H₂:Heap) (S₂:Blocks) (v:Value),Good m S w H₂→(∀ id∈touch,lkH H₂ id=lkH H id)→(∀ g,S g→S₂ g)→(∀ g,lent m H₂ touch g→S₂ g) →
  RelV m S w v a→RelT S₂ w v a'
theorem RelT.more {S S':Blocks} {w:World} (hS:∀ g,S g→S' g) {v:Value} {a:AV} (h:RelT S w v a):RelT S' w v a:=h.mono hS (fun _ _=>rfl)
theorem RowRel.lent {S S₂:Blocks} {w:World} {e E:Nat} {l:List AV} {v:Value} {vs:List Value} (h:RowRel S w e E l v vs) (hS:∀ g,S g→S₂ g) (hl:∀ g,blk v=some g→S₂ g):RelT S₂ w v (.lsl E l):=by
 obtain ⟨hlen,ho⟩:=h.owns
 rcases ho with ⟨rfl,h0⟩ | ⟨g,cap,cur,rfl,_,hh,hnc,hcm,hcs,htake⟩
 ·have:l=[]:=List.eq_nil_of_length_eq_zero h0
  subst this
  exact .lslnil E
 ·refine .lsl E l g 0 cap vs (hl g rfl) hnc h.size h.ones hlen (fun j c hj=>?_) (fun j c a hj ha=>(h.rel j c a hj ha).more hS)
  have:=h.owns.cells (g:=g) rfl j c hj
  rwa [Addr.add_mid] at this
theorem zt84 {p:Prop}(h:p:=by
 have:=RelT.lsl (S:=S₂) (w:=w) E [] g (off*E) c [] (hl g ⟨id,_,by simp,by rw [ht id (by simp),h];rfl,hmi,rfl⟩) (by simp) (by simp) (by simp [flat]) (by simp) (by simp) (by simp)
 simpa using this):p:=h
theorem zt181 {p:Prop}(h:p:=by
 exact hrow.lent hS fun g hg=>hl g ⟨id,_,by simp,by rw [ht id (by simp),h];rfl,hmi,hg⟩):p:=h
theorem borOk_base [Tabs] (H:Heap):BorOk H (Bor H):=by
 intro a a' touch hb m S w H₂ S₂ v hG ht hS hl hr
 cases hb with
 | same a h=>exact (hr.toT h).more hS
 | lsl E l enc d xs h=>exact .sl _ _ _ _ _ (by rw [← h];exact (relV_lsl hr).more hS)
 | nils E enc d=>cases hr with
  | t _ _ h=>cases h;exact .sl _ _ _ _ _ (.lslnil E)
 | nill E=>cases hr with
  | t _ _ h=>cases h;exact .lslnil E
 | row id e E enc d xs h =>
  obtain ⟨v',vs,hmi,hrow⟩:=own_row (s:=.row enc d xs) hG (ht id (by simp)) h
  cases hr with
  | t _ _ h=>cases h
  | own id n cap a hm =>
   rw [hmi] at hm
   cases hm
   exact .sl _ _ _ _ _ (hrow.lent hS fun g hg=>hl g ⟨id,_,by simp,by rw [ht id (by simp),h];rfl,hmi,hg⟩)
 | lst id e E l h =>
  obtain ⟨v',vs,hmi,hrow⟩:=own_row (s:=.lst l) hG (ht id (by simp)) h
  cases hr with
  | t _ _ h=>cases h
  | own id n cap a hm =>
   rw [hmi] at hm
   cases hm
   exact zt181
 | lstrow id e E l enc d xs h hle =>
  obtain ⟨v',vs,hmi,hrow⟩:=own_row (s:=.lst l) hG (ht id (by simp)) h
  cases hr with
  | t _ _ h=>cases h
  | own id n cap a hm =>
   rw [hmi] at hm
   cases hm
   refine .sl _ _ _ _ _ ?_
   rw [← hle]
   exact zt181
 | pre id n e E enc d xs h =>
  obtain ⟨v',vs,hmi,hrow⟩:=own_row (s:=.row enc d xs) hG (ht id (by simp)) h
  cases hr with
  | t _ _ h=>cases h
  | pre id len n cap a hm hle =>
   rw [hmi] at hm
   cases hm
   refine .sl _ _ _ _ _ ?_
   rw [List.map_take]
   exact (hrow.take hle).lent hS fun g hg=>hl g ⟨id,_,by simp,by rw [ht id (by simp),h];rfl,hmi,by cases a with
    | none=>simp [blk] at hg
    | some a=>exact hg⟩
 | part id off n e E enc d xs h =>
  obtain ⟨v',vs,hmi,hrow⟩:=own_row (s:=.row enc d xs) hG (ht id (by simp)) h
  cases hr with
  | t _ _ h=>cases h
  | part _ _ _ _ g n' cap c hm hle hc0 =>
   rw [hmi] at hm
   cases hm
   have hL:=hrow.lent hS fun g hg=>hl g ⟨id,_,by simp,by rw [ht id (by simp),h];rfl,hmi,hg⟩
   rcases relT_lsl hL with ⟨h0 | ⟨ad,h0⟩,hnil⟩ | ⟨g',o',cap',cs,hv,hSg,hcap,hE,h1,hlen,hc,hrr⟩
   ·cases h0
   ·cases h0
    have hx0:xs=[]:=by simpa [Src.list] using hnil
    have hn0:n=0:=by omega
    subst hx0
    subst hn0
    refine .sl _ _ _ _ _ ?_
    exact zt84
   ·cases hv
    have hsub:=lsl_sub hSg hcap hE h1 hlen hc hrr (lo:=off) (hi:=off+n) (by omega) hle
    refine .sl _ _ _ _ _ ?_
    have e1:(((Src.row enc d xs).list.take (off+n)).drop off)=((xs.drop off).take n).map enc:=by
     simp [Src.list,List.map_take,List.map_drop,List.drop_take]
    rw [e1] at hsub
    have hlen2:(((xs.drop off).take n).map enc).length=n:=by
     have:off+n≤(xs.map enc).length:=hle
     simp at this ⊢
     omega
    rcases relT_lsl hsub with ⟨h0 | ⟨ad,h0⟩,hnil⟩ | ⟨g2,o2,cap2,cs2,hv2,hS2,hcap2,hE2,h12,hlen3,hc2,hrr2⟩
    ·cases h0
    ·have hn0:n=0:=by rw [← hlen2,hnil];rfl
     subst hn0
     exact zt84
    ·have hg:g=g2∧o2=0+off*E:=by
      have:=hv2
      simp at this
      omega
     obtain ⟨rfl,rfl⟩:=hg
     have:=RelT.lsl (S:=S₂) (w:=w) E _ g (0+off*E) c cs2 hS2 (by rw [hlen2];exact hc0) hE2 h12 hlen3 hc2 hrr2
     rw [hlen2] at this
     simpa using this
  | partE _ _ _ c g n' cap hm =>
   rw [List.take_zero]
   refine .sl _ _ _ _ _ ?_
   have:=RelT.lsl (S:=S₂) (w:=w) E [] g 0 c [] (hl g ⟨id,_,by simp,by rw [ht id (by simp),h];rfl,hm,rfl⟩) (by simp) (by simp) (by simp [flat]) (by simp) (by simp) (by simp)
   simpa using this
  | partN id E off=>simp;exact .sl _ _ _ _ _ (.lslnil E)
 | smap id ev dv es h =>
  have hb:=hG.rel id
  rw [ht id (by simp),h] at hb
  obtain ⟨r,en,clock,hmi,hr',hlen,hst,hrel⟩:=hb
  cases hr with
  | t _ _ h=>cases h
  | map id r' hm =>
   rw [hmi] at hm
   cases hm
   exact .rsmap ev dv es r clock en (hl r ⟨id,_,by simp,by rw [ht id (by simp),h];rfl,hmi,rfl⟩) hr' hlen hst (fun j x p h1 h2=>(hrel j x p h1 h2).1) (fun j x p h1 h2=>(hrel j x p h1 h2).2.more hS)
 | imap id k ev dv es h =>
  have hb:=hG.rel id
  rw [ht id (by simp),h] at hb
  obtain ⟨r,en,clock,hmi,hr',hlen,hst,hrel⟩:=hb
  cases hr with
  | t _ _ h=>cases h
  | map id r' hm =>
   rw [hmi] at hm
   cases hm
   exact .rimap k ev dv es r clock en (hl r ⟨id,_,by simp,by rw [ht id (by simp),h];rfl,hmi,rfl⟩) hr' hlen hst (fun j x p h1 h2=>(hrel j x p h1 h2).1) (fun j x p h1 h2=>(hrel j x p h1 h2).2.more hS)
 | gmap id k ev dv es h =>
  have hb:=hG.rel id
  rw [ht id (by simp),h] at hb
  obtain ⟨r,en,clock,hmi,hr',hlen,hst,hrel⟩:=hb
  cases hr with
  | t _ _ h=>cases h
  | map id r' hm =>
   rw [hmi] at hm
   cases hm
   exact .rgmap k ev dv es r clock en (hl r ⟨id,_,by simp,by rw [ht id (by simp),h];rfl,hmi,rfl⟩) hr' hlen hst (fun j x p h1 h2=>(hrel j x p h1 h2).1) (fun j x p h1 h2=>(hrel j x p h1 h2).2.more hS)
 | boxt id e l h htr h1 =>
  have hid2:=ht id (by simp)
  have hb:=hG.rel id
  rw [hid2,h] at hb
  obtain ⟨g,cs,hmi,hg,hlen,hone,hrel⟩:=hb
  cases hr with
  | t _ _ h=>cases h
  | ptr id off g' hm =>
   rw [hmi] at hm
   cases hm
   refine .rop g 0 l cs.toList (hl g ⟨id,_,by simp,by rw [hid2,h];rfl,hmi,rfl⟩) zp21 (allOne_spec h1) (fun j c hj=>?_) ?_
   ·rw [cell_of_row w g _ cs e (0,0) hg]
    simpa using hj
   ·exact fun j c a hj ha=>((hrel j c a zp16 ha).toT (treesB_spec htr a (List.mem_of_getElem? ha))).more hS
theorem borL_sound [Tabs] {H:Heap} {B:AV→AV→List Nat→Prop} (hB:BorOk H B) {l l':List AV} {touch:List Nat} (h:BorL B l l' touch):l'.length=l.length ∧
  ∀ (m:Ids) (S:Blocks) (w:World) (H₂:Heap) (S₂:Blocks),Good m S w H₂→(∀ id∈touch,lkH H₂ id=lkH H id)→(∀ g,S g→S₂ g)→(∀ g,lent m H₂ touch g→S₂ g) →
  ∀ (cs:List Value),cs.length=l.length→(∀ (j:Nat) (c:Value) (a:AV),cs[j]?=some c→l[j]?=some a→RelV m S w c a)→∀ (j:Nat) (c:Value) (a:AV),cs[j]?=some c→l'[j]?=some a→RelT S₂ w c a:=by
 induction h with
 | nil=>exact ⟨rfl,fun m S w H₂ S₂ _ _ _ _ cs hl _ j c a hj ha=>by simp at ha⟩
 | cons h hl ih =>
  rename_i a a' l l' t t'
  refine ⟨by simp [ih.1],fun m S w H₂ S₂ hG ht hS hle cs hlen hr j c x hj hx=>?_⟩
  cases cs with
  | nil=>simp at hj
  | cons c0 cs =>
   cases j with
   | zero =>
    simp at hj hx
    subst hj
    subst hx
    exact hB a _ t h m S w H₂ S₂ _ hG (fun id hid=>ht id (by simp [hid])) hS (fun g ⟨id,v,h1,h2⟩=>hle g ⟨id,v,by simp [h1],h2⟩) (hr 0 _ _ rfl rfl)
   | succ j =>
    simp at hj hx
    exact ih.2 m S w H₂ S₂ hG (fun id hid=>ht id (by simp [hid])) hS (fun g ⟨id,v,h1,h2⟩=>hle g ⟨id,v,by simp [h1],h2⟩) cs (by simpa using hlen)
     (fun j c a h1 h2=>hr (j+1) c a zp28 zp33) j c x hj hx
theorem borOk_1 [Tabs] {H:Heap} {B:AV→AV→List Nat→Prop} (hB:BorOk H B):BorOk H (Bor1 H B):=by
 intro a a' touch hb m S w H₂ S₂ v hG ht hS hl hr
 cases hb with
 | base h=>exact hB a a' touch h m S w H₂ S₂ v hG ht hS hl hr
 | box id off e l l' t h hL h1 =>
  have hid2:=ht id (by simp)
  have hb:=hG.rel id
  rw [hid2,h] at hb
  obtain ⟨g,cs,hmi,hg,hlen,hone,hrel⟩:=hb
  obtain ⟨hl1,hl2⟩:=borL_sound hB hL
  cases hr with
  | t _ _ h=>cases h
  | ptr id off g' hm =>
   rw [hmi] at hm
   cases hm
   refine .rop g off l' (cs.toList.drop off) (hl g ⟨id,_,by simp,by rw [hid2,h];rfl,hmi,rfl⟩) (by rw [hl1];simp;omega) h1 (fun j c hj=>?_) ?_
   ·rw [List.getElem?_drop] at hj
    rw [cell_of_row w g _ cs e (0,0) hg]
    simpa using hj
   ·exact hl2 m S w H₂ S₂ hG (fun i hi=>ht i (by simp [hi])) hS (fun g ⟨i,v,p,q⟩=>hl g ⟨i,v,by simp [p],q⟩) _ zp21 (fun j c a hj ha=>by
     rw [List.getElem?_drop] at hj ha
     exact hrel _ c a zp16 ha)
 | fn f x y x' y' t t' h h' =>
  obtain ⟨l1,l2⟩:=borL_sound hB h
  obtain ⟨l1',l2'⟩:=borL_sound hB h'
  have main:∀ (fs cs:Array Value),fs.size=x.length→cs.size=y.length→(∀ (j:Nat) (c:Value) (a:AV),fs[j]?=some c→x[j]?=some a→RelV m S w c a)→(∀ (j:Nat) (c:Value) (a:AV),cs[j]?=some c→y[j]?=some a→RelV m S w c a) →
    RelT S₂ w (.func f fs cs) (.fn f x' y'):=by
   intro fs cs h1 h2 r1 r2
   refine .fn f fs cs x' y' (by omega) (by omega) (fun j c a hj ha=>?_) (fun j c a hj ha=>?_)
   ·exact l2 m S w H₂ S₂ hG (fun i hi=>ht i (by simp [hi])) hS (fun g ⟨i,v,p,q⟩=>hl g ⟨i,v,by simp [p],q⟩) fs.toList zp28 (fun j c a p q=>r1 j c a zp46 q) j c a zp16 ha
   ·exact l2' m S w H₂ S₂ hG (fun i hi=>ht i (by simp [hi])) hS (fun g ⟨i,v,p,q⟩=>hl g ⟨i,v,by simp [p],q⟩) cs.toList zp33 (fun j c a p q=>r2 j c a zp46 q) j c a zp16 ha
  cases hr with
  | t _ _ h=>cases h with
   | fn f fs cs lf lc h1 h2 r1 r2=>exact main fs cs h1 h2 (fun j c a p q=>.t _ _ (r1 j c a p q)) (fun j c a p q=>.t _ _ (r2 j c a p q))
  | fn f fs cs lf lc h1 h2 r1 r2=>exact main fs cs h1 h2 r1 r2
 | agg x x' t h =>
  obtain ⟨l1,l2⟩:=borL_sound hB h
  obtain ⟨cs,rfl,hlen,hrel⟩:=relV_agg hr
  exact .agg cs x' (by omega) fun j c a hj ha=>l2 m S w H₂ S₂ hG ht hS hl cs.toList (by simpa using hlen) (fun j c a p q=>hrel j c a zp46 q) j c a zp16 ha
def AV.scal1:AV→Bool
 | .bool _ | .int .. | .str _ | .nilp | .nils | .nilm | .nilf | .undef | .skip | .iarr .. | .any1 | .ifc _=>true
 | _=>false
def AV.scal:AV→Bool
 | .agg l=>l.all AV.scal1
 | v=>v.scal1
theorem RelT.scal1 {S S':Blocks} {w:World} {v:Value} {a:AV} (h:RelT S w v a) (hs:a.scal1=true):RelT S' w v a:=by
 cases h<;>first | (simp [AV.scal1] at hs;done) | (constructor;done) | skip
 all_goals (constructor<;>assumption)
theorem RelT.scal {S S':Blocks} {w:World} {v:Value} {a:AV} (h:RelT S w v a) (hs:a.scal=true):RelT S' w v a:=by
 cases h with
 | agg cs l hl h=>exact .agg cs l hl fun j c a hj ha=>(h j c a hj ha).scal1 (by
   simp only [AV.scal,List.all_eq_true] at hs
   exact hs a (List.mem_of_getElem? ha))
 | undef v=>exact .undef v
 | _=>exact RelT.scal1 (S:=S) (by constructor<;>assumption) hs
def AR.flat:AR→Prop
 | .val a=>a.scal=true
 | .new (.lst _ _ l)=>∀ x∈l,x.scal=true
 | .new (.row _ _ enc _ xs)=>∀ x∈xs,(enc x).scal=true
 | .new (.smap ev _ es)=>∀ p∈es,(ev p.2).scal=true
 | .new (.imap _ ev _ es)=>∀ p∈es,(ev p.2).scal=true
 | .new (.gmap _ ev _ es)=>∀ p∈es,(ev p.2).scal=true
 | .new (.cells _ l)=>∀ x∈l,x.scal1=true
 | .new .dead=>True
 | .new (.arr ..)=>True
 | .new (.que _ _ enc _ xs)=>∀ x∈xs,(enc x).scal=true
theorem scal_flat {l:List AV} (h:∀ x∈l,x.scal=true):∀ a∈flat l,a.scal1=true:=by
 intro a ha
 obtain ⟨x,hx,hax⟩:=List.mem_flatMap.1 ha
 have:=h x hx
 cases x with
 | agg l=>simp only [AV.scal,List.all_eq_true] at this;exact this a hax
 | _=>simp only [AV.cells,List.mem_singleton] at hax;subst hax;exact this
theorem RowRel.scal {S S':Blocks} {w:World} {e E:Nat} {l:List AV} {v:Value} {vs:List Value} (h:RowRel S w e E l v vs) (hs:∀ x∈l,x.scal=true):RowRel S' w e E l v vs :=
 ⟨h.owns,h.size,h.ones,fun j c a hj ha=>(h.rel j c a hj ha).scal1 (scal_flat hs a (List.mem_of_getElem? ha))⟩
theorem zt40 {p:Prop}(h:p:=by
 obtain ⟨r,en,clock,hmi,hr,hl,hb',h2⟩:=hb
 exact ⟨r,en,clock,hmi,hr,hl,hb',fun j x p h3 h4=>⟨(h2 j x p h3 h4).1,(h2 j x p h3 h4).2.scal (hf p (List.mem_of_getElem? h4))⟩⟩):p:=h
theorem relR_flat {S S':Blocks} {w:World} {B:Nat} {v:Value} {r:AR} (h:RelR S w B v r) (hf:r.flat):RelR S' w B v r:=by
 cases r with
 | val a=>exact RelT.scal h hf
 | new b =>
  refine ⟨h.1,h.2.1,fun n=>?_⟩
  have hb:=h.2.2 n
  cases b with
  | dead=>trivial
  | cells e l =>
   obtain ⟨g,cs,hmi,hg,hl,h1,hr⟩:=hb
   refine ⟨g,cs,hmi,hg,hl,h1,fun j c a hj ha=>?_⟩
   have hs:=hf a (List.mem_of_getElem? ha)
   have:=hr j c a hj ha
   cases this with
   | t _ _ h=>exact .t _ _ (h.scal1 hs)
   | _=>simp [AV.scal1] at hs
  | arr e k n f=>exact hb
  | que e E enc d xs =>
   obtain ⟨g,o,cap,cur,hmi,hr⟩:=hb
   refine ⟨g,o,cap,cur,hmi,hr.at_,hr.len,hr.max,hr.room,hr.size,hr.ones,fun j c a hj ha=>(hr.rel j c a hj ha).scal1 (scal_flat (fun x hx=>?_) a (List.mem_of_getElem? ha))⟩
   obtain ⟨y,hy,rfl⟩:=List.mem_map.1 hx
   exact hf y hy
  | lst e E l=>obtain ⟨v',vs,hmi,hr⟩:=hb;exact ⟨v',vs,hmi,hr.scal hf⟩
  | row e E enc d xs =>
   obtain ⟨v',vs,hmi,hr⟩:=hb
   refine ⟨v',vs,hmi,hr.scal fun x hx=>?_⟩
   obtain ⟨y,hy,rfl⟩:=List.mem_map.1 hx
   exact hf y hy
  | smap ev dv es =>
   exact zt40
  | imap k ev dv es =>
   exact zt40
  | gmap k ev dv es =>
   exact zt40
def nameR (nx:Nat):AR→AV
 | .val a=>a
 | .new (.cells ..)=>.ptr nx 0
 | .new (.lst ..)=>.own nx
 | .new (.row ..)=>.own nx
 | .new (.smap ..)=>.map nx
 | .new (.imap ..)=>.map nx
 | .new (.gmap ..)=>.map nx
 | .new (.arr ..)=>.ptr nx 0
 | .new (.que ..)=>.own nx
 | .new .dead=>.undef
def takeR:List AR→Nat→List AV→List (Nat×AB)→(List AV→List (Nat×AB)→Nat→Prop)→Prop
 | [],nx,vs,wr,k=>k vs.reverse wr nx
 | .val a::rs,nx,vs,wr,k=>takeR rs nx (a::vs) wr k
 | .new b::rs,nx,vs,wr,k=>takeR rs (nx+1) (nameR nx (.new b)::vs) ((nx,b)::wr) k
def valR:List AV→AV
 | [v]=>v
 | vs=>.tup vs
theorem relB_name {m:Ids} {S:Blocks} {w:World} {id:Nat} {b:AB} {v:Value} (h:RelB m S w id b) (hl:b.live=true) (hm:m id=some v):RelV m S w v (nameR id (.new b)):=by
 cases b with
 | dead=>simp [AB.live] at hl
 | cells e l=>obtain ⟨g,cs,hmi,_⟩:=h;rw [hmi] at hm;cases hm;exact .ptr id 0 g hmi
 | lst e E l=>obtain ⟨v',vs,hmi,hr⟩:=h;rw [hmi] at hm;cases hm;obtain ⟨a,n,c,rfl⟩:=blk_slice_of hr;exact .own id n c a hmi
 | row e E enc d xs=>obtain ⟨v',vs,hmi,hr⟩:=h;rw [hmi] at hm;cases hm;obtain ⟨a,n,c,rfl⟩:=blk_slice_of hr;exact .own id n c a hmi
 | smap ev dv es=>obtain ⟨r,en,clock,hmi,_⟩:=h;rw [hmi] at hm;cases hm;exact .map id r hmi
 | imap k ev dv es=>obtain ⟨r,en,clock,hmi,_⟩:=h;rw [hmi] at hm;cases hm;exact .map id r hmi
 | gmap k ev dv es=>obtain ⟨r,en,clock,hmi,_⟩:=h;rw [hmi] at hm;cases hm;exact .map id r hmi
 | arr e k n f=>obtain ⟨g,cs,hmi,_⟩:=h;rw [hmi] at hm;cases hm;exact .ptr id 0 g hmi
 | que e E enc d xs=>obtain ⟨g,o,cap,cur,hmi,_⟩:=h;rw [hmi] at hm;cases hm;exact .own id _ cap _ hmi
theorem Ext.trans [Tabs] {m m1 m2:Ids} {S S1 S2:Blocks} {w w1 w2:World} {H H1 H2:Heap} {n n1 n2:Nat} (h1:Ext m S w H n n1 m1 S1 w1 H1) (h2:Ext m1 S1 w1 H1 n1 n2 m2 S2 w2 H2) (hn:n≤n1∧n1≤n2):Ext m S w H n n2 m2 S2 w2 H2:=by
 refine ⟨fun i v h=>h2.ids i v (h1.ids i v h),fun i hi=>?_,fun g h=>h2.ros g (h1.ros g h),fun g hg=>?_,?_,fun k hk=>?_,h2.good⟩
 ·rw [h2.same i (by omega),h1.same i (by omega)]
 ·rcases h2.fresh g hg with h | h | h
  ·exact h1.fresh g h
  ·exact .inr (h1.owns g h)
  ·exact .inr (.inr (Nat.le_trans h1.far.size h))
 ·refine h1.far.trans h2.far fun i hi ho=>?_
  rcases h1.owns i ho with h | h
  ·exact h
  ·omega
 ·rcases h2.owns k hk with h | h
  ·exact h1.owns k h
  ·exact .inr (Nat.le_trans h1.far.size h)
theorem ext_add [Tabs] {m:Ids} {S:Blocks} {w:World} {H:Heap} {nx B:Nat} (h:Good m S w H) (hn:m nx=none) (v:Value) (b:AB) (hb:RelB (fun i=>if i=nx then some v else m i) S w nx b)
  (hS:∀ k,blk v=some k→¬ S k) (ho:∀ k,blk v=some k→¬ own m H k) (hB:∀ k,blk v=some k→B≤k) :
  Good (fun i=>if i=nx then some v else m i) S w ((nx,b)::H)∧(∀ k,own (fun i=>if i=nx then some v else m i) ((nx,b)::H) k→own m H k∨B≤k):=by
 have hids:∀ i u,m i=some u→(fun i=>if i=nx then some v else m i) i=some u:=by
  exact zt69
 have old:∀ i,i≠nx→(lkH ((nx,b)::H) i).live=true→(lkH H i).live=true:=by
  intro i e hl
  rwa [lkH_cons,if_neg (fun h=>e h.symm)] at hl
 refine ⟨⟨fun id=>?_,?_,?_,h.tab⟩,?_⟩
 ·rw [lkH_cons]
  split
  ·rename_i e;subst e;exact hb
  ·exact (h.rel id).mono hids (fun _ h=>h) (fun _ _=>rfl) (fun _ _ _ _ _=>rfl)
 ·intro i j vi vj k hli hlj hvi hvj hki hkj
  by_cases ei:i=nx<;>by_cases ej:j=nx
  ·rw [ei,ej]
  ·subst ei
   simp only [if_true] at hvi
   simp only [ej,if_false] at hvj
   cases hvi
   exact (ho k hki ⟨j,vj,old j ej hlj,hvj,hkj⟩).elim
  ·subst ej
   simp only [if_true] at hvj
   simp only [ei,if_false] at hvi
   cases hvj
   exact (ho k hkj ⟨i,vi,old i ei hli,hvi,hki⟩).elim
  ·simp only [ei,if_false] at hvi
   simp only [ej,if_false] at hvj
   exact h.sep i j vi vj k (old i ei hli) (old j ej hlj) hvi hvj hki hkj
 ·intro g hg
  refine ⟨(h.ro g hg).1,fun i u hl hu hk=>?_⟩
  by_cases e:i=nx
  ·subst e
   simp only [if_true] at hu
   cases hu
   exact hS g hk hg
  ·simp only [e,if_false] at hu
   exact (h.ro g hg).2 i u (old i e hl) hu hk
 ·rintro k ⟨i,u,hl,hu,hk⟩
  by_cases e:i=nx
  ·subst e
   simp only [if_true] at hu
   cases hu
   exact .inr (hB k hk)
  ·simp only [e,if_false] at hu
   exact .inl ⟨i,u,old i e hl,hu,hk⟩
def tv:List AR→Nat→List AV
 | [],_=>[]
 | .val a::rs,nx=>a::tv rs nx
 | .new b::rs,nx=>nameR nx (.new b)::tv rs (nx+1)
def tw:List AR→Nat→List (Nat×AB)
 | [],_=>[]
 | .val _::rs,nx=>tw rs nx
 | .new b::rs,nx=>tw rs (nx+1)++[(nx,b)]
def tn:List AR→Nat→Nat
 | [],nx=>nx
 | .val _::rs,nx=>tn rs nx
 | .new _::rs,nx=>tn rs (nx+1)
theorem takeR_eq:∀ (rs:List AR) (nx:Nat) (vs:List AV) (wr:List (Nat×AB)) (k:List AV→List (Nat×AB)→Nat→Prop),takeR rs nx vs wr k→k (vs.reverse++tv rs nx) (tw rs nx++wr) (tn rs nx)
 | [],nx,vs,wr,k,h=>by simpa [takeR,tv,tw,tn] using h
 | .val a::rs,nx,vs,wr,k,h=>by
  have:=takeR_eq rs nx (a::vs) wr k h
  simpa [tv,tw,tn] using this
 | .new b::rs,nx,vs,wr,k,h=>by
  have:=takeR_eq rs (nx+1) _ _ k h
  simpa [tv,tw,tn] using this
theorem tn_ge:∀ (rs:List AR) (nx:Nat),nx≤tn rs nx
 | [],nx=>Nat.le_refl _
 | .val _::rs,nx=>tn_ge rs nx
 | .new _::rs,nx=>Nat.le_trans (Nat.le_succ _) (tn_ge rs (nx+1))
theorem take_sound [Tabs] {S:Blocks} {w:World} {B:Nat}:∀ (rs:List AR) (us:List Value) (nx:Nat) (m:Ids) (H:Heap),Good m S w H→(∀ i,nx≤i→i<tn rs nx→m i=none)→us.length=rs.length →
  (∀ (j:Nat) (u:Value) (r:AR),us[j]?=some u→rs[j]?=some r→RelR S w B u r) →
  (∀ (j:Nat) (u:Value) (b:AB) (k:Nat),us[j]?=some u→rs[j]?=some (.new b)→blk u=some k→¬ S k∧¬ own m H k∧∀ (j':Nat) (u':Value) (b':AB),us[j']?=some u'→rs[j']?=some (.new b')→blk u'=some k→j=j') →
  ∃ m',Good m' S w (tw rs nx++H)∧(∀ i v,m i=some v→m' i=some v)∧(∀ i,¬ (nx≤i∧i<tn rs nx)→m' i=m i)∧(∀ k,own m' (tw rs nx++H) k→own m H k∨B≤k) ∧
   (tv rs nx).length=us.length∧∀ (j:Nat) (u:Value) (a:AV),us[j]?=some u→(tv rs nx)[j]?=some a→RelV m' S w u a
 | [],us,nx,m,H,hG,hf,hl,hr,ha=>by
  have:us=[]:=List.eq_nil_of_length_eq_zero hl
  subst this
  exact ⟨m,hG,fun _ _ h=>h,fun _ _=>rfl,fun k h=>.inl h,rfl,fun j u a h=>by simp at h⟩
 | .val x::rs,[],nx,m,H,hG,hf,hl,hr,ha=>by simp at hl
 | .new b::rs,[],nx,m,H,hG,hf,hl,hr,ha=>by simp at hl
 | .val x::rs,u::us,nx,m,H,hG,hf,hl,hr,ha=>by
  obtain ⟨m',g1,g2,g3,g4,g5,g6⟩:=take_sound rs us nx m H hG hf zp40 (fun j u r h1 h2=>hr (j+1) u r zp28 zp33) (fun j u b k h1 h2 h3=>by
   obtain ⟨a1,a2,a3⟩:=ha (j+1) u b k zp28 zp33 h3
   exact ⟨a1,a2,fun j' u' b' p q r=>by have:=a3 (j'+1) u' b' zp46 zp45 r;omega⟩)
  refine ⟨m',g1,g2,g3,g4,by simp [tv,g5],fun j u' a h1 h2=>?_⟩
  cases j with
  | zero =>
   simp [tv] at h1 h2
   subst h1
   subst h2
   exact .t _ _ (hr 0 _ _ rfl rfl)
  | succ j=>exact g6 j u' a zp28 (by simpa [tv] using h2)
 | .new b::rs,u::us,nx,m,H,hG,hf,hl,hr,ha=>by
  obtain ⟨b1,b2,b3⟩:RelR S w B u (.new b):=hr 0 u (.new b) rfl rfl
  have hn:m nx=none:=hf nx (Nat.le_refl _) (Nat.lt_of_lt_of_le (Nat.lt_succ_self nx) (tn_ge rs (nx+1)))
  have hids:∀ i v,m i=some v→(fun i=>if i=nx then some u else m i) i=some v:=by
   intro i v hv
   have:i≠nx:=by intro e;subst e;rw [hn] at hv;cases hv
   simp [this,hv]
  have hb:RelB (fun i=>if i=nx then some u else m i) S w nx b:=(b3 nx).mono (fun i v h=>by
   by_cases e:i=nx
   ·simpa [e] using h
   ·simp [e] at h) (fun _ h=>h) (fun _ _=>rfl) (fun _ _ _ _ _=>rfl)
  obtain ⟨e1,e2⟩:=ext_add (B:=B) hG hn u b hb (fun k hk=>(ha 0 u b k rfl rfl hk).1) (fun k hk=>(ha 0 u b k rfl rfl hk).2.1) b2
  obtain ⟨m',g1,g2,g3,g4,g5,g6⟩:=take_sound rs us (nx+1) _ _ e1 (fun i hi hlt=>by
    have:i≠nx:=by omega
    simp [this,hf i (by omega) hlt]) zp40 (fun j u r h1 h2=>hr (j+1) u r zp28 zp33) (fun j u' b' k h1 h2 h3=>by
   obtain ⟨a1,a2,a3⟩:=ha (j+1) u' b' k zp28 zp33 h3
   refine ⟨a1,fun ho=>?_,fun j' u'' b'' p q r=>by have:=a3 (j'+1) u'' b'' zp46 zp45 r;omega⟩
   obtain ⟨i,vi,hli,hvi,hki⟩:=ho
   by_cases ei:i=nx
   ·subst ei
    simp only [if_true] at hvi
    cases hvi
    have:=a3 0 u b rfl rfl hki
    omega
   ·simp only [ei,if_false] at hvi
    rw [lkH_cons,if_neg (fun h=>ei h.symm)] at hli
    exact a2 ⟨i,vi,hli,hvi,hki⟩)
  have happ:tw (.new b::rs) nx++H=tw rs (nx+1)++(nx,b)::H:=by simp [tw]
  have hge:=tn_ge rs (nx+1)
  refine ⟨m',by rw [happ];exact g1,fun i v h=>g2 i v (hids i v h),fun i hi=>?_,fun k hk=>?_,by simp [tv,g5],fun j u' a h1 h2=>?_⟩
  ·have hi':¬ (nx≤i∧i<tn rs (nx+1)):=hi
   have hne:i≠nx:=by omega
   rw [g3 i (by omega)]
   simp [hne]
  ·rw [happ] at hk
   rcases g4 k hk with h | h
   ·exact e2 k h
   ·exact .inr h
  ·cases j with
   | zero =>
    simp [tv] at h1 h2
    subst h1
    subst h2
    have hm:m' nx=some u:=g2 nx u (by simp)
    exact relB_name (hb.mono (fun i v h=>g2 i v h) (fun _ h=>h) (fun _ _=>rfl) (fun _ _ _ _ _=>rfl)) b1 hm
   | succ j=>exact g6 j u' a zp28 (by simpa [tv] using h2)
theorem retVal_rel {m:Ids} {S:Blocks} {w:World} {us:List Value} {l:List AV} (hl:l.length=us.length) (h:∀ (j:Nat) (u:Value) (a:AV),us[j]?=some u→l[j]?=some a→RelV m S w u a):RelV m S w (retVal us) (valR l):=by
 match us,l,hl with
 | [],[],_=>exact .tup _ _ rfl (fun j c a hj=>by simp at hj)
 | [u],[a],_=>exact h 0 u a rfl rfl
 | u::u'::us,a::a'::l,hl=>exact .tup _ _ (by simp at hl ⊢;omega) (fun j c x hj hx=>h j c x zp16 hx)
abbrev Lend (H:Heap):AV→AV→List Nat→Prop:=Bor1 H (Bor1 H (Bor1 H (Bor H)))
theorem lend_ok [Tabs] (H:Heap):BorOk H (Lend H):=borOk_1 (borOk_1 (borOk_1 (borOk_base H)))
theorem relV_fn {m:Ids} {S:Blocks} {w:World} {v:Value} {f:Fn} {lf lc:List AV} (h:RelV m S w v (.fn f lf lc)) :
  ∃ fs cs,v=.func f fs cs∧fs.size=lf.length∧cs.size=lc.length∧(∀ (j:Nat) (c:Value) (a:AV),fs[j]?=some c→lf[j]?=some a→RelV m S w c a)∧(∀ (j:Nat) (c:Value) (a:AV),cs[j]?=some c→lc[j]?=some a→RelV m S w c a):=by
 cases h with
 | t _ _ h=>cases h with
  | fn f fs cs lf lc h1 h2 r1 r2=>exact ⟨fs,cs,rfl,h1,h2,fun j c a p q=>.t _ _ (r1 j c a p q),fun j c a p q=>.t _ _ (r2 j c a p q)⟩
 | fn f fs cs lf lc h1 h2 r1 r2=>exact ⟨fs,cs,rfl,h1,h2,r1,r2⟩
theorem relR_more {S S':Blocks} {w:World} {B:Nat} {v:Value} {r:AR} (hS:∀ g,S g→S' g) (h:RelR S w B v r):RelR S' w B v r:=by
 cases r with
 | val a=>exact RelT.more hS h
 | new b=>exact ⟨h.1,h.2.1,fun n=>(h.2.2 n).mono (fun _ _ h=>h) hS (fun _ _=>rfl) (fun _ _ _ _ _=>rfl)⟩
theorem list3_get {m:Ids} {S:Blocks} {w:World} {a b c:List Value} {x y z:List AV} (h1:a.length=x.length) (h2:b.length=y.length) (r1:∀ (j:Nat) (c:Value) (p:AV),a[j]?=some c→x[j]?=some p→RelV m S w c p)
  (r2:∀ (j:Nat) (c:Value) (p:AV),b[j]?=some c→y[j]?=some p→RelV m S w c p) (r3:∀ (j:Nat) (d:Value) (p:AV),c[j]?=some d→z[j]?=some p→RelV m S w d p) :
  ∀ (j:Nat) (d:Value) (p:AV),(a++b++c)[j]?=some d→(x++y++z)[j]?=some p→RelV m S w d p:=by
 intro j d p hd hp
 by_cases hj1:j<a.length
 ·rw [List.append_assoc,List.getElem?_append_left hj1] at hd
  rw [List.append_assoc,List.getElem?_append_left (by omega)] at hp
  exact r1 j d p hd hp
 ·by_cases hj2:j<a.length+b.length
  ·rw [List.append_assoc,List.getElem?_append_right (by omega),List.getElem?_append_left (by omega)] at hd
   rw [List.append_assoc,List.getElem?_append_right (by omega),List.getElem?_append_left (by omega),← h1] at hp
   exact r2 _ d p hd hp
  ·rw [List.getElem?_append_right zp21] at hd
   rw [List.getElem?_append_right zp21] at hp
   have e:(x++y).length=(a++b).length:=by simp;omega
   rw [e] at hp
   exact r3 _ d p hd hp
theorem zt14 {p:Prop}(h:p:=by
 intro j c p hj hp
 simp only [List.getElem?_map,Option.map_eq_some_iff] at hj hp
 obtain ⟨y,hy,rfl⟩:=hj
 obtain ⟨y',hy',rfl⟩:=hp
 rw [hy] at hy'
 cases hy'
 exact hus (y,true,rd y) (List.mem_map.2 ⟨y,List.mem_cons.2 (.inr (List.mem_of_getElem? hy)),rfl⟩) rfl):p:=h
theorem zt36 {p:Prop}(h:p:=by
 rw [← hvs]
 unfold execOp
 have hb':¬ fn.body=none:=by intro e;simp [e] at hbody
 have hn' : ¬ fn.name = "runtime.NumGoroutine" := by simpa using hname
 simp [ho,resolve,hv,Deferred.ofValue,invoke,callFunc,hfun,hn',hb']):p:=h
theorem zt105 {p:Prop}(h:p:=by
 rintro g (h | ⟨i,v,hi,hl,hm,hk⟩)
 ·exact (hG.ro g h).1
 ·exact hG.blk_lt hl hm hk):p:=h
theorem zt158 {p:Prop}(h:p:=by
 exact relR_more (fun g hg=>⟨hg,fun ⟨i,v,hi,_⟩=>by rw [h0] at hi;simp at hi⟩) (hL.rel j u r hu hr)):p:=h
theorem sem_call [Tabs] {P:Program} {o:Oper} {fop:Operand} {as:Array Operand} {ts:Array TypeId} (ho:o.op=.call { callee:=.value fop,args:=as,argTypes:=ts })
  {rd:Operand→AV} {H:Heap} {nx:Nat} {f:FuncId} {first cap:List AV} (hf:rd fop=.fn (.func f) first cap) {args':List AV} {touch:List Nat}
  (hb:BorL (Lend H) (first++as.toList.map rd++cap) args' touch) {R:List AR→Prop} (hc:APure P f args' R) (hflat:touch=[]∨∀ rs,R rs→∀ r∈rs,r.flat) :
  OpSemR P o ((fop::as.toList).map fun y=>(y,true,rd y)) H nx touch (fun r=>∃ rs,R rs∧r=⟨valR (tv rs nx),touch,tw rs nx,tn rs nx⟩):=by
 intro m S w a H₂ K Q hG ht hfree hus hK
 have hfn:RelV m S w (a.eval fop) (rd fop):=hus (fop,true,rd fop) (by simp) rfl
 rw [hf] at hfn
 obtain ⟨fs,cs,hv,hfl,hcl,r1,r3⟩:=relV_fn hfn
 obtain ⟨⟨fn,hfun,hbody,hname⟩,hcall⟩:=hc
 have hvs:(fs++as.map a.eval++cs)=(fs.toList++as.toList.map a.eval++cs.toList).toArray:=by
  apply Array.ext'
  simp
 have hexec:(execOp a.eval o).run P w=.ok (.enter f (fs.toList++as.toList.map a.eval++cs.toList).toArray) w:=by
  exact zt36
 have r2:∀ (j:Nat) (c:Value) (p:AV),(as.toList.map a.eval)[j]?=some c→(as.toList.map rd)[j]?=some p→RelV m S w c p:=by
  exact zt14
 obtain ⟨hlen,hbor⟩:=borL_sound (lend_ok H) hb
 unfold Oper.wp
 rw [hexec,Oper.upon_enter]
 have hlt:∀ g,(S g∨lent m H₂ touch g)→g<w.heap.size:=by
  exact zt105
 refine (hcall (fun g=>S g∨lent m H₂ touch g) w _ hlt (hG.tab.mono (fun _ h=>.inl h) fun _ _=>rfl) ⟨?_,?_⟩).mono ?_
 ·rw [hlen]
  simp [hfl,hcl]
 ·exact hbor m S w H₂ _ hG ht (fun g h=>.inl h) (fun g h=>.inr h) _ (by simp [hfl,hcl]) (list3_get (by simpa using hfl) (by simp) (fun j c p h=>r1 j c p zp19) r2 (fun j c p h=>r3 j c p zp19))
 ·rintro e w' ⟨us,rs,S'',rfl,hR,hL⟩
  show K (a.put o.dst (retVal us)) w'
  have hnl:∀ g,S g→¬ lent m H₂ touch g:=fun g hg ⟨i,v,hi,hl,hm,hk⟩=>(hG.ro g hg).2 i v hl hm hk
  have hrel:∀ (j:Nat) (u:Value) (r:AR),us[j]?=some u→rs[j]?=some r→RelR (fun g=>S'' g∧¬ lent m H₂ touch g) w' w.heap.size u r:=by
   intro j u r hu hr
   rcases hflat with h0 | h0
   ·exact zt158
   ·exact relR_flat (hL.rel j u r hu hr) (h0 rs hR r (List.mem_of_getElem? hr))
  have hG':Good m (fun g=>S'' g∧¬ lent m H₂ touch g) w' H₂:=by
   refine ⟨fun id=>(hG.rel id).mono (fun _ _ h=>h) (fun g hg=>⟨hL.ros g (.inl hg),hnl g hg⟩) (fun g hg=>hL.below.block g (hG.ro g hg).1) (fun v k hl hv hk=>hL.below.block k (hG.blk_lt hl hv hk)),hG.sep,fun g hg=>⟨hL.lt g hg.1,fun i v hl hv hk=>?_⟩,hG.tab.mono (fun g hg=>⟨hL.ros g (.inl hg),hnl g hg⟩) fun g hg=>hL.below.block g (hG.ro g hg).1⟩
   rcases hL.fresh g hg.1 with (h | h) | h
   ·exact (hG.ro g h).2 i v hl hv hk
   ·exact hg.2 h
   ·have:=hG.blk_lt hl hv hk
    omega
  obtain ⟨m',g1,g2,g3,g4,g5,g6⟩:=take_sound (B:=w.heap.size) rs us nx m H₂ hG' (fun i hi hlt=>hfree i hi ⟨_,⟨rs,hR,rfl⟩,hlt⟩) hL.len hrel (fun j u b k hu hr hk=>by
   obtain ⟨a1,a2⟩:=hL.apart j u b k hu hr hk
   refine ⟨fun h=>a1 h.1,fun ho=>?_,fun j' u' b' p q r=>a2 j' u' b' p q r⟩
   have h1:=hG.own_lt ho
   have h2:RelR _ w' w.heap.size u (.new b):=hrel j u _ hu hr
   have:=h2.2.1 k hk
   omega)
  refine hK _ ⟨rs,hR,rfl⟩ (retVal us) m' _ w' ⟨g2,g3,fun g hg=>⟨hL.ros g (.inl hg),hnl g hg⟩,fun g hg=>?_,Far.of_below hL.below,g4,g1⟩ (retVal_rel g5 g6)
  rcases hL.fresh g hg.1 with (h | h) | h
  ·exact .inl h
  ·exact (hg.2 h).elim
  ·exact .inr (.inr h)
def CallSem [Tabs] (P:Program) (f:FuncId) (avs:List AV) (H:Heap) (nx:Nat) (touch:List Nat) (Rr:Res→Prop):Prop :=
 FnOk P f∧∀ (m:Ids) (S:Blocks) (w:World) (H₂:Heap) (vs:List Value),Good m S w H₂→(∀ id∈touch,lkH H₂ id=lkH H id)→(∀ i,nx≤i→(∃ r,Rr r∧i<r.nx)→m i=none) →
  vs.length=avs.length→(∀ (j:Nat) (v:Value) (a:AV),vs[j]?=some v→avs[j]?=some a→RelV m S w v a) →
  Calls P f vs.toArray w fun e w'=>∃ v r m' S',e=.returned v∧Rr r∧Ext m S w H₂ nx r.nx m' S' w' (r.wr++H₂)∧RelV m' S' w' v r.v
theorem sem_callraw [Tabs] {P:Program} {o:Oper} {fop:Operand} {as:Array Operand} {ts:Array TypeId} (ho:o.op=.call { callee:=.value fop,args:=as,argTypes:=ts })
  {rd:Operand→AV} {H:Heap} {nx:Nat} {f:FuncId} {first cap:List AV} (hf:rd fop=.fn (.func f) first cap) {touch:List Nat} {Rr:Res→Prop} (hc:CallSem P f (first++as.toList.map rd++cap) H nx touch Rr) :
  OpSemR P o ((fop::as.toList).map fun y=>(y,true,rd y)) H nx touch Rr:=by
 intro m S w a H₂ K Q hG ht hfree hus hK
 have hfn:RelV m S w (a.eval fop) (rd fop):=hus (fop,true,rd fop) (by simp) rfl
 rw [hf] at hfn
 obtain ⟨fs,cs,hv,hfl,hcl,r1,r3⟩:=relV_fn hfn
 obtain ⟨⟨fn,hfun,hbody,hname⟩,hcall⟩:=hc
 have hvs:(fs++as.map a.eval++cs)=(fs.toList++as.toList.map a.eval++cs.toList).toArray:=by
  apply Array.ext'
  simp
 have hexec:(execOp a.eval o).run P w=.ok (.enter f (fs.toList++as.toList.map a.eval++cs.toList).toArray) w:=by
  exact zt36
 have r2:∀ (j:Nat) (c:Value) (p:AV),(as.toList.map a.eval)[j]?=some c→(as.toList.map rd)[j]?=some p→RelV m S w c p:=by
  exact zt14
 unfold Oper.wp
 rw [hexec,Oper.upon_enter]
 refine (hcall m S w H₂ _ hG ht hfree (by simp [hfl,hcl]) (list3_get (by simpa using hfl) (by simp) (fun j c p h=>r1 j c p zp19) r2 (fun j c p h=>r3 j c p zp19))).mono ?_
 rintro e w' ⟨v,r,m',S',rfl,hR,hE,hV⟩
 exact hK r hR v m' S' w' hE hV
def OpSemX [Tabs] (P:Program) (px:List PanicEntry→Prop) (o:Oper) (us:Uses) (H:Heap) (nx:Nat) (touch:List Nat) (Rr:Res→Prop):Prop :=
 ∀ (m:Ids) (S:Blocks) (w:World) (a:Act) (H₂:Heap) (K:Act→World→Prop) (Q:Exit→Act→World→Prop),
  Good m S w H₂→(∀ id∈touch,lkH H₂ id=lkH H id)→(∀ i,nx≤i→(∃ r,Rr r∧i<r.nx)→m i=none) →
  (∀ u∈us,u.2.1=true→RelV m S w (a.eval u.1) u.2.2) →
  (∀ r,Rr r→∀ v m' S' w',Ext m S w H₂ nx r.nx m' S' w' (r.wr++H₂)→RelV m' S' w' v r.v→K (a.put o.dst v) w') →
  (∀ ch,px ch→∀ m' S' w' wr,Ext m S w H₂ nx nx m' S' w' (wr++H₂)→Q (.panic ch) a w') →
  o.wp P a w K Q
theorem OpSemR.toX [Tabs] {P:Program} {px:List PanicEntry→Prop} {o:Oper} {us:Uses} {H:Heap} {nx:Nat} {touch:List Nat} {Rr:Res→Prop} (h:OpSemR P o us H nx touch Rr):OpSemX P px o us H nx touch Rr :=
 fun m S w a H₂ K Q hG ht hf hu hK _=>h m S w a H₂ K Q hG ht hf hu hK
def CallSemX [Tabs] (P:Program) (f:FuncId) (avs:List AV) (H:Heap) (nx:Nat) (touch:List Nat) (Rr:Res→Prop) (Px:List PanicEntry→Prop):Prop :=
 FnOk P f∧∀ (m:Ids) (S:Blocks) (w:World) (H₂:Heap) (vs:List Value),Good m S w H₂→(∀ id∈touch,lkH H₂ id=lkH H id)→(∀ i,nx≤i→(∃ r,Rr r∧i<r.nx)→m i=none) →
  vs.length=avs.length→(∀ (j:Nat) (v:Value) (a:AV),vs[j]?=some v→avs[j]?=some a→RelV m S w v a) →
  Calls P f vs.toArray w fun e w'=>(∃ v r m' S',e=.returned v∧Rr r∧Ext m S w H₂ nx r.nx m' S' w' (r.wr++H₂)∧RelV m' S' w' v r.v) ∨
   (∃ ch m' S' wr,e=.panicked ch∧Px ch∧Ext m S w H₂ nx nx m' S' w' (wr++H₂))
theorem sem_callx [Tabs] {P:Program} {px Px:List PanicEntry→Prop} {o:Oper} {fop:Operand} {as:Array Operand} {ts:Array TypeId} (ho:o.op=.call { callee:=.value fop,args:=as,argTypes:=ts })
  {rd:Operand→AV} {H:Heap} {nx:Nat} {f:FuncId} {first cap:List AV} (hf:rd fop=.fn (.func f) first cap) {touch:List Nat} {Rr:Res→Prop} (hc:CallSemX P f (first++as.toList.map rd++cap) H nx touch Rr Px)
  (hp:∀ ch,Px ch→px ch):OpSemX P px o ((fop::as.toList).map fun y=>(y,true,rd y)) H nx touch Rr:=by
 intro m S w a H₂ K Q hG ht hfree hus hK hP
 have hfn:RelV m S w (a.eval fop) (rd fop):=hus (fop,true,rd fop) (by simp) rfl
 rw [hf] at hfn
 obtain ⟨fs,cs,hv,hfl,hcl,r1,r3⟩:=relV_fn hfn
 obtain ⟨⟨fn,hfun,hbody,hname⟩,hcall⟩:=hc
 have hvs:(fs++as.map a.eval++cs)=(fs.toList++as.toList.map a.eval++cs.toList).toArray:=by
  apply Array.ext'
  simp
 have hexec:(execOp a.eval o).run P w=.ok (.enter f (fs.toList++as.toList.map a.eval++cs.toList).toArray) w:=by
  exact zt36
 have r2:∀ (j:Nat) (c:Value) (p:AV),(as.toList.map a.eval)[j]?=some c→(as.toList.map rd)[j]?=some p→RelV m S w c p:=by
  exact zt14
 unfold Oper.wp
 rw [hexec,Oper.upon_enter]
 refine (hcall m S w H₂ _ hG ht hfree (by simp [hfl,hcl]) (list3_get (by simpa using hfl) (by simp) (fun j c p h=>r1 j c p zp19) r2 (fun j c p h=>r3 j c p zp19))).mono ?_
 rintro e w' (⟨v,r,m',S',rfl,hR,hE,hV⟩ | ⟨ch,m',S',wr,rfl,hp',hE⟩)
 ·exact hK r hR v m' S' w' hE hV
 ·exact hP ch (hp ch hp') m' S' w' wr hE
def trees1:List AV→Bool
 | []=>true
 | a::l=>match a.tree1 with
  | true=>trees1 l
  | false=>false
theorem trees1_spec:∀ {l:List AV},trees1 l=true→∀ a∈l,a.tree1=true
 | [],_,a,h=>by simp at h
 | b::l,h,a,ha=>by
  unfold trees1 at h
  split at h
  ·rename_i hb
   rcases List.mem_cons.1 ha with rfl | ha
   ·exact hb
   ·exact trees1_spec h a ha
  ·cases h
def evMakeI (T:Tab) (t:TypeId) (x:AV) (k:AV→Prop):Prop :=
 match lkT T t with
 | some ⟨.struct _,_,_,_⟩=>match x with
  | .agg l=>match trees1 l with
   | true=>k (.ival t l)
   | false=>False
  | _=>False
 | _=>False
theorem evMakeI_sound [Tabs] {P:Program} {T:Tab} (hT:TabOk P T) {rd:Operand→AV} {H:Heap} {nx:Nat} {t:TypeId} {x:Operand} {o:Oper} (ho:o.op=.makeInterface t x) {k:Res→Prop}
  (h:evMakeI T t (rd x) fun v=>k ⟨v,[],[],nx⟩):∃ r,OpSemP P o [(x,true,rd x)] H nx r∧(r.wr=[]∧r.nx=nx)∧k r:=by
 unfold evMakeI at h
 split at h
 ·rename_i fs s b0 z hi
  obtain ⟨hu,_⟩:=hT t _ hi
  split at h
  ·rename_i l hl
   split at h
   ·rename_i htr
    refine ⟨_,opsem_pure fun m S w a H₂ hG ht hus=>?_,⟨rfl,rfl⟩,h⟩
    have hx:RelV m S w (a.eval x) (rd x):=hus (x,true,rd x) (by simp) rfl
    rw [hl] at hx
    obtain ⟨cs,hv,hlen,hrel⟩:=relV_agg hx
    refine ⟨.iface t (.agg cs),fun w' _=>?_,.t _ _ (.ival t cs l hlen fun j c b hj hb=>?_)⟩
    ·have hr:(Instr.makeInterface t (.agg cs)).run P w'=.ok (.iface t (.agg cs)) w':=by
      unfold Instr.makeInterface
      simp [run_underlying hu]
     unfold execOp
     simp [ho,hv,hr]
    ·have h1:=trees1_spec htr b (List.mem_of_getElem? hb)
     exact (hrel j c b hj hb).toT (by cases b<;>simp_all [AV.tree,AV.tree1,AV.tree0])
   ·exact h.elim
  ·exact h.elim
 ·exact h.elim
def evAssert (T:Tab) (t:TypeId) (x:AV) (k:AV→Prop):Prop :=
 match lkT T t with
 | some ⟨.struct _,_,_,z⟩=>match x with
  | .ival u l=>match Nat.beq u t with
   | true=>k (.tup [.agg l,.bool true])
   | false=>False
  | .ifc true=>k (.tup [avOf z,.bool false])
  | _=>False
 | _=>False
theorem evAssert_sound [Tabs] {P:Program} {T:Tab} (hT:TabOk P T) {rd:Operand→AV} {H:Heap} {nx:Nat} {t xt:TypeId} {x:Operand} {o:Oper} (ho:o.op=.typeAssert x xt t true) {k:Res→Prop}
  (h:evAssert T t (rd x) fun v=>k ⟨v,[],[],nx⟩):∃ r,OpSemP P o [(x,true,rd x)] H nx r∧(r.wr=[]∧r.nx=nx)∧k r:=by
 unfold evAssert at h
 split at h
 ·rename_i fs s b0 z hi
  obtain ⟨hu,j,hj,_,_,hz⟩:=hT t _ hi
  have hzero:∀ w':World,(zeroValue t).run P w'=.ok z w':=fun w'=>by simp [zeroValue,typeInfo,hj,hz]
  split at h
  ·rename_i u l hl
   split at h
   ·rename_i hut
    have:=Nat.eq_of_beq_eq_true hut
    subst this
    refine ⟨_,opsem_pure fun m S w a H₂ hG ht hus=>?_,⟨rfl,rfl⟩,h⟩
    have hx:RelV m S w (a.eval x) (rd x):=hus (x,true,rd x) (by simp) rfl
    rw [hl] at hx
    generalize hv:a.eval x=v at hx
    cases hx with
    | t _ _ hx=>cases hx with
     | ival _ cs _ hlen hrel =>
      refine ⟨.tuple #[.agg cs,.bool true],fun w' _=>?_,.t _ _ (.tup _ _ rfl fun j c b hjc hb=>?_)⟩
      ·unfold execOp Instr.typeAssert
       simp [ho,hv,run_underlying hu]
      ·match j with
       | 0=>simp at hjc hb;subst hjc;subst hb;exact .agg cs l hlen hrel
       | 1=>simp at hjc hb;subst hjc;subst hb;exact .bool _
       | n+2=>simp at hjc
   ·exact h.elim
  ·rename_i hl
   refine ⟨_,opsem_pure fun m S w a H₂ hG ht hus=>?_,⟨rfl,rfl⟩,h⟩
   have hx:RelV m S w (a.eval x) (rd x):=hus (x,true,rd x) (by simp) rfl
   rw [hl] at hx
   generalize hv:a.eval x=v at hx
   cases hx with
   | t _ _ hx=>cases hx with
    | ifc0 =>
     refine ⟨.tuple #[z,.bool false],fun w' _=>?_,.t _ _ (.tup _ _ rfl fun j c b hjc hb=>?_)⟩
     ·unfold execOp Instr.typeAssert
      simp [ho,hv,run_underlying hu,hzero]
     ·match j with
      | 0=>simp at hjc hb;subst hjc;subst hb;exact relT_avOf S w z
      | 1=>simp at hjc hb;subst hjc;subst hb;exact .bool _
      | n+2=>simp at hjc
  ·exact h.elim
 ·exact h.elim
inductive PanG (px:List PanicEntry→Prop) (x:AV):Prop
 | mk (t:TypeId) (l:List AV) (hx:x=.ival t l) (h:∀ (S:Blocks) (w:World) (cs:Array Value),RelT S w (.agg cs) (.agg l)→px [{ v:=.iface t (.agg cs),recovered:=false }])
theorem evPanic_sound [Tabs] {P:Program} {px:List PanicEntry→Prop} {rd:Operand→AV} {H:Heap} {nx:Nat} {x:Operand} {o:Oper} (ho:o.op=.panic x) (h:PanG px (rd x)) :
  OpSemX P px o [(x,true,rd x)] H nx [] (fun _=>False):=by
 intro m S w a H₂ K Q hG ht hfree hus hK hP
 obtain ⟨t,l,hx,h⟩:=h
 have hv:RelV m S w (a.eval x) (rd x):=hus (x,true,rd x) (by simp) rfl
 rw [hx] at hv
 generalize hv2:a.eval x=v at hv
 cases hv with
 | t _ _ hv=>cases hv with
  | ival _ cs _ hlen hrel =>
   have hr:(execOp a.eval o).run P w=.halt (.panic (.iface t (.agg cs))) w:=by
    unfold execOp Instr.panic
    simp [ho,hv2,goPanic]
   unfold Oper.wp
   rw [hr,Oper.upon_panic]
   exact hP _ (h S w cs (.agg cs l hlen hrel)) m S w [] (Ext.refl hG nx)
def evMakeSlice (T:Tab) (nx:Nat) (t:TypeId) (x y:AV) (k:Res→Prop):Prop:=False
theorem evMakeSlice_sound [Tabs] {P:Program} {T:Tab} (hT:TabOk P T) {rd:Operand→AV} {H:Heap} {nx:Nat} {t:TypeId} {x y:Operand} {o:Oper} (ho:o.op=.makeSlice t x y) {k:Res→Prop}
  (h:evMakeSlice T nx t (rd x) (rd y) k):∃ r,OpSem P o [(x,true,rd x),(y,true,rd y)] H nx r∧nx≤r.nx∧k r:=(show False from h).elim
def frz0 (H:Heap):AV→AV
 | .own id=>match lkH H id with
  | .lst _ E l=>.lsl E l
  | .row _ E enc d xs=>.sl E enc d xs
  | _=>.own id
 | .pre id n=>match lkH H id with
  | .lst _ E l=>.lsl E (l.take n)
  | .row _ E enc d xs=>.sl E enc d (xs.take n)
  | _=>.pre id n
 | v=>v
def frz0I:AV→List Nat
 | .own id=>[id]
 | .pre id _=>[id]
 | _=>[]
def frzV (H:Heap):AV→AV
 | .agg l=>.agg (l.map (frz0 H))
 | v=>frz0 H v
def frzI:AV→List Nat
 | .agg l=>l.flatMap frz0I
 | v=>frz0I v
theorem frz0_rel [Tabs] {m:Ids} {S S':Blocks} {w:World} {H H₂:Heap} {u:Value} {v:AV} (hG:Good m S w H₂) (ht:∀ id∈frz0I v,lkH H₂ id=lkH H id) (hS:∀ g,S g→S' g) (hl:∀ g,lent m H₂ (frz0I v) g→S' g)
  (h:RelV m S w u v):RelV m S' w u (frz0 H v):=by
 have same:RelV m S' w u v:=h.mono (fun _ _ h=>h) hS (fun _ _=>rfl)
 unfold frz0
 split
 ·rename_i id
  have hid:=ht id (by simp [frz0I])
  split
  ·rename_i e E l hc
   obtain ⟨v',vs,hmi,hrow⟩:=own_row (s:=.lst l) hG hid hc
   cases h with
   | t _ _ h=>cases h
   | own id n cap a hm =>
    rw [hmi] at hm
    cases hm
    exact .t _ _ (hrow.lent hS fun g hg=>hl g ⟨id,_,by simp [frz0I],by rw [hid,hc];rfl,hmi,hg⟩)
  ·rename_i T' e E enc d xs hc
   obtain ⟨v',vs,hmi,hrow⟩:=own_row (s:=.row enc d xs) hG hid hc
   cases h with
   | t _ _ h=>cases h
   | own id n cap a hm =>
    rw [hmi] at hm
    cases hm
    exact .t _ _ (.sl _ _ _ _ _ (hrow.lent hS fun g hg=>hl g ⟨id,_,by simp [frz0I],by rw [hid,hc];rfl,hmi,hg⟩))
  ·exact same
 ·rename_i id n
  have hid:=ht id (by simp [frz0I])
  split
  ·rename_i e E l hc
   obtain ⟨v',vs,hmi,hrow⟩:=own_row (s:=.lst l) hG hid hc
   cases h with
   | t _ _ h=>cases h
   | pre id n n' cap a hm hle =>
    rw [hmi] at hm
    cases hm
    exact .t _ _ ((hrow.take hle).lent hS fun g hg=>hl g ⟨id,_,by simp [frz0I],by rw [hid,hc];rfl,hmi,by cases a<;>simp_all [blk]⟩)
  ·rename_i T' e E enc d xs hc
   obtain ⟨v',vs,hmi,hrow⟩:=own_row (s:=.row enc d xs) hG hid hc
   cases h with
   | t _ _ h=>cases h
   | pre id n n' cap a hm hle =>
    rw [hmi] at hm
    cases hm
    have:=(hrow.take hle).lent hS fun g hg=>hl g ⟨id,_,by simp [frz0I],by rw [hid,hc];rfl,hmi,by cases a<;>simp_all [blk]⟩
    simp only [Src.list] at this
    rw [← List.map_take] at this
    exact .t _ _ (.sl _ _ _ _ _ this)
  ·exact same
 ·exact same
theorem frzV_rel [Tabs] {m:Ids} {S S':Blocks} {w:World} {H H₂:Heap} {u:Value} {v:AV} (hG:Good m S w H₂) (ht:∀ id∈frzI v,lkH H₂ id=lkH H id) (hS:∀ g,S g→S' g) (hl:∀ g,lent m H₂ (frzI v) g→S' g)
  (h:RelV m S w u v):RelV m S' w u (frzV H v):=by
 unfold frzV
 split
 ·rename_i l
  have main:∀ (cs:Array Value),cs.size=l.length→(∀ (j:Nat) (c:Value) (a:AV),cs[j]?=some c→l[j]?=some a→RelV m S w c a)→RelV m S' w (.agg cs) (.agg (l.map (frz0 H))):=by
   intro cs hcs hr
   refine .agg cs _ (by simpa using hcs) fun j c a hj ha=>?_
   simp only [List.getElem?_map,Option.map_eq_some_iff] at ha
   obtain ⟨a0,ha0,rfl⟩:=ha
   have hmem:∀ id,id∈frz0I a0→id∈frzI (.agg l):=fun id hi=>List.mem_flatMap.2 ⟨a0,List.mem_of_getElem? ha0,hi⟩
   exact frz0_rel hG (fun id hi=>ht id (hmem id hi)) hS (fun g ⟨i,v,hi,h1,h2,h3⟩=>hl g ⟨i,v,hmem i hi,h1,h2,h3⟩) (hr j c a0 hj ha0)
  cases h with
  | t _ _ h=>cases h with
   | agg cs _ hcs hr=>exact main cs hcs fun j c a h1 h2=>.t _ _ (hr j c a h1 h2)
  | agg cs _ hcs hr=>exact main cs hcs hr
 ·rename_i v2 hv
  have hi:frzI v=frz0I v:=by
   cases v<;>first | rfl | (exact (hv _ rfl).elim)
  rw [hi] at ht hl
  exact frz0_rel hG ht hS hl h
theorem lkH_dead (ids:List Nat) (H:Heap) (i:Nat):lkH (ids.map (fun i=>(i,AB.dead))++H) i=if i∈ids then .dead else lkH H i:=by
 induction ids with
 | nil=>simp
 | cons j ids ih =>
  rw [List.map_cons,List.cons_append,lkH_cons,ih]
  by_cases e:j=i
  ·subst e;simp
  ·rw [if_neg e]
   have:i≠j:=fun h=>e h.symm
   simp [this]
theorem good_freeze [Tabs] {m:Ids} {S:Blocks} {w:World} {H:Heap} (h:Good m S w H) (ids:List Nat):Good m (fun g=>S g∨lent m H ids g) w (ids.map (fun i=>(i,AB.dead))++H):=by
 have live:∀ i,(lkH (ids.map (fun i=>(i,AB.dead))++H) i).live=true→i∉ids∧(lkH H i).live=true:=by
  intro i hl
  rw [lkH_dead] at hl
  by_cases e:i∈ids
  ·rw [if_pos e] at hl;cases hl
  ·rw [if_neg e] at hl;exact ⟨e,hl⟩
 refine ⟨fun id=>?_,fun i j vi vj k hi hj=>h.sep i j vi vj k (live i hi).2 (live j hj).2,fun g hg=>?_,h.tab.mono (fun _ h=>.inl h) fun _ _=>rfl⟩
 ·rw [lkH_dead]
  split
  ·trivial
  ·exact (h.rel id).mono (fun _ _ h=>h) (fun _ h=>.inl h) (fun _ _=>rfl) (fun _ _ _ _ _=>rfl)
 ·rcases hg with hg | ⟨i0,v0,hi0,hl0,hm0,hb0⟩
  ·exact ⟨(h.ro g hg).1,fun i v hl=>(h.ro g hg).2 i v (live i hl).2⟩
  ·refine ⟨h.blk_lt hl0 hm0 hb0,fun i v hl hm hb=>?_⟩
   have:=h.sep i i0 v v0 g (live i hl).2 hl0 hm hm0 hb hb0
   subst this
   exact (live i hl).1 hi0
theorem zt16 {p:Prop}(h:p:=by
 have hown:∀ g,own m (ids.map (fun i=>(i,AB.dead))++H₂) g→own m H₂ g:=by
  rintro g ⟨i,v,hl,hm,hb⟩
  rw [lkH_dead] at hl
  by_cases e:i∈ids
  ·rw [if_pos e] at hl;cases hl
  ·rw [if_neg e] at hl;exact ⟨i,v,hl,hm,hb⟩
 refine hK v m' S' w' ⟨hE.ids,hE.same,fun g hg=>hE.ros g (.inl hg),fun g hg=>?_,⟨hE.far.os,hE.far.tape,hE.far.output,hE.far.size,fun k hk hn=>hE.far.block k hk fun ho=>hn (hown k ho)⟩,fun k hk=>?_,by rw [List.append_assoc];exact hE.good⟩ hV
 ·rcases hE.fresh g hg with (h | ⟨i,v,hi,h1,h2,h3⟩) | h | h
  ·exact .inl h
  ·exact .inr (.inl ⟨i,v,h1,h2,h3⟩)
  ·exact .inr (.inl (hown g h))
  ·exact .inr (.inr h)
 ·rcases hE.owns k (by rw [← List.append_assoc];exact hk) with h | h
  ·exact .inl (hown k h)
  ·exact .inr h):p:=h
theorem opsem_freeze [Tabs] {P:Program} {o:Oper} {l:List Operand} {rd:Operand→AV} {H:Heap} {nx:Nat} {r:Res} {ids:List Nat} (hids:∀ x∈l,∀ id∈frzI (rd x),id∈ids)
  (h:OpSem P o (l.map fun x=>(x,true,frzV H (rd x))) H nx r) (ht0:r.touch=[]):OpSem P o (l.map fun x=>(x,true,rd x)) H nx ⟨r.v,ids,r.wr++ids.map (fun i=>(i,AB.dead)),r.nx⟩:=by
 intro m S w a H₂ K Q hG ht hfree hus hK
 refine h m (fun g=>S g∨lent m H₂ ids g) w a (ids.map (fun i=>(i,AB.dead))++H₂) K Q (good_freeze hG ids) (by rw [ht0];simp) hfree (fun u hu _=>?_) (fun v m' S' w' hE hV=>?_)
 ·obtain ⟨x,hx,rfl⟩:=List.mem_map.1 hu
  exact frzV_rel hG (fun id hi=>ht id (hids x hx id hi)) (fun _ h=>.inl h) (fun g ⟨i,v,hi,h1,h2,h3⟩=>.inr ⟨i,v,hids x hx i hi,h1,h2,h3⟩) (hus (x,true,rd x) (List.mem_map.2 ⟨x,hx,rfl⟩) rfl)
 ·exact zt16
def isPtrs:List (Nat×AV)→Bool
 | (_,.ptr _ _)::_=>true
 | _=>false
def evBuildSliceF (T:Tab) (H:Heap) (nx:Nat) (t:TypeId) (n:Nat) (parts:List (Nat×AV)) (k:Res→Prop):Prop :=
 match isPtrs parts with
 | true=>evBuildSliceP T nx t n parts k
 | false=>match parts.flatMap fun p=>frzI p.2 with
 | []=>evBuildSlice T nx t n parts k
 | i::is=>evBuildSlice T nx t n (parts.map fun p=>(p.1,frzV H p.2)) fun r=>match r.touch with
  | []=>k ⟨r.v,i::is,r.wr++(i::is).map (fun i=>(i,AB.dead)),r.nx⟩
  | _=>False
theorem evBuildSliceF_sound [Tabs] {P:Program} {T:Tab} (hT:TabOk P T) {rd:Operand→AV} {H:Heap} {nx:Nat} {t:TypeId} {n:Nat} {parts:Array (Nat×Operand)} {o:Oper} (ho:o.op=.buildSlice t n parts) {k:Res→Prop}
  (h:evBuildSliceF T H nx t n (parts.toList.map fun p=>(p.1,rd p.2)) k):∃ r,OpSem P o (parts.toList.map fun p=>(p.2,true,rd p.2)) H nx r∧nx≤r.nx∧k r:=by
 unfold evBuildSliceF at h
 split at h
 ·exact evBuildSliceP_sound hT ho h
 split at h
 ·exact evBuildSlice_sound hT ho h
 ·rename_i i is hids
  rw [List.map_map] at h
  obtain ⟨r,h1,h2,h3⟩:=evBuildSlice_sound (rd:=fun x=>frzV H (rd x)) hT ho h
  split at h3
  ·rename_i ht
   refine ⟨_,?_,?_,h3⟩
   ·have:=opsem_freeze (P:=P) (o:=o) (l:=parts.toList.map (·.2)) (rd:=rd) (H:=H) (nx:=nx) (r:=r) (ids:=i::is) (fun x hx id hid=>?_) (by rw [List.map_map];exact h1) ht
    ·rw [List.map_map] at this
     exact this
    ·obtain ⟨p,hp,rfl⟩:=List.mem_map.1 hx
     rw [← hids]
     exact List.mem_flatMap.2 ⟨_,List.mem_map.2 ⟨p,hp,rfl⟩,hid⟩
   ·exact h2
  ·exact h3.elim
def queOf (H:Heap) (x:AV):Option Nat :=none
theorem queOf_own {H:Heap} {x:AV} {id:Nat} (h:queOf H x=some id):x=.own id:=(by have h0:(none:Option Nat)=some id:=h;cases h0)
def evAppendQ (T:Tab) (H:Heap) (nx:Nat) (t:TypeId) (id:Nat) (x:AV) (k:Res→Prop):Prop:=False
theorem evAppendQ_sound [Tabs] {P:Program} {T:Tab} (hT:TabOk P T) {rd:Operand→AV} {H:Heap} {nx id:Nat} {t:TypeId} {s x:Operand} {o:Oper}
  (ho:o.op=.call { callee:=.builtin .append,args:=#[s,x],argTypes:=#[t,t] }) (hs:rd s=.own id) {k:Res→Prop}
  (h:evAppendQ T H nx t id (rd x) k):∃ r,OpSem P o [(s,true,rd s),(x,true,rd x)] H nx r∧nx≤r.nx∧k r:=(show False from h).elim
def evSliceQ (T:Tab) (H:Heap) (nx:Nat) (t:TypeId) (id:Nat) (lo hi:Option AV) (k:Res→Prop):Prop:=False
theorem QueRel.drop {S:Blocks} {w:World} {e E:Nat} {l:List AV} {g o cap:Nat} {cur:Array Value} (h:QueRel S w e E l g o cap cur) {n:Nat} (hn:n≤l.length) :
  QueRel S w e E (l.drop n) g (if cap=n then o else o+n*E) (cap-n) cur:=by
 have hr:=h.room
 have hl:=h.len
 have hsub:n*E+(cap-n)*E=cap*E:=by rw [← Nat.add_mul];congr 1;omega
 refine ⟨h.at_,by rw [List.length_drop];omega,Nat.le_trans (Nat.sub_le _ _) h.max,?_,fun x hx=>h.size x (List.mem_of_mem_drop hx),fun a ha=>?_,fun j c a hj ha=>?_⟩
 ·split
  ·rename_i e
   subst e
   rw [Nat.sub_self,Nat.zero_mul]
   omega
  ·omega
 ·rw [flat_drop _ _ h.size] at ha
  exact h.ones a (List.mem_of_mem_drop ha)
 ·rw [flat_drop _ _ h.size] at ha
  rw [List.getElem?_drop] at ha
  split at hj
  ·rename_i e
   subst e
   have:=(List.getElem?_eq_some_iff.1 ha).1
   rw [flat_length l h.size] at this
   have:l.length*E≤cap*E:=Nat.mul_le_mul_right _ hl
   omega
  ·exact h.rel (n*E+j) c a (by rw [← Nat.add_assoc];exact hj) ha
theorem evSliceQ_sound [Tabs] {P:Program} {T:Tab} (hT:TabOk P T) {rd:Operand→AV} {H:Heap} {nx id:Nat} {t:TypeId} {x:Operand} {lo hi:Option Operand} {o:Oper} (ho:o.op=.slice t x lo hi none) (hx0:rd x=.own id) {k:Res→Prop}
  (h:evSliceQ T H nx t id (lo.map rd) (hi.map rd) k):∃ r,OpSem P o (optUses rd x lo hi) H nx r∧nx≤r.nx∧k r:=(show False from h).elim
def evIndexAddrQ (T:Tab) (g:Option Bool) (H:Heap) (nx:Nat) (t:TypeId) (id:Nat) (i:AV) (k:Res→Prop):Prop:=False
theorem evIndexAddrQ_sound [Tabs] {P:Program} {T:Tab} (hT:TabOk P T) {g:Option Bool} {rd:Operand→AV} {H:Heap} {nx id:Nat} {t:TypeId} {x i:Operand} {o:Oper} (ho:o.op=.indexAddr t x i) (hx0:rd x=.own id) {k:Res→Prop}
  (h:evIndexAddrQ T g H nx t id (rd i) k):∃ r,(gOk g→OpSemP P o [(x,true,rd x),(i,true,rd i)] H nx r)∧(r.wr=[]∧r.nx=nx)∧k r:=(show False from h).elim
def evLenQ (T:Tab) (H:Heap) (nx:Nat) (t:TypeId) (id:Nat) (k:Res→Prop):Prop:=False
theorem evLenQ_sound [Tabs] {P:Program} {T:Tab} (hT:TabOk P T) {rd:Operand→AV} {H:Heap} {nx id:Nat} {t:TypeId} {x:Operand} {o:Oper}
  (ho:o.op=.call { callee:=.builtin .len,args:=#[x],argTypes:=#[t] }) (hx0:rd x=.own id) {k:Res→Prop}
  (h:evLenQ T H nx t id k):∃ r,OpSemP P o [(x,true,rd x)] H nx r∧(r.wr=[]∧r.nx=nx)∧k r:=(show False from h).elim
def LeT (a b:AV):Prop:=∀ (S:Blocks) (w:World) (v:Value),RelT S w v a→RelT S w v b
theorem opsem_freeze2 [Tabs] {P:Program} {o:Oper} {l:List Operand} {rd:Operand→AV} {H:Heap} {nx:Nat} {r:Res} {ids:List Nat} (hids:∀ x∈l,∀ id∈frzI (rd x),id∈ids)
  (h:OpSem P o (l.map fun x=>(x,true,frzV H (rd x))) H nx r) (ht0:∀ id∈r.touch,id∉ids):OpSem P o (l.map fun x=>(x,true,rd x)) H nx ⟨r.v,r.touch++ids,r.wr++ids.map (fun i=>(i,AB.dead)),r.nx⟩:=by
 intro m S w a H₂ K Q hG ht hfree hus hK
 refine h m (fun g=>S g∨lent m H₂ ids g) w a (ids.map (fun i=>(i,AB.dead))++H₂) K Q (good_freeze hG ids) (fun id hid=>?_) hfree (fun u hu _=>?_) (fun v m' S' w' hE hV=>?_)
 ·rw [lkH_dead,if_neg (ht0 id hid)]
  exact ht id (List.mem_append.2 (.inl hid))
 ·obtain ⟨x,hx,rfl⟩:=List.mem_map.1 hu
  exact frzV_rel hG (fun id hi=>ht id (List.mem_append.2 (.inr (hids x hx id hi)))) (fun _ h=>.inl h) (fun g ⟨i,v,hi,h1,h2,h3⟩=>.inr ⟨i,v,hids x hx i hi,h1,h2,h3⟩) (hus (x,true,rd x) (List.mem_map.2 ⟨x,hx,rfl⟩) rfl)
 ·exact zt16
def notIns:List Nat→List Nat→Bool
 | [],_=>true
 | i::l,ids=>match notIn i ids with
  | true=>notIns l ids
  | false=>false
theorem notIns_spec {ids:List Nat}:∀ {l:List Nat},notIns l ids=true→∀ i∈l,i∉ids
 | [],_,i,h=>by simp at h
 | j::l,h,i,hi=>by
  unfold notIns at h
  split at h
  ·rename_i hb
   rcases List.mem_cons.1 hi with rfl | hi
   ·intro hm;exact notIn_spec hb _ hm rfl
   ·exact notIns_spec h i hi
  ·cases h
def evStoreF (T:Tab) (H:Heap) (nx:Nat) (t:TypeId) (p v:AV) (k:Res→Prop):Prop :=
 match p with
 | .eptr id E i (q+1)=>match v with
  | .nils=>∃ v',LeT .nils v'∧evStore T H nx t (.eptr id E i (q+1)) v' k
  | _=>match frzI v with
   | []=>evStore T H nx t p v k
   | i::is=>evStore T H nx t p (frzV H v) fun r=>match notIns r.touch (i::is) with
    | true=>k ⟨r.v,r.touch++(i::is),r.wr++(i::is).map (fun i=>(i,AB.dead)),r.nx⟩
    | false=>False
 | .eptr ..=>match frzI v with
  | []=>evStore T H nx t p v k
  | i::is=>evStore T H nx t p (frzV H v) fun r=>match notIns r.touch (i::is) with
   | true=>k ⟨r.v,r.touch++(i::is),r.wr++(i::is).map (fun i=>(i,AB.dead)),r.nx⟩
   | false=>False
 | _=>evStore T H nx t p v k
theorem evStoreF_sound [Tabs] {P:Program} {T:Tab} (hT:TabOk P T) {rd:Operand→AV} {H:Heap} {nx:Nat} {t:TypeId} {x y:Operand} {o:Oper} (ho:o.op=.store t x y) {k:Res→Prop}
  (h:evStoreF T H nx t (rd x) (rd y) k):∃ r,OpSem P o [(x,true,rd x),(y,true,rd y)] H nx r∧nx≤r.nx∧k r:=by
 have frz:∀ (a b c d:Nat),rd x=.eptr a b c d→(match frzI (rd y) with
   | []=>evStore T H nx t (rd x) (rd y) k
   | i::is=>evStore T H nx t (rd x) (frzV H (rd y)) fun r=>match notIns r.touch (i::is) with
    | true=>k ⟨r.v,r.touch++(i::is),r.wr++(i::is).map (fun i=>(i,AB.dead)),r.nx⟩
    | false=>False)→∃ r,OpSem P o [(x,true,rd x),(y,true,rd y)] H nx r∧nx≤r.nx∧k r:=by
  intro a b c d hp h
  split at h
  ·exact evStore_sound hT ho h
  ·rename_i i is hids
   have hp2:frzV H (rd x)=rd x:=by rw [hp];rfl
   obtain ⟨r,h1,h2,h3⟩:=evStore_sound (rd:=fun z=>frzV H (rd z)) hT ho (k:=fun r=>match notIns r.touch (i::is) with
    | true=>k ⟨r.v,r.touch++(i::is),r.wr++(i::is).map (fun i=>(i,AB.dead)),r.nx⟩
    | false=>False) (by rw [hp2];exact h)
   split at h3
   ·rename_i ht
    refine ⟨_,?_,?_,h3⟩
    ·exact opsem_freeze2 (P:=P) (o:=o) (l:=[x,y]) (rd:=rd) (H:=H) (nx:=nx) (r:=r) (ids:=i::is) (fun z hz id hid=>by
      simp only [List.mem_cons,List.not_mem_nil,or_false] at hz
      rcases hz with rfl | rfl
      ·rw [hp] at hid;simp [frzI,frz0I] at hid
      ·rw [← hids];exact hid) h1 (notIns_spec ht)
    ·exact h2
   ·exact h3.elim
 unfold evStoreF at h
 split at h
 ·rename_i a b c d hp
  split at h
  ·rename_i hy
   haveI:∀ z:Operand,Decidable (z=y):=fun _=>Classical.propDecidable _
   obtain ⟨v',hle,h⟩:=h
   obtain ⟨r,h1,h2,h3⟩:=evStore_sound (rd:=fun z=>if z=y then v' else rd z) hT ho (k:=k) (by
    by_cases e:x=y
    ·rw [← e,hp] at hy
     cases hy
    ·simp only [if_neg e,if_true]
     rw [hp]
     exact h)
   have hxy:x≠y:=fun e=>by rw [← e,hp] at hy;cases hy
   refine ⟨r,?_,h2,h3⟩
   intro m S w a₀ H₂ K Q hG ht hf hus hK
   refine h1 m S w a₀ H₂ K Q hG ht hf (fun u hu hu2=>?_) hK
   simp only [List.mem_cons,List.not_mem_nil,or_false,if_neg hxy,if_true] at hu
   rcases hu with rfl | rfl
   ·exact hus _ (by simp) rfl
   ·have:=hus (y,true,rd y) (by simp) rfl
    simp only [hy] at this
    exact .t _ _ (hle _ _ _ (this.toT rfl))
  ·exact frz a b c (d+1) hp h
 ·rename_i a b c d _ hp
  exact frz a b c d hp h
 ·exact evStore_sound hT ho h
structure St:Type 1 where
 env:Env
 heap:Heap
 nx:Nat
structure Lay where
 tmp:Nat
 pol:Bool
 g:Bool
abbrev Loc:=List (Nat×Nat×AV)
def look:Loc→Env→Nat→Nat×AV
 | [],env,s=>(0,lk env s)
 | (i,d,v)::r,env,s=>match Nat.beq i s with
  | true=>(d,v)
  | false=>look r env s
def kill (d:Nat):Loc→Loc
 | []=>[]
 | (i,e,v)::r=>match Nat.ble e d with
  | true=>(i,e,v)::kill d r
  | false=>(i,0,.undef)::kill d r
def topG:List Lay→Option Bool
 | []=>none
 | ⟨_,_,g⟩::_=>some g
def forceL0:List AV→(List AV→Prop)→Prop
 | [],k=>k []
 | a::l,k=>forceL0 l fun l=>k (a::l)
theorem forceL0_iff:∀ {l:List AV} {k:List AV→Prop},forceL0 l k↔k l
 | [],k=>Iff.rfl
 | a::l,k=>by simp only [forceL0,forceL0_iff]
def forceAV (v:AV) (k:AV→Prop):Prop :=
 match v with
 | .undef=>k .undef
 | .bool b=>k (.bool b)
 | .int i n=>k (.int i n)
 | .str l=>k (.str l)
 | .agg l=>k (.agg l)
 | .tup l=>k (.tup l)
 | .nilp=>k .nilp
 | .rop l=>k (.rop l)
 | .nils=>k .nils
 | .lsl E l=>k (.lsl E l)
 | .sl E enc d xs=>k (.sl E enc d xs)
 | .nilm=>k .nilm
 | .rsmap ev dv es=>k (.rsmap ev dv es)
 | .rimap i ev dv es=>k (.rimap i ev dv es)
 | .rgmap i ev dv es=>k (.rgmap i ev dv es)
 | .nilf=>k .nilf
 | .fn f a b=>k (.fn f a b)
 | .ptr id off=>k (.ptr id off)
 | .eptr id E i off=>k (.eptr id E i off)
 | .own id=>k (.own id)
 | .pre id n=>k (.pre id n)
 | .part id E off n=>k (.part id E off n)
 | .map id=>k (.map id)
 | .skip=>k .skip
 | .iarr q n f=>k (.iarr q n f)
 | .qptr id E i=>k (.qptr id E i)
 | .any1=>k .any1
 | .ifc b=>k (.ifc b)
 | .csl id n=>k (.csl id n)
 | .ival t l=>forceL0 l fun l=>k (.ival t l)
 | .sem p=>k (.sem p)
theorem forceAV_iff {v:AV} {k:AV→Prop}:forceAV v k↔k v:=by cases v<;>simp [forceAV,forceL0_iff]
def forceL:List AV→(List AV→Prop)→Prop
 | [],k=>k []
 | a::l,k=>forceAV a fun a=>forceL l fun l=>k (a::l)
theorem forceL_iff:∀ {l:List AV} {k:List AV→Prop},forceL l k↔k l
 | [],k=>Iff.rfl
 | a::l,k=>by simp only [forceL,forceAV_iff,forceL_iff]
def forceAB (b:AB) (k:AB→Prop):Prop :=
 match b with
 | .dead=>k .dead
 | .cells e l=>forceL l fun l=>k (.cells e l)
 | .lst e E l=>k (.lst e E l)
 | .row e E enc d xs=>k (.row e E enc d xs)
 | .smap ev dv es=>k (.smap ev dv es)
 | .imap i ev dv es=>k (.imap i ev dv es)
 | .gmap i ev dv es=>k (.gmap i ev dv es)
 | .arr e q n f=>k (.arr e q n f)
 | .que e E enc d xs=>k (.que e E enc d xs)
theorem forceAB_iff {b:AB} {k:AB→Prop}:forceAB b k↔k b:=by cases b<;>simp [forceAB,forceL_iff]
def forceLoc:Loc→(Loc→Prop)→Prop
 | [],k=>k []
 | (i,d,v)::l,k=>forceLoc l fun l=>k ((i,d,v)::l)
theorem forceLoc_iff:∀ {l:Loc} {k:Loc→Prop},forceLoc l k↔k l
 | [],k=>Iff.rfl
 | (i,d,v)::l,k=>by simp only [forceLoc,forceLoc_iff]
def forceStk:List Lay→(List Lay→Prop)→Prop
 | [],k=>k []
 | ⟨t,p,g⟩::l,k=>forceStk l fun l=>k (⟨t,p,g⟩::l)
theorem forceStk_iff:∀ {l:List Lay} {k:List Lay→Prop},forceStk l k↔k l
 | [],k=>Iff.rfl
 | ⟨t,p,g⟩::l,k=>by simp only [forceStk,forceStk_iff]
def lenK:List Lay→Nat→(Nat→Prop)→Prop
 | [],n,k=>k n
 | _::l,n,k=>lenK l (n+1) k
theorem lenK_iff:∀ {l:List Lay} {n:Nat} {k:Nat→Prop},lenK l n k↔k (n+l.length)
 | [],n,k=>Iff.rfl
 | _::l,n,k=>by rw [lenK,lenK_iff,List.length_cons];rw [show n+1+l.length=n+(l.length+1) by omega]
def pushK:List (Nat×AB)→Heap→(Heap→Prop)→Prop
 | [],H,k=>k H
 | (i,b)::r,H,k=>forceAB b fun b=>pushK r H fun H=>k ((i,b)::H)
theorem pushK_iff:∀ {wr:List (Nat×AB)} {H:Heap} {k:Heap→Prop},pushK wr H k↔k (wr++H)
 | [],H,k=>Iff.rfl
 | (i,b)::r,H,k=>by simp only [pushK,forceAB_iff,pushK_iff];rfl
def popTo (d:Nat):List Lay→List Lay
 | []=>[]
 | l::r=>match Nat.ble (r.length+1) d with
  | true=>l::r
  | false=>popTo d r
def boolEq:Bool→Bool→Bool
 | true,true=>true
 | false,false=>true
 | _,_=>false
def findLay (t:Nat) (pol:Bool):List Lay→Option (List Lay)
 | []=>none
 | l::r=>match Nat.beq l.tmp t&&boolEq l.pol pol with
  | true=>some (l::r)
  | false=>findLay t pol r
def polB:Bool→Bool→Bool
 | true,b=>b
 | false,b=>!b
def andG:List Lay→Bool→Bool
 | [],b=>b
 | ⟨_,_,g⟩::_,b=>g&&b
def enter (all:List Oper) (gd:Option (Nat×Bool)) (loc:Loc) (env:Env) (stk:List Lay) (k:List Lay→Loc→Prop):Prop :=
 match gd with
 | none=>match stk with
  | []=>k [] loc
  | _::_=>forceLoc (kill 0 loc) fun loc=>k [] loc
 | some (j,pol)=>match all[j]? with
  | none=>False
  | some oj=>match oj.dst with
   | none=>False
   | some t=>match findLay t pol stk with
    | some s=>match Nat.beq s.length stk.length with
     | true=>k s loc
     | false=>forceLoc (kill s.length loc) fun loc=>k s loc
    | none=>match look loc env t with
     | (d,.bool b)=>forceStk (popTo d stk) fun p=>match Nat.beq p.length stk.length with
      | true=>k (⟨t,pol,andG p (polB pol b)⟩::p) loc
      | false=>forceLoc (kill p.length loc) fun loc=>k (⟨t,pol,andG p (polB pol b)⟩::p) loc
     | _=>False
structure Cx where
 P:Program
 T:Tab
 N:Nat
 keep:List Nat
 pn:Nat
 wr:Bool
 px:List PanicEntry→Prop
def rdOp (loc:Loc) (env:Env):Operand→AV
 | .tmp s=>(look loc env s).2
 | .const v=>avOf v
 | .global _=>.undef
 | .func f=>.fn (.func f) [] []
theorem gOk_getD {g:Option Bool} (h:g.getD true=true):gOk g:=by
 cases g with
 | none=>trivial
 | some b=>exact h
inductive CallG [Tabs] (P:Program) (px:List PanicEntry→Prop) (f:FuncId) (avs:List AV) (H:Heap) (nx:Nat) (g:Option Bool) (det:Bool) (k:Res→Prop):Prop
 | any (args':List AV) (touch:List Nat) (R:List AR→Prop) (hd:g.getD true=true∧det=false) (hc:APure P f args' R) (hb:BorL (Lend H) avs args' touch) (hflat:touch=[]∨∀ rs,R rs→∀ r∈rs,r.flat)
   (hk:∀ rs,R rs→takeR rs nx [] [] fun vs wr n=>k ⟨valR vs,touch,wr,n⟩)
 | one (args':List AV) (touch:List Nat) (rs:List AR) (hc:gOk g→APure P f args' (fun r=>r=rs)) (hb:BorL (Lend H) avs args' touch) (hflat:touch=[]∨∀ r∈rs,r.flat)
   (hg:g.getD true=true∨tw rs nx=[]) (hk:takeR rs nx [] [] fun vs wr n=>k ⟨valR vs,touch,wr,n⟩)
 | raw (touch:List Nat) (Rr:Res→Prop) (hd:g.getD true=true) (hdet:det=true→∃ r,(∀ r',Rr r'↔r'=r)∧r.touch=touch) (hc:CallSem P f avs H nx touch Rr) (hk:∀ r,Rr r→nx≤r.nx∧k r)
 | pan (touch:List Nat) (Rr:Res→Prop) (Px:List PanicEntry→Prop) (hd:g.getD true=true) (hdet:det=true→∃ r,(∀ r',Rr r'↔r'=r)∧r.touch=touch) (hc:CallSemX P f avs H nx touch Rr Px) (hp:∀ ch,Px ch→px ch) (hk:∀ r,Rr r→nx≤r.nx∧k r)
def un (g:Option Bool) (p:Prop):Prop :=
 match g with
 | none=>p
 | some _=>False
def evCall [Tabs] (C:Cx) (det:Bool) (g:Option Bool) (rd:Operand→AV) (H:Heap) (nx:Nat) (c:Call) (k:Res→Prop):Prop :=
 match c.callee with
 | .builtin .len=>match c.args.toList,c.argTypes.toList with
  | [x],[t]=>match queOf H (rd x) with
   | some id=>evLenQ C.T H nx t id k
   | none=>evLen C.T H nx t (rd x) k
  | _,_=>False
 | .builtin .append=>match c.args.toList,c.argTypes.toList with
  | [s,x],[t,t']=>match Nat.beq t t' with
   | true=>un g (match queOf H (rd s) with
    | some id=>evAppendQ C.T H nx t id (rd x) k
    | none=>evAppend C.T H nx t (rd s) (rd x) k)
   | false=>un g (evAppendS C.T H nx t t' (rd s) (rd x) k)
  | _,_=>False
 | .builtin .unsafeSliceData=>match c.args.toList,c.argTypes.toList with
  | [x],[_]=>un g (evSliceData H nx (rd x) k)
  | _,_=>False
 | .builtin .unsafeString=>match c.args.toList,c.argTypes.toList with
  | [x,y],[pt,_]=>un g (evUStr C.T H nx pt (rd x) (rd y) k)
  | _,_=>False
 | .builtin .min=>match c.args.toList with
  | [x,y]=>evMin false (rd x) (rd y) fun v=>k ⟨v,[],[],nx⟩
  | _=>False
 | .builtin .max=>match c.args.toList with
  | [x,y]=>evMin true (rd x) (rd y) fun v=>k ⟨v,[],[],nx⟩
  | _=>False
 | .value fop=>match rd fop with
  | .fn (.func f) first cap=>forceL (first++c.args.toList.map rd++cap) fun avs=>CallG C.P C.px f avs H nx g det k
  | _=>False
 | _=>False
def evBinO (C:Cx) (det:Bool) (g:Option Bool) (op:BinOp) (t:TypeId) (x y:AV) (c:AV→Prop):Prop :=
 match y with
 | .nils=>match det with
  | true=>evNilG C.T op t x c
  | false=>match g with
   | some _=>evNilG C.T op t x c
   | none=>match lkT C.T t with
    | some ⟨.slice _,_,_,_⟩=>match op with
     | .eql=>evNilS false x c
     | .neq=>evNilS true x c
     | _=>False
    | _=>False
 | _=>match C.wr with
  | false=>evBin2 C.P C.T g op t x y c
  | true=>evBinW C.P C.T g op t x y c
inductive LoadGl [Tabs] (T:Tab) (t:TypeId) (n:Nat) (k:AV→Prop):Prop
 | arr (i:TI) (l:List AV) (Qc:Array Value→Prop) (hi:lkT T t=some i) (ha:isAggD i.desc=true) (hs:i.size=l.length) (hh:Tabs.held n=some Qc)
   (hq:∀ cs,Qc cs→cs.size=l.length∧∀ (S:Blocks) (w:World) (j:Nat) (c:Value) (a:AV),cs[j]?=some c→l[j]?=some a→RelT S w c a) (hk:k (.agg l))
def evLoadX [Tabs] (C:Cx) (g:Option Bool) (rd:Operand→AV) (H:Heap) (nx:Nat) (t:TypeId) (x:Operand) (k:Res→Prop):Prop :=
 match x with
 | .global n=>LoadGl C.T t n fun v=>k ⟨v,[],[],nx⟩
 | x=>evLoad C.T g H nx t (rd x) k
theorem cell_of_any (w:World) (g j:Nat) (cs:Array Value) (e:TypeId) (fz:Nat×Nat) (h:w.heap[g]?=some (.cells cs e fz)):w.cell? ⟨g,j,none⟩=cs[j]?:=by
 simp [World.cell?,h]
theorem evLoadX_sound [Tabs] {C:Cx} (hT:TabOk C.P C.T) {g:Option Bool} {rd:Operand→AV} {H:Heap} {nx:Nat} {t:TypeId} {x:Operand} {o:Oper} (ho:o.op=.load t x) {k:Res→Prop}
  (h:evLoadX C g rd H nx t x k):∃ r,(gOk g→OpSemP C.P o [(x,true,rd x)] H nx r)∧(r.wr=[]∧r.nx=nx)∧k r:=by
 unfold evLoadX at h
 split at h
 ·rename_i n
  cases h with
  | arr i l Qc hi ha hs hh hq hk =>
   obtain ⟨hu,j,hj,hsz,_,_⟩:=hT t i hi
   refine ⟨_,fun _=>opsem_pure fun m S w a H₂ hG ht hus=>?_,⟨rfl,rfl⟩,hk⟩
   obtain ⟨hS,cs,e,fz,hg,hQ⟩:=hG.tab n Qc hh
   obtain ⟨hl,hrel⟩:=hq cs hQ
   refine ⟨.agg cs,fun w' hw'=>?_,.t _ _ (.agg cs l hl fun j c a=>hrel S w j c a)⟩
   unfold execOp
   have hev:a.eval (.global n)=.pointer (some ⟨n,0,none⟩):=rfl
   have:=run_loadVar_mid (P:=C.P) w' n 0 t cs.toList i.desc (fun j v hj=>by
    refine hw'.cell ?_
    rw [cell_of_any w n (0+j) cs e fz hg,Nat.zero_add]
    simpa using hj) hu (by rw [← isAggD_row];exact ha) (by rw [hj];simp [hsz,hl,hs])
   simp only [ho,hev,Instr.loadAt,Instr.sureAddr,Sem.run_bind,Sem.run_pure,Result.andThen_ok,this]
 ·exact evLoad_sound hT ho h
def evSkipG (g:Option Bool) (nx:Nat) (v:AV) (k:Res→Prop) (h:Prop):Prop :=
 match v with
 | .undef=>match g with
  | some false=>k ⟨.undef,[],[],nx⟩
  | _=>h
 | _=>h
theorem evSkipG_sound [Tabs] {P:Program} {g:Option Bool} {nx:Nat} {v:AV} {k:Res→Prop} {h:Prop} {o:Oper} {us:Uses} {H:Heap} (hs:h→∃ r,OpSemP P o us H nx r∧(r.wr=[]∧r.nx=nx)∧k r)
  (hh:evSkipG g nx v k h):∃ r,(gOk g→OpSemP P o us H nx r)∧(r.wr=[]∧r.nx=nx)∧k r:=by
 have main:h→∃ r,(gOk g→OpSemP P o us H nx r)∧(r.wr=[]∧r.nx=nx)∧k r:=fun h=>let ⟨r,h1,h2⟩:=hs h;⟨r,fun _=>h1,h2⟩
 unfold evSkipG at hh
 split at hh
 ·split at hh
  ·exact ⟨_,fun hg=>(by cases hg),⟨rfl,rfl⟩,hh⟩
  ·exact main hh
 ·exact main hh
theorem evSkipG_or {g:Option Bool} {nx:Nat} {v:AV} {k:Res→Prop} {h:Prop} (hh:evSkipG g nx v k h):(g=some false∧k ⟨.undef,[],[],nx⟩)∨h:=by
 unfold evSkipG at hh
 split at hh
 ·split at hh
  ·exact .inl ⟨rfl,hh⟩
  ·exact .inr hh
 ·exact .inr hh
def evOp [Tabs] (C:Cx) (det:Bool) (g:Option Bool) (rd:Operand→AV) (H:Heap) (nx:Nat) (o:Oper) (k:Res→Prop):Prop :=
 match o.op with
 | .move x=>k ⟨rd x,[],[],nx⟩
 | .assign x=>k ⟨rd x,[],[],nx⟩
 | .alloc t=>un g (evAlloc C.T nx t k)
 | .box t x=>un g (evBox nx t (rd x) k)
 | .build t parts=>evBuild C.T nx t (parts.toList.map fun p=>(p.1,rd p.2)) k
 | .buildSlice t n parts=>un g (evBuildSliceF C.T H nx t n (parts.toList.map fun p=>(p.1,rd p.2)) k)
 | .load t x=>evLoadX C g rd H nx t x k
 | .store t x y=>un g (evStoreF C.T H nx t (rd x) (rd y) k)
 | .nilCheck x=>evNilCheck (rd x) fun v=>k ⟨v,[],[],nx⟩
 | .binOp op t x y _=>match isNilX y with
  | true=>evNilX C.T op t y (rd x) fun v=>k ⟨v,[],[],nx⟩
  | false=>evSkipG g nx (rd x) k (evBinO C det g op t (rd x) (rd y) fun v=>k ⟨v,[],[],nx⟩)
 | .lookup t x y ok=>evLookup C.P C.T H nx t (rd x) (rd y) ok k
 | .mapUpdate t x y z=>un g (evMapUpdate C.P C.T H nx t (rd x) (rd y) (rd z) k)
 | .makeMap _ none=>un g (evMakeMap nx k)
 | .makeSlice t x y=>un g (evMakeSlice C.T nx t (rd x) (rd y) k)
 | .unOp op _ x=>match C.wr with
  | false=>evUn g op (rd x) fun v=>k ⟨v,[],[],nx⟩
  | true=>evUnW g op (rd x) fun v=>k ⟨v,[],[],nx⟩
 | .convert s d x=>evConvX C.T g H nx s d (rd x) k
 | .makeFunc fn first cap=>k ⟨.fn fn (first.toList.map rd) (cap.toList.map rd),[],[],nx⟩
 | .slice t x lo hi none=>match queOf H (rd x) with
  | some id=>un g (evSliceQ C.T H nx t id (lo.map rd) (hi.map rd) k)
  | none=>evSlice C.T g H nx t (rd x) (lo.map rd) (hi.map rd) k
 | .fieldAddr t x f=>evFieldAddr C.T nx t (rd x) f k
 | .field t x f=>evSkipG g nx (rd x) k (evField C.T nx t (rd x) f k)
 | .indexAddr t x i=>match queOf H (rd x) with
  | some id=>evIndexAddrQ C.T g H nx t id (rd i) k
  | none=>evIndexAddr C.T g H nx t (rd x) (rd i) k
 | .index t x i=>evIndex C.T g t (rd x) (rd i) fun v=>k ⟨v,[],[],nx⟩
 | .extract x n=>evSkipG g nx (rd x) k (evExtract nx (rd x) n k)
 | .call c=>evCall C det g rd H nx c k
 | .makeInterface t x=>evMakeI C.T t (rd x) fun v=>k ⟨v,[],[],nx⟩
 | .typeAssert x _ t true=>evAssert C.T t (rd x) fun v=>k ⟨v,[],[],nx⟩
 | .panic x=>match det with
  | true=>False
  | false=>un g (PanG C.px (rd x))
 | _=>False
def usesOf (rd:Operand→AV) (o:Oper):Uses:=o.op.operands.toList.map fun y=>(y,true,rd y)
theorem opsem_uses [Tabs] {P:Program} {px:List PanicEntry→Prop} {o:Oper} {us us':Uses} {H:Heap} {nx:Nat} {touch:List Nat} {Rr:Res→Prop} (h:OpSemX P px o us H nx touch Rr) (hu:∀ u∈us,u∈us'):OpSemX P px o us' H nx touch Rr :=
 fun m S w a H₂ K Q hG ht hf hus hK hP=>h m S w a H₂ K Q hG ht hf (fun u hm=>hus u (hu u hm)) hK hP
theorem un_iff {g:Option Bool} {p:Prop}:un g p↔g=none∧p:=by cases g<;>simp [un]
def Shown [Tabs] (P:Program) (px:List PanicEntry→Prop) (det:Bool) (g:Option Bool) (rd:Operand→AV) (H:Heap) (nx:Nat) (o:Oper) (k:Res→Prop):Prop :=
 ∃ touch Rr,(gOk g→OpSemX P px o (usesOf rd o) H nx touch Rr)∧(¬ gOk g→∃ r,(∀ r',Rr r'↔r'=r)∧r.wr=[]∧r.nx=nx)∧(det=true→∃ r,(∀ r',Rr r'↔r'=r)∧r.touch=touch)∧∀ r,Rr r→nx≤r.nx∧k r
theorem shown_pure [Tabs] {P:Program} {px:List PanicEntry→Prop} {det:Bool} {g:Option Bool} {rd:Operand→AV} {H:Heap} {nx:Nat} {o:Oper} {k:Res→Prop} {us:Uses} (hu:∀ u∈us,u∈usesOf rd o)
  (h:∃ r,(gOk g→OpSemP P o us H nx r)∧(r.wr=[]∧r.nx=nx)∧k r):Shown P px det g rd H nx o k:=by
 obtain ⟨r,h1,⟨h2,h3⟩,h4⟩:=h
 exact ⟨r.touch,fun r'=>r'=r,fun hg=>opsem_uses (h1 hg).sem.toR.toX hu,fun _=>⟨r,fun _=>Iff.rfl,h2,h3⟩,fun _=>⟨r,fun _=>Iff.rfl,rfl⟩,fun r' e=>by subst e;exact ⟨Nat.le_of_eq h3.symm,h4⟩⟩
theorem shown_pure' [Tabs] {P:Program} {px:List PanicEntry→Prop} {det:Bool} {g:Option Bool} {rd:Operand→AV} {H:Heap} {nx:Nat} {o:Oper} {k:Res→Prop} {us:Uses} (hu:∀ u∈us,u∈usesOf rd o)
  (h:∃ r,OpSemP P o us H nx r∧(r.wr=[]∧r.nx=nx)∧k r):Shown P px det g rd H nx o k :=
 shown_pure hu (let ⟨r,h1,h2⟩:=h;⟨r,fun _=>h1,h2⟩)
theorem shown_act [Tabs] {P:Program} {px:List PanicEntry→Prop} {det:Bool} {g:Option Bool} {rd:Operand→AV} {H:Heap} {nx:Nat} {o:Oper} {k:Res→Prop} {us:Uses} (hg:g=none) (hu:∀ u∈us,u∈usesOf rd o)
  (h:∃ r,OpSem P o us H nx r∧nx≤r.nx∧k r):Shown P px det g rd H nx o k:=by
 obtain ⟨r,h1,h2,h3⟩:=h
 subst hg
 exact ⟨r.touch,fun r'=>r'=r,fun _=>opsem_uses h1.toR.toX hu,fun h=>(h trivial).elim,fun _=>⟨r,fun _=>Iff.rfl,rfl⟩,fun r' e=>by subst e;exact ⟨h2,h3⟩⟩
theorem Shown.mono [Tabs] {P:Program} {px:List PanicEntry→Prop} {det:Bool} {g:Option Bool} {rd:Operand→AV} {H:Heap} {nx:Nat} {o:Oper} {k k':Res→Prop} (h:Shown P px det g rd H nx o k) (hk:∀ r,k r→k' r):Shown P px det g rd H nx o k' :=
 let ⟨t,R,h1,h2,h3,h4⟩:=h
 ⟨t,R,h1,h2,h3,fun r hr=>⟨(h4 r hr).1,hk r (h4 r hr).2⟩⟩
theorem uses_all {rd:Operand→AV} {o:Oper} {l:List Operand} (h:∀ y∈l,y∈o.op.operands.toList):∀ u∈(l.map fun y=>(y,true,rd y):Uses),u∈usesOf rd o:=by
 intro u hu
 obtain ⟨y,hy,rfl⟩:=List.mem_map.1 hu
 exact List.mem_map.2 ⟨y,h y hy,rfl⟩
theorem zp26 {p:Prop} (h:p:=by rw [hops];simp):p:=h
theorem evCall_sound [Tabs] {C:Cx} (hT:TabOk C.P C.T) {det:Bool} {g:Option Bool} {rd:Operand→AV} {H:Heap} {nx:Nat} {o:Oper} {c:Call} (ho:o.op=.call c) {k:Res→Prop} (h:evCall C det g rd H nx c k):Shown C.P C.px det g rd H nx o k:=by
 obtain ⟨callee,args,ats⟩:=c
 cases callee with
 | invoke r m=>exact h.elim
 | builtin b =>
  have hops:o.op.operands.toList=args.toList:=by rw [ho];simp [Op.operands,Call.operands]
  cases b with
  | len =>
   simp only [evCall] at h
   split at h
   ·rename_i x t hx ht
    have ha:args=#[x]:=by apply Array.ext';simpa using hx
    have hb:ats=#[t]:=by apply Array.ext';simpa using ht
    subst ha
    subst hb
    split at h
    ·rename_i id hq
     exact shown_pure' (uses_all (l:=[x]) zp26) (evLenQ_sound hT ho (queOf_own hq) h)
    ·exact shown_pure' (uses_all (l:=[x]) zp26) (evLen_sound hT ho h)
   ·exact h.elim
  | append =>
   simp only [evCall] at h
   split at h
   ·rename_i s x t t' hx ht
    have ha:args=#[s,x]:=by apply Array.ext';simpa using hx
    have hb:ats=#[t,t']:=by apply Array.ext';simpa using ht
    subst ha
    subst hb
    split at h
    ·rename_i hbeq
     have:=Nat.eq_of_beq_eq_true hbeq
     subst this
     obtain ⟨hg,h⟩:=un_iff.1 h
     split at h
     ·rename_i id hq
      exact shown_act hg (uses_all (l:=[s,x]) zp26) (evAppendQ_sound hT ho (queOf_own hq) h)
     ·exact shown_act hg (uses_all (l:=[s,x]) zp26) (evAppend_sound hT ho h)
    ·obtain ⟨hg,h⟩:=un_iff.1 h
     exact shown_act hg (uses_all (l:=[s,x]) zp26) (evAppendS_sound hT ho h)
   ·exact h.elim
  | unsafeSliceData =>
   simp only [evCall] at h
   split at h
   ·rename_i x t hx ht
    have ha:args=#[x]:=by apply Array.ext';simpa using hx
    have hb:ats=#[t]:=by apply Array.ext';simpa using ht
    subst ha
    subst hb
    obtain ⟨hg,h⟩:=un_iff.1 h
    exact shown_act hg (uses_all (l:=[x]) zp26) (evSliceData_sound ho h)
   ·exact h.elim
  | unsafeString =>
   simp only [evCall] at h
   split at h
   ·rename_i x y t t' hx ht
    have ha:args=#[x,y]:=by apply Array.ext';simpa using hx
    have hb:ats=#[t,t']:=by apply Array.ext';simpa using ht
    subst ha
    subst hb
    obtain ⟨hg,h⟩:=un_iff.1 h
    exact shown_act hg (uses_all (l:=[x,y]) zp26) (evUStr_sound hT ho h)
   ·exact h.elim
  | min =>
   simp only [evCall] at h
   split at h
   ·rename_i x y hx
    have ha:args=#[x,y]:=by apply Array.ext';simpa using hx
    subst ha
    exact shown_pure' (uses_all (l:=[x,y]) zp26) (evMin_sound (isMax:=false) ho h)
   ·exact h.elim
  | max =>
   simp only [evCall] at h
   split at h
   ·rename_i x y hx
    have ha:args=#[x,y]:=by apply Array.ext';simpa using hx
    subst ha
    exact shown_pure' (uses_all (l:=[x,y]) zp26) (evMin_sound (isMax:=true) ho h)
   ·exact h.elim
  | _=>exact h.elim
 | value fop =>
  have hops:o.op.operands.toList=fop::args.toList:=by rw [ho];simp [Op.operands,Call.operands]
  simp only [evCall] at h
  split at h
  ·rename_i f first cap hf
   rw [forceL_iff] at h
   have hu:∀ u∈((fop::args.toList).map fun y=>(y,true,rd y):Uses),u∈usesOf rd o:=uses_all zp26
   cases h with
   | any args' touch R hd hc hb hflat hk =>
    obtain ⟨hd,rfl⟩:=hd
    refine ⟨touch,_,fun _=>opsem_uses (sem_call ho hf hb hc hflat).toX hu,fun h=>(h (gOk_getD hd)).elim,fun h=>(by cases h),?_⟩
    rintro r ⟨rs,hR,rfl⟩
    have:=takeR_eq _ _ _ _ _ (hk rs hR)
    simp only [List.reverse_nil,List.nil_append,List.append_nil] at this
    exact ⟨tn_ge rs nx,this⟩
   | raw touch Rr hd hdet hc hk =>
    exact ⟨touch,Rr,fun _=>opsem_uses (sem_callraw ho hf hc).toX hu,fun h=>(h (gOk_getD hd)).elim,hdet,hk⟩
   | pan touch Rr Px hd hdet hc hp hk =>
    exact ⟨touch,Rr,fun _=>opsem_uses (sem_callx ho hf hc hp) hu,fun h=>(h (gOk_getD hd)).elim,hdet,hk⟩
   | one args' touch rs hc hb hflat hg hk =>
    have hfl:touch=[]∨∀ rs',rs'=rs→∀ r∈rs',r.flat:=by
     rcases hflat with h | h
     ·exact .inl h
     ·exact .inr fun rs' e=>by subst e;exact h
    have hiff:∀ r':Res,(∃ rs',rs'=rs∧r'=⟨valR (tv rs' nx),touch,tw rs' nx,tn rs' nx⟩)↔r'=⟨valR (tv rs nx),touch,tw rs nx,tn rs nx⟩:=by
     intro r'
     constructor
     ·rintro ⟨rs',rfl,rfl⟩;rfl
     ·rintro rfl;exact ⟨rs,rfl,rfl⟩
    have htn:∀ (rs:List AR) (nx:Nat),tw rs nx=[]→tn rs nx=nx:=by
     intro rs
     induction rs with
     | nil=>intro nx _;rfl
     | cons r rs ih =>
      intro nx h
      cases r with
      | val a=>exact ih nx h
      | new b=>simp [tw] at h
    refine ⟨touch,fun r'=>∃ rs',rs'=rs∧r'=⟨valR (tv rs' nx),touch,tw rs' nx,tn rs' nx⟩,fun hg'=>opsem_uses (sem_call ho hf hb (hc hg') hfl).toX hu,fun hne=>⟨⟨valR (tv rs nx),touch,tw rs nx,tn rs nx⟩,hiff,?_,?_⟩,fun _=>⟨⟨valR (tv rs nx),touch,tw rs nx,tn rs nx⟩,hiff,rfl⟩,?_⟩
    ·rcases hg with h | h
     ·exact (hne (gOk_getD h)).elim
     ·exact h
    ·rcases hg with h | h
     ·exact (hne (gOk_getD h)).elim
     ·exact htn rs nx h
    ·rintro r hr
     obtain ⟨rs',rfl,rfl⟩:=hr
     have:=takeR_eq _ _ _ _ _ hk
     simp only [List.reverse_nil,List.nil_append,List.append_nil] at this
     exact ⟨tn_ge rs' nx,this⟩
  ·exact h.elim
theorem evMove_sound [Tabs] {P:Program} {rd:Operand→AV} {H:Heap} {nx:Nat} {x:Operand} {o:Oper} (ho:o.op=.move x∨o.op=.assign x) {k:Res→Prop} (h:k ⟨rd x,[],[],nx⟩) :
  ∃ r,OpSemP P o [(x,true,rd x)] H nx r∧(r.wr=[]∧r.nx=nx)∧k r:=by
 refine ⟨_,opsem_pure fun m S w a H₂ hG ht hus=>⟨a.eval x,fun w' _=>?_,hus (x,true,rd x) (by simp) rfl⟩,⟨rfl,rfl⟩,h⟩
 unfold execOp
 rcases ho with ho | ho<;>simp [ho]
theorem zt52 {p:Prop}(h:p:=by
 obtain ⟨p,hp,rfl⟩:=List.mem_map.1 hu
 exact List.mem_map.2 ⟨p.2,by rw [ho];simp [Op.operands];exact ⟨p.1,by simpa using hp⟩,rfl⟩):p:=h
theorem zt103 {p:Prop}(h:p:=by
 have:optUses rd x lo hi=((x::(lo.toList++hi.toList)).map fun y=>(y,true,rd y)):=rfl
 rw [this]
 exact uses_all (by rw [ho];cases lo<;>cases hi<;>simp [Op.operands])):p:=h
theorem zt179 {p:Prop}(h:p:=by
 exact ⟨[],Rr,fun _=>opsem_uses h1.toX hu,fun h=>(h trivial).elim,fun h=>(by cases h),h2⟩):p:=h
theorem zp10 {p:Prop} (h:p:=by rw [ho];simp [Op.operands]):p:=h
theorem zt171 {p:Prop}(h:p:=by
 exact shown_pure' (uses_all (l:=[x,y]) zp10) (evNilG_sound hT ho hy h)):p:=h
theorem evOp_sound [Tabs] {C:Cx} (hT:TabOk C.P C.T) {det:Bool} {g:Option Bool} {rd:Operand→AV} {H:Heap} {nx:Nat} {o:Oper} {k:Res→Prop} (h:evOp C det g rd H nx o k):Shown C.P C.px det g rd H nx o k:=by
 unfold evOp at h
 split at h
 ·rename_i x ho
  exact shown_pure' (uses_all (l:=[x]) zp10) (evMove_sound (.inl ho) h)
 ·rename_i x ho
  exact shown_pure' (uses_all (l:=[x]) zp10) (evMove_sound (.inr ho) h)
 ·rename_i t ho
  obtain ⟨hg,h⟩:=un_iff.1 h
  exact shown_act hg (by simp) (evAlloc_sound hT ho h)
 ·rename_i t x ho
  obtain ⟨hg,h⟩:=un_iff.1 h
  exact shown_act hg (uses_all (l:=[x]) zp10) (evBox_sound ho h)
 ·rename_i t parts ho
  refine shown_pure' (us:=parts.toList.map fun p=>(p.2,true,rd p.2)) (fun u hu=>?_) (evBuild_sound hT ho h)
  exact zt52
 ·rename_i t n parts ho
  obtain ⟨hg,h⟩:=un_iff.1 h
  refine shown_act (us:=parts.toList.map fun p=>(p.2,true,rd p.2)) hg (fun u hu=>?_) (evBuildSliceF_sound hT ho h)
  exact zt52
 ·rename_i t x ho
  exact shown_pure (uses_all (l:=[x]) zp10) (evLoadX_sound hT ho h)
 ·rename_i t x y ho
  obtain ⟨hg,h⟩:=un_iff.1 h
  exact shown_act hg (uses_all (l:=[x,y]) zp10) (evStoreF_sound hT ho h)
 ·rename_i x ho
  exact shown_pure' (uses_all (l:=[x]) zp10) (evNilCheck_sound ho h)
 ·rename_i op t x y yt ho
  split at h
  ·rename_i hyn
   exact shown_pure' (uses_all (l:=[x,y]) zp10) (evNilX_sound hT ho h)
  rcases evSkipG_or h with ⟨hg0,h⟩ | h
  ·exact ⟨[],fun r'=>r'=⟨.undef,[],[],nx⟩,fun hg=>(by rw [hg0] at hg;cases hg),fun _=>⟨_,fun _=>Iff.rfl,rfl,rfl⟩,fun _=>⟨_,fun _=>Iff.rfl,rfl⟩,fun r' e=>by subst e;exact ⟨Nat.le_refl _,h⟩⟩
  unfold evBinO at h
  split at h
  ·rename_i hy
   split at h
   ·exact zt171
   ·split at h
    ·exact zt171
    have hu:∀ u∈([(x,true,rd x),(y,true,rd y)]:Uses),u∈usesOf rd o:=uses_all (l:=[x,y]) zp10
    split at h
    ·rename_i e a1 a2 a3 hi
     split at h
     ·obtain ⟨Rr,h1,h2⟩:=evNilS_sound (neg:=false) hT ho hy hi h
      exact zt179
     ·obtain ⟨Rr,h1,h2⟩:=evNilS_sound (neg:=true) hT ho hy hi h
      exact zt179
     ·exact h.elim
    ·exact h.elim
  ·split at h
   ·exact shown_pure (uses_all (l:=[x,y]) zp10) (evBin2_sound hT ho h)
   ·exact shown_pure (uses_all (l:=[x,y]) zp10) (evBinW_sound hT ho h)
 ·rename_i t x y ok ho
  exact shown_pure' (uses_all (l:=[x,y]) zp10) (evLookup_sound hT ho h)
 ·rename_i t x y z ho
  obtain ⟨hg,h⟩:=un_iff.1 h
  exact shown_act hg (uses_all (l:=[x,y,z]) zp10) (evMapUpdate_sound hT ho h)
 ·rename_i t ho
  obtain ⟨hg,h⟩:=un_iff.1 h
  exact shown_act hg (by simp) (evMakeMap_sound ho h)
 ·rename_i t x y ho
  obtain ⟨hg,h⟩:=un_iff.1 h
  exact shown_act hg (uses_all (l:=[x,y]) zp10) (evMakeSlice_sound hT ho h)
 ·rename_i op t x ho
  split at h
  ·exact shown_pure (uses_all (l:=[x]) zp10) (evUn_sound ho h)
  ·exact shown_pure (uses_all (l:=[x]) zp10) (evUnW_sound ho h)
 ·rename_i s d x ho
  exact shown_pure (uses_all (l:=[x]) zp10) (evConvX_sound hT ho h)
 ·rename_i fn first cap ho
  exact shown_pure' (uses_all (l:=first.toList++cap.toList) zp10) (evMakeFunc_sound ho h)
 ·rename_i t x lo hi ho
  have hus:∀ u∈optUses rd x lo hi,u∈usesOf rd o:=by
   exact zt103
  split at h
  ·rename_i id hq
   obtain ⟨hg,h⟩:=un_iff.1 h
   exact shown_act hg hus (evSliceQ_sound hT ho (queOf_own hq) h)
  ·exact shown_pure (us:=optUses rd x lo hi) hus (evSlice_sound hT ho h)
 ·rename_i t x f ho
  exact shown_pure' (uses_all (l:=[x]) zp10) (evFieldAddr_sound hT ho h)
 ·rename_i t x f ho
  exact shown_pure (uses_all (l:=[x]) zp10) (evSkipG_sound (evField_sound hT ho) h)
 ·rename_i t x i ho
  split at h
  ·rename_i id hq
   exact shown_pure (uses_all (l:=[x,i]) zp10) (evIndexAddrQ_sound hT ho (queOf_own hq) h)
  ·exact shown_pure (uses_all (l:=[x,i]) zp10) (evIndexAddr_sound hT ho h)
 ·rename_i t x i ho
  exact shown_pure (uses_all (l:=[x,i]) zp10) (evIndex_sound hT ho h)
 ·rename_i x n ho
  exact shown_pure (uses_all (l:=[x]) zp10) (evSkipG_sound (evExtract_sound ho) h)
 ·rename_i c ho
  exact evCall_sound hT ho h
 ·rename_i t x ho
  exact shown_pure' (uses_all (l:=[x]) zp10) (evMakeI_sound hT ho h)
 ·rename_i x xt t ho
  exact shown_pure' (uses_all (l:=[x]) zp10) (evAssert_sound hT ho h)
 ·rename_i x ho
  split at h
  ·exact h.elim
  ·obtain ⟨hg,h⟩:=un_iff.1 h
   subst hg
   have hu:∀ u∈([(x,true,rd x)]:Uses),u∈usesOf rd o:=uses_all (l:=[x]) zp10
   exact ⟨[],fun _=>False,fun _=>opsem_uses (evPanic_sound ho h) hu,fun h=>(h trivial).elim,fun h=>(by cases h),fun r hr=>hr.elim⟩
 ·exact h.elim
def getLay (d:Nat):List Lay→Option Lay
 | []=>none
 | l::r=>if r.length+1=d then some l else getLay d r
def yieldT (tmps:Array Value) (t:Nat):Option Bool :=
 match tmps[t]? with
 | some (.bool b)=>some b
 | _=>none
def allG:List Lay→Prop
 | []=>True
 | l::r=>l.g=true∧allG r
def StkOk (tmps:Array Value):List Lay→Prop
 | []=>True
 | l::r=>StkOk tmps r∧(yieldT tmps l.tmp == some l.pol)=l.g∧(l.g=true→allG r)
def EntRel (m:Ids) (S:Blocks) (w:World) (stk:List Lay) (v:Value):Nat×AV→Prop
 | (0,a)=>RelV m S w v a
 | (d+1,a)=>∃ l,getLay (d+1) stk=some l∧(l.g=true→RelV m S w v a)∧(l.g=false→v=undef)
structure RunI (m:Ids) (S:Blocks) (w:World) (N:Nat) (tmps:Array Value) (loc:Loc) (env:Env) (stk:List Lay):Prop where
 size:tmps.size=N
 rel:∀ s,EntRel m S w stk (tmps.getD s undef) (look loc env s)
 stk:StkOk tmps stk
theorem getLay_le {d:Nat}:∀ {stk:List Lay} {l:Lay},getLay d stk=some l→1≤d∧d≤stk.length
 | [],_,h=>by simp [getLay] at h
 | l'::r,l,h=>by
  unfold getLay at h
  split at h
  ·rename_i e;simp;omega
  ·have:=getLay_le h;simp;omega
theorem getLay_mem {d:Nat}:∀ {stk:List Lay} {l:Lay},getLay d stk=some l→l∈stk
 | [],_,h=>by simp [getLay] at h
 | l'::r,l,h=>by
  unfold getLay at h
  split at h
  ·cases h;simp
  ·exact List.mem_cons.2 (.inr (getLay_mem h))
theorem getLay_suffix {d:Nat} {p s:List Lay} (h:d≤s.length):getLay d (p++s)=getLay d s:=by
 induction p with
 | nil=>rfl
 | cons l p ih =>
  rw [List.cons_append,getLay,if_neg zp21]
  exact ih
theorem StkOk.suffix {tmps:Array Value} {p s:List Lay} (h:StkOk tmps (p++s)):StkOk tmps s:=by
 induction p with
 | nil=>exact h
 | cons l p ih=>exact ih h.1
theorem allG_mem:∀ {stk:List Lay},allG stk→∀ l∈stk,l.g=true
 | [],_,l,h=>by simp at h
 | l'::r,h,l,hl=>by
  rcases List.mem_cons.1 hl with rfl | hl
  ·exact h.1
  ·exact allG_mem h.2 l hl
theorem allG_top {tmps:Array Value} {stk:List Lay} (h:StkOk tmps stk) (hg:gOk (topG stk)):allG stk:=by
 cases stk with
 | nil=>trivial
 | cons l r=>exact ⟨hg,h.2.2 hg⟩
theorem popTo_suffix (d:Nat):∀ (stk:List Lay),∃ p,stk=p++popTo d stk
 | []=>⟨[],rfl⟩
 | l::r=>by
  unfold popTo
  split
  ·exact ⟨[],rfl⟩
  ·obtain ⟨p,hp⟩:=popTo_suffix d r
   exact ⟨l::p,by rw [List.cons_append,← hp]⟩
theorem popTo_len {d:Nat}:∀ (stk:List Lay),d≤stk.length→(popTo d stk).length=d
 | [],h=>by simp at h;subst h;rfl
 | l::r,h=>by
  unfold popTo
  split
  ·rename_i hb
   have:=Nat.le_of_ble_eq_true hb
   simp at h ⊢
   omega
  ·rename_i hb
   have:¬ r.length+1≤d:=fun hle=>by rw [Nat.ble_eq_true_of_le hle] at hb;cases hb
   exact popTo_len r (by omega)
theorem findLay_suffix {t:Nat} {pol:Bool}:∀ {stk s:List Lay},findLay t pol stk=some s→(∃ p,stk=p++s)∧∃ l r,s=l::r∧l.tmp=t∧l.pol=pol
 | [],s,h=>by simp [findLay] at h
 | l::r,s,h=>by
  unfold findLay at h
  split at h
  ·rename_i hb
   cases h
   simp only [Bool.and_eq_true] at hb
   refine ⟨⟨[],rfl⟩,l,r,rfl,Nat.eq_of_beq_eq_true hb.1,?_⟩
   have:=hb.2
   cases hl:l.pol<;>cases pol<;>simp [hl,boolEq] at this ⊢
  ·obtain ⟨⟨p,hp⟩,h2⟩:=findLay_suffix h
   exact ⟨⟨l::p,by rw [List.cons_append,← hp]⟩,h2⟩
theorem look_kill (d:Nat):∀ (loc:Loc) (env:Env) (s:Nat),look (kill d loc) env s=look loc env s∧(look loc env s).1≤d∨look (kill d loc) env s=(0,.undef)
 | [],env,s=>.inl ⟨rfl,Nat.zero_le _⟩
 | (i,e,v)::r,env,s=>by
  by_cases hi:i=s
  ·subst hi
   by_cases hd:e≤d
   ·left
    rw [kill,Nat.ble_eq_true_of_le hd]
    simp [look,hd]
   ·right
    have:Nat.ble e d=false:=by
     cases h:Nat.ble e d with
     | false=>rfl
     | true=>exact (hd (Nat.le_of_ble_eq_true h)).elim
    rw [kill,this]
    simp [look]
  ·have hb:Nat.beq i s=false:=by
    cases h:Nat.beq i s with
    | false=>rfl
    | true=>exact (hi (Nat.eq_of_beq_eq_true h)).elim
   have ih:=look_kill d r env s
   rw [kill]
   cases Nat.ble e d<;>simp only [look,hb]<;>exact ih
theorem RunI.pop {m:Ids} {S:Blocks} {w:World} {N:Nat} {tmps:Array Value} {loc:Loc} {env:Env} {p s:List Lay} (h:RunI m S w N tmps loc env (p++s)):RunI m S w N tmps (kill s.length loc) env s:=by
 refine ⟨h.size,fun x=>?_,h.stk.suffix⟩
 rcases look_kill s.length loc env x with ⟨h1,h2⟩ | h1
 ·rw [h1]
  have hr:=h.rel x
  revert hr h2
  generalize look loc env x=q
  obtain ⟨d,a⟩:=q
  intro h2 hr
  cases d with
  | zero=>exact hr
  | succ d =>
   obtain ⟨l,hl,h3⟩:=hr
   exact ⟨l,by rw [← hl,getLay_suffix h2],h3⟩
 ·rw [h1]
  exact .t _ _ (.undef _)
theorem RunI.push {m:Ids} {S:Blocks} {w:World} {N:Nat} {tmps:Array Value} {loc:Loc} {env:Env} {stk:List Lay} (h:RunI m S w N tmps loc env stk) {l:Lay} (h1:(yieldT tmps l.tmp == some l.pol)=l.g) (h2:l.g=true→allG stk):RunI m S w N tmps loc env (l::stk):=by
 refine ⟨h.size,fun x=>?_,h.stk,h1,h2⟩
 have hr:=h.rel x
 revert hr
 generalize look loc env x=q
 obtain ⟨d,a⟩:=q
 intro hr
 cases d with
 | zero=>exact hr
 | succ d =>
  obtain ⟨l',hl,h3⟩:=hr
  exact ⟨l',by rw [show l::stk=[l]++stk from rfl,getLay_suffix (getLay_le hl).2];exact hl,h3⟩
theorem andG_true {stk:List Lay} {b:Bool} (h:andG stk b=true):gOk (topG stk)∧b=true:=by
 cases stk with
 | nil=>exact ⟨trivial,h⟩
 | cons l r=>obtain ⟨t,p,g⟩:=l;simpa [andG,topG,gOk] using h
theorem yieldT_eq {tmps:Array Value} {t:Nat} {b:Bool} (h:tmps.getD t undef=.bool b):yieldT tmps t=some b:=by
 unfold yieldT
 by_cases hlt:t<tmps.size
 ·simp [Array.getD,hlt] at h ⊢
  simp [h]
 ·simp [Array.getD,hlt,undef] at h
theorem yieldT_undef {tmps:Array Value} {t:Nat} (h:tmps.getD t undef=undef):yieldT tmps t=none:=by
 unfold yieldT
 by_cases hlt:t<tmps.size
 ·simp [Array.getD,hlt] at h ⊢
  simp [h,undef]
 ·simp [hlt]
theorem zt150 {p:Prop}(h:p:=by
 generalize tmps.getD t undef=v at this
 cases this with
 | t _ _ h=>cases h;rfl):p:=h
theorem enter_sound {all:List Oper} {o:Oper} {loc:Loc} {env:Env} {stk:List Lay} {k:List Lay→Loc→Prop} (h:enter all o.guard loc env stk k) {m:Ids} {S:Blocks} {w:World} {N:Nat} {tmps:Array Value} (hr:RunI m S w N tmps loc env stk) :
  ∃ stk' loc',k stk' loc'∧RunI m S w N tmps loc' env stk'∧(Region.wanted o (yielded all.toArray tmps)=true↔gOk (topG stk')) ∧
   (∀ s d v,look loc' env s=(d,v)→d≤stk'.length)∧(∃ p,stk=p++stk'∨∃ l r,stk'=l::r∧stk=p++r):=by
 have hd:∀ {loc:Loc} {stk:List Lay},RunI m S w N tmps loc env stk→∀ s d v,look loc env s=(d,v)→d≤stk.length:=by
  intro loc stk hr s d v hl
  have:=hr.rel s
  rw [hl] at this
  cases d with
  | zero=>omega
  | succ d=>obtain ⟨l,hl,_⟩:=this;exact (getLay_le hl).2
 unfold enter at h
 split at h
 ·rename_i hg
  have hw:Region.wanted o (yielded all.toArray tmps)=true:=by simp [Region.wanted,hg]
  split at h
  ·exact ⟨[],loc,h,hr,⟨fun _=>trivial,fun _=>hw⟩,hd hr,[],.inl rfl⟩
  ·rename_i l r
   have hp:RunI m S w N tmps (kill 0 loc) env []:=by
    have:RunI m S w N tmps loc env ((l::r)++[]):=by simpa using hr
    exact this.pop
   exact ⟨[],_,forceLoc_iff.1 h,hp,⟨fun _=>trivial,fun _=>hw⟩,hd hp,l::r,.inl (by simp)⟩
 ·rename_i j pol hg
  split at h
  ·exact h.elim
  ·rename_i oj hj
   split at h
   ·exact h.elim
   ·rename_i t ht
    have hy:yielded all.toArray tmps j=yieldT tmps t:=by
     unfold yielded yieldT
     simp [hj,ht]
     rfl
    have hwant:∀ {l:Lay} {r:List Lay},l.tmp=t→l.pol=pol→StkOk tmps (l::r)→(Region.wanted o (yielded all.toArray tmps)=true↔gOk (topG (l::r))):=by
     intro l r e1 e2 hs
     have:=hs.2.1
     rw [e1,e2] at this
     simp only [Region.wanted,hg,hy,topG,gOk]
     rw [this]
    split at h
    ·rename_i s hf
     obtain ⟨⟨p,hp⟩,l,r,rfl,e1,e2⟩:=findLay_suffix hf
     have hr':RunI m S w N tmps loc env (p++(l::r)):=by rw [← hp];exact hr
     split at h
     ·rename_i hb
      have hlen:=Nat.eq_of_beq_eq_true hb
      have hp0:p=[]:=by
       have:=congrArg List.length hp
       simp at this hlen
       apply List.eq_nil_of_length_eq_zero
       omega
      subst hp0
      exact ⟨_,_,h,hr',hwant e1 e2 hr'.stk,hd hr',[],.inl hp⟩
     ·exact ⟨_,_,forceLoc_iff.1 h,hr'.pop,hwant e1 e2 hr'.pop.stk,hd hr'.pop,p,.inl hp⟩
    ·split at h
     ·rename_i d b hl
      rw [forceStk_iff] at h
      obtain ⟨p,hp⟩:=popTo_suffix d stk
      have hr':RunI m S w N tmps loc env (p++popTo d stk):=by rw [← hp];exact hr
      have hdl:=hd hr t d _ hl
      have hpl:=popTo_len stk hdl
      -- the guard's own bool
      have hgd:(yieldT tmps t == some pol)=andG (popTo d stk) (polB pol b)∧(andG (popTo d stk) (polB pol b)=true→allG (popTo d stk)):=by
       have hent:=hr.rel t
       rw [hl] at hent
       have hst:StkOk tmps (popTo d stk):=hr'.stk.suffix
       have hpolb:∀ (b:Bool),((some b:Option Bool) == some pol)=polB pol b:=by intro b;cases b<;>cases pol<;>rfl
       refine ⟨?_,fun ha=>allG_top hst (andG_true ha).1⟩
       cases d with
       | zero =>
        have h0:popTo 0 stk=[]:=List.eq_nil_of_length_eq_zero hpl
        rw [h0]
        have:RelV m S w (tmps.getD t undef) (.bool b):=hent
        have hv:tmps.getD t undef=.bool b:=by
         exact zt150
        rw [yieldT_eq hv]
        exact hpolb b
       | succ d =>
        obtain ⟨l,hgl,h1,h2⟩:=hent
        have hgl2:getLay (d+1) (popTo (d+1) stk)=some l:=by
         rw [← getLay_suffix (p:=p) (by rw [hpl];exact Nat.le_refl _),← hp]
         exact hgl
        cases hpop:popTo (d+1) stk with
        | nil=>rw [hpop] at hpl;simp at hpl
        | cons l' r =>
         rw [hpop] at hgl2 hpl
         have:l'=l:=by
          rw [getLay,if_pos (by simpa using hpl)] at hgl2
          cases hgl2
          rfl
         subst this
         simp only [andG]
         cases hlg:l'.g with
         | true =>
          have:=h1 hlg
          have hv:tmps.getD t undef=.bool b:=by
           exact zt150
          rw [yieldT_eq hv]
          simpa using hpolb b
         | false =>
          rw [yieldT_undef (h2 hlg)]
          simp
      have fin:∀ {loc':Loc},RunI m S w N tmps loc' env (popTo d stk)→k (⟨t,pol,andG (popTo d stk) (polB pol b)⟩::popTo d stk) loc' →
        ∃ stk' loc',k stk' loc'∧RunI m S w N tmps loc' env stk'∧(Region.wanted o (yielded all.toArray tmps)=true↔gOk (topG stk')) ∧
         (∀ s d v,look loc' env s=(d,v)→d≤stk'.length)∧(∃ p,stk=p++stk'∨∃ l r,stk'=l::r∧stk=p++r):=by
       intro loc' hr2 hk
       have hpush:=hr2.push (l:=⟨t,pol,andG (popTo d stk) (polB pol b)⟩) hgd.1 hgd.2
       exact ⟨_,_,hk,hpush,hwant rfl rfl hpush.stk,hd hpush,p,.inr ⟨_,_,rfl,hp⟩⟩
      split at h
      ·rename_i hb
       have hlen:=Nat.eq_of_beq_eq_true hb
       have hp0:p=[]:=by
        have:=congrArg List.length hp
        simp at this
        apply List.eq_nil_of_length_eq_zero
        omega
       subst hp0
       exact fin hr' h
      ·exact fin hr'.pop (forceLoc_iff.1 h)
     ·exact h.elim
def putLoc (dst:Option Nat) (d:Nat) (v:AV) (loc:Loc):Loc :=
 match dst with
 | none=>loc
 | some t=>(t,d,v)::loc
def notTag (d:Nat):List Lay→Bool
 | []=>true
 | l::r=>match Nat.beq l.tmp d with
  | true=>false
  | false=>notTag d r
def dstOk (N:Nat) (dst:Option Nat) (stk:List Lay):Bool :=
 match dst with
 | none=>true
 | some d=>Nat.blt d N&&notTag d stk
theorem notTag_spec {d:Nat}:∀ {stk:List Lay},notTag d stk=true→∀ l∈stk,l.tmp≠d
 | [],_,l,h=>by simp at h
 | l'::r,h,l,hl=>by
  unfold notTag at h
  split at h
  ·cases h
  ·rename_i hb
   rcases List.mem_cons.1 hl with rfl | hl
   ·intro e;rw [e] at hb;simp at hb
   ·exact notTag_spec h l hl
def sideVal (loc loc':Loc) (env:Env) (stk stk':List Lay) (tc:Nat) (side:Bool):Operand→AV
 | .const v=>avOf v
 | .tmp s=>match look loc env s with
  | (d,v)=>match Nat.ble d stk'.length with
   | true=>(look loc' env s).2
   | false=>match getLay d stk with
    | some l=>match Nat.beq l.tmp tc&&boolEq l.pol side with
     | true=>v
     | false=>.undef
    | none=>.undef
 | _=>.undef
def evPick (loc loc':Loc) (env:Env) (stk stk':List Lay) (c a b:Operand) (k:AV→Prop):Prop :=
 match c with
 | .tmp tc=>match look loc' env tc with
  | (_,.bool cb)=>match a with
   | .const (.bool true)=>match sideVal loc loc' env stk stk' tc false b with
    | .bool y=>k (.bool (cb||y))
    | .undef=>match cb with
     | true=>k (.bool true)
     | false=>False
    | _=>False
   | _=>match b with
    | .const (.bool false)=>match sideVal loc loc' env stk stk' tc true a with
     | .bool x=>k (.bool (cb&&x))
     | .undef=>match cb with
      | false=>k (.bool false)
      | true=>False
     | _=>False
    | _=>False
  | _=>False
 | _=>False
def putK (dst:Option Nat) (stk:List Lay) (v:AV) (loc:Loc) (k:Loc→Prop):Prop :=
 match dst with
 | none=>k loc
 | some t=>forceAV v fun v=>lenK stk 0 fun d=>k ((t,d,v)::loc)
theorem putK_iff {dst:Option Nat} {stk:List Lay} {v:AV} {loc:Loc} {k:Loc→Prop}:putK dst stk v loc k↔k (putLoc dst stk.length v loc):=by
 cases dst<;>simp [putK,putLoc,forceAV_iff,lenK_iff]
def effOp (T:Tab) (o:Oper):Bool :=
 match o.op with
 | .alloc _=>true
 | .box _ _=>true
 | .buildSlice _ _ _=>true
 | .store _ _ _=>true
 | .mapUpdate _ _ _ _=>true
 | .makeMap _ _=>true
 | .makeSlice _ _ _=>true
 | .call c=>match c.callee with
  | .builtin .append=>true
  | .value _=>match lkT T o.type with
   | some ⟨.int _,_,_,_⟩=>false
   | some ⟨.bool,_,_,_⟩=>false
   | some ⟨.string,_,_,_⟩=>false
   | _=>true
  | _=>false
 | _=>false
def gated (T:Tab) (g:Option Bool) (o:Oper):Option Bool :=
 match g with
 | none=>none
 | some b=>match effOp T o with
  | true=>some b
  | false=>none
theorem gated_some {T:Tab} {g:Option Bool} {o:Oper} {b:Bool} (h:gated T g o=some b):g=some b:=by
 unfold gated at h
 split at h
 ·cases h
 ·split at h
  ·exact h
  ·cases h
def stepK [Tabs] (C:Cx) (det:Bool) (o:Oper) (loc loc':Loc) (env:Env) (stk stk':List Lay) (H:Heap) (nx:Nat) (next:AV→List (Nat×AB)→Nat→Prop):Prop :=
 match o.op with
 | .pick c a b=>evPick loc loc' env stk stk' c a b fun v=>next v [] nx
 | _=>match gated C.T (topG stk') o with
  | some b=>(b=true→evOp C det none (rdOp loc' env) H nx o fun r=>match r with
    | ⟨v,_,wr,nx'⟩=>next v wr nx')∧(b=false→next .undef [] nx)
  | none=>evOp C det (topG stk') (rdOp loc' env) H nx o fun r=>match r with
   | ⟨v,_,wr,nx'⟩=>next v wr nx'
def evOps [Tabs] (C:Cx) (det:Bool) (all:List Oper):List Oper→Loc→List Lay→Env→Heap→Nat→(Loc→Heap→Nat→Prop)→Prop
 | [],loc,_,_,H,nx,k=>k loc H nx
 | o::rest,loc,stk,env,H,nx,k=>enter all o.guard loc env stk fun stk' loc' =>
  match dstOk C.N o.dst stk' with
  | false=>False
  | true=>stepK C det o loc loc' env stk stk' H nx fun v wr nx'=>putK o.dst stk' v loc' fun loc2=>pushK wr H fun H'=>evOps C det all rest loc2 stk' env H' nx' k
structure Fr where
 w0:World
 F0:Blocks
 S0:Blocks
 pin:Ids
 ds:List Deferred
structure Core [Tabs] (F:Fr) (m:Ids) (S:Blocks) (w:World) (H:Heap) (nx:Nat):Prop where
 good:Good m S w H
 free:∀ i,nx≤i→m i=none
 far:Far F.F0 F.w0 w
 owns:∀ k,own m H k→F.F0 k∨F.w0.heap.size≤k
 ro:∀ g,S g→F.S0 g∨F.F0 g∨F.w0.heap.size≤g
 ro0:∀ g,F.S0 g→S g
 pins:∀ i v,F.pin i=some v→m i=some v
theorem Core.step [Tabs] {F:Fr} {m m':Ids} {S S':Blocks} {w w':World} {H H':Heap} {nx nx':Nat} (h:Core F m S w H nx) (e:Ext m S w H nx nx' m' S' w' H') (hn:nx≤nx'):Core F m' S' w' H' nx':=by
 refine ⟨e.good,fun i hi=>by rw [e.same i (by omega)];exact h.free i (by omega),?_,fun k hk=>?_,fun g hg=>?_,fun g hg=>e.ros g (h.ro0 g hg),fun i v hi=>e.ids i v (h.pins i v hi)⟩
 ·refine h.far.trans e.far fun i hi ho=>?_
  rcases h.owns i ho with h | h
  ·exact h
  ·omega
 ·rcases e.owns k hk with h1 | h1
  ·exact h.owns k h1
  ·exact .inr (Nat.le_trans h.far.size h1)
 ·rcases e.fresh g hg with h1 | h1 | h1
  ·exact h.ro g h1
  ·exact .inr (h.owns g h1)
  ·exact .inr (.inr (Nat.le_trans h.far.size h1))
theorem RunI.ext [Tabs] {F:Fr} {m m':Ids} {S S':Blocks} {w w':World} {H H':Heap} {nx nx' N:Nat} {tmps:Array Value} {loc:Loc} {env:Env} {stk:List Lay} (h:RunI m S w N tmps loc env stk) (hc:Core F m S w H nx) (e:Ext m S w H nx nx' m' S' w' H') :
  RunI m' S' w' N tmps loc env stk:=by
 refine ⟨h.size,fun s=>?_,h.stk⟩
 have hr:=h.rel s
 revert hr
 generalize look loc env s=q
 obtain ⟨d,a⟩:=q
 intro hr
 cases d with
 | zero=>exact e.relV hc.good hr
 | succ d =>
  obtain ⟨l,h1,h2,h3⟩:=hr
  exact ⟨l,h1,fun hg=>e.relV hc.good (h2 hg),h3⟩
theorem StkOk.set {tmps:Array Value} {d:Nat} {v:Value}:∀ {stk:List Lay},StkOk tmps stk→notTag d stk=true→StkOk (tmps.setIfInBounds d v) stk
 | [],_,_=>trivial
 | l::r,h,hn=>by
  have hne:=notTag_spec hn
  refine ⟨StkOk.set h.1 ?_,?_,h.2.2⟩
  ·unfold notTag at hn
   split at hn
   ·cases hn
   ·exact hn
  ·rw [← h.2.1]
   unfold yieldT
   rw [Array.getElem?_setIfInBounds_ne (fun e=>hne l (by simp) e.symm)]
theorem getD_set {tmps:Array Value} {d s:Nat} {v:Value} (h:d<tmps.size):(tmps.setIfInBounds d v).getD s undef=if d=s then v else tmps.getD s undef:=by
 by_cases e:d=s
 ·subst e;simp [Array.getD,h]
 ·rw [if_neg e]
  by_cases hs:s<tmps.size
  ·simp [Array.getD,hs,Array.getElem_setIfInBounds_ne hs (fun h=>e h)]
  ·simp [Array.getD,hs]
theorem look_put {t d:Nat} {v:AV} {loc:Loc} {env:Env} {s:Nat}:look ((t,d,v)::loc) env s=if t=s then (d,v) else look loc env s:=by
 show (match Nat.beq t s with | true=>(d,v) | false=>look loc env s)=_
 by_cases e:t=s
 ·subst e;simp
 ·have hb:Nat.beq t s=false:=by
   cases h:Nat.beq t s with
   | false=>rfl
   | true=>exact (e (Nat.eq_of_beq_eq_true h)).elim
  rw [if_neg e,hb]
theorem RunI.put {m:Ids} {S:Blocks} {w:World} {N:Nat} {a:Act} {loc:Loc} {env:Env} {stk:List Lay} (h:RunI m S w N a.tmps loc env stk) {dst:Option Nat} {v:Value} {av:AV} (hd:dstOk N dst stk=true)
  (hv:(gOk (topG stk)∧RelV m S w v av)∨(¬ gOk (topG stk)∧v=undef)):RunI m S w N (a.put dst v).tmps (putLoc dst stk.length av loc) env stk:=by
 cases dst with
 | none=>exact h
 | some d =>
  simp only [dstOk,Bool.and_eq_true] at hd
  obtain ⟨h1,h2⟩:=hd
  have hlt:d<a.tmps.size:=by rw [h.size];simpa [Nat.blt_eq] using h1
  refine ⟨by simp [Act.put,h.size],fun s=>?_,h.stk.set h2⟩
  show EntRel m S w stk ((a.tmps.setIfInBounds d v).getD s undef) (look ((d,stk.length,av)::loc) env s)
  rw [getD_set hlt,look_put]
  by_cases e:d=s
  ·rw [if_pos e,if_pos e]
   cases stk with
   | nil =>
    rcases hv with ⟨_,hv⟩ | ⟨hn,_⟩
    ·exact hv
    ·exact (hn trivial).elim
   | cons l r =>
    refine ⟨l,by simp [getLay],fun hg=>?_,fun hg=>?_⟩
    ·rcases hv with ⟨_,hv⟩ | ⟨hn,_⟩
     ·exact hv
     ·exact (hn hg).elim
    ·rcases hv with ⟨hn,_⟩ | ⟨_,hv⟩
     ·simp only [topG,gOk] at hn;rw [hg] at hn;cases hn
     ·exact hv
  ·rw [if_neg e,if_neg e]
   exact h.rel s
theorem RunI.read {m:Ids} {S:Blocks} {w:World} {N:Nat} {a:Act} {loc:Loc} {env:Env} {stk:List Lay} (h:RunI m S w N a.tmps loc env stk) (hg:gOk (topG stk)) (x:Operand):RelV m S w (a.eval x) (rdOp loc env x):=by
 cases x with
 | tmp s =>
  have hr:=h.rel s
  show RelV m S w (a.tmps.getD s undef) (look loc env s).2
  revert hr
  generalize look loc env s=q
  obtain ⟨d,av⟩:=q
  intro hr
  cases d with
  | zero=>exact hr
  | succ d =>
   obtain ⟨l,h1,h2,_⟩:=hr
   exact h2 (allG_mem (allG_top h.stk hg) l (getLay_mem h1))
 | const v=>exact .t _ _ (relT_avOf S w v)
 | global g=>exact .t _ _ (.undef _)
 | func f=>exact .t _ _ (.fn _ _ _ _ _ rfl rfl (fun j c x hj=>by simp at hj) (fun j c x hj=>by simp at hj))
theorem relV_bool {m:Ids} {S:Blocks} {w:World} {v:Value} {b:Bool} (h:RelV m S w v (.bool b)):v=.bool b:=by
 cases h with
 | t _ _ h=>cases h;rfl
theorem sideVal_sound {m:Ids} {S:Blocks} {w:World} {N:Nat} {a:Act} {loc loc':Loc} {env:Env} {stk stk':List Lay} (h:RunI m S w N a.tmps loc env stk) (h':RunI m S w N a.tmps loc' env stk') (hg:gOk (topG stk'))
  {tc:Nat} {side:Bool} (hc:a.tmps.getD tc undef=.bool side) (x:Operand):RelV m S w (a.eval x) (sideVal loc loc' env stk stk' tc side x):=by
 cases x with
 | const v=>exact .t _ _ (relT_avOf S w v)
 | global g=>exact .t _ _ (.undef _)
 | func f=>exact .t _ _ (.undef _)
 | tmp s =>
  obtain ⟨d,av,hq⟩:∃ d av,look loc env s=(d,av):=⟨_,_,rfl⟩
  have hr:=h.rel s
  rw [hq] at hr
  unfold sideVal
  simp only [hq]
  split
  ·exact h'.read hg (.tmp s)
  ·split
   ·rename_i l hl
    split
    ·rename_i hb
     simp only [Bool.and_eq_true] at hb
     have e1:=Nat.eq_of_beq_eq_true hb.1
     have e2:l.pol=side:=by
      have:=hb.2
      cases hlp:l.pol<;>cases side<;>simp [hlp,boolEq] at this ⊢
     cases d with
     | zero=>exact hr
     | succ d =>
      obtain ⟨l',h1,h2,_⟩:=hr
      rw [hl] at h1
      cases h1
      refine h2 ?_
      have hmem:=getLay_mem hl
      have hstk:∀ {stk:List Lay},StkOk a.tmps stk→∀ l∈stk,(yieldT a.tmps l.tmp == some l.pol)=l.g:=by
       intro stk
       induction stk with
       | nil=>intro _ l h;simp at h
       | cons l r ih =>
        intro hs l' hl'
        rcases List.mem_cons.1 hl' with rfl | hl'
        ·exact hs.2.1
        ·exact ih hs.1 l' hl'
      rw [← hstk h.stk l hmem,e1,e2,yieldT_eq hc]
      simp
    ·exact .t _ _ (.undef _)
   ·exact .t _ _ (.undef _)
theorem evPick_sound {m:Ids} {S:Blocks} {w:World} {N:Nat} {loc loc':Loc} {env:Env} {stk stk':List Lay} {P:Program} {o:Oper} {c x y:Operand} (ho:o.op=.pick c x y) {k:AV→Prop} (hk:evPick loc loc' env stk stk' c x y k) :
  ∃ av,k av∧∀ (a:Act),RunI m S w N a.tmps loc env stk→RunI m S w N a.tmps loc' env stk'→gOk (topG stk')→∃ v,(execOp a.eval o).run P w=.ok (.value v) w∧RelV m S w v av:=by
 unfold evPick at hk
 split at hk
 ·rename_i tc
  split at hk
  ·rename_i d cb hl
   have hcv:∀ (a:Act),RunI m S w N a.tmps loc' env stk'→gOk (topG stk')→a.tmps.getD tc undef=.bool cb:=by
    intro a h' hg
    have:=h'.read (a:=a) hg (.tmp tc)
    simp only [rdOp,hl] at this
    exact relV_bool this
   have hrun:∀ (a:Act),RunI m S w N a.tmps loc' env stk'→gOk (topG stk')→(execOp a.eval o).run P w=.ok (.value (if cb then a.eval x else a.eval y)) w:=by
    intro a h' hg
    have:=hcv a h' hg
    unfold execOp
    have hev:a.eval (.tmp tc)=.bool cb:=this
    simp [ho,hev,asBool]
   split at hk
   ·split at hk
    ·rename_i yb hs
     refine ⟨_,hk,fun a h h' hg=>⟨_,hrun a h' hg,?_⟩⟩
     cases cb with
     | true=>simp;exact .t _ _ (.bool true)
     | false =>
      have:=sideVal_sound h h' hg (hcv a h' hg) y
      rw [hs] at this
      simpa using this
    ·split at hk
     ·exact ⟨_,hk,fun a h h' hg=>⟨_,hrun a h' hg,.t _ _ (.bool true)⟩⟩
     ·exact hk.elim
    ·exact hk.elim
   ·split at hk
    ·split at hk
     ·rename_i xb hs
      refine ⟨_,hk,fun a h h' hg=>⟨_,hrun a h' hg,?_⟩⟩
      cases cb with
      | false=>simp;exact .t _ _ (.bool false)
      | true =>
       have:=sideVal_sound h h' hg (hcv a h' hg) x
       rw [hs] at this
       simpa using this
     ·split at hk
      ·exact ⟨_,hk,fun a h h' hg=>⟨_,hrun a h' hg,.t _ _ (.bool false)⟩⟩
      ·exact hk.elim
     ·exact hk.elim
    ·exact hk.elim
  ·exact hk.elim
 ·exact hk.elim
theorem zt64 {p:Prop}(h:p:=by
 obtain ⟨hn,hk⟩:=h4 r hR
 obtain ⟨rv,rt,rw,rn⟩:=r
 exact evOps_seq hT rest (i+1) _ stk' env _ _ k hall' (pushK_iff.1 (putK_iff.1 hk)) hQ hP m' S' w' _ (hc.step hE hn) ((hr'.ext hc hE).put hdst (.inl ⟨hg,hV⟩)) (hdp v)):p:=h
theorem zt94 {p:Prop}(h:p:=by
 obtain ⟨x,hx,rfl⟩:=List.mem_map.1 hu
 exact hr'.read hg x):p:=h
theorem zt159 {p:Prop}(h:p:=by
 rw [hg'] at hg
 cases b with
 | true=>exact (hg rfl).elim
 | false=>rfl):p:=h
theorem zt151 {p:Prop}(h:p:=by
 intro v hg hnext
 rw [if_neg (fun hw=>hg (hwant.1 hw))]
 exact hnext (hr'.put hdst (.inr ⟨hg,rfl⟩))):p:=h
theorem zt177 {p:Prop}(h:p:=by
 have:=hall (j+1)
 rw [List.getElem?_cons_succ] at this
 rw [this]
 congr 1
 omega):p:=h
theorem evOps_seq [Tabs] {C:Cx} (hT:TabOk C.P C.T) {det:Bool} {F:Fr} {all:List Oper} {Q:Exit→Act→World→Prop}:∀ (rest:List Oper) (i:Nat) (loc:Loc) (stk:List Lay) (env:Env) (H:Heap) (nx:Nat) (k:Loc→Heap→Nat→Prop),(∀ j,rest[j]?=all[i+j]?)→evOps C det all rest loc stk env H nx k →
  (∀ (m:Ids) (S:Blocks) (w:World) (a:Act) (loc:Loc) (stk:List Lay) (H:Heap) (nx:Nat),k loc H nx→Core F m S w H nx→RunI m S w C.N a.tmps loc env stk→a.defers=F.ds→Q .normal a w) →
  (∀ (m:Ids) (S:Blocks) (w:World) (a:Act) (H:Heap) (nx:Nat) (ch:List PanicEntry),C.px ch→Core F m S w H nx→a.tmps.size=C.N→a.defers=F.ds→Q (.panic ch) a w) →
  ∀ (m:Ids) (S:Blocks) (w:World) (a:Act),Core F m S w H nx→RunI m S w C.N a.tmps loc env stk→a.defers=F.ds→wpOps C.P all.toArray Q (List.range' i rest.length) a w
 | [],i,loc,stk,env,H,nx,k,_,h,hQ,_,m,S,w,a,hc,hr,hd=>hQ m S w a loc stk H nx h hc hr hd
 | o::rest,i,loc,stk,env,H,nx,k,hall,h,hQ,hP,m,S,w,a,hc,hr,hd=>by
  have hi:all.toArray[i]?=some o:=by
   have:=hall 0
   simpa using this.symm
  have hall':∀ j,rest[j]?=all[i+1+j]?:=fun j=>by
   exact zt177
  obtain ⟨stk',loc',h,hr',hwant,hdep,_⟩:=enter_sound h hr
  rw [List.length_cons,List.range'_succ]
  simp only [wpOps,hi]
  split at h
  ·exact h.elim
  ·rename_i hdst
   have skip:∀ (v:AV),¬ gOk (topG stk')→(∀ (hr2:RunI m S w C.N (a.put o.dst undef).tmps (putLoc o.dst stk'.length v loc') env stk'),wpOps C.P all.toArray Q (List.range' (i+1) rest.length) (a.put o.dst undef) w) →
     (if Region.wanted o (yielded all.toArray a.tmps)=true then o.wp C.P a w (wpOps C.P all.toArray Q (List.range' (i+1) rest.length)) Q∨(o.asks C.P a w∧LetsOut Q) else wpOps C.P all.toArray Q (List.range' (i+1) rest.length) (a.put o.dst undef) w):=by
    exact zt151
   have hdp:∀ (v:Value),(a.put o.dst v).defers=F.ds:=by
    intro v
    cases hdo:o.dst<;>simp [Act.put,hd]
   unfold stepK at h
   by_cases hg:gOk (topG stk')
   ·rw [if_pos (hwant.2 hg)]
    left
    split at h
    ·rename_i c x y ho
     obtain ⟨av,hk,hrun⟩:=evPick_sound (m:=m) (S:=S) (w:=w) (N:=C.N) (P:=C.P) ho h
     obtain ⟨v,he,hv⟩:=hrun a hr hr' hg
     unfold Oper.wp
     rw [he,Oper.upon_value]
     exact evOps_seq hT rest (i+1) _ stk' env H nx k hall' (pushK_iff.1 (putK_iff.1 hk)) hQ hP m S w _ hc (hr'.put hdst (.inl ⟨hg,hv⟩)) (hdp v)
    ·split at h
     ·rename_i b hb
      have hg':=gated_some hb
      have hbt:b=true:=by rw [hg'] at hg;exact hg
      obtain ⟨touch,Rr,h1,h2,h3,h4⟩:=evOp_sound hT (h.1 hbt)
      refine h1 trivial m S w a H _ Q hc.good (fun _ _=>rfl) (fun i hi _=>hc.free i hi) (fun u hu _=>?_) (fun r hR v m' S' w' hE hV=>?_) (fun ch hx m' S' w' wr hE=>hP m' S' w' a (wr++H) nx ch hx (hc.step hE (Nat.le_refl _)) hr'.size hd)
      ·exact zt94
      ·exact zt64
     obtain ⟨touch,Rr,h1,h2,h3,h4⟩:=evOp_sound hT h
     refine h1 hg m S w a H _ Q hc.good (fun _ _=>rfl) (fun i hi _=>hc.free i hi) (fun u hu _=>?_) (fun r hR v m' S' w' hE hV=>?_) (fun ch hx m' S' w' wr hE=>hP m' S' w' a (wr++H) nx ch hx (hc.step hE (Nat.le_refl _)) hr'.size hd)
     ·exact zt94
     ·exact zt64
   ·split at h
    ·rename_i c x y ho
     obtain ⟨av,hk,_⟩:=evPick_sound (m:=m) (S:=S) (w:=w) (N:=C.N) (P:=C.P) ho h
     exact skip av hg fun hr2=>evOps_seq hT rest (i+1) _ stk' env H nx k hall' (pushK_iff.1 (putK_iff.1 hk)) hQ hP m S w _ hc hr2 (hdp undef)
    ·split at h
     ·rename_i b hb
      have hg':=gated_some hb
      have hbf:b=false:=by
       exact zt159
      exact skip .undef hg fun hr2=>evOps_seq hT rest (i+1) _ stk' env H nx k hall' (pushK_iff.1 (putK_iff.1 (h.2 hbf))) hQ hP m S w _ hc hr2 (hdp undef)
     obtain ⟨touch,Rr,h1,h2,h3,h4⟩:=evOp_sound hT h
     obtain ⟨r,hR,hwr,hnx⟩:=h2 hg
     obtain ⟨_,hk⟩:=h4 r ((hR r).2 rfl)
     obtain ⟨rv,rt,rw,rn⟩:=r
     simp only at hwr hnx
     subst hwr
     subst hnx
     refine skip rv hg fun hr2=>?_
     exact evOps_seq hT rest (i+1) _ stk' env _ _ k hall' (pushK_iff.1 (putK_iff.1 hk)) hQ hP m S w _ hc hr2 (hdp undef)
def valD:AV→Option Value
 | .bool b=>some (.bool b)
 | .int k n=>some (.int k n)
 | .str l=>some (.string ⟨l.toArray⟩)
 | _=>none
theorem valD_eq {m:Ids} {S:Blocks} {w:World} {v u:Value} {a:AV} (h:RelV m S w v a) (hd:valD a=some u):v=u:=by
 cases a<;>simp [valD] at hd
 all_goals subst hd
 ·exact relV_bool h
 ·exact relV_int h
 ·cases h with
  | t _ _ h=>cases h with
   | str s l hs=>rw [← hs]
theorem valD_rel {m:Ids} {S:Blocks} {w:World} {u:Value} {a:AV} (hd:valD a=some u):RelV m S w u a:=by
 cases a<;>simp [valD] at hd
 all_goals subst hd
 ·exact .t _ _ (.bool _)
 ·exact .t _ _ (.int _ _)
 ·exact .t _ _ (.str _ _ (by simp))
inductive CallQ [Tabs] (P:Program) (f:FuncId) (avs:List AV) (H:Heap) (nx:Nat) (g:Option Bool) (k:Res→Prop):Prop
 | mk (args':List AV) (touch:List Nat) (a:AV) (v:Value) (hc:gOk g→APureV P f args' a) (hb:BorL (Lend H) avs args' touch) (ha:valD a=some v) (hk:k ⟨a,touch,[],nx⟩)
def evOpQ [Tabs] (C:Cx) (g:Option Bool) (rd:Operand→AV) (H:Heap) (nx:Nat) (o:Oper) (k:Res→Prop):Prop :=
 match o.op with
 | .move x=>k ⟨rd x,[],[],nx⟩
 | .assign x=>k ⟨rd x,[],[],nx⟩
 | .build t parts=>evBuild C.T nx t (parts.toList.map fun p=>(p.1,rd p.2)) k
 | .load t x=>evLoad C.T g H nx t (rd x) k
 | .nilCheck x=>evNilCheck (rd x) fun v=>k ⟨v,[],[],nx⟩
 | .binOp op t x y _=>match isNilX y with
  | true=>evNilX C.T op t y (rd x) fun v=>k ⟨v,[],[],nx⟩
  | false=>evBin2 C.P C.T g op t (rd x) (rd y) fun v=>k ⟨v,[],[],nx⟩
 | .lookup t x y ok=>evLookup C.P C.T H nx t (rd x) (rd y) ok k
 | .unOp op _ x=>evUn g op (rd x) fun v=>k ⟨v,[],[],nx⟩
 | .convert s d x=>evConvX C.T g H nx s d (rd x) k
 | .makeFunc fn first cap=>k ⟨.fn fn (first.toList.map rd) (cap.toList.map rd),[],[],nx⟩
 | .slice t x lo hi none=>evSlice C.T g H nx t (rd x) (lo.map rd) (hi.map rd) k
 | .fieldAddr t x f=>evFieldAddr C.T nx t (rd x) f k
 | .field t x f=>evField C.T nx t (rd x) f k
 | .indexAddr t x i=>match queOf H (rd x) with
  | some id=>evIndexAddrQ C.T g H nx t id (rd i) k
  | none=>evIndexAddr C.T g H nx t (rd x) (rd i) k
 | .index t x i=>evIndex C.T g t (rd x) (rd i) fun v=>k ⟨v,[],[],nx⟩
 | .extract x n=>evExtract nx (rd x) n k
 | .call c=>match c.callee with
  | .builtin .len=>match c.args.toList,c.argTypes.toList with
   | [x],[t]=>match queOf H (rd x) with
    | some id=>evLenQ C.T H nx t id k
    | none=>evLen C.T H nx t (rd x) k
   | _,_=>False
  | .builtin .min=>match c.args.toList with
   | [x,y]=>evMin false (rd x) (rd y) fun v=>k ⟨v,[],[],nx⟩
   | _=>False
  | .builtin .max=>match c.args.toList with
   | [x,y]=>evMin true (rd x) (rd y) fun v=>k ⟨v,[],[],nx⟩
   | _=>False
  | .value fop=>match rd fop with
   | .fn (.func f) first cap=>forceL (first++c.args.toList.map rd++cap) fun avs=>CallQ C.P f avs H nx g k
   | _=>False
  | _=>False
 | _=>False
def OpSemQ [Tabs] (P:Program) (o:Oper) (us:Uses) (H:Heap) (v:AV) (touch:List Nat):Prop :=
 ∀ (m:Ids) (S:Blocks) (w:World) (a:Act) (H₂:Heap),Good m S w H₂→(∀ id∈touch,lkH H₂ id=lkH H id)→(∀ u∈us,u.2.1=true→RelV m S w (a.eval u.1) u.2.2) →
  ∃ u,RelV m S w u v∧∀ w',RowKit.Below w.heap.size w w'→o.quietAt P a (RowKit.Below w.heap.size w) w' u
theorem OpSemP.quiet [Tabs] {P:Program} {o:Oper} {us us':Uses} {H:Heap} {nx:Nat} {r:Res} (h:OpSemP P o us H nx r) (hu:∀ u∈us,u∈us'):OpSemQ P o us' H r.v r.touch:=by
 intro m S w a H₂ hG ht hus
 obtain ⟨u,hr,hv⟩:=h.2 m S w a H₂ hG ht (fun u hm=>hus u (hu u hm))
 refine ⟨u,hv,fun w' hw'=>?_⟩
 unfold Oper.quietAt
 rw [hr w' ⟨hw'.size,hw'.block⟩]
 exact ⟨rfl,rfl⟩
theorem sem_callQ [Tabs] {P:Program} {o:Oper} {fop:Operand} {as:Array Operand} {ts:Array TypeId} (ho:o.op=.call { callee:=.value fop,args:=as,argTypes:=ts })
  {rd:Operand→AV} {H:Heap} {f:FuncId} {first cap:List AV} (hf:rd fop=.fn (.func f) first cap) {args':List AV} {touch:List Nat}
  (hb:BorL (Lend H) (first++as.toList.map rd++cap) args' touch) {av:AV} {v:Value} (hc:APureV P f args' av) (hv:valD av=some v) :
  OpSemQ P o ((fop::as.toList).map fun y=>(y,true,rd y)) H av touch:=by
 intro m S w a H₂ hG ht hus
 have hfn:RelV m S w (a.eval fop) (rd fop):=hus (fop,true,rd fop) (by simp) rfl
 rw [hf] at hfn
 obtain ⟨fs,cs,hfv,hfl,hcl,r1,r3⟩:=relV_fn hfn
 obtain ⟨⟨fn,hfun,hbody,hname⟩,hcall⟩:=hc
 have hvs:(fs++as.map a.eval++cs)=(fs.toList++as.toList.map a.eval++cs.toList).toArray:=by
  apply Array.ext'
  simp
 have hexec:∀ w',(execOp a.eval o).run P w'=.ok (.enter f (fs.toList++as.toList.map a.eval++cs.toList).toArray) w':=by
  intro w'
  rw [← hvs]
  unfold execOp
  have hb':¬ fn.body=none:=by intro e;simp [e] at hbody
  have hn' : ¬ fn.name = "runtime.NumGoroutine" := by simpa using hname
  simp [ho,resolve,hfv,Deferred.ofValue,invoke,callFunc,hfun,hn',hb']
 have r2:∀ (j:Nat) (c:Value) (p:AV),(as.toList.map a.eval)[j]?=some c→(as.toList.map rd)[j]?=some p→RelV m S w c p:=by
  exact zt14
 obtain ⟨hlen,hbor⟩:=borL_sound (lend_ok H) hb
 refine ⟨v,valD_rel hv,fun w' hw'=>?_⟩
 unfold Oper.quietAt
 rw [hexec w']
 refine ⟨rfl,?_⟩
 have hlt:∀ g,(S g∨lent m H₂ touch g)→g<w.heap.size:=by
  exact zt105
 refine (hcall (fun g=>S g∨lent m H₂ touch g) w' _ (fun g hg=>Nat.lt_of_lt_of_le (hlt g hg) hw'.size) (hG.tab.mono (fun _ h=>.inl h) fun g hg=>hw'.block g (hG.ro g hg).1) ⟨?_,?_⟩).mono ?_
 ·rw [hlen]
  simp [hfl,hcl]
 ·intro j c p hj hp
  refine (hbor m S w H₂ (fun g=>S g∨lent m H₂ touch g) hG ht (fun g h=>.inl h) (fun g h=>.inr h) _ (by simp [hfl,hcl]) (list3_get (by simpa using hfl) (by simp) (fun j c p h=>r1 j c p zp19) r2 (fun j c p h=>r3 j c p zp19)) j c p hj hp).mono (fun _ h=>h) (fun g hg=>hw'.block g (hlt g hg))
 ·rintro e w'' ⟨us,rs,S'',rfl,rfl,hL⟩
  refine ⟨?_,hw'.trans (hL.below.mono hw'.size)⟩
  have hl:=hL.len
  match us,hl with
  | [u],_ =>
   have h0:RelR S'' w'' w'.heap.size u (.val av):=hL.rel 0 u _ rfl rfl
   rw [valD_eq (m:=fun _=>none) (.t _ _ h0) hv]
   rfl
def ShownQ [Tabs] (P:Program) (g:Option Bool) (rd:Operand→AV) (H:Heap) (nx:Nat) (o:Oper) (k:Res→Prop):Prop :=
 ∃ v touch,(gOk g→OpSemQ P o (usesOf rd o) H v touch)∧k ⟨v,touch,[],nx⟩
theorem shownQ_pure [Tabs] {P:Program} {g:Option Bool} {rd:Operand→AV} {H:Heap} {nx:Nat} {o:Oper} {k:Res→Prop} {us:Uses} (hu:∀ u∈us,u∈usesOf rd o)
  (h:∃ r,(gOk g→OpSemP P o us H nx r)∧(r.wr=[]∧r.nx=nx)∧k r):ShownQ P g rd H nx o k:=by
 obtain ⟨r,h1,⟨h2,h3⟩,h4⟩:=h
 refine ⟨r.v,r.touch,fun hg=>(h1 hg).quiet hu,?_⟩
 obtain ⟨v,t,wr,n⟩:=r
 simp only at h2 h3
 subst h2
 subst h3
 exact h4
theorem shownQ_pure' [Tabs] {P:Program} {g:Option Bool} {rd:Operand→AV} {H:Heap} {nx:Nat} {o:Oper} {k:Res→Prop} {us:Uses} (hu:∀ u∈us,u∈usesOf rd o)
  (h:∃ r,OpSemP P o us H nx r∧(r.wr=[]∧r.nx=nx)∧k r):ShownQ P g rd H nx o k :=
 shownQ_pure hu (let ⟨r,h1,h2⟩:=h;⟨r,fun _=>h1,h2⟩)
theorem evOpQ_sound [Tabs] {C:Cx} (hT:TabOk C.P C.T) {g:Option Bool} {rd:Operand→AV} {H:Heap} {nx:Nat} {o:Oper} {k:Res→Prop} (h:evOpQ C g rd H nx o k):ShownQ C.P g rd H nx o k:=by
 unfold evOpQ at h
 split at h
 ·rename_i x ho
  exact shownQ_pure' (uses_all (l:=[x]) zp10) (evMove_sound (.inl ho) h)
 ·rename_i x ho
  exact shownQ_pure' (uses_all (l:=[x]) zp10) (evMove_sound (.inr ho) h)
 ·rename_i t parts ho
  refine shownQ_pure' (us:=parts.toList.map fun p=>(p.2,true,rd p.2)) (fun u hu=>?_) (evBuild_sound hT ho h)
  exact zt52
 ·rename_i t x ho
  exact shownQ_pure (uses_all (l:=[x]) zp10) (evLoad_sound hT ho h)
 ·rename_i x ho
  exact shownQ_pure' (uses_all (l:=[x]) zp10) (evNilCheck_sound ho h)
 ·rename_i op t x y yt ho
  split at h
  ·rename_i hyn
   exact shownQ_pure' (uses_all (l:=[x,y]) zp10) (evNilX_sound hT ho h)
  exact shownQ_pure (uses_all (l:=[x,y]) zp10) (evBin2_sound hT ho h)
 ·rename_i t x y ok ho
  exact shownQ_pure' (uses_all (l:=[x,y]) zp10) (evLookup_sound hT ho h)
 ·rename_i op t x ho
  exact shownQ_pure (uses_all (l:=[x]) zp10) (evUn_sound ho h)
 ·rename_i s d x ho
  exact shownQ_pure (uses_all (l:=[x]) zp10) (evConvX_sound hT ho h)
 ·rename_i fn first cap ho
  exact shownQ_pure' (uses_all (l:=first.toList++cap.toList) zp10) (evMakeFunc_sound ho h)
 ·rename_i t x lo hi ho
  refine shownQ_pure (us:=optUses rd x lo hi) ?_ (evSlice_sound hT ho h)
  exact zt103
 ·rename_i t x f ho
  exact shownQ_pure' (uses_all (l:=[x]) zp10) (evFieldAddr_sound hT ho h)
 ·rename_i t x f ho
  exact shownQ_pure' (uses_all (l:=[x]) zp10) (evField_sound hT ho h)
 ·rename_i t x i ho
  split at h
  ·rename_i id hq
   exact shownQ_pure (uses_all (l:=[x,i]) zp10) (evIndexAddrQ_sound hT ho (queOf_own hq) h)
  ·exact shownQ_pure (uses_all (l:=[x,i]) zp10) (evIndexAddr_sound hT ho h)
 ·rename_i t x i ho
  exact shownQ_pure (uses_all (l:=[x,i]) zp10) (evIndex_sound hT ho h)
 ·rename_i x n ho
  exact shownQ_pure' (uses_all (l:=[x]) zp10) (evExtract_sound ho h)
 ·rename_i c ho
  obtain ⟨callee,args,ats⟩:=c
  cases callee with
  | invoke r m=>exact h.elim
  | builtin b =>
   have hops:o.op.operands.toList=args.toList:=by rw [ho];simp [Op.operands,Call.operands]
   cases b with
   | len =>
    simp only at h
    split at h
    ·rename_i x t hx ht
     have ha:args=#[x]:=by apply Array.ext';simpa using hx
     have hb:ats=#[t]:=by apply Array.ext';simpa using ht
     subst ha
     subst hb
     split at h
     ·rename_i id hq
      exact shownQ_pure' (uses_all (l:=[x]) zp26) (evLenQ_sound hT ho (queOf_own hq) h)
     ·exact shownQ_pure' (uses_all (l:=[x]) zp26) (evLen_sound hT ho h)
    ·exact h.elim
   | min =>
    simp only at h
    split at h
    ·rename_i x y hx
     have ha:args=#[x,y]:=by apply Array.ext';simpa using hx
     subst ha
     exact shownQ_pure' (uses_all (l:=[x,y]) zp26) (evMin_sound (isMax:=false) ho h)
    ·exact h.elim
   | max =>
    simp only at h
    split at h
    ·rename_i x y hx
     have ha:args=#[x,y]:=by apply Array.ext';simpa using hx
     subst ha
     exact shownQ_pure' (uses_all (l:=[x,y]) zp26) (evMin_sound (isMax:=true) ho h)
    ·exact h.elim
   | _=>exact h.elim
  | value fop =>
   have hops:o.op.operands.toList=fop::args.toList:=by rw [ho];simp [Op.operands,Call.operands]
   simp only at h
   split at h
   ·rename_i f first cap hf
    rw [forceL_iff] at h
    obtain ⟨args',touch,av,v,hc,hb,ha,hk⟩:=h
    have hu:∀ u∈((fop::args.toList).map fun y=>(y,true,rd y):Uses),u∈usesOf rd o:=uses_all zp26
    exact ⟨av,touch,fun hg m S w a H₂ hG ht hus=>sem_callQ ho hf hb (hc hg) ha m S w a H₂ hG ht (fun u hm=>hus u (hu u hm)),hk⟩
   ·exact h.elim
 ·exact h.elim
def evOpsQ [Tabs] (C:Cx) (H:Heap) (nx:Nat) (env:Env) (all:List Oper):List Oper→Loc→List Lay→(Loc→Prop)→Prop
 | [],loc,_,k=>k loc
 | o::rest,loc,stk,k=>enter all o.guard loc env stk fun stk' loc' =>
  match dstOk C.N o.dst stk' with
  | false=>False
  | true=>match o.op with
   | .pick c a b=>evPick loc loc' env stk stk' c a b fun v=>putK o.dst stk' v loc' fun loc2=>evOpsQ C H nx env all rest loc2 stk' k
   | _=>evOpQ C (topG stk') (rdOp loc' env) H nx o fun r=>match r with
    | ⟨v,_,_,_⟩=>putK o.dst stk' v loc' fun loc2=>evOpsQ C H nx env all rest loc2 stk' k
theorem evOpsQ_sound [Tabs] {C:Cx} (hT:TabOk C.P C.T) {H:Heap} {nx:Nat} {env:Env} {all:List Oper} {m:Ids} {S:Blocks} {w:World} (hG:Good m S w H) {Q:Act→Prop} {ds:List Deferred} :
  ∀ (rest:List Oper) (loc:Loc) (stk:List Lay) (k:Loc→Prop),evOpsQ C H nx env all rest loc stk k →
  (∀ (a:Act) (loc:Loc) (stk:List Lay),k loc→RunI m S w C.N a.tmps loc env stk→a.defers=ds→Q a) →
  ∀ (a:Act),RunI m S w C.N a.tmps loc env stk→a.defers=ds→wpQuiet C.P all.toArray (RowKit.Below w.heap.size w) Q rest a
 | [],loc,stk,k,h,hQ,a,hr,hd=>hQ a loc stk h hr hd
 | o::rest,loc,stk,k,h,hQ,a,hr,hd=>by
  obtain ⟨stk',loc',h,hr',hwant,_,_⟩:=enter_sound h hr
  simp only [wpQuiet]
  split at h
  ·exact h.elim
  ·rename_i hdst
   have hdp:∀ (v:Value),(a.put o.dst v).defers=ds:=by
    intro v
    cases hdo:o.dst<;>simp [Act.put,hd]
   by_cases hg:gOk (topG stk')
   ·rw [if_pos (hwant.2 hg)]
    split at h
    ·rename_i c x y ho
     obtain ⟨av,hk,hrun⟩:=evPick_sound (m:=m) (S:=S) (w:=w) (N:=C.N) (P:=C.P) ho h
     obtain ⟨v,he,hv⟩:=hrun a hr hr' hg
     refine ⟨v,fun w' hw'=>?_,evOpsQ_sound hT hG rest _ stk' k (putK_iff.1 hk) hQ _ (hr'.put hdst (.inl ⟨hg,hv⟩)) (hdp v)⟩
     have he':(execOp a.eval o).run C.P w'=.ok (.value v) w':=by
      unfold execOp at he ⊢
      simp only [ho] at he ⊢
      cases hc:a.eval c<;>simp [hc,asBool] at he ⊢
      exact he
     unfold Oper.quietAt
     rw [he']
     exact ⟨rfl,rfl⟩
    ·obtain ⟨av,touch,h1,h2⟩:=evOpQ_sound hT h
     obtain ⟨u,hu,hq⟩:=h1 hg m S w a H hG (fun _ _=>rfl) (fun u hu _=>by
      obtain ⟨x,hx,rfl⟩:=List.mem_map.1 hu
      exact hr'.read hg x)
     exact ⟨u,fun w' hw'=>hq w' hw',evOpsQ_sound hT hG rest _ stk' k (putK_iff.1 h2) hQ _ (hr'.put hdst (.inl ⟨hg,hu⟩)) (hdp u)⟩
   ·rw [if_neg (fun hw=>hg (hwant.1 hw))]
    split at h
    ·rename_i c x y ho
     obtain ⟨av,hk,_⟩:=evPick_sound (m:=m) (S:=S) (w:=w) (N:=C.N) (P:=C.P) ho h
     exact evOpsQ_sound hT hG rest _ stk' k (putK_iff.1 hk) hQ _ (hr'.put hdst (.inr ⟨hg,rfl⟩)) (hdp undef)
    ·obtain ⟨av,touch,h1,h2⟩:=evOpQ_sound hT h
     exact evOpsQ_sound hT hG rest _ stk' k (putK_iff.1 h2) hQ _ (hr'.put hdst (.inr ⟨hg,rfl⟩)) (hdp undef)
theorem ext_below [Tabs] {m:Ids} {S:Blocks} {w w':World} {H:Heap} {nx:Nat} (h:Good m S w H) (hb:RowKit.Below w.heap.size w w'):Ext m S w H nx nx m S w' H:=by
 refine ⟨fun _ _ h=>h,fun _ _=>rfl,fun _ h=>h,fun _ h=>.inl h,Far.of_below hb,fun _ h=>.inl h,fun id=>?_,h.sep,fun g hg=>⟨Nat.lt_of_lt_of_le (h.ro g hg).1 hb.size,(h.ro g hg).2⟩,h.tab.mono (fun _ h=>h) fun g hg=>hb.block g (h.ro g hg).1⟩
 exact (h.rel id).mono (fun _ _ h=>h) (fun _ h=>h) (fun g hg=>hb.block g (h.ro g hg).1) (fun v k hl hv hk=>hb.block k (h.blk_lt hl hv hk))
def flushK:List Nat→Loc→Env→Env→(Env→Prop)→Prop
 | [],_,_,acc,k=>k acc
 | s::r,loc,env,acc,k=>match look loc env s with
  | (0,v)=>forceAV v fun v=>flushK r loc env ((s,v)::acc) k
  | (_+1,_)=>flushK r loc env acc k
def Rel [Tabs] (F:Fr) (N:Nat) (st:St) (a:Act) (w:World):Prop :=
 ∃ m S,Core F m S w st.heap st.nx∧a.tmps.size=N∧a.defers=F.ds∧∀ s,RelV m S w (a.tmps.getD s undef) (lk st.env s)
def orP (px:List PanicEntry→Prop) (Q:Exit→St→Prop):Exit→St→Prop
 | .panic ch,st=>px ch∨Q (.panic ch) st
 | e,st=>Q e st
def regQ (px:List PanicEntry→Prop) (Q:St→Prop):Exit→St→Prop
 | .normal,st=>Q st
 | .panic ch,_=>px ch
 | _,_=>False
inductive DrawG [Tabs] (C:Cx) (id:Nat) (ops:Array Oper) (env:Env) (H:Heap) (nx:Nat) (Q:St→Prop):Prop
 | quiet (hB:Region.lexB .any ops=true) (h:evOpsQ C H nx env ops.toList ops.toList [] [] fun loc=>flushK C.keep loc env [] fun env=>Q ⟨env,H,nx⟩)
 | any (h:∀ F a w,(∀ i v,F.pin i=some v→i<C.pn)→Rel F C.N ⟨env,H,nx⟩ a w→(Code.region id ops true).wp C.P (fun e a' w'=>∃ st',Rel F C.N st' a' w'∧regQ C.px Q e st') a w)
structure CxOk (C:Cx):Prop where
 tab:TabOk C.P C.T
 mixed:C.P.follows .mixedOrders=true
def Fr.fits (F:Fr) (pn:Nat):Prop:=∀ i v,F.pin i=some v→i<pn
inductive LoopG [Tabs] (C:Cx) (body:Code) (st:St) (Q:Exit→St→Prop):Prop
 | mk (h:∀ F a w,F.fits C.pn→Rel F C.N st a w→(Code.loop body).wp C.P (fun e a' w'=>∃ st',Rel F C.N st' a' w'∧orP C.px Q e st') a w)
def thenQ (next:St→Prop) (Q:Exit→St→Prop):Exit→St→Prop
 | .normal,st=>next st
 | e,st=>Q e st
def blockQ (id:Nat) (Q:Exit→St→Prop):Exit→St→Prop
 | .exit id',st=>match Nat.beq id' id with
  | true=>Q .normal st
  | false=>Q (.exit id') st
 | e,st=>Q e st
def evRegion [Tabs] (C:Cx) (ops:Array Oper) (st:St) (Q:St→Prop):Prop :=
 match st with
 | ⟨env,H,nx⟩=>evOps C false ops.toList ops.toList [] [] env H nx fun loc H nx=>flushK C.keep loc env [] fun env=>Q ⟨env,H,nx⟩
def evCode [Tabs] (C:Cx):Code→St→(Exit→St→Prop)→Prop
 | .skip,st,Q=>Q .normal st
 | .label _,st,Q=>Q .normal st
 | .region id ops draw,st,Q=>match draw with
  | false=>evRegion C ops st (Q .normal)
  | true=>match st with
   | ⟨env,H,nx⟩=>DrawG C id ops env H nx (Q .normal)
 | .seq x y,st,Q=>evCode C x st (thenQ (fun st'=>evCode C y st' Q) Q)
 | .cond c x y,st,Q=>match st with
  | ⟨env,H,nx⟩=>match rdOp [] env c with
   | .bool b=>(b=true→evCode C x ⟨env,H,nx⟩ Q)∧(b=false→evCode C y ⟨env,H,nx⟩ Q)
   | _=>False
 | .block id body,st,Q=>evCode C body st (blockQ id Q)
 | .loop body,st,Q=>LoopG C body st Q
 | .exit id,st,Q=>Q (.exit id) st
 | .ret,st,Q=>Q .ret st
 | _,_,_=>False
theorem flushK_sound {m:Ids} {S:Blocks} {w:World} {N:Nat} {tmps:Array Value} {loc:Loc} {env:Env} {stk:List Lay} (h:RunI m S w N tmps loc env stk):∀ (keep:List Nat) (acc:Env) (k:Env→Prop),flushK keep loc env acc k →
  (∀ s,RelV m S w (tmps.getD s undef) (lk acc s))→∃ env',k env'∧∀ s,RelV m S w (tmps.getD s undef) (lk env' s)
 | [],acc,k,hk,ha=>⟨acc,hk,ha⟩
 | s::r,acc,k,hk,ha=>by
  unfold flushK at hk
  split at hk
  ·rename_i v hl
   refine flushK_sound h r _ k (forceAV_iff.1 hk) fun x=>?_
   rw [lk_cons]
   split
   ·rename_i e
    subst e
    have:=h.rel s
    rw [hl] at this
    exact this
   ·exact ha x
  ·exact flushK_sound h r acc k hk ha
theorem Rel.run {F:Fr} {N:Nat} {st:St} {a:Act} {m:Ids} {S:Blocks} {w:World} (hs:a.tmps.size=N) (hr:∀ s,RelV m S w (a.tmps.getD s undef) (lk st.env s)):RunI m S w N a.tmps [] st.env [] :=
 ⟨hs,fun s=>hr s,trivial⟩
theorem range'_eq (n:Nat):List.range n=List.range' 0 n:=by rw [List.range_eq_range']
theorem evRegion_sound [Tabs] {C:Cx} (hT:TabOk C.P C.T) {id:Nat} {ops:Array Oper} {st:St} {Q:St→Prop} (h:evRegion C ops st Q) {F:Fr} {a:Act} {w:World} (hr:Rel F C.N st a w) :
  (Code.region id ops false).wp C.P (fun e a' w'=>∃ st',Rel F C.N st' a' w'∧regQ C.px Q e st') a w:=by
 obtain ⟨m,S,hc,hs,hd,hrel⟩:=hr
 refine wp_region ?_
 obtain ⟨env,H,nx⟩:=st
 have:=evOps_seq hT (F:=F) (all:=ops.toList) (Q:=fun e a' w'=>∃ st',Rel F C.N st' a' w'∧regQ C.px Q e st') ops.toList 0 [] [] env H nx _ (by simp) h ?_ (fun m S w a H nx ch hx hc hs hd=>⟨⟨[],H,nx⟩,⟨m,S,hc,hs,hd,fun s=>.t _ _ (.undef _)⟩,hx⟩) m S w a hc (Rel.run (F:=F) (st:=⟨env,H,nx⟩) hs hrel) hd
 ·rw [range'_eq]
  simpa using this
 ·intro m S w a loc stk H nx hk hc hr hd
  obtain ⟨env',hq,he⟩:=flushK_sound hr _ _ _ hk (fun s=>.t _ _ (.undef _))
  exact ⟨⟨env',H,nx⟩,⟨m,S,hc,hr.size,hd,he⟩,hq⟩
theorem drawG_sound [Tabs] {C:Cx} (hC:CxOk C) {id:Nat} {ops:Array Oper} {env:Env} {H:Heap} {nx:Nat} {Q:St→Prop} (h:DrawG C id ops env H nx Q) {F:Fr} {a:Act} {w:World} (hF:∀ i v,F.pin i=some v→i<C.pn) (hr:Rel F C.N ⟨env,H,nx⟩ a w) :
  (Code.region id ops true).wp C.P (fun e a' w'=>∃ st',Rel F C.N st' a' w'∧regQ C.px Q e st') a w:=by
 cases h with
 | any h=>exact h F a w hF hr
 | quiet hB h =>
  obtain ⟨m,S,hc,hs,hd,hrel⟩:=hr
  refine wp_region_quiet (C:=RowKit.Below w.heap.size w) hC.mixed hB ⟨rfl,rfl,rfl,Nat.le_refl _,fun _ _=>rfl⟩ ?_
  refine evOpsQ_sound hC.tab hc.good ops.toList [] [] _ h (fun a loc stk hk hr hd w' hw'=>?_) a (Rel.run (F:=F) (st:=⟨env,H,nx⟩) hs hrel) hd
  obtain ⟨env',hq,he⟩:=flushK_sound hr _ _ _ hk (fun s=>.t _ _ (.undef _))
  have e:=ext_below (nx:=nx) hc.good hw'
  exact ⟨⟨env',H,nx⟩,⟨m,S,hc.step e (Nat.le_refl _),hr.size,hd,fun s=>e.relV hc.good (he s)⟩,hq⟩
theorem regQ_orP {px:List PanicEntry→Prop} {Q:Exit→St→Prop} {e:Exit} {st:St} (h:regQ px (Q .normal) e st):orP px Q e st:=by
 cases e with
 | normal=>exact h
 | panic ch=>exact .inl h
 | exit _=>exact h.elim
 | goto _=>exact h.elim
 | ret=>exact h.elim
 | outgrown=>exact h.elim
theorem orP_off {px:List PanicEntry→Prop} (hp:∀ ch,¬ px ch) {Q:Exit→St→Prop} {e:Exit} {st:St} (h:orP px Q e st):Q e st:=by
 cases e with
 | panic ch=>exact h.resolve_left (hp ch)
 | _=>exact h
theorem evCode_sound [Tabs] {C:Cx} (hT:CxOk C) {F:Fr} (hF:F.fits C.pn):∀ (c:Code) (st:St) (Q:Exit→St→Prop),evCode C c st Q→∀ a w,Rel F C.N st a w→c.wp C.P (fun e a' w'=>∃ st',Rel F C.N st' a' w'∧orP C.px Q e st') a w
 | .skip,st,Q,h,a,w,hr=>wp_skip ⟨st,hr,h⟩
 | .label _,st,Q,h,a,w,hr=>wp_label ⟨st,hr,h⟩
 | .region id ops draw,st,Q,h,a,w,hr=>by
  unfold evCode at h
  cases draw with
  | false=>exact wp_mono (evRegion_sound hT.tab h hr) fun e a w ⟨st',h1,h2⟩=>⟨st',h1,regQ_orP h2⟩
  | true =>
   exact wp_mono (drawG_sound hT h hF hr) fun e a w ⟨st',h1,h2⟩=>⟨st',h1,regQ_orP h2⟩
 | .seq x y,st,Q,h,a,w,hr=>by
  refine wp_seq (wp_mono (evCode_sound hT hF x st _ h a w hr) fun e a' w' ⟨st',h1,h2⟩=>?_)
  cases e with
  | normal=>exact evCode_sound hT hF y st' Q h2 a' w' h1
  | _=>exact ⟨st',h1,h2⟩
 | .cond c x y,st,Q,h,a,w,hr=>by
  obtain ⟨env,H,nx⟩:=st
  simp only [evCode] at h
  split at h
  ·rename_i b hb
   have hv:a.eval c=.bool b:=by
    obtain ⟨m,S,hc,hs,hd,hrel⟩:=hr
    have:=(Rel.run (F:=F) (st:=⟨env,H,nx⟩) hs hrel).read (a:=a) trivial c
    rw [hb] at this
    exact relV_bool this
   exact wp_cond_split hv (fun hb=>evCode_sound hT hF x _ Q (h.1 hb) a w hr) (fun hb=>evCode_sound hT hF y _ Q (h.2 hb) a w hr)
  ·exact h.elim
 | .block id body,st,Q,h,a,w,hr=>by
  refine wp_block (wp_mono (evCode_sound hT hF body st _ h a w hr) fun e a' w' ⟨st',h1,h2⟩=>?_)
  cases e with
  | exit id' =>
   change blockQ id Q (.exit id') st' at h2
   simp only [blockQ] at h2
   by_cases e:id'=id
   ·subst e
    simp only [Nat.beq_refl] at h2
    simp only [Exit.inBlock,if_true]
    exact ⟨st',h1,h2⟩
   ·have hb:Nat.beq id' id=false:=by
     cases h:Nat.beq id' id with
     | false=>rfl
     | true=>exact (e (Nat.eq_of_beq_eq_true h)).elim
    rw [hb] at h2
    simp only [Exit.inBlock,e,if_false]
    exact ⟨st',h1,h2⟩
  | _=>exact ⟨st',h1,h2⟩
 | .loop body,st,Q,h,a,w,hr=>by
  obtain ⟨h⟩:=h
  exact h F a w hF hr
 | .exit id,st,Q,h,a,w,hr=>wp_exit ⟨st,hr,h⟩
 | .ret,st,Q,h,a,w,hr=>wp_ret ⟨st,hr,h⟩
 | .rangeFunc ..,st,Q,h,a,w,hr=>h.elim
 | .scope _,st,Q,h,a,w,hr=>h.elim
 | .goto _,st,Q,h,a,w,hr=>h.elim
 | .refuse _,st,Q,h,a,w,hr=>h.elim
def Wk [Tabs] (pn N:Nat) (st st':St):Prop:=∀ F a w,F.fits pn→Rel F N st a w→Rel F N st' a w
def loopQ [Tabs] {σ:Type _} (I:σ→Prop) (μ:σ→Nat) (n:Nat) (pn N:Nat) (st:σ→St) (Q:Exit→St→Prop):Exit→St→Prop
 | .normal,st'=>∃ s,I s∧μ s<n∧Wk pn N st' (st s)
 | e,st'=>Q e st'
theorem loop_inv [Tabs] {C:Cx} (hT:CxOk C) {body:Code} {st0:St} {Q:Exit→St→Prop} {σ:Type _} (I:σ→Prop) (μ:σ→Nat) (st:σ→St) (s0:σ) (h0:I s0) (hw:Wk C.pn C.N st0 (st s0))
  (round:∀ s,I s→evCode C body (st s) (loopQ I μ (μ s) C.pn C.N st Q)):LoopG C body st0 Q:=by
 refine ⟨fun F a w hF hr b k cs=>?_⟩
 have key:∀ n s a w,μ s=n→I s→Rel F C.N (st s) a w →
   ∃ e a' w',(∃ st',Rel F C.N st' a' w'∧orP C.px Q e st')∧Arrives C.P (lone (b.at a (.code body::.inLoop body::k)) cs w) b k cs e a' w':=by
  intro n
  induction n using Nat.strongRecOn with
  | _ n ih =>
   intro s a w hn hI hR
   obtain ⟨e,a₁,w₁,⟨st',h1,h2⟩,harr⟩:=evCode_sound hT hF body (st s) _ (round s hI) a w hR b (.inLoop body::k) cs
   cases e with
   | normal =>
    obtain ⟨s',hI',hlt,hwk⟩:=h2
    obtain ⟨e₂,a₂,w₂,hq₂,harr₂⟩:=ih (μ s') (hn ▸ hlt) s' a₁ w₁ rfl hI' (hwk F a₁ w₁ hF h1)
    exact ⟨e₂,a₂,w₂,hq₂,.of_steps (Steps.trans harr (.one step_inLoop)) harr₂⟩
   | exit id=>exact ⟨.exit id,a₁,w₁,⟨st',h1,h2⟩,.pass (x:=.inLoop body) rfl (fun _ _=>.inl (by simp)) harr⟩
   | goto l=>exact ⟨.goto l,a₁,w₁,⟨st',h1,h2⟩,.pass (x:=.inLoop body) rfl (fun _ _=>.inl (by simp)) harr⟩
   | ret=>exact ⟨.ret,a₁,w₁,⟨st',h1,h2⟩,.pass (x:=.inLoop body) rfl (fun _ _=>.inl (by simp)) harr⟩
   | panic ch=>exact ⟨.panic ch,a₁,w₁,⟨st',h1,h2⟩,.pass (x:=.inLoop body) rfl (fun _ _=>.inl (by simp)) harr⟩
   | outgrown=>exact ⟨.outgrown,a₁,w₁,⟨st',h1,h2⟩,.pass (x:=.inLoop body) rfl (fun _ _=>.inl (by simp)) harr⟩
 obtain ⟨e,a',w',hq,harr⟩:=key _ s0 a w rfl h0 (hw F a w hF hr)
 exact ⟨e,a',w',hq,.of_steps (.one step_loop) harr⟩
def argEnv:List AV→Nat→Env
 | [],_=>[]
 | a::l,i=>(i,a)::argEnv l (i+1)
def AB.trees:AB→Bool
 | .cells _ l=>treesB l
 | _=>true
def resK (T:Tab):List ResultVar→St→List AR→List Nat→(List AR→Prop)→Prop
 | [],_,acc,_,k=>k acc.reverse
 | .tmp t::r,st,acc,used,k=>match lk st.env t with
  | .own id=>match notIn id used with
   | false=>False
   | true=>match lkH st.heap id with
    | .lst e E l=>resK T r st (.new (.lst e E l)::acc) (id::used) k
    | .row e E enc d xs=>resK T r st (.new (.row e E enc d xs)::acc) (id::used) k
    | _=>False
  | .map id=>match notIn id used with
   | false=>False
   | true=>match lkH st.heap id with
    | .smap ev dv es=>resK T r st (.new (.smap ev dv es)::acc) (id::used) k
    | .imap kk ev dv es=>resK T r st (.new (.imap kk ev dv es)::acc) (id::used) k
    | .gmap kk ev dv es=>resK T r st (.new (.gmap kk ev dv es)::acc) (id::used) k
    | _=>False
  | .ptr id 0=>match notIn id used with
   | false=>False
   | true=>match lkH st.heap id with
    | .cells e l=>match treesB l with
     | true=>resK T r st (.new (.cells e l)::acc) (id::used) k
     | false=>False
    | _=>False
  | v=>forceAV v fun v=>match v.tree with
   | true=>resK T r st (.val v::acc) used k
   | false=>False
 | .cell t ty::r,st,acc,used,k=>evLoad T none st.heap st.nx ty (lk st.env t) fun res=>match res with
  | ⟨v,_,_,_⟩=>forceAV v fun v=>match v.tree with
   | true=>resK T r st (.val v::acc) used k
   | false=>False
def retQ (T:Tab) (rs:Array ResultVar) (R:List AR→Prop):Exit→St→Prop
 | .normal,st=>resK T rs.toList st [] [] R
 | .ret,st=>resK T rs.toList st [] [] R
 | _,_=>False
theorem relB_move {m m':Ids} {S:Blocks} {w:World} {id n:Nat} {b:AB} {v:Value} (h:RelB m S w id b) (hm:m id=some v) (hm':m' n=some v) (hb:b.trees=true):RelB m' S w n b:=by
 cases b with
 | dead=>trivial
 | cells e l =>
  obtain ⟨g,cs,hmi,hg,hl,h1,hr⟩:=h
  rw [hmi] at hm
  cases hm
  exact ⟨g,cs,hm',hg,hl,h1,fun j c a hj ha=>.t _ _ ((hr j c a hj ha).toT (treesB_spec hb a (List.mem_of_getElem? ha)))⟩
 | arr e k n' f=>obtain ⟨g,cs,hmi,hr⟩:=h;rw [hmi] at hm;cases hm;exact ⟨g,cs,hm',hr⟩
 | lst e E l=>obtain ⟨v',vs,hmi,hr⟩:=h;rw [hmi] at hm;cases hm;exact ⟨_,vs,hm',hr⟩
 | row e E enc d xs=>obtain ⟨v',vs,hmi,hr⟩:=h;rw [hmi] at hm;cases hm;exact ⟨_,vs,hm',hr⟩
 | smap ev dv es=>obtain ⟨r,en,clock,hmi,hr⟩:=h;rw [hmi] at hm;cases hm;exact ⟨r,en,clock,hm',hr⟩
 | imap k ev dv es=>obtain ⟨r,en,clock,hmi,hr⟩:=h;rw [hmi] at hm;cases hm;exact ⟨r,en,clock,hm',hr⟩
 | gmap k ev dv es=>obtain ⟨r,en,clock,hmi,hr⟩:=h;rw [hmi] at hm;cases hm;exact ⟨r,en,clock,hm',hr⟩
 | que e E enc d xs=>obtain ⟨g,o,cap,cur,hmi,hr⟩:=h;rw [hmi] at hm;cases hm;exact ⟨g,o,cap,cur,hm',hr⟩
theorem relB_single {m:Ids} {S:Blocks} {w:World} {id:Nat} {b:AB} {v:Value} (h:RelB m S w id b) (hm:m id=some v) (hb:b.trees=true):∀ n,RelB (fun i=>if i=n then some v else none) S w n b:=by
 intro n
 exact relB_move h hm (by simp) hb
def slotVal (P:Program) (a:Act) (w:World):ResultVar→Value
 | .tmp t=>a.tmps.getD t undef
 | .cell t ty=>match a.tmps.getD t undef with
  | .pointer (some p)=>match (loadVar ty p).run P w with
   | .ok v _=>v
   | _=>undef
  | _=>undef
def slotVals (P:Program) (rs:List ResultVar) (a:Act) (w:World):List Value:=rs.map (slotVal P a w)
def SlotRun (P:Program) (a:Act) (w:World):ResultVar→Prop
 | .tmp _=>True
 | .cell t ty=>∃ p v,a.tmps.getD t undef=.pointer (some p)∧(loadVar ty p).run P w=.ok v w
inductive ResRel (m:Ids) (S:Blocks) (w:World) (H:Heap) (v:Value):AR→Option Nat→Prop
 | val (a:AV) (h:RelT S w v a):ResRel m S w H v (.val a) none
 | obj (id:Nat) (b:AB) (hm:m id=some v) (hl:lkH H id=b) (hlive:b.live=true) (hb:b.trees=true):ResRel m S w H v (.new b) (some id)
theorem zt27 {p:Prop}(h:p:=by
 exact put _ (some id) _ (.obj id _ hmid hid rfl rfl) (fun i hi=>by cases hi;exact ⟨fun hu=>notIn_spec hn _ hu rfl,rfl⟩) (fun h=>by cases h) h):p:=h
theorem zt21 {p:Prop}(h:p:=by
 unfold execOp at hu
 have he:a.eval (.tmp t)=a.tmps.getD t undef:=rfl
 simp only [o,he,Instr.loadAt,Instr.sureAddr] at hu
 generalize a.tmps.getD t undef=v0 at hu ⊢
 cases v0 with
 | pointer p0 =>
  cases p0 with
  | none=>simp [stuck,Sem.run_bind,Result.andThen] at hu
  | some p =>
   refine ⟨p,rfl,?_⟩
   simp only [Sem.run_bind,Sem.run_pure,Result.andThen_ok] at hu
   cases hr:(loadVar ty p).run P w with
   | ok v1 w1=>rw [hr] at hu;simp at hu;rw [hu.1,hu.2]
   | _=>rw [hr] at hu;simp [Result.andThen] at hu
 | _=>simp [stuck,Sem.run_bind,Result.andThen] at hu):p:=h
theorem resK_sound [Tabs] {P:Program} {T:Tab} (hT:TabOk P T) {m:Ids} {S:Blocks} {w:World} {st:St} {a:Act} (hG:Good m S w st.heap) (hrel:∀ s,RelV m S w (a.tmps.getD s undef) (lk st.env s)) :
  ∀ (rs:List ResultVar) (acc:List AR) (used:List Nat) (k:List AR→Prop),resK T rs st acc used k →
   ∃ (rs':List AR) (ids:List (Option Nat)),k (acc.reverse++rs')∧rs'.length=rs.length∧ids.length=rs.length ∧
    (∀ (j:Nat) (v:Value) (r:AR) (o:Option Nat),(slotVals P rs a w)[j]?=some v→rs'[j]?=some r→ids[j]?=some o→ResRel m S w st.heap v r o) ∧
    (∀ (i j x:Nat),ids[i]?=some (some x)→ids[j]?=some (some x)→i=j)∧(∀ x,some x∈ids→x∉used)∧∀ r∈rs,SlotRun P a w r
 | [],acc,used,k,h=>⟨[],[],by simpa [resK] using h,rfl,rfl,fun j v r o h=>by simp [slotVals] at h,fun i j x h=>by simp at h,by simp,by simp⟩
 | r0::r,acc,used,k,h=>by
  have put:∀ (x:AR) (o:Option Nat) (used':List Nat),SlotRun P a w r0→ResRel m S w st.heap (slotVal P a w r0) x o→(∀ i,o=some i→i∉used∧used'=i::used)→(o=none→used'=used)→resK T r st (x::acc) used' k →
    ∃ (rs':List AR) (ids:List (Option Nat)),k (acc.reverse++rs')∧rs'.length=(r0::r).length∧ids.length=(r0::r).length ∧
     (∀ (j:Nat) (v:Value) (r':AR) (o:Option Nat),(slotVals P (r0::r) a w)[j]?=some v→rs'[j]?=some r'→ids[j]?=some o→ResRel m S w st.heap v r' o) ∧
     (∀ (i j x:Nat),ids[i]?=some (some x)→ids[j]?=some (some x)→i=j)∧(∀ x,some x∈ids→x∉used)∧∀ r'∈r0::r,SlotRun P a w r':=by
   intro x o used' hrun hx ho1 ho2 hk
   obtain ⟨rs',ids,h1,h2,h3,h4,h5,h6,h7⟩:=resK_sound hT hG hrel r _ _ k hk
   refine ⟨x::rs',o::ids,by simpa using h1,by simp [h2],by simp [h3],fun j v r' o' p q s=>?_,fun i j y p q=>?_,fun y hy=>?_,fun r' hr'=>?_⟩
   ·cases j with
    | zero =>
     simp only [slotVals,List.map_cons,List.getElem?_cons_zero,Option.some.injEq] at p q s
     subst p;subst q;subst s;exact hx
    | succ j=>exact h4 j v r' o' (by simpa [slotVals] using p) zp45 (by simpa using s)
   ·cases i with
    | zero=>cases j with
     | zero=>rfl
     | succ j =>
      simp at p q
      subst p
      have:=h6 y (List.mem_of_getElem? q)
      rw [(ho1 y rfl).2] at this
      exact (this (by simp)).elim
    | succ i=>cases j with
     | zero =>
      simp at p q
      subst q
      have:=h6 y (List.mem_of_getElem? p)
      rw [(ho1 y rfl).2] at this
      exact (this (by simp)).elim
     | succ j=>have:=h5 i j y zp46 zp45;omega
   ·rcases List.mem_cons.1 hy with hy | hy
    ·exact (ho1 y hy.symm).1
    ·have:=h6 y hy
     cases o with
     | none=>rw [ho2 rfl] at this;exact this
     | some i=>rw [(ho1 i rfl).2] at this;intro hu;exact this (by simp [hu])
   ·rcases List.mem_cons.1 hr' with rfl | hr'
    ·exact hrun
    ·exact h7 r' hr'
  match r0,put,h with
  | .cell t ty,put,h =>
  unfold resK at h
  let o : Oper := { dst := none, op := .load ty (.tmp t), type := 0, pos := "", after := #[], guard := none }
  obtain ⟨res,hsem,_,h⟩:=evLoad_sound (P:=P) (T:=T) hT (g:=none) (rd:=fun x=>match x with | .tmp s=>lk st.env s | _=>.undef) (o:=o) (x:=.tmp t) rfl h
  obtain ⟨v,touch,wr,nx'⟩:=res
  simp only [forceAV_iff] at h
  obtain ⟨_,hsem⟩:=hsem trivial
  obtain ⟨u,hu,hru⟩:=hsem m S w a st.heap hG (fun _ _=>rfl) (fun x hx _=>by
   simp only [List.mem_singleton] at hx
   subst hx
   exact hrel t)
  have hu:=hu w ⟨Nat.le_refl _,fun _ _=>rfl⟩
  have hld:∃ p,a.tmps.getD t undef=.pointer (some p)∧(loadVar ty p).run P w=.ok u w:=by
   exact zt21
  obtain ⟨p,hp,hl⟩:=hld
  split at h
  ·rename_i htr
   refine put (.val v) none used ⟨p,u,hp,hl⟩ (.val _ ?_) (fun i hi=>by cases hi) (fun _=>rfl) h
   have:slotVal P a w (.cell t ty)=u:=by simp only [slotVal,hp,hl]
   rw [this]
   exact hru.toT htr
  ·exact h.elim
  | .tmp t,put,h =>
  have hv:=hrel t
  unfold resK at h
  have put:∀ (x:AR) (o:Option Nat) (used':List Nat),ResRel m S w st.heap (a.tmps.getD t undef) x o→(∀ i,o=some i→i∉used∧used'=i::used)→(o=none→used'=used)→resK T r st (x::acc) used' k→_ :=
   fun x o used'=>put x o used' trivial
  split at h
  ·rename_i id hl
   rw [hl] at hv
   split at h
   ·exact h.elim
   ·rename_i hn
    have hmid:m id=some (a.tmps.getD t undef):=by
     generalize a.tmps.getD t undef=v at hv
     cases hv with
     | t _ _ h=>cases h
     | own id n cap ad hm=>exact hm
    split at h
    ·rename_i e E l hid
     exact zt27
    ·rename_i T e E enc d xs hid
     exact zt27
    ·exact h.elim
  ·rename_i id hl
   rw [hl] at hv
   split at h
   ·exact h.elim
   ·rename_i hn
    have hmid:m id=some (a.tmps.getD t undef):=by
     generalize a.tmps.getD t undef=v at hv
     cases hv with
     | t _ _ h=>cases h
     | map id r hm=>exact hm
    split at h
    ·rename_i V ev dv es hid
     exact zt27
    ·rename_i V kk ev dv es hid
     exact zt27
    ·rename_i V kk ev dv es hid
     exact zt27
    ·exact h.elim
  ·rename_i id hl
   rw [hl] at hv
   split at h
   ·exact h.elim
   ·rename_i hn
    have hmid:∀ e l,lkH st.heap id=.cells e l→m id=some (a.tmps.getD t undef):=by
     intro e l hid
     have hb:=hG.rel id
     rw [hid] at hb
     obtain ⟨g,cs,hmi,_⟩:=hb
     generalize a.tmps.getD t undef=v at hv
     cases hv with
     | t _ _ h=>cases h
     | ptr id off g' hm=>exact hm
    split at h
    ·rename_i e l hid
     split at h
     ·rename_i htr
      exact put _ (some id) _ (.obj id _ (hmid e l hid) hid rfl htr) (fun i hi=>by cases hi;exact ⟨fun hu=>notIn_spec hn _ hu rfl,rfl⟩) (fun h=>by cases h) h
     ·exact h.elim
    ·exact h.elim
  ·rw [forceAV_iff] at h
   split at h
   ·rename_i htr
    exact put _ none _ (.val _ (hv.toT htr)) (fun i hi=>by cases hi) (fun _=>rfl) h
   ·exact h.elim
theorem run_results {P:Program} {fn:Func} {w:World} {a:Act} (h:∀ r∈fn.results.toList,SlotRun P a w r) (hn:fn.results.size≤4):(results fn a.tmps).run P w=Result.ok (retVal (slotVals P fn.results.toList a w)) w:=by
 obtain ⟨l,hl⟩:∃ l,fn.results=Array.mk l:=⟨fn.results.toList,rfl⟩
 rw [hl] at h hn
 simp only [List.size_toArray] at hn
 have one:∀ r,SlotRun P a w r→(∃ t,r=.tmp t)∨∃ t ty p v,r=.cell t ty∧a.tmps[t]?.getD undef=.pointer (some p)∧(loadVar ty p).run P w=.ok v w:=by
  intro r hr
  cases r with
  | tmp t=>exact .inl ⟨t,rfl⟩
  | cell t ty=>obtain ⟨p,v,h1,h2⟩:=hr;exact .inr ⟨t,ty,p,v,rfl,by simpa using h1,h2⟩
 match l,h,hn with
 | [],h,hn=>simp [results,hl,slotVals,retVal]
 | [r0],h,hn =>
  rcases one r0 (h r0 (by simp)) with ⟨t0,rfl⟩ | ⟨t0,y0,p0,v0,rfl,a0,b0⟩<;>simp [results,hl,slotVals,slotVal,retVal,asAddr, *]
 | [r0,r1],h,hn =>
  rcases one r0 (h r0 (by simp)) with ⟨t0,rfl⟩ | ⟨t0,y0,p0,v0,rfl,a0,b0⟩<;>rcases one r1 (h r1 (by simp)) with ⟨t1,rfl⟩ | ⟨t1,y1,p1,v1,rfl,a1,b1⟩<;>simp [results,hl,slotVals,slotVal,retVal,asAddr, *]
 | [r0,r1,r2],h,hn =>
  rcases one r0 (h r0 (by simp)) with ⟨t0,rfl⟩ | ⟨t0,y0,p0,v0,rfl,a0,b0⟩<;>rcases one r1 (h r1 (by simp)) with ⟨t1,rfl⟩ | ⟨t1,y1,p1,v1,rfl,a1,b1⟩ <;>
   rcases one r2 (h r2 (by simp)) with ⟨t2,rfl⟩ | ⟨t2,y2,p2,v2,rfl,a2,b2⟩<;>simp [results,hl,slotVals,slotVal,retVal,asAddr, *]
 | [r0,r1,r2,r3],h,hn =>
  rcases one r0 (h r0 (by simp)) with ⟨t0,rfl⟩ | ⟨t0,y0,p0,v0,rfl,a0,b0⟩<;>rcases one r1 (h r1 (by simp)) with ⟨t1,rfl⟩ | ⟨t1,y1,p1,v1,rfl,a1,b1⟩ <;>
   rcases one r2 (h r2 (by simp)) with ⟨t2,rfl⟩ | ⟨t2,y2,p2,v2,rfl,a2,b2⟩<;>rcases one r3 (h r3 (by simp)) with ⟨t3,rfl⟩ | ⟨t3,y3,p3,v3,rfl,a3,b3⟩<;>simp [results,hl,slotVals,slotVal,retVal,asAddr, *]
 | _::_::_::_::_::_,h,hn=>simp at hn
theorem lk_argEnv:∀ (args:List AV) (i s:Nat),lk (argEnv args i) s=if i≤s then args.getD (s-i) .undef else .undef
 | [],i,s=>by simp [argEnv,lk]
 | a::l,i,s=>by
  rw [argEnv,lk_cons,lk_argEnv l (i+1) s]
  by_cases h1:i=s
  ·subst h1;simp
  ·rw [if_neg h1]
   by_cases h2:i≤s
   ·rw [if_pos h2,if_pos (by omega)]
    obtain ⟨q,hq⟩:∃ q,s-i=q+1:=⟨s-i-1,by omega⟩
    rw [hq,show s-(i+1)=q by omega]
    simp
   ·rw [if_neg h2,if_neg (by omega)]
theorem zt20 {p:Prop}(h:p:=by
 obtain ⟨o,ho⟩:∃ o,ids[i]?=some o:=⟨_,List.getElem?_eq_getElem (by
  have:=(List.getElem?_eq_some_iff.1 hb).1
  omega)⟩
 cases h4 i u (.new b) o hu hb ho with
 | obj id _ hm hl hlive hbc =>
  refine ⟨fun hSk=>(hc.good.ro k hSk).2 id u (by rw [hl];exact hlive) hm hk,fun j u' b' hu' hb' hk'=>?_⟩
  obtain ⟨o',ho'⟩:∃ o,ids[j]?=some o:=⟨_,List.getElem?_eq_getElem (by
   have:=(List.getElem?_eq_some_iff.1 hb').1
   omega)⟩
  cases h4 j u' (.new b') o' hu' hb' ho' with
  | obj id' _ hm' hl' hlive' hbc' =>
   have:=hc.good.sep id id' u u' k (by rw [hl];exact hlive) (by rw [hl'];exact hlive') hm hm' hk hk'
   subst this
   exact h5 i j id ho ho'):p:=h
theorem zt101 {p:Prop}(h:p:=by
 have:s<vs.length:=by omega
 simp [Array.getElem?_append,this]):p:=h
theorem zt12 {p:Prop}(h:p:=by
 refine ⟨fun _=>none,S,⟨⟨fun id=>trivial,fun i j vi vj k hl=>by simp [lkH,AB.live] at hl,fun g hg=>⟨hS g hg,fun i v hl=>by simp [lkH,AB.live] at hl⟩,hTb⟩,fun _ _=>rfl,Far.refl _ _,fun k ⟨i,v,hl,_⟩=>by simp [lkH,AB.live] at hl,fun g hg=>.inl hg,fun g hg=>hg,fun i v h=>by cases h⟩,by simp;omega,rfl,fun s=>?_⟩
 rw [lk_argEnv,if_pos (Nat.zero_le _),Nat.sub_zero]
 by_cases hs:s<args.length
 ·have h1:args[s]?=some (args.getD s .undef):=by simp [List.getD,List.getElem?_eq_getElem hs]
  have h2:vs[s]?=some ((vs.toArray++Array.replicate (fn.ntmps-vs.toArray.size) undef).getD s undef):=by
   exact zt101
  exact .t _ _ (hrel s _ _ h2 h1)
 ·have:args.getD s .undef=.undef:=by simp [List.getD,List.getElem?_eq_none (by omega:args.length≤s)]
  rw [this]
  exact .t _ _ (.undef _)):p:=h
theorem zt37 {p:Prop}(h:p:=by
 obtain ⟨o,ho⟩:∃ o,ids[j]?=some o:=⟨_,List.getElem?_eq_getElem (by
  have:=(List.getElem?_eq_some_iff.1 hr').1
  omega)⟩
 cases h4 j u r o hu hr' ho with
 | val a h=>exact h
 | obj id b hm hl hlive hb =>
  refine ⟨hlive,fun k hk=>?_,relB_single (by rw [← hl];exact hc.good.rel id) hm hb⟩
  rcases hc.owns k ⟨id,u,by rw [hl];exact hlive,hm,hk⟩ with h | h
  ·exact h.elim
  ·exact h):p:=h
theorem apure_of0 [Tabs] {C : Cx} (hT : CxOk C) {f : FuncId} {fn : Func} {code : Code} {args : List AV} {R : List AR → Prop} (hf : C.P.funcs[f]? = some fn) (hb : fn.body = some code) (hname : (fn.name == "runtime.NumGoroutine") = false)
  (hN:C.N=fn.ntmps) (hle:args.length≤fn.ntmps) (hres:fn.results.size≤4) (h:∀ F a w,F.fits C.pn→Rel F C.N ⟨argEnv args 0,[],0⟩ a w→code.wp C.P (fun e a' w'=>∃ st',Rel F C.N st' a' w'∧retQ C.T fn.results R e st') a w):APure C.P f args R:=by
 refine ⟨⟨fn,hf,by rw [hb];rfl,hname⟩,fun S w vs hS hTb ⟨hlen,hrel⟩=>calls_of_wp hf hb ?_⟩
 let F:Fr:=⟨w,fun _=>False,S,fun _=>none,[]⟩
 have hrel0:Rel F C.N ⟨argEnv args 0,[],0⟩ { tmps:=vs.toArray++Array.replicate (fn.ntmps-vs.toArray.size) undef,defers:=[] } w:=by
  exact zt12
 refine wp_mono (h F _ w (fun i v h=>by cases h) hrel0) fun e a' w' ⟨st',⟨m,S',hc,hs,hd,hr⟩,hq⟩=>?_
 have fin:resK C.T fn.results.toList st' [] [] R→a'.defers=[]∧∃ v,(results fn a'.tmps).run C.P w'=.ok v w'∧∃ us rs S',Ending.returned v=.returned (retVal us)∧R rs∧Left S w us rs S' w':=by
  intro hq
  obtain ⟨rs,ids,h1,h2,h3,h4,h5,_,h7⟩:=resK_sound hT.tab hc.good hr _ _ _ _ hq
  have hlenv:(slotVals C.P fn.results.toList a' w').length=rs.length:=by rw [h2];simp [slotVals]
  refine ⟨hd,_,run_results h7 hres,slotVals C.P fn.results.toList a' w',rs,S',rfl,by simpa using h1,⟨hlenv,fun j u r hu hr'=>?_,hc.far.below (fun k _ h=>h),hc.ro0,fun g hg=>(hc.ro g hg).elim .inl (fun h=>h.elim (fun h=>h.elim) .inr),fun g hg=>(hc.good.ro g hg).1,fun i u b k hu hb hk=>?_⟩⟩
  ·exact zt37
  ·exact zt20
 cases e with
 | normal=>exact fin hq
 | ret=>exact fin hq
 | _=>exact hq.elim
theorem apure_of [Tabs] {C : Cx} (hT : CxOk C) {f : FuncId} {fn : Func} {code : Code} {args : List AV} {R : List AR → Prop} (hf : C.P.funcs[f]? = some fn) (hb : fn.body = some code) (hname : (fn.name == "runtime.NumGoroutine") = false)
  (hN:C.N=fn.ntmps) (hle:args.length≤fn.ntmps) (hres:fn.results.size≤4) (h:evCode C code ⟨argEnv args 0,[],0⟩ (retQ C.T fn.results R)) (hpx:∀ ch,¬ C.px ch:=by exact fun _ h=>h):APure C.P f args R :=
 apure_of0 hT hf hb hname hN hle hres fun _ a w hF hr=>wp_mono (evCode_sound hT hF code _ _ h a w hr) fun _ _ _ ⟨st',h1,h2⟩=>⟨st',h1,orP_off hpx h2⟩
def wkQ [Tabs] (pn N:Nat) (Q:Exit→St→Prop) (e:Exit) (st:St):Prop:=∃ st',Wk pn N st st'∧Q e st'
theorem Wk.refl [Tabs] {pn N:Nat} (st:St):Wk pn N st st:=fun _ _ _ _ h=>h
theorem Wk.trans [Tabs] {pn N:Nat} {a b c:St} (h:Wk pn N a b) (k:Wk pn N b c):Wk pn N a c:=fun F x w hF hr=>k F x w hF (h F x w hF hr)
theorem apure_ofw [Tabs] {C : Cx} (hT : CxOk C) {f : FuncId} {fn : Func} {code : Code} {args : List AV} {R : List AR → Prop} (hf : C.P.funcs[f]? = some fn) (hb : fn.body = some code) (hname : (fn.name == "runtime.NumGoroutine") = false)
  (hN:C.N=fn.ntmps) (hle:args.length≤fn.ntmps) (hres:fn.results.size≤4) (h:evCode C code ⟨argEnv args 0,[],0⟩ (wkQ C.pn C.N (retQ C.T fn.results R))) (hpx:∀ ch,¬ C.px ch:=by exact fun _ h=>h):APure C.P f args R :=
 apure_of0 hT hf hb hname hN hle hres fun _ a w hF hr=>wp_mono (evCode_sound hT hF code _ _ h a w hr) fun _ a' w' ⟨_,h1,h2⟩=>let ⟨st2,hw,hq⟩:=orP_off hpx h2;⟨st2,hw _ a' w' hF h1,hq⟩
def TabL (P:Program):Tab→Prop
 | []=>True
 | (t,i)::r=>(P.underlying t,(P.info? t).map fun j=>(j.size,j.bytes,j.zero))=(some i.desc,some (i.size,i.bytes,some i.zero))∧TabL P r
theorem tabOk_of {P:Program}:∀ {T:Tab},TabL P T→TabOk P T
 | [],_,t,i,h=>by simp [lkT] at h
 | (t',i')::r,hL,t,i,h=>by
  have hc:lkT ((t',i')::r) t=(match Nat.beq t' t with | true=>some i' | false=>lkT r t):=rfl
  rw [hc] at h
  split at h
  ·rename_i hb
   have:=Nat.eq_of_beq_eq_true hb
   subst this
   cases h
   have h1:=hL.1
   simp only [Prod.mk.injEq] at h1
   obtain ⟨h1,h2⟩:=h1
   refine ⟨h1,?_⟩
   cases hj:P.info? t' with
   | none=>rw [hj] at h2;cases h2
   | some j =>
    rw [hj] at h2
    simp only [Option.map_some,Option.some.injEq,Prod.mk.injEq] at h2
    exact ⟨j,rfl,h2⟩
  ·exact tabOk_of hL.2 t i h
inductive SrcId where
 | id (i:Nat)
 | nil
 | trunc (i n:Nat)
abbrev Ren:=List (Nat×SrcId)
def lkS:Ren→Nat→Option SrcId
 | [],_=>none
 | (i,s)::r,j=>match Nat.beq i j with
  | true=>some s
  | false=>lkS r j
inductive LeV1 (ρ:Ren):AV→AV→Prop
 | undef (v:AV):LeV1 ρ v .undef
 | tree (v v':AV) (h:v=v') (ht:v'.tree=true):LeV1 ρ v v'
 | leT (v v':AV) (h:LeT v v') (ht:v.tree=true):LeV1 ρ v v'
 | own (i j:Nat) (h:lkS ρ j=some (.id i)):LeV1 ρ (.own i) (.own j)
 | nilown (j:Nat) (h:lkS ρ j=some .nil):LeV1 ρ .nils (.own j)
 | trunc (i n j:Nat) (h:lkS ρ j=some (.trunc i n)):LeV1 ρ (.pre i n) (.own j)
 | pre (i n n' j:Nat) (h:lkS ρ j=some (.id i)) (hn:n=n'):LeV1 ρ (.pre i n) (.pre j n')
 | ptr (i j off:Nat) (h:lkS ρ j=some (.id i)):LeV1 ρ (.ptr i off) (.ptr j off)
 | map (i j:Nat) (h:lkS ρ j=some (.id i)):LeV1 ρ (.map i) (.map j)
 | csl (i n j:Nat) (h:lkS ρ j=some (.id i)):LeV1 ρ (.csl i n) (.csl j n)
inductive LeL (R:AV→AV→Prop):List AV→List AV→Prop
 | nil:LeL R [] []
 | cons {a a':AV} {l l':List AV} (h:R a a') (hl:LeL R l l'):LeL R (a::l) (a'::l')
inductive LeV (ρ:Ren):AV→AV→Prop
 | base {v v':AV} (h:LeV1 ρ v v'):LeV ρ v v'
 | fn (f:Fn) (a b a' b':List AV) (h:LeL (LeV1 ρ) a a') (h':LeL (LeV1 ρ) b b'):LeV ρ (.fn f a b) (.fn f a' b')
 | agg (l l':List AV) (h:LeL (LeV1 ρ) l l'):LeV ρ (.agg l) (.agg l')
theorem LeT.refl (a:AV):LeT a a:=fun _ _ _ h=>h
theorem LeT.nils_lsl (E:Nat) {l:List AV} (h:[]=l):LeT .nils (.lsl E l):=fun S w v hr=>by
 subst h
 cases hr
 exact .lslnil E
theorem LeT.nils_sl {T:Type} (E:Nat) (enc:T→AV) (d:T):LeT .nils (.sl E enc d []):=fun S w v h=>by
 cases h
 exact .sl _ _ _ _ _ (.lslnil E)
theorem LeT.lsl_sl {T:Type} {E:Nat} {l:List AV} (enc:T→AV) (d:T) (xs:List T) (h:l=xs.map enc):LeT (.lsl E l) (.sl E enc d xs):=fun S w v hr=>.sl _ _ _ _ _ (by rw [← h];exact hr)
inductive LeTs:List AV→List AV→Prop
 | nil:LeTs [] []
 | cons {a b:AV} {l r:List AV} (h:LeT a b) (t:LeTs l r):LeTs (a::l) (b::r)
theorem LeTs.len {l r:List AV} (h:LeTs l r):r.length=l.length:=by
 induction h with
 | nil=>rfl
 | cons _ _ ih=>simp [ih]
theorem LeTs.get {l r:List AV} (h:LeTs l r):∀ {j:Nat} {b:AV},r[j]?=some b→∃ a,l[j]?=some a∧LeT a b:=by
 induction h with
 | nil=>intro j b h;simp at h
 | cons h0 t ih =>
  intro j b h
  cases j with
  | zero=>simp at h;subst h;exact ⟨_,rfl,h0⟩
  | succ j=>exact ih zp19
theorem LeT.any1 {a:AV} (h:a.one=true):LeT a .any1:=fun _ _ _ hr=>.any1 _ (hr.oneCell h)
theorem RowRel.leT {S:Blocks} {w:World} {e E:Nat} {l r:List AV} {v:Value} {vs:List Value} (h:RowRel S w e E l v vs) (hlen:r.length=l.length) (hE:∀ x∈r,x.cells.length=E) (h1:∀ a∈flat r,a.one=true) (ht:LeTs (flat l) (flat r)):RowRel S w e E r v vs :=
 ⟨by rw [hlen];exact h.owns,hE,h1,fun j c b hj hb=>by
  obtain ⟨a,ha,hab⟩:=ht.get hb
  exact hab S w c (h.rel j c a hj ha)⟩
inductive LeB (H:Heap) (ρ:Ren):SrcId→AB→Prop
 | dead (s:SrcId):LeB H ρ s .dead
 | row {T:Type} (i e E:Nat) (enc:T→AV) (d:T) (xs xs':List T) (h:lkH H i=.row e E enc d xs) (hx:xs=xs'):LeB H ρ (.id i) (.row e E enc d xs')
 | lst (i e E:Nat) (l l':List AV) (h:lkH H i=.lst e E l) (hx:l=l'):LeB H ρ (.id i) (.lst e E l')
 | lstrow {T:Type} (i e E:Nat) (l:List AV) (enc:T→AV) (d:T) (xs:List T) (h:lkH H i=.lst e E l) (hx:l=xs.map enc):LeB H ρ (.id i) (.row e E enc d xs)
 | cells (i e:Nat) (l l':List AV) (h:lkH H i=.cells e l) (hl:LeL (LeV ρ) l l') (h1:allOne l'=true):LeB H ρ (.id i) (.cells e l')
 | smap {V:Type} (i:Nat) (ev:V→AV) (dv:V) (es es':List (List UInt8×V)) (h:lkH H i=.smap ev dv es) (hx:es=es'):LeB H ρ (.id i) (.smap ev dv es')
 | imap {V:Type} (i:Nat) (k:IntKind) (ev:V→AV) (dv:V) (es es':List (Int×V)) (h:lkH H i=.imap k ev dv es) (hx:es=es'):LeB H ρ (.id i) (.imap k ev dv es')
 | gmap {V:Type} (i:Nat) (k:List KK) (ev:V→AV) (dv:V) (es es':List (List KV×V)) (h:lkH H i=.gmap k ev dv es) (hx:es=es'):LeB H ρ (.id i) (.gmap k ev dv es')
 | newgmap {V W:Type} (i:Nat) (ev:V→AV) (dv:V) (es:List (List UInt8×V)) (k:List KK) (ev':W→AV) (dv':W) (es':List (List KV×W)) (h:lkH H i=.smap ev dv es) (hx:es=[]) (hx':es'=[]):LeB H ρ (.id i) (.gmap k ev' dv' es')
 | newsmap {V W:Type} (i:Nat) (ev:V→AV) (dv:V) (es:List (List UInt8×V)) (ev':W→AV) (dv':W) (es':List (List UInt8×W)) (h:lkH H i=.smap ev dv es) (hx:es=[]) (hx':es'=[]):LeB H ρ (.id i) (.smap ev' dv' es')
 | newimap {V W:Type} (i:Nat) (ev:V→AV) (dv:V) (es:List (List UInt8×V)) (k:IntKind) (ev':W→AV) (dv':W) (es':List (Int×W)) (h:lkH H i=.smap ev dv es) (hx:es=[]) (hx':es'=[]):LeB H ρ (.id i) (.imap k ev' dv' es')
 | arr (i e:Nat) (k:IntKind) (n:Nat) (f f':Nat→Int) (h:lkH H i=.arr e k n f) (hx:∀ j,j<n→f j=f' j):LeB H ρ (.id i) (.arr e k n f')
 | nilrow {T:Type} (e E:Nat) (enc:T→AV) (d:T) (xs:List T) (hx:xs=[]):LeB H ρ .nil (.row e E enc d xs)
 | nillst (e E:Nat):LeB H ρ .nil (.lst e E [])
 | que {T:Type} (i e E:Nat) (enc:T→AV) (d:T) (xs xs':List T) (h:lkH H i=.que e E enc d xs) (hx:xs=xs'):LeB H ρ (.id i) (.que e E enc d xs')
 | rowque {T:Type} (i e E:Nat) (enc:T→AV) (d:T) (xs xs':List T) (h:lkH H i=.row e E enc d xs) (hx:xs=xs') (hn:xs≠[]):LeB H ρ (.id i) (.que e E enc d xs')
 | lstque {T:Type} (i e E:Nat) (l:List AV) (enc:T→AV) (d:T) (xs:List T) (h:lkH H i=.lst e E l) (hx:l=xs.map enc) (hn:xs≠[]):LeB H ρ (.id i) (.que e E enc d xs)
 | rowT {T:Type} (i e E:Nat) (s:Src) (enc:T→AV) (d:T) (xs:List T) (h:lkH H i=s.obj e E) (hlen:(xs.map enc).length=s.list.length) (hE:∀ x∈xs.map enc,x.cells.length=E) (h1:∀ a∈flat (xs.map enc),a.one=true)
   (ht:LeTs (flat s.list) (flat (xs.map enc))):LeB H ρ (.id i) (.row e E enc d xs)
 | truncrow {T:Type} (i n e E:Nat) (enc:T→AV) (d:T) (xs xs':List T) (h:lkH H i=.row e E enc d xs) (hn:n≤xs.length) (hx:xs.take n=xs'):LeB H ρ (.trunc i n) (.row e E enc d xs')
def LeEnv (ρ:Ren) (env:Env):Env→Prop
 | []=>True
 | (s,v')::r=>LeV ρ (lk env s) v'∧LeEnv ρ env r
def LeHeap (H:Heap) (ρ:Ren):Heap→Prop
 | []=>True
 | (j,b')::r=>(∃ s,lkS ρ j=some s∧LeB H ρ s b')∧LeHeap H ρ r
def srcOf:SrcId→Option Nat
 | .id i=>some i
 | .nil=>none
 | .trunc i _=>some i
def renOk (nx:Nat):Ren→Bool
 | []=>true
 | (j,s)::r=>Nat.blt j nx&&(match srcOf s with
  | none=>true
  | some i=>r.all fun p=>match srcOf p.2 with
   | none=>true
   | some i'=>!(Nat.beq i i'))&&renOk nx r
def setLen (n:Nat):Value→Value
 | .slice a _ c=>.slice a n c
 | v=>v
def renM (ρ:Ren) (m:Ids):Ids:=fun j=>match lkS ρ j with
 | none=>none
 | some (.id i)=>m i
 | some .nil=>some (.slice none 0 0)
 | some (.trunc i n)=>(m i).map (setLen n)
theorem renOk_inj {nx:Nat}:∀ {ρ:Ren},renOk nx ρ=true→∀ j j' s s' i,lkS ρ j=some s→lkS ρ j'=some s'→srcOf s=some i→srcOf s'=some i→j=j'
 | [],_,j,j',s,s',i,h,_,_,_=>by simp [lkS] at h
 | (k,t)::r,hr,j,j',s,s',i,h1,h2,e1,e2=>by
  simp only [renOk,Bool.and_eq_true] at hr
  obtain ⟨⟨_,hd⟩,hr⟩:=hr
  have hin:∀ {ρ:Ren} {j:Nat} {s:SrcId},lkS ρ j=some s→∃ p∈ρ,p.2=s:=by
   intro ρ
   induction ρ with
   | nil=>intro j s h;simp [lkS] at h
   | cons p ρ ih =>
    intro j s h
    obtain ⟨a,b⟩:=p
    simp only [lkS] at h
    split at h
    ·cases h;exact ⟨_,List.mem_cons_self,rfl⟩
    ·obtain ⟨p,hp,e⟩:=ih h;exact ⟨p,List.mem_cons.2 (.inr hp),e⟩
  simp only [lkS] at h1 h2
  split at h1<;>split at h2
  ·rename_i _ b1 _ b2
   rw [← Nat.eq_of_beq_eq_true b1,← Nat.eq_of_beq_eq_true b2]
  ·cases h1
   rw [e1] at hd
   obtain ⟨p,hp,rfl⟩:=hin h2
   have:=List.all_eq_true.1 hd p hp
   rw [e2] at this
   simp at this
  ·cases h2
   rw [e2] at hd
   obtain ⟨p,hp,rfl⟩:=hin h1
   have:=List.all_eq_true.1 hd p hp
   rw [e1] at this
   simp at this
  ·exact renOk_inj hr j j' s s' i h1 h2 e1 e2
theorem renOk_lt {nx:Nat}:∀ {ρ:Ren},renOk nx ρ=true→∀ j s,lkS ρ j=some s→j<nx
 | [],_,j,s,h=>by simp [lkS] at h
 | (k,t)::r,hr,j,s,h=>by
  simp only [renOk,Bool.and_eq_true] at hr
  simp only [lkS] at h
  split at h
  ·rename_i b
   rw [← Nat.eq_of_beq_eq_true b]
   simpa [Nat.blt_eq] using hr.1.1
  ·exact renOk_lt hr.2 j s h
theorem LeV1.rel {ρ:Ren} {m:Ids} {S:Blocks} {w:World} {v:Value} {a a':AV} (h:LeV1 ρ a a') (hr:RelV m S w v a):RelV (renM ρ m) S w v a':=by
 have hid:∀ {i j u},lkS ρ j=some (.id i)→m i=some u→renM ρ m j=some u:=by
  intro i j u h hm
  simp [renM,h,hm]
 cases h with
 | undef v=>exact .t _ _ (.undef _)
 | tree v v' h ht=>subst h;exact .t _ _ (hr.toT ht)
 | leT v v' h ht=>exact .t _ _ (h _ _ _ (hr.toT ht))
 | own i j h=>cases hr with
  | t _ _ h=>cases h
  | own id n cap a hm=>exact .own j n cap a (hid h hm)
 | nilown j h=>cases hr with
  | t _ _ h'=>cases h';exact .own j 0 0 none (by simp [renM,h])
 | trunc i n j h=>cases hr with
  | t _ _ h=>cases h
  | pre id len n' cap a hm hle=>exact .own j n cap a (by simp [renM,h,hm,setLen])
 | pre i n n' j h hn=>subst hn;cases hr with
  | t _ _ h=>cases h
  | pre id len n' cap a hm hle=>exact .pre j n n' cap a (hid h hm) hle
 | ptr i j off h=>cases hr with
  | t _ _ h=>cases h
  | ptr id off g hm=>exact .ptr j off g (hid h hm)
 | map i j h=>cases hr with
  | t _ _ h=>cases h
  | map id r hm=>exact .map j r (hid h hm)
 | csl i n j h=>cases hr with
  | t _ _ h=>cases h
  | csl id n g hm=>exact .csl j n g (hid h hm)
theorem LeL.get {R:AV→AV→Prop} {l l':List AV} (h:LeL R l l'):l'.length=l.length∧∀ (j:Nat) (a':AV),l'[j]?=some a'→∃ a,l[j]?=some a∧R a a':=by
 induction h with
 | nil=>exact ⟨rfl,fun j a' h=>by simp at h⟩
 | cons h hl ih =>
  refine ⟨by simp [ih.1],fun j a' hj=>?_⟩
  cases j with
  | zero=>simp at hj;subst hj;exact ⟨_,rfl,h⟩
  | succ j=>simpa using ih.2 j a' zp16
theorem LeV.rel {ρ:Ren} {m:Ids} {S:Blocks} {w:World} {v:Value} {a a':AV} (h:LeV ρ a a') (hr:RelV m S w v a):RelV (renM ρ m) S w v a':=by
 cases h with
 | base h=>exact h.rel hr
 | fn f x y x' y' h h' =>
  obtain ⟨fs,cs,rfl,h1,h2,r1,r2⟩:=relV_fn hr
  obtain ⟨l1,g1⟩:=h.get
  obtain ⟨l2,g2⟩:=h'.get
  refine .fn f fs cs x' y' (by omega) (by omega) (fun j c a hj ha=>?_) (fun j c a hj ha=>?_)
  ·obtain ⟨a0,h0,hle⟩:=g1 j a ha
   exact hle.rel (r1 j c a0 hj h0)
  ·obtain ⟨a0,h0,hle⟩:=g2 j a ha
   exact hle.rel (r2 j c a0 hj h0)
 | agg l l' h =>
  obtain ⟨cs,rfl,h1,r1⟩:=relV_agg hr
  obtain ⟨l1,g1⟩:=h.get
  refine .agg cs l' (by omega) (fun j c a hj ha=>?_)
  obtain ⟨a0,h0,hle⟩:=g1 j a ha
  exact hle.rel (r1 j c a0 hj h0)
theorem RowRel.que {S:Blocks} {w:World} {e E:Nat} {l:List AV} {v:Value} {vs:List Value} (h:RowRel S w e E l v vs) (hn:l≠[]):∃ g cap cur,v=.slice (some ⟨g,0,none⟩) l.length cap∧QueRel S w e E l g 0 cap cur:=by
 rcases h.owns.2 with ⟨_,h0⟩ | ⟨g,cap,cur,hv,_,hh,hnc,hcm,hcs,htake⟩
 ·exact (hn (List.eq_nil_of_length_eq_zero h0)).elim
 ·refine ⟨g,cap,cur,hv,hh,hnc,hcm,by omega,h.size,h.ones,fun j c a hj ha=>h.rel j c a ?_ ha⟩
  have hlt:=(List.getElem?_eq_some_iff.1 ha).1
  rw [flat_length l h.size] at hlt
  rw [← htake,List.getElem?_take,if_pos hlt]
  rw [Nat.zero_add] at hj
  simpa using hj
theorem zp52 {p:Prop} (h:p:=by rw [h];rfl):p:=h
theorem zt31 {p:Prop}(h:p:=by
 subst hx
 subst hx'
 have hb:=hG.rel i
 rw [h] at hb
 obtain ⟨r,en,clock,hm,hr,hl,hb1,_⟩:=hb
 exact ⟨⟨r,en,clock,by rw [hid rfl];exact hm,hr,by simpa using hl,hb1,fun j x p _ hp=>by simp at hp⟩,fun _=>fin rfl zp52⟩):p:=h
theorem zt43 {p:Prop}(h:p:=by
 subst hx
 have hb:=hG.rel i
 rw [h] at hb
 obtain ⟨r,en,clock,hm,hr⟩:=hb
 exact ⟨⟨r,en,clock,by rw [hid rfl];exact hm,hr⟩,fun _=>fin rfl zp52⟩):p:=h
theorem zt80 {p:Prop}(h:p:=by
 have hm:renM ρ m j=some (.slice none 0 0):=by simp [renM,hs]
 refine ⟨⟨_,[],hm,⟨World.ownsRow_nil w 0 e E,by simp,by simp [flat],by simp⟩⟩,fun _ v k hv hk=>?_⟩
 rw [hm] at hv
 cases hv
 simp [blk] at hk):p:=h
theorem zt71 {p:Prop}(h:p:=by
 subst hx
 have hb:=hG.rel i
 rw [h] at hb
 obtain ⟨v,vs,hm,hr⟩:=hb
 obtain ⟨g,cap,cur,rfl,hq⟩:=hr.que (by simpa using hn)
 exact ⟨⟨g,0,cap,cur,by rw [hid rfl,hm,List.length_map],hq⟩,fun _=>fin rfl zp52⟩):p:=h
theorem zt109 {p:Prop}(h:p:=by
 subst hx
 have hb:=hG.rel i
 rw [h] at hb
 obtain ⟨v,vs,hm,hr⟩:=hb
 exact ⟨⟨v,vs,by rw [hid rfl];exact hm,hr⟩,fun _=>fin rfl zp52⟩):p:=h
theorem LeB.rel [Tabs] {H:Heap} {ρ:Ren} {m:Ids} {S:Blocks} {w:World} {s:SrcId} {b':AB} {j:Nat} (hG:Good m S w H) (hs:lkS ρ j=some s) (h:LeB H ρ s b') :
  RelB (renM ρ m) S w j b'∧(b'.live=true→∀ v k,renM ρ m j=some v→blk v=some k→∃ i u,srcOf s=some i∧(lkH H i).live=true∧m i=some u∧blk u=some k):=by
 have hid:∀ {i:Nat},s=.id i→renM ρ m j=m i:=by
  intro i e
  subst e
  simp [renM,hs]
 have fin:∀ {i:Nat},s=.id i→(lkH H i).live=true→∀ v k,renM ρ m j=some v→blk v=some k→∃ i u,srcOf s=some i∧(lkH H i).live=true∧m i=some u∧blk u=some k:=by
  intro i e hl v k hv hk
  rw [hid e] at hv
  subst e
  exact ⟨i,v,rfl,hl,hv,hk⟩
 cases h with
 | dead s=>exact ⟨trivial,fun h=>by simp [AB.live] at h⟩
 | row i e E enc d xs xs' h hx =>
  exact zt109
 | lst i e E l l' h hx =>
  exact zt109
 | newsmap i ev dv es ev' dv' es' h hx hx' =>
  exact zt31
 | newimap i ev dv es k ev' dv' es' h hx hx' =>
  exact zt31
 | newgmap i ev dv es k ev' dv' es' h hx hx' =>
  exact zt31
 | lstrow i e E l enc d xs h hx =>
  have hb:=hG.rel i
  rw [h] at hb
  obtain ⟨v,vs,hm,hr⟩:=hb
  rw [hx] at hr
  exact ⟨⟨v,vs,by rw [hid rfl];exact hm,hr⟩,fun _=>fin rfl zp52⟩
 | cells i e l l' h hl h1 =>
  have hb:=hG.rel i
  rw [h] at hb
  obtain ⟨g,cs,hm,hg,hlen,hone,hr⟩:=hb
  obtain ⟨l1,g1⟩:=hl.get
  refine ⟨⟨g,cs,by rw [hid rfl];exact hm,hg,by omega,allOne_spec h1,fun j c a hj ha=>?_⟩,fun _=>fin rfl zp52⟩
  obtain ⟨a0,h0,hle⟩:=g1 j a ha
  exact hle.rel (hr j c a0 hj h0)
 | smap i ev dv es es' h hx =>
  exact zt43
 | imap i k ev dv es es' h hx =>
  exact zt43
 | gmap i k ev dv es es' h hx =>
  exact zt43
 | arr i e k n f f' h hx =>
  have hb:=hG.rel i
  rw [h] at hb
  obtain ⟨g,cs,hm,hg,hl,hr⟩:=hb
  refine ⟨⟨g,cs,by rw [hid rfl];exact hm,hg,hl,fun j c hj=>?_⟩,fun _=>fin rfl zp52⟩
  rw [← hx j (by have:=(Array.getElem?_eq_some_iff.1 hj).1;omega)]
  exact hr j c hj
 | que i e E enc d xs xs' h hx =>
  subst hx
  have hb:=hG.rel i
  rw [h] at hb
  obtain ⟨g,o,cap,cur,hm,hr⟩:=hb
  exact ⟨⟨g,o,cap,cur,by rw [hid rfl];exact hm,hr⟩,fun _=>fin rfl zp52⟩
 | rowque i e E enc d xs xs' h hx hn =>
  exact zt71
 | lstque i e E l enc d xs h hx hn =>
  exact zt71
 | rowT i e E s enc d xs h hlen hE h1 ht =>
  obtain ⟨v,vs,hm,hr⟩:=own_row hG rfl h
  exact ⟨⟨v,vs,by rw [hid rfl];exact hm,hr.leT hlen hE h1 ht⟩,fun _=>fin rfl (by rw [h];exact src_obj_live _ _ _)⟩
 | nilrow e E enc d xs hx =>
  subst hx
  exact zt80
 | nillst e E =>
  exact zt80
 | truncrow i n e E enc d xs xs' h hn hx =>
  subst hx
  have hb:=hG.rel i
  rw [h] at hb
  obtain ⟨v,vs,hm,hr⟩:=hb
  obtain ⟨a,n0,c,rfl⟩:=blk_slice_of hr
  have hn0:n≤n0:=by
   have:=hr.n
   cases this
   simpa using hn
  have hm':renM ρ m j=some (.slice a n c):=by simp [renM,hs,hm,setLen]
  refine ⟨⟨_,_,hm',by rw [List.map_take];exact hr.take hn0⟩,fun _ v k hv hk=>⟨i,_,rfl,by rw [h];rfl,hm,?_⟩⟩
  rw [hm'] at hv
  cases hv
  cases a with
  | none=>simp [blk] at hk
  | some a=>exact hk
theorem leHeap_get {H:Heap} {ρ:Ren}:∀ {H':Heap},LeHeap H ρ H'→∀ j,lkH H' j=.dead∨∃ s,lkS ρ j=some s∧LeB H ρ s (lkH H' j)
 | [],_,j=>.inl rfl
 | (i,b)::r,h,j=>by
  rw [lkH_cons]
  split
  ·rename_i e
   subst e
   exact .inr h.1
  ·exact leHeap_get h.2 j
theorem leEnv_get {ρ:Ren} {env:Env}:∀ {env':Env},LeEnv ρ env env'→∀ s,lk env' s=.undef∨LeV ρ (lk env s) (lk env' s)
 | [],_,s=>.inl rfl
 | (i,v)::r,h,s=>by
  rw [lk_cons]
  split
  ·rename_i e
   subst e
   exact .inr h.1
  ·exact leEnv_get h.2 s
def pinOk (ρ:Ren):Nat→Bool
 | 0=>true
 | n+1=>match lkS ρ n with
  | some (.id i)=>match Nat.beq i n with
   | true=>pinOk ρ n
   | false=>false
  | _=>false
theorem pinOk_spec {ρ:Ren}:∀ {n:Nat},pinOk ρ n=true→∀ i,i<n→lkS ρ i=some (.id i)
 | 0,_,i,h=>by omega
 | n+1,hp,i,h=>by
  unfold pinOk at hp
  split at hp
  ·rename_i j hj
   split at hp
   ·rename_i hb
    have:=Nat.eq_of_beq_eq_true hb
    subst this
    by_cases e:i=j
    ·subst e;exact hj
    ·exact pinOk_spec hp i (by omega)
   ·cases hp
  ·cases hp
theorem wk_of [Tabs] {pn N:Nat} {env env':Env} {H H':Heap} {nx nx':Nat} (ρ:Ren) (hρ0:(renOk nx' ρ&&pinOk ρ pn)=true) (he:LeEnv ρ env env') (hh:LeHeap H ρ H'):Wk pn N ⟨env,H,nx⟩ ⟨env',H',nx'⟩:=by
 rw [Bool.and_eq_true] at hρ0
 obtain ⟨hρ,hpin⟩:=hρ0
 rintro F a w hF ⟨m,S,hc,hs,hd,hr⟩
 have hlive:∀ j,(lkH H' j).live=true→∃ s,lkS ρ j=some s∧LeB H ρ s (lkH H' j):=by
  intro j hl
  rcases leHeap_get hh j with h | h
  ·rw [h] at hl;simp [AB.live] at hl
  ·exact h
 refine ⟨renM ρ m,S,⟨⟨fun j=>?_,?_,?_,hc.good.tab⟩,fun j hj=>?_,hc.far,?_,hc.ro,hc.ro0,fun i v hi=>by
  have h1:=pinOk_spec hpin i (hF i v hi)
  show renM ρ m i=some v
  unfold renM
  rw [h1]
  exact hc.pins i v hi⟩,hs,hd,fun s=>?_⟩
 ·rcases leHeap_get hh j with h | ⟨s,h1,h2⟩
  ·rw [h];trivial
  ·exact (h2.rel hc.good h1).1
 ·intro i j vi vj k hli hlj hvi hvj hki hkj
  obtain ⟨s1,a1,b1⟩:=hlive i hli
  obtain ⟨s2,a2,b2⟩:=hlive j hlj
  obtain ⟨i1,u1,c1,d1,e1,f1⟩:=(b1.rel hc.good a1).2 hli vi k hvi hki
  obtain ⟨i2,u2,c2,d2,e2,f2⟩:=(b2.rel hc.good a2).2 hlj vj k hvj hkj
  have:=hc.good.sep i1 i2 u1 u2 k d1 d2 e1 e2 f1 f2
  subst this
  exact renOk_inj hρ i j s1 s2 i1 a1 a2 c1 c2
 ·intro g hg
  refine ⟨(hc.good.ro g hg).1,fun i v hl hv hk=>?_⟩
  obtain ⟨s1,a1,b1⟩:=hlive i hl
  obtain ⟨i1,u1,c1,d1,e1,f1⟩:=(b1.rel hc.good a1).2 hl v g hv hk
  exact (hc.good.ro g hg).2 i1 u1 d1 e1 f1
 ·simp only at hj
  cases hk:lkS ρ j with
  | none=>simp [renM,hk]
  | some s=>have:=renOk_lt hρ j s hk;omega
 ·rintro k ⟨i,v,hl,hv,hk⟩
  obtain ⟨s1,a1,b1⟩:=hlive i hl
  obtain ⟨i1,u1,c1,d1,e1,f1⟩:=(b1.rel hc.good a1).2 hl v k hv hk
  exact hc.owns k ⟨i1,u1,d1,e1,f1⟩
 ·rcases leEnv_get he s with h | h
  ·simp only [h];exact .t _ _ (.undef _)
  ·exact h.rel (hr s)
def frzP (H:Heap) (id off:Nat):AV :=
 match lkH H id with
 | .cells _ l=>match treesB l with
  | true=>.rop (dropL off l)
  | false=>.ptr id off
 | _=>.ptr id off
def frzM (H:Heap) (id:Nat):AV :=
 match lkH H id with
 | .smap ev dv es=>.rsmap ev dv es
 | .imap k ev dv es=>.rimap k ev dv es
 | .gmap k ev dv es=>.rgmap k ev dv es
 | _=>.map id
def frz1 (H:Heap) (ids:List Nat):AV→AV
 | .map id=>match notIn id ids with
  | true=>.map id
  | false=>frzM H id
 | .own id=>match notIn id ids with
  | true=>.own id
  | false=>frz0 H (.own id)
 | .ptr id off=>match notIn id ids with
  | true=>.ptr id off
  | false=>frzP H id off
 | v=>v
def frzA (H:Heap) (ids:List Nat):AV→AV
 | .agg l=>.agg (l.map (frz1 H ids))
 | .fn f a b=>.fn f (a.map (frz1 H ids)) (b.map (frz1 H ids))
 | v=>frz1 H ids v
def frzB (H:Heap) (ids:List Nat):AB→AB
 | .cells e l=>.cells e (l.map (frz1 H ids))
 | b=>b
def frzEnv (H:Heap) (ids:List Nat):Env→Env
 | []=>[]
 | (s,v)::r=>(s,frzA H ids v)::frzEnv H ids r
def frzMap (H:Heap) (ids:List Nat):Heap→Heap
 | []=>[]
 | (i,b)::r=>(i,frzB H ids b)::frzMap H ids r
def deads:List Nat→Heap→Heap
 | [],H=>H
 | i::l,H=>(i,.dead)::deads l H
theorem notIn_false {id:Nat}:∀ {l:List Nat},notIn id l=false→id∈l
 | [],h=>by simp [notIn] at h
 | j::l,h=>by
  unfold notIn at h
  split at h
  ·rename_i hb
   rw [Nat.eq_of_beq_eq_true hb]
   exact List.mem_cons_self
  ·exact List.mem_cons.2 (.inr (notIn_false h))
theorem lk_frzEnv (H:Heap) (ids:List Nat):∀ (env:Env) (s:Nat),lk (frzEnv H ids env) s=frzA H ids (lk env s)
 | [],s=>rfl
 | (i,v)::r,s=>by
  rw [frzEnv,lk_cons,lk_cons,lk_frzEnv H ids r s]
  split<;>rfl
theorem lkH_frzMap (H:Heap) (ids:List Nat):∀ (H':Heap) (s:Nat),lkH (frzMap H ids H') s=frzB H ids (lkH H' s)
 | [],s=>rfl
 | (i,v)::r,s=>by
  rw [frzMap,lkH_cons,lkH_cons,lkH_frzMap H ids r s]
  split<;>rfl
theorem lkH_deads:∀ (ids:List Nat) (H:Heap) (s:Nat),lkH (deads ids H) s=if s∈ids then .dead else lkH H s
 | [],H,s=>by simp [deads]
 | i::l,H,s=>by
  rw [deads,lkH_cons,lkH_deads l H s]
  by_cases e:i=s
  ·subst e;simp
  ·rw [if_neg e]
   have:s≠i:=fun h=>e h.symm
   simp [this]
theorem frz1_rel [Tabs] {m:Ids} {S:Blocks} {w:World} {H:Heap} {ids:List Nat} {u:Value} {v:AV} (hG:Good m S w H) (h:RelV m S w u v):RelV m (fun g=>S g∨lent m H ids g) w u (frz1 H ids v):=by
 have same:RelV m (fun g=>S g∨lent m H ids g) w u v:=h.mono (fun _ _ h=>h) (fun _ h=>.inl h) (fun _ _=>rfl)
 unfold frz1
 split
 ·rename_i id
  split
  ·exact same
  ·rename_i hn
   unfold frzM
   split
   ·rename_i V ev dv es hc
    have hb:=hG.rel id
    rw [hc] at hb
    obtain ⟨r,en,clock,hmi,hr',hlen,hst,hrel⟩:=hb
    cases h with
    | t _ _ h=>cases h
    | map id r' hm =>
     rw [hmi] at hm
     cases hm
     exact .t _ _ (.rsmap ev dv es r clock en (.inr ⟨id,_,notIn_false hn,by rw [hc];rfl,hmi,rfl⟩) hr' hlen hst (fun j x p h1 h2=>(hrel j x p h1 h2).1) (fun j x p h1 h2=>(hrel j x p h1 h2).2.more fun _ h=>.inl h))
   ·rename_i V k ev dv es hc
    have hb:=hG.rel id
    rw [hc] at hb
    obtain ⟨r,en,clock,hmi,hr',hlen,hst,hrel⟩:=hb
    cases h with
    | t _ _ h=>cases h
    | map id r' hm =>
     rw [hmi] at hm
     cases hm
     exact .t _ _ (.rimap k ev dv es r clock en (.inr ⟨id,_,notIn_false hn,by rw [hc];rfl,hmi,rfl⟩) hr' hlen hst (fun j x p h1 h2=>(hrel j x p h1 h2).1) (fun j x p h1 h2=>(hrel j x p h1 h2).2.more fun _ h=>.inl h))
   ·rename_i V k ev dv es hc
    have hb:=hG.rel id
    rw [hc] at hb
    obtain ⟨r,en,clock,hmi,hr',hlen,hst,hrel⟩:=hb
    cases h with
    | t _ _ h=>cases h
    | map id r' hm =>
     rw [hmi] at hm
     cases hm
     exact .t _ _ (.rgmap k ev dv es r clock en (.inr ⟨id,_,notIn_false hn,by rw [hc];rfl,hmi,rfl⟩) hr' hlen hst (fun j x p h1 h2=>(hrel j x p h1 h2).1) (fun j x p h1 h2=>(hrel j x p h1 h2).2.more fun _ h=>.inl h))
   ·exact same
 ·rename_i id
  split
  ·exact same
  ·rename_i hn
   exact frz0_rel hG (fun _ _=>rfl) (fun _ h=>.inl h) (fun g ⟨i,v,hi,h1,h2,h3⟩=>.inr ⟨i,v,by
    simp only [frz0I,List.mem_singleton] at hi
    subst hi
    exact notIn_false hn,h1,h2,h3⟩) h
 ·rename_i id off
  split
  ·exact same
  ·rename_i hn
   unfold frzP
   split
   ·rename_i e l hc
    split
    ·rename_i ht
     have hb:=hG.rel id
     rw [hc] at hb
     obtain ⟨g,cs,hmi,hg,hl,h1,hrel⟩:=hb
     cases h with
     | t _ _ h=>cases h
     | ptr id off g' hm =>
      rw [hmi] at hm
      cases hm
      rw [dropL_eq]
      refine .t _ _ (.rop g off (l.drop off) (cs.toList.drop off) (.inr ⟨id,_,notIn_false hn,by rw [hc];rfl,hmi,rfl⟩) zp21 (fun a ha=>h1 a (List.mem_of_mem_drop ha)) (fun j c hj=>?_) (fun j c a hj ha=>?_))
      ·rw [List.getElem?_drop] at hj
       rw [cell_of_row w g (off+j) cs e (0,0) hg]
       simpa using hj
      ·rw [List.getElem?_drop] at hj ha
       refine RelT.more (fun _ h=>.inl h) ((hrel (off+j) c a zp16 ha).toT (treesB_spec ht a (List.mem_of_getElem? ha)))
    ·exact same
   ·exact same
 ·exact same
theorem frz1_one (H:Heap) (ids:List Nat) (v:AV) (h:v.one=true):(frz1 H ids v).one=true:=by
 unfold frz1
 split
 ·split
  ·rfl
  ·unfold frzM
   split<;>rfl
 ·split
  ·rfl
  ·simp only [frz0]
   split<;>rfl
 ·split
  ·rfl
  ·unfold frzP
   split
   ·split<;>rfl
   ·rfl
 ·exact h
theorem frzA_rel [Tabs] {m:Ids} {S:Blocks} {w:World} {H:Heap} {ids:List Nat} {u:Value} {v:AV} (hG:Good m S w H) (h:RelV m S w u v):RelV m (fun g=>S g∨lent m H ids g) w u (frzA H ids v):=by
 unfold frzA
 split
 ·rename_i l
  obtain ⟨cs,rfl,hl,hr⟩:=relV_agg h
  refine .agg cs _ zp40 fun j c a hj ha=>?_
  simp only [List.getElem?_map,Option.map_eq_some_iff] at ha
  obtain ⟨a0,ha0,rfl⟩:=ha
  exact frz1_rel hG (hr j c a0 hj ha0)
 ·rename_i f x y
  obtain ⟨fs,cs,rfl,h1,h2,r1,r2⟩:=relV_fn h
  refine .fn f fs cs _ _ zp28 zp33 (fun j c a hj ha=>?_) (fun j c a hj ha=>?_)
  ·simp only [List.getElem?_map,Option.map_eq_some_iff] at ha
   obtain ⟨a0,ha0,rfl⟩:=ha
   exact frz1_rel hG (r1 j c a0 hj ha0)
  ·simp only [List.getElem?_map,Option.map_eq_some_iff] at ha
   obtain ⟨a0,ha0,rfl⟩:=ha
   exact frz1_rel hG (r2 j c a0 hj ha0)
 ·exact frz1_rel hG h
theorem frzB_live (H:Heap) (ids:List Nat) (b:AB):(frzB H ids b).live=b.live:=by cases b<;>rfl
theorem rel_frz [Tabs] {F:Fr} {N:Nat} {env:Env} {H:Heap} {nx:Nat} {a:Act} {w:World} (ids:List Nat):Rel F N ⟨env,H,nx⟩ a w→Rel F N ⟨frzEnv H ids env,deads ids (frzMap H ids H),nx⟩ a w:=by
 rintro ⟨m,S,hc,hs,hd,hr⟩
 have hG:=hc.good
 have hG1:=good_freeze hG ids
 have hlk:∀ i,lkH (deads ids (frzMap H ids H)) i=if i∈ids then .dead else frzB H ids (lkH H i):=fun i=>by rw [lkH_deads,lkH_frzMap]
 have hlive:∀ i,(lkH (deads ids (frzMap H ids H)) i).live=(lkH (ids.map (fun i=>(i,AB.dead))++H) i).live:=fun i=>by
  rw [hlk,lkH_dead]
  split
  ·rfl
  ·exact frzB_live H ids _
 have hlive0:∀ i,(lkH (deads ids (frzMap H ids H)) i).live=true→(lkH H i).live=true:=fun i hl=>by
  rw [hlk] at hl
  split at hl
  ·cases hl
  ·rwa [frzB_live] at hl
 refine ⟨m,fun g=>S g∨lent m H ids g,⟨⟨fun id=>?_,fun i j vi vj k hi hj=>hG1.sep i j vi vj k (by rw [← hlive];exact hi) (by rw [← hlive];exact hj),fun g hg=>⟨(hG1.ro g hg).1,fun i v hl=>(hG1.ro g hg).2 i v (by rw [← hlive];exact hl)⟩,hG1.tab⟩,hc.free,hc.far,?_,?_,fun g hg=>.inl (hc.ro0 g hg),hc.pins⟩,hs,hd,fun s=>?_⟩
 ·have h0:=hG1.rel id
  rw [lkH_dead] at h0
  rw [hlk]
  split
  ·trivial
  ·rename_i hn
   rw [if_neg hn] at h0
   have h1:=hG.rel id
   cases hb:lkH H id with
   | cells e l =>
    rw [hb] at h1
    obtain ⟨g,cs,hmi,hg,hl,hone,hrel⟩:=h1
    refine ⟨g,cs,hmi,hg,by simpa using hl,fun x hx=>?_,fun j c a hj ha=>?_⟩
    ·obtain ⟨y,hy,rfl⟩:=List.mem_map.1 hx
     exact frz1_one H ids y (hone y hy)
    ·simp only [List.getElem?_map,Option.map_eq_some_iff] at ha
     obtain ⟨a0,ha0,rfl⟩:=ha
     exact frz1_rel hG (hrel j c a0 hj ha0)
   | _=>rw [hb] at h0;exact h0
 ·rintro k ⟨i,v,hl,hm,hb⟩
  exact hc.owns k ⟨i,v,hlive0 i hl,hm,hb⟩
 ·rintro g (hg | ⟨i,v,hi,h1,h2,h3⟩)
  ·exact hc.ro g hg
  ·exact .inr (hc.owns g ⟨i,v,h1,h2,h3⟩)
 ·show RelV m _ w (a.tmps.getD s undef) (lk (frzEnv H ids env) s)
  rw [lk_frzEnv]
  exact frzA_rel hG (hr s)
theorem wk_frz [Tabs] {pn N:Nat} {env:Env} {H:Heap} {nx:Nat} (ids:List Nat):Wk pn N ⟨env,H,nx⟩ ⟨frzEnv H ids env,deads ids (frzMap H ids H),nx⟩ :=
 fun _ _ _ _ h=>rel_frz ids h
structure Rec:Type 1 where
 o:Oper
 v:AV
 touch:List Nat
 wr:List (Nat×AB)
 n0:Nat
 n1:Nat
def putE (dst:Option Nat) (v:AV) (env:Env):Env :=
 match dst with
 | none=>env
 | some d=>(d,v)::env
def envR (env:Env):List Rec→Env
 | []=>env
 | r::R=>putE r.o.dst r.v (envR env R)
def heapR (H:Heap):List Rec→Heap
 | []=>H
 | r::R=>r.wr++heapR H R
def nxR (nx:Nat):List Rec→Nat
 | []=>nx
 | r::_=>r.n1
def Want (ops:Array Oper) (env:Env) (o:Oper):Prop :=
 o.guard=none∨∃ j pol oj t,o.guard=some (j,pol)∧ops[j]?=some oj∧oj.dst=some t∧lk env t=.bool pol
def Skips (ops:Array Oper) (env:Env) (o:Oper):Prop :=
 ∃ j pol oj t,o.guard=some (j,pol)∧ops[j]?=some oj∧oj.dst=some t∧(lk env t=.bool (!pol)∨lk env t=.skip)
def Hist [Tabs] (C:Cx) (ops:Array Oper) (env:Env) (H:Heap) (nx:Nat):List Rec→Prop
 | []=>True
 | r::R=>Hist C ops env H nx R∧ops[R.length]?=some r.o∧(∀ d,r.o.dst=some d→d<C.N)∧r.n0=nxR nx R∧r.n0≤r.n1 ∧
   ((Want ops (envR env R) r.o∧OpSemX C.P C.px r.o (usesOf (rdOp [] (envR env R)) r.o) (heapR H R) r.n0 r.touch (fun r'=>r'=⟨r.v,r.touch,r.wr,r.n1⟩)) ∨
    (Skips ops (envR env R) r.o∧r.v=.skip∧r.wr=[]∧r.n1=r.n0))
abbrev Sig:=List (Oper×List Nat×List Nat)
def idsK:List (Nat×AB)→(List Nat→Prop)→Prop
 | [],k=>k []
 | (i,_)::r,k=>idsK r fun l=>k (i::l)
theorem idsK_iff:∀ {wr:List (Nat×AB)} {k:List Nat→Prop},idsK wr k↔k (wr.map (·.1))
 | [],k=>Iff.rfl
 | (i,b)::r,k=>by simp only [idsK,idsK_iff,List.map_cons]
def evPickD (rd:Operand→AV) (c a b:Operand) (k:AV→Prop):Prop :=
 match rd c with
 | .bool cb=>(cb=true→k (rd a))∧(cb=false→k (rd b))
 | _=>False
theorem evPickD_sound [Tabs] {P:Program} {rd:Operand→AV} {H:Heap} {nx:Nat} {c x y:Operand} {o:Oper} (ho:o.op=.pick c x y) {k:Res→Prop} (h:evPickD rd c x y fun v=>k ⟨v,[],[],nx⟩) :
  ∃ r,OpSemP P o [(c,true,rd c),(x,true,rd x),(y,true,rd y)] H nx r∧(r.wr=[]∧r.nx=nx)∧k r:=by
 unfold evPickD at h
 split at h
 ·rename_i cb hc
  refine ⟨⟨if cb then rd x else rd y,[],[],nx⟩,opsem_pure fun m S w a H₂ hG ht hus=>?_,⟨rfl,rfl⟩,?_⟩
  ·have h1:=hus (c,true,rd c) (by simp) rfl
   have h2:=hus (x,true,rd x) (by simp) rfl
   have h3:=hus (y,true,rd y) (by simp) rfl
   simp only [hc] at h1
   have hv:=relV_bool h1
   cases cb with
   | true =>
    refine ⟨a.eval x,fun w' _=>?_,h2⟩
    unfold execOp
    simp [ho,hv,asBool]
   | false =>
    refine ⟨a.eval y,fun w' _=>?_,h3⟩
    unfold execOp
    simp [ho,hv,asBool]
  ·cases cb with
   | true=>exact h.1 rfl
   | false=>exact h.2 rfl
 ·exact h.elim
def evOpD [Tabs] (C:Cx) (rd:Operand→AV) (H:Heap) (nx:Nat) (o:Oper) (k:Res→Prop):Prop :=
 match o.op with
 | .pick c a b=>evPickD rd c a b fun v=>k ⟨v,[],[],nx⟩
 | _=>evOp C true none rd H nx o k
def putEK (dst:Option Nat) (v:AV) (env:Env) (k:Env→Prop):Prop :=
 match dst with
 | none=>k env
 | some d=>forceAV v fun v=>k ((d,v)::env)
theorem putEK_iff {dst:Option Nat} {v:AV} {env:Env} {k:Env→Prop}:putEK dst v env k↔k (putE dst v env):=by
 cases dst with
 | none=>exact Iff.rfl
 | some d=>simp only [putEK,forceAV_iff];rfl
def gateK [Tabs] (C:Cx) (all:List Oper) (env:Env) (H:Heap) (nx:Nat) (o:Oper) (next:AV→List Nat→List (Nat×AB)→Nat→Prop):Prop :=
 match o.guard with
 | none=>evOpD C (rdOp [] env) H nx o fun r=>match r with
  | ⟨v,touch,wr,nx'⟩=>next v touch wr nx'
 | some (j,pol)=>match all[j]? with
  | none=>False
  | some oj=>match oj.dst with
   | none=>False
   | some t=>match lk env t with
    | .skip=>next .skip [] [] nx
    | .bool b=>(b=pol→evOpD C (rdOp [] env) H nx o fun r=>match r with
      | ⟨v,touch,wr,nx'⟩=>next v touch wr nx')∧(b=!pol→next .skip [] [] nx)
    | _=>False
def gateP (all:List Oper) (env:Env) (g:Option (Nat×Bool)) (yes no:Prop):Prop :=
 match g with
 | none=>yes
 | some (j,pol)=>match all[j]? with
  | none=>False
  | some oj=>match oj.dst with
   | none=>False
   | some t=>match lk env t with
    | .skip=>no
    | .bool b=>(b=pol→yes)∧(b=!pol→no)
    | _=>False
theorem gateP_sound {ops:Array Oper} {env:Env} {o:Oper} {yes no:Prop} (h:gateP ops.toList env o.guard yes no):(Want ops env o∧yes)∨(Skips ops env o∧no):=by
 unfold gateP at h
 split at h
 ·rename_i hg
  exact .inl ⟨.inl hg,h⟩
 ·rename_i j pol hg
  split at h
  ·exact h.elim
  ·rename_i oj hj
   have hj':ops[j]?=some oj:=by simpa using hj
   split at h
   ·exact h.elim
   ·rename_i t ht
    split at h
    ·rename_i hl
     exact .inr ⟨⟨j,pol,oj,t,hg,hj',ht,.inr hl⟩,h⟩
    ·rename_i b hl
     by_cases e:b=pol
     ·subst e
      exact .inl ⟨.inr ⟨j,b,oj,t,hg,hj',ht,hl⟩,h.1 rfl⟩
     ·have e':b=!pol:=by cases b<;>cases pol<;>simp_all
      subst e'
      exact .inr ⟨⟨j,pol,oj,t,hg,hj',ht,.inl hl⟩,h.2 rfl⟩
    ·exact h.elim
theorem gateK_sound [Tabs] {C:Cx} {ops:Array Oper} {env:Env} {H:Heap} {nx:Nat} {o:Oper} {next:AV→List Nat→List (Nat×AB)→Nat→Prop} (h:gateK C ops.toList env H nx o next) :
  (Want ops env o∧evOpD C (rdOp [] env) H nx o fun r=>match r with | ⟨v,touch,wr,nx'⟩=>next v touch wr nx')∨(Skips ops env o∧next .skip [] [] nx):=by
 refine gateP_sound ?_
 unfold gateK at h
 unfold gateP
 exact h
def evOpsD [Tabs] (C:Cx) (all:List Oper):List Oper→Env→Heap→Nat→Sig→(Sig→Env→Heap→Nat→Prop)→Prop
 | [],env,H,nx,sg,k=>k sg env H nx
 | o::rest,env,H,nx,sg,k=>match dstOk C.N o.dst [] with
  | false=>False
  | true=>gateK C all env H nx o fun v touch wr nx'=>idsK wr fun ids=>putEK o.dst v env fun env'=>pushK wr H fun H'=>evOpsD C all rest env' H' nx' ((o,touch,ids)::sg) k
def looksOf (ops:List Oper) (o:Oper):List Nat:=(match o.guard with
 | none=>[]
 | some (j,_)=>match ops[j]? with
  | some oj=>oj.dst.toList
  | none=>[])++o.op.operands.toList.filterMap fun
 | .tmp t=>some t
 | _=>none
def meets (a b:List Nat):Bool:=a.any fun i=>b.any fun j=>Nat.beq i j
def dstIn (d:Option Nat) (l:List Nat):Bool :=
 match d with
 | none=>false
 | some d=>l.any fun j=>Nat.beq d j
def dstSame (a b:Option Nat):Bool :=
 match a,b with
 | some d,some e=>Nat.beq d e
 | _,_=>false
def clash (ops:List Oper) (x y:Oper×List Nat×List Nat):Bool :=
 dstIn x.1.dst (looksOf ops y.1)||dstIn y.1.dst (looksOf ops x.1)||dstSame x.1.dst y.1.dst||meets x.2.2 y.2.1||meets x.2.2 y.2.2||meets y.2.2 x.2.1
def maskGo (ms:List Nat):List Edge→Nat
 | []=>0
 | e::r=>match Region.binds .any e with
  | true=>(2 ^ e.on ||| ms.getD e.on 0) ||| maskGo ms r
  | false=>maskGo ms r
def masksF:List Oper→List Nat→List Nat
 | [],ms=>ms
 | o::r,ms=>masksF r (ms++[maskGo ms o.after.toList])
def pairsB (ops:List Oper) (m:Nat) (x:Oper×List Nat×List Nat):Sig→Bool
 | []=>true
 | y::L=>(!clash ops y x||Nat.testBit m L.length)&&pairsB ops m x L
def edgesB (n:Nat):List Edge→Bool
 | []=>true
 | e::r=>(!Region.binds .any e||Nat.blt e.on n)&&edgesB n r
def ordR (ops:List Oper) (ms:List Nat):Sig→Bool
 | []=>true
 | x::L=>edgesB L.length x.1.after.toList&&pairsB ops (ms.getD L.length 0) x L&&ordR ops ms L
def ordB (ops:Array Oper) (L:Sig):Bool:=ordR ops.toList (masksF ops.toList []) L
def Closed (ops:Array Oper) (E:Nat→Bool):Prop:=∀ (j:Nat) (o:Oper),ops[j]?=some o→E j=true→∀ e∈o.after,Region.binds .any e=true→E e.on=true
theorem maskGo_spec {ms:List Nat} {i:Nat}:∀ {l:List Edge},(maskGo ms l).testBit i=true→∃ e∈l,Region.binds .any e=true∧(e.on=i∨(ms.getD e.on 0).testBit i=true)
 | [],h=>by simp [maskGo] at h
 | e::l,h=>by
  unfold maskGo at h
  split at h
  ·rename_i hb
   simp only [Nat.testBit_or,Bool.or_eq_true] at h
   rcases h with (h | h) | h
   ·refine ⟨e,by simp,hb,.inl ?_⟩
    rw [Nat.testBit_two_pow] at h
    simpa using h
   ·exact ⟨e,by simp,hb,.inr h⟩
   ·obtain ⟨e',h1,h2⟩:=maskGo_spec h
    exact ⟨e',by simp [h1],h2⟩
  ·obtain ⟨e',h1,h2⟩:=maskGo_spec h
   exact ⟨e',by simp [h1],h2⟩
theorem masksF_spec {ops:Array Oper} {E:Nat→Bool} (hE:Closed ops E):∀ (l:List Oper) (ms:List Nat),(∀ k,l[k]?=ops[ms.length+k]?) →
  (∀ j i,(ms.getD j 0).testBit i=true→(∀ o,ops[j]?=some o→∀ e∈o.after,Region.binds .any e=true→E e.on=true)→E i=true) →
  ∀ j i,((masksF l ms).getD j 0).testBit i=true→(∀ o,ops[j]?=some o→∀ e∈o.after,Region.binds .any e=true→E e.on=true)→E i=true
 | [],ms,hl,h,j,i=>h j i
 | o::l,ms,hl,h,j,i=>by
  refine masksF_spec hE l _ (fun k=>?_) (fun j i hb hp=>?_) j i
  ·have:=hl (k+1)
   rw [List.getElem?_cons_succ] at this
   rw [this]
   simp [Nat.add_assoc,Nat.add_comm 1 k]
  ·by_cases hj:j<ms.length
   ·have:(ms++[maskGo ms o.after.toList]).getD j 0=ms.getD j 0:=by simp [List.getD,List.getElem?_append_left hj]
    rw [this] at hb
    exact h j i hb hp
   ·by_cases hj2:j=ms.length
    ·subst hj2
     have:(ms++[maskGo ms o.after.toList]).getD ms.length 0=maskGo ms o.after.toList:=by simp [List.getD]
     rw [this] at hb
     obtain ⟨e,he,hbe,hor⟩:=maskGo_spec hb
     have ho:ops[ms.length]?=some o:=by have:=hl 0;simpa using this.symm
     have hon:=hp o ho e (by simpa using he) hbe
     rcases hor with h1 | h1
     ·rw [← h1];exact hon
     ·exact h e.on i h1 fun o' ho' e' he' hb'=>hE e.on o' ho' hon e' he' hb'
    ·have:(ms++[maskGo ms o.after.toList]).getD j 0=0:=by
      rw [List.getD,List.getElem?_eq_none zp21]
      rfl
     rw [this] at hb
     simp at hb
def lay {X:Type _} (f:Rec→Option X) (x0:X) (E:Nat→Bool):List Rec→X
 | []=>x0
 | r::R=>match E R.length,f r with
  | true,some x=>x
  | _,_=>lay f x0 E R
theorem lay_cons {X:Type _} {f:Rec→Option X} {x0:X} {E:Nat→Bool} {r:Rec} {R:List Rec}:lay f x0 E (r::R)=match E R.length with | true=>(f r).getD (lay f x0 E R) | false=>lay f x0 E R:=by
 have e:lay f x0 E (r::R)=(match E R.length,f r with | true,some x=>x | _,_=>lay f x0 E R):=rfl
 rw [e]
 cases E R.length<;>cases f r<;>rfl
theorem lay_skip {X:Type _} {f:Rec→Option X} {x0:X} {E:Nat→Bool} {r:Rec} {R:List Rec} (h:f r≠none→E R.length=false):lay f x0 E (r::R)=lay f x0 E R:=by
 have e:lay f x0 E (r::R)=(match E R.length,f r with | true,some x=>x | _,_=>lay f x0 E R):=rfl
 rw [e]
 cases hf:f r with
 | none=>cases E R.length<;>rfl
 | some x=>rw [h (by rw [hf];simp)]
theorem lay_cut {X:Type _} {f:Rec→Option X} {x0:X} {E:Nat→Bool} {T:List Rec}:∀ {R:List Rec},T <:+ R→(∀ r B,(r::B) <:+ R→T.length≤B.length→f r≠none→E B.length=false)→lay f x0 E R=lay f x0 E T
 | [],hs,h=>by rw [List.suffix_nil.1 hs]
 | x::R,hs,h=>by
  rcases List.suffix_cons_iff.1 hs with rfl | hs'
  ·rfl
  ·rw [lay_skip fun hf=>h x R (List.suffix_refl _) hs'.length_le hf]
   exact lay_cut hs' fun r B hrB=>h r B (hrB.trans (List.suffix_cons _ _))
theorem lay_congr {X:Type _} {f:Rec→Option X} {x0:X} {E E':Nat→Bool}:∀ {R:List Rec},(∀ r B,(r::B) <:+ R→f r≠none→E B.length=E' B.length)→lay f x0 E R=lay f x0 E' R
 | [],h=>rfl
 | x::R,h=>by
  have ih:lay f x0 E R=lay f x0 E' R:=lay_congr fun r B hrB=>h r B (hrB.trans (List.suffix_cons _ _))
  show (match E R.length,f x with | true,some x=>x | _,_=>lay f x0 E R)=(match E' R.length,f x with | true,some x=>x | _,_=>lay f x0 E' R)
  rw [ih]
  cases hf:f x with
  | none=>cases E R.length<;>cases E' R.length<;>rfl
  | some y=>rw [h x R (List.suffix_refl _) (by rw [hf];simp)]
def fE (s:Nat) (r:Rec):Option AV :=
 match r.o.dst with
 | none=>none
 | some d=>if d=s then some r.v else none
def findW:List (Nat×AB)→Nat→Option AB
 | [],_=>none
 | (i,b)::r,j=>if i=j then some b else findW r j
def fH (id:Nat) (r:Rec):Option AB:=findW r.wr id
theorem lkH_append (wr:List (Nat×AB)) (H:Heap) (id:Nat):lkH (wr++H) id=(findW wr id).getD (lkH H id):=by
 induction wr with
 | nil=>rfl
 | cons p wr ih =>
  obtain ⟨i,b⟩:=p
  rw [List.cons_append,lkH_cons]
  unfold findW
  split
  ·rfl
  ·exact ih
theorem findW_mem {wr:List (Nat×AB)} {id:Nat} (h:findW wr id≠none):id∈wr.map (·.1):=by
 induction wr with
 | nil=>exact (h rfl).elim
 | cons p wr ih =>
  obtain ⟨i,b⟩:=p
  unfold findW at h
  split at h
  ·rename_i e;simp [e]
  ·simp [ih h]
theorem lk_envR (env:Env) (s:Nat):∀ (R:List Rec),lk (envR env R) s=lay (fE s) (lk env s) (fun _=>true) R
 | []=>rfl
 | r::R=>by
  rw [lay_cons,← lk_envR env s R]
  show lk (putE r.o.dst r.v (envR env R)) s=(fE s r).getD (lk (envR env R) s)
  unfold putE fE
  cases hd:r.o.dst with
  | none=>rfl
  | some d =>
   simp only [lk_cons]
   split<;>rfl
theorem lkH_heapR (H:Heap) (id:Nat):∀ (R:List Rec),lkH (heapR H R) id=lay (fH id) (lkH H id) (fun _=>true) R
 | []=>rfl
 | r::R=>by
  rw [lay_cons,← lkH_heapR H id R]
  exact lkH_append r.wr (heapR H R) id
def sigOf (r:Rec):Oper×List Nat×List Nat:=(r.o,r.touch,r.wr.map (·.1))
theorem pairsB_spec {ops:List Oper} {m:Nat} {x:Oper×List Nat×List Nat}:∀ {R:List Rec},pairsB ops m x (R.map sigOf)=true→∀ r B,(r::B) <:+ R→clash ops (sigOf r) x=true→Nat.testBit m B.length=true
 | [],_,r,B,hs,_=>by simp at hs
 | y::R,h,r,B,hs,hc=>by
  simp only [List.map_cons,pairsB,Bool.and_eq_true,Bool.or_eq_true,List.length_map] at h
  rcases List.suffix_cons_iff.1 hs with e | hs'
  ·cases e
   rcases h.1 with h1 | h1
   ·rw [hc] at h1;cases h1
   ·exact h1
  ·exact pairsB_spec h.2 r B hs' hc
theorem ordR_spec {ops:List Oper} {ms:List Nat}:∀ {R:List Rec},ordR ops ms (R.map sigOf)=true→∀ r B,(r::B) <:+ R→edgesB B.length r.o.after.toList=true∧pairsB ops (ms.getD B.length 0) (sigOf r) (B.map sigOf)=true
 | [],_,r,B,hs=>by simp at hs
 | y::R,h,r,B,hs=>by
  simp only [List.map_cons,ordR,Bool.and_eq_true,List.length_map] at h
  rcases List.suffix_cons_iff.1 hs with e | hs'
  ·cases e
   exact h.1
  ·exact ordR_spec h.2 r B hs'
theorem edgesB_spec {n:Nat}:∀ {l:List Edge},edgesB n l=true→∀ e∈l,Region.binds .any e=true→e.on<n
 | [],_,e,he,_=>by simp at he
 | x::l,h,e,he,hb=>by
  simp only [edgesB,Bool.and_eq_true,Bool.or_eq_true] at h
  rcases List.mem_cons.1 he with rfl | he
  ·rcases h.1 with h1 | h1
   ·rw [hb] at h1;cases h1
   ·simpa [Nat.blt_eq] using h1
  ·exact edgesB_spec h.2 e he hb
end Go.Own
