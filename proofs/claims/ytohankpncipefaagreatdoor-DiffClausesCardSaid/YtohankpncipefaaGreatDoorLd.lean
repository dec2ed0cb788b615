import Derived.Test.YtohankpncipefaaGreatDoorLc
import Derived.Shelf.Strings.OnBuilder
import Derived.Shelf.Strconv.Itoa3
import Derived.Shelf.Strings.Split
import Derived.Shelf.Strings.Prefix
import Derived.Shelf.Vars
namespace Go.Own
theorem cO [Tabs] {P:Program} {px:List PanicEntry→Prop} {f:FuncId} {avs:List AV} {H:Heap} {nx:Nat} {g:Option Bool} {det:Bool} {k:Res→Prop} {args':List AV} {touch:List Nat} {rs:List AR} (hc:gOk g→APure P f args' (fun r=>r=rs))
  (hk:takeR rs nx [] [] fun vs wr n=>k ⟨valR vs,touch,wr,n⟩) (hb:BorL (Lend H) avs args' touch:=by repeat (first | exact .nil | (apply BorL.cons;first | exact lS rfl | exact lR rfl | exact lM rfl rfl | exact lL rfl | exact lX rfl | exact lN | exact lNl | exact lSm rfl | exact lIm rfl | exact lGm rfl | exact lP rfl | exact lQ rfl | exact lB rfl rfl rfl))) (hflat:touch=[]∨∀ r∈rs,r.flat:=by first | exact .inl rfl | exact .inr (by repeat (first | exact flats_nil | refine flats_cons (by first | exact flat_val _ rfl | exact flat_row (fun _=>rfl) | exact flat_lst (fun _=>rfl)) ?_)))
  (hg:g.getD true=true∨tw rs nx=[]:=by first | exact .inr rfl | exact .inl rfl):CallG P px f avs H nx g det k:=.one args' touch rs hc hb hflat hg hk
theorem cF [Tabs] {P:Program} {px:List PanicEntry→Prop} {f:FuncId} {avs:List AV} {H:Heap} {nx:Nat} {g:Option Bool} {det:Bool} {k:Res→Prop} (args':List AV) {touch:List Nat} (rs:List AR)
  (hk:takeR rs nx [] [] fun vs wr n=>k ⟨valR vs,touch,wr,n⟩) (hc:gOk g→APure P f args' (fun r=>r=rs):=by exact fun h=>(by have h0:(false:Bool)=true:=h;cases h0)) (hb:BorL (Lend H) avs args' touch:=by repeat (first | exact .nil | (apply BorL.cons;first | exact lS rfl | exact lR rfl | exact lM rfl rfl | exact lL rfl | exact lX rfl | exact lN | exact lNl | exact lSm rfl | exact lIm rfl | exact lGm rfl | exact lP rfl | exact lQ rfl | exact lB rfl rfl rfl))) (hflat:touch=[]∨∀ r∈rs,r.flat:=by first | exact .inl rfl | exact .inr (by repeat (first | exact flats_nil | refine flats_cons (by first | exact flat_val _ rfl | exact flat_row (fun _=>rfl) | exact flat_lst (fun _=>rfl)) ?_)))
  (hg:g.getD true=true∨tw rs nx=[]:=by first | exact .inr rfl | exact .inl rfl):CallG P px f avs H nx g det k:=.one args' touch rs hc hb hflat hg hk
theorem cR [Tabs] {P:Program} {px:List PanicEntry→Prop} {f:FuncId} {avs avs':List AV} {H:Heap} {nx:Nat} {g:Option Bool} {det:Bool} {k:Res→Prop} {objs:List AB} {V:List AV} {B E:List AB} {p:Nat} (h:RIO P f avs' objs p (fun vs bs es=>vs=V∧bs=B∧es=E)) (ids:List Nat)
  (hk:k ⟨valR (V.map (renA (rnI (ids.take p) nx))),ids,zipH (ids.take p) (B.map (renB (rnI (ids.take p) nx)))++deads (ids.drop p) (rowH nx (E.map (renB (rnI (ids.take p) nx)))),nx+E.length⟩)
  (ha:avs=avs'.map (renA (rnI ids nx)):=by exact rfl) (hn:nodupB ids=true:=by exact rfl) (hlt:allB (ids.map fun i=>Nat.blt i nx)=true:=by exact rfl) (ho:eqObjs H (rnI ids nx) ids objs:=by repeat (first | exact trivial | refine And.intro (by first | exact .refl _ | exact .newgmap _ _ _ _ _ _ _ rfl rfl | exact .newimap _ _ _ _ _ _ _ rfl rfl | exact .smap _ _ _ _ _ _ rfl rfl) ?_)) (hB:B.length=(ids.take p).length:=by exact rfl) (hd:g.getD true=true:=by exact rfl) :
  CallG P px f avs H nx g det k :=
 .raw ids _ hd (fun _=>⟨⟨_,ids,_,_⟩,fun _=>Iff.rfl,rfl⟩) (rio_one h ids ha hn hlt ho hB) (by rintro _ rfl;exact ⟨Nat.le_add_right _ _,hk⟩)
theorem gT {g:Bool} {A B:Prop} (h:A) (hg:g=true:=by exact rfl):(g=true→A)∧(g=false→B):=⟨fun _=>h,fun e=>by rw [hg] at e;cases e⟩
theorem gF {g:Bool} {A B:Prop} (h:B) (hg:g=false:=by exact rfl):(g=true→A)∧(g=false→B):=⟨fun e=>(by rw [hg] at e;cases e),fun _=>h⟩
theorem om0 {p:Prop} (h:p:=by omega):p:=h
theorem dd0 {p:Prop} (h:p:=by decide):p:=h
theorem nD {p A q B:Prop} (h:B) (hp:¬ p:=by exact fun h=>absurd h (by decide)):(p→A)∧(q→B):=⟨fun x=>(hp x).elim,fun _=>h⟩
theorem nE {p A q B:Prop} (h:A) (hq:¬ q:=by exact fun h=>absurd h (by decide)):(p→A)∧(q→B):=⟨fun _=>h,fun x=>(hq x).elim⟩
theorem iO {p q r:Prop} (h:r) (hp:p∧q:=by exact ⟨by omega,by omega⟩):(p∧q)∧r:=⟨hp,h⟩
theorem aO [Tabs] {C:Cx} {f:FuncId} {fn:Func} {code:Code} {args:List AV} {R:List AR→Prop} (hT:CxOk C) (hf:C.P.funcs[f]?=some fn) (h:evCode C code ⟨argEnv args 0,[],0⟩ (retQ C.T fn.results R)) (hb:fn.body=some code:=by exact rfl)
  (hname : (fn.name == "runtime.NumGoroutine") = false := by decide) (hN : C.N = fn.ntmps := by exact rfl) (hle : args.length ≤ fn.ntmps := by exact Nat.le_of_ble_eq_true rfl) (hres : fn.results.size ≤ 4 := by decide) (hpx : ∀ ch, ¬ C.px ch := by exact fun _ h => h) : APure C.P f args R :=
 apure_of hT hf hb hname hN hle hres h hpx
theorem aW [Tabs] {C:Cx} {f:FuncId} {fn:Func} {code:Code} {args:List AV} {R:List AR→Prop} (hT:CxOk C) (hf:C.P.funcs[f]?=some fn) (h:evCode C code ⟨argEnv args 0,[],0⟩ (wkQ C.pn C.N (retQ C.T fn.results R))) (hb:fn.body=some code:=by exact rfl)
  (hname : (fn.name == "runtime.NumGoroutine") = false := by decide) (hN : C.N = fn.ntmps := by exact rfl) (hle : args.length ≤ fn.ntmps := by exact Nat.le_of_ble_eq_true rfl) (hres : fn.results.size ≤ 4 := by decide) (hpx : ∀ ch, ¬ C.px ch := by exact fun _ h => h) : APure C.P f args R :=
 apure_ofw hT hf hb hname hN hle hres h hpx
theorem rO [Tabs] {C:Cx} {f:FuncId} {fn:Func} {code:Code} {avs:List AV} {objs:List AB} {R:List AV→List AB→List AB→Prop} (hT:CxOk C) (hf:C.P.funcs[f]?=some fn)
  (h : evCode C code ⟨argEnv avs 0, rowH 0 objs, objs.length⟩ (retR C.T C.pn C.N C.pn fn.results R)) (hb : fn.body = some code := by exact rfl) (hname : (fn.name == "runtime.NumGoroutine") = false := by decide) (hN : C.N = fn.ntmps := by exact rfl)
  (hle:avs.length≤fn.ntmps:=by exact Nat.le_of_ble_eq_true rfl) (hres:fn.results.size≤4:=by decide) (hobj:allB (objs.map fun b=>b.live&&okB (List.range objs.length) b)=true:=by exact rfl) (hpn:Nat.ble C.pn objs.length=true:=by exact rfl)
  (hav:allB (avs.map (okA (List.range objs.length)))=true:=by exact rfl) (hpx:∀ ch,¬ C.px ch:=by exact fun _ h=>h):RIO C.P f avs objs C.pn R:=rio_of hT hf hb hname hN hle hres hobj hpn hav h hpx
theorem xO [Tabs] {C:Cx} {f:FuncId} {fn:Func} {code:Code} {avs:List AV} {objs:List AB} {R:List AV→List AB→List AB→Prop} (hT:CxOk C) (hf:C.P.funcs[f]?=some fn)
  (h : evCode C code ⟨argEnv avs 0, rowH 0 objs, objs.length⟩ (retR C.T C.pn C.N C.pn fn.results R)) (hb : fn.body = some code := by exact rfl) (hname : (fn.name == "runtime.NumGoroutine") = false := by decide) (hN : C.N = fn.ntmps := by exact rfl)
  (hle:avs.length≤fn.ntmps:=by exact Nat.le_of_ble_eq_true rfl) (hres:fn.results.size≤4:=by decide) (hobj:allB (objs.map fun b=>b.live&&okB (List.range objs.length) b)=true:=by exact rfl) (hpn:Nat.ble C.pn objs.length=true:=by exact rfl)
  (hav:allB (avs.map (okA (List.range objs.length)))=true:=by exact rfl):RIOX C.P f avs objs C.pn R C.px:=riox_of hT hf hb hname hN hle hres hobj hpn hav h
theorem aa0 {p:Prop} (h:p:=by first | (simp only [List.length_append,List.length_cons,List.length_nil];omega) | omega | (simp;omega)):p:=h
theorem ab0 {p:Prop} (h:p:=by repeat (first | exact .nil | refine .cons (by first | exact .base (.tree _ _ rfl rfl) | exact .base (.own _ _ rfl) | exact .base (.ptr _ _ _ rfl) | exact .base (.map _ _ rfl) | exact .base (.nilown _ rfl) | exact .fn _ _ _ _ _ .nil (by repeat (first | exact .nil | refine .cons (by exact .ptr _ _ _ rfl) ?_))) ?_)):p:=h
theorem ac0 {p:Prop} (h:p:=by repeat (first | exact trivial | refine And.intro (by first | exact .refl _ | exact .newgmap _ _ _ _ _ _ _ rfl rfl | exact .newimap _ _ _ _ _ _ _ rfl rfl | exact .smap _ _ _ _ _ _ rfl rfl) ?_)):p:=h
theorem ad0 {p:Prop} (h:p:=by first | omega | (simp;omega)):p:=h
theorem ae0 {p:Prop} (h:p:=by repeat (first | exact .nil | refine .cons (by first | exact .tree _ _ rfl rfl | exact .ptr _ _ _ rfl | exact .own _ _ rfl) ?_)):p:=h
theorem af0 {p:Prop} (h:p:=by first | exact .base (.own _ _ rfl) | exact .base (.nilown _ rfl) | exact .base (.trunc _ _ _ rfl)):p:=h
theorem ag0 {p:Prop} (h:p:=by first | exact cxOk _ _ | exact cxPOk _ _ _ | exact cxXOk _ _ _ _):p:=h
theorem ah0 {p:Prop} (h:p:=by first | exact .row _ _ _ _ _ _ _ rfl rfl | exact .lstrow _ _ _ _ _ _ _ rfl rfl | exact .nilrow _ _ _ _ _ rfl | exact .truncrow _ _ _ _ _ _ _ _ rfl (by omega) rfl):p:=h
theorem ai0 {p:Prop} (h:p:=by repeat (first | exact .nil | (apply BorL.cons;first | exact lS rfl | exact lR rfl | exact lM rfl rfl | exact lL rfl | exact lX rfl | exact lN | exact lNl | exact lSm rfl | exact lIm rfl | exact lGm rfl | exact lP rfl | exact lQ rfl | exact lB rfl rfl rfl))):p:=h
theorem aj0 {p:Prop} (h:p:=by first | decide | exact fun _=>by decide):p:=h
theorem ak0 {p:Prop} (h:p:=by repeat (first | exact .nil | refine .cons (by first | exact .base (.tree _ _ rfl rfl) | exact .base (.own _ _ rfl) | exact .base (.ptr _ _ _ rfl) | exact .base (.map _ _ rfl) | exact .base (.nilown _ rfl) | exact .fn _ _ _ _ _ .nil (by repeat (first | exact .nil | refine .cons (by exact .ptr _ _ _ rfl) ?_)) | exact .base (.tree _ _ (LeT.nils_lsl 5 rfl) rfl) | exact .base (.leT _ _ (LeT.nils_lsl 5 rfl) rfl)) ?_)):p:=h
theorem al0 {p:Prop} (h:p:=by first | exact .inl rfl | exact .inr (by repeat (first | exact flats_nil | refine flats_cons (by first | exact flat_val _ rfl | exact flat_row (fun _=>rfl) | exact flat_lst (fun _=>rfl)) ?_))):p:=h
theorem wa0 {p:Prop} (h:p:=by exact .base (.tree _ _ rfl rfl)):p:=h
theorem wb0 {p:Prop} (h:p:=by exact ⟨_,rfl,.cells _ _ _ _ rfl ab0 rfl⟩):p:=h
theorem wc0 {p:Prop} (h:p:=by exact .base (.ptr _ _ _ rfl)):p:=h
theorem wd0 {p:Prop} (h:p:=by exact ⟨_,rfl,.arr _ _ _ _ _ _ rfl (fun _ _=>rfl)⟩):p:=h
theorem we0 {p:Prop} (h:p:=by exact ⟨_,rfl,.cells _ _ _ _ rfl ak0 rfl⟩):p:=h
theorem wf0 {p:Prop} (h:p:=by exact ⟨_,rfl,.lst _ _ _ _ _ rfl rfl⟩):p:=h
open Go.Proofs Go.Shelf Go.RowKit
variable {P:Program} {ρ:Go.Shelf.Ren}
theorem join_ok [Tabs] (L:Lays.n156 P ρ) (X:Builder.Extra P ρ) (hfn:FnOk P (ρ.f 156)) (xs:List (List UInt8)) (sep:List UInt8) (hN:xs.length≤140737488355328) (hlen:(Lib.join xs sep).length≤140737488355328) :
  APureV P (ρ.f 156) [.lsl 1 (xs.map fun s=>AV.str s),.str sep] (.str (Lib.join xs sep)):=by
 refine APure.mono (apure_plain (R:=fun l=>l=[.str (Lib.join xs sep)]) hfn fun S w vs hT hv=>?_) (by rintro rs ⟨l,rfl,rfl⟩;rfl)
 obtain ⟨hl,hr⟩:=hv
 match vs,hl with
 | [v,v2],_ =>
  have h1:=hr 0 v _ rfl rfl
  have h2:=hr 1 v2 _ rfl rfl
  cases h2 with
  | str q _ hq =>
   have fin:∀ (u:Value) (w':World),u=.string ⟨(Lib.join xs sep).toArray⟩→Below w.heap.size w w'→∃ us l,Ending.returned u=.returned (retVal us)∧l=[AV.str (Lib.join xs sep)]∧us.length=l.length ∧
     (∀ (j:Nat) (u:Value) (a:AV),us[j]?=some u→l[j]?=some a→Plain u a)∧Below w.heap.size w w':=by
    rintro u w' rfl hb
    refine ⟨[_],_,rfl,rfl,rfl,fun j u a hu ha=>?_,hb⟩
    match j,hu,ha with
    | 0,hu,ha=>simp at hu ha;subst hu;subst ha;exact plain_str _
   have none':∀ a:Option Addr,xs=[]→Calls P (ρ.f 156) #[.slice a 0 0,.string q] w fun e w'=>∃ us l,e=.returned (retVal us)∧l=[AV.str (Lib.join xs sep)]∧us.length=l.length ∧
     (∀ (j:Nat) (u:Value) (a:AV),us[j]?=some u→l[j]?=some a→Plain u a)∧Below w.heap.size w w':=by
    intro a hx
    refine (Any.strings_Join_none L X a 0 q w).mono ?_
    rintro e w' ⟨rfl,rfl⟩
    exact fin _ _ (by subst hx;rfl) (Below.refl _ _)
   rcases relT_lsl h1 with ⟨rfl | ⟨ad,rfl⟩,hnil⟩ | ⟨g,o,cap,cs,rfl,hS,hcap,hE,h1',hcl,hc,hrr⟩
   ·exact none' _ (by simpa using hnil)
   ·exact none' _ (by simpa using hnil)
   ·have hfl:flat (xs.map fun s=>AV.str s)=xs.map fun s=>AV.str s:=flat_ones (by
     intro a ha
     obtain ⟨s,_,rfl⟩:=List.mem_map.1 ha
     rfl)
    rw [List.length_map,Nat.mul_one] at hcl
    rw [List.length_map] at hcap ⊢
    have hcell:∀ (j:Nat) (x:List UInt8),xs[j]?=some x→w.cell? ⟨g,o+j,none⟩=some (.string ⟨x.toArray⟩):=by
     intro j x hx
     have hj:j<cs.length:=by have:=(List.getElem?_eq_some_iff.1 hx).1;omega
     have hcj:cs[j]?=some cs[j]:=List.getElem?_eq_getElem hj
     rw [hc j _ hcj]
     have:=hrr j _ (.str x) hcj (by rw [hfl,List.getElem?_map,hx];rfl)
     generalize cs[j]=c at this
     cases this with
     | str q' _ hq' =>
      obtain ⟨d⟩:=q'
      subst hq'
      simp
    cases xs with
    | nil =>
     refine (Any.strings_Join_none L X _ cap q w).mono ?_
     rintro e w' ⟨rfl,rfl⟩
     exact fin _ _ rfl (Below.refl _ _)
    | cons x0 xs0 =>
     have hg:g<w.heap.size:=by
      have:=hcell 0 x0 rfl
      apply Classical.byContradiction
      intro hh
      have hn:w.heap[g]?=none:=Array.getElem?_eq_none (by omega)
      simp [World.cell?,hn] at this
     have he:((x0::xs0).map fun x=>(⟨x.toArray⟩:ByteArray)).map (·.data.toList)=x0::xs0:=by
      rw [List.map_map]
      refine (List.map_congr_left fun a _=>?_).trans (List.map_id _)
      simp
     have:=Any.strings_Join L X g o cap ((x0::xs0).map fun x=>(⟨x.toArray⟩:ByteArray)) q w (fun j y hy=>by
      rw [List.getElem?_map,Option.map_eq_some_iff] at hy
      obtain ⟨x,hx,rfl⟩:=hy
      exact hcell j x hx) hg (by rw [List.length_map];exact hN) (by rw [List.length_map];exact hcap) (by rw [he,hq];exact hlen)
     rw [List.length_map,he,hq] at this
     refine this.mono ?_
     rintro e w' ⟨rfl,hb⟩
     exact fin _ _ rfl hb
open Go.Proofs Go.Shelf Go.ChangeShapes Go.WideShapes Go.RowKit
variable {P:Program} {ρ:Go.Shelf.Ren}
theorem str2_args [Tabs] {S:Blocks} {w:World} {vs:List Value} {l m:List UInt8} (h:RelTs S w vs [.str l,.str m]):∃ q r:ByteArray,vs=[.string q,.string r]∧q.data.toList=l∧r.data.toList=m:=by
 obtain ⟨h1,h2⟩:=h
 match vs,h1 with
 | [v,u],_ =>
  have a:=h2 0 v _ rfl rfl
  have b:=h2 1 u _ rfl rfl
  cases a with
  | str q _ hq =>
   cases b with
   | str r _ hr=>exact ⟨q,r,rfl,hq,hr⟩
theorem trimSuffix_ok [Tabs] (L:Lays.n102 P ρ) (hfn:FnOk P (ρ.f 102)) (s t:List UInt8) (hs:s.length≤9223372036854775807) :
  APureV P (ρ.f 102) [.str s,.str t] (.str (Lib.trimSuffix s t)):=by
 refine APure.mono (apure_plain (R:=fun l=>l=[.str (Lib.trimSuffix s t)]) hfn fun S w vs hT hvs=>?_) (by rintro rs ⟨l,rfl,rfl⟩;rfl)
 obtain ⟨q,r,rfl,hq,hr⟩:=str2_args hvs
 refine (Any.strings_TrimSuffix L q r w (by rw [size_str hq];exact hs)).mono ?_
 rintro e w' ⟨rfl,rfl⟩
 refine ⟨[_],_,rfl,rfl,rfl,fun j u a hu ha=>?_,Below.refl _ _⟩
 match j,hu,ha with
 | 0,hu,ha=>simp at hu ha;subst hu;subst ha;rw [hq,hr];exact plain_str _
theorem split_ok [Tabs] (L:Lays.n146 P ρ) (hfn:FnOk P (ρ.f 146)) (hi9:(P.info? (ρ.t 9)).map (fun i=>(i.zero,i.size,i.bytes))=some (some (.string ByteArray.empty),1,16))
  (hm:∀ S w,TabAt S w→∃ m,w.cell? ⟨(ρ.g 1),0,none⟩=some (.int .i64 m)) (enc:List UInt8→AV) (henc:∀ s,enc s=.str s) (s t:List UInt8) (hs:s.length<4294967281) (ht:1≤t.length) :
  APureV P (ρ.f 146) [.str s,.str t] (.sl 1 enc [] (Lib.splitK t 0 (Lib.count s t) s)):=by
 refine ⟨hfn,fun S w vs hS hT hv=>?_⟩
 obtain ⟨q,r,rfl,hq,hr⟩:=str2_args hv
 obtain ⟨m,hm⟩:=hm S w hT
 refine (Any.strings_Split L hi9 q r m w (by rw [size_str hq];exact hs) hm (by rw [size_str hr];exact ht)).mono ?_
 rintro e w' ⟨rfl,rfl⟩
 have hd:=Lib.splitB_data r 0 (Lib.countB q r) q
 have hlen:=Lib.splitB_all r (by rw [size_str hr];exact ht) 0 _ q rfl
 have hcnt:Lib.countB q r=Lib.count s t:=by rw [← hq,← hr];try rfl
 rw [hq,hr,hcnt] at hd
 rw [hcnt] at hlen ⊢
 rw [← hd]
 generalize Lib.splitB r 0 (Lib.count s t) q=ps at hd hlen ⊢
 have hb:Below w.heap.size w (w.alloc (.cells (ps.map Value.string).toArray (ρ.t 9))):=(Below.refl _ w).alloc (Nat.le_refl _) _
 refine ⟨[.slice (some ⟨w.heap.size,0,none⟩) (Lib.count s t+1) (Lib.count s t+1)],_,fun b=>S b∨b=w.heap.size,rfl,rfl,⟨rfl,fun j u r hj hr=>?_,hb,fun b hb=>.inl hb,fun b hb=>hb.imp id (fun h=>by omega),fun b hb'=>?_,fun i u b k h1 h2=>?_⟩⟩
 ·cases j with
  | succ j=>simp at hj
  | zero =>
   simp only [List.getElem?_cons_zero,Option.some.injEq] at hj hr
   subst hj hr
   refine .sl _ _ _ _ _ ?_
   have hfl:flat ((ps.map (·.data.toList)).map enc)=(ps.map (·.data.toList)).map enc:=flat_ones (by
    intro a ha
    obtain ⟨y,_,rfl⟩:=List.mem_map.1 ha
    rw [henc]
    rfl)
   have hll:((ps.map (·.data.toList)).map enc).length=Lib.count s t+1:=by rw [List.length_map,List.length_map,hlen]
   have:=RelT.lsl (S:=fun b=>S b∨b=w.heap.size) (w:=w.alloc (.cells (ps.map Value.string).toArray (ρ.t 9))) 1 ((ps.map (·.data.toList)).map enc) w.heap.size 0 (Lib.count s t+1) (ps.map Value.string)
    (.inr rfl) (by rw [hll];exact Nat.le_refl _) (fun x hx=>by
     obtain ⟨y,_,rfl⟩:=List.mem_map.1 hx
     rw [henc]
     rfl) (by
     rw [hfl]
     intro a ha
     obtain ⟨y,_,rfl⟩:=List.mem_map.1 ha
     rw [henc]
     rfl) (by rw [List.length_map,hlen,hll,Nat.mul_one]) (fun j c h=>by
     rw [List.getElem?_map,Option.map_eq_some_iff] at h
     obtain ⟨x,hx,rfl⟩:=h
     have hj:=(List.getElem?_eq_some_iff.1 hx).1
     have e0:=heap_alloc_new w (.cells (ps.map Value.string).toArray (ρ.t 9))
     simp only [World.cell?,e0]
     simp [hx]) (fun j c a h ha=>by
     rw [List.getElem?_map,Option.map_eq_some_iff] at h
     obtain ⟨x,hx,rfl⟩:=h
     rw [hfl,List.getElem?_map,List.getElem?_map,hx] at ha
     simp only [Option.map_some,Option.some.injEq] at ha
     subst ha
     rw [henc]
     exact .str x _ rfl)
   rw [hll] at this
   exact this
 ·show b<(w.heap.push _).size
  rw [Array.size_push]
  rcases hb' with h | h
  ·exact Nat.lt_succ_of_lt (hS b h)
  ·omega
 ·cases i with
  | succ i=>simp at h2
  | zero=>simp at h2
theorem handed_and_sh {H:Type} {enc:TypeId×Value→H} {a:Assume} {C:Checked} {os:Os} {f:FuncId} {fn:Func} {s:ChangeSpec} {conds:List PathCond} {apart fresh handsOn again:Bool} {X:World→Array Value→Prop}
  (hX:∀ (w w':World) (args:Array Value),w.heap=w'.heap→X w args→X w' args)
  (own:ownKnob C.prog.godebug=none) (started:os.Started) (noInit:C.prog.inits.idxOf? f=none) (hfn:C.prog.funcs[f]?=some fn)
  (witness:∃ (w:World) (tape:Tape) (i:Input),w.os=os∧(w.forCall tape i).Shaped C.prog∧i.vars=[]∧Input.okWide C.prog (w.forCall tape i) .any w.heap.size f i ∧
   ((s.pre enc C.prog fn conds apart (w.forCall tape i).memory i.args∧X (w.forCall tape i).memory i.args)∧sizedMet enc C.prog fn (OpenSpec.ofChange s) apart (w.forCall tape i).memory i.args)∧a.holds C.prog (lone (Frame.enter C.prog f i.args .normal) [] (w.forCall tape i)))
  (contract:∀ (W:World) (base:Nat) (args:Array Value) (ds gs:List (DataW H)) (before:List MemPlace),
   (∀ (j:Nat) t v,fn.params[j]?=some t→args[j]?=some v→Value.okWide C.prog W .any base t v) →
   DataW.Whole enc C.prog fn.params.toList s.vars apart W args.toList ds gs before →
   conds.all (PathCond.test C.prog ⟨fn.params.toList,ds,s.plain.varTypes C.prog,gs⟩)=true →
   (DataW.weightsEach C.prog (fn.params.toList++s.plain.varTypes C.prog) (ds++gs)).all (·≤reachBytes)=true→X W args→W.ShapedOpen C.prog →
   a.holds C.prog (lone (Frame.enter C.prog f args .normal) [] W) →
   Calls C.prog f args W fun e W'=>∃ v,e=.returned v∧s.post enc C.prog fn apart fresh handsOn again W args v W') :
  ReturnsInHanded a C os f .any (fun w args=>(s.pre enc C.prog fn conds apart w args∧X w args)∧sizedMet enc C.prog fn (OpenSpec.ofChange s) apart w args) (s.post enc C.prog fn apart fresh handsOn again):=by
 refine returnsInHanded_of_calls own started noInit witness ?_
 intro w tape i _ hsh _ hok hpre hholds
 obtain ⟨_,_,_,fn',hfn',_,_,_,_,hval⟩:=hok
 have e:fn'=fn:=Option.some.inj (hfn'.symm.trans hfn)
 subst e
 obtain ⟨⟨⟨ds,gs,before,hw,hc⟩,hx⟩,hz⟩:=hpre
 have hw':=DataW.Whole.of_heap (w':=w.forCall tape i) (by rfl) hw
 refine (contract (w.forCall tape i) w.heap.size i.args ds gs before hval hw' hc (hz.weights hw) (hX _ _ _ (by rfl) hx) hsh hholds).mono fun e W' ⟨v,he,hp⟩=>?_
 subst he
 exact ChangeSpec.post_blind hp
theorem row_lifted_laid_sh [Tabs] {C:Checked} {P:Program} (hC:C.prog=P) {os:Os} {f:FuncId} {fn:Func} {s:ChangeSpec} {conds:List PathCond} {H:Type} {enc:TypeId×Value→H} {tb:TypeId} (laid:List (String×DataW Unit)) {Qs:List (AV→Prop)}
  (own:ownKnob P.godebug=none) (started:os.Started) (noInit:P.inits.idxOf? f=none) (hfn:P.funcs[f]?=some fn)
  (witness:∃ (w:World) (tape:Tape) (i:Input),w.os=os∧(w.forCall tape i).Shaped P∧i.vars=[]∧Input.okWide P (w.forCall tape i) .any w.heap.size f i ∧
   ((s.pre enc P fn conds false (w.forCall tape i).memory i.args∧laidMet P laid (w.forCall tape i).memory)∧sizedMet enc P fn (OpenSpec.ofChange s) false (w.forCall tape i).memory i.args)∧({}:Assume).holds P (lone (Frame.enter P f i.args .normal) [] (w.forCall tape i)))
  (hl:laidOutB P=true) (hsv:s.vars=[]) (hr:(fn.params.toList.all fun t=>P.readableRec t&&decide (t<P.types.size))=true)
  (hres:fn.resultTypes=#[tb]) (htb:P.underlying tb=some .bool) (hspec:∀ ds:List (DataW H),ds.length=fn.params.size→s.fn H (ds++[])={ results:=[.lit (.bool true)],args:=ds })
  (hQ:OpVs P fn.params.toList Qs) (hA:∀ avs,Alls Qs avs→APureV P f avs (.bool true)) (hTb:∀ W,laidMet P laid W→W.ShapedOpen P→TabAt (All W) W) :
  ReturnsInHanded {} C os f .any (fun w args=>(s.pre enc P fn conds false w args∧laidMet P laid w)∧sizedMet enc P fn (OpenSpec.ofChange s) false w args) (s.post enc P fn false true false false):=by
 subst hC
 refine handed_and_sh (X:=fun w _=>laidMet C.prog laid w) (fun _ _ _ hh h=>h.of_heap hh) own started noInit hfn witness ?_
 intro W base args ds gs before hval0 hW hcnd _ hLd hsh _
 have hval:∀ (j:Nat) t v,fn.params[j]?=some t→args[j]?=some v→Value.okWide C.prog W .any base t v:=hval0
 have hW':=hW
 obtain ⟨p,q,hA0,hV,rfl,hfz,hnd⟩:=hW
 have hA1:DataW.TrodAll enc C.prog W 0 (fun _=>true) true fn.params.toList args.toList ds p:=hA0
 rw [hsv] at hV
 obtain ⟨rfl,rfl⟩:=trodVars_none hV
 obtain ⟨avs,h1,h2⟩:=opens_list fn.params.toList Qs args.toList ds p hQ (fun j t v h1 h2=>hval j t v (by simpa using h1) (by simpa using h2)) hA1
 have hlen:∀ (ts:List TypeId) (vs:List Value) (ds:List (DataW H)) (ps:List MemPlace),DataW.TrodAll enc C.prog W 0 (fun _=>true) true ts vs ds ps→ds.length=ts.length:=by
  intro ts
  induction ts with
  | nil=>intro vs ds ps h;obtain ⟨_,rfl,_⟩:=trodAll_nil h;rfl
  | cons t ts ih =>
   intro vs ds ps h
   obtain ⟨v,vs',d,ds',p,q,rfl,rfl,rfl,_,h2⟩:=trodAll_cons h
   simp [ih _ _ _ h2]
 have hr':∀ t∈fn.params.toList,C.prog.readableRec t=true∧t<C.prog.types.size:=by
  intro t ht
  have:=List.all_eq_true.1 hr t ht
  simpa using this
 exact row_of_apure hl hsv hW' hr' hres htb (hspec ds (by simpa using hlen _ _ _ _ hA1)) (hTb W hLd hsh) (hA avs h1) h2
open Go.ChangeShapes Go.WideShapes Go.RowKit
def OpensS (P:Program) (t:TypeId) (n:Nat) (R:List AV→Prop) (N:Nat):Prop :=
 P.cellsOf t=n∧∀ {H:Type} (ec:TypeId×Value→H) (W:World) (fuel:Nat) (cs:List Value) (x:DataW H×List MemPlace),SizeOf.sizeOf x.1<N→DataW.trod ec P W 0 (fun _=>true) true fuel t cs=some x →
  ∃ l,R l∧cs.length=l.length∧l.length=n∧(∀ b∈l,b.one=true)∧∀ (j:Nat) (c:Value) (b:AV),cs[j]?=some c→l[j]?=some b→RelT (All W) W c b
theorem OpensR.at {P:Program} {t:TypeId} {n:Nat} {R:List AV→Prop} (h:OpensR P t n R) (N:Nat):OpensS P t n R N:=⟨h.1,fun ec W fuel cs x _ hx=>h.2 ec W fuel cs x hx⟩
theorem opensR_all {P:Program} {t:TypeId} {n:Nat} {R:List AV→Prop} (h:∀ N,OpensS P t n R N):OpensR P t n R :=
 ⟨(h 0).1,fun ec W fuel cs x hx=>(h (SizeOf.sizeOf x.1+1)).2 ec W fuel cs x (Nat.lt_succ_self _) hx⟩
theorem OpensS.le {P:Program} {t:TypeId} {n:Nat} {R:List AV→Prop} {N M:Nat} (h:OpensS P t n R N) (hM:M≤N):OpensS P t n R M :=
 ⟨h.1,fun ec W fuel cs x hs hx=>h.2 ec W fuel cs x (Nat.lt_of_lt_of_le hs hM) hx⟩
theorem OpensS.mono {P:Program} {t:TypeId} {n:Nat} {R R':List AV→Prop} {N:Nat} (h:OpensS P t n R N) (hR:∀ l,R l→R' l):OpensS P t n R' N :=
 ⟨h.1,fun ec W fuel cs x hs hx=>let ⟨l,h1,h2⟩:=h.2 ec W fuel cs x hs hx;⟨l,hR l h1,h2⟩⟩
theorem opensS_zero {P:Program} {t:TypeId} {n:Nat} {R:List AV→Prop} (h:P.cellsOf t=n):OpensS P t n R 0:=⟨h,fun _ _ _ _ _ hs _=>absurd hs (Nat.not_lt_zero _)⟩
def FieldsS (P:Program) (N:Nat):Nat→List Field→List (Nat×(List AV→Prop))→Nat→Prop
 | off,[],[],n=>off=n
 | off,f::fs,(k,R)::Rs,n=>f.offset=off∧OpensS P f.type k R N∧FieldsS P N (off+k) fs Rs n
 | _,_,_,_=>False
theorem opensS_struct {P:Program} {N:Nat} {t:TypeId} {fs:Array Field} {n:Nat} {Rs:List (Nat×(List AV→Prop))} (ht:P.underlying t=some (.struct fs)) (hc:P.cellsOf t=n) (hf:FieldsS P N 0 fs.toList Rs n):OpensS P t n (StrR Rs) (N+1):=by
 refine ⟨hc,fun {H} ec W fuel cs x hsz h=>?_⟩
 obtain ⟨xs,m,_,hxx,hl,hlen,hfs⟩:=DataW.trod_struct ht h
 rw [hc] at hl
 have hsm:∀ y∈xs,SizeOf.sizeOf y.1<N:=fun y hy=>by
  have h1:=List.sizeOf_lt_of_mem (List.mem_map_of_mem (f:=fun y:DataW H×List MemPlace=>y.1) hy)
  rw [hxx] at hsz
  simp only [DataW.agg.sizeOf_spec] at hsz
  omega
 have key:∀ (gs:List Field) (Rs:List (Nat×(List AV→Prop))) (off i:Nat),FieldsS P N off gs Rs n→(∀ j,gs[j]?=fs[i+j]?)→off≤n →
   ∃ l,StrR Rs l∧off+l.length=n∧(∀ b∈l,b.one=true)∧∀ (j:Nat) (c:Value) (b:AV),cs[off+j]?=some c→l[j]?=some b→RelT (All W) W c b:=by
  intro gs
  induction gs with
  | nil =>
   intro Rs off i hF _ _
   cases Rs with
   | nil =>
    have:off=n:=hF
    exact ⟨[],rfl,by simpa using this,by simp,fun j c b _ h=>by simp at h⟩
   | cons p Rs=>exact hF.elim
  | cons f gs ih =>
   intro Rs off i hF hg hoff
   cases Rs with
   | nil=>exact hF.elim
   | cons p Rs =>
    obtain ⟨k,R⟩:=p
    obtain ⟨ho,⟨hck,hR⟩,hrest⟩:=hF
    have hfi:fs[i]?=some f:=by
     have:=hg 0
     simpa using this.symm
    have hi:=hfs i f hfi
    have hil:i<xs.length:=by
     rw [hlen]
     exact (Array.getElem?_eq_some_iff.1 hfi).1
    rw [List.getElem?_eq_getElem hil] at hi
    obtain ⟨l1,h1,h2,h3,h4,h5⟩:=hR ec W m _ _ (hsm _ (List.getElem_mem hil)) hi
    have hk:k≤n-off:=by
     rw [ho,hck] at h2
     simp at h2
     omega
    obtain ⟨l2,g1,g2,g3,g4⟩:=ih Rs (off+k) (i+1) hrest (fun j=>by
     have:=hg (j+1)
     rw [List.getElem?_cons_succ] at this
     rw [this]
     congr 1
     omega) (by omega)
    refine ⟨l1++l2,⟨l1,l2,h1,g1,rfl⟩,by simp;omega,fun b hb=>?_,fun j c b hj hb=>?_⟩
    ·rcases List.mem_append.1 hb with hb | hb
     ·exact h4 b hb
     ·exact g3 b hb
    ·by_cases hjk:j<k
     ·rw [List.getElem?_append_left (by omega)] at hb
      refine h5 j c b ?_ hb
      rw [ho,hck]
      simp [hjk,hj]
     ·rw [List.getElem?_append_right (by omega)] at hb
      refine g4 (j-k) c b ?_ (by rw [h3] at hb;exact hb)
      rw [← hj]
      congr 1
      omega
 obtain ⟨l,h1,h2,h3,h4⟩:=key fs.toList Rs 0 0 hf (fun j=>by simp) (Nat.zero_le _)
 exact ⟨l,h1,by omega,by omega,h3,fun j c b hj hb=>h4 j c b (by rw [Nat.zero_add];exact hj) hb⟩
theorem opensS_slice {P:Program} {N:Nat} {t e:TypeId} {E:Nat} {R:List AV→Prop} {X:Type} [Inhabited X] {enc:X→AV} {ok:X→Prop} (ht:P.underlying t=some (.slice e)) (hc:P.cellsOf t=1) (ho:OpensS P e E R N) (hpos:0<E)
  (hX:∀ l,R l→∃ a,ok a∧(enc a).cells=l) (hE1:∀ a,(enc a).cells.length=E) :
  OpensS P t 1 (fun l=>∃ xs:List X,(∀ a∈xs,ok a)∧xs.length≤9223372036854775807∧l=[.lsl E (xs.map enc)]) (N+1):=by
 refine ⟨hc,fun {H} ec W fuel cs x hsize h=>?_⟩
 have fin:∀ {v:Value} {xs:List X},(∀ a∈xs,ok a)→xs.length≤9223372036854775807→RelT (All W) W v (.lsl E (xs.map enc))→cs=[v] →
   ∃ l,(∃ xs:List X,(∀ a∈xs,ok a)∧xs.length≤9223372036854775807∧l=[.lsl E (xs.map enc)])∧cs.length=l.length∧l.length=1∧(∀ b∈l,b.one=true)∧∀ (j:Nat) (c:Value) (b:AV),cs[j]?=some c→l[j]?=some b→RelT (All W) W c b:=by
  intro v xs h1 h2 h3 hcs
  refine ⟨_,⟨xs,h1,h2,rfl⟩,by rw [hcs];rfl,rfl,by simp [AV.one],fun j c b hj hb=>?_⟩
  rw [hcs] at hj
  cases j with
  | zero=>simp at hj hb;subst hj;subst hb;exact h3
  | succ j=>simp at hj
 rcases Deep.open_slice ht h with ⟨hcs,_⟩ | ⟨a,len,cap,m,n,D,Pl,hcs,hb,hl,hm,hmm,hxx,hel⟩
 ·exact fin (xs:=[]) (by simp) (by simp) (.lslnil E) hcs
 ·simp only [if_true] at hmm
  subst hmm
  have hDs:∀ i,i<len→SizeOf.sizeOf (D i)<N:=fun i hi=>by
   rw [hxx] at hsize
   simp only [DataW.slice.sizeOf_spec] at hsize
   have:=List.sizeOf_lt_of_mem (List.mem_map_of_mem (f:=D) (List.mem_range.2 hi))
   omega
  rw [ho.1] at hel
  by_cases hm0:m=0
  ·have hl0:len=0:=by omega
   subst hm0
   subst hl0
   exact fin (xs:=[]) (by simp) (by simp) (.lslz E a) hcs
  obtain ⟨c0,h0,_⟩:=hel 0 (by omega)
  obtain ⟨_,hlen0,hget0⟩:=World.cells?_some h0
  have hcell0:W.cell? a=some (c0[0]'(by omega)):=by
   have:=hget0 0 hpos
   rw [List.getElem?_eq_getElem (by omega)] at this
   simpa [Addr.add] using this
  obtain ⟨hlt,hspot⟩:=cell_block hcell0
  rw [addr_eta hspot] at hcs hel
  generalize a.block=g at *
  generalize a.off=o at *
  obtain ⟨A,hA⟩:=Deep.choose_lt (α:=X) (n:=len) (p:=fun i x=>ok x∧∃ cs',W.cells? 0 ((⟨g,o,none⟩:Addr).add (i*E)) E=some cs'∧cs'.length=(enc x).cells.length∧(∀ b∈(enc x).cells,b.one=true) ∧
    ∀ (j:Nat) (c:Value) (b:AV),cs'[j]?=some c→(enc x).cells[j]?=some b→RelT (All W) W c b) (fun i hi=>by
   obtain ⟨cs',h1,h2⟩:=hel i (by omega)
   obtain ⟨l,q1,q2,_,q3,q4⟩:=ho.2 ec W n cs' _ (hDs i hi) h2
   obtain ⟨x,hx,rfl⟩:=hX l q1
   exact ⟨x,hx,cs',h1,q2,q3,q4⟩)
  have cell:∀ i,i<len→∀ j,j<E→∃ c b,W.cell? ⟨g,o+(i*E+j),none⟩=some c∧(enc (A i)).cells[j]?=some b∧RelT (All W) W c b:=by
   intro i hi j hj
   obtain ⟨_,cs',h1,h2,_,h4⟩:=hA i hi
   obtain ⟨_,hlen,hget⟩:=World.cells?_some h1
   have hc:=hget j hj
   have hcj:cs'[j]?=some (cs'[j]'(by omega)):=List.getElem?_eq_getElem (by omega)
   have hbj:(enc (A i)).cells[j]?=some ((enc (A i)).cells[j]'(by rw [hE1];exact hj)):=List.getElem?_eq_getElem _
   refine ⟨_,_,?_,hbj,h4 j _ _ hcj hbj⟩
   rw [hcj,Deep.add_add] at hc
   have e:(⟨g,o+(i*E+j),none⟩:Addr)=(⟨g,o,none⟩:Addr).add (i*E+j):=by
    unfold Addr.add
    split
    ·rename_i h0;rw [h0];rfl
    ·rfl
   rw [e]
   exact hc
  have hsz:∀ x∈((List.range len).map A).map enc,x.cells.length=E:=by
   intro x hx
   obtain ⟨y,_,rfl⟩:=List.mem_map.1 hx
   exact hE1 y
  have split:∀ q,q<len*E→q / E<len∧q % E<E∧q=q / E*E+q % E:=by
   intro q hq
   refine ⟨Nat.div_lt_of_lt_mul (by rw [Nat.mul_comm];exact hq),Nat.mod_lt _ hpos,?_⟩
   have:=Nat.div_add_mod q E
   rw [Nat.mul_comm] at this
   omega
  have hflat:∀ i,i<len→∀ j,j<E→(flat (((List.range len).map A).map enc))[i*E+j]?=(enc (A i)).cells[j]?:=by
   intro i hi j hj
   exact flat_get _ hsz i j _ (by simp [hi]) hj
  refine fin (v:=.slice (some ⟨g,o,none⟩) len m) (xs:=(List.range len).map A) (fun x hx=>?_) (by simp;unfold maxLen at hm;omega) ?_ hcs
  ·obtain ⟨i,hi,rfl⟩:=List.mem_map.1 hx
   exact (hA i (List.mem_range.1 hi)).1
  ·have hL:(((List.range len).map A).map enc).length=len:=by simp
   have:=RelT.lsl (S:=All W) (w:=W) E (((List.range len).map A).map enc) g o m ((List.range (len*E)).map fun q=>(W.cell? ⟨g,o+q,none⟩).getD undef) hlt (by rw [hL];exact hl) hsz (fun b hb=>?_) (by simp) (fun j c hj=>?_) (fun j c b hj hb=>?_)
   ·rw [hL] at this
    exact this
   ·obtain ⟨x,hx,hbx⟩:=List.mem_flatMap.1 hb
    obtain ⟨y,hy,rfl⟩:=List.mem_map.1 hx
    obtain ⟨i,hi,rfl⟩:=List.mem_map.1 hy
    obtain ⟨_,_,_,_,h3,_⟩:=hA i (List.mem_range.1 hi)
    exact h3 b hbx
   ·have hq:j<len*E:=by
     have:=(List.getElem?_eq_some_iff.1 hj).1
     simpa using this
    obtain ⟨s1,s2,s3⟩:=split j hq
    obtain ⟨c',b',h1,_,_⟩:=cell _ s1 _ s2
    rw [← s3] at h1
    simp [hq,h1] at hj
    rw [h1,hj]
   ·have hq:j<len*E:=by
     have:=(List.getElem?_eq_some_iff.1 hj).1
     simpa using this
    obtain ⟨s1,s2,s3⟩:=split j hq
    obtain ⟨c',b',h1,h2,h3⟩:=cell _ s1 _ s2
    have hf:=hflat _ s1 _ s2
    rw [← s3] at h1 hf
    rw [hf,h2] at hb
    cases hb
    simp [hq,h1] at hj
    subst hj
    exact h3
end Go.Own
