import Derived.Test.YtgaallgiaachlaaGreatDoorCa
import Derived.Shelf.Strings.Builder1
import Derived.KernelRfl
import Derived.Test.YtgaallgiaachlaaGreatDoorProg
import Derived.Test.YtgaallgiaachlaaGreatDoorLc
import Derived.Lib.ItoaLen
import Derived.Lib.IndexLaws
import Derived.Lib.AtoiAllCases
namespace Go.Proofs.YtgaallgiaachlaaGreatDoor
open Go.Own
set_option maxHeartbeats 40000000
set_option maxRecDepth 100000
abbrev zIX:List AV:=[.str [],.str [],.int .i64 0,.int .i64 0,.int .i64 0,.int .i64 0,.int .i64 0,.int .i64 0,.int .i64 0,.int .i64 0,.nils,.int .i64 0,.int .i64 0,.int .i64 0,.str [],.nils,.int .i64 0,.nils,.nils,.int .i64 0,.nils,.int .i64 0,.int .i64 0,.int .i64 0,.int .i64 0]
noncomputable abbrev cP:Cx:=cxP 3 20 [0,2,3,4,5,13]
theorem zt141 {p:Prop}(h:p:=by
 exact ret_end (C:=cP) (fn:=Tryz.f23) (a':={ tmps:=a'.tmps,defers:=[] }) (cxPOk _ _ _) (Nat.le_of_ble_eq_true rfl) hb' hq):p:=h
theorem zt127 {p:Prop}(h:p:=by
 conv=>whnf
 exact (wk_of [(0,.id 0),(1,.id 1),(2,.id 2),(3,.id 3)] rfl ⟨wc0,wc0,wc0,wc0,trivial⟩ ⟨wb0,wb0,wb0,wb0,trivial⟩)):p:=h
theorem zp14 {p:Prop} (h:p:=by exact Nat.le_of_ble_eq_true rfl):p:=h
theorem parse_go (s:List UInt8) (hs:s.length≤9223372036854775807) {T:List Tok} (h:lexR s=.ok T):APure Tryz.prog 23 [.str s] (fun rs=>rs=parA (parseR s)):=by
 have ho:=open_ok s hs h
 have hp:=lexR_ok h
 have hfit:∀ {F:Fr},F.pin=(fun _=>none)→F.fits 3:=fun {F} e i v hv=>by rw [e] at hv;cases hv
 refine apure_d (C:=cP) Tryz.func23 rfl dd0 rfl zp14 ?_
 intro S w a hrel
 have hstart:=hrel
 refine wp_seq_ev (cxPOk _ _ _) (C:=cP) (hfit rfl) (st1:=⟨[(0,.str s),(2,.ptr 0 0),(3,.ptr 1 0),(4,.ptr 2 0)],[(0,.cells 56 zIX),(1,.cells 3 [.int .i64 0]),(2,.cells 31 [.int .i64 0])],3⟩) (Rr:=fun _=>False) ?_ (fun _ h=>h) ?_ (fun _ _ _ _ h=>h.elim) a w hrel
 ·conv=>whnf
  exact (wk_of [(0,.id 0),(1,.id 1),(2,.id 2)] rfl ⟨wa0,wc0,wc0,wc0,trivial⟩ ⟨wb0,wb0,wb0,trivial⟩)
 intro a w1 hrel
 refine wp_seq_ev (cxPOk _ _ _) (C:=cP) (hfit rfl) (st1:=⟨[(2,.ptr 0 0),(3,.ptr 1 0),(4,.ptr 2 0),(5,.ptr 3 0)],[(0,.cells 56 zIX),(1,.cells 3 [.int .i64 0]),(2,.cells 31 [.int .i64 0]),(3,.cells 183 (pcell T T))],4⟩) (Rr:=fun _=>False) ?_ (fun _ h=>h) ?_ (fun _ _ _ _ h=>h.elim) a w1 hrel
 ·conv=>whnf
  refine cR (ho) [] ?_
  exact zt127
 intro a w1 hrel
 refine wp_seq_ev (cxPOk _ _ _) (C:=cP) (hfit rfl) (st1:=⟨[(2,.ptr 0 0),(3,.ptr 1 0),(4,.ptr 2 0),(5,.ptr 3 0)],[(0,.cells 56 zIX),(1,.cells 3 [.int .i64 0]),(2,.cells 31 [.int .i64 0]),(3,.cells 183 (pcell T T))],4⟩) (Rr:=fun _=>False) ?_ (fun _ h=>h) ?_ (fun _ _ _ _ h=>h.elim) a w1 hrel
 ·conv=>whnf
  refine gF ?_
  exact zt127
 intro a w1 hrel
 obtain ⟨m,S1,hc,hsz,hds,hr⟩:=hrel
 have hsz20:a.tmps.size=20:=hsz
 have p2:RelV m S1 w1 (a.tmps.getD 2 undef) (.ptr 0 0):=hr 2
 have p3:RelV m S1 w1 (a.tmps.getD 3 undef) (.ptr 1 0):=hr 3
 have p4:RelV m S1 w1 (a.tmps.getD 4 undef) (.ptr 2 0):=hr 4
 have hR0:Rel (Fr.inner ⟨w,fun _=>False,S,fun _=>none,[]⟩ m 3) 20 (⟨[(2,.ptr 0 0),(3,.ptr 1 0),(4,.ptr 2 0),(5,.ptr 3 0)],[(0,.cells 56 zIX),(1,.cells 3 [.int .i64 0]),(2,.cells 31 [.int .i64 0]),(3,.cells 183 (pcell T T))],4⟩) a w1:=⟨m,S1,core_inner hc 3,hsz,hds,hr⟩
 have hlt17:17<a.tmps.size:=by omega
 refine wp_seq (wp_defer (t:=17) (g:=117) rfl rfl rfl rfl rfl rfl hlt17 ?_)
 have hR1:=rel_defer (t:=17) (v:=.func (.func 117) #[] (#[Operand.tmp 3,Operand.tmp 4,Operand.tmp 2].map a.eval)) (d:={ target:=.fn (.func 117) (#[Operand.tmp 3,Operand.tmp 4,Operand.tmp 2].map a.eval),args:=#[] }) hR0 rfl
 have hcap:#[Operand.tmp 3,Operand.tmp 4,Operand.tmp 2].map a.eval=#[a.tmps.getD 3 undef,a.tmps.getD 4 undef,a.tmps.getD 2 undef]:=by
  rw [List.map_toArray]
  rfl
 cases hi:indP T with
 | ok v =>
  obtain ⟨x,r⟩:=v
  have hs:parseR s=.ok x:=by unfold parseR;rw [h];simp only [hi]
  rw [hs]
  have hfit3:=Fr.inner_fits ⟨w,fun _=>False,S,fun _=>none,[]⟩ m 3
  refine wp_mono (evCode_sound (C:=cP) (cxPOk _ _ _) (F:=⟨w,fun _=>False,S,(Fr.inner ⟨w,fun _=>False,S,fun _=>none,[]⟩ m 3).pin,[_]⟩) hfit3 _ _ (fun e st'=>match e with
   | .ret=>Wk 3 20 st' (⟨[(2,.ptr 0 0),(3,.ptr 1 0),(4,.ptr 2 0)],[(0,.cells 56 (celX x)),(1,.cells 3 [.int .i64 0]),(2,.cells 31 [.int .i64 0])],3⟩)
   | _=>False) ?_ _ _ hR1) ?_
  ·conv=>whnf
   refine cR ((rx_ok (ind_x hp) hi)) [3] (cW ?_)
   exact (wk_of [(0,.id 0),(1,.id 1),(2,.id 2)] rfl ⟨wc0,wc0,wc0,trivial⟩ ⟨wb0,wb0,wb0,trivial⟩)
  rintro e a' w' ⟨st',h1,h2⟩
  have h2:=orP_off (fun _ h=>h) h2
  cases e with
  | ret =>
   obtain ⟨m',S',hc',hsz',hd',hr'⟩:=h2 ⟨w,fun _=>False,S,(Fr.inner ⟨w,fun _=>False,S,fun _=>none,[]⟩ m 3).pin,[_]⟩ a' w' hfit3 h1
   have hmm:∀ i,i<3→∀ u,m i=some u→m' i=some u:=fun i hi u hu=>hc'.pins i u (by show (if i<3 then m i else none)=some u;rw [if_pos hi,hu])
   show Leaves Tryz.prog Tryz.f23 a'.tmps _ a'.defers .returning w'
   rw [hd']
   refine leaves_cons (u:=.returning) (fun h=>by cases h) (f:=117) (args:=#[a.tmps.getD 3 undef,a.tmps.getD 4 undef,a.tmps.getD 2 undef]) ?_ ?_
   ·rw [hcap]
    simp [invoke]
   have hc0:Core (Fr.mk w (fun _=>False) S (fun _=>none) []) m' S' w' (⟨[(2,.ptr 0 0),(3,.ptr 1 0),(4,.ptr 2 0)],[(0,.cells 56 (celX x)),(1,.cells 3 [.int .i64 0]),(2,.cells 31 [.int .i64 0])],3⟩:St).heap 3:=⟨hc'.good,hc'.free,hc'.far,hc'.owns,hc'.ro,hc'.ro0,fun i v (h:none=some v)=>nomatch h⟩
   refine (closure_runs (C:=cxP 3 6 [0,1,2,4]) (cxPOk _ _ _) Tryz.func117 rfl rfl rfl (t:=3) rfl rfl rfl dd0 (F:=Fr.inner (Fr.mk w (fun _=>False) S (fun _=>none) []) m' 3) (Fr.inner_fits _ _ _) rfl (env:=(⟨[(0,.ptr 1 0),(1,.ptr 2 0),(2,.ptr 0 0)],[(0,.cells 56 (celX x)),(1,.cells 3 [.int .i64 0]),(2,.cells 31 [.int .i64 0])],3⟩:St).env) (H:=(⟨[(0,.ptr 1 0),(1,.ptr 2 0),(2,.ptr 0 0)],[(0,.cells 56 (celX x)),(1,.cells 3 [.int .i64 0]),(2,.cells 31 [.int .i64 0])],3⟩:St).heap) (nx:=3) (rv:=.ifc true) (stE:=⟨[(2,.ptr 0 0)],[(0,.cells 56 (celX x)),(1,.cells 3 [.int .i64 0]),(2,.cells 31 [.int .i64 0])],3⟩) (fun _ h=>h) ?_ (core_inner hc0 3) (Nat.le_of_ble_eq_true rfl) (caps3 (ptr_move p3 (hmm 1 om0)) (ptr_move p4 (hmm 2 om0)) (ptr_move p2 (hmm 0 om0))) (u:=.returning) (u':=.returning) (v:=.nilIface) ?_ ?_).mono ?_
   ·conv=>whnf
    refine cR ((caught_ok 0 0)) [1,2] (cW ?_)
    refine gF (cW ?_)
    exact (wk_of [(0,.id 0),(1,.id 1),(2,.id 2)] rfl ⟨wc0,trivial⟩ ⟨wb0,wb0,wb0,trivial⟩)
   ·exact .t _ _ (by constructor<;>rfl)
   ·intro c₀ cs hu
    simp [recoverD,hu]
   ·rintro e u' w'' ⟨⟨r,rfl⟩,rfl,a'',hE⟩
    have hb:=rel_back (l:=[(2,0),(3,1),(4,2)]) (by decide) hsz' hr' hE
    have hb':Rel (Fr.mk w (fun _=>False) S (fun i=>if i<3 then m' i else none) []) 20 (⟨[(2,.ptr 0 0),(3,.ptr 1 0),(4,.ptr 2 0)],[(0,.cells 56 (celX x)),(1,.cells 3 [.int .i64 0]),(2,.cells 31 [.int .i64 0])],3⟩) { tmps:=a'.tmps,defers:=[] } w'':=hb
    have hq:resK tab Tryz.f23.results.toList (⟨[(2,.ptr 0 0),(3,.ptr 1 0),(4,.ptr 2 0)],[(0,.cells 56 (celX x)),(1,.cells 3 [.int .i64 0]),(2,.cells 31 [.int .i64 0])],3⟩) [] [] (fun rs=>rs=parA (.ok x)):=by
     conv=>whnf
     rfl
    exact zt141
  | _=>exact h2.elim
 | error er =>
  have hs:parseR s=.error er:=by unfold parseR;rw [h];simp only [hi]
  rw [hs]
  obtain ⟨m0,S0,hc0,_,_,_⟩:=hstart
  have hS0:∀ g,S g→g<w.heap.size:=fun g hg=>(hc0.good.ro g (hc0.ro0 g hg)).1
  have hT0:TabAt S w:=fun g Q hg=>by
   obtain ⟨h1,h2⟩:=hc0.good.tab g Q hg
   rcases hc0.ro g h1 with h3 | h3 | h3
   ·exact ⟨h3,h2⟩
   ·exact h3.elim
   ·have h3:w.heap.size≤g:=h3
    have:=(hc0.good.ro g h1).1
    omega
  have ca:=core_aside hc [0,1,2] []
  have hA:Rel (Fr.aside S1 w1 m (deads [0,1,2] (⟨[(2,.ptr 0 0),(3,.ptr 1 0),(4,.ptr 2 0),(5,.ptr 3 0)],[(0,.cells 56 zIX),(1,.cells 3 [.int .i64 0]),(2,.cells 31 [.int .i64 0]),(3,.cells 183 (pcell T T))],4⟩:St).heap) []) 20 ⟨[(5,.ptr 3 0)],deads [0,1,2] (⟨[(2,.ptr 0 0),(3,.ptr 1 0),(4,.ptr 2 0),(5,.ptr 3 0)],[(0,.cells 56 zIX),(1,.cells 3 [.int .i64 0]),(2,.cells 31 [.int .i64 0]),(3,.cells 183 (pcell T T))],4⟩:St).heap,4⟩ a w1:=⟨m,S1,ca,hsz20,hds,fun s=>(by
   by_cases e5:s=5
   ·subst e5;exact hr 5
   ·have:lk [(5,AV.ptr 3 0)] s=.undef:=by
     unfold lk
     rw [show Nat.beq 5 s=false from by
      cases hb:Nat.beq 5 s with
      | false=>rfl
      | true=>exact (e5 (Nat.eq_of_beq_eq_true hb).symm).elim]
     rfl
    show RelV m S1 w1 _ (lk [(5,AV.ptr 3 0)] s)
    rw [this]
    exact .t _ _ (.undef _))⟩
  have hB:=rel_defer (t:=17) (v:=.func (.func 117) #[] (#[Operand.tmp 3,Operand.tmp 4,Operand.tmp 2].map a.eval)) (d:={ target:=.fn (.func 117) (#[Operand.tmp 3,Operand.tmp 4,Operand.tmp 2].map a.eval),args:=#[] }) hA rfl
  refine wp_seq (wp_mono (region_kept (C:=cxX (fun ch=>ch=stopC er) 0 20 [0,2,3,4,5,13]) tabOk (Q:=fun _=>False) ?_ (L:=[2,3,4]) dd0 hB) ?_)
  ·conv=>whnf
   exact CallG.stop rfl (riox_stop ((rx_er (ind_x hp) hi)) [3] rfl rfl rfl ab0) ((fun ch hc=>hc))
  rintro e a' w' ⟨⟨st',hR,hq⟩,hK⟩
  cases e with
  | panic ch =>
   have hq:ch=stopC er:=hq
   subst hq
   obtain ⟨m2,S2,hc2,hsz2,hd2,_⟩:=hR
   have hk2:a'.tmps.getD 2 undef=a.tmps.getD 2 undef:=(hK 2 (by decide)).trans (by show (a.tmps.setIfInBounds 17 _).getD 2 undef=_;rw [getD_set hlt17,if_neg (by decide)])
   have hk3:a'.tmps.getD 3 undef=a.tmps.getD 3 undef:=(hK 3 (by decide)).trans (by show (a.tmps.setIfInBounds 17 _).getD 3 undef=_;rw [getD_set hlt17,if_neg (by decide)])
   have hk4:a'.tmps.getD 4 undef=a.tmps.getD 4 undef:=(hK 4 (by decide)).trans (by show (a.tmps.setIfInBounds 17 _).getD 4 undef=_;rw [getD_set hlt17,if_neg (by decide)])
   have hkeep:=core_keep (F:=Fr.mk w (fun _=>False) S (fun _=>none) []) (fun _ h=>h) hT0 hS0 hc (K:=[0,1,2]) (H3:=(⟨[(0,.ptr 1 0),(1,.ptr 2 0),(2,.ptr 0 0)],[(0,.cells 56 zIX),(1,.cells 3 [.int .i64 0]),(2,.cells 31 [.int .i64 0])],4⟩:St).heap) (fun id=>(by
    match id with
    | 0=>rfl
    | 1=>rfl
    | 2=>rfl
    | n+3 =>
     rw [if_neg (by simp)]
     rfl)) (fun id hid=>(by
    simp only [List.mem_cons,List.not_mem_nil,or_false] at hid
    rcases hid with rfl | rfl | rfl
    ·exact ⟨_,_,rfl,by decide⟩
    ·exact ⟨_,_,rfl,by decide⟩
    ·exact ⟨_,_,rfl,by decide⟩)) hc2.far 3
   show Leaves Tryz.prog Tryz.f23 a'.tmps _ a'.defers (.panicking (stopC er)) w'
   rw [hd2]
   refine leaves_cons (u:=.panicking (stopC er)) (fun h=>by cases h) (f:=117) (args:=#[a.tmps.getD 3 undef,a.tmps.getD 4 undef,a.tmps.getD 2 undef]) ?_ ?_
   ·rw [hcap]
    simp [invoke]
   refine (closure_runs (C:=cxP 3 6 [0,1,2,4]) (cxPOk _ _ _) Tryz.func117 rfl rfl rfl (t:=3) rfl rfl rfl dd0 (F:=Fr.inner (Fr.mk w (fun _=>False) S (fun _=>none) []) m 3) (Fr.inner_fits _ _ _) rfl (env:=(⟨[(0,.ptr 1 0),(1,.ptr 2 0),(2,.ptr 0 0)],[(0,.cells 56 zIX),(1,.cells 3 [.int .i64 0]),(2,.cells 31 [.int .i64 0])],4⟩:St).env) (H:=(⟨[(0,.ptr 1 0),(1,.ptr 2 0),(2,.ptr 0 0)],[(0,.cells 56 zIX),(1,.cells 3 [.int .i64 0]),(2,.cells 31 [.int .i64 0])],4⟩:St).heap) (nx:=4) (rv:=.ival 185 [.int .i64 er.1,.int .i64 er.2]) (stE:=⟨[(2,.ptr 0 0)],[(0,.cells 56 (celX i0)),(1,.cells 3 [.int .i64 er.1]),(2,.cells 31 [.int .i64 er.2])],4⟩) (fun _ h=>h) ?_ hkeep (Nat.le_of_ble_eq_true rfl) (caps3 (ptr_move p3 (fun _ h=>h)) (ptr_move p4 (fun _ h=>h)) (ptr_move p2 (fun _ h=>h))) (u:=.panicking (stopC er)) (u':=.panicking [{ v:=.iface 185 (.agg #[.int .i64 er.1,.int .i64 er.2]),recovered:=true }]) (v:=.iface 185 (.agg #[.int .i64 er.1,.int .i64 er.2])) ?_ ?_).mono ?_
   ·conv=>whnf
    refine cR ((caught_er er.1 er.2 0 0)) [1,2] (cW ?_)
    refine gT (cW ?_)
    exact (wk_of [(0,.id 0),(1,.id 1),(2,.id 2)] rfl ⟨wc0,trivial⟩ ⟨⟨_,rfl,.cells _ _ _ _ rfl zp59 rfl⟩,wb0,wb0,trivial⟩)
   ·refine .t _ _ (.ival 185 _ _ rfl fun j c a hj ha=>?_)
    match j with
    | 0=>cases hj;cases ha;exact .int _ _
    | 1=>cases hj;cases ha;exact .int _ _
    | n+2=>simp at ha
   ·intro c₀ cs hu
    simp [recoverD,hu,stopC]
   ·rintro e u' w'' ⟨⟨r,rfl⟩,rfl,a'',hE⟩
    have hb:=rel_back (m:=m) (S:=S) (w:=w') (a:=a') (l:=[(2,0),(3,1),(4,2)]) (by decide) hsz2 (fun s=>(by
     match s with
     | 0=>exact .t _ _ (.undef _)
     | 1=>exact .t _ _ (.undef _)
     | 2=>rw [hk2];exact ptr_move p2 (fun _ h=>h)
     | 3=>rw [hk3];exact ptr_move p3 (fun _ h=>h)
     | 4=>rw [hk4];exact ptr_move p4 (fun _ h=>h)
     | n+5=>exact .t _ _ (.undef _))) hE
    have hb':Rel (Fr.mk w (fun _=>False) S (fun i=>if i<3 then m i else none) []) 20 (⟨[(2,.ptr 0 0),(3,.ptr 1 0),(4,.ptr 2 0)],[(0,.cells 56 (celX i0)),(1,.cells 3 [.int .i64 er.1]),(2,.cells 31 [.int .i64 er.2])],4⟩) { tmps:=a'.tmps,defers:=[] } w'':=hb
    have hq:resK tab Tryz.f23.results.toList (⟨[(2,.ptr 0 0),(3,.ptr 1 0),(4,.ptr 2 0)],[(0,.cells 56 (celX i0)),(1,.cells 3 [.int .i64 er.1]),(2,.cells 31 [.int .i64 er.2])],4⟩) [] [] (fun rs=>rs=parA (.error er)):=by
     conv=>whnf
     rfl
    exact zt141
  | _=>exact hq.elim
open Go.Proofs Go.Shelf Go.RowKit
theorem Tryz.sizeB:(Tryz.prog.info? 173).map (·.size)=some 2:=by kernel_rfl
theorem Tryz.liesB:liesAt Tryz.prog Tryz.prog.depth 173 (2 / Tryz.prog.cellsOf 173) 0 173 1=true:=by kernel_rfl
theorem Tryz.mixedO:Tryz.prog.follows .mixedOrders=true:=by kernel_rfl
set_option maxHeartbeats 1000000 in
set_option maxRecDepth 100000 in
theorem Tryz.copy_used_calls (b:Nat) (w:World) (h0:w.cell? ⟨b,0,none⟩=some (.pointer (some ⟨b,0,none⟩))) :
  Calls Tryz.prog 188 #[.pointer (some ⟨b,0,none⟩)] w fun e w'=>e=.returned (.tuple #[])∧w'=w:=by
 obtain ⟨j,hj,_⟩:=Option.map_eq_some_iff.1 Tryz.sizeB
 have mixed:=Tryz.mixedO
 go_enter Tryz.func188,Tryz.ntmps188
 go_wp2
 rw [Lib.run_neq_ptr_same w _ Tryz.underlying170 hj]
 go_wp2
 go_end0
 exact ⟨rfl,rfl⟩
set_option maxHeartbeats 1000000 in
set_option maxRecDepth 100000 in
theorem Tryz.copy_fresh_calls (b:Nat) (w:World) (h0:w.cell? ⟨b,0,none⟩=some (.pointer none)) (hsh:w.shape? b=some (173,2)) (hfz:w.frozen? ⟨b,0,none⟩=false) :
  Calls Tryz.prog 188 #[.pointer (some ⟨b,0,none⟩)] w fun e w'=>e=.returned (.tuple #[])∧w'=w.setCell ⟨b,0,none⟩ (.pointer (some ⟨b,0,none⟩)):=by
 obtain ⟨j,hj,hjs⟩:=Option.map_eq_some_iff.1 Tryz.sizeB
 have mixed:=Tryz.mixedO
 go_enter Tryz.func188,Tryz.ntmps188
 go_wp2
 rw [Lib.run_to_unsafe w ⟨b,0,none⟩ Tryz.underlying170 Tryz.underlying237 hj (by rw [hjs];decide) hsh (Nat.zero_lt_succ 1)]
 simp only [Result.andThen]
 rw [Oper.upon_value]
 go_wp2
 rw [run_callFunc_extern Tryz.func228 zp9 zp9 zp9 (e:=Extern.AbiNoEscape.same) zp9]
 rw [Lib.run_noEscape]
 simp only [Result.andThen]
 rw [Oper.upon_value]
 go_wp2
 rw [Lib.run_from_unsafe w ⟨b,0,none⟩ Tryz.underlying237 Tryz.underlying170 hj hsh Tryz.liesB]
 simp only [Result.andThen]
 rw [Oper.upon_value]
 go_wp2
 go_end0
 exact ⟨rfl,rfl⟩
set_option maxHeartbeats 4000000
theorem fnOk188:FnOk Tryz.prog 188:=⟨_,Tryz.func188,rfl,by decide⟩
theorem write_more (b s:List UInt8) (hs:b.length+s.length≤140737488355328) :
  RIO Tryz.prog 150 [.ptr 0 0,.str s] [.cells 173 [.ptr 0 0,.own 1],.lst 5 1 (strAVs b)] 1 (fun vs bs es=>vs=[.int .i64 s.length,.ifc true]∧bs=[.cells 173 [.ptr 0 0,.own 1]]∧es=[.lst 5 1 (strAVs (b++s))]):=by
 refine rO (cxPOk 1 19 [0,1,4,5]) Tryz.func150 ?_
 conv=>whnf
 refine .raw _ _ rfl (fun h=>by cases h) (copy_used (e:=173) (x:=.own 1) Tryz.copy_used_calls fnOk188 rfl) ?_
 rintro r rfl
 refine ⟨Nat.le_refl _,(cW ?_)⟩
 refine ⟨⟨rfl,rfl⟩,by rw [strAVs_len];exact hs,(cW ?_)⟩
 refine ⟨⟨[(4,.int .i64 s.length),(5,.ifc true)],[(0,.cells 173 [.ptr 0 0,.own 1]),(1,.lst 5 1 (strAVs (b++s)))],2⟩,(wk_of [(0,.id 0),(1,.id 2)] rfl ⟨wa0,wa0,trivial⟩ ⟨wb0,⟨_,rfl,.lst _ _ _ _ _ rfl ((strAVs_append b s).symm)⟩,trivial⟩),rfl,rfl,?_⟩
 exact zt9
theorem tab_err (S:Blocks) (w:World) (h:TabAt S w) (g:Nat) (hg:Tabs.held g=some isErr):∃ ev,w.cell? ⟨g,0,none⟩=some ev∧(ev=.nilIface∨∃ te pe,ev=.iface te pe):=by
 obtain ⟨_,cs,e,fz,h1,te,pe,h2⟩:=h g _ hg
 refine ⟨.iface te pe,?_,.inr ⟨te,pe,rfl⟩⟩
 rw [Lib.cell_of_heap h1]
 exact h2
theorem atoi_c (s:List UInt8) (hs:s.length≤281474976710656):APure Tryz.prog 175 [.str s] (fun rs=>rs=(atoiR s).map .val) :=
 atoi_ok Tryz.atoiA ⟨_,Tryz.func175,rfl,by decide⟩ (fun S w h=>⟨tab_err S w h 2 rfl,tab_err S w h 3 rfl⟩) s hs
theorem index_c (s:List UInt8) (c:Int):APureV Tryz.prog 174 [.str s,.int .u8 c] (.int .i64 (Lib.indexByte s c.toNat.toUInt8)) :=
 Go.Own.index_ok Tryz.indexA ⟨_,Tryz.func174,rfl,by decide⟩ s c
theorem cut_c (s p:List UInt8):APure Tryz.prog 177 [.str s,.str p] (fun rs=>rs=[.val (.str (Lib.trimPrefix s p)),.val (.bool (Lib.hasPrefix s p))]) :=
 cut_ok Tryz.cutA ⟨_,Tryz.func177,rfl,by decide⟩ s p
theorem zt79 {p:Prop}(h:p:=by
 conv=>whnf
 exact ⟨rfl,rfl⟩):p:=h
theorem zt184 {p:Prop}(h:p:=by
 conv=>whnf
 refine ⟨rfl,rfl,rfl,?_⟩
 exact zt79):p:=h
theorem cw_first (s:List UInt8) (hs:s.length≤140737488355328):CallSem Tryz.prog 150 [.ptr 0 0,.str s] [(0,.cells 173 [.nilp,.nils])] 1 [0]
  (fun r=>r=⟨.tup [.int .i64 s.length,.ifc true],[0],[(0,.cells 173 [.ptr 0 0,.own 1]),(1,.lst 5 1 (strAVs s))],2⟩):=by
 refine inl_sem (C:=cxP 1 19 [0,1,4,5]) (cxPOk _ _ _) [0] [1] Tryz.func150 rfl dd0 rfl zp14 dd0 rfl rfl (cW ?_)
 refine .raw _ _ rfl (fun h=>by cases h) (copy_fresh (e:=173) (x:=.nils) Tryz.copy_fresh_calls fnOk188 rfl) ?_
 rintro r rfl
 refine ⟨Nat.le_refl _,(cW ?_)⟩
 refine ⟨hs,?_⟩
 exact zt184
theorem cw_more (b s:List UInt8) (hs:b.length+s.length≤140737488355328):CallSem Tryz.prog 150 [.ptr 0 0,.str s] [(0,.cells 173 [.ptr 0 0,.own 1]),(1,.lst 5 1 (strAVs b))] 2 [0,1]
  (fun r=>r=⟨.tup [.int .i64 s.length,.ifc true],[0,1],[(0,.cells 173 [.ptr 0 0,.own 2]),(1,.dead),(2,.lst 5 1 (strAVs b++strAVs s))],3⟩):=by
 refine inl_sem (C:=cxP 2 19 [0,1,4,5]) (cxPOk _ _ _) [0,1] [2] Tryz.func150 rfl dd0 rfl zp14 dd0 rfl rfl (cW ?_)
 refine .raw _ _ rfl (fun h=>by cases h) (copy_used (e:=173) (x:=.own 1) Tryz.copy_used_calls fnOk188 rfl) ?_
 rintro r rfl
 refine ⟨Nat.le_refl _,(cW ?_)⟩
 refine ⟨⟨rfl,rfl⟩,by rw [strAVs_len];exact hs,?_⟩
 exact zt184
theorem cs_of (b:List UInt8) (hb:b≠[]):CallSem Tryz.prog 151 [.ptr 0 0] [(0,.cells 173 [.ptr 0 0,.own 1]),(1,.lst 5 1 (strAVs b))] 2 [0,1]
  (fun r=>r=⟨.str b,[0,1],[(0,.cells 173 [.ptr 0 0,.own 1]),(1,.dead)],2⟩):=by
 have hb1:0<(strAVs b).length:=by rw [strAVs_len];exact List.length_pos_iff.2 hb
 refine inl_sem (C:=cxP 2 14 [0,2]) (cxPOk _ _ _) [0,1] [] Tryz.func151 rfl dd0 rfl zp14 dd0 rfl rfl (cW ?_)
 refine .eff ad0 (cW ?_)
 refine ⟨hb1,(cW ?_)⟩
 refine ⟨⟨rfl,rfl⟩,hb1,rfl,b,rfl,(cW ?_)⟩
 refine ⟨by kernel_rfl,?_⟩
 exact zt184
set_option maxHeartbeats 1000000
theorem callSem_congr [Tabs] {P:Program} {f:FuncId} {avs:List AV} {H H':Heap} {nx:Nat} {t:List Nat} {Rr:Res→Prop} (h:CallSem P f avs H nx t Rr) (he:∀ id∈t,lkH H id=lkH H' id):CallSem P f avs H' nx t Rr :=
 ⟨h.1,fun m S w H₂ vs hG ht=>h.2 m S w H₂ vs hG fun id hid=>by rw [ht id hid,he id hid]⟩
def intS (n:Int):List UInt8:=Lib.itoa n++[59]
def numS (n:Int):List UInt8:=if n<0 then [] else intS n
def textS (s:List UInt8):List UInt8:=Lib.itoa s.length++[58]++s++[44]
def headS (n:Nat):List UInt8:=Lib.itoa n++[91]
def listS {T:Type} (f:T→List UInt8) (l:List T):List UInt8:=headS l.length++l.flatMap f++[93]
def partS {T:Type} (f:T→List UInt8) (l:List T) (k:Nat):List UInt8:=headS l.length++(l.take k).flatMap f
theorem zt155 {p:Prop}(h:p:=by
 rw [List.take_add_one,List.getElem?_eq_getElem h,List.getD_eq_getElem?_getD,List.getElem?_eq_getElem h]
 rfl):p:=h
theorem partS_succ {T:Type} {f:T→List UInt8} {l:List T} {k:Nat} {d:T} (h:k<l.length):partS f l (k+1)=partS f l k++f (l.getD k d):=by
 unfold partS
 have:l.take (k+1)=l.take k++[l.getD k d]:=by
  exact zt155
 rw [this,List.flatMap_append,List.append_assoc]
 simp
theorem partS_len {T:Type} {f:T→List UInt8} {l:List T} (k:Nat):(partS f l k).length≤(listS f l).length:=by
 have h:l.flatMap f=(l.take k).flatMap f++(l.drop k).flatMap f:=by rw [← List.flatMap_append,List.take_append_drop]
 unfold partS listS
 rw [h]
 simp only [List.length_append]
 omega
theorem partS_ne {T:Type} (f:T→List UInt8) (l:List T) (k:Nat):partS f l k≠[]:=by
 unfold partS headS
 simp
theorem int_ok (n:Int) (hn:in64 n):APureV Tryz.prog 82 [.int .i64 n] (.str (intS n)):=by
 have hi:=itoa_c n hn.1 hn.2
 have hl:=Lib.itoa_length_le n hn.1 hn.2
 refine aO (cxOk 6 [0,2]) Tryz.func82 ?_
 conv=>whnf
 refine cO (fun _=>hi) (cW ?_)
 refine And.intro (show (((Lib.itoa n).length+1:Nat):Int)≤9223372036854775807 by omega) (cW ?_)
 rfl
theorem num_ok (n:Int) (hn:in64 n):APureV Tryz.prog 93 [.int .i64 n] (.str (numS n)):=by
 have hi:=int_ok n hn
 refine aO (cxOk 7 [0,2,4]) Tryz.func93 ?_
 conv=>whnf
 refine ⟨fun hc=>?_,fun hc=>?_⟩
 ·conv=>whnf
  unfold numS
  rw [if_pos (of_decide_eq_true hc)]
  rfl
 ·conv=>whnf
  refine cO (fun _=>hi) (cW ?_)
  unfold numS
  rw [if_neg (of_decide_eq_false hc)]
  rfl
theorem text_ok (s:List UInt8) (hs:s.length≤9223372036854775000):APureV Tryz.prog 80 [.str s] (.str (textS s)):=by
 have hi:=itoa_c s.length (by omega) (by omega)
 have hl:=Lib.itoa_length_le s.length (by omega) (by omega)
 refine aO (cxOk 10 [0,2]) Tryz.func80 ?_
 conv=>whnf
 refine cO (fun _=>hi) (cW ?_)
 refine And.intro (show (((Lib.itoa s.length).length+1:Nat):Int)≤9223372036854775807 by omega) (cW ?_)
 have e1:(Lib.itoa s.length++[58]).length=(Lib.itoa s.length).length+1:=by rw [List.length_append];rfl
 refine And.intro (show (((Lib.itoa s.length++[58]).length+s.length:Nat):Int)≤9223372036854775807 by omega) (cW ?_)
 have e2:((Lib.itoa s.length++[58])++s).length=(Lib.itoa s.length).length+1+s.length:=by rw [List.length_append,e1]
 refine And.intro zp21 (cW ?_)
 rfl
theorem zt90 {p:Prop}(h:p:=by
 refine iO (cW ?_)
 refine up hkl trivial ((wk_of [(0,.id 0),(1,.id 2)] rfl ⟨wa0,.fn _ _ _ _ _ ac0 ac0,wc0,wa0,wa0,wa0,trivial⟩ ⟨wb0,⟨_,rfl,.lst _ _ _ _ _ rfl (hpe)⟩,trivial⟩))):p:=h
theorem zt70 {p:Prop}(h:p:=by
 have:=of_decide_eq_false hd
 omega):p:=h
theorem zt65 {p:Prop}(h:p:=by
 rw [hps,List.length_append] at hpl1
 omega):p:=h
theorem zt96 {p:Prop}(h:p:=by
 have:=of_decide_eq_true hd
 omega):p:=h
theorem listI_ok (l:List Int) (hl:∀ n∈l,in64 n) (hn:l.length≤9223372036854775807) (hT:(listS intS l).length≤140737488355328):APureV Tryz.prog 153 [.sl 1 encI 0 l,.fn (.func 82) [] []] (.str (listS intS l)):=by
 have hi:=itoa_c l.length (by omega) (by omega)
 have hil:=Lib.itoa_length_le l.length (by omega) (by omega)
 refine aO (cxOk 26 [0,1,4,5,7,13,14,15,16]) Tryz.func153 ?_
 conv=>whnf
 refine cO (fun _=>hi) (cW ?_)
 refine And.intro (show (((Lib.itoa l.length).length+1:Nat):Int)≤9223372036854775807 by omega) (cW ?_)
 refine .raw _ _ rfl (fun h=>by cases h) (cw_first (headS l.length) (by unfold headS;simp;omega)) ?_
 rintro r rfl
 refine ⟨Nat.le_of_ble_eq_true rfl,(cW ?_)⟩
 have hp0:strAVs (headS l.length)=strAVs (partS intS l 0):=by unfold partS;simp
 refine loop_up (cxOk _ _) l.length (fun _=>True) (fun k=>⟨[(0,.sl 1 encI 0 l),(1,.fn (.func 82) [] []),(5,.ptr 0 0),(13,.sl 1 encI 0 l),(14,.int .i64 l.length),(15,.int .i64 (k:Nat))],[(0,.cells 173 [.ptr 0 0,.own 1]),(1,.lst 5 1 (strAVs (partS intS l k)))],2⟩) trivial ((wk_of [(0,.id 0),(1,.id 1)] rfl ⟨wa0,.fn _ _ _ _ _ ac0 ac0,wc0,wa0,wa0,wa0,trivial⟩ ⟨wb0,⟨_,rfl,.lst _ _ _ _ _ rfl (hp0)⟩,trivial⟩)) ?_
 intro k hk _
 have hps:=fun h:k<l.length=>partS_succ (f:=intS) (d:=0) h
 have hpl:=partS_len (f:=intS) (l:=l) k
 have hpl1:=partS_len (f:=intS) (l:=l) (k+1)
 conv=>whnf
 refine ⟨fun hd=>?_,fun hd=>?_⟩
 ·have hkl:k<l.length:=by
   exact zt96
  have hps:=hps hkl
  have hek:(k:Int).toNat=k:=Int.toNat_natCast k
  have hx:=int_ok (l.getD k 0) (hl _ (by rw [List.getD_eq_getElem?_getD,List.getElem?_eq_getElem hkl];exact List.getElem_mem hkl))
  conv=>whnf
  refine iO (cW ?_)
  refine And.intro rfl (cW ?_)
  rw [hek]
  refine cO (fun _=>hx) (cW ?_)
  have hlen:(partS intS l k).length+(intS (l.getD k 0)).length≤140737488355328:=by
   exact zt65
  refine .raw _ _ rfl (fun h=>by cases h) (callSem_congr (cw_more (partS intS l k) (intS (l.getD k 0)) hlen) (fun id hid=>by
   simp only [List.mem_cons,List.not_mem_nil,or_false] at hid
   rcases hid with rfl | rfl<;>rfl)) ?_
  rintro r rfl
  refine ⟨Nat.le_of_ble_eq_true rfl,(cW ?_)⟩
  have hpe:strAVs (partS intS l k)++strAVs (intS (l.getD k 0))=strAVs (partS intS l (k+1)):=by rw [hps,strAVs_append]
  exact zt90
 ·have hke:k=l.length:=by
   exact zt70
  conv=>whnf
  refine .raw _ _ rfl (fun h=>by cases h) (cs_of (partS intS l k) (partS_ne intS l k)) ?_
  rintro r rfl
  refine ⟨Nat.le_of_ble_eq_true rfl,(cW ?_)⟩
  refine And.intro (show (((partS intS l k).length+1:Nat):Int)≤9223372036854775807 by omega) (cW ?_)
  have hfe:partS intS l k++[93]=listS intS l:=by
   unfold partS listS
   rw [hke,List.take_length]
  rw [← hfe]
  rfl
theorem nums_ok (l:List Int) (hl:∀ n∈l,in64 n) (hn:l.length≤9223372036854775807) (hT:(listS intS l).length≤140737488355328):APureV Tryz.prog 81 [.sl 1 encI 0 l] (.str (listS intS l)):=by
 have hi:=listI_ok l hl hn hT
 refine aO (cxOk 5 [0,2]) Tryz.func81 ?_
 conv=>whnf
 refine cO (fun _=>hi) (cW ?_)
 rfl
theorem fail_ok (s:List UInt8) (b:Bool):AIO Tryz.prog 125 [.ptr 0 0] [.cells 155 [.str s,.bool b]] (fun bs rs=>bs=[.cells 155 [.str [],.bool true]]∧rs=[]):=by
 refine aio_of (C:=cxP 1 8 [0]) (cxPOk _ _ _) Tryz.func125 rfl dd0 rfl zp14 dd0 rfl rfl ?_
 exact zt79
theorem left_ok (s:List UInt8) (b:Bool):AIO Tryz.prog 121 [.ptr 0 0] [.cells 155 [.str s,.bool b]] (fun bs rs=>bs=[.cells 155 [.str s,.bool b]]∧rs=[.val (.int .i64 s.length)]):=by
 refine aio_of (C:=cxP 1 8 [0,2]) (cxPOk _ _ _) Tryz.func121 rfl dd0 rfl zp14 dd0 rfl rfl ?_
 exact zt79
def numRd (c:Int) (least:Int) (s:List UInt8):Option (Int×List UInt8) :=
 let at_:=Lib.indexByte (s.take (min s.length 21)) c.toNat.toUInt8
 if at_<0 then none
 else match Lib.atoiAll ((s.take (min s.length 21)).take at_.toNat) with
  | .ok n=>if Lib.itoa n=(s.take (min s.length 21)).take at_.toNat∧least≤n then some (n,s.drop (at_.toNat+1)) else none
  | _=>none
def closeR (e s:List UInt8):Option (List UInt8):=if Lib.hasPrefix s e=true then some (Lib.trimPrefix s e) else none
def rd (o:Option (List UInt8)) (b:Bool):AB :=
 match o with
 | some r=>.cells 155 [.str r,.bool b]
 | none=>.cells 155 [.str [],.bool true]
theorem zp2 {p:Prop} (h:p:=by first | exact .inl rfl | exact .inr (fun b rs h=>by first | obtain ⟨rfl,rfl⟩:=h | obtain ⟨_,_,_,rfl,rfl⟩:=h;exact ⟨by repeat (first | exact flats_nil | refine flats_cons zp6 ?_),by repeat (first | exact flats0 | refine flats1 (by first | exact flatB_row (fun _=>rfl) | exact flatB_lst (fun _=>rfl) | exact flatB_smap (fun _=>rfl) | exact flatB_imap (fun _=>rfl) | exact flatB_cells rfl) ?_)⟩)):p:=h
theorem zp3 {p:Prop} (h:p:=by repeat (first | exact .nil | (apply BorL.cons;first | exact .map _ _ rfl | exact .ptr _ _ _ rfl | exact .own _ _ rfl | exact .fnp _ _ _ _ rfl | (apply BorIO.lend;first | exact lS rfl | exact lR rfl | exact lM rfl rfl | exact lL rfl | exact lX rfl | exact lN | exact lNl | exact lSm rfl | exact lIm rfl | exact lGm rfl | exact lP rfl | exact lQ rfl | exact lB rfl rfl rfl)))):p:=h
theorem close_ok (e s:List UInt8) (b:Bool):AIO Tryz.prog 126 [.ptr 0 0,.str e] [.cells 155 [.str s,.bool b]] (fun bs rs=>bs=[rd (closeR e s) b]∧rs=[]):=by
 have hc:=cut_c s e
 refine aio_of (C:=cxP 1 23 [0,1,4,5,20]) (cxPOk _ _ _) Tryz.func126 rfl dd0 rfl zp14 dd0 rfl rfl (cW ?_)
 refine cO (fun _=>hc) (cW ?_)
 refine ⟨fun hd=>?_,fun hd=>?_⟩
 ·have hR:closeR e s=none:=by unfold closeR;rw [if_neg (by simpa using hd)]
  rw [hR]
  conv=>whnf
  refine .raw _ _ rfl (fun h=>by cases h) (callio_sem (fail_ok (Lib.trimPrefix s e) b) [0] _ rfl rfl ⟨rfl,trivial⟩ zp3 rfl zp2) ?_
  rintro r ⟨b',rs,⟨rfl,rfl⟩,rfl⟩
  refine ⟨tn_ge _ _,?_⟩
  exact zt79
 ·have hR:closeR e s=some (Lib.trimPrefix s e):=by unfold closeR;rw [if_pos (by simpa using hd)]
  rw [hR]
  exact zt79
theorem zt1 {p:Prop}(h:p:=by
 conv=>whnf
 refine .raw _ _ rfl (fun h=>by cases h) (callio_sem (fail_ok s b) [0] _ rfl rfl ⟨rfl,trivial⟩ zp3 rfl zp2) ?_
 rintro r ⟨b',rs,⟨rfl,rfl⟩,rfl⟩
 refine ⟨tn_ge _ _,(cW ?_)⟩
 exact ⟨rfl,rfl⟩):p:=h
theorem zt48 {p:Prop}(h:p:=by
 refine cO (fun _=>hat) (cW ?_)
 refine .quiet zp9 (cW ?_)
 refine .mk _ _ _ _ (fun _=>hit) al0 rfl (cW ?_)
 refine And.intro (fun _=>⟨by omega,by omega⟩) (cW ?_)
 refine ⟨fun hx=>?_,fun hx=>?_⟩
 ·exact zt1
 ·simp at hx):p:=h
theorem number_ok (c least:Int) (s:List UInt8) (b:Bool) (hs:s.length≤9223372036854775000):AIO Tryz.prog 120 [.ptr 0 0,.int .u8 c,.int .i64 least] [.cells 155 [.str s,.bool b]] (fun bs rs=>bs=[rd ((numRd c least s).map (·.2)) b]∧rs=[.val (.int .i64 (((numRd c least s).map (·.1)).getD 0))]):=by
 have hm:(min (s.length:Int) 21).toNat=min s.length 21:=by omega
 have hi:=index_c (s.take (min (s.length:Int) 21).toNat) c
 have hR:numRd c least s=if Lib.indexByte (s.take (min s.length 21)) c.toNat.toUInt8<0 then none
   else match Lib.atoiAll ((s.take (min s.length 21)).take (Lib.indexByte (s.take (min s.length 21)) c.toNat.toUInt8).toNat) with
    | .ok n=>if Lib.itoa n=(s.take (min s.length 21)).take (Lib.indexByte (s.take (min s.length 21)) c.toNat.toUInt8).toNat∧least≤n then some (n,s.drop ((Lib.indexByte (s.take (min s.length 21)) c.toNat.toUInt8).toNat+1)) else none
    | _=>none:=rfl
 rw [hm] at hi
 have hml:(s.take (min s.length 21)).length=min s.length 21:=by rw [List.length_take];omega
 generalize hh:s.take (min s.length 21)=h at *
 generalize ha:Lib.indexByte h c.toNat.toUInt8=p at *
 have hcut:s.take (min (s.length:Int) 21).toNat=h:=by rw [hm,hh]
 refine aio_of (C:=cxP 1 64 [0,1,2,6,7,8,9,10,26,50]) (cxPOk _ _ _) Tryz.func120 rfl dd0 rfl zp14 dd0 rfl rfl (cW ?_)
 refine .quiet zp9 (cW ?_)
 refine iO (cW ?_)
 simp only [Option.map_none,Option.map_some,cut]
 rw [hcut]
 refine cO (fun _=>hi) (cW ?_)
 refine ⟨fun hd=>?_,fun hd=>?_⟩
 ·rw [if_pos (of_decide_eq_true hd)] at hR
  rw [hR]
  exact zt1
 ·have hp0:¬ p<0:=of_decide_eq_false hd
  rw [if_neg hp0] at hR
  obtain ⟨o,rfl⟩:∃ o:Nat,p=(o:Int):=⟨p.toNat,by omega⟩
  have hol:o<h.length:=(List.getElem?_eq_some_iff.1 (Lib.indexByte_some ha).1).1
  rw [Int.toNat_natCast] at hR
  have hat:=atoi_c (h.take o) (by rw [List.length_take];omega)
  have het:(o:Int).toNat=o:=Int.toNat_natCast o
  generalize ht:h.take o=t at *
  have hcut2:h.take (o:Int).toNat=t:=by rw [het,ht]
  conv=>whnf
  refine And.intro ⟨by omega,by omega,by omega⟩ (cW ?_)
  simp only [Option.map_none,Option.map_some,cut]
  rw [hcut2]
  unfold atoiR at hat
  rcases hr:Lib.atoiAll t with n | _ | _
  ·rw [hr] at hat hR
   obtain ⟨n0,n1⟩:=Lib.atoiAll_bounds hr
   have hit:=itoa_c n n0 n1
   refine cO (fun _=>hat) (cW ?_)
   refine .quiet zp9 (cW ?_)
   refine .mk _ _ _ _ (fun _=>hit) al0 rfl (cW ?_)
   refine And.intro (fun _=>⟨by omega,by omega⟩) (cW ?_)
   simp only [Option.map_none,Option.map_some,cut]
   replace hR:numRd c least s=if Lib.itoa n=t∧least≤n then some (n,s.drop (o+1)) else none:=hR
   by_cases hok:Lib.itoa n=t∧least≤n
   ·rw [if_pos hok] at hR
    rw [hR]
    refine ⟨fun hx=>?_,fun hx=>?_⟩
    ·simp [hok.1,ht] at hx
     omega
    ·conv=>whnf
     refine And.intro om0 (cW ?_)
     refine And.intro ⟨by omega,by omega,by omega⟩ (cW ?_)
     have he1:((o:Int)+1).toNat=o+1:=by omega
     refine ⟨?_,rfl⟩
     show [AB.cells 155 [.str (s.drop ((o:Int)+1).toNat),.bool b]]=_
     rw [he1]
     rfl
   ·rw [if_neg hok] at hR
    rw [hR]
    refine ⟨fun hx=>?_,fun hx=>?_⟩
    ·exact zt1
    ·simp [ht] at hx
     exact (hok ⟨hx.1,by omega⟩).elim
  ·rw [hr] at hat hR
   rw [hR]
   have hit:=itoa_c 0 (by omega) (by omega)
   exact zt48
  ·rw [hr] at hat hR
   rw [hR]
   have hit:=itoa_c (Lib.atoiSat t) (Lib.atoiSat_bounds t).1 (Lib.atoiSat_bounds t).2
   exact zt48
abbrev rdr (s:List UInt8) (b:Bool):AB:=.cells 155 [.str s,.bool b]
theorem number_some {c least:Int} {s r:List UInt8} {n:Int} {b:Bool} (hs:s.length≤9223372036854775000) (h:numRd c least s=some (n,r)):AIO Tryz.prog 120 [.ptr 0 0,.int .u8 c,.int .i64 least] [rdr s b] (fun bs rs=>bs=[rdr r b]∧rs=[.val (.int .i64 n)]):=by
 have:=number_ok c least s b hs
 rw [h] at this
 exact this
theorem number_none {c least:Int} {s:List UInt8} {b:Bool} (hs:s.length≤9223372036854775000) (h:numRd c least s=none):AIO Tryz.prog 120 [.ptr 0 0,.int .u8 c,.int .i64 least] [rdr s b] (fun bs rs=>bs=[rdr [] true]∧rs=[.val (.int .i64 0)]):=by
 have:=number_ok c least s b hs
 rw [h] at this
 exact this
theorem close_some {e s r:List UInt8} {b:Bool} (h:closeR e s=some r):AIO Tryz.prog 126 [.ptr 0 0,.str e] [rdr s b] (fun bs rs=>bs=[rdr r b]∧rs=[]):=by
 have:=close_ok e s b
 rw [h] at this
 exact this
theorem close_none {e s:List UInt8} {b:Bool} (h:closeR e s=none):AIO Tryz.prog 126 [.ptr 0 0,.str e] [rdr s b] (fun bs rs=>bs=[rdr [] true]∧rs=[]):=by
 have:=close_ok e s b
 rw [h] at this
 exact this
structure RS where
 rest:List UInt8
 bad:Bool
def numQ (c least:Int) (q:RS):Int×RS :=
 match numRd c least q.rest with
 | some (n,r)=>(n,⟨r,q.bad⟩)
 | none=>(0,⟨[],true⟩)
abbrev ro (q:RS):AB:=.cells 155 [.str q.rest,.bool q.bad]
theorem zt2 {p:Prop}(h:p:=by
 conv=>whnf
 refine .raw _ _ rfl (fun h=>by cases h) (callio_sem (hn) [0] _ rfl rfl ⟨rfl,trivial⟩ zp3 rfl zp2) ?_
 rintro r ⟨b',rs,⟨rfl,rfl⟩,rfl⟩
 refine ⟨tn_ge _ _,(cW ?_)⟩
 exact ⟨rfl,rfl⟩):p:=h
theorem zt124 {p:Prop}(h:p:=by
 refine aio_of (C:=cxP 1 5 [0,2]) (cxPOk _ _ _) Tryz.func27 rfl dd0 rfl zp14 dd0 rfl rfl ?_
 exact zt2):p:=h
theorem rnum_ok (q:RS) (hs:q.rest.length≤9223372036854775000):AIO Tryz.prog 27 [.ptr 0 0] [ro q] (fun bs rs=>bs=[ro (numQ 59 0 q).2]∧rs=[.val (.int .i64 (numQ 59 0 q).1)]):=by
 unfold numQ
 cases h:numRd 59 0 q.rest with
 | some x =>
  have hn:=number_some (b:=q.bad) (r:=x.2) (n:=x.1) hs h
  exact zt124
 | none =>
  have hn:=number_none (b:=q.bad) hs h
  exact zt124
theorem zt125 {p:Prop}(h:p:=by
 refine aio_of (C:=cxP 1 5 [0,2]) (cxPOk _ _ _) Tryz.func29 rfl dd0 rfl zp14 dd0 rfl rfl ?_
 exact zt2):p:=h
theorem rint_ok (q:RS) (hs:q.rest.length≤9223372036854775000):AIO Tryz.prog 29 [.ptr 0 0] [ro q] (fun bs rs=>bs=[ro (numQ 59 (-9223372036854775808) q).2]∧rs=[.val (.int .i64 (numQ 59 (-9223372036854775808) q).1)]):=by
 unfold numQ
 cases h:numRd 59 (-9223372036854775808) q.rest with
 | some x =>
  have hn:=number_some (b:=q.bad) (r:=x.2) (n:=x.1) hs h
  exact zt125
 | none =>
  have hn:=number_none (b:=q.bad) hs h
  exact zt125
theorem numR_some {c least:Int} {s r:List UInt8} {n:Int} (h:numRd c least s=some (n,r)):least≤n∧r.length≤s.length:=by
 unfold numRd at h
 simp only at h
 split at h
 ·cases h
 ·split at h
  ·split at h
   ·rename_i hk
    cases h
    exact ⟨hk.2,by rw [List.length_drop];omega⟩
   ·cases h
  ·cases h
def textQ (q:RS):List UInt8×RS :=
 let x:=numQ 58 0 q
 if (x.2.rest.length:Int)<x.1 then ([],⟨[],true⟩)
 else match closeR [44] (x.2.rest.drop x.1.toNat) with
  | some r=>(if x.2.bad=true then [] else x.2.rest.take x.1.toNat,⟨r,x.2.bad⟩)
  | none=>([],⟨[],true⟩)
theorem num48 (c least:Int) (q:RS) (hs:q.rest.length≤9223372036854775000):AIO Tryz.prog 120 [.ptr 0 0,.int .u8 c,.int .i64 least] [ro q] (fun bs rs=>bs=[ro (numQ c least q).2]∧rs=[.val (.int .i64 (numQ c least q).1)]):=by
 unfold numQ
 cases h:numRd c least q.rest with
 | some x=>exact number_some (b:=q.bad) (r:=x.2) (n:=x.1) hs h
 | none=>exact number_none (b:=q.bad) hs h
theorem numQ_le (c least:Int) (q:RS) (hl:least≤0):least≤(numQ c least q).1∧(numQ c least q).2.rest.length≤q.rest.length:=by
 unfold numQ
 cases h:numRd c least q.rest with
 | some x=>exact numR_some (r:=x.2) (n:=x.1) h
 | none=>exact ⟨hl,Nat.zero_le _⟩
theorem zt50 {p:Prop}(h:p:=by
 rintro w ⟨b',rs,⟨rfl,rfl⟩,rfl⟩
 refine ⟨tn_ge _ _,(cW ?_)⟩
 refine ⟨fun hb=>?_,fun hb=>?_⟩
 ·conv=>whnf
  refine ⟨rfl,?_⟩
  rw [if_pos hb]
  rfl
 ·conv=>whnf
  refine ⟨rfl,?_⟩
  rw [if_neg (by rw [hb];simp)]
  rfl):p:=h
theorem zt107 {p:Prop}(h:p:=by
 rintro w ⟨b',rs,⟨rfl,rfl⟩,rfl⟩
 refine ⟨tn_ge _ _,(cW ?_)⟩
 refine ⟨fun hb=>?_,fun hb=>?_⟩
 ·exact zt79
 ·cases hb):p:=h
theorem rtext_ok (q:RS) (hs:q.rest.length≤9223372036854775000):AIO Tryz.prog 35 [.ptr 0 0] [ro q] (fun bs rs=>bs=[ro (textQ q).2]∧rs=[.val (.str (textQ q).1)]):=by
 have hn:=num48 58 0 q hs
 obtain ⟨h0,h1⟩:=numQ_le 58 0 q (Int.le_refl _)
 unfold textQ
 simp only
 generalize numQ 58 0 q=x at *
 obtain ⟨n,r,b⟩:=x
 replace hn:AIO Tryz.prog 120 [.ptr 0 0,.int .u8 58,.int .i64 0] [ro q] (fun bs rs=>bs=[.cells 155 [.str r,.bool b]]∧rs=[.val (.int .i64 n)]):=hn
 simp only at h0 h1 ⊢
 have hen:(n.toNat:Int)=n:=Int.toNat_of_nonneg h0
 by_cases hc:(r.length:Int)<n
 ·rw [if_pos hc]
  refine aio_of (C:=cxP 1 38 [0,2,3,4,13,36]) (cxPOk _ _ _) Tryz.func35 rfl dd0 rfl zp14 dd0 rfl rfl (cW ?_)
  refine .raw _ _ rfl (fun h=>by cases h) (callio_sem (hn) [0] _ rfl rfl ⟨rfl,trivial⟩ zp3 rfl zp2) ?_
  rintro w ⟨b',rs,⟨rfl,rfl⟩,rfl⟩
  refine ⟨tn_ge _ _,(cW ?_)⟩
  refine ⟨fun hx=>?_,fun hx=>?_⟩
  ·conv=>whnf
   refine .raw _ _ rfl (fun h=>by cases h) (callio_sem (fail_ok r b) [0] _ rfl rfl ⟨rfl,trivial⟩ zp3 rfl zp2) ?_
   rintro w ⟨b',rs,⟨rfl,rfl⟩,rfl⟩
   refine ⟨tn_ge _ _,?_⟩
   exact zt79
  ·have:=of_decide_eq_false hx
   exact (this hc).elim
 ·rw [if_neg hc]
  cases hcl:closeR [44] (r.drop n.toNat) with
  | some r' =>
   have hk:=close_some (b:=b) hcl
   refine aio_of (C:=cxP 1 38 [0,2,3,4,13,36]) (cxPOk _ _ _) Tryz.func35 rfl dd0 rfl zp14 dd0 rfl rfl (cW ?_)
   refine .raw _ _ rfl (fun h=>by cases h) (callio_sem (hn) [0] _ rfl rfl ⟨rfl,trivial⟩ zp3 rfl zp2) ?_
   rintro w ⟨b',rs,⟨rfl,rfl⟩,rfl⟩
   refine ⟨tn_ge _ _,(cW ?_)⟩
   refine ⟨fun hx=>?_,fun hx=>?_⟩
   ·exact (hc (of_decide_eq_true hx)).elim
   ·conv=>whnf
    refine And.intro ⟨by omega,by omega,by omega⟩ (cW ?_)
    refine And.intro ⟨by omega,by omega,by omega⟩ (cW ?_)
    refine .raw _ _ rfl (fun h=>by cases h) (callio_sem (hk) [0] _ rfl rfl ⟨rfl,trivial⟩ zp3 rfl zp2) ?_
    exact zt50
  | none =>
   have hk:=close_none (b:=b) hcl
   refine aio_of (C:=cxP 1 38 [0,2,3,4,13,36]) (cxPOk _ _ _) Tryz.func35 rfl dd0 rfl zp14 dd0 rfl rfl (cW ?_)
   refine .raw _ _ rfl (fun h=>by cases h) (callio_sem (hn) [0] _ rfl rfl ⟨rfl,trivial⟩ zp3 rfl zp2) ?_
   rintro w ⟨b',rs,⟨rfl,rfl⟩,rfl⟩
   refine ⟨tn_ge _ _,(cW ?_)⟩
   refine ⟨fun hx=>?_,fun hx=>?_⟩
   ·exact (hc (of_decide_eq_true hx)).elim
   ·conv=>whnf
    refine And.intro ⟨by omega,by omega,by omega⟩ (cW ?_)
    refine And.intro ⟨by omega,by omega,by omega⟩ (cW ?_)
    refine .raw _ _ rfl (fun h=>by cases h) (callio_sem (hk) [0] _ rfl rfl ⟨rfl,trivial⟩ zp3 rfl zp2) ?_
    exact zt107
theorem rleft_ok (q:RS):AIO Tryz.prog 121 [.ptr 0 0] [ro q] (fun bs rs=>bs=[ro q]∧rs=[.val (.int .i64 q.rest.length)]):=left_ok q.rest q.bad
theorem rdone_ok (q:RS):AIO Tryz.prog 41 [.ptr 0 0] [ro q] (fun bs rs=>bs=[ro q]∧rs=[.val (.bool (!q.bad&&decide (q.rest=[])))]):=by
 refine aio_of (C:=cxP 1 15 [0,2]) (cxPOk _ _ _) Tryz.func41 rfl dd0 rfl zp14 dd0 rfl rfl ?_
 exact zt79
def stK {T:Type} (one:RS→T×RS) (q:RS):Nat→RS×List T
 | 0=>(q,[])
 | k+1=>if (stK one q k).1.bad=true then stK one q k else ((one (stK one q k).1).2,(stK one q k).2++[(one (stK one q k).1).1])
theorem stK_stay {T:Type} {one:RS→T×RS} {q:RS} {k:Nat} (h:(stK one q k).1.bad=true):∀ s,stK one q (k+s)=stK one q k
 | 0=>rfl
 | s+1=>by
  have ih:=stK_stay h s
  show (if (stK one q (k+s)).1.bad=true then stK one q (k+s) else _)=_
  rw [ih,if_pos h]
theorem stK_len {T:Type} {one:RS→T×RS} (hone:∀ q,q.bad=false→(one q).2.bad=false→(one q).2.rest.length<q.rest.length) (hbad:∀ q,(one q).2.bad=true→q.bad=true∨(one q).2.rest.length≤q.rest.length) {q:RS} (hq:q.bad=false) :
  ∀ k,(stK one q k).2.length≤q.rest.length+1∧((stK one q k).1.bad=false→(stK one q k).2.length+(stK one q k).1.rest.length≤q.rest.length)
 | 0=>by simp [stK]
 | k+1=>by
  obtain ⟨h1,h2⟩:=stK_len hone hbad hq k
  unfold stK
  split
  ·exact ⟨h1,h2⟩
  ·rename_i hb
   have hb':(stK one q k).1.bad=false:=by simpa using hb
   have h2:=h2 hb'
   refine ⟨by simp;omega,fun hn=>?_⟩
   have:=hone _ hb' hn
   simp only [List.length_append,List.length_singleton]
   omega
abbrev oneI:RS→Int×RS:=numQ 59 (-9223372036854775808)
def itemsQ {T:Type} (one:RS→T×RS) (q:RS):Option (List T)×RS :=
 let x:=numQ 91 0 q
 let y:=stK one x.2 x.1.toNat
 match closeR [93] y.1.rest with
 | some r=>(if y.1.bad=true then none else some y.2,⟨r,y.1.bad⟩)
 | none=>(none,⟨[],true⟩)
def oneR {T:Type} (enc:T→AV) (d:T) (e E:Nat):Option (List T)→AR
 | some l=>.new (.row e E enc d l)
 | none=>.val .nils
theorem stK_rest {T:Type} {one:RS→T×RS} (hle:∀ q,(one q).2.rest.length≤q.rest.length) (q:RS):∀ k,(stK one q k).1.rest.length≤q.rest.length
 | 0=>Nat.le_refl _
 | k+1=>by
  have ih:=stK_rest hle q k
  unfold stK
  split
  ·exact ih
  ·exact Nat.le_trans (hle _) ih
theorem numQ_hi (c least:Int) (q:RS):(numQ c least q).1≤9223372036854775807:=by
 unfold numQ
 cases h:numRd c least q.rest with
 | none=>show (0:Int)≤_;omega
 | some x =>
  show x.1≤_
  unfold numRd at h
  simp only at h
  split at h
  ·cases h
  ·split at h
   ·rename_i v hv
    split at h
    ·cases h
     exact (Lib.atoiAll_bounds hv).2
    ·cases h
   ·cases h
theorem oneI_le (q:RS):(oneI q).2.rest.length≤q.rest.length:=(numQ_le 59 (-9223372036854775808) q (by omega)).2
theorem zp17 {p:Prop} (h:p:=by first | exact .row _ _ _ _ _ _ _ rfl (e1) | exact .lstrow _ _ _ _ _ _ _ rfl (e1) | exact .nilrow _ _ _ _ _ (e1) | exact .truncrow _ _ _ _ _ _ _ _ rfl (by omega) (e1)):p:=h
theorem zp38 {p:Prop} (h:p:=by first | rw [e2] | rw [e3]):p:=h
theorem zp58 {p:Prop} (h:p:=by repeat (first | exact .nil | refine .cons (by first | exact .base (.tree _ _ rfl rfl) | exact .base (.own _ _ rfl) | exact .base (.ptr _ _ _ rfl) | exact .base (.map _ _ rfl) | exact .base (.nilown _ rfl) | exact .fn _ _ _ _ _ .nil zp7 | exact .base (.tree _ _ zp38 rfl) | exact .base (.leT _ _ zp38 rfl)) ?_)):p:=h
theorem itemsI_ok (q:RS) (hs:q.rest.length≤1000000000000) (hacc:∀ k,(stK oneI (numQ 91 0 q).2 k).2.length≤1000000000001):AIO Tryz.prog 176 [.ptr 0 0,.fn (.func 29) [.ptr 0 0] []] [ro q] (fun bs rs=>bs=[ro (itemsQ oneI q).2]∧rs=[oneR encI 0 3 1 (itemsQ oneI q).1]):=by
 have hn:=num48 91 0 q (by omega)
 obtain ⟨h0,h1⟩:=numQ_le 91 0 q (Int.le_refl _)
 have h2:=numQ_hi 91 0 q
 unfold itemsQ
 simp only
 generalize numQ 91 0 q=x at *
 obtain ⟨n,q1⟩:=x
 replace hn:AIO Tryz.prog 120 [.ptr 0 0,.int .u8 91,.int .i64 0] [ro q] (fun bs rs=>bs=[ro q1]∧rs=[.val (.int .i64 n)]):=hn
 simp only at h0 h1 h2 hacc ⊢
 have hsr:=stK_rest oneI_le q1
 have hss:∀ k,stK oneI q1 (k+1)=if (stK oneI q1 k).1.bad=true then stK oneI q1 k else ((oneI (stK oneI q1 k).1).2,(stK oneI q1 k).2++[(oneI (stK oneI q1 k).1).1]):=fun _=>rfl
 have hst:∀ k,(stK oneI q1 k).1.bad=true→∀ s,stK oneI q1 (k+s)=stK oneI q1 k:=fun k h=>stK_stay h
 have hs0:stK oneI q1 0=(q1,[]):=rfl
 generalize stK oneI q1=Z at *
 refine aio_of (C:=cxP 1 32 [0,1,4,5,6,17,30]) (cxPOk _ _ _) Tryz.func176 rfl dd0 rfl zp14 dd0 rfl rfl (cW ?_)
 refine .raw _ _ rfl (fun h=>by cases h) (callio_sem (hn) [0] _ rfl rfl ⟨rfl,trivial⟩ zp3 rfl zp2) ?_
 rintro w ⟨b',rs,⟨rfl,rfl⟩,rfl⟩
 refine ⟨tn_ge _ _,(cW ?_)⟩
 refine loop_up (cxPOk _ _ _) n.toNat (fun _=>True) (fun k=>⟨[(0,.ptr 0 0),(1,.fn (.func 29) [.ptr 0 0] []),(5,.own 1),(6,.int .i64 (n-(k:Nat)))],[(0,.cells 155 [.str (Z k).1.rest,.bool (Z k).1.bad]),(1,.row 3 1 encI 0 (Z k).2)],2⟩) trivial (by
  rw [hs0]
  exact (wk_of [(0,.id 0),(1,.nil)] rfl ⟨wc0,.fn _ _ _ _ _ ac0 ac0,ag0,.base (.tree _ _ (show AV.int .i64 _=AV.int .i64 _ by simp) rfl),trivial⟩ ⟨wb0,⟨_,rfl,ae0⟩,trivial⟩)) ?_
 intro k hk _
 have hsk:=hss k
 have hrk:=hsr k
 have hak:=hacc k
 have hstk:=hst k
 generalize hzk:Z k=z at *
 obtain ⟨⟨r,b⟩,acc⟩:=z
 simp only at hsk hrk hak hstk
 conv=>whnf
 refine ⟨fun hc=>?_,fun hc=>?_⟩
 ·replace hc:(decide (0<n-(k:Int))&&!b)=true:=hc
  rw [Bool.and_eq_true,decide_eq_true_eq,Bool.not_eq_true'] at hc
  obtain ⟨hc1,rfl⟩:=hc
  rw [if_neg (by simp)] at hsk
  have hone:=rint_ok ⟨r,false⟩ (show r.length≤9223372036854775000 by omega)
  replace hone:AIO Tryz.prog 29 [.ptr 0 0] [.cells 155 [.str r,.bool false]] (fun bs rs=>bs=[.cells 155 [.str (oneI ⟨r,false⟩).2.rest,.bool (oneI ⟨r,false⟩).2.bad]]∧rs=[.val (.int .i64 (oneI ⟨r,false⟩).1)]):=hone
  generalize oneI ⟨r,false⟩=x at *
  conv=>whnf
  refine .raw _ _ rfl (fun h=>by cases h) (callio_sem (hone) [0] _ rfl rfl ⟨rfl,trivial⟩ zp3 rfl zp2) ?_
  rintro w ⟨b',rs,⟨rfl,rfl⟩,rfl⟩
  refine ⟨tn_ge _ _,(cW ?_)⟩
  refine And.intro rfl (cW ?_)
  refine And.intro ⟨rfl,rfl⟩ (And.intro (show (acc.length+1)*8≤140737488355328 by omega) (cW ?_))
  refine ⟨x.1,rfl,(cW ?_)⟩
  refine iO (cW ?_)
  have e1:acc++[x.1]=(Z (k+1)).2:=by rw [hsk]
  have e2:x.2.rest=(Z (k+1)).1.rest:=by rw [hsk]
  have e3:x.2.bad=(Z (k+1)).1.bad:=by rw [hsk]
  refine up (show k<n.toNat by omega) trivial ((wk_of [(0,.id 0),(1,.id 3)] rfl ⟨wc0,.fn _ _ _ _ _ ac0 ac0,ag0,.base (.tree _ _ (show AV.int .i64 _=AV.int .i64 _ by congr 1;omega) rfl),trivial⟩ ⟨⟨_,rfl,.cells _ _ _ _ rfl zp58 rfl⟩,⟨_,rfl,zp17⟩,trivial⟩))
 ·replace hc:(decide (0<n-(k:Int))&&!b)=false:=hc
  have hkn:Z n.toNat=Z k:=by
   rw [Bool.and_eq_false_iff,decide_eq_false_iff_not,Bool.not_eq_false'] at hc
   rcases hc with h | h
   ·rw [show n.toNat=k by omega]
   ·rw [show n.toNat=k+(n.toNat-k) by omega,hstk h,hzk]
  rw [hkn,hzk]
  cases hcl:closeR [93] r with
  | some r' =>
   have hk2:=close_some (b:=b) hcl
   conv=>whnf
   refine .raw _ _ rfl (fun h=>by cases h) (callio_sem (hk2) [0] _ rfl rfl ⟨rfl,trivial⟩ zp3 rfl zp2) ?_
   exact zt50
  | none =>
   have hk2:=close_none (b:=b) hcl
   conv=>whnf
   refine .raw _ _ rfl (fun h=>by cases h) (callio_sem (hk2) [0] _ rfl rfl ⟨rfl,trivial⟩ zp3 rfl zp2) ?_
   exact zt107
theorem closeR_le {e s r:List UInt8} (h:closeR e s=some r):r.length≤s.length:=by
 unfold closeR at h
 split at h
 ·cases h
  unfold Lib.trimPrefix
  split<;>simp
 ·cases h
theorem textQ_le (q:RS):(textQ q).2.rest.length≤q.rest.length:=by
 have h1:=(numQ_le 58 0 q (Int.le_refl _)).2
 unfold textQ
 simp only
 split
 ·exact Nat.zero_le _
 ·split
  ·rename_i r hr
   have:=closeR_le hr
   rw [List.length_drop] at this
   show r.length≤_
   omega
  ·exact Nat.zero_le _
theorem numR_lt {c least:Int} {s r:List UInt8} {n:Int} (h:numRd c least s=some (n,r)):r.length<s.length:=by
 unfold numRd at h
 simp only at h
 split at h
 ·cases h
 ·rename_i hp
  obtain ⟨o,ho⟩:∃ o:Nat,Lib.indexByte (s.take (min s.length 21)) c.toNat.toUInt8=(o:Int):=⟨_,(Int.toNat_of_nonneg (by omega)).symm⟩
  have hol:=(List.getElem?_eq_some_iff.1 (Lib.indexByte_some ho).1).1
  rw [List.length_take] at hol
  split at h
  ·split at h
   ·cases h
    rw [List.length_drop]
    omega
   ·cases h
  ·cases h
theorem numQ_lt {c least:Int} {q:RS} (h:(numQ c least q).2.bad=false):(numQ c least q).2.rest.length<q.rest.length:=by
 unfold numQ at h ⊢
 cases hn:numRd c least q.rest with
 | none=>rw [hn] at h;cases h
 | some x=>exact numR_lt (r:=x.2) (n:=x.1) hn
theorem accI (q:RS) (hs:q.rest.length≤1000000000000) (k:Nat):(stK oneI (numQ 91 0 q).2 k).2.length≤1000000000001:=by
 cases hb:(numQ 91 0 q).2.bad with
 | false =>
  have h1:=(stK_len (one:=oneI) (fun q _ h=>numQ_lt h) (fun q h=>.inr (oneI_le q)) hb k).1
  have h2:=(numQ_le 91 0 q (Int.le_refl _)).2
  omega
 | true =>
  have:=stK_stay (one:=oneI) (k:=0) (q:=(numQ 91 0 q).2) hb k
  rw [Nat.zero_add] at this
  rw [this]
  exact Nat.zero_le _
theorem nDigits_le:∀ (k u:Nat),1≤k→u<10 ^ k→Lib.nDigits u≤k
 | 0,_,h,_=>absurd h (by decide)
 | k+1,u,_,h=>by
  by_cases hu:u<10
  ·rw [Lib.nDigits_small hu];omega
  ·have hk:1≤k:=by
    rcases Nat.eq_zero_or_pos k with rfl | h'
    ·rw [Nat.zero_add,Nat.pow_one] at h;omega
    ·exact h'
   rw [Lib.nDigits_big hu]
   rw [Nat.pow_succ] at h
   have:=nDigits_le k (u / 10) hk (by omega)
   omega
theorem itoa_len (n:Int) (h:in64 n):(Lib.itoa n).length≤20:=by
 obtain ⟨h0,h1⟩:=h
 by_cases hneg:n<0
 ·obtain ⟨u,rfl⟩:∃ u:Nat,n=-(u:Int):=⟨n.natAbs,by omega⟩
  rw [Lib.itoa_neg u (by omega),List.length_cons,Lib.decDigits_length]
  have:=nDigits_le 19 u (by omega) (by omega)
  omega
 ·obtain ⟨u,rfl⟩:∃ u:Nat,n=u:=⟨n.toNat,by omega⟩
  rw [Lib.itoa_nonneg,Lib.decDigits_length]
  have:=nDigits_le 19 u (by omega) (by omega)
  omega
theorem decDigits_rec (u:Nat):Lib.decDigits u=if u<10 then [UInt8.ofNat (48+u)] else Lib.decDigits (u / 10)++[UInt8.ofNat (48+u % 10)]:=by
 rw [Lib.decDigits]
 split<;>rfl
theorem dig_nat (d:Nat) (h:d<10):(UInt8.ofNat (48+d)).toNat=48+d:=by
 rw [UInt8.toNat_ofNat']
 omega
theorem decDigits_mem (u:Nat):∀ b∈Lib.decDigits u,48≤b.toNat∧b.toNat≤57:=by
 induction u using Nat.strongRecOn with
 | _ u ih =>
  intro b hb
  rw [decDigits_rec] at hb
  split at hb
  ·rename_i hu
   simp only [List.mem_cons,List.not_mem_nil,or_false] at hb
   subst hb
   rw [dig_nat u hu]
   omega
  ·rename_i hu
   rw [List.mem_append] at hb
   rcases hb with hb | hb
   ·exact ih (u / 10) om0 b hb
   ·simp only [List.mem_cons,List.not_mem_nil,or_false] at hb
    subst hb
    rw [dig_nat _ (Nat.mod_lt _ (by decide))]
    have:=Nat.mod_lt u (show 0<10 by decide)
    omega
theorem decDigits_ne (u:Nat):Lib.decDigits u≠[]:=by
 rw [decDigits_rec]
 split<;>simp
def thenP (e:Lib.NumEnd Nat) (f:Nat→Lib.NumEnd Nat):Lib.NumEnd Nat :=
 match e with
 | .ok v=>f v
 | e=>e
theorem parse_append:∀ (a b:List UInt8) (acc:Nat),Lib.parseUint10 acc (a++b)=thenP (Lib.parseUint10 acc a) (fun v=>Lib.parseUint10 v b)
 | [],b,acc=>rfl
 | c::a,b,acc=>by
  have ih:=fun k=>parse_append a b k
  rw [List.cons_append]
  by_cases h1:48≤c.toNat∧c.toNat≤57
  ·by_cases h2:1844674407370955162≤acc
   ·simp only [Lib.parseUint10,if_pos h1,if_pos h2,thenP]
   ·by_cases h3:18446744073709551616≤acc*10+(c.toNat-48)
    ·simp only [Lib.parseUint10,if_pos h1,if_neg h2,if_pos h3,thenP]
    ·simp only [Lib.parseUint10,if_pos h1,if_neg h2,if_neg h3]
     exact ih _
  ·simp only [Lib.parseUint10,if_neg h1,thenP]
theorem parse_dec (u:Nat) (hu:u<18446744073709551616):Lib.parseUint10 0 (Lib.decDigits u)=.ok u:=by
 induction u using Nat.strongRecOn with
 | _ u ih =>
  rw [decDigits_rec]
  split
  ·rename_i h
   simp only [Lib.parseUint10]
   rw [dig_nat u h,if_pos (by omega),if_neg (by omega),if_neg (by omega)]
   congr 1
   omega
  ·rename_i h
   rw [parse_append,ih (u / 10) (by omega) (by omega)]
   simp only [thenP,Lib.parseUint10]
   have:=Nat.mod_lt u (show 0<10 by decide)
   rw [dig_nat _ this,if_pos (by omega),if_neg (by omega),if_neg (by omega)]
   congr 1
   omega
theorem mag_dec (u:Nat) (hu:u<18446744073709551616):Lib.parseMag (Lib.decDigits u)=.ok u:=by
 unfold Lib.parseMag
 rw [if_neg (decDigits_ne u),parse_dec u hu]
theorem atoi_itoa (n:Int) (h:in64 n):Lib.atoiAll (Lib.itoa n)=.ok n:=by
 obtain ⟨h0,h1⟩:=h
 by_cases hneg:n<0
 ·obtain ⟨u,rfl⟩:∃ u:Nat,n=-(u:Int):=⟨n.natAbs,by omega⟩
  rw [Lib.itoa_neg u (by omega),Lib.atoiAll_minus,mag_dec u (by omega)]
  show (if 9223372036854775808<u then Lib.NumEnd.range else Lib.NumEnd.ok (-(u:Int)))=_
  rw [if_neg (by omega)]
 ·obtain ⟨u,rfl⟩:∃ u:Nat,n=u:=⟨n.toNat,by omega⟩
  rw [Lib.itoa_nonneg]
  have hm:=decDigits_mem u
  have hp:=mag_dec u (by omega)
  cases hd:Lib.decDigits u with
  | nil=>exact absurd hd (decDigits_ne u)
  | cons c r =>
   rw [hd] at hm hp
   have hc:=hm c (List.mem_cons_self ..)
   rw [Lib.atoiAll_plain c r (by omega) (by omega),hp]
   show (if 9223372036854775808≤u then Lib.NumEnd.range else Lib.NumEnd.ok (u:Int))=_
   rw [if_neg (by omega)]
theorem itoa_mem (n:Int):∀ b∈Lib.itoa n,b.toNat≤57:=by
 intro b hb
 by_cases hneg:n<0
 ·obtain ⟨u,rfl⟩:∃ u:Nat,n=-(u:Int):=⟨n.natAbs,by omega⟩
  rw [Lib.itoa_neg u (by omega),List.mem_cons] at hb
  rcases hb with rfl | hb
  ·decide
  ·exact (decDigits_mem u b hb).2
 ·obtain ⟨u,rfl⟩:∃ u:Nat,n=u:=⟨n.toNat,by omega⟩
  rw [Lib.itoa_nonneg] at hb
  exact (decDigits_mem u b hb).2
theorem indexByte_at:∀ (a:List UInt8) (c:UInt8) (r:List UInt8),c∉a→Lib.indexByte (a++c::r) c=(a.length:Int)
 | [],c,r,_=>by
  rw [List.nil_append]
  unfold Lib.indexByte
  rw [if_pos (by simp)]
  rfl
 | b::a,c,r,h=>by
  rw [List.mem_cons,not_or] at h
  rw [List.cons_append]
  unfold Lib.indexByte
  rw [indexByte_at a c r h.2,if_neg (by simp;exact fun h'=>h.1 h'.symm),if_neg (by simp)]
  simp
def EndB (c:Int):Prop:=57<c.toNat.toUInt8.toNat
abbrev cb (c:Int):UInt8:=c.toNat.toUInt8
theorem numR_back (c least n:Int) (r:List UInt8) (hn:in64 n) (hl:least≤n) (hc:EndB c):numRd c least (Lib.itoa n++cb c::r)=some (n,r):=by
 have hlen:=itoa_len n hn
 have hmem:cb c∉Lib.itoa n:=fun h=>by
  have:=itoa_mem n _ h
  unfold EndB at hc
  unfold cb at this
  omega
 have htk:(Lib.itoa n++cb c::r).take (min (Lib.itoa n++cb c::r).length 21)=Lib.itoa n++cb c::r.take (min (Lib.itoa n++cb c::r).length 21-(Lib.itoa n).length-1):=by
  rw [List.take_append,List.take_of_length_le zp21]
  have:min (Lib.itoa n++cb c::r).length 21-(Lib.itoa n).length=(min (Lib.itoa n++cb c::r).length 21-(Lib.itoa n).length-1)+1:=by
   simp only [List.length_append,List.length_cons]
   omega
  rw [this,List.take_succ_cons]
  rfl
 unfold numRd
 simp only
 rw [htk,indexByte_at _ _ _ hmem,if_neg (by omega),Int.toNat_natCast,List.take_append_of_le_length (Nat.le_refl _),List.take_length,atoi_itoa n hn]
 simp only
 rw [if_pos ⟨trivial,hl⟩]
 congr 2
 rw [List.drop_append]
 simp
theorem numR_inv {c least n:Int} {s r:List UInt8} (h:numRd c least s=some (n,r)):s=Lib.itoa n++cb c::r∧in64 n∧least≤n:=by
 unfold numRd at h
 simp only at h
 split at h
 ·cases h
 ·rename_i hp
  obtain ⟨o,ho⟩:∃ o:Nat,Lib.indexByte (s.take (min s.length 21)) c.toNat.toUInt8=(o:Int):=⟨_,(Int.toNat_of_nonneg (by omega)).symm⟩
  have hat:=(Lib.indexByte_some ho).1
  rw [ho,Int.toNat_natCast] at h
  split at h
  ·rename_i v hv
   split at h
   ·rename_i hk
    cases h
    have hol:=(List.getElem?_eq_some_iff.1 hat).1
    rw [List.length_take] at hol
    rw [List.getElem?_take] at hat
    rw [if_pos (by omega)] at hat
    rw [List.take_take,show min o (min s.length 21)=o by omega] at hk
    obtain ⟨hlt,hge⟩:=List.getElem?_eq_some_iff.1 hat
    refine ⟨?_,Lib.atoiAll_bounds hv,hk.2⟩
    rw [hk.1]
    have e:s.drop o=c.toNat.toUInt8::s.drop (o+1):=by
     rw [List.drop_eq_getElem_cons hlt,hge]
    show s=s.take o++c.toNat.toUInt8::s.drop (o+1)
    rw [← e,List.take_append_drop]
   ·cases h
  ·cases h
theorem closeR_back (e:UInt8) (r:List UInt8):closeR [e] (e::r)=some r:=by
 have h:Lib.hasPrefix (e::r) [e]=true:=by
  simp [Lib.hasPrefix]
 unfold closeR
 rw [if_pos h]
 unfold Lib.trimPrefix
 rw [if_pos h]
 rfl
theorem closeR_inv {e:UInt8} {s r:List UInt8} (h:closeR [e] s=some r):s=e::r:=by
 unfold closeR at h
 split at h
 ·rename_i hp
  cases h
  unfold Lib.trimPrefix
  rw [if_pos hp]
  cases s with
  | nil=>simp [Lib.hasPrefix] at hp
  | cons a s =>
   simp [Lib.hasPrefix] at hp
   rw [hp]
   rfl
 ·cases h
theorem numQ_back (c least n:Int) (r:List UInt8) (b:Bool) (hn:in64 n) (hl:least≤n) (hc:EndB c):numQ c least ⟨Lib.itoa n++cb c::r,b⟩=(n,⟨r,b⟩):=by
 unfold numQ
 rw [numR_back c least n r hn hl hc]
theorem numQ_inv {c least:Int} {q:RS} (h:(numQ c least q).2.bad=false):q.bad=false∧q.rest=Lib.itoa (numQ c least q).1++cb c::(numQ c least q).2.rest∧in64 (numQ c least q).1∧least≤(numQ c least q).1:=by
 unfold numQ at h ⊢
 cases hn:numRd c least q.rest with
 | none=>rw [hn] at h;cases h
 | some x =>
  rw [hn] at h
  exact ⟨h,numR_inv (r:=x.2) (n:=x.1) hn⟩
def Dead (q:RS):Prop:=q.bad=true→q.rest=[]
theorem numQ_dead (c least:Int) (q:RS) (h:Dead q):Dead (numQ c least q).2:=by
 unfold numQ
 cases hn:numRd c least q.rest with
 | none=>exact fun _=>rfl
 | some x =>
  intro hb
  rw [h hb] at hn
  have:=numR_lt (r:=x.2) (n:=x.1) hn
  exact absurd this (Nat.not_lt_zero _)
structure Codec {T:Type} (one:RS→T×RS) (f:T→List UInt8) (P:T→Prop):Prop where
 back:∀ x r,P x→one ⟨f x++r,false⟩=(x,⟨r,false⟩)
 inv:∀ q,(one q).2.bad=false→q.bad=false∧q.rest=f (one q).1++(one q).2.rest
 dead:∀ q,Dead q→Dead (one q).2
theorem zp56 {p:Prop} (h:p:=by unfold EndB;decide):p:=h
theorem codecI:Codec oneI intS in64:=by
 refine ⟨fun x r h=>?_,fun q h=>?_,fun q h=>numQ_dead _ _ q h⟩
 ·unfold intS
  rw [List.append_assoc]
  exact numQ_back 59 _ x r false h h.1 zp56
 ·obtain ⟨h1,h2,_,_⟩:=numQ_inv h
  refine ⟨h1,?_⟩
  rw [h2]
  unfold intS
  rw [List.append_assoc]
  rfl
theorem codecN:Codec (numQ 59 0) numS (fun n=>0≤n∧in64 n):=by
 refine ⟨fun x r h=>?_,fun q h=>?_,fun q h=>numQ_dead _ _ q h⟩
 ·unfold numS intS
  rw [if_neg (by omega),List.append_assoc]
  exact numQ_back 59 _ x r false h.2 h.1 zp56
 ·obtain ⟨h1,h2,_,h4⟩:=numQ_inv h
  refine ⟨h1,?_⟩
  rw [h2]
  unfold numS intS
  rw [if_neg (by omega),List.append_assoc]
  rfl
theorem zp32 {p:Prop} (h:p:=by unfold in64;omega):p:=h
theorem codecT:Codec textQ textS (fun s=>s.length≤9223372036854775000):=by
 refine ⟨fun x r h=>?_,fun q h=>?_,fun q h=>?_⟩
 ·have e:textS x++r=Lib.itoa x.length++cb 58::(x++44::r):=by
   unfold textS
   simp only [List.append_assoc]
   rfl
  have hn:=numQ_back 58 0 x.length (x++44::r) false zp32 (by omega) zp56
  unfold textQ
  simp only
  rw [e,hn]
  simp only [Int.toNat_natCast]
  rw [if_neg zp21,List.drop_append_of_le_length (Nat.le_refl _),List.drop_length,List.nil_append,closeR_back]
  simp
 ·unfold textQ at h ⊢
  simp only at h ⊢
  split at h
  ·cases h
  ·rename_i hc
   rw [if_neg hc]
   cases hcl:closeR [44] ((numQ 58 0 q).2.rest.drop (numQ 58 0 q).1.toNat) with
   | none=>rw [hcl] at h;cases h
   | some r =>
    rw [hcl] at h
    have hb:(numQ 58 0 q).2.bad=false:=h
    obtain ⟨h1,h2,h3,h4⟩:=numQ_inv (c:=58) (least:=0) (q:=q) hb
    have h5:=closeR_inv hcl
    refine ⟨h1,?_⟩
    simp only [hb]
    rw [if_neg (by simp)]
    generalize numQ 58 0 q=y at *
    obtain ⟨n,q1,b1⟩:=y
    simp only at hc h2 h4 h5 ⊢
    have hlen:(q1.take n.toNat).length=n.toNat:=by rw [List.length_take];omega
    unfold textS
    rw [h2,hlen,Int.toNat_of_nonneg h4]
    have e:q1=q1.take n.toNat++44::r:=by rw [← h5,List.take_append_drop]
    simp only [List.append_assoc]
    rw [show Lib.itoa n++cb 58::q1=Lib.itoa n++cb 58::(q1.take n.toNat++44::r) by rw [← e]]
    rfl
 ·unfold textQ
  simp only
  split
  ·exact fun _=>rfl
  ·cases hcl:closeR [44] ((numQ 58 0 q).2.rest.drop (numQ 58 0 q).1.toNat) with
   | none=>exact fun _=>rfl
   | some r =>
    intro hb
    have hb:(numQ 58 0 q).2.bad=true:=hb
    have:=numQ_dead 58 0 q h hb
    rw [this,List.drop_nil] at hcl
    have:=closeR_inv hcl
    cases this
theorem stK_back {T:Type} {one:RS→T×RS} {f:T→List UInt8} {P:T→Prop} (hc:Codec one f P) (l:List T) (hl:∀ x∈l,P x) (r:List UInt8):∀ k,k≤l.length→stK one ⟨l.flatMap f++r,false⟩ k=(⟨(l.drop k).flatMap f++r,false⟩,l.take k)
 | 0,_=>by simp [stK]
 | k+1,hk=>by
  have ih:=stK_back hc l hl r k (by omega)
  have hlt:k<l.length:=by omega
  unfold stK
  rw [ih,if_neg (by simp)]
  simp only
  rw [List.drop_eq_getElem_cons hlt,List.flatMap_cons,List.append_assoc,hc.back _ _ (hl _ (List.getElem_mem hlt))]
  simp only
  rw [List.take_add_one,List.getElem?_eq_getElem hlt]
  rfl
theorem stK_inv {T:Type} {one:RS→T×RS} {f:T→List UInt8} {P:T→Prop} (hc:Codec one f P) (q:RS):∀ k,(stK one q k).1.bad=false→q.bad=false∧q.rest=(stK one q k).2.flatMap f++(stK one q k).1.rest∧(stK one q k).2.length=k
 | 0,h=>⟨h,rfl,rfl⟩
 | k+1,h=>by
  unfold stK at h ⊢
  split at h
  ·rename_i hb
   rw [hb] at h
   cases h
  ·rename_i hb
   rw [if_neg hb]
   obtain ⟨h1,h2,h3⟩:=stK_inv hc q k zp43
   obtain ⟨_,h4⟩:=hc.inv _ h
   refine ⟨h1,?_,by simp [h3]⟩
   rw [h2,List.flatMap_append,List.append_assoc]
   congr 1
   rw [h4]
   simp
theorem stK_dead {T:Type} {one:RS→T×RS} {f:T→List UInt8} {P:T→Prop} (hc:Codec one f P) (q:RS) (hq:Dead q):∀ k,Dead (stK one q k).1
 | 0=>hq
 | k+1=>by
  unfold stK
  split
  ·exact stK_dead hc q hq k
  ·exact hc.dead _ (stK_dead hc q hq k)
def listOf {T:Type} (o:Option (List T)):List T:=o.getD []
def listQ {T:Type} (one:RS→T×RS) (q:RS):List T×RS:=(listOf (itemsQ one q).1,(itemsQ one q).2)
theorem codecL {T:Type} {one:RS→T×RS} {f:T→List UInt8} {P:T→Prop} (hc:Codec one f P):Codec (listQ one) (listS f) (fun l=>(∀ x∈l,P x)∧l.length≤9223372036854775807):=by
 refine ⟨fun l r h=>?_,fun q h=>?_,fun q h=>?_⟩
 ·have e:listS f l++r=Lib.itoa l.length++cb 91::(l.flatMap f++93::r):=by
   unfold listS headS
   simp only [List.append_assoc]
   rfl
  have hn:=numQ_back 91 0 l.length (l.flatMap f++93::r) false zp32 (by omega) zp56
  unfold listQ itemsQ
  simp only
  rw [e,hn]
  simp only [Int.toNat_natCast]
  rw [stK_back hc l h.1 (93::r) l.length (Nat.le_refl _)]
  simp only [List.drop_length,List.flatMap_nil,List.nil_append,closeR_back,List.take_length]
  simp [listOf]
 ·unfold listQ itemsQ at h ⊢
  simp only at h ⊢
  cases hcl:closeR [93] (stK one (numQ 91 0 q).2 (numQ 91 0 q).1.toNat).1.rest with
  | none=>rw [hcl] at h;cases h
  | some r =>
   rw [hcl] at h
   have hb:(stK one (numQ 91 0 q).2 (numQ 91 0 q).1.toNat).1.bad=false:=h
   obtain ⟨h1,h2,h3⟩:=stK_inv hc _ _ hb
   obtain ⟨h4,h5,h6,h7⟩:=numQ_inv (c:=91) (least:=0) (q:=q) h1
   have h8:=closeR_inv hcl
   refine ⟨h4,?_⟩
   simp only [hb]
   rw [if_neg (by simp)]
   simp only [listOf,Option.getD_some]
   unfold listS headS
   rw [h3,Int.toNat_of_nonneg h7,h5,h2,h8]
   simp only [List.append_assoc]
   rfl
 ·unfold listQ itemsQ
  simp only
  cases hcl:closeR [93] (stK one (numQ 91 0 q).2 (numQ 91 0 q).1.toNat).1.rest with
  | none=>exact fun _=>rfl
  | some r =>
   intro hb
   have hb:(stK one (numQ 91 0 q).2 (numQ 91 0 q).1.toNat).1.bad=true:=hb
   have:=stK_dead hc _ (numQ_dead 91 0 q h) _ hb
   rw [this] at hcl
   have:=closeR_inv hcl
   cases this
structure Brc where
 stage:Int
 since:Int
structure Vot where
 seat:Int
 day:Int
 yes:Bool
structure Pay where
 issue:Int
 seat:Int
 day:Int
 due:Int
 paid:Int
 period:Int
structure Pro where
 issue:Int
 text:List UInt8
 day:Int
 units:List Int
 votes:List Vot
 closed:Bool
structure Lin where
 text:List UInt8
 units:List Int
 noted:List Int
 notedAt:Int
 stages:List Brc
 fast:Int
 called:Int
 price:Int
 ended:Bool
 since:Int
structure Fac where
 issuer:Int
 name:List UInt8
 period:Int
 value:Int
 day:Int
structure Sta where
 day:Int
 cash:List Int
 purses:List Int
 outside:Int
 lines:List Lin
 facts:List Fac
 payments:List Pay
 proposals:List Pro
abbrev br0:Brc:=⟨0,0⟩
abbrev vo0:Vot:=⟨0,0,false⟩
abbrev pa0:Pay:=⟨0,0,0,0,0,0⟩
abbrev pr0:Pro:=⟨0,[],0,[],[],false⟩
abbrev li0:Lin:=⟨[],[],[],0,[],0,0,0,false,0⟩
abbrev fa0:Fac:=⟨0,[],0,0,0⟩
abbrev st0:Sta:=⟨0,[],[],0,[],[],[],[]⟩
def encBr (b:Brc):AV:=.agg [.int .i64 b.stage,.int .i64 b.since]
def encVo (v:Vot):AV:=.agg [.int .i64 v.seat,.int .i64 v.day,.bool v.yes]
def encPa (p:Pay):AV:=.agg [.int .i64 p.issue,.int .i64 p.seat,.int .i64 p.day,.int .i64 p.due,.int .i64 p.paid,.int .i64 p.period]
def encPr (p:Pro):AV:=.agg [.int .i64 p.issue,.str p.text,.int .i64 p.day,.sl 1 encI 0 p.units,.sl 3 encVo vo0 p.votes,.bool p.closed]
def encLi (x:Lin):AV:=.agg [.str x.text,.sl 1 encI 0 x.units,.sl 1 encI 0 x.noted,.int .i64 x.notedAt,.sl 2 encBr br0 x.stages,.int .i64 x.fast,.int .i64 x.called,.int .i64 x.price,.bool x.ended,.int .i64 x.since]
def encFa (f:Fac):AV:=.agg [.int .i64 f.issuer,.str f.name,.int .i64 f.period,.int .i64 f.value,.int .i64 f.day]
def celSt (s:Sta):List AV:=[.int .i64 s.day,.sl 1 encI 0 s.cash,.sl 1 encI 0 s.purses,.int .i64 s.outside,.sl 10 encLi li0 s.lines,.sl 5 encFa fa0 s.facts,.sl 6 encPa pa0 s.payments,.sl 6 encPr pr0 s.proposals]
def encSt (s:Sta):AV:=.agg [.int .i64 s.day,.sl 1 encI 0 s.cash,.sl 1 encI 0 s.purses,.int .i64 s.outside,.sl 10 encLi li0 s.lines,.sl 5 encFa fa0 s.facts,.sl 6 encPa pa0 s.payments,.sl 6 encPr pr0 s.proposals]
def mostA:Int:=1000000000000000000
def sumA:Int→List Int→Option Int
 | t,[]=>some t
 | t,n::l=>if 0≤n∧n≤mostA-t then sumA (t+n) l else none
def sumB (s:Sta):Option Int:=(sumA 0 s.cash).bind fun t=>sumA t s.purses
def dayOk (n:Int):Bool:=inB 0 200000 [n]
def unitsOk (seats:Int) (l:List Int):Bool:=decide ((l.length:Int)=seats)&&inB 0 1000000000 l
def stageOk (b:Brc):Bool:=inB 0 3 [b.stage]&&dayOk b.since
def parsesB (s:List UInt8):Bool:=match parseR s with
 | .ok _=>true
 | .error _=>false
def lineOk (seats:Int) (x:Lin):Bool :=
 parsesB x.text&&(unitsOk seats x.units&&(decide (x.noted=[])||unitsOk seats x.noted)&&inB (-1) 5000 [x.notedAt])&&(inB (-1) 200000 [x.fast,x.called]&&inB 0 10000 [x.price]&&dayOk x.since)&&decide (x.stages.length≤500)&&x.stages.all stageOk
def payOk (lines seats:Int) (p:Pay):Bool:=inB 0 (lines-1) [p.issue]&&inB 0 (seats-1) [p.seat]&&dayOk p.day&&inB 0 mostA [p.due]&&inB 0 p.due [p.paid]&&inB (-1) 5000 [p.period]
def voteOk (seats:Int) (v:Vot):Bool:=inB 0 (seats-1) [v.seat]&&dayOk v.day
def proOk (lines seats:Int) (p:Pro):Bool:=inB 0 (lines-1) [p.issue]&&decide (p.text.length≤4000)&&dayOk p.day&&unitsOk seats p.units&&decide (p.votes.length≤2000)&&p.votes.all (voteOk seats)
def factOne (f:Fac):Bool:=decide (0≤f.issuer)&&decide (f.issuer<60)&&(decide (0≤f.period)&&decide (f.period≤f.day)&&decide (f.day≤200000))&&decide (0≤f.value)&&decide (f.value≤1000000000000000)&&nameB f.name
def factsFrom:Int→List Fac→Bool
 | _,[]=>true
 | last,f::l=>factOne f&&decide (last≤f.day)&&factsFrom f.day l
def factsOk (l:List Fac):Bool:=decide (l.length≤10000)&&factsFrom 0 l
def rightS (s:Sta):Bool :=
 (sumB s).isSome&&dayOk s.day&&decide (s.cash.length≤60)&&decide (s.purses.length≤20000)&&inB (-mostA) mostA [s.outside] &&
 (decide (s.lines.length≤400)&&decide (s.payments.length≤100000)&&decide (s.proposals.length≤10000)&&factsOk s.facts) &&
 (s.lines.all (lineOk s.purses.length)&&s.payments.all (payOk s.lines.length s.purses.length)&&s.proposals.all (proOk s.lines.length s.purses.length))
def moneyS (s:Sta):Int:=if rightS s=true then (sumB s).getD 0 else 0
def truthZ (b:Bool):Int:=if b=true then 1 else 0
def numsS (l:List Int):List UInt8:=l.flatMap numS
def manyS {T:Type} (f:T→List UInt8) (l:List T):List UInt8:=numS l.length++l.flatMap f
def brS (b:Brc):List UInt8:=numsS [b.stage,b.since]
def liS (x:Lin):List UInt8:=textS x.text++listS intS x.units++listS intS x.noted++intS x.notedAt++manyS brS x.stages++intS x.fast++intS x.called++numsS [x.price,truthZ x.ended,x.since]
def faS (f:Fac):List UInt8:=numsS [f.issuer]++textS f.name++numsS [f.period,f.value,f.day]
def paS (p:Pay):List UInt8:=numsS [p.issue,p.seat,p.day,p.due,p.paid]++intS p.period
def voS (v:Vot):List UInt8:=numsS [v.seat,v.day,truthZ v.yes]
def prS (p:Pro):List UInt8:=numsS [p.issue]++textS p.text++numsS [p.day]++listS intS p.units++manyS voS p.votes++numsS [truthZ p.closed]
def stS (s:Sta):List UInt8:=numsS [s.day]++manyS numS s.cash++manyS numS s.purses++intS s.outside++manyS liS s.lines++manyS faS s.facts++manyS paS s.payments++manyS prS s.proposals
def stT (s:Sta):List UInt8:=if rightS s=true then stS s else []
abbrev nuQ:RS→Int×RS:=numQ 59 0
def itK {T:Type} (one:RS→T×RS) (q:RS):Nat→RS×List T
 | 0=>(q,[])
 | k+1=>((one (itK one q k).1).2,(itK one q k).2++[(one (itK one q k).1).1])
def manyQ {T:Type} (one:RS→T×RS) (q:RS):List T×RS :=
 if ((nuQ q).2.rest.length:Int)<(nuQ q).1 then ([],(nuQ q).2) else ((itK one (nuQ q).2 (nuQ q).1.toNat).2,(itK one (nuQ q).2 (nuQ q).1.toNat).1)
def brQ (q:RS):Brc×RS :=
 let a:=nuQ q
 let b:=nuQ a.2
 (⟨a.1,b.1⟩,b.2)
def voQ (q:RS):Vot×RS :=
 let a:=nuQ q
 let b:=nuQ a.2
 let c:=nuQ b.2
 (⟨a.1,b.1,decide (c.1=1)⟩,c.2)
def liQ (q:RS):Lin×RS :=
 let a:=textQ q
 let b:=listQ oneI a.2
 let c:=listQ oneI b.2
 let d:=oneI c.2
 let e:=manyQ brQ d.2
 let f:=oneI e.2
 let g:=oneI f.2
 let h:=nuQ g.2
 let i:=nuQ h.2
 let j:=nuQ i.2
 (⟨a.1,b.1,c.1,d.1,e.1,f.1,g.1,h.1,decide (i.1=1),j.1⟩,j.2)
def faQ (q:RS):Fac×RS :=
 let a:=nuQ q
 let b:=textQ a.2
 let c:=nuQ b.2
 let d:=nuQ c.2
 let e:=nuQ d.2
 (⟨a.1,b.1,c.1,d.1,e.1⟩,e.2)
def paQ (q:RS):Pay×RS :=
 let a:=nuQ q
 let b:=nuQ a.2
 let c:=nuQ b.2
 let d:=nuQ c.2
 let e:=nuQ d.2
 let f:=oneI e.2
 (⟨a.1,b.1,c.1,d.1,e.1,f.1⟩,f.2)
def prQ (q:RS):Pro×RS :=
 let a:=nuQ q
 let b:=textQ a.2
 let c:=nuQ b.2
 let d:=listQ oneI c.2
 let e:=manyQ voQ d.2
 let f:=nuQ e.2
 (⟨a.1,b.1,c.1,d.1,e.1,decide (f.1=1)⟩,f.2)
def stQ (q:RS):Sta×RS :=
 let a:=nuQ q
 let b:=manyQ nuQ a.2
 let c:=manyQ nuQ b.2
 let d:=oneI c.2
 let e:=manyQ liQ d.2
 let f:=manyQ faQ e.2
 let g:=manyQ paQ f.2
 let h:=manyQ prQ g.2
 (⟨a.1,b.1,c.1,d.1,e.1,f.1,g.1,h.1⟩,h.2)
def doneB (q:RS):Bool:=!q.bad&&decide (q.rest=[])
def readB (t:List UInt8):Bool:=!decide (t=[])&&doneB (stQ ⟨t,false⟩).2&&decide (stT (stQ ⟨t,false⟩).1=t)
def Bk {T:Type} (one:RS→T×RS) (f:T→List UInt8) (P:T→Prop):Prop:=∀ x r,P x→one ⟨f x++r,false⟩=(x,⟨r,false⟩)
def N0 (n:Int):Prop:=0≤n∧in64 n
theorem bk_num:Bk nuQ numS N0:=codecN.back
theorem bk_int:Bk oneI intS in64:=codecI.back
theorem bk_text:Bk textQ textS (fun s=>s.length≤9223372036854775000):=codecT.back
theorem bk_ints:Bk (listQ oneI) (listS intS) (fun l=>(∀ x∈l,in64 x)∧l.length≤9223372036854775807):=(codecL codecI).back
theorem numS_ne {n:Int} (h:0≤n):numS n≠[]:=by
 unfold numS intS
 rw [if_neg (by omega)]
 simp
theorem itK_back {T:Type} {one:RS→T×RS} {f:T→List UInt8} {P:T→Prop} (hb:Bk one f P) (l:List T) (hl:∀ x∈l,P x) (r:List UInt8):∀ k,k≤l.length→itK one ⟨l.flatMap f++r,false⟩ k=(⟨(l.drop k).flatMap f++r,false⟩,l.take k)
 | 0,_=>by simp [itK]
 | k+1,hk=>by
  have ih:=itK_back hb l hl r k (by omega)
  have hlt:k<l.length:=by omega
  unfold itK
  rw [ih]
  simp only
  rw [List.drop_eq_getElem_cons hlt,List.flatMap_cons,List.append_assoc,hb _ _ (hl _ (List.getElem_mem hlt))]
  simp only
  rw [List.take_add_one,List.getElem?_eq_getElem hlt]
  rfl
theorem flat_len {T:Type} {f:T→List UInt8}:∀ (l:List T),(∀ x∈l,f x≠[])→l.length≤(l.flatMap f).length
 | [],_=>Nat.le_refl _
 | x::l,h=>by
  have h1:=flat_len l fun y hy=>h y (by simp [hy])
  have h2:=List.length_pos_iff.2 (h x (by simp))
  rw [List.flatMap_cons,List.length_append,List.length_cons]
  omega
theorem bk_many {T:Type} {one:RS→T×RS} {f:T→List UInt8} {P:T→Prop} (hb:Bk one f P) (hne:∀ x,P x→f x≠[]):Bk (manyQ one) (manyS f) (fun l=>(∀ x∈l,P x)∧l.length≤1000000000):=by
 intro l r h
 have hn:=bk_num (l.length:Int) (l.flatMap f++r) ⟨by omega,by unfold in64;omega⟩
 have hlen:=flat_len l fun x hx=>hne x (h.1 x hx)
 unfold manyQ manyS
 rw [List.append_assoc,hn]
 simp only [Int.toNat_natCast]
 rw [if_neg (by rw [List.length_append];omega),itK_back hb l h.1 r l.length (Nat.le_refl _)]
 simp
theorem truth_n (b:Bool):N0 (truthZ b):=by cases b<;>exact ⟨by decide,by unfold in64;decide⟩
theorem truth_b (b:Bool):decide (truthZ b=1)=b:=by cases b<;>rfl
theorem bk_br:Bk brQ brS (fun b=>N0 b.stage∧N0 b.since):=by
 rintro ⟨a,b⟩ r ⟨h1,h2⟩
 unfold brQ brS numsS
 simp only [List.flatMap_cons,List.flatMap_nil,List.append_nil,List.append_assoc] at *
 rw [bk_num _ _ h1]
 simp only
 rw [bk_num _ _ h2]
theorem bk_vo:Bk voQ voS (fun v=>N0 v.seat∧N0 v.day):=by
 rintro ⟨a,b,c⟩ r ⟨h1,h2⟩
 unfold voQ voS numsS
 simp only [List.flatMap_cons,List.flatMap_nil,List.append_nil,List.append_assoc] at *
 rw [bk_num _ _ h1]
 simp only
 rw [bk_num _ _ h2]
 simp only
 rw [bk_num _ _ (truth_n c)]
 simp only [truth_b]
def LiW (x:Lin):Prop:=x.text.length≤9223372036854775000∧((∀ n∈x.units,in64 n)∧x.units.length≤9223372036854775807)∧((∀ n∈x.noted,in64 n)∧x.noted.length≤9223372036854775807)∧in64 x.notedAt∧((∀ b∈x.stages,N0 b.stage∧N0 b.since)∧x.stages.length≤1000000000)∧in64 x.fast∧in64 x.called∧N0 x.price∧N0 x.since
theorem zt186 {p:Prop}(h:p:=by
 simp only [List.flatMap_cons]
 intro e
 exact numS_ne h.1.1 (List.append_eq_nil_iff.1 e).1):p:=h
theorem brS_ne (b:Brc) (h:N0 b.stage∧N0 b.since):brS b≠[]:=by
 unfold brS numsS
 exact zt186
theorem voS_ne (v:Vot) (h:N0 v.seat∧N0 v.day):voS v≠[]:=by
 unfold voS numsS
 exact zt186
theorem bk_li:Bk liQ liS LiW:=by
 rintro ⟨a,b,c,d,e,f,g,h,i,j⟩ r ⟨h1,h2,h3,h4,h5,h6,h7,h8,h9⟩
 unfold liQ liS numsS
 simp only [List.flatMap_cons,List.flatMap_nil,List.append_nil,List.append_assoc] at *
 rw [bk_text _ _ h1]
 simp only
 rw [bk_ints _ _ h2]
 simp only
 rw [bk_ints _ _ h3]
 simp only
 rw [bk_int _ _ h4]
 simp only
 rw [bk_many bk_br brS_ne _ _ h5]
 simp only
 rw [bk_int _ _ h6]
 simp only
 rw [bk_int _ _ h7]
 simp only
 rw [bk_num _ _ h8]
 simp only
 rw [bk_num _ _ (truth_n i)]
 simp only
 rw [bk_num _ _ h9]
 simp only [truth_b]
def FaW (f:Fac):Prop:=N0 f.issuer∧f.name.length≤9223372036854775000∧N0 f.period∧N0 f.value∧N0 f.day
theorem bk_fa:Bk faQ faS FaW:=by
 rintro ⟨a,b,c,d,e⟩ r ⟨h1,h2,h3,h4,h5⟩
 unfold faQ faS numsS
 simp only [List.flatMap_cons,List.flatMap_nil,List.append_nil,List.append_assoc] at *
 rw [bk_num _ _ h1]
 simp only
 rw [bk_text _ _ h2]
 simp only
 rw [bk_num _ _ h3]
 simp only
 rw [bk_num _ _ h4]
 simp only
 rw [bk_num _ _ h5]
def PaW (p:Pay):Prop:=N0 p.issue∧N0 p.seat∧N0 p.day∧N0 p.due∧N0 p.paid∧in64 p.period
theorem bk_pa:Bk paQ paS PaW:=by
 rintro ⟨a,b,c,d,e,f⟩ r ⟨h1,h2,h3,h4,h5,h6⟩
 unfold paQ paS numsS
 simp only [List.flatMap_cons,List.flatMap_nil,List.append_nil,List.append_assoc] at *
 rw [bk_num _ _ h1]
 simp only
 rw [bk_num _ _ h2]
 simp only
 rw [bk_num _ _ h3]
 simp only
 rw [bk_num _ _ h4]
 simp only
 rw [bk_num _ _ h5]
 simp only
 rw [bk_int _ _ h6]
def PrW (p:Pro):Prop:=N0 p.issue∧p.text.length≤9223372036854775000∧N0 p.day∧((∀ n∈p.units,in64 n)∧p.units.length≤9223372036854775807)∧((∀ v∈p.votes,N0 v.seat∧N0 v.day)∧p.votes.length≤1000000000)
theorem bk_pr:Bk prQ prS PrW:=by
 rintro ⟨a,b,c,d,e,f⟩ r ⟨h1,h2,h3,h4,h5⟩
 unfold prQ prS numsS
 simp only [List.flatMap_cons,List.flatMap_nil,List.append_nil,List.append_assoc] at *
 rw [bk_num _ _ h1]
 simp only
 rw [bk_text _ _ h2]
 simp only
 rw [bk_num _ _ h3]
 simp only
 rw [bk_ints _ _ h4]
 simp only
 rw [bk_many bk_vo voS_ne _ _ h5]
 simp only
 rw [bk_num _ _ (truth_n f)]
 simp only [truth_b]
theorem textS_ne (s:List UInt8):textS s≠[]:=by unfold textS;simp
theorem liS_ne (x:Lin) (_:LiW x):liS x≠[]:=by
 unfold liS
 simp only [List.append_assoc]
 intro e
 exact textS_ne _ (List.append_eq_nil_iff.1 e).1
theorem zt85 {p:Prop}(h:p:=by
 simp only [List.flatMap_cons,List.append_assoc]
 intro e
 exact numS_ne h.1.1 (List.append_eq_nil_iff.1 e).1):p:=h
theorem faS_ne (f:Fac) (h:FaW f):faS f≠[]:=by
 unfold faS numsS
 exact zt85
theorem paS_ne (p:Pay) (h:PaW p):paS p≠[]:=by
 unfold paS numsS
 exact zt85
theorem prS_ne (p:Pro) (h:PrW p):prS p≠[]:=by
 unfold prS numsS
 exact zt85
structure StW (s:Sta):Prop where
 day:N0 s.day
 cash:(∀ n∈s.cash,N0 n)∧s.cash.length≤1000000000
 purses:(∀ n∈s.purses,N0 n)∧s.purses.length≤1000000000
 outside:in64 s.outside
 lines:(∀ x∈s.lines,LiW x)∧s.lines.length≤1000000000
 facts:(∀ x∈s.facts,FaW x)∧s.facts.length≤1000000000
 payments:(∀ x∈s.payments,PaW x)∧s.payments.length≤1000000000
 proposals:(∀ x∈s.proposals,PrW x)∧s.proposals.length≤1000000000
theorem bk_st:Bk stQ stS StW:=by
 rintro ⟨a,b,c,d,e,f,g,h⟩ r ⟨h1,h2,h3,h4,h5,h6,h7,h8⟩
 unfold stQ stS numsS
 simp only [List.flatMap_cons,List.flatMap_nil,List.append_nil,List.append_assoc] at *
 rw [bk_num _ _ h1]
 simp only
 rw [bk_many bk_num (fun n hn=>numS_ne hn.1) _ _ h2]
 simp only
 rw [bk_many bk_num (fun n hn=>numS_ne hn.1) _ _ h3]
 simp only
 rw [bk_int _ _ h4]
 simp only
 rw [bk_many bk_li liS_ne _ _ h5]
 simp only
 rw [bk_many bk_fa faS_ne _ _ h6]
 simp only
 rw [bk_many bk_pa paS_ne _ _ h7]
 simp only
 rw [bk_many bk_pr prS_ne _ _ h8]
theorem zt169 {p:Prop}(h:p:=by
 have a:=h m (by simp)
 have b:=ih fun k hk=>h k (by simp [hk])
 rw [List.sum_cons]
 omega):p:=h
theorem sumA_iff:∀ (l:List Int) (t v:Int),0≤t→t≤mostA→(sumA t l=some v↔(∀ n∈l,0≤n)∧t+l.sum≤mostA∧v=t+l.sum)
 | [],t,v,h0,h1=>by
  unfold sumA
  simp
  constructor
  ·intro h;exact ⟨h1,h.symm⟩
  ·rintro ⟨_,h⟩;exact h.symm
 | n::l,t,v,h0,h1=>by
  unfold sumA
  have pos:(∀ m∈l,0≤m)→0≤l.sum:=by
   clear h0 h1
   induction l with
   | nil=>intro _;simp
   | cons m l ih =>
    intro h
    exact zt169
  rw [List.sum_cons]
  by_cases hc:0≤n∧n≤mostA-t
  ·rw [if_pos hc,sumA_iff l (t+n) v (by omega) (by omega)]
   constructor
   ·rintro ⟨a,b,c⟩
    refine ⟨fun m hm=>?_,by omega,by omega⟩
    rcases List.mem_cons.1 hm with rfl | hm
    ·exact hc.1
    ·exact a m hm
   ·rintro ⟨a,b,c⟩
    exact ⟨fun m hm=>a m (List.mem_cons_of_mem _ hm),by omega,by omega⟩
  ·rw [if_neg hc]
   constructor
   ·intro h;cases h
   ·rintro ⟨a,b,_⟩
    have hn:=a n (by simp)
    have hp:=pos fun m hm=>a m (List.mem_cons_of_mem _ hm)
    exact absurd ⟨hn,by omega⟩ hc
theorem sum_nn {l:List Int} (h:∀ n∈l,0≤n):0≤l.sum:=by
 induction l with
 | nil=>simp
 | cons m l ih =>
  exact zt169
theorem sumB_iff (s:Sta) (v:Int):sumB s=some v↔((∀ n∈s.cash,0≤n)∧∀ n∈s.purses,0≤n)∧s.cash.sum+s.purses.sum≤mostA∧v=s.cash.sum+s.purses.sum:=by
 unfold sumB
 have h0:(0:Int)≤mostA:=by decide
 rw [Option.bind_eq_some_iff]
 constructor
 ·rintro ⟨t,h1,h2⟩
  obtain ⟨a,b,c⟩:=(sumA_iff s.cash 0 t (Int.le_refl _) h0).1 h1
  have hn:=sum_nn a
  obtain ⟨d,e,f⟩:=(sumA_iff s.purses t v (by omega) (by omega)).1 h2
  exact ⟨⟨a,d⟩,by omega,by omega⟩
 ·rintro ⟨⟨a,d⟩,b,c⟩
  have hn:=sum_nn a
  have hp:=sum_nn d
  exact ⟨s.cash.sum,(sumA_iff s.cash 0 _ (Int.le_refl _) h0).2 ⟨a,by omega,by omega⟩,(sumA_iff s.purses _ v om0 om0).2 ⟨d,by omega,by omega⟩⟩
theorem sumB_some (s:Sta):(sumB s).isSome=true↔((∀ n∈s.cash,0≤n)∧∀ n∈s.purses,0≤n)∧s.cash.sum+s.purses.sum≤mostA:=by
 rw [Option.isSome_iff_exists]
 constructor
 ·rintro ⟨v,h⟩
  obtain ⟨a,b,_⟩:=(sumB_iff s v).1 h
  exact ⟨a,b⟩
 ·rintro ⟨a,b⟩
  exact ⟨_,(sumB_iff s _).2 ⟨a,b,rfl⟩⟩
theorem mem_le_sum {l:List Int} (h:∀ n∈l,0≤n):∀ n∈l,n≤l.sum:=by
 induction l with
 | nil=>intro n hn;cases hn
 | cons m l ih =>
  intro n hn
  have a:=h m (by simp)
  have b:=sum_nn fun k hk=>h k (List.mem_cons_of_mem m hk)
  rw [List.sum_cons]
  rcases List.mem_cons.1 hn with rfl | hn
  ·omega
  ·have:=ih (fun k hk=>h k (List.mem_cons_of_mem m hk)) n hn
   omega
theorem inB_all {a b:Int} {l:List Int}:inB a b l=true↔∀ n∈l,a≤n∧n≤b:=by
 unfold inB
 simp
theorem n0_of {a b n:Int} (h:inB a b [n]=true) (ha:0≤a) (hb:b≤9223372036854775807):N0 n:=by
 have:=inB_all.1 h n (by simp)
 unfold N0 in64
 omega
theorem i64_of {a b n:Int} {l:List Int} (h:inB a b l=true) (hn:n∈l) (ha:-9223372036854775808≤a) (hb:b≤9223372036854775807):in64 n:=by
 have:=inB_all.1 h n hn
 unfold in64
 omega
theorem lexR_short {s:List UInt8} {T:List Tok} (h:lexR s=.ok T):s.length≤4000:=by
 unfold lexR at h
 split at h
 ·cases h
 ·omega
theorem parses_short {s:List UInt8} (h:parsesB s=true):s.length≤4000:=by
 unfold parsesB parseR at h
 cases hl:lexR s with
 | error e=>rw [hl] at h;cases h
 | ok T=>exact lexR_short hl
theorem facts_all:∀ (l:List Fac) (k:Int),factsFrom k l=true→∀ f∈l,factOne f=true
 | [],_,_,f,hf=>by cases hf
 | g::l,k,h,f,hf=>by
  unfold factsFrom at h
  simp only [Bool.and_eq_true] at h
  rcases List.mem_cons.1 hf with rfl | hf
  ·exact h.1.1
  ·exact facts_all l _ h.2 f hf
theorem right_W {s:Sta} (h:rightS s=true):StW s:=by
 unfold rightS at h
 simp only [Bool.and_eq_true,decide_eq_true_eq,List.all_eq_true] at h
 obtain ⟨⟨⟨⟨⟨⟨hsum,hday⟩,hcl⟩,hpl⟩,hout⟩,⟨⟨hll,hpay⟩,hpro⟩,hfac⟩,⟨hl,hp⟩,hq⟩:=h
 obtain ⟨⟨c0,p0⟩,hm⟩:=(sumB_some s).1 hsum
 have cs:=sum_nn c0
 have ps:=sum_nn p0
 have hM:mostA=1000000000000000000:=rfl
 have uni:∀ {k:Int} {l:List Int},unitsOk k l=true→∀ n∈l,in64 n:=fun h n hn=>by
  unfold unitsOk at h
  simp only [Bool.and_eq_true] at h
  exact i64_of h.2 hn dd0 dd0
 have ul:∀ {k:Int} {l:List Int},unitsOk k l=true→k≤20000→l.length≤9223372036854775807:=fun h hk=>by
  unfold unitsOk at h
  simp only [Bool.and_eq_true,decide_eq_true_eq] at h
  omega
 refine ⟨n0_of hday (by decide) (by decide),⟨fun n hn=>?_,by omega⟩,⟨fun n hn=>?_,by omega⟩,i64_of hout (by simp) (by decide) (by decide),⟨fun x hx=>?_,by omega⟩,⟨fun x hx=>?_,?_⟩,⟨fun x hx=>?_,by omega⟩,⟨fun x hx=>?_,by omega⟩⟩
 ·have a:=c0 n hn
  have b:=mem_le_sum c0 n hn
  unfold N0 in64
  omega
 ·have a:=p0 n hn
  have b:=mem_le_sum p0 n hn
  unfold N0 in64
  omega
 ·have h:=hl x hx
  unfold lineOk at h
  simp only [Bool.and_eq_true,decide_eq_true_eq,List.all_eq_true,Bool.or_eq_true] at h
  obtain ⟨⟨⟨⟨hp,⟨hu,hn⟩,hna⟩,⟨hfc,hpr⟩,hsi⟩,hsl⟩,hst⟩:=h
  refine ⟨by have:=parses_short hp;omega,⟨uni hu,ul hu (by omega)⟩,?_,i64_of hna (by simp) (by decide) (by decide),⟨fun b hb=>?_,by omega⟩,i64_of hfc (by simp) (by decide) (by decide),i64_of hfc (by simp) (by decide) (by decide),n0_of hpr (by decide) (by decide),n0_of hsi (by decide) (by decide)⟩
  ·rcases hn with hn | hn
   ·rw [hn];exact ⟨fun n hn=>(by cases hn),by simp⟩
   ·exact ⟨uni hn,ul hn om0⟩
  ·have h:=hst b hb
   unfold stageOk at h
   simp only [Bool.and_eq_true] at h
   exact ⟨n0_of h.1 dd0 dd0,n0_of h.2 dd0 dd0⟩
 ·unfold factsOk at hfac
  simp only [Bool.and_eq_true,decide_eq_true_eq] at hfac
  have h:=facts_all _ _ hfac.2 x hx
  unfold factOne at h
  simp only [Bool.and_eq_true,decide_eq_true_eq] at h
  obtain ⟨⟨⟨⟨⟨a,b⟩,⟨c,d⟩,e⟩,f⟩,g⟩,n⟩:=h
  have hnl:=name_len n
  refine ⟨?_,by omega,?_,?_,?_⟩<;>unfold N0 in64<;>omega
 ·unfold factsOk at hfac
  simp only [Bool.and_eq_true,decide_eq_true_eq] at hfac
  omega
 ·have h:=hp x hx
  unfold payOk at h
  simp only [Bool.and_eq_true] at h
  obtain ⟨⟨⟨⟨⟨a,b⟩,c⟩,d⟩,e⟩,f⟩:=h
  have hd:=inB_all.1 d x.due (by simp)
  exact ⟨n0_of a (by decide) (by omega),n0_of b (by decide) (by omega),n0_of c (by decide) (by decide),n0_of d (by decide) (by decide),n0_of e (by decide) (by omega),i64_of f (by simp) (by decide) (by decide)⟩
 ·have h:=hq x hx
  unfold proOk at h
  simp only [Bool.and_eq_true,decide_eq_true_eq,List.all_eq_true] at h
  obtain ⟨⟨⟨⟨⟨a,b⟩,c⟩,d⟩,e⟩,f⟩:=h
  refine ⟨n0_of a dd0 om0,by omega,n0_of c dd0 dd0,⟨uni d,ul d om0⟩,⟨fun v hv=>?_,by omega⟩⟩
  have h:=f v hv
  unfold voteOk at h
  simp only [Bool.and_eq_true] at h
  exact ⟨n0_of h.1 dd0 om0,n0_of h.2 dd0 dd0⟩
theorem stS_ne {s:Sta} (h:N0 s.day):stS s≠[]:=by
 unfold stS numsS
 simp only [List.flatMap_cons,List.append_assoc]
 intro e
 exact numS_ne h.1 (List.append_eq_nil_iff.1 e).1
theorem read_back {s:Sta} (h:rightS s=true):stT s≠[]∧stQ ⟨stT s,false⟩=(s,⟨[],false⟩)∧readB (stT s)=true:=by
 have w:=right_W h
 have e:stT s=stS s:=by unfold stT;rw [if_pos h]
 have hb:=bk_st s [] w
 rw [List.append_nil] at hb
 have hne:stT s≠[]:=by rw [e];exact stS_ne w.day
 refine ⟨hne,by rw [e];exact hb,?_⟩
 unfold readB
 rw [decide_eq_false hne,e,hb]
 simp only [doneB]
 rw [e]
 simp
theorem incS_ok (n a b:Int):APureV Tryz.prog 136 [.int .i64 n,.rop [.int .i64 a],.rop [.int .i64 b]] (.bool (decide (n<a)||decide (b<n))):=by
 refine aO (cxOk 13 [0,1,2,4]) Tryz.func136 ?_
 conv=>whnf
 rfl
theorem inS_ok (a b:Int) (l:List Int) (hl:l.length≤9223372036854775807):APureV Tryz.prog 56 [.int .i64 a,.int .i64 b,.sl 1 encI 0 l] (.bool (inB a b l)):=by
 have h:=anyI_ok l 136 a b (fun n=>decide (n<a)||decide (b<n)) (fun e _=>incS_ok e a b) hl
 have he:inB a b l=!(l.any fun n=>decide (n<a)||decide (b<n)):=by
  unfold inB
  clear h hl
  induction l with
  | nil=>rfl
  | cons x l ih =>
   simp only [List.all_cons,List.any_cons]
   rw [ih]
   have e1:decide (x<a)=!decide (a≤x):=by by_cases h:a≤x<;>simp [h]<;>omega
   have e2:decide (b<x)=!decide (x≤b):=by by_cases h:x≤b<;>simp [h]<;>omega
   rw [e1,e2]
   cases decide (a≤x)<;>cases decide (x≤b)<;>simp
 refine aO (cxOk 11 [0,1,2,3,4,6]) Tryz.func56 ?_
 conv=>whnf
 refine .one _ _ _ (fun _=>h) (.cons (lS rfl) (.cons (.fn _ _ _ _ _ _ _ .nil (.cons (.box _ _ _ _ _ _ rfl (.cons (.base (.same _ rfl)) .nil) (fun q hq=>(by rcases List.mem_singleton.1 hq with rfl;rfl))) (.cons (.box _ _ _ _ _ _ rfl (.cons (.base (.same _ rfl)) .nil) (fun q hq=>(by rcases List.mem_singleton.1 hq with rfl;rfl))) .nil))) .nil)) (.inr fun r hr=>zp30) (.inl rfl) (cW ?_)
 rw [he]
 rfl
abbrev dayV:AV:=.fn (.func 55) [] []
abbrev unV (seats:Int):AV:=.fn (.func 57) [] [.rop [.int .i64 seats]]
theorem idxB_ok (l:List Brc) (c:AV) (ht:c.tree=true) (h1:c.one=true) (p:Brc→Bool) (hf:∀ e∈l,APureV Tryz.prog 138 [encBr e,.rop [c]] (.bool (p e))) (hl:l.length≤9223372036854775807) :
  APureV Tryz.prog 180 [.sl 2 encBr br0 l,.fn (.func 138) [] [.rop [c]]] (.int .i64 (idxP p l)):=by
 refine aO (cxOk 19 [0,1,4,5,7,8,9,16]) Tryz.func180 ?_
 conv=>whnf
 refine loop_up (cxOk _ _) l.length (fun k=>∀ j,j<k→p (l.getD j br0)=false) (fun k=>⟨[(0,.sl 2 encBr br0 l),(1,.fn (.func 138) [] [.rop [c]]),(7,.int .i64 (l.length:Nat)),(8,.int .i64 (k:Nat))],[],0⟩) zp15 ((wk_of [] rfl ⟨wa0,.fn _ _ _ _ _ ac0 ac0,wa0,wa0,trivial⟩ trivial)) ?_
 intro k hk hP
 conv=>whnf
 refine ⟨fun hd=>?_,fun hd=>?_⟩
 ·have hd:=of_decide_eq_true hd
  have hlt:k<l.length:=by omega
  have hek:(k:Int).toNat=k:=Int.toNat_natCast k
  have hc:=hf _ (getD_mem (d:=br0) hlt)
  exact zt3
 ·exact zt24
theorem zt28 {p:Prop}(h:p:=by
 conv=>whnf
 refine .one _ _ _ (fun _=>h) aj0 ai0 ah0 (cW ?_)
 show [AR.val (AV.bool (decide (idxP p l ≥ 0)))]=_
 rw [← idxP_any p l]):p:=h
theorem anyB_ok (l:List Brc) (p:Brc→Bool) (hf:∀ e∈l,APureV Tryz.prog 138 [encBr e,.rop [.fn (.func 60) [] [.rop [.fn (.func 55) [] []]]]] (.bool (p e))) (hl:l.length≤9223372036854775807) :
  APureV Tryz.prog 137 [.sl 2 encBr br0 l,.fn (.func 138) [] [.rop [.fn (.func 60) [] [.rop [.fn (.func 55) [] []]]]]] (.bool (l.any p)):=by
 have h:=idxB_ok l (.fn (.func 60) [] [.rop [.fn (.func 55) [] []]]) rfl rfl p hf hl
 refine aO (cxOk 9 [0,1,4]) Tryz.func137 ?_
 exact zt28
theorem zt59 {p:Prop}(h:p:=by
 conv=>whnf
 refine .one _ _ _ (fun _=>h) aj0 ai0 ah0 (cW ?_)
 rfl):p:=h
theorem allB_ok (l:List Brc) (p:Brc→Bool) (hf:∀ e∈l,APureV Tryz.prog 60 [encBr e,.rop [.fn (.func 55) [] []]] (.bool (p e))) (hl:l.length≤9223372036854775807) :
  APureV Tryz.prog 61 [.sl 2 encBr br0 l,.fn (.func 60) [] [.rop [.fn (.func 55) [] []]]] (.bool (l.all p)):=by
 have hc:∀ e∈l,APureV Tryz.prog 138 [encBr e,.rop [.fn (.func 60) [] [.rop [.fn (.func 55) [] []]]]] (.bool (!p e)):=fun e he=>by
  have h:=hf e he
  refine aO (cxOk 8 [0,1,2,3]) Tryz.func138 ?_
  exact zt45
 have h:=anyB_ok l (fun e=>!p e) hc hl
 have he:l.all p=!(l.any fun e=>!p e):=by rw [List.not_any_eq_all_not];simp
 rw [he]
 refine aO (cxOk 9 [0,1,3,4]) Tryz.func61 ?_
 exact zt59
theorem idxV_ok (l:List Vot) (c:AV) (ht:c.tree=true) (h1:c.one=true) (p:Vot→Bool) (hf:∀ e∈l,APureV Tryz.prog 140 [encVo e,.rop [c]] (.bool (p e))) (hl:l.length≤9223372036854775807) :
  APureV Tryz.prog 181 [.sl 3 encVo vo0 l,.fn (.func 140) [] [.rop [c]]] (.int .i64 (idxP p l)):=by
 refine aO (cxOk 19 [0,1,4,5,7,8,9,16]) Tryz.func181 ?_
 conv=>whnf
 refine loop_up (cxOk _ _) l.length (fun k=>∀ j,j<k→p (l.getD j vo0)=false) (fun k=>⟨[(0,.sl 3 encVo vo0 l),(1,.fn (.func 140) [] [.rop [c]]),(7,.int .i64 (l.length:Nat)),(8,.int .i64 (k:Nat))],[],0⟩) zp15 ((wk_of [] rfl ⟨wa0,.fn _ _ _ _ _ ac0 ac0,wa0,wa0,trivial⟩ trivial)) ?_
 intro k hk hP
 conv=>whnf
 refine ⟨fun hd=>?_,fun hd=>?_⟩
 ·have hd:=of_decide_eq_true hd
  have hlt:k<l.length:=by omega
  have hek:(k:Int).toNat=k:=Int.toNat_natCast k
  have hc:=hf _ (getD_mem (d:=vo0) hlt)
  exact zt3
 ·exact zt24
theorem anyV_ok (l:List Vot) (seats:Int) (p:Vot→Bool) (hf:∀ e∈l,APureV Tryz.prog 140 [encVo e,.rop [.fn (.func 64) [] [.rop [.int .i64 seats],.rop [.fn (.func 55) [] []]]]] (.bool (p e))) (hl:l.length≤9223372036854775807) :
  APureV Tryz.prog 139 [.sl 3 encVo vo0 l,.fn (.func 140) [] [.rop [.fn (.func 64) [] [.rop [.int .i64 seats],.rop [.fn (.func 55) [] []]]]]] (.bool (l.any p)):=by
 have h:=idxV_ok l (.fn (.func 64) [] [.rop [.int .i64 seats],.rop [.fn (.func 55) [] []]]) rfl rfl p hf hl
 refine aO (cxOk 9 [0,1,4]) Tryz.func139 ?_
 exact zt28
theorem allV_ok (l:List Vot) (seats:Int) (p:Vot→Bool) (hf:∀ e∈l,APureV Tryz.prog 64 [encVo e,.rop [.int .i64 seats],.rop [.fn (.func 55) [] []]] (.bool (p e))) (hl:l.length≤9223372036854775807) :
  APureV Tryz.prog 65 [.sl 3 encVo vo0 l,.fn (.func 64) [] [.rop [.int .i64 seats],.rop [.fn (.func 55) [] []]]] (.bool (l.all p)):=by
 have hc:∀ e∈l,APureV Tryz.prog 140 [encVo e,.rop [.fn (.func 64) [] [.rop [.int .i64 seats],.rop [.fn (.func 55) [] []]]]] (.bool (!p e)):=fun e he=>by
  have h:=hf e he
  refine aO (cxOk 8 [0,1,2,3]) Tryz.func140 ?_
  exact zt45
 have h:=anyV_ok l seats (fun e=>!p e) hc hl
 have he:l.all p=!(l.any fun e=>!p e):=by rw [List.not_any_eq_all_not];simp
 rw [he]
 refine aO (cxOk 9 [0,1,3,4]) Tryz.func65 ?_
 exact zt59
theorem idxLn_ok (l:List Lin) (c:AV) (ht:c.tree=true) (h1:c.one=true) (p:Lin→Bool) (hf:∀ e∈l,APureV Tryz.prog 142 [encLi e,.rop [c]] (.bool (p e))) (hl:l.length≤9223372036854775807) :
  APureV Tryz.prog 182 [.sl 10 encLi li0 l,.fn (.func 142) [] [.rop [c]]] (.int .i64 (idxP p l)):=by
 refine aO (cxOk 19 [0,1,4,5,7,8,9,16]) Tryz.func182 ?_
 conv=>whnf
 refine loop_up (cxOk _ _) l.length (fun k=>∀ j,j<k→p (l.getD j li0)=false) (fun k=>⟨[(0,.sl 10 encLi li0 l),(1,.fn (.func 142) [] [.rop [c]]),(7,.int .i64 (l.length:Nat)),(8,.int .i64 (k:Nat))],[],0⟩) zp15 ((wk_of [] rfl ⟨wa0,.fn _ _ _ _ _ ac0 ac0,wa0,wa0,trivial⟩ trivial)) ?_
 intro k hk hP
 conv=>whnf
 refine ⟨fun hd=>?_,fun hd=>?_⟩
 ·have hd:=of_decide_eq_true hd
  have hlt:k<l.length:=by omega
  have hek:(k:Int).toNat=k:=Int.toNat_natCast k
  have hc:=hf _ (getD_mem (d:=li0) hlt)
  exact zt3
 ·exact zt24
theorem anyLn_ok (l:List Lin) (seats:Int) (p:Lin→Bool) (hf:∀ e∈l,APureV Tryz.prog 142 [encLi e,.rop [.fn (.func 59) [] [.rop [.fn (.func 55) [] []],.rop [.fn (.func 57) [] [.rop [.int .i64 seats]]]]]] (.bool (p e))) (hl:l.length≤9223372036854775807) :
  APureV Tryz.prog 141 [.sl 10 encLi li0 l,.fn (.func 142) [] [.rop [.fn (.func 59) [] [.rop [.fn (.func 55) [] []],.rop [.fn (.func 57) [] [.rop [.int .i64 seats]]]]]]] (.bool (l.any p)):=by
 have h:=idxLn_ok l (.fn (.func 59) [] [.rop [.fn (.func 55) [] []],.rop [.fn (.func 57) [] [.rop [.int .i64 seats]]]]) rfl rfl p hf hl
 refine aO (cxOk 9 [0,1,4]) Tryz.func141 ?_
 exact zt28
theorem allLn_ok (l:List Lin) (seats:Int) (p:Lin→Bool) (hf:∀ e∈l,APureV Tryz.prog 59 [encLi e,.rop [.fn (.func 55) [] []],.rop [.fn (.func 57) [] [.rop [.int .i64 seats]]]] (.bool (p e))) (hl:l.length≤9223372036854775807) :
  APureV Tryz.prog 66 [.sl 10 encLi li0 l,.fn (.func 59) [] [.rop [.fn (.func 55) [] []],.rop [.fn (.func 57) [] [.rop [.int .i64 seats]]]]] (.bool (l.all p)):=by
 have hc:∀ e∈l,APureV Tryz.prog 142 [encLi e,.rop [.fn (.func 59) [] [.rop [.fn (.func 55) [] []],.rop [.fn (.func 57) [] [.rop [.int .i64 seats]]]]]] (.bool (!p e)):=fun e he=>by
  have h:=hf e he
  refine aO (cxOk 8 [0,1,2,3]) Tryz.func142 ?_
  exact zt45
 have h:=anyLn_ok l seats (fun e=>!p e) hc hl
 have he:l.all p=!(l.any fun e=>!p e):=by rw [List.not_any_eq_all_not];simp
 rw [he]
 refine aO (cxOk 9 [0,1,3,4]) Tryz.func66 ?_
 exact zt59
theorem idxP_ok (l:List Pay) (c:AV) (ht:c.tree=true) (h1:c.one=true) (p:Pay→Bool) (hf:∀ e∈l,APureV Tryz.prog 144 [encPa e,.rop [c]] (.bool (p e))) (hl:l.length≤9223372036854775807) :
  APureV Tryz.prog 183 [.sl 6 encPa pa0 l,.fn (.func 144) [] [.rop [c]]] (.int .i64 (idxP p l)):=by
 refine aO (cxOk 19 [0,1,4,5,7,8,9,16]) Tryz.func183 ?_
 conv=>whnf
 refine loop_up (cxOk _ _) l.length (fun k=>∀ j,j<k→p (l.getD j pa0)=false) (fun k=>⟨[(0,.sl 6 encPa pa0 l),(1,.fn (.func 144) [] [.rop [c]]),(7,.int .i64 (l.length:Nat)),(8,.int .i64 (k:Nat))],[],0⟩) zp15 ((wk_of [] rfl ⟨wa0,.fn _ _ _ _ _ ac0 ac0,wa0,wa0,trivial⟩ trivial)) ?_
 intro k hk hP
 conv=>whnf
 refine ⟨fun hd=>?_,fun hd=>?_⟩
 ·have hd:=of_decide_eq_true hd
  have hlt:k<l.length:=by omega
  have hek:(k:Int).toNat=k:=Int.toNat_natCast k
  have hc:=hf _ (getD_mem (d:=pa0) hlt)
  exact zt3
 ·exact zt24
theorem anyP_ok (l:List Pay) (lines seats:Int) (p:Pay→Bool) (hf:∀ e∈l,APureV Tryz.prog 144 [encPa e,.rop [.fn (.func 62) [] [.rop [.int .i64 lines],.rop [.int .i64 seats],.rop [.fn (.func 55) [] []]]]] (.bool (p e))) (hl:l.length≤9223372036854775807) :
  APureV Tryz.prog 143 [.sl 6 encPa pa0 l,.fn (.func 144) [] [.rop [.fn (.func 62) [] [.rop [.int .i64 lines],.rop [.int .i64 seats],.rop [.fn (.func 55) [] []]]]]] (.bool (l.any p)):=by
 have h:=idxP_ok l (.fn (.func 62) [] [.rop [.int .i64 lines],.rop [.int .i64 seats],.rop [.fn (.func 55) [] []]]) rfl rfl p hf hl
 refine aO (cxOk 9 [0,1,4]) Tryz.func143 ?_
 exact zt28
theorem allP_ok (l:List Pay) (lines seats:Int) (p:Pay→Bool) (hf:∀ e∈l,APureV Tryz.prog 62 [encPa e,.rop [.int .i64 lines],.rop [.int .i64 seats],.rop [.fn (.func 55) [] []]] (.bool (p e))) (hl:l.length≤9223372036854775807) :
  APureV Tryz.prog 67 [.sl 6 encPa pa0 l,.fn (.func 62) [] [.rop [.int .i64 lines],.rop [.int .i64 seats],.rop [.fn (.func 55) [] []]]] (.bool (l.all p)):=by
 have hc:∀ e∈l,APureV Tryz.prog 144 [encPa e,.rop [.fn (.func 62) [] [.rop [.int .i64 lines],.rop [.int .i64 seats],.rop [.fn (.func 55) [] []]]]] (.bool (!p e)):=fun e he=>by
  have h:=hf e he
  refine aO (cxOk 8 [0,1,2,3]) Tryz.func144 ?_
  exact zt45
 have h:=anyP_ok l lines seats (fun e=>!p e) hc hl
 have he:l.all p=!(l.any fun e=>!p e):=by rw [List.not_any_eq_all_not];simp
 rw [he]
 refine aO (cxOk 9 [0,1,3,4]) Tryz.func67 ?_
 exact zt59
theorem idxR_ok (l:List Pro) (c:AV) (ht:c.tree=true) (h1:c.one=true) (p:Pro→Bool) (hf:∀ e∈l,APureV Tryz.prog 146 [encPr e,.rop [c]] (.bool (p e))) (hl:l.length≤9223372036854775807) :
  APureV Tryz.prog 184 [.sl 6 encPr pr0 l,.fn (.func 146) [] [.rop [c]]] (.int .i64 (idxP p l)):=by
 refine aO (cxOk 19 [0,1,4,5,7,8,9,16]) Tryz.func184 ?_
 conv=>whnf
 refine loop_up (cxOk _ _) l.length (fun k=>∀ j,j<k→p (l.getD j pr0)=false) (fun k=>⟨[(0,.sl 6 encPr pr0 l),(1,.fn (.func 146) [] [.rop [c]]),(7,.int .i64 (l.length:Nat)),(8,.int .i64 (k:Nat))],[],0⟩) zp15 ((wk_of [] rfl ⟨wa0,.fn _ _ _ _ _ ac0 ac0,wa0,wa0,trivial⟩ trivial)) ?_
 intro k hk hP
 conv=>whnf
 refine ⟨fun hd=>?_,fun hd=>?_⟩
 ·have hd:=of_decide_eq_true hd
  have hlt:k<l.length:=by omega
  have hek:(k:Int).toNat=k:=Int.toNat_natCast k
  have hc:=hf _ (getD_mem (d:=pr0) hlt)
  exact zt3
 ·exact zt24
theorem anyR_ok (l:List Pro) (lines seats:Int) (p:Pro→Bool) (hf:∀ e∈l,APureV Tryz.prog 146 [encPr e,.rop [.fn (.func 63) [] [.rop [.int .i64 seats],.rop [.fn (.func 55) [] []],.rop [.int .i64 lines],.rop [.fn (.func 57) [] [.rop [.int .i64 seats]]]]]] (.bool (p e))) (hl:l.length≤9223372036854775807) :
  APureV Tryz.prog 145 [.sl 6 encPr pr0 l,.fn (.func 146) [] [.rop [.fn (.func 63) [] [.rop [.int .i64 seats],.rop [.fn (.func 55) [] []],.rop [.int .i64 lines],.rop [.fn (.func 57) [] [.rop [.int .i64 seats]]]]]]] (.bool (l.any p)):=by
 have h:=idxR_ok l (.fn (.func 63) [] [.rop [.int .i64 seats],.rop [.fn (.func 55) [] []],.rop [.int .i64 lines],.rop [.fn (.func 57) [] [.rop [.int .i64 seats]]]]) rfl rfl p hf hl
 refine aO (cxOk 9 [0,1,4]) Tryz.func145 ?_
 exact zt28
theorem allR_ok (l:List Pro) (lines seats:Int) (p:Pro→Bool) (hf:∀ e∈l,APureV Tryz.prog 63 [encPr e,.rop [.int .i64 seats],.rop [.fn (.func 55) [] []],.rop [.int .i64 lines],.rop [.fn (.func 57) [] [.rop [.int .i64 seats]]]] (.bool (p e))) (hl:l.length≤9223372036854775807) :
  APureV Tryz.prog 68 [.sl 6 encPr pr0 l,.fn (.func 63) [] [.rop [.int .i64 seats],.rop [.fn (.func 55) [] []],.rop [.int .i64 lines],.rop [.fn (.func 57) [] [.rop [.int .i64 seats]]]]] (.bool (l.all p)):=by
 have hc:∀ e∈l,APureV Tryz.prog 146 [encPr e,.rop [.fn (.func 63) [] [.rop [.int .i64 seats],.rop [.fn (.func 55) [] []],.rop [.int .i64 lines],.rop [.fn (.func 57) [] [.rop [.int .i64 seats]]]]]] (.bool (!p e)):=fun e he=>by
  have h:=hf e he
  refine aO (cxOk 8 [0,1,2,3]) Tryz.func146 ?_
  exact zt45
 have h:=anyR_ok l lines seats (fun e=>!p e) hc hl
 have he:l.all p=!(l.any fun e=>!p e):=by rw [List.not_any_eq_all_not];simp
 rw [he]
 refine aO (cxOk 9 [0,1,3,4]) Tryz.func68 ?_
 exact zt59
theorem inS1_ok (a b n:Int):APureV Tryz.prog 56 [.int .i64 a,.int .i64 b,.sl 1 encI 0 [n]] (.bool (inB a b [n])):=inS_ok a b [n] (by simp)
theorem inS2_ok (a b n m:Int):APureV Tryz.prog 56 [.int .i64 a,.int .i64 b,.sl 1 encI 0 [n,m]] (.bool (inB a b [n,m])):=inS_ok a b [n,m] (by simp)
theorem dayF_ok (n:Int):APureV Tryz.prog 55 [.int .i64 n] (.bool (dayOk n)):=by
 have h:=inS1_ok 0 200000 n
 refine aO (cxOk 6 [0,2]) Tryz.func55 ?_
 exact zt45
theorem unitsF_ok (seats:Int) (l:List Int) (hl:l.length≤9223372036854775807):APureV Tryz.prog 57 [.sl 1 encI 0 l,.rop [.int .i64 seats]] (.bool (unitsOk seats l)):=by
 have h:=inS_ok 0 1000000000 l hl
 refine aO (cxOk 12 [0,1,3]) Tryz.func57 ?_
 exact zt45
theorem stageF_ok (b:Brc):APureV Tryz.prog 60 [encBr b,.rop [dayV]] (.bool (stageOk b)):=by
 have h:=inS1_ok 0 3 b.stage
 have h2:=dayF_ok b.since
 refine aO (cxOk 14 [0,1,2,3]) Tryz.func60 ?_
 conv=>whnf
 refine cO (fun _=>h) ?_
 exact zt123
theorem voteF_ok (seats:Int) (hs:0≤seats∧seats≤9223372036854775807) (v:Vot):APureV Tryz.prog 64 [encVo v,.rop [.int .i64 seats],.rop [dayV]] (.bool (voteOk seats v)):=by
 have h:=inS1_ok 0 (seats-1) v.seat
 have h2:=dayF_ok v.day
 refine aO (cxOk 17 [0,1,2,3,4]) Tryz.func64 ?_
 conv=>whnf
 refine iO (cW ?_)
 refine cO (fun _=>h) ?_
 exact zt123
theorem zt19 {p:Prop}(h:p:=by
 refine aO (cxOk 46 [0,1,2,3,4,5]) Tryz.func62 ?_
 conv=>whnf
 refine iO (cW ?_)
 refine cO (fun _=>g1) (cW ?_)
 refine And.intro (fun _=>⟨by omega,by omega⟩) (cW ?_)
 refine nE (cW ?_)
 refine cO (fun _=>g2) (cW ?_)
 refine cO (fun _=>g3) (cW ?_)
 refine nE (cW ?_)
 refine cO (fun _=>g4) (cW ?_)
 refine nE (cW ?_)
 refine cO (fun _=>g5) (cW ?_)
 refine nE (cW ?_)
 refine cO (fun _=>g6) (cW ?_)
 rfl):p:=h
theorem zt17 {p:Prop}(h:p:=by
 conv=>whnf
 refine nD (cW ?_)
 refine cF [.int .i64 0,.int .i64 1000000000000000000,.undef] [.val (.bool false)] (cW ?_)
 refine nD (cW ?_)
 refine cF [.int .i64 0,.int .i64 p.due,.undef] [.val (.bool false)] (cW ?_)
 refine nD (cW ?_)
 refine cF [.int .i64 (-1),.int .i64 5000,.undef] [.val (.bool false)] (cW ?_)
 rfl):p:=h
theorem zt108 {p:Prop}(h:p:=by
 conv=>whnf
 refine nD (cW ?_)
 refine cF [.int .i64 (-1),.int .i64 5000,.undef] [.val (.bool false)] (cW ?_)
 rfl):p:=h
theorem payF_ok (lines seats:Int) (h1:0≤lines∧lines≤9223372036854775807) (hs:0≤seats∧seats≤9223372036854775807) (p:Pay):APureV Tryz.prog 62 [encPa p,.rop [.int .i64 lines],.rop [.int .i64 seats],.rop [dayV]] (.bool (payOk lines seats p)):=by
 have g1:=inS1_ok 0 (lines-1) p.issue
 have g2:=inS1_ok 0 (seats-1) p.seat
 have g3:=dayF_ok p.day
 have g4:=inS1_ok 0 1000000000000000000 p.due
 have g5:=inS1_ok 0 p.due p.paid
 have g6:=inS1_ok (-1) 5000 p.period
 have hM:mostA=1000000000000000000:=rfl
 cases e1:inB 0 (lines-1) [p.issue] with
 | false =>
  rw [e1] at g1
  rw [show payOk lines seats p=false by simp [payOk,hM,e1]]
  refine aO (cxOk 46 [0,1,2,3,4,5]) Tryz.func62 ?_
  conv=>whnf
  refine iO (cW ?_)
  refine cO (fun _=>g1) (cW ?_)
  refine And.intro (fun _=>⟨by omega,by omega⟩) (cW ?_)
  refine nD (cW ?_)
  refine cF [.int .i64 0,.int .i64 (seats-1),.undef] [.val (.bool false)] (cW ?_)
  refine cF [.int .i64 p.day] [.val (.bool false)] ?_
  exact zt17
 | true =>
  rw [e1] at g1
  cases e2:inB 0 (seats-1) [p.seat] with
  | false =>
   rw [e2] at g2
   rw [show payOk lines seats p=false by simp [payOk,hM,e1,e2]]
   refine aO (cxOk 46 [0,1,2,3,4,5]) Tryz.func62 ?_
   conv=>whnf
   refine iO (cW ?_)
   refine cO (fun _=>g1) (cW ?_)
   refine And.intro (fun _=>⟨by omega,by omega⟩) (cW ?_)
   refine nE (cW ?_)
   refine cO (fun _=>g2) (cW ?_)
   refine cF [.int .i64 p.day] [.val (.bool false)] ?_
   exact zt17
  | true =>
   rw [e2] at g2
   cases e3:dayOk p.day with
   | false =>
    rw [e3] at g3
    rw [show payOk lines seats p=false by simp [payOk,hM,e1,e2,e3]]
    refine aO (cxOk 46 [0,1,2,3,4,5]) Tryz.func62 ?_
    conv=>whnf
    refine iO (cW ?_)
    refine cO (fun _=>g1) (cW ?_)
    refine And.intro (fun _=>⟨by omega,by omega⟩) (cW ?_)
    refine nE (cW ?_)
    refine cO (fun _=>g2) (cW ?_)
    refine cO (fun _=>g3) ?_
    exact zt17
   | true =>
    rw [e3] at g3
    cases e4:inB 0 1000000000000000000 [p.due] with
    | false =>
     rw [e4] at g4
     rw [show payOk lines seats p=false by simp [payOk,hM,e1,e2,e3,e4]]
     refine aO (cxOk 46 [0,1,2,3,4,5]) Tryz.func62 ?_
     conv=>whnf
     refine iO (cW ?_)
     refine cO (fun _=>g1) (cW ?_)
     refine And.intro (fun _=>⟨by omega,by omega⟩) (cW ?_)
     refine nE (cW ?_)
     refine cO (fun _=>g2) (cW ?_)
     refine cO (fun _=>g3) (cW ?_)
     refine nE (cW ?_)
     refine cO (fun _=>g4) (cW ?_)
     refine nD (cW ?_)
     refine cF [.int .i64 0,.int .i64 p.due,.undef] [.val (.bool false)] ?_
     exact zt108
    | true =>
     rw [e4] at g4
     cases e5:inB 0 p.due [p.paid] with
     | false =>
      rw [e5] at g5
      rw [show payOk lines seats p=false by simp [payOk,hM,e1,e2,e3,e4,e5]]
      refine aO (cxOk 46 [0,1,2,3,4,5]) Tryz.func62 ?_
      conv=>whnf
      refine iO (cW ?_)
      refine cO (fun _=>g1) (cW ?_)
      refine And.intro (fun _=>⟨by omega,by omega⟩) (cW ?_)
      refine nE (cW ?_)
      refine cO (fun _=>g2) (cW ?_)
      refine cO (fun _=>g3) (cW ?_)
      refine nE (cW ?_)
      refine cO (fun _=>g4) (cW ?_)
      refine nE (cW ?_)
      refine cO (fun _=>g5) ?_
      exact zt108
     | true =>
      rw [e5] at g5
      cases e6:inB (-1) 5000 [p.period] with
      | false =>
       rw [e6] at g6
       rw [show payOk lines seats p=false by simp [payOk,hM,e1,e2,e3,e4,e5,e6]]
       exact zt19
      | true =>
       rw [e6] at g6
       rw [show payOk lines seats p=true by simp [payOk,hM,e1,e2,e3,e4,e5,e6]]
       exact zt19
def sumLs:Int→List (List Int)→Option Int
 | t,[]=>some t
 | t,l::L=>(sumA t l).bind fun u=>sumLs u L
def sumR:Option Int→List AR
 | some v=>[.val (.int .i64 v),.val (.bool true)]
 | none=>[.val (.int .i64 0),.val (.bool false)]
theorem sumLs_two (s:Sta):sumLs 0 [s.cash,s.purses]=sumB s:=by
 unfold sumB
 simp only [sumLs]
 congr 1
 funext t
 cases sumA t s.purses<;>rfl
def encIs' (l:List Int):AV:=.sl 1 encI 0 l
theorem drop_cons' {α:Type} {l:List α} {k:Nat} (d:α) (h:k<l.length):l.drop k=l.getD k d::l.drop (k+1):=by
 rw [List.drop_eq_getElem_cons h]
 simp [List.getD,List.getElem?_eq_getElem h]
theorem sumF_ok (L:List (List Int)) (hL:L.length≤9223372036854775807) (hl:∀ l∈L,l.length≤9223372036854775807):APure Tryz.prog 58 [.sl 1 encIs' [] L] (fun rs=>rs=sumR (sumLs 0 L)):=by
 refine aO (cxOk 33 [0,2,3,4,6,8,9,10,11,12,15,16,17,18,26]) Tryz.func58 ?_
 conv=>whnf
 refine loop_inv (cxOk _ _) (σ:=Nat×Int) (fun s=>s.1≤L.length∧0≤s.2∧s.2≤mostA∧sumLs s.2 (L.drop s.1)=sumLs 0 L) (fun s=>L.length-s.1) (fun s=>⟨[(4,.int .i64 (s.2)),(9,.sl 1 encIs' [] L),(10,.int .i64 (L.length:Nat)),(11,.int .i64 ((s.1):Nat))],[],0⟩) (0,0) ⟨Nat.zero_le _,Int.le_refl _,by decide,rfl⟩ ((wk_of [] rfl ⟨wa0,wa0,wa0,wa0,trivial⟩ trivial)) ?_
 rintro ⟨i,t⟩ ⟨hi,h0,hm,hP⟩
 simp only at hi h0 hm hP
 show evCode _ _ (⟨[(4,.int .i64 t),(9,.sl 1 encIs' [] L),(10,.int .i64 (L.length:Nat)),(11,.int .i64 (i:Nat))],[],0⟩) _
 have hM:mostA=1000000000000000000:=rfl
 conv=>whnf
 refine ⟨fun hc=>?_,fun hc=>?_⟩
 ·have hc:=of_decide_eq_true hc
  have hlt:i<L.length:=by omega
  have hek:(i:Int).toNat=i:=Int.toNat_natCast i
  have hll:=hl _ (getD_mem (d:=[]) hlt)
  rw [drop_cons' [] hlt] at hP
  simp only [sumLs] at hP
  conv=>whnf
  refine iO (cW ?_)
  refine And.intro rfl (cW ?_)
  rw [hek]
  generalize L.getD i []=l at *
  conv=>whnf
  refine loop_inv (cxOk _ _) (σ:=Nat×Int) (fun s=>s.1≤l.length∧0≤s.2∧s.2≤mostA∧((sumA s.2 (l.drop s.1)).bind fun u=>sumLs u (L.drop (i+1)))=sumLs 0 L) (fun s=>l.length-s.1) (fun s=>⟨[(4,.int .i64 (s.2)),(9,.sl 1 encIs' [] L),(10,.int .i64 (L.length:Nat)),(11,.int .i64 (i:Nat)),(15,.sl 1 encI 0 l),(16,.int .i64 (l.length:Nat)),(17,.int .i64 ((s.1):Nat))],[],0⟩) (0,t) ⟨Nat.zero_le _,h0,hm,hP⟩ ((wk_of [] rfl ⟨wa0,wa0,wa0,wa0,wa0,wa0,wa0,trivial⟩ trivial)) ?_
  rintro ⟨k,u⟩ ⟨hk,h0,hm,hP⟩
  simp only at hk h0 hm hP
  show evCode _ _ (⟨[(4,.int .i64 u),(9,.sl 1 encIs' [] L),(10,.int .i64 (L.length:Nat)),(11,.int .i64 (i:Nat)),(15,.sl 1 encI 0 l),(16,.int .i64 (l.length:Nat)),(17,.int .i64 (k:Nat))],[],0⟩) _
  conv=>whnf
  refine ⟨fun hd=>?_,fun hd=>?_⟩
  ·have hd:=of_decide_eq_true hd
   have hlk:k<l.length:=by omega
   have hekk:(k:Int).toNat=k:=Int.toNat_natCast k
   rw [drop_cons' 0 hlk,sumA] at hP
   have hin:=inS1_ok 0 (1000000000000000000-u) (l.getD k 0)
   have hib:inB 0 (1000000000000000000-u) [l.getD k 0]=true↔0≤l.getD k 0∧l.getD k 0≤mostA-u:=by rw [inB_all,hM];simp
   conv=>whnf
   refine iO (cW ?_)
   refine And.intro rfl (cW ?_)
   refine iO (cW ?_)
   rw [hekk]
   generalize l.getD k 0=n at *
   conv=>whnf
   refine cO (fun _=>hin) (cW ?_)
   refine ⟨fun he=>?_,fun he=>?_⟩
   ·rw [if_neg (fun h=>by rw [hib.2 h] at he;cases he)] at hP
    rw [← hP]
    conv=>whnf
    rfl
   ·have he:inB 0 (1000000000000000000-u) [n]=true:=by simpa using he
    have hn:=hib.1 he
    rw [if_pos hn] at hP
    conv=>whnf
    refine iO (cW ?_)
    refine iO (cW ?_)
    refine ⟨(k+1,u+n),⟨hlk,by show 0≤u+n;omega,by show u+n≤mostA;omega,hP⟩,by show l.length-(k+1)<l.length-k;omega,(wk_of [] rfl ⟨wa0,wa0,wa0,wa0,wa0,wa0,wa0,trivial⟩ trivial)⟩
  ·have hd:=of_decide_eq_false hd
   obtain rfl:k=l.length:=by omega
   rw [List.drop_length,sumA] at hP
   conv=>whnf
   refine iO (cW ?_)
   refine ⟨(i+1,u),⟨hlt,h0,hm,hP⟩,by show L.length-(i+1)<L.length-i;omega,(wk_of [] rfl ⟨wa0,wa0,wa0,wa0,trivial⟩ trivial)⟩
 ·have hc:=of_decide_eq_false hc
  obtain rfl:i=L.length:=by omega
  rw [List.drop_length,sumLs] at hP
  rw [← hP]
  conv=>whnf
  rfl
structure Sr where
 r:List Tok
 er:Option Er
def nextS (s:Sr):Tok:=match s.er with
 | none=>hdT s.r
 | some _=>t0
def failS (e:Int) (s:Sr):Sr:=match s.er with
 | none=>⟨s.r,some ((hdT s.r).pos,e)⟩
 | some _=>s
def isS (w:List UInt8) (s:Sr):Bool:=decide ((nextS s).kind≠3)&&decide ((nextS s).text=w)
def advS (s:Sr):Sr:=⟨s.r.tail,s.er⟩
def wantS (w:List UInt8) (s:Sr):Sr:=if isS w s=true then advS s else failS 12 s
def namedS (s:Sr):Bool:=decide ((nextS s).kind=0)&&nameB (nextS s).text
def nameS (s:Sr):List UInt8×Sr:=if namedS s=true then ((nextS s).text,advS s) else ([],failS 12 s)
def numSr (a b:Int) (s:Sr):Int×Sr :=
 if (nextS s).kind≠1 then (0,failS 12 s) else if a≤(nextS s).n∧(nextS s).n≤b then ((nextS s).n,advS s) else (0,failS 3 s)
abbrev Req:=Int→Sr→Exp×Sr
def unitS (s:Sr):Int×Sr :=
 if isS [99,111,105,110,115] s=true then (1,advS s)
 else if isS [100,97,121,115] s=true then (3,advS s)
 else if isS [109,105,108,108,101] s=true then (2,advS s)
 else (0,s)
def withinS (ex:Req) (op:Int) (s:Sr):Exp×Sr :=
 (.mk op (numSr 1 1000 s).1 0 [] [(ex 0 (wantS [40] (numSr 1 1000 s).2)).1],wantS [41] (ex 0 (wantS [40] (numSr 1 1000 s).2)).2)
def namedE (op:Int) (s:Sr):Exp×Sr:=(.mk op 0 0 (nameS s).1 [],(nameS s).2)
def pairS (ex:Req) (op:Int) (s:Sr):Exp×Sr :=
 (.mk op 0 0 [] [(ex 0 (wantS [40] s)).1,(ex 0 (wantS [44] (ex 0 (wantS [40] s)).2)).1],wantS [41] (ex 0 (wantS [44] (ex 0 (wantS [40] s)).2)).2)
def parenS (ex:Req) (s:Sr):Exp×Sr:=((ex 0 s).1,wantS [41] (ex 0 s).2)
def primS (ex:Req) (s:Sr):Exp×Sr :=
 if (nextS s).kind=1 then (.mk 0 (nextS s).n (unitS (advS s)).1 [] [],(unitS (advS s)).2)
 else if isS [116,114,117,101] s=true then (.mk 0 1 4 [] [],advS s)
 else if isS [102,97,108,115,101] s=true then (.mk 0 0 4 [] [],advS s)
 else if isS [102,97,99,116] s=true then namedE 2 (advS s)
 else if isS [114,97,116,101] s=true then namedE 3 (advS s)
 else if isS [101,118,101,114] s=true then withinS ex 16 (advS s)
 else if isS [108,111,110,103] s=true then withinS ex 17 (advS s)
 else if isS [115,111,111,110] s=true then withinS ex 18 (advS s)
 else if isS [109,105,110] s=true then pairS ex 8 (advS s)
 else if isS [109,97,120] s=true then pairS ex 9 (advS s)
 else if isS [40] s=true then parenS ex (advS s)
 else namedE 1 s
def symT (t:Tok):Int×Int :=
 if t.kind=3 then (-1,0)
 else if t.text=[111,114] then (14,1)
 else if t.text=[97,110,100] then (13,2)
 else if t.text=[61,61] then (11,4)
 else if t.text=[60] then (10,4)
 else if t.text=[43] then (4,5)
 else if t.text=[45] then (5,5)
 else if t.text=[42] then (6,6)
 else if t.text=[47] then (7,6)
 else (-1,0)
def loopS (ex:Req) (form:Int):Nat→Exp→Sr→Exp×Sr
 | 0,e,s=>(e,s)
 | f+1,e,s =>
  if (symT (nextS s)).1<0∨(symT (nextS s)).2≠form then (e,s)
  else if form=4 then (.mk (symT (nextS s)).1 0 0 [] [e,(ex (form+1) (advS s)).1],(ex (form+1) (advS s)).2)
  else loopS ex form f (.mk (symT (nextS s)).1 0 0 [] [e,(ex (form+1) (advS s)).1]) (ex (form+1) (advS s)).2
def ifS (ex:Req) (s:Sr):Exp×Sr :=
 (.mk 15 0 0 [] [(ex 0 s).1,(ex 0 (wantS [116,104,101,110] (ex 0 s).2)).1,(ex 0 (wantS [101,108,115,101] (ex 0 (wantS [116,104,101,110] (ex 0 s).2)).2)).1],
  (ex 0 (wantS [101,108,115,101] (ex 0 (wantS [116,104,101,110] (ex 0 s).2)).2)).2)
def notS (ex:Req) (s:Sr):Exp×Sr:=(.mk 12 0 0 [] [(ex 3 s).1],(ex 3 s).2)
def expT (ex:Req) (form:Int) (s:Sr):Exp×Sr :=
 if s.er.isSome=true then (ex0,s)
 else if form=0∧isS [105,102] s=true then ifS ex (advS s)
 else if form=0 then ex 1 s
 else if form=3∧isS [110,111,116] s=true then notS ex (advS s)
 else if form=7 then primS ex s
 else if form=3 then ex 4 s
 else loopS ex form (ex (form+1) s).2.r.length (ex (form+1) s).1 (ex (form+1) s).2
def expQ:Nat→Req
 | 0,_,s=>(ex0,s)
 | f+1,form,s=>expT (expQ f) form s
def okE (s:Sr):Prop:=∀ e,s.er=some e→e.2≠0
structure SS (s s':Sr):Prop where
 suf:Suf s.r s'.r
 ok:okE s→okE s'
 keep:∀ e,s.er=some e→s'.er=some e
theorem SS.bad {s s':Sr} (h:SS s s') (hs:s.er.isSome=true):s'.er.isSome=true:=by
 obtain ⟨e,he⟩:=Option.isSome_iff_exists.1 hs
 rw [h.keep e he];rfl
theorem SS.refl (s:Sr):SS s s:=⟨.refl _,id,fun _=>id⟩
theorem SS.trans {a b c:Sr} (h:SS a b) (h':SS b c):SS a c:=⟨h.suf.trans h'.suf,fun x=>h'.ok (h.ok x),fun e x=>h'.keep e (h.keep e x)⟩
structure SSt (T:List Tok) (s:Sr):Prop where
 st:PSt T s.r
 ok:okE s
 e3:∀ t∈T,t.kind=3→t.text=[]
theorem SSt.to {T:List Tok} {s s':Sr} (h:SSt T s) (hs:SS s s'):SSt T s':=⟨h.st.to hs.suf,hs.ok h.ok,h.e3⟩
theorem fail_ss (e:Int) (he:e≠0) (s:Sr):SS s (failS e s):=by
 rcases s with ⟨r,_ | x⟩
 ·exact ⟨.refl _,fun _ y hy=>by cases hy;exact he,fun _ h=>by cases h⟩
 ·exact .refl _
theorem adv_ss {s:Sr} (h:(nextS s).kind≠3) (h0:s.er=none):SS s (advS s):=by
 rcases s with ⟨r,_ | x⟩
 ·exact ⟨.tail h,(fun _ y hy=>by cases hy),(fun _ h=>by cases h)⟩
 ·cases h0
theorem is_none {w:List UInt8} {s:Sr} (hw:w≠[]) (h:isS w s=true):s.er=none:=by
 rcases s with ⟨r,_ | x⟩
 ·rfl
 ·unfold isS at h
  simp only [Bool.and_eq_true,decide_eq_true_eq] at h
  exact absurd h.2.symm hw
theorem is_kind {w:List UInt8} {s:Sr} (h:isS w s=true):(nextS s).kind≠3:=by
 unfold isS at h
 simp only [Bool.and_eq_true,decide_eq_true_eq] at h
 exact h.1
theorem is_ss {w:List UInt8} {s:Sr} (hw:w≠[]) (h:isS w s=true):SS s (advS s):=adv_ss (is_kind h) (is_none hw h)
theorem want_ss (w:List UInt8) (hw:w≠[]) (s:Sr):SS s (wantS w s):=by
 unfold wantS
 split
 ·rename_i h;exact is_ss hw h
 ·exact fail_ss _ dd0 _
theorem kind_none {s:Sr} (h:(nextS s).kind=1):s.er=none:=by
 rcases s with ⟨r,_ | x⟩
 ·rfl
 ·exact absurd (show (0:Int)=1 from h) (by decide)
theorem named_none {s:Sr} (h:namedS s=true):s.er=none:=by
 rcases s with ⟨r,_ | x⟩
 ·rfl
 ·unfold namedS at h
  simp only [Bool.and_eq_true] at h
  exact absurd (show nameB []=true from h.2) (by decide)
theorem name_ss (s:Sr):SS s (nameS s).2:=by
 unfold nameS
 split
 ·rename_i h
  refine adv_ss ?_ (named_none h)
  unfold namedS at h
  simp only [Bool.and_eq_true,decide_eq_true_eq] at h
  show (nextS s).kind≠3
  rw [h.1];decide
 ·exact fail_ss _ dd0 _
theorem num_ss (a b:Int) (s:Sr):SS s (numSr a b s).2:=by
 unfold numSr
 split
 ·exact fail_ss _ dd0 _
 ·rename_i h
  have h:=Decidable.of_not_not h
  split
  ·exact adv_ss (by rw [h];decide) (kind_none h)
  ·exact fail_ss _ dd0 _
def mS (s:Sr):Nat:=if s.er.isSome=true then 0 else s.r.length
theorem SS.le {s s':Sr} (h:SS s s'):mS s'≤mS s:=by
 unfold mS
 cases h1:s.er.isSome with
 | true=>rw [h.bad h1];exact Nat.le_refl _
 | false =>
  split
  ·exact Nat.zero_le _
  ·exact h.suf.le
def ReqS (ex:Req):Prop:=∀ form s,SS s (ex form s).2
theorem unit_ss (s:Sr):SS s (unitS s).2:=by
 unfold unitS
 split
 ·rename_i h;exact is_ss (by decide) h
 split
 ·rename_i h;exact is_ss (by decide) h
 split
 ·rename_i h;exact is_ss (by decide) h
 ·exact .refl _
theorem within_ss {ex:Req} (h:ReqS ex) (op:Int) (s:Sr):SS s (withinS ex op s).2 :=
 (((num_ss 1 1000 s).trans (want_ss [40] (by decide) _)).trans (h _ _)).trans (want_ss [41] (by decide) _)
theorem pair_ss {ex:Req} (h:ReqS ex) (op:Int) (s:Sr):SS s (pairS ex op s).2 :=
 ((((want_ss [40] (by decide) _).trans (h _ _)).trans (want_ss [44] (by decide) _)).trans (h _ _)).trans (want_ss [41] (by decide) _)
theorem paren_ss {ex:Req} (h:ReqS ex) (s:Sr):SS s (parenS ex s).2:=(h _ _).trans (want_ss [41] (by decide) _)
theorem zt144 {p:Prop}(h:p:=by
 rename_i hb;exact (is_ss (by decide) hb).trans (within_ss h _ _)):p:=h
theorem prim_ss {ex:Req} (h:ReqS ex) (s:Sr):SS s (primS ex s).2:=by
 unfold primS
 split
 ·rename_i hk
  exact (adv_ss (by rw [hk];decide) (kind_none hk)).trans (unit_ss _)
 split
 ·rename_i hb;exact is_ss (by decide) hb
 split
 ·rename_i hb;exact is_ss (by decide) hb
 split
 ·rename_i hb;exact (is_ss (by decide) hb).trans (name_ss _)
 split
 ·rename_i hb;exact (is_ss (by decide) hb).trans (name_ss _)
 split
 ·exact zt144
 split
 ·exact zt144
 split
 ·exact zt144
 split
 ·rename_i hb;exact (is_ss (by decide) hb).trans (pair_ss h _ _)
 split
 ·rename_i hb;exact (is_ss (by decide) hb).trans (pair_ss h _ _)
 split
 ·rename_i hb;exact (is_ss (by decide) hb).trans (paren_ss h _)
 ·exact name_ss _
theorem sym_none {s:Sr} (h:¬ (symT (nextS s)).1<0):s.er=none:=by
 rcases s with ⟨r,_ | x⟩
 ·rfl
 ·exact absurd (show (symT t0).1<0 by decide) h
theorem sym_kind {s:Sr} (h:¬ (symT (nextS s)).1<0):(nextS s).kind≠3:=by
 intro hk
 unfold symT at h
 rw [if_pos hk] at h
 exact h dd0
theorem loop_ss {ex:Req} (h:ReqS ex) (form:Int):∀ (f:Nat) (e:Exp) (s:Sr),SS s (loopS ex form f e s).2
 | 0,_,s=>.refl s
 | f+1,e,s=>by
  unfold loopS
  split
  ·exact .refl _
  rename_i hc
  have hc:¬ (symT (nextS s)).1<0:=fun x=>hc (.inl x)
  have h1:SS s (advS s):=adv_ss (sym_kind hc) (sym_none hc)
  split
  ·exact h1.trans (h _ _)
  ·exact (h1.trans (h _ _)).trans (loop_ss h form f _ _)
theorem expT_ss {ex:Req} (h:ReqS ex):ReqS (expT ex):=by
 intro form s
 unfold expT
 split
 ·exact .refl _
 split
 ·rename_i hb
  exact ((((is_ss dd0 hb.2).trans (h _ _)).trans ((want_ss _ dd0 _).trans (h _ _))).trans ((want_ss _ dd0 _))).trans (h _ _)
 split
 ·exact h _ _
 split
 ·rename_i hb
  exact (is_ss dd0 hb.2).trans (h _ _)
 split
 ·exact prim_ss h _
 split
 ·exact h _ _
 ·exact (h _ _).trans (loop_ss h _ _ _ _)
theorem expQ_ss:∀ f:Nat,ReqS (expQ f)
 | 0=>fun _ s=>.refl s
 | f+1=>expT_ss (expQ_ss f)
def needS (form:Int) (s:Sr):Nat:=if s.er.isSome=true then 0 else 9*s.r.length+(8-form).toNat
theorem ite2 {c:Prop} [Decidable c] {α:Type} {a b d e:α} (h1:c→a=b) (h2:¬ c→d=e):(if c then a else d)=(if c then b else e):=by
 by_cases h:c
 ·rw [if_pos h,if_pos h];exact h1 h
 ·rw [if_neg h,if_neg h];exact h2 h
def AgrE (ex ex':Req) (n:Nat):Prop:=∀ form s,0≤form→form≤7→Fin1 s.r→needS form s<n→ex form s=ex' form s
theorem SS.fin {s s':Sr} (h:SS s s') (hf:Fin1 s.r):Fin1 s'.r:=h.suf.2 hf
theorem need_adv {s s':Sr} (hf:Fin1 s.r) (h0:s.er=none) (h:SS (advS s) s') (form form':Int) (h1:0≤form'):needS form' s'<needS form s:=by
 have h2:needS form s=9*s.r.length+(8-form).toNat:=by unfold needS;rw [h0];rfl
 rw [h2]
 have h3:=tail_lt hf
 have h4:s'.r.length≤s.r.tail.length:=h.suf.le
 unfold needS
 split<;>omega
theorem need_up {s:Sr} (h0:s.er=none) {form form':Int} (h:form<form') (h1:form<8):needS form' s<needS form s:=by
 unfold needS
 rw [h0]
 show 9*s.r.length+_<9*s.r.length+_
 omega
theorem er_none {s:Sr} (h:¬ s.er.isSome=true):s.er=none:=by
 cases he:s.er with
 | none=>rfl
 | some x=>exact (h (by rw [he];rfl)).elim
theorem within_congr {ex ex':Req} {n:Nat} (hA:AgrE ex ex' n) (op:Int) {s:Sr} (hf:Fin1 s.r) (hn:∀ s',SS s s'→∀ form,0≤form→needS form s'<n):withinS ex op s=withinS ex' op s:=by
 have h1:=(num_ss 1 1000 s).trans (want_ss [40] (by decide) _)
 unfold withinS
 rw [hA 0 _ (by omega) (by omega) (h1.fin hf) (hn _ h1 0 (by omega))]
theorem pair_congr {ex ex':Req} {n:Nat} (hA:AgrE ex ex' n) (hS:ReqS ex) (op:Int) {s:Sr} (hf:Fin1 s.r) (hn:∀ s',SS s s'→∀ form,0≤form→needS form s'<n):pairS ex op s=pairS ex' op s:=by
 have h1:=want_ss [40] (by decide) s
 have e1:=hA 0 _ (by omega) (by omega) (h1.fin hf) (hn _ h1 0 (by omega))
 have h2:=(h1.trans (hS 0 _)).trans (want_ss [44] (by decide) _)
 have e2:=hA 0 _ (by omega) (by omega) (h2.fin hf) (hn _ h2 0 (by omega))
 unfold pairS
 rw [e2,e1]
theorem paren_congr {ex ex':Req} {n:Nat} (hA:AgrE ex ex' n) {s:Sr} (hf:Fin1 s.r) (hn:∀ s',SS s s'→∀ form,0≤form→needS form s'<n):parenS ex s=parenS ex' s:=by
 unfold parenS
 rw [hA 0 _ (by omega) (by omega) hf (hn _ (.refl _) 0 (by omega))]
theorem zt140 {p:Prop}(h:p:=by
 obtain ⟨a,b⟩:=key (by decide) hb
 exact within_congr hA _ a b):p:=h
theorem prim_congr {ex ex':Req} {n:Nat} (hA:AgrE ex ex' n) (hS:ReqS ex) {s:Sr} (hf:Fin1 s.r) (hn:s.er=none→needS 7 s≤n):primS ex s=primS ex' s:=by
 have key:∀ {w:List UInt8},w≠[]→isS w s=true→Fin1 (advS s).r∧∀ s',SS (advS s) s'→∀ form,0≤form→needS form s'<n:=by
  intro w hw hb
  have h0:=is_none hw hb
  exact ⟨(is_ss hw hb).fin hf,fun s' hs form h1=>Nat.lt_of_lt_of_le (need_adv hf h0 hs 7 form h1) (hn h0)⟩
 unfold primS
 refine ite2 (fun _=>rfl) fun _=>?_
 refine ite2 (fun _=>rfl) fun _=>?_
 refine ite2 (fun _=>rfl) fun _=>?_
 refine ite2 (fun _=>rfl) fun _=>?_
 refine ite2 (fun _=>rfl) fun _=>?_
 refine ite2 (fun hb=>?_) fun _=>?_
 ·exact zt140
 refine ite2 (fun hb=>?_) fun _=>?_
 ·exact zt140
 refine ite2 (fun hb=>?_) fun _=>?_
 ·exact zt140
 refine ite2 (fun hb=>?_) fun _=>?_
 ·obtain ⟨a,b⟩:=key (by decide) hb
  exact pair_congr hA hS _ a b
 refine ite2 (fun hb=>?_) fun _=>?_
 ·obtain ⟨a,b⟩:=key (by decide) hb
  exact pair_congr hA hS _ a b
 refine ite2 (fun hb=>?_) fun _=>rfl
 obtain ⟨a,b⟩:=key (by decide) hb
 exact paren_congr hA a b
theorem loop_congr {ex ex':Req} {n:Nat} (hA:AgrE ex ex' n) (hS:ReqS ex) (form:Int) (h0:0≤form) (h6:form≤6):∀ (f:Nat) (e:Exp) (s:Sr),Fin1 s.r→(s.er=none→9*s.r.length≤n)→loopS ex form f e s=loopS ex' form f e s
 | 0,_,_,_,_=>rfl
 | f+1,e,s,hf,hn=>by
  unfold loopS
  refine ite2 (fun _=>rfl) fun hc=>?_
  have hc:¬ (symT (nextS s)).1<0:=fun x=>hc (.inl x)
  have h1:SS s (advS s):=adv_ss (sym_kind hc) (sym_none hc)
  have hx:=sym_none hc
  have e1:=hA (form+1) (advS s) (by omega) (by omega) (h1.fin hf) (by
   have h2:=need_adv (form:=8) hf hx (.refl _) (form+1) (by omega)
   have h3:needS 8 s=9*s.r.length:=by unfold needS;rw [hx];rfl
   have h4:=hn hx
   omega)
  rw [e1]
  refine ite2 (fun _=>rfl) fun _=>?_
  ·rw [← e1]
   have h3:=h1.trans (hS (form+1) _)
   refine loop_congr hA hS form h0 h6 f _ _ (h3.fin hf) fun h4=>?_
   have h5:(ex (form+1) (advS s)).2.r.length≤s.r.length:=h3.suf.le
   have:=hn hx
   omega
theorem expT_congr {ex ex':Req} {n:Nat} (hS:ReqS ex) {form:Int} {s:Sr} (hf:Fin1 s.r) (h0:0≤form) (h7:form≤7) (hA:AgrE ex ex' n) (hn:needS form s≤n):expT ex form s=expT ex' form s:=by
 unfold expT
 refine ite2 (fun _=>rfl) fun he=>?_
 have he:=er_none he
 have key:∀ {w:List UInt8},w≠[]→isS w s=true→Fin1 (advS s).r∧∀ s',SS (advS s) s'→∀ form',0≤form'→needS form' s'<n:=by
  intro w hw hb
  exact ⟨(is_ss hw hb).fin hf,fun s' hs form' h1=>Nat.lt_of_lt_of_le (need_adv hf he hs form form' h1) hn⟩
 refine ite2 (fun hb=>?_) fun _=>?_
 ·obtain ⟨a,b⟩:=key (by decide) hb.2
  have s1:=(hS 0 (advS s)).trans (want_ss [116,104,101,110] (by decide) _)
  have s2:=s1.trans ((hS 0 _).trans (want_ss [101,108,115,101] (by decide) _))
  have e1:=hA 0 _ (by omega) (by omega) a (b _ (.refl _) 0 (by omega))
  have e2:=hA 0 _ (by omega) (by omega) (s1.fin a) (b _ s1 0 (by omega))
  have e3:=hA 0 _ (by omega) (by omega) (s2.fin a) (b _ s2 0 (by omega))
  unfold ifS
  rw [e3,e2,e1]
 refine ite2 (fun h=>?_) fun _=>?_
 ·rw [h] at hn
  exact hA 1 s om0 om0 hf (Nat.lt_of_lt_of_le (need_up he om0 om0) hn)
 refine ite2 (fun hb=>?_) fun _=>?_
 ·obtain ⟨a,b⟩:=key (by decide) hb.2
  unfold notS
  rw [hA 3 _ (by omega) (by omega) a (b _ (.refl _) 3 (by omega))]
 refine ite2 (fun h=>?_) fun _=>?_
 ·rw [h] at hn
  exact prim_congr hA hS hf fun _=>hn
 refine ite2 (fun h=>?_) fun _=>?_
 ·rw [h] at hn
  exact hA 4 s om0 om0 hf (Nat.lt_of_lt_of_le (need_up he om0 om0) hn)
 ·have e1:=hA (form+1) s (by omega) (by omega) hf (Nat.lt_of_lt_of_le (need_up he (by omega) (by omega)) hn)
  rw [e1]
  have s1:=hS (form+1) s
  rw [e1] at s1
  refine loop_congr hA hS form h0 om0 _ _ _ (s1.fin hf) fun _=>?_
  have h5:=s1.suf.le
  have h6:needS form s=9*s.r.length+(8-form).toNat:=by unfold needS;rw [he];rfl
  omega
theorem expQ_fuel:∀ (F F':Nat) (form:Int) (s:Sr),0≤form→form≤7→Fin1 s.r→needS form s<F→needS form s<F'→expQ F form s=expQ F' form s
 | 0,_,_,_,_,_,_,h,_=>absurd h (Nat.not_lt_zero _)
 | _+1,0,_,_,_,_,_,_,h=>absurd h (Nat.not_lt_zero _)
 | F+1,F'+1,form,s,h0,h7,hf,h,h'=>expT_congr (n:=needS form s) (expQ_ss F) hf h0 h7 (fun form' s' a b c d=>expQ_fuel F F' form' s' a b c (by omega) (by omega)) (Nat.le_refl _)
def exC (form:Int) (s:Sr):Exp×Sr:=expQ (needS form s+1) form s
theorem exC_ss:ReqS exC:=fun form s=>expQ_ss _ form s
theorem exC_eq {form:Int} {s:Sr} (h0:0≤form) (h7:form≤7) (hf:Fin1 s.r):exC form s=expT exC form s :=
 expT_congr (n:=needS form s) (expQ_ss _) hf h0 h7 (fun form' s' a b c d=>expQ_fuel _ _ form' s' a b c d (Nat.lt_succ_self _)) (Nat.le_refl _)
def wholeS (w:List UInt8) (s:Sr):Exp×Sr :=
 let a:=exC 0 s
 if a.2.er.isSome=true then a
 else if (w=[]∧(nextS a.2).kind≠3)∨(w≠[]∧isS w a.2=false) then (a.1,failS 12 a.2)
 else if 12<((lev a.1:Nat):Int) then (a.1,failS 6 a.2)
 else if w≠[] then (a.1,advS a.2)
 else a
def partSr (w:List UInt8) (a b:Int) (s:Sr):Int×Sr:=((numSr a b (wantS w s)).1,wantS [59] (numSr a b (wantS w s)).2)
def maybeS (w:List UInt8) (a n0:Int) (s:Sr):Int×Sr:=if isS w s=true then partSr w 0 a s else (n0,s)
def oneS (w:List UInt8) (ws:List (List UInt8)) (s:Sr):Int×Sr :=
 let i:=idxP (fun x=>isS x (wantS w s)) ws
 if i<0 then (0,failS 12 (wantS w s)) else (i,wantS [59] (advS (wantS w s)))
def dateS (least:Int) (s:Sr):Int×Sr :=
 let y:=numSr 0 1000000000000000 s
 let m:=numSr 0 1000000000000000 (wantS [45] y.2)
 let s4:=wantS [45] m.2
 if (nextS s4).kind≠1 then (0,failS 12 s4)
 else if (dayOf y.1 m.1 (nextS s4).n).2≠0 then (0,failS 23 s4)
 else if (dayOf y.1 m.1 (nextS s4).n).1≤least then (0,failS 3 s4)
 else ((dayOf y.1 m.1 (nextS s4).n).1,advS s4)
def freshS (names:List (List UInt8)) (s:Sr):List UInt8×Sr :=
 if namedS s=false then ([],failS 12 s) else if (nextS s).text∈names then ([],failS 5 s) else ((nextS s).text,advS s)
def letsS:Nat→List LetE→Sr→List LetE×Sr
 | 0,ls,s=>(ls,s)
 | f+1,ls,s =>
  if isS [108,101,116] s=false then (ls,s)
  else if (ls.length:Int)=20 then ([],failS 6 s)
  else
   let a:=freshS (ls.map LetE.name) (advS s)
   let b:=wholeS [59] (wantS [61] a.2)
   letsS f (ls++[⟨a.1,b.1⟩]) b.2
def covsS:Nat→List Cov→Sr→List Cov×Sr
 | 0,ls,s=>(ls,s)
 | f+1,ls,s =>
  if isS [99,111,118,101,110,97,110,116] s=false then (ls,s)
  else if (ls.length:Int)=20 then ([],failS 6 s)
  else
   let a:=freshS (ls.map Cov.name) (advS s)
   let b:=wholeS [103,114,97,99,101] (wantS [109,117,115,116] a.2)
   let n:=numSr 0 1000 b.2
   covsS f (ls++[⟨a.1,b.1,n.1⟩]) (wantS [59] n.2)
def favQ:Nat→List (List UInt8)→Sr→List (List UInt8)×Sr
 | 0,ls,s=>(ls,wantS [59] s)
 | f+1,ls,s =>
  if s.er.isSome=false∧((ls.length:Int)=0∨isS [59] s=false) then
   if (ls.length:Int)=20∧namedS s=true then ([],failS 6 s)
   else favQ f (ls++[(freshS ls s).1]) (freshS ls s).2
  else (ls,wantS [59] s)
def favS (s:Sr):List (List UInt8)×Sr :=
 if isS [102,97,118,111,117,114] s=false then ([],s) else favQ (mS (advS s)+1) [] (advS s)
def callsS:Nat→List CallE→Sr→List CallE×Sr
 | 0,ls,s=>(ls,s)
 | f+1,ls,s =>
  if isS [99,97,108,108] s=false then (ls,s)
  else if (ls.length:Int)=20 then ([],failS 6 s)
  else
   let a:=dateS (-1) (advS s)
   let n:=numSr 0 10000 (wantS [97,116] a.2)
   callsS f (ls++[⟨a.1,n.1⟩]) (wantS [59] n.2)
theorem nf_t {b:Bool} (h:¬ b=false):b=true:=by cases b with | true=>rfl | false=>exact (h rfl).elim
theorem whole_ss (w:List UInt8) (s:Sr):SS s (wholeS w s).2:=by
 unfold wholeS
 dsimp only
 have h1:=exC_ss 0 s
 split
 ·exact h1
 rename_i h0
 split
 ·exact h1.trans (fail_ss _ dd0 _)
 rename_i hb
 split
 ·exact h1.trans (fail_ss _ dd0 _)
 split
 ·rename_i hw
  have hi:isS w (exC 0 s).2=true:=by
   cases hi:isS w (exC 0 s).2 with
   | true=>rfl
   | false=>exact (hb (.inr ⟨hw,hi⟩)).elim
  exact h1.trans (is_ss hw hi)
 ·exact h1
theorem part_ss (w:List UInt8) (hw:w≠[]) (a b:Int) (s:Sr):SS s (partSr w a b s).2:=((want_ss w hw s).trans (num_ss a b _)).trans (want_ss _ (by decide) _)
theorem maybe_ss (w:List UInt8) (hw:w≠[]) (a n0:Int) (s:Sr):SS s (maybeS w a n0 s).2:=by
 unfold maybeS
 split
 ·exact part_ss w hw _ _ _
 ·exact .refl _
theorem one_ss (w:List UInt8) (hw:w≠[]) (ws:List (List UInt8)) (hws:∀ x∈ws,x≠[]) (s:Sr):SS s (oneS w ws s).2:=by
 unfold oneS
 dsimp only
 split
 ·exact (want_ss w hw s).trans (fail_ss _ dd0 _)
 rename_i hi
 have hlt:=idxP_lt (fun x=>isS x (wantS w s)) [] ws
 rcases hlt with hlt | hlt
 ·exact (hi hlt).elim
 have hm:ws.getD (idxP (fun x=>isS x (wantS w s)) ws).toNat []≠[]:=by
  apply hws
  rw [List.getD_eq_getElem?_getD,List.getElem?_eq_getElem hlt.1]
  exact List.getElem_mem _
 exact ((want_ss w hw s).trans (is_ss hm hlt.2)).trans (want_ss _ dd0 _)
theorem date_ss (least:Int) (s:Sr):SS s (dateS least s).2:=by
 unfold dateS
 dsimp only
 have h4:=(((num_ss 0 1000000000000000 s).trans (want_ss [45] (by decide) _)).trans (num_ss 0 1000000000000000 _)).trans (want_ss [45] (by decide) _)
 split
 ·exact h4.trans (fail_ss _ dd0 _)
 rename_i hk
 have hk:=Decidable.of_not_not hk
 split
 ·exact h4.trans (fail_ss _ dd0 _)
 split
 ·exact h4.trans (fail_ss _ dd0 _)
 ·exact h4.trans (adv_ss (by rw [hk];decide) (kind_none hk))
theorem named_kind {s:Sr} (h:namedS s=true):(nextS s).kind≠3:=by
 unfold namedS at h
 simp only [Bool.and_eq_true,decide_eq_true_eq] at h
 rw [h.1];decide
theorem fresh_ss (names:List (List UInt8)) (s:Sr):SS s (freshS names s).2:=by
 unfold freshS
 split
 ·exact fail_ss _ dd0 _
 rename_i hn
 have hn:namedS s=true:=by simpa using hn
 split
 ·exact fail_ss _ dd0 _
 ·exact adv_ss (named_kind hn) (named_none hn)
theorem lets_ss:∀ (f:Nat) (ls:List LetE) (s:Sr),SS s (letsS f ls s).2
 | 0,_,s=>.refl s
 | f+1,ls,s=>by
  unfold letsS
  split
  ·exact .refl _
  rename_i hb
  split
  ·exact fail_ss _ dd0 _
  ·exact ((((is_ss dd0 (nf_t hb)).trans (fresh_ss _ _)).trans (want_ss _ dd0 _)).trans (whole_ss _ _)).trans (lets_ss f _ _)
theorem covs_ss:∀ (f:Nat) (ls:List Cov) (s:Sr),SS s (covsS f ls s).2
 | 0,_,s=>.refl s
 | f+1,ls,s=>by
  unfold covsS
  split
  ·exact .refl _
  rename_i hb
  split
  ·exact fail_ss _ dd0 _
  ·exact ((((((is_ss dd0 (nf_t hb)).trans (fresh_ss _ _)).trans (want_ss _ dd0 _)).trans (whole_ss _ _)).trans (num_ss _ _ _)).trans (want_ss _ dd0 _)).trans (covs_ss f _ _)
theorem favQ_ss:∀ (f:Nat) (ls:List (List UInt8)) (s:Sr),SS s (favQ f ls s).2
 | 0,_,s=>want_ss _ (by decide) s
 | f+1,ls,s=>by
  unfold favQ
  split
  ·split
   ·exact fail_ss _ dd0 _
   ·exact (fresh_ss _ _).trans (favQ_ss f _ _)
  ·exact want_ss _ dd0 s
theorem fav_ss (s:Sr):SS s (favS s).2:=by
 unfold favS
 split
 ·exact .refl _
 rename_i hb
 exact (is_ss dd0 (nf_t hb)).trans (favQ_ss _ _ _)
theorem calls_ss:∀ (f:Nat) (ls:List CallE) (s:Sr),SS s (callsS f ls s).2
 | 0,_,s=>.refl s
 | f+1,ls,s=>by
  unfold callsS
  split
  ·exact .refl _
  rename_i hb
  split
  ·exact fail_ss _ dd0 _
  ·exact (((((is_ss dd0 (nf_t hb)).trans (date_ss _ _)).trans (want_ss _ dd0 _)).trans (num_ss _ _ _)).trans (want_ss _ dd0 _)).trans (calls_ss f _ _)
theorem SSt.at {T:List Tok} {s:Sr} (h:SSt T s):((T.length-s.r.length:Nat):Int)+1=((T.length-(advS s).r.length:Nat):Int):=h.st.at
theorem SSt.tlen {T:List Tok} {s:Sr} (h:SSt T s):(nextS s).text.length≤4000:=by
 rcases s with ⟨r,_ | x⟩
 ·exact h.st.tlen
 ·exact Nat.zero_le _
def Rich (n:Nat) (s:Sr):Prop:=∀ q,SS s q→∀ form,0≤form→needS form q<n
theorem Rich.to {n:Nat} {s s':Sr} (h:Rich n s) (hs:SS s s'):Rich n s':=fun a b c d=>h a (hs.trans b) c d
abbrev sN (r:List Tok):Sr:=⟨r,none⟩
def Ag {α:Type}:Ps α→α×Sr→Prop
 | .ok (v,r'),g=>g=(v,sN r')
 | .error e,g=>g.2.er=some e
def AgR:Except Er (List Tok)→Sr→Prop
 | .ok r',s=>s=sN r'
 | .error e,s=>s.er=some e
theorem ag_er {α β:Type} {e:Er} {f:Ps α} {g:α×Sr} {g':β×Sr} (h:Ag f g) (he:f=.error e) (hs:SS g.2 g'.2):Ag (.error e:Ps β) g':=by
 subst he
 exact hs.keep e h
theorem agR_er {β:Type} {e:Er} {f:Except Er (List Tok)} {s:Sr} {g':β×Sr} (h:AgR f s) (he:f=.error e) (hs:SS s g'.2):Ag (.error e:Ps β) g':=by
 subst he
 exact hs.keep e h
theorem ag_ok {α:Type} {v:α} {r':List Tok} {f:Ps α} {g:α×Sr} (h:Ag f g) (he:f=.ok (v,r')):g=(v,sN r'):=by
 subst he
 exact h
theorem agR_ok {r':List Tok} {f:Except Er (List Tok)} {s:Sr} (h:AgR f s) (he:f=.ok r'):s=sN r':=by
 subst he
 exact h
theorem want_ag (w:List UInt8) (r:List Tok):AgR (wantP w r) (wantS w (sN r)):=by
 unfold wantP wantS
 have:isS w (sN r)=isT w r:=rfl
 rw [this]
 try (cases isT w r<;>rfl)
theorem name_ag (r:List Tok):Ag (nameP r) (nameS (sN r)):=by
 unfold nameP nameS
 have:namedS (sN r)=namedB r:=rfl
 rw [this]
 try (cases namedB r<;>rfl)
theorem num_ag (a b:Int) (r:List Tok):Ag (numP a b r) (numSr a b (sN r)):=by
 unfold numP numSr
 have:nextS (sN r)=hdT r:=rfl
 rw [this]
 split
 ·rfl
 split<;>rfl
theorem unit_ag (r:List Tok):unitS (sN r)=((unitP r).1,sN (unitP r).2):=by
 unfold unitS unitP
 have:∀ w,isS w (sN r)=isT w r:=fun _=>rfl
 rw [this,this,this]
 try (cases isT [99,111,105,110,115] r<;>cases isT [100,97,121,115] r<;>cases isT [109,105,108,108,101] r<;>rfl)
def HA (n:Nat) (ex:Rec) (exR:Req):Prop:=∀ form r,0≤form→form≤7→Fin1 r→r.length≤n→Ag (ex form r) (exR form (sN r))
theorem named_ag (op:Int) (r:List Tok):Ag (namedP op r) (namedE op (sN r)):=by
 have h:=name_ag r
 unfold namedP namedE
 cases e1:nameP r with
 | error e=>exact ag_er h e1 (.refl _)
 | ok v =>
  obtain ⟨s,r1⟩:=v
  rw [ag_ok h e1]
  rfl
theorem within_ag {n:Nat} {ex:Rec} {exR:Req} (hA:HA n ex exR) (hS:RecS ex) (hR:ReqS exR) (op:Int) {r:List Tok} (hf:Fin1 r) (hn:r.length≤n):Ag (withinP ex op r) (withinS exR op (sN r)):=by
 have a1:=num_ag 1 1000 r
 unfold withinP
 cases e1:numP 1 1000 r with
 | error e=>exact ag_er a1 e1 (((want_ss [40] (by decide) _).trans (hR 0 _)).trans (want_ss [41] (by decide) _))
 | ok v =>
 obtain ⟨k,r1⟩:=v
 have s1:=(numP_suf e1).1
 unfold withinS
 rw [ag_ok a1 e1]
 dsimp only
 have a2:=want_ag [40] r1
 cases e2:wantP [40] r1 with
 | error e=>exact agR_er a2 e2 ((hR 0 _).trans (want_ss [41] (by decide) _))
 | ok r2 =>
 have s2:=s1.trans (wantP_suf e2)
 rw [agR_ok a2 e2]
 dsimp only
 have a3:=hA 0 r2 (by omega) (by omega) (s2.2 hf) (Nat.le_trans s2.le hn)
 cases e3:ex 0 r2 with
 | error e=>exact ag_er a3 e3 (want_ss [41] (by decide) _)
 | ok v =>
 obtain ⟨x,r3⟩:=v
 rw [ag_ok a3 e3]
 dsimp only
 have a4:=want_ag [41] r3
 cases e4:wantP [41] r3 with
 | error e=>exact agR_er a4 e4 (.refl _)
 | ok r4 =>
 rw [agR_ok a4 e4]
 rfl
theorem pair_ag {n:Nat} {ex:Rec} {exR:Req} (hA:HA n ex exR) (hS:RecS ex) (hR:ReqS exR) (op:Int) {r:List Tok} (hf:Fin1 r) (hn:r.length≤n):Ag (pairP ex op r) (pairS exR op (sN r)):=by
 have a1:=want_ag [40] r
 unfold pairP
 have t5:=fun s=>want_ss [41] (by decide) s
 have t4:=fun s=>(hR 0 s).trans (t5 _)
 have t3:=fun s=>(want_ss [44] (by decide) s).trans (t4 _)
 have t2:=fun s=>(hR 0 s).trans (t3 _)
 cases e1:wantP [40] r with
 | error e=>exact agR_er a1 e1 (t2 _)
 | ok r1 =>
 have s1:=wantP_suf e1
 unfold pairS
 rw [agR_ok a1 e1]
 dsimp only
 have a2:=hA 0 r1 (by omega) (by omega) (s1.2 hf) (Nat.le_trans s1.le hn)
 cases e2:ex 0 r1 with
 | error e=>exact ag_er a2 e2 (t3 _)
 | ok v =>
 obtain ⟨x,r2⟩:=v
 have s2:=s1.trans (hS _ _ _ _ e2)
 rw [ag_ok a2 e2]
 dsimp only
 have a3:=want_ag [44] r2
 cases e3:wantP [44] r2 with
 | error e=>exact agR_er a3 e3 (t4 _)
 | ok r3 =>
 have s3:=s2.trans (wantP_suf e3)
 rw [agR_ok a3 e3]
 dsimp only
 have a4:=hA 0 r3 (by omega) (by omega) (s3.2 hf) (Nat.le_trans s3.le hn)
 cases e4:ex 0 r3 with
 | error e=>exact ag_er a4 e4 (t5 _)
 | ok v =>
 obtain ⟨y,r4⟩:=v
 rw [ag_ok a4 e4]
 dsimp only
 have a5:=want_ag [41] r4
 cases e5:wantP [41] r4 with
 | error e=>exact agR_er a5 e5 (.refl _)
 | ok r5 =>
 rw [agR_ok a5 e5]
 rfl
theorem paren_ag {n:Nat} {ex:Rec} {exR:Req} (hA:HA n ex exR) {r:List Tok} (hf:Fin1 r) (hn:r.length≤n):Ag (parenP ex r) (parenS exR (sN r)):=by
 unfold parenP parenS
 have a2:=hA 0 r (by omega) (by omega) hf hn
 cases e2:ex 0 r with
 | error e=>exact ag_er a2 e2 (want_ss [41] (by decide) _)
 | ok v =>
 obtain ⟨x,r2⟩:=v
 rw [ag_ok a2 e2]
 dsimp only
 have a3:=want_ag [41] r2
 cases e3:wantP [41] r2 with
 | error e=>exact agR_er a3 e3 (.refl _)
 | ok r3 =>
 rw [agR_ok a3 e3]
 rfl
theorem if_ag {n:Nat} {ex:Rec} {exR:Req} (hA:HA n ex exR) (hS:RecS ex) (hR:ReqS exR) {r:List Tok} (hf:Fin1 r) (hn:r.length≤n):Ag (ifP ex r) (ifS exR (sN r)):=by
 unfold ifP
 have t4:=fun s=>hR 0 s
 have t3:=fun s=>(want_ss [101,108,115,101] (by decide) s).trans (t4 _)
 have t2:=fun s=>(hR 0 s).trans (t3 _)
 have t1:=fun s=>(want_ss [116,104,101,110] (by decide) s).trans (t2 _)
 have a1:=hA 0 r (by omega) (by omega) hf hn
 cases e1:ex 0 r with
 | error e=>exact ag_er a1 e1 (t1 _)
 | ok v =>
 obtain ⟨x,r1⟩:=v
 have s1:=hS _ _ _ _ e1
 unfold ifS
 rw [ag_ok a1 e1]
 dsimp only
 have a2:=want_ag [116,104,101,110] r1
 cases e2:wantP [116,104,101,110] r1 with
 | error e=>exact agR_er a2 e2 (t2 _)
 | ok r2 =>
 have s2:=s1.trans (wantP_suf e2)
 rw [agR_ok a2 e2]
 dsimp only
 have a3:=hA 0 r2 (by omega) (by omega) (s2.2 hf) (Nat.le_trans s2.le hn)
 cases e3:ex 0 r2 with
 | error e=>exact ag_er a3 e3 (t3 _)
 | ok v =>
 obtain ⟨y,r3⟩:=v
 have s3:=s2.trans (hS _ _ _ _ e3)
 rw [ag_ok a3 e3]
 dsimp only
 have a4:=want_ag [101,108,115,101] r3
 cases e4:wantP [101,108,115,101] r3 with
 | error e=>exact agR_er a4 e4 (t4 _)
 | ok r4 =>
 have s4:=s3.trans (wantP_suf e4)
 rw [agR_ok a4 e4]
 dsimp only
 have a5:=hA 0 r4 (by omega) (by omega) (s4.2 hf) (Nat.le_trans s4.le hn)
 cases e5:ex 0 r4 with
 | error e=>exact ag_er a5 e5 (.refl _)
 | ok v =>
 obtain ⟨z,r5⟩:=v
 rw [ag_ok a5 e5]
 rfl
theorem not_ag {n:Nat} {ex:Rec} {exR:Req} (hA:HA n ex exR) {r:List Tok} (hf:Fin1 r) (hn:r.length≤n):Ag (notP ex r) (notS exR (sN r)):=by
 unfold notP notS
 have a1:=hA 3 r (by omega) (by omega) hf hn
 cases e1:ex 3 r with
 | error e=>exact ag_er a1 e1 (.refl _)
 | ok v =>
 obtain ⟨x,r1⟩:=v
 rw [ag_ok a1 e1]
 rfl
theorem prim_ag {n:Nat} {ex:Rec} {exR:Req} (hA:HA n ex exR) (hS:RecS ex) (hR:ReqS exR) {r:List Tok} (hf:Fin1 r) (hn:r.length≤n+1):Ag (primP ex r) (primS exR (sN r)):=by
 have hl:=tail_lt hf
 have ht:r.tail.length≤n:=by omega
 have key:∀ {w:List UInt8},isT w r=true→Fin1 r.tail:=fun h=>hf.tail (isT_kind h)
 have hi:∀ w,isS w (sN r)=isT w r:=fun _=>rfl
 have hx:nextS (sN r)=hdT r:=rfl
 have ha:advS (sN r)=sN r.tail:=rfl
 unfold primP primS
 simp only [hi,hx,ha]
 by_cases hk:(hdT r).kind=1
 ·rw [if_pos hk,if_pos hk,unit_ag]
  rfl
 rw [if_neg hk,if_neg hk]
 cases b0:isT [116,114,117,101] r with
 | true=>rfl
 | false =>
 cases b1:isT [102,97,108,115,101] r with
 | true=>rfl
 | false =>
 cases b2:isT [102,97,99,116] r with
 | true=>exact named_ag 2 r.tail
 | false =>
 cases b3:isT [114,97,116,101] r with
 | true=>exact named_ag 3 r.tail
 | false =>
 cases b4:isT [101,118,101,114] r with
 | true=>exact within_ag hA hS hR 16 (key b4) ht
 | false =>
 cases b5:isT [108,111,110,103] r with
 | true=>exact within_ag hA hS hR 17 (key b5) ht
 | false =>
 cases b6:isT [115,111,111,110] r with
 | true=>exact within_ag hA hS hR 18 (key b6) ht
 | false =>
 cases b7:isT [109,105,110] r with
 | true =>
  have bx:isT [109,97,120] r=false:=by
   exact zt165
  rw [bx]
  exact pair_ag hA hS hR 8 (key b7) ht
 | false =>
 cases b8:isT [109,97,120] r with
 | true=>exact pair_ag hA hS hR 9 (key b8) ht
 | false =>
 cases b9:isT [40] r with
 | true=>exact paren_ag hA (key b9) ht
 | false=>exact named_ag 1 r
theorem sym_form (t:Tok):(symT t).1<0∨1≤(symT t).2∧(symT t).2≤6∧(symT t).2≠3:=by
 unfold symT
 repeat' split
 all_goals decide
theorem op_sym (r:List Tok):if opI r<0 then (symT (hdT r)).1<0 else symT (hdT r)=((opAt (opI r)).op,(opAt (opI r)).form):=by
 unfold opI opAt symT oprL isT
 by_cases hk:(hdT r).kind=3
 ·rw [if_pos hk]
  simp [hk,idxP]
 rw [if_neg hk]
 by_cases b0:(hdT r).text=[111,114]
 ·simp [hk,idxP,b0]
 by_cases b1:(hdT r).text=[97,110,100]
 ·simp [hk,idxP,b1]
 by_cases b2:(hdT r).text=[61,61]
 ·simp [hk,idxP,b2]
 by_cases b3:(hdT r).text=[60]
 ·simp [hk,idxP,b3]
 by_cases b4:(hdT r).text=[43]
 ·simp [hk,idxP,b4]
 by_cases b5:(hdT r).text=[45]
 ·simp [hk,idxP,b5]
 by_cases b6:(hdT r).text=[42]
 ·simp [hk,idxP,b6]
 by_cases b7:(hdT r).text=[47]
 ·simp [hk,idxP,b7]
 simp [hk,idxP,b0,b1,b2,b3,b4,b5,b6,b7]
def downS (ex:Req):Nat→Int→Exp→Sr→Exp×Sr
 | 0,_,e,s=>(e,s)
 | n+1,form,e,s=>loopS ex form (downS ex n (form+1) e s).2.r.length (downS ex n (form+1) e s).1 (downS ex n (form+1) e s).2
theorem down_ss {ex:Req} (h:ReqS ex):∀ (n:Nat) (form:Int) (e:Exp) (s:Sr),SS s (downS ex n form e s).2
 | 0,_,_,s=>.refl s
 | n+1,form,e,s=>(down_ss h n (form+1) e s).trans (loop_ss h _ _ _ _)
theorem loop_id {ex:Req} {form:Int} {f:Nat} {e:Exp} {s:Sr} (h:(symT (nextS s)).1<0∨(symT (nextS s)).2≠form):loopS ex form f e s=(e,s):=by
 cases f with
 | zero=>rfl
 | succ f=>rw [loopS,if_pos h]
theorem down_id {ex:Req} {e:Exp} {s:Sr}:∀ (n:Nat) (form:Int),((symT (nextS s)).1<0∨(symT (nextS s)).2<form∨form+n≤(symT (nextS s)).2)→downS ex n form e s=(e,s)
 | 0,_,_=>rfl
 | n+1,form,h=>by
  have ih:=down_id (ex:=ex) (e:=e) n (form+1) (by
   rcases h with h | h | h
   ·exact .inl h
   ·exact .inr (.inl om0)
   ·exact .inr (.inr om0))
  unfold downS
  rw [ih]
  refine loop_id ?_
  dsimp only
  rcases h with h | h | h
  ·exact .inl h
  ·exact .inr (by show ¬ _=form;omega)
  ·exact .inr (by show ¬ _=form;omega)
theorem down_add {ex:Req} {e:Exp} {s:Sr} (b:Nat):∀ (a:Nat) (form:Int),downS ex (a+b) form e s=downS ex a form (downS ex b (form+a) e s).1 (downS ex b (form+a) e s).2
 | 0,form=>by
  rw [Nat.zero_add,show form+((0:Nat):Int)=form by omega]
  rfl
 | a+1,form=>by
  rw [show a+1+b=(a+b)+1 by omega]
  rw [downS,down_add b a (form+1),downS]
  rw [show form+1+(a:Int)=form+((a+1:Nat):Int) by omega]
theorem loopS_fuel {ex:Req} (hS:ReqS ex) {form:Int}:∀ (f f':Nat) (e:Exp) (s:Sr),Fin1 s.r→s.r.length≤f→s.r.length≤f'→loopS ex form f e s=loopS ex form f' e s
 | 0,_,_,s,hf,h,_=>absurd (List.length_pos_iff.2 hf.ne) (by omega)
 | _+1,0,_,s,hf,_,h=>absurd (List.length_pos_iff.2 hf.ne) (by omega)
 | f+1,f'+1,e,s,hf,h,h'=>by
  unfold loopS
  refine ite2 (fun _=>rfl) fun hc=>?_
  have hc:¬ (symT (nextS s)).1<0:=fun x=>hc (.inl x)
  have h1:=(adv_ss (sym_kind hc) (sym_none hc)).trans (hS (form+1) (advS s))
  have h2:(ex (form+1) (advS s)).2.r.length≤s.r.tail.length:=(hS (form+1) (advS s)).suf.le
  have h3:=tail_lt hf
  exact ite2 (fun _=>rfl) fun _=>loopS_fuel hS f f' _ _ (h1.fin hf) om0 om0
def topF (own:Int):Int:=if own=4 then 3 else if own=7 then 6 else own
theorem loop_ag {n:Nat} {ex:Rec} {exR:Req} (hA:HA n ex exR) (hS:RecS ex) (hR:ReqS exR) {form:Int} (h0:0≤form):∀ (f:Nat) (own:Int) (e:Exp) (r:List Tok),0≤own→own≤7→Fin1 r→r.length≤f→r.length≤n+1 →
  Ag (loopP ex form f e own r) (downS exR (topF own+1-form).toNat form e (sN r))
 | 0,_,_,r,_,_,hf,h,_=>absurd (List.length_pos_iff.2 hf.ne) (by omega)
 | f+1,own,e,r,w0,w7,hf,hl,hn=>by
  have hop:=op_sym r
  have hx:nextS (sN r)=hdT r:=rfl
  by_cases hi:opI r<0
  ·rw [if_pos hi] at hop
   rw [loopP,if_pos hi]
   exact down_id _ _ (.inl hop)
  rw [if_neg hi] at hop
  obtain ⟨hi1,hi2⟩:=opI_ok hi
  have hfm:=form_bnd hi1
  have hoa:opAt (opI r)=oprL.getD (opI r).toNat o0:=rfl
  rw [← hoa] at hfm
  have hsy:(symT (nextS (sN r))).2=(opAt (opI r)).form:=by rw [hx,hop]
  have hsy1:(symT (nextS (sN r))).1=(opAt (opI r)).op:=by rw [hx,hop]
  have hsf:=sym_form (nextS (sN r))
  have hnn:¬ (symT (nextS (sN r))).1<0:=by
   rw [hsy1]
   have:∀ i,i<8→¬ (oprL.getD i o0).op<0:=by decide
   exact this _ hi1
  have hn3:(opAt (opI r)).form≠3:=by
   rcases hsf with h | h
   ·exact (hnn h).elim
   ·rw [← hsy];exact h.2.2
  rw [loopP,if_neg hi]
  dsimp only
  by_cases hc:(opAt (opI r)).form<form∨own<(opAt (opI r)).form∨own=4∧(opAt (opI r)).form=4
  ·rw [if_pos hc]
   refine down_id _ _ (.inr ?_)
   rw [hsy]
   unfold topF
   rcases hc with h | h | h
   ·exact .inl h
   ·refine (Int.lt_or_le (opAt (opI r)).form form).imp id fun hge=>?_
    split
    ·omega
    split<;>omega
   ·refine (Int.lt_or_le (opAt (opI r)).form form).imp id fun hge=>?_
    rw [if_pos h.1]
    omega
  rw [if_neg hc]
  have c1:form≤(opAt (opI r)).form:=by omega
  have c2:(opAt (opI r)).form≤topF own:=by
   unfold topF
   split
   ·omega
   split<;>omega
  generalize hF:(opAt (opI r)).form=F at *
  have hk:=isT_kind hi2
  have hft:=hf.tail hk
  have htl:=tail_lt hf
  have ha:=hA (F+1) r.tail (by omega) (by omega) hft (by omega)
  have hcount:(topF own+1-form).toNat=(F-form).toNat+((topF own-F).toNat+1):=by omega
  have hFa:form+((F-form).toNat:Int)=F:=by omega
  have hgo:¬ ((symT (nextS (sN r))).1<0∨(symT (nextS (sN r))).2≠F):=by
   rintro (h | h)
   ·exact hnn h
   ·exact h hsy
  rw [hcount,down_add,hFa]
  rw [downS,down_id (topF own-F).toNat (F+1) (.inr (.inl (by rw [hsy];omega)))]
  dsimp only
  obtain ⟨g,hg⟩:∃ g,r.length=g+1:=⟨r.length-1,by have:=List.length_pos_iff.2 hf.ne;omega⟩
  rw [hg,loopS,if_neg hgo]
  rw [hsy1]
  have hadv:advS (sN r)=sN r.tail:=rfl
  rw [hadv]
  cases e1:ex (F+1) r.tail with
  | error e' =>
   dsimp only
   refine ag_er ha e1 ?_
   split
   ·exact down_ss hR _ _ _ _
   ·exact (loop_ss hR _ _ _ _).trans (down_ss hR _ _ _ _)
  | ok v =>
  obtain ⟨y,r'⟩:=v
  dsimp only
  have s1:=hS _ _ _ _ e1
  rw [ag_ok ha e1]
  dsimp only
  have hl':r'.length≤f:=by have:=s1.le;omega
  have ih:=loop_ag hA hS hR h0 f F (.mk (opAt (opI r)).op 0 0 [] [e,y]) r' (by omega) (by omega) (s1.2 hft) hl' (by have:=s1.le;omega)
  by_cases h4:F=4
  ·rw [if_pos h4]
   have ht:topF F=3:=by rw [h4];rfl
   rw [ht,show (3+1-form).toNat=(F-form).toNat by omega] at ih
   exact ih
  ·rw [if_neg h4]
   have ht:topF F=F:=by unfold topF;rw [if_neg h4,if_neg (show ¬ F=7 by omega)]
   rw [ht,show (F+1-form).toNat=(F-form).toNat+1 by omega,down_add,hFa] at ih
   rw [downS,downS] at ih
   dsimp only at ih
   rw [loopS_fuel hR g r'.length _ _ (s1.2 hft) (by show r'.length≤g;have:=s1.le;omega) (Nat.le_refl _)]
   exact ih
theorem exC_step {form:Int} {r:List Tok} (h0:0≤form) (h7:form<7) (hf:Fin1 r) (hi:form=0→isT [105,102] r=false) (h3:form=3→isT [110,111,116] r=false) :
  exC form (sN r)=loopS exC form (exC (form+1) (sN r)).2.r.length (exC (form+1) (sN r)).1 (exC (form+1) (sN r)).2:=by
 have hsf:=sym_form (nextS (exC (form+1) (sN r)).2)
 have hid:form=0∨form=3→(symT (nextS (exC (form+1) (sN r)).2)).1<0∨(symT (nextS (exC (form+1) (sN r)).2)).2≠form:=by
  intro h
  rcases hsf with h' | h'
  ·exact .inl h'
  ·exact .inr om0
 have e1:∀ w,isS w (sN r)=isT w r:=fun _=>rfl
 rw [exC_eq (form:=form) (s:=sN r) h0 (by omega) hf]
 unfold expT
 rw [if_neg (show ¬ (sN r).er.isSome=true from fun h=>Bool.noConfusion h)]
 rw [e1,e1]
 by_cases f0:form=0
 ·rw [hi f0,if_neg (by simp),if_pos f0,loop_id (hid (.inl f0)),f0]
  rfl
 rw [if_neg (fun x=>f0 x.1),if_neg f0]
 by_cases f3:form=3
 ·rw [h3 f3,if_neg (by simp),if_neg (show ¬ form=7 by omega),if_pos f3,loop_id (hid (.inr f3)),f3]
  rfl
 rw [if_neg (fun x=>f3 x.1),if_neg (show ¬ form=7 by omega),if_neg f3]
theorem exC_down {r:List Tok} (hf:Fin1 r):∀ (k:Nat) (form:Int),0≤form→form+k≤7→(form=0→isT [105,102] r=false∨k=0)→(isT [110,111,116] r=false∨form+k≤3∨3<form) →
  exC form (sN r)=downS exC k form (exC (form+k) (sN r)).1 (exC (form+k) (sN r)).2
 | 0,form,_,_,_,_=>by
  rw [show form+((0:Nat):Int)=form by omega]
  rfl
 | k+1,form,h0,h7,hi,hn=>by
  have ih:=exC_down hf k (form+1) (by omega) (by omega) (fun h=>by omega) (hn.imp id (fun h=>by omega))
  rw [show form+1+(k:Int)=form+((k+1:Nat):Int) by omega] at ih
  rw [downS,← ih]
  exact exC_step h0 om0 hf (fun h=>(hi h).resolve_right om0) (fun h=>hn.resolve_right om0)
theorem exC_if {r:List Tok} (hf:Fin1 r) (hb:isT [105,102] r=true):exC 0 (sN r)=ifS exC (sN r.tail):=by
 rw [exC_eq (form:=0) (s:=sN r) (by omega) (by omega) hf]
 unfold expT
 rw [if_neg (show ¬ (sN r).er.isSome=true from fun h=>Bool.noConfusion h),if_pos ⟨rfl,hb⟩]
 rfl
theorem exC_not {r:List Tok} (hf:Fin1 r) (hb:isT [110,111,116] r=true):exC 3 (sN r)=notS exC (sN r.tail):=by
 rw [exC_eq (form:=3) (s:=sN r) (by omega) (by omega) hf]
 unfold expT
 rw [if_neg (show ¬ (sN r).er.isSome=true from fun h=>Bool.noConfusion h),if_neg (fun x=>absurd x.1 (by decide)),if_neg (by decide),if_pos ⟨rfl,hb⟩]
 rfl
theorem exC_7 {r:List Tok} (hf:Fin1 r):exC 7 (sN r)=primS exC (sN r):=by
 rw [exC_eq (form:=7) (s:=sN r) (by omega) (by omega) hf]
 unfold expT
 rw [if_neg (show ¬ (sN r).er.isSome=true from fun h=>Bool.noConfusion h),if_neg (fun x=>absurd x.1 (by decide)),if_neg (by decide),if_neg (fun x=>absurd x.1 (by decide)),if_pos rfl]
theorem down_ag {n:Nat} {ex:Rec} (hA:HA n ex exC) (hS:RecS ex) {form own:Int} (h0:0≤form) (w0:0≤own) (w7:own≤7) {r:List Tok} {p:Ps Exp} {g:Exp×Sr} (ha:Ag p g) (hp:∀ x r',p=.ok (x,r')→Suf r r') (hf:Fin1 r) (hn:r.length≤n+1) :
  Ag (match p with
   | .error e=>.error e
   | .ok (e,r')=>loopP ex form r'.length e own r') (downS exC (topF own+1-form).toNat form g.1 g.2):=by
 cases e1:p with
 | error e=>exact ag_er ha e1 (down_ss exC_ss _ _ _ _)
 | ok v =>
  obtain ⟨x,r'⟩:=v
  have s1:=hp _ _ e1
  rw [ag_ok ha e1]
  exact loop_ag hA hS exC_ss h0 r'.length own x r' w0 w7 (s1.2 hf) (Nat.le_refl _) (Nat.le_trans s1.le hn)
theorem exp_ag:∀ n:Nat,HA n (expP n) exC
 | 0,form,r,_,_,hf,hn=>absurd (List.length_pos_iff.2 hf.ne) (by omega)
 | n+1,form,r,h0,h7,hf,hn=>by
  have hA:=exp_ag n
  have hS:=expP_suf n
  have htl:=tail_lt hf
  show Ag (expS (expP n) form r) _
  unfold expS prefP
  by_cases c1:form=0∧isT [105,102] r=true
  ·rw [if_pos c1]
   have:=down_ag hA hS h0 (own:=0) (by omega) (by omega) (if_ag hA hS exC_ss (hf.tail (isT_kind c1.2)) (show r.tail.length≤n by omega)) (fun x r' h=>(Suf.tail (isT_kind c1.2)).trans (ifP_suf hS h)) hf hn
   rw [c1.1] at this ⊢
   rw [exC_if hf c1.2]
   rw [show (topF 0+1-0).toNat=0+1 from rfl,downS] at this
   dsimp only [downS] at this
   rw [loop_id (by
    rcases sym_form (nextS (ifS exC (sN r.tail)).2) with h | h
    ·exact .inl h
    ·exact .inr om0)] at this
   cases e1:ifP (expP n) r.tail with
   | error e=>rw [e1] at this;exact this
   | ok v=>rw [e1] at this;exact this
  rw [if_neg c1]
  have hi:form=0→isT [105,102] r=false:=fun h=>by
   cases hb:isT [105,102] r with
   | true=>exact (c1 ⟨h,hb⟩).elim
   | false=>rfl
  by_cases c2:form≤3∧isT [110,111,116] r=true
  ·rw [if_pos c2]
   have:=down_ag hA hS h0 (own:=3) (by omega) (by omega) (not_ag hA (hf.tail (isT_kind c2.2)) (show r.tail.length≤n by omega)) (fun x r' h=>(Suf.tail (isT_kind c2.2)).trans (notP_suf hS h)) hf hn
   rw [exC_down hf (3-form).toNat form h0 (by omega) (fun h=>.inl (hi h)) (.inr (.inl (by omega))),show form+((3-form).toNat:Int)=3 by omega,exC_not hf c2.2]
   rw [show (topF 3+1-form).toNat=(3-form).toNat+1 by show (3+1-form).toNat=_;omega,down_add,show form+((3-form).toNat:Int)=3 by omega,downS] at this
   dsimp only [downS] at this
   rw [loop_id (by
    rcases sym_form (nextS (notS exC (sN r.tail)).2) with h | h
    ·exact .inl h
    ·exact .inr om0)] at this
   cases e1:notP (expP n) r.tail with
   | error e=>rw [e1] at this;exact this
   | ok v=>rw [e1] at this;exact this
  ·rw [if_neg c2]
   have:=down_ag hA hS h0 (own:=7) (by omega) (by omega) (prim_ag hA hS exC_ss hf hn) (fun x r' h=>primP_suf hS h) hf hn
   have hd:isT [110,111,116] r=false∨form+((7-form).toNat:Int)≤3∨3<form:=by
    cases hb:isT [110,111,116] r with
    | true =>
     refine .inr (.inr ?_)
     by_cases h:form≤3
     ·exact (c2 ⟨h,hb⟩).elim
     ·omega
    | false=>exact .inl rfl
   rw [exC_down hf (7-form).toNat form h0 (by omega) (fun h=>.inl (hi h)) hd,show form+((7-form).toNat:Int)=7 by omega,exC_7 hf]
   rw [show (topF 7+1-form).toNat=(7-form).toNat by show (6+1-form).toNat=_;omega] at this
   cases e1:primP (expP n) r with
   | error e=>rw [e1] at this;exact this
   | ok v=>rw [e1] at this;exact this
def indS (s:Sr):Ind×Sr :=
 let a1:=wantS [105,115,115,117,101] s
 let a2:=nameS a1
 let a3:=wantS [111,102] a2.2
 let a4:=nameS a3
 let a5:=wantS [59] a4.2
 let a6:=partSr [102,97,99,101] 1 1000000000000000 a5
 let a7:=wantS [102,114,111,109] a6.2
 let a8:=dateS (-1) a7
 let a9:=wantS [116,111] a8.2
 let a10:=dateS a8.1 a9
 let a11:=wantS [101,118,101,114,121] a10.2
 let a12:=numSr 1 120 a11
 let a13:=wantS [109,111,110,116,104,115] a12.2
 let a14:=wantS [59] a13
 let a15:=oneS [99,111,117,110,116] cntW a14
 let a16:=oneS [97,100,106,117,115,116] adjW a15.2
 let a17:=partSr [114,101,99,111,114,100] 0 100 a16.2
 let a18:=partSr [114,97,110,107] 0 9 a17.2
 let a19:=letsS a18.2.r.length [] a18.2
 let a20:=wantS [99,111,117,112,111,110] a19.2
 let a21:=wholeS [59] a20
 let a22:=partSr [99,97,112] 0 10000 a21.2
 let a23:=covsS a22.2.r.length [] a22.2
 let a24:=favS a23.2
 let a25:=maybeS [99,114,111,115,115] 1000000000000000 (-1) a24.2
 let a26:=callsS a25.2.r.length [] a25.2
 let a27:=maybeS [110,111,116,105,99,101] 1000 0 a26.2
 let a28:=maybeS [115,105,110,107] 1000 0 a27.2
 let a29:=partSr [109,97,106,111,114,105,116,121] 1 1000 a28.2
 let a30:=partSr [102,97,115,116] 1 1000 a29.2
 (⟨a2.1,a4.1,a6.1,a8.1,a10.1,a12.1,a15.1,a16.1,a17.1,a18.1,a19.1,a21.1,a22.1,a23.1,a24.1,a25.1,a26.1,a27.1,a28.1,a29.1,a30.1⟩,if a30.2.er.isSome=false∧(nextS a30.2).kind≠3 then failS 12 a30.2 else a30.2)
theorem fin_ss (s:Sr):SS s (if s.er.isSome=false∧(nextS s).kind≠3 then failS 12 s else s):=by
 split
 ·exact fail_ss _ dd0 _
 ·exact .refl _
theorem ind_ss (s:Sr):SS s (indS s).2:=by
 unfold indS
 dsimp only
 exact ((((((((((((((((((((((((((((((want_ss [105,115,115,117,101] dd0 _).trans (name_ss _)).trans (want_ss [111,102] dd0 _)).trans (name_ss _)).trans (want_ss [59] dd0 _)).trans (part_ss [102,97,99,101] dd0 _ _ _)).trans (want_ss [102,114,111,109] dd0 _)).trans (date_ss _ _)).trans (want_ss [116,111] dd0 _)).trans (date_ss _ _)).trans (want_ss [101,118,101,114,121] dd0 _)).trans (num_ss _ _ _)).trans (want_ss [109,111,110,116,104,115] dd0 _)).trans (want_ss [59] dd0 _)).trans (one_ss [99,111,117,110,116] dd0 cntW dd0 _)).trans (one_ss [97,100,106,117,115,116] dd0 adjW dd0 _)).trans (part_ss [114,101,99,111,114,100] dd0 _ _ _)).trans (part_ss [114,97,110,107] dd0 _ _ _)).trans (lets_ss _ _ _)).trans (want_ss [99,111,117,112,111,110] dd0 _)).trans (whole_ss _ _)).trans (part_ss [99,97,112] dd0 _ _ _)).trans (covs_ss _ _ _)).trans (fav_ss _)).trans (maybe_ss [99,114,111,115,115] dd0 _ _ _)).trans (calls_ss _ _ _)).trans (maybe_ss [110,111,116,105,99,101] dd0 _ _ _)).trans (maybe_ss [115,105,110,107] dd0 _ _ _)).trans (part_ss [109,97,106,111,114,105,116,121] dd0 _ _ _)).trans (part_ss [102,97,115,116] dd0 _ _ _)).trans (fin_ss _)
theorem nTF:¬ true=false:=fun h=>Bool.noConfusion h
theorem whole_ag {w:List UInt8} (hw:w≠[]) {r:List Tok} (hf:Fin1 r):Ag (wholeP w r) (wholeS w (sN r)):=by
 have ha:=exp_ag r.length 0 r (by omega) (by omega) hf (Nat.le_refl _)
 unfold wholeP wholeS
 dsimp only
 cases e1:expP r.length 0 r with
 | error e =>
  rw [e1] at ha
  have ha:(exC 0 (sN r)).2.er=some e:=ha
  rw [ha,if_pos (show (some e).isSome=true from rfl)]
  exact ha
 | ok v =>
 obtain ⟨x,r1⟩:=v
 rw [ag_ok ha e1]
 dsimp only
 rw [if_neg (show ¬ (none:Option Er).isSome=true from fun h=>Bool.noConfusion h)]
 have hi:isS w (sN r1)=isT w r1:=rfl
 rw [hi]
 cases hb:isT w r1 with
 | false =>
  rw [if_pos (show false=false from rfl),if_pos (show w=[]∧(nextS (sN r1)).kind≠3∨w≠[]∧false=false from .inr ⟨hw,rfl⟩)]
  rfl
 | true =>
  rw [if_neg (show ¬ true=false from fun h=>Bool.noConfusion h),if_neg (show ¬ (w=[]∧(nextS (sN r1)).kind≠3∨w≠[]∧true=false) from fun y=>y.elim (fun z=>hw z.1) (fun z=>Bool.noConfusion z.2))]
  by_cases h12:((lev x:Nat):Int)≤12
  ·rw [if_pos h12,if_neg (show ¬ 12<((lev x:Nat):Int) by omega),if_pos hw]
   rfl
  ·rw [if_neg h12,if_pos (show 12<((lev x:Nat):Int) by omega)]
   rfl
theorem part_ag (w:List UInt8) (a b:Int) (r:List Tok):Ag (partP w a b r) (partSr w a b (sN r)):=by
 have a1:=want_ag w r
 unfold partP partSr
 cases e1:wantP w r with
 | error e=>exact agR_er a1 e1 ((num_ss a b _).trans (want_ss [59] (by decide) _))
 | ok r1 =>
 rw [agR_ok a1 e1]
 dsimp only
 have a2:=num_ag a b r1
 cases e2:numP a b r1 with
 | error e=>exact ag_er a2 e2 (want_ss [59] (by decide) _)
 | ok v =>
 obtain ⟨n,r2⟩:=v
 rw [ag_ok a2 e2]
 dsimp only
 have a3:=want_ag [59] r2
 cases e3:wantP [59] r2 with
 | error e=>exact agR_er a3 e3 (.refl _)
 | ok r3 =>
 rw [agR_ok a3 e3]
 rfl
theorem maybe_ag (w:List UInt8) (a n0:Int) (r:List Tok):Ag (maybeP w a n0 r) (maybeS w a n0 (sN r)):=by
 unfold maybeP maybeS
 have hi:isS w (sN r)=isT w r:=rfl
 rw [hi]
 cases isT w r with
 | true=>exact part_ag w 0 a r
 | false=>rfl
theorem one_ag (w:List UInt8) (ws:List (List UInt8)) (hws:∀ x∈ws,x≠[]) (r:List Tok):Ag (oneP w ws r) (oneS w ws (sN r)):=by
 have a1:=want_ag w r
 unfold oneP oneS
 dsimp only
 cases e1:wantP w r with
 | error e =>
  rw [e1] at a1
  refine agR_er a1 rfl ?_
  have hb:∀ x,x∈ws→isS x (wantS w (sN r))=false:=by
   intro x hx
   have h:(wantS w (sN r)).er=some e:=a1
   cases hi:isS x (wantS w (sN r)) with
   | false=>rfl
   | true =>
    have:=is_none (hws x hx) hi
    rw [h] at this
    cases this
  have hi:idxP (fun x=>isS x (wantS w (sN r))) ws=-1:=idxP_none (d:=[]) (fun j hj=>hb _ (by
   rw [List.getD_eq_getElem?_getD,List.getElem?_eq_getElem hj]
   exact List.getElem_mem _))
  rw [hi,if_pos (by decide)]
  exact fail_ss _ dd0 _
 | ok r1 =>
 rw [agR_ok a1 e1]
 have hx:(fun x=>isS x (sN r1))=(fun x=>isT x r1):=rfl
 rw [hx]
 dsimp only
 by_cases hi:idxP (fun x=>isT x r1) ws<0
 ·rw [if_pos hi,if_pos hi]
  rfl
 rw [if_neg hi,if_neg hi]
 have a2:=want_ag [59] r1.tail
 have ha:advS (sN r1)=sN r1.tail:=rfl
 rw [ha]
 cases e2:wantP [59] r1.tail with
 | error e=>exact agR_er a2 e2 (.refl _)
 | ok r2 =>
 rw [agR_ok a2 e2]
 rfl
theorem date_ag (least:Int) (r:List Tok):Ag (dateP least r) (dateS least (sN r)):=by
 unfold dateP dateS
 dsimp only
 have tl:∀ (y m:Int) (s:Sr),SS s (if (nextS s).kind≠1 then (0,failS 12 s) else if (dayOf y m (nextS s).n).2≠0 then (0,failS 23 s) else if (dayOf y m (nextS s).n).1≤least then (0,failS 3 s) else ((dayOf y m (nextS s).n).1,advS s)).2:=by
  intro y m s
  split
  ·exact fail_ss _ dd0 _
  rename_i hk
  have hk:=Decidable.of_not_not hk
  split
  ·exact fail_ss _ dd0 _
  split
  ·exact fail_ss _ dd0 _
  ·exact adv_ss (by rw [hk];decide) (kind_none hk)
 have a1:=num_ag 0 1000000000000000 r
 cases e1:numP 0 1000000000000000 r with
 | error e=>exact ag_er a1 e1 ((((want_ss [45] (by decide) _).trans (num_ss 0 1000000000000000 _)).trans (want_ss [45] (by decide) _)).trans (tl _ _ _))
 | ok v =>
 obtain ⟨y,r1⟩:=v
 rw [ag_ok a1 e1]
 dsimp only
 have a2:=want_ag [45] r1
 cases e2:wantP [45] r1 with
 | error e=>exact agR_er a2 e2 (((num_ss 0 1000000000000000 _).trans (want_ss [45] (by decide) _)).trans (tl _ _ _))
 | ok r2 =>
 rw [agR_ok a2 e2]
 dsimp only
 have a3:=num_ag 0 1000000000000000 r2
 cases e3:numP 0 1000000000000000 r2 with
 | error e=>exact ag_er a3 e3 ((want_ss [45] (by decide) _).trans (tl _ _ _))
 | ok v =>
 obtain ⟨m,r3⟩:=v
 rw [ag_ok a3 e3]
 dsimp only
 have a4:=want_ag [45] r3
 cases e4:wantP [45] r3 with
 | error e=>exact agR_er a4 e4 (tl _ _ _)
 | ok r4 =>
 rw [agR_ok a4 e4]
 have hx:nextS (sN r4)=hdT r4:=rfl
 dsimp only
 rw [hx]
 by_cases hk:(hdT r4).kind=1
 ·rw [if_neg (not_not_intro hk),if_neg (not_not_intro hk)]
  by_cases h0:(dayOf y m (hdT r4).n).2=0
  ·rw [if_neg (not_not_intro h0),if_neg (not_not_intro h0)]
   by_cases hl:least<(dayOf y m (hdT r4).n).1
   ·rw [if_pos hl,if_neg (by omega)]
    rfl
   ·rw [if_neg hl,if_pos (by omega)]
    rfl
  ·rw [if_pos h0,if_pos h0]
   rfl
 ·rw [if_pos hk,if_pos hk]
  rfl
theorem fresh_ag (names:List (List UInt8)) (r:List Tok):Ag (freshP names r) (freshS names (sN r)):=by
 unfold freshP freshS
 have h1:namedS (sN r)=namedB r:=rfl
 have h2:nextS (sN r)=hdT r:=rfl
 rw [h1,h2]
 cases namedB r with
 | false=>rfl
 | true =>
  rw [if_neg nTF,if_neg nTF]
  split<;>rfl
theorem zt136 {p:Prop}(h:p:=by
 rw [if_pos (show ¬ (ls.length:Int)<20 by omega),if_pos h20]
 rfl):p:=h
theorem lets_ag:∀ (f:Nat) (ls:List LetE) (r:List Tok),Fin1 r→(ls.length:Int)≤20→Ag (letsP f ls r) (letsS f ls (sN r))
 | 0,_,_,_,_=>rfl
 | f+1,ls,r,hf,hl=>by
  unfold letsP letsS
  have hi:isS [108,101,116] (sN r)=isT [108,101,116] r:=rfl
  rw [hi]
  cases hb:isT [108,101,116] r with
  | false=>rfl
  | true =>
  rw [if_neg nTF,if_neg nTF]
  by_cases h20:(ls.length:Int)=20
  ·exact zt136
  rw [if_neg (show ¬ ¬ (ls.length:Int)<20 by omega),if_neg h20]
  have ha:advS (sN r)=sN r.tail:=rfl
  rw [ha]
  dsimp only
  have hl':∀ x:LetE,((ls++[x]).length:Int)≤20:=fun x=>by rw [List.length_append];show ((ls.length+1:Nat):Int)≤20;omega
  have f0:=hf.tail (isT_kind hb)
  have t1:=fun (l:List LetE) (s:Sr)=>lets_ss f l s
  have a1:=fresh_ag (ls.map LetE.name) r.tail
  cases e1:freshP (ls.map LetE.name) r.tail with
  | error e=>exact ag_er a1 e1 (((want_ss [61] (by decide) _).trans (whole_ss _ _)).trans (t1 _ _))
  | ok v =>
  obtain ⟨nm,r1⟩:=v
  rw [ag_ok a1 e1]
  dsimp only
  have a2:=want_ag [61] r1
  cases e2:wantP [61] r1 with
  | error e=>exact agR_er a2 e2 ((whole_ss _ _).trans (t1 _ _))
  | ok r2 =>
  rw [agR_ok a2 e2]
  dsimp only
  have f2:=((freshP_suf e1).trans (wantP_suf e2)).2 f0
  have a3:=whole_ag (w:=[59]) (by decide) f2
  cases e3:wholeP [59] r2 with
  | error e=>exact ag_er a3 e3 (t1 _ _)
  | ok v =>
  obtain ⟨x,r3⟩:=v
  rw [ag_ok a3 e3]
  dsimp only
  exact lets_ag f _ r3 ((wholeP_suf e3).2 f2) (hl' _)
theorem covs_ag:∀ (f:Nat) (ls:List Cov) (r:List Tok),Fin1 r→(ls.length:Int)≤20→Ag (covsP f ls r) (covsS f ls (sN r))
 | 0,_,_,_,_=>rfl
 | f+1,ls,r,hf,hl=>by
  unfold covsP covsS
  have hi:isS [99,111,118,101,110,97,110,116] (sN r)=isT [99,111,118,101,110,97,110,116] r:=rfl
  rw [hi]
  cases hb:isT [99,111,118,101,110,97,110,116] r with
  | false=>rfl
  | true =>
  rw [if_neg nTF,if_neg nTF]
  by_cases h20:(ls.length:Int)=20
  ·exact zt136
  rw [if_neg (show ¬ ¬ (ls.length:Int)<20 by omega),if_neg h20]
  have ha:advS (sN r)=sN r.tail:=rfl
  rw [ha]
  dsimp only
  have hl':∀ x:Cov,((ls++[x]).length:Int)≤20:=fun x=>by rw [List.length_append];show ((ls.length+1:Nat):Int)≤20;omega
  have f0:=hf.tail (isT_kind hb)
  have t1:=fun (l:List Cov) (s:Sr)=>covs_ss f l s
  have a1:=fresh_ag (ls.map Cov.name) r.tail
  cases e1:freshP (ls.map Cov.name) r.tail with
  | error e=>exact ag_er a1 e1 ((((want_ss [109,117,115,116] (by decide) _).trans (whole_ss _ _)).trans (num_ss _ _ _)).trans ((want_ss [59] (by decide) _).trans (t1 _ _)))
  | ok v =>
  obtain ⟨nm,r1⟩:=v
  rw [ag_ok a1 e1]
  dsimp only
  have a2:=want_ag [109,117,115,116] r1
  cases e2:wantP [109,117,115,116] r1 with
  | error e=>exact agR_er a2 e2 (((whole_ss _ _).trans (num_ss _ _ _)).trans ((want_ss [59] (by decide) _).trans (t1 _ _)))
  | ok r2 =>
  rw [agR_ok a2 e2]
  dsimp only
  have f2:=((freshP_suf e1).trans (wantP_suf e2)).2 f0
  have a3:=whole_ag (w:=[103,114,97,99,101]) (by decide) f2
  cases e3:wholeP [103,114,97,99,101] r2 with
  | error e=>exact ag_er a3 e3 ((num_ss _ _ _).trans ((want_ss [59] (by decide) _).trans (t1 _ _)))
  | ok v =>
  obtain ⟨x,r3⟩:=v
  rw [ag_ok a3 e3]
  dsimp only
  have f3:=(wholeP_suf e3).2 f2
  have a4:=num_ag 0 1000 r3
  cases e4:numP 0 1000 r3 with
  | error e=>exact ag_er a4 e4 ((want_ss [59] (by decide) _).trans (t1 _ _))
  | ok v =>
  obtain ⟨n,r4⟩:=v
  rw [ag_ok a4 e4]
  dsimp only
  have a5:=want_ag [59] r4
  cases e5:wantP [59] r4 with
  | error e=>exact agR_er a5 e5 (t1 _ _)
  | ok r5 =>
  rw [agR_ok a5 e5]
  dsimp only
  exact covs_ag f _ r5 (((numP_suf e4).1.trans (wantP_suf e5)).2 f3) (hl' _)
theorem calls_ag:∀ (f:Nat) (ls:List CallE) (r:List Tok),Fin1 r→(ls.length:Int)≤20→Ag (callsP f ls r) (callsS f ls (sN r))
 | 0,_,_,_,_=>rfl
 | f+1,ls,r,hf,hl=>by
  unfold callsP callsS
  have hi:isS [99,97,108,108] (sN r)=isT [99,97,108,108] r:=rfl
  rw [hi]
  cases hb:isT [99,97,108,108] r with
  | false=>rfl
  | true =>
  rw [if_neg nTF,if_neg nTF]
  by_cases h20:(ls.length:Int)=20
  ·exact zt136
  rw [if_neg (show ¬ ¬ (ls.length:Int)<20 by omega),if_neg h20]
  have ha:advS (sN r)=sN r.tail:=rfl
  rw [ha]
  dsimp only
  have hl':∀ x:CallE,((ls++[x]).length:Int)≤20:=fun x=>by rw [List.length_append];show ((ls.length+1:Nat):Int)≤20;omega
  have f0:=hf.tail (isT_kind hb)
  have t1:=fun (l:List CallE) (s:Sr)=>calls_ss f l s
  have a1:=date_ag (-1) r.tail
  cases e1:dateP (-1) r.tail with
  | error e=>exact ag_er a1 e1 (((want_ss [97,116] (by decide) _).trans (num_ss _ _ _)).trans ((want_ss [59] (by decide) _).trans (t1 _ _)))
  | ok v =>
  obtain ⟨d,r1⟩:=v
  rw [ag_ok a1 e1]
  dsimp only
  have a2:=want_ag [97,116] r1
  cases e2:wantP [97,116] r1 with
  | error e=>exact agR_er a2 e2 ((num_ss _ _ _).trans ((want_ss [59] (by decide) _).trans (t1 _ _)))
  | ok r2 =>
  rw [agR_ok a2 e2]
  dsimp only
  have f2:=((dateP_suf e1).trans (wantP_suf e2)).2 f0
  have a4:=num_ag 0 10000 r2
  cases e4:numP 0 10000 r2 with
  | error e=>exact ag_er a4 e4 ((want_ss [59] (by decide) _).trans (t1 _ _))
  | ok v =>
  obtain ⟨n,r4⟩:=v
  rw [ag_ok a4 e4]
  dsimp only
  have a5:=want_ag [59] r4
  cases e5:wantP [59] r4 with
  | error e=>exact agR_er a5 e5 (t1 _ _)
  | ok r5 =>
  rw [agR_ok a5 e5]
  dsimp only
  exact calls_ag f _ r5 (((numP_suf e4).1.trans (wantP_suf e5)).2 f2) (hl' _)
theorem favQ_ag:∀ (f g:Nat) (ls:List (List UInt8)) (r:List Tok),Fin1 r→r.length≤f→r.length<g→(ls.length:Int)≤20→Ag (favK (favL f ls r)) (favQ g ls (sN r))
 | 0,_,_,r,hf,h,_,_=>absurd (List.length_pos_iff.2 hf.ne) (by omega)
 | _+1,0,_,_,_,_,h,_=>absurd h (Nat.not_lt_zero _)
 | f+1,g+1,ls,r,hf,h1,h2,hl=>by
  unfold favL favQ
  have hi:isS [59] (sN r)=isT [59] r:=rfl
  have hn:namedS (sN r)=namedB r:=rfl
  rw [hi,hn]
  have he:(sN r).er.isSome=false:=rfl
  by_cases hc:ls.length=0∨isT [59] r=false
  ·rw [if_pos hc,if_pos (show (sN r).er.isSome=false∧((ls.length:Int)=0∨isT [59] r=false) from ⟨he,hc.imp (fun h=>by omega) id⟩)]
   cases hb:namedB r with
   | false =>
    rw [if_pos (show false=false from rfl),if_neg (show ¬ ((ls.length:Int)=20∧false=true) from fun y=>Bool.noConfusion y.2)]
    have hfr:(freshS ls (sN r)).2.er=some ((hdT r).pos,12):=by
     unfold freshS
     rw [hn,hb,if_pos (show false=false from rfl)]
     rfl
    exact (favQ_ss g _ _).keep _ hfr
   | true =>
   rw [if_neg nTF]
   by_cases h20:(ls.length:Int)=20
   ·rw [if_pos (show ¬ (ls.length:Int)<20 by omega),if_pos (show (ls.length:Int)=20∧true=true from ⟨h20,rfl⟩)]
    rfl
   rw [if_neg (show ¬ ¬ (ls.length:Int)<20 by omega),if_neg (show ¬ ((ls.length:Int)=20∧true=true) from fun y=>h20 y.1)]
   have a1:=fresh_ag ls r
   cases e1:freshP ls r with
   | error e=>exact ag_er a1 e1 (favQ_ss g _ _)
   | ok v =>
   obtain ⟨nm,r1⟩:=v
   rw [ag_ok a1 e1]
   dsimp only
   have hr1:r1=r.tail:=by
    unfold freshP at e1
    split at e1
    ·cases e1
    split at e1
    ·cases e1
    ·cases e1;rfl
   have ht:=tail_lt hf
   refine favQ_ag f g _ r1 ((freshP_suf e1).2 hf) (by rw [hr1];omega) (by rw [hr1];omega) ?_
   rw [List.length_append]
   show ((ls.length+1:Nat):Int)≤20
   omega
  ·rw [if_neg hc,if_neg (show ¬ ((sN r).er.isSome=false∧((ls.length:Int)=0∨isT [59] r=false)) from fun y=>hc (y.2.imp (fun h=>by omega) id))]
   have a1:=want_ag [59] r
   unfold favK
   dsimp only
   cases e1:wantP [59] r with
   | error e=>exact agR_er a1 e1 (.refl _)
   | ok r1 =>
    rw [agR_ok a1 e1]
    rfl
theorem fav_ag {r:List Tok} (hf:Fin1 r):Ag (favP r) (favS (sN r)):=by
 have hi:isS [102,97,118,111,117,114] (sN r)=isT [102,97,118,111,117,114] r:=rfl
 unfold favP favS
 rw [hi]
 cases hb:isT [102,97,118,111,117,114] r with
 | false=>rfl
 | true =>
  rw [if_neg nTF,if_neg nTF]
  exact favQ_ag r.tail.length (mS (sN r.tail)+1) [] r.tail (hf.tail (isT_kind hb)) (Nat.le_refl _) (Nat.lt_succ_self _) dd0
theorem ind_ag {r:List Tok} (hf:Fin1 r):Ag (indP r) (indS (sN r)):=by
 obtain ⟨a1,h1⟩:∃ a,a=wantS [105,115,115,117,101] (sN r):=⟨_,rfl⟩
 obtain ⟨a2,h2⟩:∃ a,a=nameS a1:=⟨_,rfl⟩
 obtain ⟨a3,h3⟩:∃ a,a=wantS [111,102] a2.2:=⟨_,rfl⟩
 obtain ⟨a4,h4⟩:∃ a,a=nameS a3:=⟨_,rfl⟩
 obtain ⟨a5,h5⟩:∃ a,a=wantS [59] a4.2:=⟨_,rfl⟩
 obtain ⟨a6,h6⟩:∃ a,a=partSr [102,97,99,101] 1 1000000000000000 a5:=⟨_,rfl⟩
 obtain ⟨a7,h7⟩:∃ a,a=wantS [102,114,111,109] a6.2:=⟨_,rfl⟩
 obtain ⟨a8,h8⟩:∃ a,a=dateS (-1) a7:=⟨_,rfl⟩
 obtain ⟨a9,h9⟩:∃ a,a=wantS [116,111] a8.2:=⟨_,rfl⟩
 obtain ⟨a10,h10⟩:∃ a,a=dateS a8.1 a9:=⟨_,rfl⟩
 obtain ⟨a11,h11⟩:∃ a,a=wantS [101,118,101,114,121] a10.2:=⟨_,rfl⟩
 obtain ⟨a12,h12⟩:∃ a,a=numSr 1 120 a11:=⟨_,rfl⟩
 obtain ⟨a13,h13⟩:∃ a,a=wantS [109,111,110,116,104,115] a12.2:=⟨_,rfl⟩
 obtain ⟨a14,h14⟩:∃ a,a=wantS [59] a13:=⟨_,rfl⟩
 obtain ⟨a15,h15⟩:∃ a,a=oneS [99,111,117,110,116] cntW a14:=⟨_,rfl⟩
 obtain ⟨a16,h16⟩:∃ a,a=oneS [97,100,106,117,115,116] adjW a15.2:=⟨_,rfl⟩
 obtain ⟨a17,h17⟩:∃ a,a=partSr [114,101,99,111,114,100] 0 100 a16.2:=⟨_,rfl⟩
 obtain ⟨a18,h18⟩:∃ a,a=partSr [114,97,110,107] 0 9 a17.2:=⟨_,rfl⟩
 obtain ⟨a19,h19⟩:∃ a,a=letsS a18.2.r.length [] a18.2:=⟨_,rfl⟩
 obtain ⟨a20,h20⟩:∃ a,a=wantS [99,111,117,112,111,110] a19.2:=⟨_,rfl⟩
 obtain ⟨a21,h21⟩:∃ a,a=wholeS [59] a20:=⟨_,rfl⟩
 obtain ⟨a22,h22⟩:∃ a,a=partSr [99,97,112] 0 10000 a21.2:=⟨_,rfl⟩
 obtain ⟨a23,h23⟩:∃ a,a=covsS a22.2.r.length [] a22.2:=⟨_,rfl⟩
 obtain ⟨a24,h24⟩:∃ a,a=favS a23.2:=⟨_,rfl⟩
 obtain ⟨a25,h25⟩:∃ a,a=maybeS [99,114,111,115,115] 1000000000000000 (-1) a24.2:=⟨_,rfl⟩
 obtain ⟨a26,h26⟩:∃ a,a=callsS a25.2.r.length [] a25.2:=⟨_,rfl⟩
 obtain ⟨a27,h27⟩:∃ a,a=maybeS [110,111,116,105,99,101] 1000 0 a26.2:=⟨_,rfl⟩
 obtain ⟨a28,h28⟩:∃ a,a=maybeS [115,105,110,107] 1000 0 a27.2:=⟨_,rfl⟩
 obtain ⟨a29,h29⟩:∃ a,a=partSr [109,97,106,111,114,105,116,121] 1 1000 a28.2:=⟨_,rfl⟩
 obtain ⟨a30,h30⟩:∃ a,a=partSr [102,97,115,116] 1 1000 a29.2:=⟨_,rfl⟩
 have hv:indS (sN r)=(⟨a2.1,a4.1,a6.1,a8.1,a10.1,a12.1,a15.1,a16.1,a17.1,a18.1,a19.1,a21.1,a22.1,a23.1,a24.1,a25.1,a26.1,a27.1,a28.1,a29.1,a30.1⟩,if a30.2.er.isSome=false∧(nextS a30.2).kind≠3 then failS 12 a30.2 else a30.2):=by subst_vars;rfl
 rw [hv]
 have t30:=fin_ss a30.2
 have t29:SS a29.2 _:=(show SS a29.2 a30.2 by rw [h30];exact part_ss [102,97,115,116] (by decide) _ _ _).trans t30
 have t28:SS a28.2 _:=(show SS a28.2 a29.2 by rw [h29];exact part_ss [109,97,106,111,114,105,116,121] (by decide) _ _ _).trans t29
 have t27:SS a27.2 _:=(show SS a27.2 a28.2 by rw [h28];exact maybe_ss [115,105,110,107] (by decide) _ _ _).trans t28
 have t26:SS a26.2 _:=(show SS a26.2 a27.2 by rw [h27];exact maybe_ss [110,111,116,105,99,101] (by decide) _ _ _).trans t27
 have t25:SS a25.2 _:=(show SS a25.2 a26.2 by rw [h26];exact calls_ss _ _ _).trans t26
 have t24:SS a24.2 _:=(show SS a24.2 a25.2 by rw [h25];exact maybe_ss [99,114,111,115,115] (by decide) _ _ _).trans t25
 have t23:SS a23.2 _:=(show SS a23.2 a24.2 by rw [h24];exact fav_ss _).trans t24
 have t22:SS a22.2 _:=(show SS a22.2 a23.2 by rw [h23];exact covs_ss _ _ _).trans t23
 have t21:SS a21.2 _:=(show SS a21.2 a22.2 by rw [h22];exact part_ss [99,97,112] (by decide) _ _ _).trans t22
 have t20:SS a20 _:=(show SS a20 a21.2 by rw [h21];exact whole_ss _ _).trans t21
 have t19:SS a19.2 _:=(show SS a19.2 a20 by rw [h20];exact want_ss [99,111,117,112,111,110] (by decide) _).trans t20
 have t18:SS a18.2 _:=(show SS a18.2 a19.2 by rw [h19];exact lets_ss _ _ _).trans t19
 have t17:SS a17.2 _:=(show SS a17.2 a18.2 by rw [h18];exact part_ss [114,97,110,107] (by decide) _ _ _).trans t18
 have t16:SS a16.2 _:=(show SS a16.2 a17.2 by rw [h17];exact part_ss [114,101,99,111,114,100] (by decide) _ _ _).trans t17
 have t15:SS a15.2 _:=(show SS a15.2 a16.2 by rw [h16];exact one_ss [97,100,106,117,115,116] (by decide) adjW (by decide) _).trans t16
 have t14:SS a14 _:=(show SS a14 a15.2 by rw [h15];exact one_ss [99,111,117,110,116] (by decide) cntW (by decide) _).trans t15
 have t13:SS a13 _:=(show SS a13 a14 by rw [h14];exact want_ss [59] (by decide) _).trans t14
 have t12:SS a12.2 _:=(show SS a12.2 a13 by rw [h13];exact want_ss [109,111,110,116,104,115] (by decide) _).trans t13
 have t11:SS a11 _:=(show SS a11 a12.2 by rw [h12];exact num_ss _ _ _).trans t12
 have t10:SS a10.2 _:=(show SS a10.2 a11 by rw [h11];exact want_ss [101,118,101,114,121] (by decide) _).trans t11
 have t9:SS a9 _:=(show SS a9 a10.2 by rw [h10];exact date_ss _ _).trans t10
 have t8:SS a8.2 _:=(show SS a8.2 a9 by rw [h9];exact want_ss [116,111] (by decide) _).trans t9
 have t7:SS a7 _:=(show SS a7 a8.2 by rw [h8];exact date_ss _ _).trans t8
 have t6:SS a6.2 _:=(show SS a6.2 a7 by rw [h7];exact want_ss [102,114,111,109] (by decide) _).trans t7
 have t5:SS a5 _:=(show SS a5 a6.2 by rw [h6];exact part_ss [102,97,99,101] (by decide) _ _ _).trans t6
 have t4:SS a4.2 _:=(show SS a4.2 a5 by rw [h5];exact want_ss [59] (by decide) _).trans t5
 have t3:SS a3 _:=(show SS a3 a4.2 by rw [h4];exact name_ss _).trans t4
 have t2:SS a2.2 _:=(show SS a2.2 a3 by rw [h3];exact want_ss [111,102] (by decide) _).trans t3
 have t1:SS a1 _:=(show SS a1 a2.2 by rw [h2];exact name_ss _).trans t2
 have g1:AgR (wantP [105,115,115,117,101] r) a1:=by rw [h1];exact want_ag _ _
 rcases e1:wantP [105,115,115,117,101] r with e | r1
 ·rw [e1] at g1
  have hi:indP r=.error e:=by simp only [indP,wantsP,e1,ok_bind,er_bind]
  rw [hi]
  exact t1.keep e g1
 have p1:=agR_ok g1 e1
 have f1:Fin1 r1:=(wantP_suf e1).2 hf
 have g2:Ag (nameP r1) a2:=by rw [h2,p1];exact name_ag _
 rcases e2:nameP r1 with e | ⟨x2,r2⟩
 ·rw [e2] at g2
  have hi:indP r=.error e:=by simp only [indP,wantsP,e1,e2,ok_bind,er_bind]
  rw [hi]
  exact t2.keep e g2
 have v2:=ag_ok g2 e2
 have p2:a2.2=sN r2:=by rw [v2]
 have f2:Fin1 r2:=(nameP_suf e2).2 f1
 have g3:AgR (wantP [111,102] r2) a3:=by rw [h3,p2];exact want_ag _ _
 rcases e3:wantP [111,102] r2 with e | r3
 ·rw [e3] at g3
  have hi:indP r=.error e:=by simp only [indP,wantsP,e1,e2,e3,ok_bind,er_bind]
  rw [hi]
  exact t3.keep e g3
 have p3:=agR_ok g3 e3
 have f3:Fin1 r3:=(wantP_suf e3).2 f2
 have g4:Ag (nameP r3) a4:=by rw [h4,p3];exact name_ag _
 rcases e4:nameP r3 with e | ⟨x4,r4⟩
 ·rw [e4] at g4
  have hi:indP r=.error e:=by simp only [indP,wantsP,e1,e2,e3,e4,ok_bind,er_bind]
  rw [hi]
  exact t4.keep e g4
 have v4:=ag_ok g4 e4
 have p4:a4.2=sN r4:=by rw [v4]
 have f4:Fin1 r4:=(nameP_suf e4).2 f3
 have g5:AgR (wantP [59] r4) a5:=by rw [h5,p4];exact want_ag _ _
 rcases e5:wantP [59] r4 with e | r5
 ·rw [e5] at g5
  have hi:indP r=.error e:=by simp only [indP,wantsP,e1,e2,e3,e4,e5,ok_bind,er_bind]
  rw [hi]
  exact t5.keep e g5
 have p5:=agR_ok g5 e5
 have f5:Fin1 r5:=(wantP_suf e5).2 f4
 have g6:Ag (partP [102,97,99,101] 1 1000000000000000 r5) a6:=by rw [h6,p5];exact part_ag _ _ _ _
 rcases e6:partP [102,97,99,101] 1 1000000000000000 r5 with e | ⟨x6,r6⟩
 ·rw [e6] at g6
  have hi:indP r=.error e:=by simp only [indP,wantsP,e1,e2,e3,e4,e5,e6,ok_bind,er_bind]
  rw [hi]
  exact t6.keep e g6
 have v6:=ag_ok g6 e6
 have p6:a6.2=sN r6:=by rw [v6]
 have f6:Fin1 r6:=(partP_suf e6).2 f5
 have g7:AgR (wantP [102,114,111,109] r6) a7:=by rw [h7,p6];exact want_ag _ _
 rcases e7:wantP [102,114,111,109] r6 with e | r7
 ·rw [e7] at g7
  have hi:indP r=.error e:=by simp only [indP,wantsP,e1,e2,e3,e4,e5,e6,e7,ok_bind,er_bind]
  rw [hi]
  exact t7.keep e g7
 have p7:=agR_ok g7 e7
 have f7:Fin1 r7:=(wantP_suf e7).2 f6
 have g8:Ag (dateP (-1) r7) a8:=by rw [h8,p7];exact date_ag _ _
 rcases e8:dateP (-1) r7 with e | ⟨x8,r8⟩
 ·rw [e8] at g8
  have hi:indP r=.error e:=by simp only [indP,wantsP,e1,e2,e3,e4,e5,e6,e7,e8,ok_bind,er_bind]
  rw [hi]
  exact t8.keep e g8
 have v8:=ag_ok g8 e8
 have p8:a8.2=sN r8:=by rw [v8]
 have f8:Fin1 r8:=(dateP_suf e8).2 f7
 have g9:AgR (wantP [116,111] r8) a9:=by rw [h9,p8];exact want_ag _ _
 rcases e9:wantP [116,111] r8 with e | r9
 ·rw [e9] at g9
  have hi:indP r=.error e:=by simp only [indP,wantsP,e1,e2,e3,e4,e5,e6,e7,e8,e9,ok_bind,er_bind]
  rw [hi]
  exact t9.keep e g9
 have p9:=agR_ok g9 e9
 have f9:Fin1 r9:=(wantP_suf e9).2 f8
 have g10:Ag (dateP x8 r9) a10:=by rw [h10,p9,v8];exact date_ag _ _
 rcases e10:dateP x8 r9 with e | ⟨x10,r10⟩
 ·rw [e10] at g10
  have hi:indP r=.error e:=by simp only [indP,wantsP,e1,e2,e3,e4,e5,e6,e7,e8,e9,e10,ok_bind,er_bind]
  rw [hi]
  exact t10.keep e g10
 have v10:=ag_ok g10 e10
 have p10:a10.2=sN r10:=by rw [v10]
 have f10:Fin1 r10:=(dateP_suf e10).2 f9
 have g11:AgR (wantP [101,118,101,114,121] r10) a11:=by rw [h11,p10];exact want_ag _ _
 rcases e11:wantP [101,118,101,114,121] r10 with e | r11
 ·rw [e11] at g11
  have hi:indP r=.error e:=by simp only [indP,wantsP,e1,e2,e3,e4,e5,e6,e7,e8,e9,e10,e11,ok_bind,er_bind]
  rw [hi]
  exact t11.keep e g11
 have p11:=agR_ok g11 e11
 have f11:Fin1 r11:=(wantP_suf e11).2 f10
 have g12:Ag (numP 1 120 r11) a12:=by rw [h12,p11];exact num_ag _ _ _
 rcases e12:numP 1 120 r11 with e | ⟨x12,r12⟩
 ·rw [e12] at g12
  have hi:indP r=.error e:=by simp only [indP,wantsP,e1,e2,e3,e4,e5,e6,e7,e8,e9,e10,e11,e12,ok_bind,er_bind]
  rw [hi]
  exact t12.keep e g12
 have v12:=ag_ok g12 e12
 have p12:a12.2=sN r12:=by rw [v12]
 have f12:Fin1 r12:=((numP_suf e12).1).2 f11
 have g13:AgR (wantP [109,111,110,116,104,115] r12) a13:=by rw [h13,p12];exact want_ag _ _
 rcases e13:wantP [109,111,110,116,104,115] r12 with e | r13
 ·rw [e13] at g13
  have hi:indP r=.error e:=by simp only [indP,wantsP,e1,e2,e3,e4,e5,e6,e7,e8,e9,e10,e11,e12,e13,ok_bind,er_bind]
  rw [hi]
  exact t13.keep e g13
 have p13:=agR_ok g13 e13
 have f13:Fin1 r13:=(wantP_suf e13).2 f12
 have g14:AgR (wantP [59] r13) a14:=by rw [h14,p13];exact want_ag _ _
 rcases e14:wantP [59] r13 with e | r14
 ·rw [e14] at g14
  have hi:indP r=.error e:=by simp only [indP,wantsP,e1,e2,e3,e4,e5,e6,e7,e8,e9,e10,e11,e12,e13,e14,ok_bind,er_bind]
  rw [hi]
  exact t14.keep e g14
 have p14:=agR_ok g14 e14
 have f14:Fin1 r14:=(wantP_suf e14).2 f13
 have g15:Ag (oneP [99,111,117,110,116] cntW r14) a15:=by rw [h15,p14];exact one_ag _ _ (by decide) _
 rcases e15:oneP [99,111,117,110,116] cntW r14 with e | ⟨x15,r15⟩
 ·rw [e15] at g15
  have hi:indP r=.error e:=by simp only [indP,wantsP,e1,e2,e3,e4,e5,e6,e7,e8,e9,e10,e11,e12,e13,e14,e15,ok_bind,er_bind]
  rw [hi]
  exact t15.keep e g15
 have v15:=ag_ok g15 e15
 have p15:a15.2=sN r15:=by rw [v15]
 have f15:Fin1 r15:=(oneP_suf e15).2 f14
 have g16:Ag (oneP [97,100,106,117,115,116] adjW r15) a16:=by rw [h16,p15];exact one_ag _ _ (by decide) _
 rcases e16:oneP [97,100,106,117,115,116] adjW r15 with e | ⟨x16,r16⟩
 ·rw [e16] at g16
  have hi:indP r=.error e:=by simp only [indP,wantsP,e1,e2,e3,e4,e5,e6,e7,e8,e9,e10,e11,e12,e13,e14,e15,e16,ok_bind,er_bind]
  rw [hi]
  exact t16.keep e g16
 have v16:=ag_ok g16 e16
 have p16:a16.2=sN r16:=by rw [v16]
 have f16:Fin1 r16:=(oneP_suf e16).2 f15
 have g17:Ag (partP [114,101,99,111,114,100] 0 100 r16) a17:=by rw [h17,p16];exact part_ag _ _ _ _
 rcases e17:partP [114,101,99,111,114,100] 0 100 r16 with e | ⟨x17,r17⟩
 ·rw [e17] at g17
  have hi:indP r=.error e:=by simp only [indP,wantsP,e1,e2,e3,e4,e5,e6,e7,e8,e9,e10,e11,e12,e13,e14,e15,e16,e17,ok_bind,er_bind]
  rw [hi]
  exact t17.keep e g17
 have v17:=ag_ok g17 e17
 have p17:a17.2=sN r17:=by rw [v17]
 have f17:Fin1 r17:=(partP_suf e17).2 f16
 have g18:Ag (partP [114,97,110,107] 0 9 r17) a18:=by rw [h18,p17];exact part_ag _ _ _ _
 rcases e18:partP [114,97,110,107] 0 9 r17 with e | ⟨x18,r18⟩
 ·rw [e18] at g18
  have hi:indP r=.error e:=by simp only [indP,wantsP,e1,e2,e3,e4,e5,e6,e7,e8,e9,e10,e11,e12,e13,e14,e15,e16,e17,e18,ok_bind,er_bind]
  rw [hi]
  exact t18.keep e g18
 have v18:=ag_ok g18 e18
 have p18:a18.2=sN r18:=by rw [v18]
 have f18:Fin1 r18:=(partP_suf e18).2 f17
 have g19:Ag (letsP r18.length [] r18) a19:=by rw [h19,p18];exact lets_ag _ _ _ f18 (by decide)
 rcases e19:letsP r18.length [] r18 with e | ⟨x19,r19⟩
 ·rw [e19] at g19
  have hi:indP r=.error e:=by simp only [indP,wantsP,e1,e2,e3,e4,e5,e6,e7,e8,e9,e10,e11,e12,e13,e14,e15,e16,e17,e18,e19,ok_bind,er_bind]
  rw [hi]
  exact t19.keep e g19
 have v19:=ag_ok g19 e19
 have p19:a19.2=sN r19:=by rw [v19]
 have f19:Fin1 r19:=(letsP_suf _ e19).2 f18
 have g20:AgR (wantP [99,111,117,112,111,110] r19) a20:=by rw [h20,p19];exact want_ag _ _
 rcases e20:wantP [99,111,117,112,111,110] r19 with e | r20
 ·rw [e20] at g20
  have hi:indP r=.error e:=by simp only [indP,wantsP,e1,e2,e3,e4,e5,e6,e7,e8,e9,e10,e11,e12,e13,e14,e15,e16,e17,e18,e19,e20,ok_bind,er_bind]
  rw [hi]
  exact t20.keep e g20
 have p20:=agR_ok g20 e20
 have f20:Fin1 r20:=(wantP_suf e20).2 f19
 have g21:Ag (wholeP [59] r20) a21:=by rw [h21,p20];exact whole_ag (by decide) f20
 rcases e21:wholeP [59] r20 with e | ⟨x21,r21⟩
 ·rw [e21] at g21
  have hi:indP r=.error e:=by simp only [indP,wantsP,e1,e2,e3,e4,e5,e6,e7,e8,e9,e10,e11,e12,e13,e14,e15,e16,e17,e18,e19,e20,e21,ok_bind,er_bind]
  rw [hi]
  exact t21.keep e g21
 have v21:=ag_ok g21 e21
 have p21:a21.2=sN r21:=by rw [v21]
 have f21:Fin1 r21:=(wholeP_suf e21).2 f20
 have g22:Ag (partP [99,97,112] 0 10000 r21) a22:=by rw [h22,p21];exact part_ag _ _ _ _
 rcases e22:partP [99,97,112] 0 10000 r21 with e | ⟨x22,r22⟩
 ·rw [e22] at g22
  have hi:indP r=.error e:=by simp only [indP,wantsP,e1,e2,e3,e4,e5,e6,e7,e8,e9,e10,e11,e12,e13,e14,e15,e16,e17,e18,e19,e20,e21,e22,ok_bind,er_bind]
  rw [hi]
  exact t22.keep e g22
 have v22:=ag_ok g22 e22
 have p22:a22.2=sN r22:=by rw [v22]
 have f22:Fin1 r22:=(partP_suf e22).2 f21
 have g23:Ag (covsP r22.length [] r22) a23:=by rw [h23,p22];exact covs_ag _ _ _ f22 (by decide)
 rcases e23:covsP r22.length [] r22 with e | ⟨x23,r23⟩
 ·rw [e23] at g23
  have hi:indP r=.error e:=by simp only [indP,wantsP,e1,e2,e3,e4,e5,e6,e7,e8,e9,e10,e11,e12,e13,e14,e15,e16,e17,e18,e19,e20,e21,e22,e23,ok_bind,er_bind]
  rw [hi]
  exact t23.keep e g23
 have v23:=ag_ok g23 e23
 have p23:a23.2=sN r23:=by rw [v23]
 have f23:Fin1 r23:=(covsP_suf _ e23).2 f22
 have g24:Ag (favP r23) a24:=by rw [h24,p23];exact fav_ag f23
 rcases e24:favP r23 with e | ⟨x24,r24⟩
 ·rw [e24] at g24
  have hi:indP r=.error e:=by simp only [indP,wantsP,e1,e2,e3,e4,e5,e6,e7,e8,e9,e10,e11,e12,e13,e14,e15,e16,e17,e18,e19,e20,e21,e22,e23,e24,ok_bind,er_bind]
  rw [hi]
  exact t24.keep e g24
 have v24:=ag_ok g24 e24
 have p24:a24.2=sN r24:=by rw [v24]
 have f24:Fin1 r24:=(favP_suf e24).2 f23
 have g25:Ag (maybeP [99,114,111,115,115] 1000000000000000 (-1) r24) a25:=by rw [h25,p24];exact maybe_ag _ _ _ _
 rcases e25:maybeP [99,114,111,115,115] 1000000000000000 (-1) r24 with e | ⟨x25,r25⟩
 ·rw [e25] at g25
  have hi:indP r=.error e:=by simp only [indP,wantsP,e1,e2,e3,e4,e5,e6,e7,e8,e9,e10,e11,e12,e13,e14,e15,e16,e17,e18,e19,e20,e21,e22,e23,e24,e25,ok_bind,er_bind]
  rw [hi]
  exact t25.keep e g25
 have v25:=ag_ok g25 e25
 have p25:a25.2=sN r25:=by rw [v25]
 have f25:Fin1 r25:=(maybeP_suf e25).2 f24
 have g26:Ag (callsP r25.length [] r25) a26:=by rw [h26,p25];exact calls_ag _ _ _ f25 (by decide)
 rcases e26:callsP r25.length [] r25 with e | ⟨x26,r26⟩
 ·rw [e26] at g26
  have hi:indP r=.error e:=by simp only [indP,wantsP,e1,e2,e3,e4,e5,e6,e7,e8,e9,e10,e11,e12,e13,e14,e15,e16,e17,e18,e19,e20,e21,e22,e23,e24,e25,e26,ok_bind,er_bind]
  rw [hi]
  exact t26.keep e g26
 have v26:=ag_ok g26 e26
 have p26:a26.2=sN r26:=by rw [v26]
 have f26:Fin1 r26:=(callsP_suf _ e26).2 f25
 have g27:Ag (maybeP [110,111,116,105,99,101] 1000 0 r26) a27:=by rw [h27,p26];exact maybe_ag _ _ _ _
 rcases e27:maybeP [110,111,116,105,99,101] 1000 0 r26 with e | ⟨x27,r27⟩
 ·rw [e27] at g27
  have hi:indP r=.error e:=by simp only [indP,wantsP,e1,e2,e3,e4,e5,e6,e7,e8,e9,e10,e11,e12,e13,e14,e15,e16,e17,e18,e19,e20,e21,e22,e23,e24,e25,e26,e27,ok_bind,er_bind]
  rw [hi]
  exact t27.keep e g27
 have v27:=ag_ok g27 e27
 have p27:a27.2=sN r27:=by rw [v27]
 have f27:Fin1 r27:=(maybeP_suf e27).2 f26
 have g28:Ag (maybeP [115,105,110,107] 1000 0 r27) a28:=by rw [h28,p27];exact maybe_ag _ _ _ _
 rcases e28:maybeP [115,105,110,107] 1000 0 r27 with e | ⟨x28,r28⟩
 ·rw [e28] at g28
  have hi:indP r=.error e:=by simp only [indP,wantsP,e1,e2,e3,e4,e5,e6,e7,e8,e9,e10,e11,e12,e13,e14,e15,e16,e17,e18,e19,e20,e21,e22,e23,e24,e25,e26,e27,e28,ok_bind,er_bind]
  rw [hi]
  exact t28.keep e g28
 have v28:=ag_ok g28 e28
 have p28:a28.2=sN r28:=by rw [v28]
 have f28:Fin1 r28:=(maybeP_suf e28).2 f27
 have g29:Ag (partP [109,97,106,111,114,105,116,121] 1 1000 r28) a29:=by rw [h29,p28];exact part_ag _ _ _ _
 rcases e29:partP [109,97,106,111,114,105,116,121] 1 1000 r28 with e | ⟨x29,r29⟩
 ·rw [e29] at g29
  have hi:indP r=.error e:=by simp only [indP,wantsP,e1,e2,e3,e4,e5,e6,e7,e8,e9,e10,e11,e12,e13,e14,e15,e16,e17,e18,e19,e20,e21,e22,e23,e24,e25,e26,e27,e28,e29,ok_bind,er_bind]
  rw [hi]
  exact t29.keep e g29
 have v29:=ag_ok g29 e29
 have p29:a29.2=sN r29:=by rw [v29]
 have f29:Fin1 r29:=(partP_suf e29).2 f28
 have g30:Ag (partP [102,97,115,116] 1 1000 r29) a30:=by rw [h30,p29];exact part_ag _ _ _ _
 rcases e30:partP [102,97,115,116] 1 1000 r29 with e | ⟨x30,r30⟩
 ·rw [e30] at g30
  have hi:indP r=.error e:=by simp only [indP,wantsP,e1,e2,e3,e4,e5,e6,e7,e8,e9,e10,e11,e12,e13,e14,e15,e16,e17,e18,e19,e20,e21,e22,e23,e24,e25,e26,e27,e28,e29,e30,ok_bind,er_bind]
  rw [hi]
  exact t30.keep e g30
 have v30:=ag_ok g30 e30
 have p30:a30.2=sN r30:=by rw [v30]
 have f30:Fin1 r30:=(partP_suf e30).2 f29
 have hi:indP r=if (hdT r30).kind=3 then .ok (⟨x2,x4,x6,x8,x10,x12,x15,x16,x17,x18,x19,x21,x22,x23,x24,x25,x26,x27,x28,x29,x30⟩,r30) else errP 12 r30:=by simp only [indP,wantsP,e1,e2,e3,e4,e5,e6,e7,e8,e9,e10,e11,e12,e13,e14,e15,e16,e17,e18,e19,e20,e21,e22,e23,e24,e25,e26,e27,e28,e29,e30,ok_bind,er_bind]
 rw [hi,p30]
 have hx:nextS (sN r30)=hdT r30:=rfl
 rw [hx]
 by_cases hk:(hdT r30).kind=3
 ·rw [if_pos hk,if_neg (show ¬ ((sN r30).er.isSome=false∧(hdT r30).kind≠3) from fun y=>y.2 hk),v2,v4,v6,v8,v10,v12,v15,v16,v17,v18,v19,v21,v22,v23,v24,v25,v26,v27,v28,v29,v30]
  rfl
 ·rw [if_neg hk,if_pos (show (sN r30).er.isSome=false∧(hdT r30).kind≠3 from ⟨rfl,hk⟩)]
  rfl
def digsB (s:List UInt8):Prop:=∀ k,k<s.length→digB ((s.getD k 0).toNat:Int)=true
theorem span_all {s:List UInt8}:spanN digB s=s.length↔digsB s:=by
 constructor
 ·intro h k hk
  exact spanN_lt (by rw [h];exact hk)
 ·intro h
  apply Classical.byContradiction
  intro hne
  have hlt:spanN digB s<s.length:=by have:=spanN_le digB s;omega
  have:=spanN_at hlt
  rw [h _ hlt] at this
  cases this
instance (s:List UInt8):Decidable (digsB s):=decidable_of_iff _ span_all
theorem lexL_e3 {s:List UInt8}:∀ (f p:Nat) (l T:List Tok),(∀ t∈l,t.kind≠3)→s.length<p+f→p≤s.length→lexL s f p l=.ok T→∀ t∈T,t.kind=3→t.text=[]:=by
 intro f
 induction f with
 | zero=>intro p l T _ h1 h2;omega
 | succ f ih =>
  intro p l T hl h1 h2 h
  unfold lexL at h
  split at h
  ·cases h
   intro t ht hk
   rcases List.mem_append.1 ht with ht | ht
   ·exact (hl t ht hk).elim
   ·have:t=_:=List.mem_singleton.1 ht
    subst this
    rfl
  ·rename_i hne'
   split at h
   ·cases h
   ·rename_i t hN
    have hq:skipN s p≤s.length:=by
     exact zt175
    have hqp:p≤skipN s p:=by unfold skipN;omega
    have hne:s.drop (skipN s p)≠[]:=fun h=>by
     exact zt76
    obtain ⟨t1,t2⟩:=nextR_ok hne hN
    have t3:=t2.length_le
    rw [List.length_drop] at t3
    refine ih _ _ T (fun x hx=>?_) om0 om0 h
    rcases List.mem_append.1 hx with hx | hx
    ·exact hl x hx
    ·have:x=_:=List.mem_singleton.1 hx
     subst this
     exact (nextR_mk hN).1
theorem lex_sst {s:List UInt8} {T:List Tok} (h:lexR s=.ok T):SSt T (sN T):=by
 refine ⟨lexR_ok h,(fun e he=>by cases he),?_⟩
 unfold lexR at h
 split at h
 ·cases h
 ·exact lexL_e3 _ _ _ _ (fun t ht=>by cases ht) om0 om0 h
theorem parse_er {s:List UInt8} {e:Er} (h:parseR s=.error e):e.2≠0:=by
 cases e1:lexR s with
 | error er =>
  have hp:parseR s=.error er:=by unfold parseR;rw [e1]
  rw [hp] at h
  cases h
  exact lexR_er e1
 | ok T =>
  have hst:=lex_sst e1
  have ha:=ind_ag hst.st.fin
  have hse:=ind_ss (sN T)
  cases e2:indP T with
  | ok v =>
   obtain ⟨x,r⟩:=v
   have hp:parseR s=.ok x:=by unfold parseR;rw [e1];dsimp only;rw [e2]
   rw [hp] at h
   cases h
  | error er =>
   have hp:parseR s=.error er:=by unfold parseR;rw [e1];dsimp only;rw [e2]
   rw [hp] at h
   cases h
   rw [e2] at ha
   exact hse.ok hst.ok e ha
theorem parse_ok (s:List UInt8) (hs:s.length≤9223372036854775807):APure Tryz.prog 23 [.str s] (fun rs=>rs=parA (parseR s)):=by
 cases h:lexR s with
 | error e =>
  have hp:parseR s=.error e:=by unfold parseR;rw [h]
  rw [hp]
  exact parse_lex s hs h
 | ok T=>exact parse_go s hs h
theorem parse_one (s:List UInt8) (hs:s.length≤9223372036854775807):∃ x p e,APure Tryz.prog 23 [.str s] (fun rs=>rs=[.val (encX x),.val (.int .i64 p),.val (.int .i64 e)])∧decide (e=0)=parsesB s:=by
 have h:=parse_ok s hs
 unfold parsesB
 cases hp:parseR s with
 | ok x=>rw [hp] at h;exact ⟨x,0,0,h,rfl⟩
 | error e=>rw [hp] at h;exact ⟨i0,e.1,e.2,h,decide_eq_false (parse_er hp)⟩
theorem len_dec {k:Nat} {n:Int} {m:Nat} (h:n=m):decide ((k:Int)≤n)=decide (k≤m):=decide_eq_decide.2 (by omega)
theorem proF_ok (lines seats:Int) (h1:0≤lines∧lines≤9223372036854775807) (hs:0≤seats∧seats≤9223372036854775807) (p:Pro) (hu:p.units.length≤9223372036854775807) (hv:p.votes.length≤9223372036854775807):APureV Tryz.prog 63 [encPr p,.rop [.int .i64 seats],.rop [dayV],.rop [.int .i64 lines],.rop [unV seats]] (.bool (proOk lines seats p)):=by
 have g1:=inS1_ok 0 (lines-1) p.issue
 have g2:=dayF_ok p.day
 have g3:=unitsF_ok seats p.units hu
 have g4:=allV_ok p.votes seats (voteOk seats) (fun v _=>voteF_ok seats hs v) hv
 refine aO (cxOk 45 [0,1,2,3,4,5,6,7]) Tryz.func63 ?_
 conv=>whnf
 refine iO (cW ?_)
 refine cO (fun _=>g1) (cW ?_)
 refine cO (fun _=>g2) (cW ?_)
 refine cO (fun _=>g3) (cW ?_)
 refine .one _ _ _ (fun _=>g4) aj0 ai0 ah0 (cW ?_)
 show [AR.val (AV.bool _)]=_
 rw [len_dec (k:=p.text.length) (n:=4000) (m:=4000) rfl,len_dec (k:=p.votes.length) (n:=2000) (m:=2000) rfl]
 rfl
theorem zt25 {p:Prop}(h:p:=by
 conv=>whnf
 refine .one _ _ _ (fun _=>g7) aj0 ai0 ah0 (cW ?_)
 show [AR.val (AV.bool _)]=_
 rw [len_dec (k:=stages.length) (n:=500) (m:=500) rfl,hpe]
 simp [lineOk,e1,e4]):p:=h
theorem zt22 {p:Prop}(h:p:=by
 conv=>whnf
 refine .one _ _ _ (fun _=>g7) aj0 ai0 ah0 (cW ?_)
 show [AR.val (AV.bool _)]=_
 rw [len_dec (k:=stages.length) (n:=500) (m:=500) rfl,hpe]
 simp [lineOk,e1,e3,e4]):p:=h
theorem zt62 {p:Prop}(h:p:=by
 conv=>whnf
 refine cO (fun _=>g4) (cW ?_)
 refine nD (cW ?_)
 refine cF [.int .i64 0,.int .i64 10000,.undef] [.val (.bool false)] (cW ?_)
 refine cF [.int .i64 since] [.val (.bool false)] ?_
 exact zt25):p:=h
theorem zt53 {p:Prop}(h:p:=by
 conv=>whnf
 refine cO (fun _=>g4) (cW ?_)
 refine nD (cW ?_)
 refine cF [.int .i64 0,.int .i64 10000,.undef] [.val (.bool false)] (cW ?_)
 refine cF [.int .i64 since] [.val (.bool false)] ?_
 exact zt22):p:=h
theorem zt87 {p:Prop}(h:p:=by
 conv=>whnf
 refine cO (fun _=>g4) (cW ?_)
 refine nE (cW ?_)
 refine cO (fun _=>g5) (cW ?_)
 refine cO (fun _=>g6) ?_
 exact zt22):p:=h
theorem zt99 {p:Prop}(h:p:=by
 conv=>whnf
 refine cO (fun _=>g4) (cW ?_)
 refine nE (cW ?_)
 refine cO (fun _=>g5) (cW ?_)
 refine cO (fun _=>g6) ?_
 exact zt25):p:=h
theorem lineF_ok (seats:Int) (x:Lin) (ht:x.text.length≤9223372036854775807) (hu:x.units.length≤9223372036854775807) (hn:x.noted.length≤9223372036854775807) (hv:x.stages.length≤9223372036854775807):APureV Tryz.prog 59 [encLi x,.rop [dayV],.rop [unV seats]] (.bool (lineOk seats x)):=by
 obtain ⟨text,units,noted,notedAt,stages,fast,called,price,ended,since⟩:=x
 simp only at ht hu hn hv
 obtain ⟨px,pp,pe,gp,hpe⟩:=parse_one text ht
 have g1:=unitsF_ok seats units hu
 have g2:=unitsF_ok seats noted hn
 have g3:=inS1_ok (-1) 5000 notedAt
 have g4:=inS2_ok (-1) 200000 fast called
 have g5:=inS1_ok 0 10000 price
 have g6:=dayF_ok since
 have g7:=allB_ok stages stageOk (fun b _=>stageF_ok b) hv
 cases e1:unitsOk seats units with
 | false =>
  rw [e1] at g1
  cases e4:inB (-1) 200000 [fast,called] with
  | false =>
   rw [e4] at g4
   refine aO (cxOk 79 [0,1,2,3,4,7,8,9,10]) Tryz.func59 ?_
   conv=>whnf
   refine cO (fun _=>gp) (cW ?_)
   refine cO (fun _=>g1) (cW ?_)
   refine cF [.sl 1 encI 0 noted,.rop [.int .i64 seats]] [.val (.bool false)] (cW ?_)
   refine gF (cW ?_)
   refine cF [.int .i64 (-1),.int .i64 5000,.undef] [.val (.bool false)] ?_
   exact zt62
  | true =>
   rw [e4] at g4
   refine aO (cxOk 79 [0,1,2,3,4,7,8,9,10]) Tryz.func59 ?_
   conv=>whnf
   refine cO (fun _=>gp) (cW ?_)
   refine cO (fun _=>g1) (cW ?_)
   refine cF [.sl 1 encI 0 noted,.rop [.int .i64 seats]] [.val (.bool false)] (cW ?_)
   refine gF (cW ?_)
   refine cF [.int .i64 (-1),.int .i64 5000,.undef] [.val (.bool false)] ?_
   exact zt99
 | true =>
  rw [e1] at g1
  cases noted with
  | nil =>
   cases e4:inB (-1) 200000 [fast,called] with
   | false =>
    rw [e4] at g4
    refine aO (cxOk 79 [0,1,2,3,4,7,8,9,10]) Tryz.func59 ?_
    conv=>whnf
    refine cO (fun _=>gp) (cW ?_)
    refine cO (fun _=>g1) (cW ?_)
    refine cF [.sl 1 encI 0 [],.rop [.int .i64 seats]] [.val (.bool false)] (cW ?_)
    refine gT (cW ?_)
    refine cO (fun _=>g3) ?_
    exact zt62
   | true =>
    rw [e4] at g4
    refine aO (cxOk 79 [0,1,2,3,4,7,8,9,10]) Tryz.func59 ?_
    conv=>whnf
    refine cO (fun _=>gp) (cW ?_)
    refine cO (fun _=>g1) (cW ?_)
    refine cF [.sl 1 encI 0 [],.rop [.int .i64 seats]] [.val (.bool false)] (cW ?_)
    refine gT (cW ?_)
    refine cO (fun _=>g3) ?_
    exact zt99
  | cons n t =>
   have hz:decide (((n::t).length:Int)=0)=false:=decide_eq_false (by simp only [List.length_cons];omega)
   cases e3:unitsOk seats (n::t) with
   | false =>
    rw [e3] at g2
    cases e4:inB (-1) 200000 [fast,called] with
    | false =>
     rw [e4] at g4
     refine aO (cxOk 79 [0,1,2,3,4,7,8,9,10]) Tryz.func59 ?_
     conv=>whnf
     refine cO (fun _=>gp) (cW ?_)
     refine cO (fun _=>g1) (cW ?_)
     refine cO (fun _=>g2) (cW ?_)
     refine gF (cW ?_)
     refine cF [.int .i64 (-1),.int .i64 5000,.undef] [.val (.bool false)] ?_
     exact zt53
    | true =>
     rw [e4] at g4
     refine aO (cxOk 79 [0,1,2,3,4,7,8,9,10]) Tryz.func59 ?_
     conv=>whnf
     refine cO (fun _=>gp) (cW ?_)
     refine cO (fun _=>g1) (cW ?_)
     refine cO (fun _=>g2) (cW ?_)
     refine gF (cW ?_)
     refine cF [.int .i64 (-1),.int .i64 5000,.undef] [.val (.bool false)] ?_
     exact zt87
   | true =>
    rw [e3] at g2
    cases e4:inB (-1) 200000 [fast,called] with
    | false =>
     rw [e4] at g4
     refine aO (cxOk 79 [0,1,2,3,4,7,8,9,10]) Tryz.func59 ?_
     conv=>whnf
     refine cO (fun _=>gp) (cW ?_)
     refine cO (fun _=>g1) (cW ?_)
     refine cO (fun _=>g2) (cW ?_)
     refine gT (cW ?_)
     refine cO (fun _=>g3) ?_
     exact zt53
    | true =>
     rw [e4] at g4
     refine aO (cxOk 79 [0,1,2,3,4,7,8,9,10]) Tryz.func59 ?_
     conv=>whnf
     refine cO (fun _=>gp) (cW ?_)
     refine cO (fun _=>g1) (cW ?_)
     refine cO (fun _=>g2) (cW ?_)
     refine gT (cW ?_)
     refine cO (fun _=>g3) ?_
     exact zt87
theorem factOne_ok (f:Fac) (hn:f.name.length≤9223372036854775807):APureV Tryz.prog 115 [encFa f] (.bool (factOne f)):=by
 have h:=name_ok f.name hn
 refine aO (cxOk 47 [0,1,2,3,4]) Tryz.func115 ?_
 conv=>whnf
 refine .quiet zp9 (cW ?_)
 refine cO (fun _=>h) (cW ?_)
 rfl
theorem factsR_ok (l:List Fac) (hl:l.length≤9223372036854775807) (hn:∀ f∈l,f.name.length≤9223372036854775807):APureV Tryz.prog 22 [.sl 5 encFa fa0 l] (.bool (factsOk l)):=by
 unfold factsOk
 refine aO (cxOk 27 [0,2,3,5,8,9,10,11,12,23]) Tryz.func22 ?_
 conv=>whnf
 refine ⟨fun hc=>?_,fun hc=>?_⟩
 ·have hc:=of_decide_eq_true hc
  rw [decide_eq_false (show ¬ l.length≤10000 by omega)]
  conv=>whnf
  rfl
 have hc:=of_decide_eq_false hc
 rw [decide_eq_true (show l.length≤10000 by omega)]
 conv=>whnf
 refine loop_inv (cxOk _ _) (σ:=Nat×Int) (fun s=>s.1≤l.length∧factsFrom s.2 (l.drop s.1)=factsFrom 0 l) (fun s=>l.length-s.1) (fun s=>⟨[(0,.sl 5 encFa fa0 l),(2,.bool false),(3,.int .i64 (s.2)),(8,.bool false),(9,.sl 5 encFa fa0 l),(10,.int .i64 (l.length:Nat)),(11,.int .i64 ((s.1):Nat))],[],0⟩) (0,0) ⟨Nat.zero_le _,rfl⟩ ?_ ?_
 ·rw [show decide (10000<(l.length:Int))=false from decide_eq_false hc]
  exact (wk_of [] rfl ⟨wa0,wa0,wa0,wa0,wa0,wa0,wa0,trivial⟩ trivial)
 rintro ⟨k,d⟩ ⟨hk,hP⟩
 simp only at hk hP
 show evCode _ _ (⟨[(0,.sl 5 encFa fa0 l),(2,.bool false),(3,.int .i64 d),(8,.bool false),(9,.sl 5 encFa fa0 l),(10,.int .i64 (l.length:Nat)),(11,.int .i64 (k:Nat))],[],0⟩) _
 conv=>whnf
 refine ⟨fun hd=>?_,fun hd=>?_⟩
 ·have hd:=of_decide_eq_true hd
  have hlt:k<l.length:=by omega
  have hek:(k:Int).toNat=k:=Int.toNat_natCast k
  have hf:=factOne_ok _ (hn _ (getD_mem (d:=fa0) hlt))
  rw [drop_cons' fa0 hlt,factsFrom] at hP
  conv=>whnf
  refine iO (cW ?_)
  refine And.intro rfl (cW ?_)
  rw [hek]
  generalize l.getD k fa0=f at *
  conv=>whnf
  refine cO (fun _=>hf) (cW ?_)
  refine ⟨fun he=>?_,fun he=>?_⟩
  ·rw [← hP]
   conv=>whnf
   show [AR.val (AV.bool false)]=_
   by_cases hb:factOne f=true
   ·rw [hb] at he
    have h3:¬ d≤f.day:=by have:=of_decide_eq_true (by simpa using he:decide (f.day<d)=true);omega
    rw [decide_eq_false h3]
    simp
   ·rw [Bool.not_eq_true] at hb
    rw [hb]
    simp
  ·simp only [Bool.or_eq_false_iff,Bool.not_eq_false',decide_eq_false_iff_not] at he
   conv=>whnf
   refine iO (cW ?_)
   refine ⟨(k+1,f.day),⟨hlt,?_⟩,by show l.length-(k+1)<l.length-k;omega,(wk_of [] rfl ⟨wa0,wa0,wa0,wa0,wa0,wa0,wa0,trivial⟩ trivial)⟩
   rw [he.1,decide_eq_true (show d≤f.day by omega)] at hP
   simpa using hP
 ·have hd:=of_decide_eq_false hd
  obtain rfl:k=l.length:=by omega
  rw [List.drop_length,factsFrom] at hP
  rw [← hP]
  conv=>whnf
  rfl
structure OkS (s:Sta):Prop where
 cash:s.cash.length≤9223372036854775807
 purses:s.purses.length≤9223372036854775807
 lines:s.lines.length≤9223372036854775807
 facts:s.facts.length≤9223372036854775807
 payments:s.payments.length≤9223372036854775807
 proposals:s.proposals.length≤9223372036854775807
 line:∀ x∈s.lines,x.text.length≤9223372036854775807∧x.units.length≤9223372036854775807∧x.noted.length≤9223372036854775807∧x.stages.length≤9223372036854775807
 fact:∀ x∈s.facts,x.name.length≤9223372036854775807
 proposal:∀ x∈s.proposals,x.text.length≤9223372036854775807∧x.units.length≤9223372036854775807∧x.votes.length≤9223372036854775807
theorem zt35 {p:Prop}(h:p:=by
 refine gF (cW ?_)
 refine cF [.int .i64 (-1000000000000000000),.int .i64 1000000000000000000,.undef] [.val (.bool false)] (cW ?_)
 refine ⟨fun z=>?_,fun z=>?_⟩
 ·conv=>whnf
  rfl
 ·simp at z):p:=h
theorem right_ok (s:Sta) (o:OkS s):APureV Tryz.prog 13 [encSt s] (.bool (rightS s)):=by
 have hM:mostA=1000000000000000000:=rfl
 have ol:0≤(s.lines.length:Int)∧(s.lines.length:Int)≤9223372036854775807:=⟨by omega,by have:=o.lines;omega⟩
 have os:0≤(s.purses.length:Int)∧(s.purses.length:Int)≤9223372036854775807:=⟨by omega,by have:=o.purses;omega⟩
 have hc:=o.cash
 have hp:=o.purses
 have hl:=o.lines
 have hf:=o.facts
 have hy:=o.payments
 have hq:=o.proposals
 have g1:=sumF_ok [s.cash,s.purses] (by simp) (fun l hl=>by
  rcases List.mem_cons.1 hl with rfl | hl
  ·exact o.cash
  ·rw [List.mem_singleton.1 hl];exact o.purses)
 rw [sumLs_two] at g1
 have g2:=dayF_ok s.day
 have g3:=inS1_ok (-1000000000000000000) 1000000000000000000 s.outside
 have g4:=factsR_ok s.facts o.facts o.fact
 have g5:=allLn_ok s.lines s.purses.length (lineOk s.purses.length) (fun x hx=>lineF_ok s.purses.length x (o.line x hx).1 (o.line x hx).2.1 (o.line x hx).2.2.1 (o.line x hx).2.2.2) o.lines
 have g6:=allP_ok s.payments s.lines.length s.purses.length (payOk s.lines.length s.purses.length) (fun x _=>payF_ok s.lines.length s.purses.length ol os x) o.payments
 have g7:=allR_ok s.proposals s.lines.length s.purses.length (proOk s.lines.length s.purses.length) (fun x hx=>proF_ok s.lines.length s.purses.length ol os x (o.proposal x hx).2.1 (o.proposal x hx).2.2) o.proposals
 cases e1:sumB s with
 | none =>
  rw [e1] at g1
  rw [show rightS s=false by simp [rightS,e1]]
  refine aO (cxOk 93 [0,1,2,3,4,5,6,8,9,10,11,53,73]) Tryz.func13 ?_
  conv=>whnf
  refine .eff ad0 (cW ?_)
  refine And.intro rfl (cW ?_)
  refine cO (fun _=>g1) (cW ?_)
  refine cF [.int .i64 s.day] [.val (.bool false)] (cW ?_)
  exact zt35
 | some v =>
  rw [e1] at g1
  cases e2:dayOk s.day with
  | false =>
   rw [e2] at g2
   rw [show rightS s=false by simp [rightS,e1,e2]]
   refine aO (cxOk 93 [0,1,2,3,4,5,6,8,9,10,11,53,73]) Tryz.func13 ?_
   conv=>whnf
   refine .eff ad0 (cW ?_)
   refine And.intro rfl (cW ?_)
   refine cO (fun _=>g1) (cW ?_)
   refine cO (fun _=>g2) (cW ?_)
   exact zt35
  | true =>
   rw [e2] at g2
   by_cases e3:s.cash.length≤60
   case neg =>
    have k3:decide (60<(s.cash.length:Int))=true:=decide_eq_true (by omega)
    rw [show rightS s=false by simp [rightS,e1,e2,e3]]
    refine aO (cxOk 93 [0,1,2,3,4,5,6,8,9,10,11,53,73]) Tryz.func13 ?_
    conv=>whnf
    refine .eff ad0 (cW ?_)
    refine And.intro rfl (cW ?_)
    refine cO (fun _=>g1) (cW ?_)
    refine cO (fun _=>g2) (cW ?_)
    rw [k3]
    exact zt35
   have k3:decide (60<(s.cash.length:Int))=false:=decide_eq_false (by omega)
   by_cases e4:s.purses.length≤20000
   case neg =>
    have k4:decide (20000<(s.purses.length:Int))=true:=decide_eq_true (by omega)
    rw [show rightS s=false by simp [rightS,e1,e2,e3,e4]]
    refine aO (cxOk 93 [0,1,2,3,4,5,6,8,9,10,11,53,73]) Tryz.func13 ?_
    conv=>whnf
    refine .eff ad0 (cW ?_)
    refine And.intro rfl (cW ?_)
    refine cO (fun _=>g1) (cW ?_)
    refine cO (fun _=>g2) (cW ?_)
    rw [k3,k4]
    refine gF (cW ?_)
    refine cF [.int .i64 (-1000000000000000000),.int .i64 1000000000000000000,.undef] [.val (.bool false)] (cW ?_)
    refine nE (cW ?_)
    rfl
   have k4:decide (20000<(s.purses.length:Int))=false:=decide_eq_false (by omega)
   refine aO (cxOk 93 [0,1,2,3,4,5,6,8,9,10,11,53,73]) Tryz.func13 ?_
   conv=>whnf
   refine .eff ad0 (cW ?_)
   refine And.intro rfl (cW ?_)
   refine cO (fun _=>g1) (cW ?_)
   refine cO (fun _=>g2) (cW ?_)
   rw [k3,k4]
   refine gT (cW ?_)
   refine cO (fun _=>g3) (cW ?_)
   cases e5:inB (-1000000000000000000) 1000000000000000000 [s.outside]
   ·refine ⟨fun z=>?_,fun z=>?_⟩
    ·conv=>whnf
     rw [show rightS s=false by simp [rightS,hM,e1,e2,e3,e4,e5]]
     rfl
    ·simp at z
   ·refine ⟨fun z=>?_,fun z=>?_⟩
    ·simp at z
    conv=>whnf
    refine cO (fun _=>g4) (cW ?_)
    refine ⟨fun y=>?_,fun y=>?_⟩
    ·conv=>whnf
     have hr:rightS s=false:=by
      simp only [Bool.or_eq_true,decide_eq_true_eq,Bool.not_eq_true'] at y
      unfold rightS
      rcases y with ((y | y) | y) | y
      ·rw [decide_eq_false (show ¬ s.lines.length≤400 by omega)];simp
      ·rw [decide_eq_false (show ¬ s.payments.length≤100000 by omega)];simp
      ·rw [decide_eq_false (show ¬ s.proposals.length≤10000 by omega)];simp
      ·rw [y];simp
     rw [hr]
     rfl
    simp only [Bool.or_eq_false_iff,decide_eq_false_iff_not,Bool.not_eq_false'] at y
    obtain ⟨⟨⟨y1,y2⟩,y3⟩,y4⟩:=y
    conv=>whnf
    refine .one _ _ _ (fun _=>g5) (.cons (lS rfl) (.cons (.fn _ _ _ _ _ _ _ .nil (.cons (.box _ _ _ _ _ _ rfl (.cons (.base (.same _ rfl)) .nil) ao0) (.cons (.box _ _ _ _ _ _ rfl (.cons (.fn _ _ _ _ _ _ _ .nil (.cons (.boxt _ _ _ rfl rfl rfl) .nil)) .nil) ao0) .nil))) .nil)) (.inr fun r hr=>zp30) ah0 (cW ?_)
    refine .one _ _ _ (fun _=>g6) (.cons (lS rfl) (.cons (.fn _ _ _ _ _ _ _ .nil (.cons (.box _ _ _ _ _ _ rfl (.cons (.base (.same _ rfl)) .nil) ao0) (.cons (.box _ _ _ _ _ _ rfl (.cons (.base (.same _ rfl)) .nil) ao0) (.cons (.box _ _ _ _ _ _ rfl (.cons (.base (.same _ rfl)) .nil) ao0) .nil)))) .nil)) (.inr fun r hr=>zp30) ah0 (cW ?_)
    refine .one _ _ _ (fun _=>g7) (.cons (lS rfl) (.cons (.fn _ _ _ _ _ _ _ .nil (.cons (.box _ _ _ _ _ _ rfl (.cons (.base (.same _ rfl)) .nil) ao0) (.cons (.box _ _ _ _ _ _ rfl (.cons (.base (.same _ rfl)) .nil) ao0) (.cons (.box _ _ _ _ _ _ rfl (.cons (.base (.same _ rfl)) .nil) ao0) (.cons (.box _ _ _ _ _ _ rfl (.cons (.fn _ _ _ _ _ _ _ .nil (.cons (.boxt _ _ _ rfl rfl rfl) .nil)) .nil) ao0) .nil))))) .nil)) (.inr fun r hr=>zp30) ah0 (cW ?_)
    show [AR.val (AV.bool _)]=_
    have he:(s.lines.all (lineOk s.purses.length)&&s.payments.all (payOk s.lines.length s.purses.length)&&s.proposals.all (proOk s.lines.length s.purses.length))=rightS s:=by
     unfold rightS
     rw [e1,e2,decide_eq_true e3,decide_eq_true e4,hM,e5,decide_eq_true (show s.lines.length≤400 by omega),decide_eq_true (show s.payments.length≤100000 by omega),decide_eq_true (show s.proposals.length≤10000 by omega),y4]
     simp
    rw [← he]
end Go.Proofs.YtgaallgiaachlaaGreatDoor
