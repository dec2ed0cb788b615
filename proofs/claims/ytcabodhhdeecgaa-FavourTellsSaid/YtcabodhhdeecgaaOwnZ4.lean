/-
  slices.Sorted(maps.Keys(m)) at a map with ints as keys, of the call's own or lent, by the kit's contracts.
-/
import Derived.Test.YtcabodhhdeecgaaOwnZ3
import Derived.Shelf.SlIterI.Nil
namespace Go.Own
open Go.RowKit Go.Maps Go.Sort Go.Shelf Go.Proofs

def keysI {V : Type} (es : List (Int × V)) : List Int := (es.map (·.1)).mergeSort leI

/-- maps.Keys at a map of the call's own, or nil: an iterator over a new box that holds the map. -/
theorem keysI_sem [Tabs] {P : Program} {ρ : Shelf.Ren} (L : SlLaysZI.n7 P ρ) {fn : Func} {code : Code} (hf : P.funcs[ρ.f 7]? = some fn) (hb : fn.body = some code) (hname : (fn.name == "runtime.NumGoroutine") = false) {a : AV} (ha : (∃ id, a = .map id) ∨ a = .nilm ∨ ∃ (V : Type) (ev : V → AV) (dv : V) (es : List (Int × V)), a = .rimap .i64 ev dv es) (H : Heap) (nx : Nat) :
    CallSem P (ρ.f 7) [a] H nx [] (fun r => r = ⟨.fn (.func (ρ.f 10)) [] [.ptr nx 0], [], [(nx, .cells (ρ.t 23) [a])], nx + 1⟩) := by
  refine ⟨fnOk_of hf hb hname, fun m S w H₂ vs hG _ hfree hlen hrel => ?_⟩
  match vs, hlen with
  | [v], _ =>
    have hv : RelV m S w v a := hrel 0 v a rfl rfl
    obtain ⟨mb, rfl⟩ : ∃ mb, v = .map mb := by
      rcases ha with ⟨id, rfl⟩ | rfl | ⟨V, ev, dv, es, rfl⟩
      · obtain ⟨r, rfl, _⟩ := relV_map0 hv
        exact ⟨_, rfl⟩
      · exact ⟨none, relV_nilm hv⟩
      · cases hv with
        | t _ _ h => cases h; exact ⟨_, rfl⟩
    have hcall := callsIn_wide.1 (AnyZI.keys_in L Fence.wide 5 trivial rfl mb w)
    refine Calls.mono hcall ?_
    rintro e w' ⟨rfl, rfl⟩
    have hn : m nx = none := hfree nx (Nat.le_refl _) ⟨_, rfl, Nat.lt_succ_self _⟩
    have hids : ∀ i u, m i = some u → (fun i => if i = nx then some (Value.pointer (some ⟨w.heap.size, 0, none⟩)) else m i) i = some u := by
      intro i u hu
      have : i ≠ nx := by intro e; subst e; rw [hn] at hu; cases hu
      simp [this, hu]
    refine ⟨_, _, _, S, rfl, rfl, ext_new hG hn (.pointer (some ⟨w.heap.size, 0, none⟩)) _ _ rfl rfl rfl (by simp) (fun k hk => RowKit.Below.heap_alloc w _ k hk) (fun k hk => by simp [blk] at hk; omega) ?_, ?_⟩
    · refine ⟨w.heap.size, #[.map mb], by simp, heap_alloc_new w _, rfl, fun b hb => ?_, fun j c x hj hx => ?_⟩
      · simp at hb; subst hb
        rcases ha with ⟨id, rfl⟩ | rfl | ⟨V, ev, dv, es, rfl⟩ <;> rfl
      · cases j with
        | zero =>
          simp at hj hx
          subst hj; subst hx
          exact hv.mono hids (fun _ h => h) (fun g hg => RowKit.Below.heap_alloc w _ g (hG.ro g hg).1)
        | succ j => simp at hx
    · refine .fn _ _ _ _ _ rfl rfl (fun j c x hj => by simp at hj) (fun j c x hj hx => ?_)
      cases j with
      | zero => simp at hj hx; subst hj; subst hx; exact .ptr nx 0 _ (by simp)
      | succ j => simp at hx

/-- A map with ints as keys, as the kit reads it. -/
theorem ownsMapI_of {P : Program} {kt : TypeId} (hk : P.underlying kt = some (.int .i64)) {w : World} {r clock : Nat} {en : Array MapEntry} {V : Type} {es : List (Int × V)} (hr : w.heap[r]? = some (.map en clock)) (hl : en.size = es.length) (hst : MapKept.Stamped en clock)
    (hkey : ∀ (j : Nat) (x : MapEntry) (p : Int × V), en[j]? = some x → es[j]? = some p → x.key = .int .i64 p.1) (hwf : ∀ p ∈ es, (Lit.int .i64 p.1).wf = true) (hmax : es.length ≤ maxLen) :
    ∃ (D : DataW Unit) (R : Value → Option (DataW Unit × List MemPlace)), w.ownsMap P kt R r es.length D ∧ Maps.size D = es.length ∧ (intKeys D).Perm (es.map (·.1)) := by
  let R : Value → Option (DataW Unit × List MemPlace) := fun _ => some (.nil, [])
  have key : ∀ (j : Nat) (x : MapEntry) (p : Int × V), en[j]? = some x → es[j]? = some p → WideElems.rd P kt R x = some (.int .i64 p.1, .nil) := by
    intro j x p hx hp
    have hko : keyOf P kt x.key = some (.int .i64 p.1) := by
      rw [hkey j x p hx hp]
      exact keyOf_int_mk hk (hwf p (List.mem_of_getElem? hp))
    simp [WideElems.rd, hko, R]
  have hmap : en.toList.map (WideElems.rg P kt R) = es.map fun p => ((.int .i64 p.1, .nil) : Lit × DataW Unit) := by
    refine List.ext_getElem (by simpa using hl) fun j h1 h2 => ?_
    have hj1 : j < en.size := by simpa using h1
    have hj2 : j < es.length := by simpa using h2
    have := key j en[j] es[j] (Array.getElem?_eq_getElem hj1) (List.getElem?_eq_getElem hj2)
    simp [WideElems.rg, this]
  refine ⟨.map ((en.toList.map (WideElems.rg P kt R)).foldr DataW.insert []), R, ⟨en, clock, hr, ⟨by omega, hst, fun x hx => ?_⟩, by omega, rfl⟩, ?_, ?_⟩
  · obtain ⟨j, hj⟩ := List.getElem?_of_mem hx
    have hj' : en[j]? = some x := by simpa using hj
    have hjl : j < es.length := by
      have := (Array.getElem?_eq_some_iff.1 hj').1
      omega
    exact ⟨_, key j x _ hj' (List.getElem?_eq_getElem hjl)⟩
  · rw [Maps.size_eq, (WideShapes.sorted_perm _).length_eq, hmap]
    simp
  · rw [hmap]
    show (List.map (fun (p : Lit × DataW Unit) => intOf p.1) _).Perm _
    refine ((WideShapes.sorted_perm _).map _).trans ?_
    rw [List.map_map]
    exact List.Perm.of_eq (List.map_congr_left fun p _ => rfl)

/-- slices.Sorted at what maps.Keys handed back. -/
theorem sortedKeysI_sem [Tabs] {P : Program} {ρ ρs : Shelf.Ren} (L : SlLaysZI.n7 P ρ) (Ls : SlLaysZI.n6 P ρs) (hsorts : ∀ m, AnyZI.SortsIn P ρs Fence.wide m)
    {fn6 : Func} {c6 : Code} (hf : P.funcs[ρs.f 6]? = some fn6) (hb : fn6.body = some c6) (hname : (fn6.name == "runtime.NumGoroutine") = false)
    (e9 : ∀ args w, (callFunc (ρs.f 9) args).run P w = .ok (.enter (ρs.f 9) args) w) (e10 : ∀ args w, (callFunc (ρ.f 10) args).run P w = .ok (.enter (ρ.f 10) args) w)
    (h23 : ρ.t 26 = ρs.t 26) {et : TypeId} (het : ρs.t 26 = et) (hstr : P.underlying et = some (.int .i64))
    {H : Heap} {nx bid e : Nat} {V : Type} {ev : V → AV} {dv : V} {es : List (Int × V)} {a : AV} {tch : List Nat} (hbox : lkH H bid = .cells e [a]) (hmap : (∃ id, a = .map id ∧ tch = [bid, id] ∧ lkH H id = .imap .i64 ev dv es) ∨ (a = .rimap .i64 ev dv es ∧ tch = [bid])) (enc : Int → AV) (d : Int) (henc : ∀ s, enc s = .int .i64 s)
    (hwf : ∀ p ∈ es, (Lit.int .i64 p.1).wf = true) (hmax : es.length ≤ 1000000) :
    CallSem P (ρs.f 6) [.fn (.func (ρ.f 10)) [] [.ptr bid 0]] H nx tch (fun r => r = ⟨.own nx, tch, [(nx, .row et 1 enc d (keysI es))], nx + 1⟩) := by
  refine ⟨fnOk_of hf hb hname, fun m S w H₂ vs hG ht hfree hlenv hrel => ?_⟩
  match vs, hlenv with
  | [v], _ =>
    have hv : RelV m S w v (.fn (.func (ρ.f 10)) [] [.ptr bid 0]) := hrel 0 v _ rfl rfl
    obtain ⟨fs, cs, rfl, hfs, hcs, _, rc⟩ := relV_fn hv
    have hfs0 : fs = #[] := Array.eq_empty_of_size_eq_zero (by simpa using hfs)
    subst hfs0
    obtain ⟨c0, rfl⟩ : ∃ c, cs = #[c] := by
      match cs, hcs with
      | ⟨[c]⟩, _ => exact ⟨c, rfl⟩
    obtain ⟨g, rfl, hmb⟩ := relV_ptr0 (rc 0 c0 _ rfl rfl)
    obtain ⟨g', c, hmb', hglt, hcell, hcr⟩ := one_cell hG (by rw [ht bid (by rcases hmap with ⟨id, _, rfl, _⟩ | ⟨_, rfl⟩ <;> simp), hbox])
    rw [hmb] at hmb'
    cases hmb'
    obtain ⟨r, en, clock, rfl, hr, hsz, hst, hel⟩ : ∃ r en clock, c = .map (some r) ∧ w.heap[r]? = some (.map en clock) ∧ en.size = es.length ∧ MapKept.Stamped en clock ∧ ∀ (j : Nat) (x : MapEntry) (p : Int × V), en[j]? = some x → es[j]? = some p → x.key = .int .i64 p.1 := by
      rcases hmap with ⟨id, rfl, rfl, hid⟩ | ⟨rfl, rfl⟩
      · obtain ⟨r, rfl, hmid⟩ := relV_map0 hcr
        have hbm := hG.rel id
        rw [ht id (by simp), hid] at hbm
        obtain ⟨r', en, clock, hm2, hr, hsz, hst, hel⟩ := hbm
        rw [hmid] at hm2
        cases hm2
        exact ⟨r, en, clock, rfl, hr, hsz, hst, fun j x p h1 h2 => (hel j x p h1 h2).1⟩
      · cases hcr with
        | t _ _ h => cases h with
          | rimap k ev dv es r clock en hs hr hl hst hk hv => exact ⟨r, en, clock, rfl, hr, hl, hst, hk⟩
    obtain ⟨D, R, hown, hDs, hperm⟩ := ownsMapI_of (P := P) hstr hr hsz hst hel hwf (by unfold maxLen; omega)
    have hseq := AnyZI.keys_gives (ρ := ρ) { L with } Fence.wide 2 trivial rfl (by omega) g r es.length D w hglt hcell (by rw [h23, het]; exact hown)
    have hN : Maps.size D ≤ maxLen := by rw [hDs]; unfold maxLen; omega
    have hNb : Maps.size D * 8 ≤ 140737488355328 := by rw [hDs]; omega
    have cS := callsIn_wide.1 (AnyZI.sorted_in Ls Fence.wide 5 trivial trivial trivial trivial rfl (by omega) (hsorts _) e9 (ρ.f 10) #[.pointer (some ⟨g, 0, none⟩)] trivial e10 _ _ hN hNb w hseq)
    refine Calls.mono cS ?_
    rintro e w' ⟨u, ss, rfl, hS, hrow, hnil, hbel⟩
    have hkeys : ss.mergeSort leI = keysI es := mergeSort_of_perm_i (hS.trans hperm)
    rw [hkeys, het] at hrow
    have hlk : (keysI es).length = ss.length := by rw [← hkeys, List.length_mergeSort]
    have hn : m nx = none := hfree nx (Nat.le_refl _) ⟨_, rfl, Nat.lt_succ_self _⟩
    have hfresh : ∀ k, blk u = some k → w.heap.size ≤ k := by
      intro k hk
      rcases hrow.2 with ⟨h0, _⟩ | ⟨g', cap, cur, h0, h1, _⟩
      · rw [h0] at hk; simp [blk] at hk
      · rw [h0] at hk; simp [blk] at hk; omega
    have hownrow : w'.ownsRow 0 et 1 u ss.length ((keysI es).map encZ) := by
      refine ⟨hrow.1, ?_⟩
      rcases hrow.2 with h0 | ⟨g', cap, cur, h0, h1, h2⟩
      · exact .inl h0
      · exact .inr ⟨g', cap, cur, h0, Nat.zero_le _, h2⟩
    have hrr : RowRel S w' et 1 ((keysI es).map enc) u ((keysI es).map encZ) := by
      refine ⟨by rw [List.length_map, hlk]; exact hownrow, fun x hx => ?_, fun a ha => ?_, fun j c a hj ha => ?_⟩
      · obtain ⟨s, _, rfl⟩ := List.mem_map.1 hx
        rw [henc]; rfl
      · obtain ⟨x, hx, hax⟩ := List.mem_flatMap.1 ha
        obtain ⟨s, _, rfl⟩ := List.mem_map.1 hx
        rw [henc] at hax
        simp [AV.cells] at hax
        subst hax
        rfl
      · have hfl : flat ((keysI es).map enc) = (keysI es).map fun s => AV.int .i64 s := by
          unfold flat
          induction keysI es with
          | nil => rfl
          | cons s l ih => simp [henc, AV.cells, ih]
        rw [hfl] at ha
        simp only [List.getElem?_map, Option.map_eq_some_iff] at hj ha
        obtain ⟨s, h1, rfl⟩ := hj
        obtain ⟨s', h2, rfl⟩ := ha
        rw [h1] at h2
        cases h2
        exact .int _ _
    have hvs : ∃ a n c, u = .slice a n c := by
      rcases hrow.2 with ⟨h0, _⟩ | ⟨g', cap, cur, h0, _⟩
      · exact ⟨_, _, _, h0⟩
      · exact ⟨_, _, _, h0⟩
    obtain ⟨a, n, c, rfl⟩ := hvs
    refine ⟨_, _, _, S, rfl, rfl, ext_new hG hn (.slice a n c) _ w' hbel.os hbel.tape hbel.output hbel.size (fun k hk => hbel.block k hk) hfresh ?_, .own nx n c a (by simp)⟩
    exact ⟨_, _, by simp, hrr⟩

/-- slices.Sorted at what maps.Keys handed back for nil. -/
theorem sortedKeysI_nil_sem [Tabs] {P : Program} {ρ ρs : Shelf.Ren} (L : SlLaysZI.n7 P ρ) (Ls : SlLaysZI.n6 P ρs) (hsorts : ∀ m, AnyZI.SortsIn P ρs Fence.wide m)
    {fn6 : Func} {c6 : Code} (hf : P.funcs[ρs.f 6]? = some fn6) (hb : fn6.body = some c6) (hname : (fn6.name == "runtime.NumGoroutine") = false)
    (e9 : ∀ args w, (callFunc (ρs.f 9) args).run P w = .ok (.enter (ρs.f 9) args) w) (e10 : ∀ args w, (callFunc (ρ.f 10) args).run P w = .ok (.enter (ρ.f 10) args) w)
    {H : Heap} {nx bid e : Nat} (hbox : lkH H bid = .cells e [.nilm]) :
    CallSem P (ρs.f 6) [.fn (.func (ρ.f 10)) [] [.ptr bid 0]] H nx [bid] (fun r => r = ⟨.nils, [bid], [], nx⟩) := by
  refine ⟨fnOk_of hf hb hname, fun m S w H₂ vs hG ht hfree hlenv hrel => ?_⟩
  match vs, hlenv with
  | [v], _ =>
    have hv : RelV m S w v (.fn (.func (ρ.f 10)) [] [.ptr bid 0]) := hrel 0 v _ rfl rfl
    obtain ⟨fs, cs, rfl, hfs, hcs, _, rc⟩ := relV_fn hv
    have hfs0 : fs = #[] := Array.eq_empty_of_size_eq_zero (by simpa using hfs)
    subst hfs0
    obtain ⟨c0, rfl⟩ : ∃ c, cs = #[c] := by
      match cs, hcs with
      | ⟨[c]⟩, _ => exact ⟨c, rfl⟩
    obtain ⟨g, rfl, hmb⟩ := relV_ptr0 (rc 0 c0 _ rfl rfl)
    obtain ⟨g', c, hmb', hglt, hcell, hcr⟩ := one_cell hG (by rw [ht bid (by simp), hbox])
    rw [hmb] at hmb'
    cases hmb'
    have hc := relV_nilm hcr
    subst hc
    have hseq := AnyZI.keys_gives_nil (ρ := ρ) { L with } Fence.wide 2 trivial rfl g w hglt hcell
    have cS := callsIn_wide.1 (AnyZI.sorted_in Ls Fence.wide 5 trivial trivial trivial trivial rfl (by omega) (hsorts _) e9 (ρ.f 10) #[.pointer (some ⟨g, 0, none⟩)] trivial e10 _ 0 (Nat.zero_le _) (by omega) w hseq)
    refine Calls.mono cS ?_
    rintro e w' ⟨u, ss, rfl, hS, hrow, hnil, hbel⟩
    have hu := hnil.2 hS
    subst hu
    exact ⟨_, _, m, S, rfl, rfl, ext_below hG hbel, .t _ _ .nils⟩

end Go.Own
