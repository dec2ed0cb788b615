/-
  A call by its contract.
-/
import Derived.Test.YtcabodhhdeecgaaOwnO
namespace Go.Own

abbrev Lend (H : Heap) : AV → AV → List Nat → Prop := Bor1 H (Bor1 H (Bor H))

theorem lend_ok [Tabs] (H : Heap) : BorOk H (Lend H) := borOk_1 (borOk_1 (borOk_base H))

theorem relV_fn {m : Ids} {S : Blocks} {w : World} {v : Value} {f : Fn} {lf lc : List AV} (h : RelV m S w v (.fn f lf lc)) :
    ∃ fs cs, v = .func f fs cs ∧ fs.size = lf.length ∧ cs.size = lc.length ∧ (∀ (j : Nat) (c : Value) (a : AV), fs[j]? = some c → lf[j]? = some a → RelV m S w c a) ∧ (∀ (j : Nat) (c : Value) (a : AV), cs[j]? = some c → lc[j]? = some a → RelV m S w c a) := by
  cases h with
  | t _ _ h => cases h with
    | fn f fs cs lf lc h1 h2 r1 r2 => exact ⟨fs, cs, rfl, h1, h2, fun j c a p q => .t _ _ (r1 j c a p q), fun j c a p q => .t _ _ (r2 j c a p q)⟩
  | fn f fs cs lf lc h1 h2 r1 r2 => exact ⟨fs, cs, rfl, h1, h2, r1, r2⟩

theorem relR_more {S S' : Blocks} {w : World} {B : Nat} {v : Value} {r : AR} (hS : ∀ g, S g → S' g) (h : RelR S w B v r) : RelR S' w B v r := by
  cases r with
  | val a => exact RelT.more hS h
  | new b => exact ⟨h.1, h.2.1, fun n => (h.2.2 n).mono (fun _ _ h => h) hS (fun _ _ => rfl) (fun _ _ _ _ _ => rfl)⟩

theorem list3_get {m : Ids} {S : Blocks} {w : World} {a b c : List Value} {x y z : List AV} (h1 : a.length = x.length) (h2 : b.length = y.length) (r1 : ∀ (j : Nat) (c : Value) (p : AV), a[j]? = some c → x[j]? = some p → RelV m S w c p)
    (r2 : ∀ (j : Nat) (c : Value) (p : AV), b[j]? = some c → y[j]? = some p → RelV m S w c p) (r3 : ∀ (j : Nat) (d : Value) (p : AV), c[j]? = some d → z[j]? = some p → RelV m S w d p) :
    ∀ (j : Nat) (d : Value) (p : AV), (a ++ b ++ c)[j]? = some d → (x ++ y ++ z)[j]? = some p → RelV m S w d p := by
  intro j d p hd hp
  by_cases hj1 : j < a.length
  · rw [List.append_assoc, List.getElem?_append_left hj1] at hd
    rw [List.append_assoc, List.getElem?_append_left (by omega)] at hp
    exact r1 j d p hd hp
  · by_cases hj2 : j < a.length + b.length
    · rw [List.append_assoc, List.getElem?_append_right (by omega), List.getElem?_append_left (by omega)] at hd
      rw [List.append_assoc, List.getElem?_append_right (by omega), List.getElem?_append_left (by omega), ← h1] at hp
      exact r2 _ d p hd hp
    · rw [List.getElem?_append_right (by simp; omega)] at hd
      rw [List.getElem?_append_right (by simp; omega)] at hp
      have e : (x ++ y).length = (a ++ b).length := by simp; omega
      rw [e] at hp
      exact r3 _ d p hd hp

theorem sem_call [Tabs] {P : Program} {o : Oper} {fop : Operand} {as : Array Operand} {ts : Array TypeId} (ho : o.op = .call { callee := .value fop, args := as, argTypes := ts })
    {rd : Operand → AV} {H : Heap} {nx : Nat} {f : FuncId} {first cap : List AV} (hf : rd fop = .fn (.func f) first cap) {args' : List AV} {touch : List Nat}
    (hb : BorL (Lend H) (first ++ as.toList.map rd ++ cap) args' touch) {R : List AR → Prop} (hc : APure P f args' R) (hflat : touch = [] ∨ ∀ rs, R rs → ∀ r ∈ rs, r.flat) :
    OpSemR P o ((fop :: as.toList).map fun y => (y, true, rd y)) H nx touch (fun r => ∃ rs, R rs ∧ r = ⟨valR (tv rs nx), touch, tw rs nx, tn rs nx⟩) := by
  intro m S w a H₂ K Q hG ht hfree hus hK
  have hfn : RelV m S w (a.eval fop) (rd fop) := hus (fop, true, rd fop) (by simp) rfl
  rw [hf] at hfn
  obtain ⟨fs, cs, hv, hfl, hcl, r1, r3⟩ := relV_fn hfn
  obtain ⟨⟨fn, hfun, hbody, hname⟩, hcall⟩ := hc
  have hvs : (fs ++ as.map a.eval ++ cs) = (fs.toList ++ as.toList.map a.eval ++ cs.toList).toArray := by
    apply Array.ext'
    simp
  have hexec : (execOp a.eval o).run P w = .ok (.enter f (fs.toList ++ as.toList.map a.eval ++ cs.toList).toArray) w := by
    rw [← hvs]
    unfold execOp
    have hb' : ¬ fn.body = none := by intro e; simp [e] at hbody
    have hn' : ¬ fn.name = "runtime.NumGoroutine" := by simpa using hname
    simp [ho, resolve, hv, Deferred.ofValue, invoke, callFunc, hfun, hn', hb']
  have r2 : ∀ (j : Nat) (c : Value) (p : AV), (as.toList.map a.eval)[j]? = some c → (as.toList.map rd)[j]? = some p → RelV m S w c p := by
    intro j c p hj hp
    simp only [List.getElem?_map, Option.map_eq_some_iff] at hj hp
    obtain ⟨y, hy, rfl⟩ := hj
    obtain ⟨y', hy', rfl⟩ := hp
    rw [hy] at hy'
    cases hy'
    exact hus (y, true, rd y) (List.mem_map.2 ⟨y, List.mem_cons.2 (.inr (List.mem_of_getElem? hy)), rfl⟩) rfl
  obtain ⟨hlen, hbor⟩ := borL_sound (lend_ok H) hb
  unfold Oper.wp
  rw [hexec, Oper.upon_enter]
  have hlt : ∀ g, (S g ∨ lent m H₂ touch g) → g < w.heap.size := by
    rintro g (h | ⟨i, v, hi, hl, hm, hk⟩)
    · exact (hG.ro g h).1
    · exact hG.blk_lt hl hm hk
  refine (hcall (fun g => S g ∨ lent m H₂ touch g) w _ hlt (hG.tab.mono (fun _ h => .inl h) fun _ _ => rfl) ⟨?_, ?_⟩).mono ?_
  · rw [hlen]
    simp [hfl, hcl]
  · exact hbor m S w H₂ _ hG ht (fun g h => .inl h) (fun g h => .inr h) _ (by simp [hfl, hcl]) (list3_get (by simpa using hfl) (by simp) (fun j c p h => r1 j c p (by simpa using h)) r2 (fun j c p h => r3 j c p (by simpa using h)))
  · rintro e w' ⟨us, rs, S'', rfl, hR, hL⟩
    show K (a.put o.dst (retVal us)) w'
    have hnl : ∀ g, S g → ¬ lent m H₂ touch g := fun g hg ⟨i, v, hi, hl, hm, hk⟩ => (hG.ro g hg).2 i v hl hm hk
    have hrel : ∀ (j : Nat) (u : Value) (r : AR), us[j]? = some u → rs[j]? = some r → RelR (fun g => S'' g ∧ ¬ lent m H₂ touch g) w' w.heap.size u r := by
      intro j u r hu hr
      rcases hflat with h0 | h0
      · exact relR_more (fun g hg => ⟨hg, fun ⟨i, v, hi, _⟩ => by rw [h0] at hi; simp at hi⟩) (hL.rel j u r hu hr)
      · exact relR_flat (hL.rel j u r hu hr) (h0 rs hR r (List.mem_of_getElem? hr))
    have hG' : Good m (fun g => S'' g ∧ ¬ lent m H₂ touch g) w' H₂ := by
      refine ⟨fun id => (hG.rel id).mono (fun _ _ h => h) (fun g hg => ⟨hL.ros g (.inl hg), hnl g hg⟩) (fun g hg => hL.below.block g (hG.ro g hg).1) (fun v k hl hv hk => hL.below.block k (hG.blk_lt hl hv hk)), hG.sep, fun g hg => ⟨hL.lt g hg.1, fun i v hl hv hk => ?_⟩, hG.tab.mono (fun g hg => ⟨hL.ros g (.inl hg), hnl g hg⟩) fun g hg => hL.below.block g (hG.ro g hg).1⟩
      rcases hL.fresh g hg.1 with (h | h) | h
      · exact (hG.ro g h).2 i v hl hv hk
      · exact hg.2 h
      · have := hG.blk_lt hl hv hk
        omega
    obtain ⟨m', g1, g2, g3, g4, g5, g6⟩ := take_sound (B := w.heap.size) rs us nx m H₂ hG' (fun i hi hlt => hfree i hi ⟨_, ⟨rs, hR, rfl⟩, hlt⟩) hL.len hrel (fun j u b k hu hr hk => by
      obtain ⟨a1, a2⟩ := hL.apart j u b k hu hr hk
      refine ⟨fun h => a1 h.1, fun ho => ?_, fun j' u' b' p q r => a2 j' u' b' p q r⟩
      have h1 := hG.own_lt ho
      have h2 : RelR _ w' w.heap.size u (.new b) := hrel j u _ hu hr
      have := h2.2.1 k hk
      omega)
    refine hK _ ⟨rs, hR, rfl⟩ (retVal us) m' _ w' ⟨g2, g3, fun g hg => ⟨hL.ros g (.inl hg), hnl g hg⟩, fun g hg => ?_, Far.of_below hL.below, g4, g1⟩ (retVal_rel g5 g6)
    rcases hL.fresh g hg.1 with (h | h) | h
    · exact .inl h
    · exact (hg.2 h).elim
    · exact .inr (.inr h)

/-- What a call does with the caller's own objects. -/
def CallSem [Tabs] (P : Program) (f : FuncId) (avs : List AV) (H : Heap) (nx : Nat) (touch : List Nat) (Rr : Res → Prop) : Prop :=
  FnOk P f ∧ ∀ (m : Ids) (S : Blocks) (w : World) (H₂ : Heap) (vs : List Value), Good m S w H₂ → (∀ id ∈ touch, lkH H₂ id = lkH H id) → (∀ i, nx ≤ i → (∃ r, Rr r ∧ i < r.nx) → m i = none) →
    vs.length = avs.length → (∀ (j : Nat) (v : Value) (a : AV), vs[j]? = some v → avs[j]? = some a → RelV m S w v a) →
    Calls P f vs.toArray w fun e w' => ∃ v r m' S', e = .returned v ∧ Rr r ∧ Ext m S w H₂ nx r.nx m' S' w' (r.wr ++ H₂) ∧ RelV m' S' w' v r.v

theorem sem_callraw [Tabs] {P : Program} {o : Oper} {fop : Operand} {as : Array Operand} {ts : Array TypeId} (ho : o.op = .call { callee := .value fop, args := as, argTypes := ts })
    {rd : Operand → AV} {H : Heap} {nx : Nat} {f : FuncId} {first cap : List AV} (hf : rd fop = .fn (.func f) first cap) {touch : List Nat} {Rr : Res → Prop} (hc : CallSem P f (first ++ as.toList.map rd ++ cap) H nx touch Rr) :
    OpSemR P o ((fop :: as.toList).map fun y => (y, true, rd y)) H nx touch Rr := by
  intro m S w a H₂ K Q hG ht hfree hus hK
  have hfn : RelV m S w (a.eval fop) (rd fop) := hus (fop, true, rd fop) (by simp) rfl
  rw [hf] at hfn
  obtain ⟨fs, cs, hv, hfl, hcl, r1, r3⟩ := relV_fn hfn
  obtain ⟨⟨fn, hfun, hbody, hname⟩, hcall⟩ := hc
  have hvs : (fs ++ as.map a.eval ++ cs) = (fs.toList ++ as.toList.map a.eval ++ cs.toList).toArray := by
    apply Array.ext'
    simp
  have hexec : (execOp a.eval o).run P w = .ok (.enter f (fs.toList ++ as.toList.map a.eval ++ cs.toList).toArray) w := by
    rw [← hvs]
    unfold execOp
    have hb' : ¬ fn.body = none := by intro e; simp [e] at hbody
    have hn' : ¬ fn.name = "runtime.NumGoroutine" := by simpa using hname
    simp [ho, resolve, hv, Deferred.ofValue, invoke, callFunc, hfun, hn', hb']
  have r2 : ∀ (j : Nat) (c : Value) (p : AV), (as.toList.map a.eval)[j]? = some c → (as.toList.map rd)[j]? = some p → RelV m S w c p := by
    intro j c p hj hp
    simp only [List.getElem?_map, Option.map_eq_some_iff] at hj hp
    obtain ⟨y, hy, rfl⟩ := hj
    obtain ⟨y', hy', rfl⟩ := hp
    rw [hy] at hy'
    cases hy'
    exact hus (y, true, rd y) (List.mem_map.2 ⟨y, List.mem_cons.2 (.inr (List.mem_of_getElem? hy)), rfl⟩) rfl
  unfold Oper.wp
  rw [hexec, Oper.upon_enter]
  refine (hcall m S w H₂ _ hG ht hfree (by simp [hfl, hcl]) (list3_get (by simpa using hfl) (by simp) (fun j c p h => r1 j c p (by simpa using h)) r2 (fun j c p h => r3 j c p (by simpa using h)))).mono ?_
  rintro e w' ⟨v, r, m', S', rfl, hR, hE, hV⟩
  exact hK r hR v m' S' w' hE hV

end Go.Own
