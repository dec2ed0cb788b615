/-
  A region that draws its order and writes: as a step of code.
-/
import Derived.Test.YtcabodhhdeecgaaOwnW
namespace Go.Own

theorem evOpD_sound [Tabs] {C : Cx} (hT : TabOk C.P C.T) {rd : Operand → AV} {H : Heap} {nx : Nat} {o : Oper} {k : Res → Prop} (h : evOpD C rd H nx o k) : Shown C.P true none rd H nx o k := by
  unfold evOpD at h
  split at h
  · rename_i c x y hop
    exact shown_pure' (us := [(c, true, rd c), (x, true, rd x), (y, true, rd y)]) (uses_all (l := [c, x, y]) (by simp [hop, Op.operands])) (evPickD_sound hop h)
  · exact evOp_sound hT h

theorem evOpsD_sound [Tabs] {C : Cx} (hT : TabOk C.P C.T) {ops : Array Oper} {env0 : Env} {H0 : Heap} {nx0 : Nat} {k : Sig → Env → Heap → Nat → Prop} : ∀ (rest : List Oper) (R : List Rec), Hist C ops env0 H0 nx0 R → (∀ j, rest[j]? = ops[R.length + j]?) →
    evOpsD C ops.toList rest (envR env0 R) (heapR H0 R) (nxR nx0 R) (R.map sigOf) k →
    ∃ R', Hist C ops env0 H0 nx0 R' ∧ R'.length = R.length + rest.length ∧ k (R'.map sigOf) (envR env0 R') (heapR H0 R') (nxR nx0 R')
  | [], R, hH, _, h => ⟨R, hH, rfl, h⟩
  | o :: rest, R, hH, hl, h => by
    unfold evOpsD at h
    split at h
    · exact h.elim
    · rename_i hd
      have hidx : ops[R.length]? = some o := by have := hl 0; simpa using this.symm
      have hdst : ∀ d, o.dst = some d → d < C.N := by
        intro d hd'
        simp only [dstOk, hd', Bool.and_eq_true] at hd
        simpa [Nat.blt_eq] using hd.1
      rcases gateK_sound h with ⟨hw, h⟩ | ⟨hsk, h⟩
      · obtain ⟨touch, Rr, h1, _, h3, h4⟩ := evOpD_sound hT h
        obtain ⟨r, hr, ht⟩ := h3 rfl
        obtain ⟨hn, hk⟩ := h4 r ((hr r).2 rfl)
        obtain ⟨v, touch', wr, n1⟩ := r
        simp only at hk ht
        subst ht
        rw [idsK_iff] at hk
        have hRr : Rr = fun r' => r' = ⟨v, touch', wr, n1⟩ := funext fun r' => propext (hr r')
        subst hRr
        have hsem := h1 trivial
        refine (evOpsD_sound hT rest (⟨o, v, touch', wr, nxR nx0 R, n1⟩ :: R) ⟨hH, hidx, hdst, rfl, hn, .inl ⟨hw, hsem⟩⟩ (fun j => ?_) ?_).imp fun R' h => ⟨h.1, by have := h.2.1; simp at this ⊢; omega, h.2.2⟩
        · have := hl (j + 1)
          rw [List.getElem?_cons_succ] at this
          rw [this]
          simp [Nat.add_assoc, Nat.add_comm 1 j]
        · exact pushK_iff.1 (putEK_iff.1 hk)
      · refine (evOpsD_sound hT rest (⟨o, .skip, [], [], nxR nx0 R, nxR nx0 R⟩ :: R) ⟨hH, hidx, hdst, rfl, Nat.le_refl _, .inr ⟨hsk, rfl, rfl, rfl⟩⟩ (fun j => ?_) ?_).imp fun R' h => ⟨h.1, by have := h.2.1; simp at this ⊢; omega, h.2.2⟩
        · have := hl (j + 1)
          rw [List.getElem?_cons_succ] at this
          rw [this]
          simp [Nat.add_assoc, Nat.add_comm 1 j]
        · exact pushK_iff.1 (putEK_iff.1 (idsK_iff.1 h))

theorem nth_suffix {R : List Rec} {j : Nat} (h : j < R.length) : ∃ r B, (r :: B) <:+ R ∧ B.length = j := by
  have hs := List.drop_suffix (R.length - 1 - j) R
  cases hd : R.drop (R.length - 1 - j) with
  | nil =>
    have := congrArg List.length hd
    simp at this
    omega
  | cons r B =>
    rw [hd] at hs
    refine ⟨r, B, hs, ?_⟩
    have := congrArg List.length hd
    simp at this
    omega

theorem setE_eq {listed : Array Bool} {j : Nat} (h : j < listed.size) : (fun i => (listed.setIfInBounds j true).getD i false) = setE (fun i => listed.getD i false) j := by
  funext i
  unfold setE
  by_cases e : i = j
  · subst e; simp [h]
  · rw [if_neg e, getD_set_ne false (fun h => e h.symm)]

theorem closed_set {ops : Array Oper} {E : Nat → Bool} {j : Nat} {o : Oper} (h : Closed ops E) (ho : ops[j]? = some o) (hp : Preds E o) : Closed ops (setE E j) := by
  intro i o' ho' hi e he hb
  have : E e.on = true := by
    by_cases e' : i = j
    · subst e'
      rw [ho] at ho'
      cases ho'
      exact hp e he hb
    · simp only [setE, e', if_false] at hi
      exact h i o' ho' hi e he hb
  simp [setE, this]

theorem drawLoop [Tabs] {C : Cx} {F : Fr} {ops : Array Oper} {env : Env} {H : Heap} {nx : Nat} {R : List Rec} (hH : Hist C ops env H nx R) (hO : ordB ops (R.map sigOf) = true) (hlen : R.length = ops.size) {Q : Exit → Act → World → Prop}
    (hQ : ∀ (E : Nat → Bool) m S H₂ a w, (∀ j, j < ops.size → E j = true) → InvD C F env H nx R E m S H₂ a w → Q .normal a w) :
    ∀ (fuel : Nat) (listed : Array Bool) m S H₂ a w, listed.size = ops.size → listed.toList.count false = fuel → Closed ops (fun i => listed.getD i false) → InvD C F env H nx R (fun i => listed.getD i false) m S H₂ a w →
      wpAny C.P .any ops Q fuel listed a w := by
  have done : ∀ (listed : Array Bool) m S H₂ a w, listed.size = ops.size → InvD C F env H nx R (fun i => listed.getD i false) m S H₂ a w → Region.ready .any ops listed = [] → Q .normal a w := by
    intro listed m S H₂ a w hs hI h0
    refine hQ _ m S H₂ a w (fun j => ?_) hI
    induction j using Nat.strongRecOn with
    | _ j ih =>
      intro hj
      cases hb : listed.getD j false with
      | true => rfl
      | false =>
        exfalso
        obtain ⟨r, B, hr, hB⟩ := nth_suffix (R := R) (j := j) (by omega)
        obtain ⟨_, hidx, _⟩ := hH.suffix hr
        have hed := edgesB_spec (ordR_spec hO r B hr).1
        have : j ∈ Region.ready .any ops listed := by
          rw [mem_ready]
          refine ⟨?_, r.o, by rw [← hB]; exact hidx, fun e he hbe => ?_⟩
          · have hlt : j < listed.size := by omega
            simp [Array.getD, hlt] at hb ⊢
            exact hb
          · have hlt := hed e (by simpa using he) hbe
            exact ih e.on (by omega) (by omega)
        rw [h0] at this
        simp at this
  intro fuel
  induction fuel with
  | zero =>
    intro listed m S H₂ a w hs hc hcl hI
    have h0 : Region.ready .any ops listed = [] := by
      apply List.eq_nil_iff_forall_not_mem.2
      intro j hj
      obtain ⟨h1, o, ho, _⟩ := mem_ready.1 hj
      have hlt : j < listed.size := by rw [hs]; exact (Array.getElem?_eq_some_iff.1 ho).1
      simp [Array.getD, hlt] at h1
      have : false ∈ listed.toList := by rw [← h1]; simp
      have := List.count_pos_iff.2 this
      omega
    exact ⟨h0, done listed m S H₂ a w hs hI h0⟩
  | succ fuel ih =>
    intro listed m S H₂ a w hs hc hcl hI
    refine ⟨fun h0 => done listed m S H₂ a w hs hI h0, fun j hj => ?_⟩
    obtain ⟨h1, o, ho, hpre⟩ := mem_ready.1 hj
    have hlt : j < ops.size := (Array.getElem?_eq_some_iff.1 ho).1
    have hls : j < listed.size := by omega
    obtain ⟨r, B, hr, hB⟩ := nth_suffix (R := R) (j := j) (by omega)
    obtain ⟨_, hidx, _⟩ := hH.suffix hr
    have hro : o = r.o := by rw [hB, ho] at hidx; cases hidx; rfl
    subst hro
    have hf : listed[j] = false := by simpa [Array.getD, hls] using h1
    have hat : At C ops env H nx R (fun i => listed.getD i false) r B := ⟨hH, hO, hcl, hr, by simp [hB, hls, hf], hpre⟩
    unfold wpOp
    rw [ho]
    have next : ∀ m' S' H' a' w', InvD C F env H nx R (setE (fun i => listed.getD i false) B.length) m' S' H' a' w' → wpAny C.P .any ops Q fuel (listed.setIfInBounds j true) a' w' := ?next
    rcases stepD (Q := Q) hat hI next with ⟨hw, hst⟩ | ⟨hw, hst⟩
    · simp only [hw, if_true]
      exact .inl hst
    · simp only [hw, if_false, Bool.false_eq_true]
      exact hst
    intro m' S' H' a' w' hI'
    rw [hB, ← setE_eq hls] at hI'
    refine ih _ m' S' H' a' w' (by simp [hs]) ?_ ?_ hI'
    · rw [Array.toList_setIfInBounds, List.count_set (by simpa using hls)]
      have : listed.toList[j]'(by simpa using hls) = false := by simpa using hf
      rw [this]
      have hc' : listed.toList.count false = fuel + 1 := hc
      rw [hc']
      rfl
    · rw [setE_eq hls]
      exact closed_set hcl ho hpre

theorem rep_false (n i : Nat) : (Array.replicate n false).getD i false = false := by
  by_cases h : i < n <;> simp [Array.getD, h]

theorem good_congr [Tabs] {m : Ids} {S : Blocks} {w : World} {H H' : Heap} (h : Good m S w H) (he : ∀ id, lkH H id = lkH H' id) : Good m S w H' :=
  ⟨fun id => by rw [← he id]; exact h.rel id, fun i j vi vj k hi hj => h.sep i j vi vj k (by rw [he i]; exact hi) (by rw [he j]; exact hj), fun g hg => ⟨(h.ro g hg).1, fun i v hl => (h.ro g hg).2 i v (by rw [he i]; exact hl)⟩, h.tab⟩

/-- A region that draws its order and writes. -/
theorem DrawG.eff [Tabs] {C : Cx} (hC : CxOk C) {id : Nat} {ops : Array Oper} {env : Env} {H : Heap} {nx : Nat} {Q : St → Prop}
    (h : evOpsD C ops.toList ops.toList env H nx [] fun sg env H nx => ordB ops sg = true ∧ flushK C.keep [] env [] fun env => Q ⟨env, H, nx⟩) : DrawG C id ops env H nx Q := by
  refine .any fun F a w ⟨m, S, hc, hs, hd, hrel⟩ => ?_
  obtain ⟨R, hH, hlen, hO, hk⟩ := evOpsD_sound hC.tab (ops := ops) ops.toList [] trivial (by simp) h
  refine wp_region_any hC.mixed ?_
  have e := ext_below (nx := nx) (w' := { w with drawn := w.drawn + 1 }) hc.good ⟨rfl, rfl, rfl, Nat.le_refl _, fun _ _ => rfl⟩
  have hc' := hc.step e (Nat.le_refl _)
  refine drawLoop hH hO (by simpa using hlen) (F := F) ?_ ops.size _ m S H a _ (by simp) (by simp) ?_ ⟨hc'.good, hc'.far, hc'.owns, hc'.ro, hc'.ro0, hc'.pins, fun i hi => ?_, fun id => ?_, hs, hd, fun s => ?_⟩
  · intro E m S H₂ a w hall hI
    have hall' : ∀ {X : Type _} (f : Rec → Option X) (x0 : X), lay f x0 E R = lay f x0 (fun _ => true) R := fun f x0 => lay_congr fun r B hr _ => hall _ (by
      have := hr.length_le
      simp at this hlen
      omega)
    have hheap : ∀ id, lkH H₂ id = lkH (heapR H R) id := fun id => by rw [hI.heap id, hall', lkH_heapR]
    have hown : ∀ k, own m (heapR H R) k → own m H₂ k := fun k ⟨i, v, h1, h2⟩ => ⟨i, v, by rw [hheap]; exact h1, h2⟩
    have henv : ∀ s, RelV m S w (a.tmps.getD s undef) (lk (envR env R) s) := fun s => by
      have := hI.tmps s
      rwa [hall', ← lk_envR] at this
    obtain ⟨env', hq, he⟩ := flushK_sound (stk := []) (Rel.run (F := F) (st := ⟨envR env R, heapR H R, nxR nx R⟩) hI.size henv) _ _ _ hk (fun s => .t _ _ (.undef _))
    refine ⟨rfl, ⟨env', heapR H R, nxR nx R⟩, ⟨m, S, ⟨good_congr hI.good hheap, fun i hi => ?_, hI.far, fun k hk => hI.owns k (hown k hk), hI.ro, hI.ro0, hI.pins⟩, hI.size, hI.defers, he⟩, hq⟩
    cases hm : m i with
    | none => rfl
    | some v =>
      have hi' : nxR nx R ≤ i := hi
      rcases hI.free i (by rw [hm]; simp) with h1 | ⟨r, B, hr, _, _, h1⟩
      · have := hH.nx_le
        omega
      · have := hH.n1_le hr
        omega
  · intro j o ho hj
    have hj' : (Array.replicate ops.size false).getD j false = true := hj
    rw [rep_false] at hj'
    cases hj'
  · left
    cases Nat.lt_or_ge i nx with
    | inl h => exact h
    | inr h => exact (hi (hc'.free i h)).elim
  · have : lay (fH id) (lkH H id) (fun i => (Array.replicate ops.size false).getD i false) R = lkH H id := by
      rw [lay_cut (List.nil_suffix) fun r B _ _ _ => rep_false _ _]
      rfl
    rw [this]
  · have : lay (fE s) (lk env s) (fun i => (Array.replicate ops.size false).getD i false) R = lk env s := by
      rw [lay_cut (List.nil_suffix) fun r B _ _ _ => rep_false _ _]
      rfl
    rw [this]
    exact e.relV hc.good (hrel s)

end Go.Own
