/-
  A region that draws its order and writes: sound.
-/
import Derived.Test.YtcabodhhdeecgaaOwnV
namespace Go.Own

theorem any_beq {d : Nat} {l : List Nat} (h : d ∈ l) : (l.any fun j => Nat.beq d j) = true := List.any_eq_true.2 ⟨d, h, by simp⟩

theorem dstIn_true {o : Option Nat} {d : Nat} {l : List Nat} (ho : o = some d) (h : d ∈ l) : dstIn o l = true := by subst ho; exact any_beq h

theorem meets_true {a b : List Nat} {i : Nat} (h : i ∈ a) (h' : i ∈ b) : meets a b = true := List.any_eq_true.2 ⟨i, h, any_beq h'⟩

theorem Hist.suffix [Tabs] {C : Cx} {ops : Array Oper} {env : Env} {H : Heap} {nx : Nat} {T : List Rec} : ∀ {R : List Rec}, Hist C ops env H nx R → T <:+ R → Hist C ops env H nx T
  | [], h, hs => by rw [List.suffix_nil.1 hs]; trivial
  | x :: R, h, hs => by
    rcases List.suffix_cons_iff.1 hs with rfl | hs'
    · exact h
    · exact Hist.suffix h.1 hs'

theorem Hist.nx_le [Tabs] {C : Cx} {ops : Array Oper} {env : Env} {H : Heap} {nx : Nat} : ∀ {R : List Rec}, Hist C ops env H nx R → nx ≤ nxR nx R
  | [], h => Nat.le_refl _
  | x :: R, h => by
    have := Hist.nx_le h.1
    obtain ⟨_, _, _, h1, h2, _⟩ := h
    show nx ≤ x.n1
    omega

theorem Hist.n1_le [Tabs] {C : Cx} {ops : Array Oper} {env : Env} {H : Heap} {nx : Nat} {r : Rec} {B : List Rec} : ∀ {R : List Rec}, Hist C ops env H nx R → (r :: B) <:+ R → r.n1 ≤ nxR nx R
  | [], h, hs => by simp at hs
  | x :: R, h, hs => by
    rcases List.suffix_cons_iff.1 hs with e | hs'
    · cases e; exact Nat.le_refl _
    · have := Hist.n1_le h.1 hs'
      obtain ⟨_, _, _, h1, h2, _⟩ := h
      show r.n1 ≤ x.n1
      omega

structure InvD [Tabs] (C : Cx) (F : Fr) (env : Env) (H : Heap) (nx : Nat) (R : List Rec) (E : Nat → Bool) (m : Ids) (S : Blocks) (H₂ : Heap) (a : Act) (w : World) : Prop where
  good : Good m S w H₂
  far : Far F.F0 F.w0 w
  owns : ∀ k, own m H₂ k → F.F0 k ∨ F.w0.heap.size ≤ k
  ro : ∀ g, S g → F.S0 g ∨ F.F0 g ∨ F.w0.heap.size ≤ g
  ro0 : ∀ g, F.S0 g → S g
  pins : ∀ i v, F.pin i = some v → m i = some v
  free : ∀ i, m i ≠ none → i < nx ∨ ∃ r B, (r :: B) <:+ R ∧ E B.length = true ∧ r.n0 ≤ i ∧ i < r.n1
  heap : ∀ id, lkH H₂ id = lay (fH id) (lkH H id) E R
  size : a.tmps.size = C.N
  defers : a.defers = []
  tmps : ∀ s, RelV m S w (a.tmps.getD s undef) (lay (fE s) (lk env s) E R)

def Preds (E : Nat → Bool) (o : Oper) : Prop := ∀ e ∈ o.after, Region.binds .any e = true → E e.on = true

theorem ordered [Tabs] {C : Cx} {ops : Array Oper} {env : Env} {H : Heap} {nx : Nat} {R : List Rec} {E : Nat → Bool} (hH : Hist C ops env H nx R) (hO : ordB ops (R.map sigOf) = true) (hE : Closed ops E) {r r' : Rec} {B B' : List Rec}
    (hr : (r :: B) <:+ R) (hr' : (r' :: B') <:+ B) (hc : clash ops.toList (sigOf r') (sigOf r) = true) (hp : Preds E r.o) : E B'.length = true := by
  have h1 := pairsB_spec (ordR_spec hO r B hr).2 r' B' hr' hc
  have hidx : ops[B.length]? = some r.o := (hH.suffix hr).2.1
  refine masksF_spec hE ops.toList [] (fun k => by simp) (fun j i h => by simp at h) B.length B'.length h1 (fun o ho => ?_)
  rw [hidx] at ho
  cases ho
  exact hp

theorem suffix_same {r r' : Rec} {B B' R : List Rec} (h : (r :: B) <:+ R) (h' : (r' :: B') <:+ R) (hl : B'.length = B.length) : r' = r ∧ B' = B := by
  have := (List.suffix_of_suffix_length_le h' h (by simp [hl])).eq_of_length (by simp [hl])
  cases this
  exact ⟨rfl, rfl⟩

theorem suffix_tail {r : Rec} {B R : List Rec} (h : (r :: B) <:+ R) : B <:+ R := (List.suffix_cons r B).trans h

structure At [Tabs] (C : Cx) (ops : Array Oper) (env : Env) (H : Heap) (nx : Nat) (R : List Rec) (E : Nat → Bool) (r : Rec) (B : List Rec) : Prop where
  hist : Hist C ops env H nx R
  ord : ordB ops (R.map sigOf) = true
  clo : Closed ops E
  here : (r :: B) <:+ R
  not : E B.length = false
  preds : Preds E r.o

section
variable {C : Cx} {ops : Array Oper} {env : Env} {H : Heap} {nx : Nat} {R : List Rec} {E : Nat → Bool} {r : Rec} {B : List Rec}

theorem At.later [Tabs] (h : At C ops env H nx R E r B) {r' : Rec} {B' : List Rec} (h' : (r' :: B') <:+ R) (hl : B.length < B'.length) (hc : clash ops.toList (sigOf r) (sigOf r') = true) : E B'.length = false := by
  cases hb : E B'.length with
  | false => rfl
  | true =>
    have hs : (r :: B) <:+ B' := List.suffix_of_suffix_length_le h.here (suffix_tail h') (by simp; omega)
    have hidx : ops[B'.length]? = some r'.o := (h.hist.suffix h').2.1
    have := ordered h.hist h.ord h.clo h' hs hc (h.clo _ _ hidx hb)
    rw [h.not] at this
    cases this

theorem At.read [Tabs] {X : Type _} (h : At C ops env H nx R E r B) {f : Rec → Option X} {x0 : X} (hf : ∀ r', f r' ≠ none → clash ops.toList (sigOf r) (sigOf r') = true ∧ clash ops.toList (sigOf r') (sigOf r) = true) : lay f x0 E R = lay f x0 (fun _ => true) B := by
  rw [lay_cut (suffix_tail h.here) fun r' B' h' hl hn => ?_]
  · exact lay_congr fun r' B' h' hn => ordered h.hist h.ord h.clo h.here h' (hf r' hn).2 h.preds
  · by_cases e : B'.length = B.length
    · rw [e]; exact h.not
    · exact h.later h' (by omega) (hf r' hn).1

def setE (E : Nat → Bool) (j : Nat) : Nat → Bool := fun i => if i = j then true else E i

theorem At.write [Tabs] {X : Type _} (h : At C ops env H nx R E r B) {f : Rec → Option X} {x0 x : X} (hf : ∀ r', f r' ≠ none → clash ops.toList (sigOf r) (sigOf r') = true) (hx : f r = some x) : lay f x0 (setE E B.length) R = x := by
  rw [lay_cut h.here fun r' B' h' hl hn => ?_, lay_cons]
  · simp [setE, hx]
  · have hl' : B.length < B'.length := by simp at hl; omega
    have : B'.length ≠ B.length := by omega
    simp only [setE, this, if_false]
    exact h.later h' hl' (hf r' hn)

theorem At.same [Tabs] {X : Type _} (h : At C ops env H nx R E r B) {f : Rec → Option X} {x0 : X} (hx : f r = none) : lay f x0 (setE E B.length) R = lay f x0 E R := by
  refine lay_congr fun r' B' h' hn => ?_
  by_cases e : B'.length = B.length
  · obtain ⟨rfl, _⟩ := suffix_same h.here h' e
    exact (hn hx).elim
  · simp [setE, e]

theorem fE_dst {s : Nat} {r : Rec} (h : fE s r ≠ none) : r.o.dst = some s := by
  unfold fE at h
  split at h
  · exact (h rfl).elim
  · split at h
    · rename_i hd e; rw [hd, e]
    · exact (h rfl).elim

theorem clash_read {s : Nat} {r r' : Rec} (hs : s ∈ looksOf ops.toList r.o) (h : r'.o.dst = some s) : clash ops.toList (sigOf r) (sigOf r') = true ∧ clash ops.toList (sigOf r') (sigOf r) = true := by
  have h1 := dstIn_true h hs
  simp [clash, sigOf, h1]

theorem clash_touch {i : Nat} {r r' : Rec} (hs : i ∈ r.touch) (h : fH i r' ≠ none) : clash ops.toList (sigOf r) (sigOf r') = true ∧ clash ops.toList (sigOf r') (sigOf r) = true := by
  have h1 := meets_true (findW_mem h) hs
  simp [clash, sigOf, h1]

theorem clash_wr {i : Nat} {r r' : Rec} (hs : fH i r ≠ none) (h : fH i r' ≠ none) : clash ops.toList (sigOf r) (sigOf r') = true := by
  have h1 := meets_true (findW_mem hs) (findW_mem h)
  simp [clash, sigOf, h1]

theorem clash_dst {s : Nat} {r r' : Rec} (hs : r.o.dst = some s) (h : r'.o.dst = some s) : clash ops.toList (sigOf r) (sigOf r') = true := by
  have : dstSame (some s) (some s) = true := by simp [dstSame]
  simp [clash, sigOf, hs, h, this]

theorem looks_mem {ops : List Oper} {o : Oper} {x : Operand} {s : Nat} (hx : x ∈ o.op.operands.toList) (he : x = .tmp s) : s ∈ looksOf ops o := by
  subst he
  exact List.mem_append_right _ (List.mem_filterMap.2 ⟨.tmp s, hx, rfl⟩)

theorem looks_guard {ops : List Oper} {o oj : Oper} {j t : Nat} {pol : Bool} (hg : o.guard = some (j, pol)) (hj : ops[j]? = some oj) (ht : oj.dst = some t) : t ∈ looksOf ops o := by
  refine List.mem_append_left _ ?_
  simp [hg, hj, ht]

/-- One operation, whenever its turn comes. -/
theorem stepD [Tabs] {F : Fr} {m : Ids} {S : Blocks} {H₂ : Heap} {a : Act} {w : World} {K : Act → World → Prop} {Q : Exit → Act → World → Prop} (h : At C ops env H nx R E r B) (hI : InvD C F env H nx R E m S H₂ a w)
    (hK : ∀ m' S' H' a' w', InvD C F env H nx R (setE E B.length) m' S' H' a' w' → K a' w') :
    (Region.wanted r.o (yielded ops a.tmps) = true ∧ r.o.wp C.P a w K Q) ∨ (Region.wanted r.o (yielded ops a.tmps) = false ∧ K (a.put r.o.dst undef) w) := by
  obtain ⟨hHB, hidx, hdst, hn0, hn01, hsem⟩ := h.hist.suffix h.here
  have slot : ∀ t, t ∈ looksOf ops.toList r.o → RelV m S w (a.tmps.getD t undef) (lk (envR env B) t) := by
    intro t ht
    have := hI.tmps t
    rwa [h.read fun r' hn => clash_read ht (fE_dst hn), ← lk_envR] at this
  have gate : ∀ {j : Nat} {pol : Bool} {oj : Oper} {t : Nat}, r.o.guard = some (j, pol) → ops[j]? = some oj → oj.dst = some t → Region.wanted r.o (yielded ops a.tmps) = (yieldT a.tmps t == some pol) := by
    intro j pol oj t hg hj ht
    have hy : yielded ops a.tmps j = yieldT a.tmps t := by
      unfold yielded yieldT
      rw [hj]
      simp [ht]
      rfl
    simp only [Region.wanted, hg, hy]
  rcases hsem with ⟨hw, hsem⟩ | ⟨hs, hv, hwr, hn⟩
  rotate_left
  · right
    have hwf : Region.wanted r.o (yielded ops a.tmps) = false := by
      obtain ⟨j, pol, oj, t, hg, hj, ht, hl⟩ := hs
      rw [gate hg hj ht]
      have hsl := slot t (looks_guard hg (by simpa using hj) ht)
      rcases hl with hl | hl
      · rw [hl] at hsl
        rw [yieldT_eq (relV_bool hsl)]
        cases pol <;> rfl
      · rw [hl] at hsl
        have : a.tmps.getD t undef = undef := by
          generalize a.tmps.getD t undef = v at hsl
          cases hsl with
          | t _ _ h => cases h; rfl
        rw [yieldT_undef this]
        rfl
    refine ⟨hwf, hK m S H₂ _ w ⟨hI.good, hI.far, hI.owns, hI.ro, hI.ro0, hI.pins, fun i hi => ?_, fun id => ?_, ?_, ?_, fun s => ?_⟩⟩
    · rcases hI.free i hi with h1 | ⟨r', B', h', hE', h1⟩
      · exact .inl h1
      · exact .inr ⟨r', B', h', by simp [setE, hE'], h1⟩
    · rw [h.same (f := fH id) (by simp [fH, hwr, findW])]
      exact hI.heap id
    · cases hd : r.o.dst <;> simp [Act.put, hI.size]
    · cases hd : r.o.dst <;> simp [Act.put, hI.defers]
    · have old := hI.tmps s
      cases hd : r.o.dst with
      | none =>
        rw [h.same (f := fE s) (by simp [fE, hd])]
        exact old
      | some d =>
        have hlt : d < a.tmps.size := by rw [hI.size]; exact hdst d hd
        show RelV m S w ((a.tmps.setIfInBounds d undef).getD s undef) _
        rw [getD_set hlt]
        by_cases e : d = s
        · subst e
          rw [if_pos rfl, h.write (f := fE d) (x := r.v) (fun r' hn => clash_dst hd (fE_dst hn)) (by simp [fE, hd]), hv]
          exact .t _ _ .skip
        · rw [if_neg e, h.same (f := fE s) (by simp [fE, hd, e])]
          exact old
  left
  refine ⟨?_, ?_⟩
  · rcases hw with hg | ⟨j, pol, oj, t, hg, hj, ht, hl⟩
    · simp [Region.wanted, hg]
    · rw [gate hg hj ht]
      have hsl := slot t (looks_guard hg (by simpa using hj) ht)
      rw [hl] at hsl
      rw [yieldT_eq (relV_bool hsl)]
      simp
  refine hsem m S w a H₂ K Q hI.good (fun id hid => ?_) (fun i hi hlt => ?_) (fun u hu _ => ?_) ?_
  · rw [hI.heap id, lkH_heapR]
    exact h.read fun r' hn => clash_touch hid hn
  · obtain ⟨r', rfl, hlt⟩ := hlt
    cases hm : m i with
    | none => rfl
    | some v =>
      rcases hI.free i (by rw [hm]; simp) with h1 | ⟨r', B', h', hE', h1, h2⟩
      · have := hHB.nx_le
        omega
      · have hlt' : i < r.n1 := hlt
        by_cases e : B'.length = B.length
        · rw [e, h.not] at hE'; cases hE'
        · by_cases hl : B'.length < B.length
          · have hs : (r' :: B') <:+ B := List.suffix_of_suffix_length_le h' (suffix_tail h.here) (by simp; omega)
            have := hHB.n1_le hs
            omega
          · have hs : (r :: B) <:+ B' := List.suffix_of_suffix_length_le h.here (suffix_tail h') (by simp; omega)
            obtain ⟨hH', _, _, hn0', _⟩ := h.hist.suffix h'
            have := hH'.n1_le hs
            omega
  · obtain ⟨x, hx, rfl⟩ := List.mem_map.1 hu
    cases x with
    | tmp s =>
      have := hI.tmps s
      rw [h.read fun r' hn => clash_read (looks_mem hx rfl) (fE_dst hn), ← lk_envR] at this
      exact this
    | const v => exact .t _ _ (relT_avOf S w v)
    | global g => exact .t _ _ (.undef _)
    | func f => exact .t _ _ (.fn _ _ _ _ _ rfl rfl (fun j c x hj => by simp at hj) (fun j c x hj => by simp at hj))
  · rintro r' rfl v m' S' w' hX hV
    refine hK m' S' _ _ w' ⟨hX.good, ?_, fun k hk => ?_, fun g hg => ?_, fun g hg => hX.ros g (hI.ro0 g hg), fun i v hi => hX.ids i v (hI.pins i v hi), fun i hi => ?_, fun id => ?_, ?_, ?_, fun s => ?_⟩
    · refine hI.far.trans hX.far fun i hi ho => ?_
      rcases hI.owns i ho with h | h
      · exact h
      · omega
    · rcases hX.owns k hk with h1 | h1
      · exact hI.owns k h1
      · exact .inr (Nat.le_trans hI.far.size h1)
    · rcases hX.fresh g hg with h1 | h1 | h1
      · exact hI.ro g h1
      · exact .inr (hI.owns g h1)
      · exact .inr (.inr (Nat.le_trans hI.far.size h1))
    · by_cases hr : r.n0 ≤ i ∧ i < r.n1
      · exact .inr ⟨r, B, h.here, by simp [setE], hr⟩
      · rw [hX.same i hr] at hi
        rcases hI.free i hi with h1 | ⟨r', B', h', hE', h1⟩
        · exact .inl h1
        · exact .inr ⟨r', B', h', by simp [setE, hE'], h1⟩
    · rw [lkH_append]
      cases hf : findW r.wr id with
      | none =>
        rw [h.same (f := fH id) hf]
        exact hI.heap id
      | some b =>
        rw [h.write (f := fH id) (fun r' hn => clash_wr (by rw [show fH id r = _ from hf]; simp) hn) hf]
        rfl
    · cases hd : r.o.dst <;> simp [Act.put, hI.size]
    · cases hd : r.o.dst <;> simp [Act.put, hI.defers]
    · have old : RelV m' S' w' (a.tmps.getD s undef) (lay (fE s) (lk env s) E R) := hX.relV hI.good (hI.tmps s)
      cases hd : r.o.dst with
      | none =>
        rw [h.same (f := fE s) (by simp [fE, hd])]
        exact old
      | some d =>
        have hlt : d < a.tmps.size := by rw [hI.size]; exact hdst d hd
        show RelV m' S' w' ((a.tmps.setIfInBounds d v).getD s undef) _
        rw [getD_set hlt]
        by_cases e : d = s
        · subst e
          rw [if_pos rfl, h.write (f := fE d) (x := r.v) (fun r' hn => clash_dst hd (fE_dst hn)) (by simp [fE, hd])]
          exact hV
        · rw [if_neg e, h.same (f := fE s) (by simp [fE, hd, e])]
          exact old

end

end Go.Own
