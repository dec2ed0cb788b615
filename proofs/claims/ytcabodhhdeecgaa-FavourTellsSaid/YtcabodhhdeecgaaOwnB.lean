/-
  What one operation does to abstract values and objects: the statement that is owed once a kind of operation, and the laws for worlds that it leans on.
-/
import Derived.Test.YtcabodhhdeecgaaOwnA
namespace Go.Own

/-- What an operation gives: its value, the objects it looked at, the objects it wrote or made, the next free number. -/
structure Res : Type 1 where
  v : AV
  touch : List Nat
  wr : List (Nat × AB)
  nx : Nat

/-- Operands, each with the condition under which it is looked at. -/
abbrev Uses := List (Operand × Bool × AV)

structure Ext [Tabs] (m : Ids) (S : Blocks) (w : World) (H : Heap) (nx nx' : Nat) (m' : Ids) (S' : Blocks) (w' : World) (H' : Heap) : Prop where
  ids : ∀ i v, m i = some v → m' i = some v
  same : ∀ i, ¬ (nx ≤ i ∧ i < nx') → m' i = m i
  ros : ∀ g, S g → S' g
  fresh : ∀ g, S' g → S g ∨ own m H g ∨ w.heap.size ≤ g
  far : Far (own m H) w w'
  owns : ∀ k, own m' H' k → own m H k ∨ w.heap.size ≤ k
  good : Good m' S' w' H'

def OpSem [Tabs] (P : Program) (o : Oper) (us : Uses) (H : Heap) (nx : Nat) (r : Res) : Prop :=
  ∀ (m : Ids) (S : Blocks) (w : World) (a : Act) (H₂ : Heap) (K : Act → World → Prop) (Q : Exit → Act → World → Prop),
    Good m S w H₂ → (∀ id ∈ r.touch, lkH H₂ id = lkH H id) → (∀ i, nx ≤ i → i < r.nx → m i = none) →
    (∀ u ∈ us, u.2.1 = true → RelV m S w (a.eval u.1) u.2.2) →
    (∀ v m' S' w', Ext m S w H₂ nx r.nx m' S' w' (r.wr ++ H₂) → RelV m' S' w' v r.v → K (a.put o.dst v) w') →
    o.wp P a w K Q

theorem lkH_cons (i : Nat) (b : AB) (H : Heap) (j : Nat) : lkH ((i, b) :: H) j = if i = j then b else lkH H j := by
  show (match Nat.beq i j with | true => b | false => lkH H j) = _
  by_cases e : i = j
  · subst e; simp
  · have h : Nat.beq i j = false := by cases h : Nat.beq i j with | false => rfl | true => exact (e (Nat.eq_of_beq_eq_true h)).elim
    rw [h, if_neg e]

theorem lk_cons (i : Nat) (b : AV) (H : Env) (j : Nat) : lk ((i, b) :: H) j = if i = j then b else lk H j := by
  show (match Nat.beq i j with | true => b | false => lk H j) = _
  by_cases e : i = j
  · subst e; simp
  · have h : Nat.beq i j = false := by cases h : Nat.beq i j with | false => rfl | true => exact (e (Nat.eq_of_beq_eq_true h)).elim
    rw [h, if_neg e]

theorem Good.blk_lt [Tabs] {m : Ids} {S : Blocks} {w : World} {H : Heap} (h : Good m S w H) {i : Nat} (hl : (lkH H i).live = true) {v : Value} (hv : m i = some v) {k : Nat} (hk : blk v = some k) : k < w.heap.size :=
  (h.rel i).blk_lt hl hv hk

theorem Good.own_lt [Tabs] {m : Ids} {S : Blocks} {w : World} {H : Heap} (h : Good m S w H) {k : Nat} (hk : own m H k) : k < w.heap.size := by
  obtain ⟨i, v, hl, hv, hb⟩ := hk
  exact h.blk_lt hl hv hb

theorem Ext.refl [Tabs] {m : Ids} {S : Blocks} {w : World} {H : Heap} (h : Good m S w H) (nx : Nat) : Ext m S w H nx nx m S w H :=
  ⟨fun _ _ h => h, fun _ _ => rfl, fun _ h => h, fun _ h => .inl h, Far.refl _ _, fun _ h => .inl h, h⟩

theorem Ext.keep [Tabs] {m m' : Ids} {S S' : Blocks} {w w' : World} {H H' : Heap} {nx nx' : Nat} (h : Good m S w H) (e : Ext m S w H nx nx' m' S' w' H') : ∀ g, S g → w'.heap[g]? = w.heap[g]? :=
  fun g hg => e.far.block g (h.ro g hg).1 (fun ⟨i, v, hl, hv, hb⟩ => (h.ro g hg).2 i v hl hv hb)

theorem Ext.relV [Tabs] {m m' : Ids} {S S' : Blocks} {w w' : World} {H H' : Heap} {nx nx' : Nat} (h : Good m S w H) (e : Ext m S w H nx nx' m' S' w' H') {v : Value} {a : AV} (r : RelV m S w v a) : RelV m' S' w' v a :=
  r.mono e.ids e.ros (e.keep h)

/-- A draw moves no block. -/
theorem Good.drawn [Tabs] {m : Ids} {S : Blocks} {w w' : World} {H : Heap} (h : Good m S w H) (hh : w'.heap = w.heap) : Good m S w' H :=
  ⟨fun id => (h.rel id).mono (fun _ _ h => h) (fun _ h => h) (fun g _ => by rw [hh]) (fun _ _ _ _ _ => by rw [hh]), h.sep, fun g hg => ⟨by rw [hh]; exact (h.ro g hg).1, (h.ro g hg).2⟩, h.tab.mono (fun _ h => h) fun g _ => by rw [hh]⟩

/-- A new object in a new block. -/
theorem ext_new [Tabs] {m : Ids} {S : Blocks} {w : World} {H : Heap} {nx : Nat} (h : Good m S w H) (hn : m nx = none) (v : Value) (b : AB) (w' : World)
    (hos : w'.os = w.os) (htape : w'.tape = w.tape) (hout : w'.output = w.output) (hsize : w.heap.size ≤ w'.heap.size) (hblock : ∀ k, k < w.heap.size → w'.heap[k]? = w.heap[k]?)
    (hv : ∀ k, blk v = some k → w.heap.size ≤ k)
    (hb : RelB (fun i => if i = nx then some v else m i) S w' nx b) :
    Ext m S w H nx (nx + 1) (fun i => if i = nx then some v else m i) S w' ((nx, b) :: H) := by
  have hids : ∀ i u, m i = some u → (fun i => if i = nx then some v else m i) i = some u := by
    intro i u hu
    have : i ≠ nx := by intro e; subst e; rw [hn] at hu; cases hu
    simp [this, hu]
  have hne : ∀ {i u}, m i = some u → i ≠ nx := by intro i u hu e; subst e; rw [hn] at hu; cases hu
  refine ⟨hids, fun i hi => ?_, fun _ h => h, fun _ h => .inl h, ⟨hos, htape, hout, hsize, fun k hk _ => hblock k hk⟩, ?_, ?_⟩
  · have : i ≠ nx := by omega
    simp [this]
  · rintro k ⟨i, u, hl, hu, hk⟩
    by_cases e : i = nx
    · subst e
      simp at hu
      subst hu
      exact .inr (hv k hk)
    · simp only [e, if_false] at hu
      rw [lkH_cons, if_neg (fun h => e h.symm)] at hl
      exact .inl ⟨i, u, hl, hu, hk⟩
  · refine ⟨fun id => ?_, ?_, ?_, h.tab.mono (fun _ h => h) fun g hg => hblock g (h.ro g hg).1⟩
    · rw [lkH_cons]
      split
      · rename_i e; subst e; exact hb
      · exact (h.rel id).mono hids (fun _ h => h) (fun g hg => hblock g (h.ro g hg).1) (fun u k hl hu hk => hblock k ((h.rel id).blk_lt hl hu hk))
    · intro i j vi vj k hli hlj hvi hvj hki hkj
      rw [lkH_cons] at hli hlj
      by_cases ei : i = nx <;> by_cases ej : j = nx
      · rw [ei, ej]
      · subst ei
        rw [if_neg (fun h => ej h.symm)] at hlj
        simp only [if_true] at hvi
        simp only [ej, if_false] at hvj
        cases hvi
        have h1 := hv k hki
        have h2 := h.blk_lt hlj hvj hkj
        omega
      · subst ej
        rw [if_neg (fun h => ei h.symm)] at hli
        simp only [if_true] at hvj
        simp only [ei, if_false] at hvi
        cases hvj
        have h1 := hv k hkj
        have h2 := h.blk_lt hli hvi hki
        omega
      · rw [if_neg (fun h => ei h.symm)] at hli
        rw [if_neg (fun h => ej h.symm)] at hlj
        simp only [ei, if_false] at hvi
        simp only [ej, if_false] at hvj
        exact h.sep i j vi vj k hli hlj hvi hvj hki hkj
    · intro g hg
      have hr := h.ro g hg
      refine ⟨by omega, fun i u hl hu hk => ?_⟩
      by_cases e : i = nx
      · subst e
        simp only [if_true] at hu
        cases hu
        have := hv g hk
        omega
      · rw [lkH_cons, if_neg (fun h => e h.symm)] at hl
        simp only [e, if_false] at hu
        exact hr.2 i u hl hu hk

/-- An object's content is changed in its place. -/
theorem ext_upd [Tabs] {m : Ids} {S : Blocks} {w : World} {H : Heap} {nx id k0 : Nat} {v0 : Value} (h : Good m S w H) (hlive : (lkH H id).live = true) (hm : m id = some v0) (hk0 : blk v0 = some k0) (b : AB) (w' : World)
    (hos : w'.os = w.os) (htape : w'.tape = w.tape) (hout : w'.output = w.output) (hsize : w.heap.size ≤ w'.heap.size) (hblock : ∀ k, k < w.heap.size → k ≠ k0 → w'.heap[k]? = w.heap[k]?)
    (hb : RelB m S w' id b) : Ext m S w H nx nx m S w' ((id, b) :: H) := by
  have hsame : ∀ i vi, m i = some vi → blk vi = some k0 → (lkH H i).live = true → i = id := fun i vi hvi hki hli => h.sep i id vi v0 k0 hli hlive hvi hm hki hk0
  have hlv : ∀ i, (lkH ((id, b) :: H) i).live = true → (lkH H i).live = true := by
    intro i hl
    rw [lkH_cons] at hl
    split at hl
    · rename_i e; subst e; exact hlive
    · exact hl
  refine ⟨fun _ _ h => h, fun _ _ => rfl, fun _ h => h, fun _ h => .inl h, ⟨hos, htape, hout, hsize, fun k hk hn => hblock k hk (fun e => hn ⟨id, v0, hlive, hm, by rw [e]; exact hk0⟩)⟩, ?_, ?_⟩
  · rintro k ⟨i, u, hl, hu, hk⟩
    exact .inl ⟨i, u, hlv i hl, hu, hk⟩
  · refine ⟨fun i => ?_, fun i j vi vj k hli hlj => h.sep i j vi vj k (hlv i hli) (hlv j hlj), fun g hg => ⟨Nat.lt_of_lt_of_le (h.ro g hg).1 hsize, fun i u hl => (h.ro g hg).2 i u (hlv i hl)⟩, h.tab.mono (fun _ h => h) fun g hg => hblock g (h.ro g hg).1 (fun e' => (h.ro g hg).2 id v0 hlive hm (by rw [e']; exact hk0))⟩
    rw [lkH_cons]
    split
    · rename_i e; subst e; exact hb
    · rename_i e
      refine (h.rel i).mono (fun _ _ h => h) (fun _ h => h) (fun g hg => hblock g (h.ro g hg).1 (fun e' => (h.ro g hg).2 id v0 hlive hm (by rw [e']; exact hk0))) (fun u k hl hu hk => ?_)
      refine hblock k ((h.rel i).blk_lt hl hu hk) (fun e' => e ?_)
      subst e'
      exact (hsame i u hu hk hl).symm

/-- An object is consumed; a new one comes in its place, in its block or in a new one. -/
theorem ext_move [Tabs] {m : Ids} {S : Blocks} {w : World} {H : Heap} {nx id : Nat} {v0 : Value} (h : Good m S w H) (hlive : (lkH H id).live = true) (hm : m id = some v0) (hn : m nx = none) (v : Value) (b : AB) (w' : World)
    (hos : w'.os = w.os) (htape : w'.tape = w.tape) (hout : w'.output = w.output) (hsize : w.heap.size ≤ w'.heap.size) (hblock : ∀ k, k < w.heap.size → blk v0 ≠ some k → w'.heap[k]? = w.heap[k]?)
    (hv : ∀ k, blk v = some k → blk v0 = some k ∨ w.heap.size ≤ k)
    (hb : RelB (fun i => if i = nx then some v else m i) S w' nx b) :
    Ext m S w H nx (nx + 1) (fun i => if i = nx then some v else m i) S w' ((nx, b) :: (id, .dead) :: H) := by
  have hids : ∀ i u, m i = some u → (fun i => if i = nx then some v else m i) i = some u := by
    intro i u hu
    have : i ≠ nx := by intro e; subst e; rw [hn] at hu; cases hu
    simp [this, hu]
  have hidnx : id ≠ nx := by intro e; subst e; rw [hn] at hm; cases hm
  have hlv : ∀ i, i ≠ nx → (lkH ((nx, b) :: (id, .dead) :: H) i).live = true → i ≠ id ∧ (lkH H i).live = true := by
    intro i e hl
    rw [lkH_cons, if_neg (fun h => e h.symm), lkH_cons] at hl
    split at hl
    · simp [AB.live] at hl
    · rename_i e'; exact ⟨fun h => e' h.symm, hl⟩
  refine ⟨hids, fun i hi => ?_, fun _ h => h, fun _ h => .inl h, ⟨hos, htape, hout, hsize, fun k hk hno => hblock k hk (fun e => hno ⟨id, v0, hlive, hm, e⟩)⟩, ?_, ?_⟩
  · have : i ≠ nx := by omega
    simp [this]
  · rintro k ⟨i, u, hl, hu, hk⟩
    by_cases e : i = nx
    · subst e
      simp at hu
      subst hu
      rcases hv k hk with h1 | h1
      · exact .inl ⟨id, v0, hlive, hm, h1⟩
      · exact .inr h1
    · simp only [e, if_false] at hu
      exact .inl ⟨i, u, (hlv i e hl).2, hu, hk⟩
  · refine ⟨fun i => ?_, ?_, ?_, h.tab.mono (fun _ h => h) fun g hg => hblock g (h.ro g hg).1 ((h.ro g hg).2 id v0 hlive hm)⟩
    · rw [lkH_cons]
      split
      · rename_i e; subst e; exact hb
      · rename_i e
        rw [lkH_cons]
        split
        · trivial
        · rename_i e'
          refine (h.rel i).mono hids (fun _ h => h) (fun g hg => hblock g (h.ro g hg).1 (fun e'' => (h.ro g hg).2 id v0 hlive hm e'')) (fun u k hl hu hk => hblock k ((h.rel i).blk_lt hl hu hk) (fun e'' => e' ?_))
          exact (h.sep i id u v0 k hl hlive hu hm hk e'').symm
    · intro i j vi vj k hli hlj hvi hvj hki hkj
      have cross : ∀ {i : Nat} {vi : Value}, i ≠ nx → (lkH ((nx, b) :: (id, .dead) :: H) i).live = true → m i = some vi → blk vi = some k → blk v = some k → False := by
        intro i vi e hl hvi hki hk
        have h2 := hlv i e hl
        rcases hv k hk with h1 | h1
        · exact h2.1 (h.sep i id vi v0 k h2.2 hlive hvi hm hki h1)
        · have := h.blk_lt h2.2 hvi hki
          omega
      by_cases ei : i = nx <;> by_cases ej : j = nx
      · rw [ei, ej]
      · subst ei
        simp only [if_true] at hvi
        simp only [ej, if_false] at hvj
        cases hvi
        exact (cross ej hlj hvj hkj hki).elim
      · subst ej
        simp only [if_true] at hvj
        simp only [ei, if_false] at hvi
        cases hvj
        exact (cross ei hli hvi hki hkj).elim
      · simp only [ei, if_false] at hvi
        simp only [ej, if_false] at hvj
        exact h.sep i j vi vj k (hlv i ei hli).2 (hlv j ej hlj).2 hvi hvj hki hkj
    · intro g hg
      have hr := h.ro g hg
      refine ⟨by omega, fun i u hl hu hk => ?_⟩
      by_cases e : i = nx
      · subst e
        simp only [if_true] at hu
        cases hu
        rcases hv g hk with h1 | h1
        · exact hr.2 id v0 hlive hm h1
        · omega
      · simp only [e, if_false] at hu
        exact hr.2 i u (hlv i e hl).2 hu hk

/-- The world w' has all that w has. -/
def Grows (w w' : World) : Prop := w.heap.size ≤ w'.heap.size ∧ ∀ k, k < w.heap.size → w'.heap[k]? = w.heap[k]?

theorem Grows.cell {w w' : World} (h : Grows w w') {a : Addr} {v : Value} (hc : w.cell? a = some v) : w'.cell? a = some v := by
  rw [World.cell?_of_block (w := w) (h.2 a.block (block_lt_of_cell hc))]
  exact hc

theorem Grows.obj {w w' : World} (h : Grows w w') {k : Nat} {o : Obj} (hc : w.heap[k]? = some o) : w'.heap[k]? = some o := by
  rw [h.2 k (Array.getElem?_eq_some_iff.1 hc).1]
  exact hc

/-- An operation that only looks: it gives one value, in whatever world has what this one has, and leaves that world as it is. -/
def OpSemP [Tabs] (P : Program) (o : Oper) (us : Uses) (H : Heap) (nx : Nat) (r : Res) : Prop :=
  (r.wr = [] ∧ r.nx = nx) ∧ ∀ (m : Ids) (S : Blocks) (w : World) (a : Act) (H₂ : Heap), Good m S w H₂ → (∀ id ∈ r.touch, lkH H₂ id = lkH H id) → (∀ u ∈ us, u.2.1 = true → RelV m S w (a.eval u.1) u.2.2) →
    ∃ u, (∀ w', Grows w w' → (execOp a.eval o).run P w' = .ok (.value u) w') ∧ RelV m S w u r.v

theorem opsem_pure [Tabs] {P : Program} {o : Oper} {us : Uses} {H : Heap} {nx : Nat} {v : AV} {touch : List Nat}
    (h : ∀ (m : Ids) (S : Blocks) (w : World) (a : Act) (H₂ : Heap), Good m S w H₂ → (∀ id ∈ touch, lkH H₂ id = lkH H id) → (∀ u ∈ us, u.2.1 = true → RelV m S w (a.eval u.1) u.2.2) →
      ∃ u, (∀ w', Grows w w' → (execOp a.eval o).run P w' = .ok (.value u) w') ∧ RelV m S w u v) : OpSemP P o us H nx ⟨v, touch, [], nx⟩ := ⟨⟨rfl, rfl⟩, h⟩

theorem OpSemP.sem [Tabs] {P : Program} {o : Oper} {us : Uses} {H : Heap} {nx : Nat} {r : Res} (h : OpSemP P o us H nx r) : OpSem P o us H nx r := by
  intro m S w a H₂ K Q hG ht _ hu hK
  obtain ⟨⟨h1, h2⟩, h⟩ := h
  obtain ⟨u, hr, hv⟩ := h m S w a H₂ hG ht hu
  unfold Oper.wp
  rw [hr w ⟨Nat.le_refl _, fun _ _ => rfl⟩]
  refine hK u m S w ?_ hv
  rw [h1, h2]
  exact Ext.refl hG nx

end Go.Own
