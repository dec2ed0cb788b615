/-
  Stores, new variables, fields, indexes, lengths, over abstract values.
-/
import Derived.Test.YtcabodhhdeecgaaOwnC
namespace Go.Own

theorem setCells_block : ∀ (vs : List Value) (o : Nat) (w : World) (g : Nat) (cs : Array Value) (e : TypeId) (fr : Nat × Nat), w.heap[g]? = some (.cells cs e fr) →
    ∃ cs', (w.setCells g o vs).heap[g]? = some (.cells cs' e fr) ∧ cs'.size = cs.size ∧ ∀ j, j < cs.size → cs'[j]? = if o ≤ j ∧ j < o + vs.length then vs[j - o]? else cs[j]?
  | [], o, w, g, cs, e, fr, h => ⟨cs, h, rfl, fun j _ => by rw [if_neg (by simp)]⟩
  | v :: vs, o, w, g, cs, e, fr, h => by
    have h1 : (w.setCell ⟨g, o, none⟩ v).heap[g]? = some (.cells (cs.setIfInBounds o v) e fr) := by
      simp [World.setCell, Array.getElem?_modify, h]
    obtain ⟨cs', h2, h3, h4⟩ := setCells_block vs (o + 1) _ g _ e fr h1
    refine ⟨cs', h2, by simpa using h3, fun j hj => ?_⟩
    rw [h4 j (by simpa using hj)]
    by_cases hj1 : o + 1 ≤ j ∧ j < o + 1 + vs.length
    · rw [if_pos hj1, if_pos (by simp; omega)]
      obtain ⟨q, hq⟩ : ∃ q, j - o = q + 1 := ⟨j - o - 1, by omega⟩
      rw [hq, List.getElem?_cons_succ]
      congr 1
      omega
    · rw [if_neg hj1]
      by_cases hjo : j = o
      · subst hjo
        rw [if_pos (by simp)]
        simp [hj]
      · rw [if_neg (by simp; omega), Array.getElem?_setIfInBounds_ne (by omega)]

theorem setCells_other : ∀ (vs : List Value) (o : Nat) (w : World) (g k : Nat), k ≠ g → (w.setCells g o vs).heap[k]? = w.heap[k]?
  | [], _, _, _, _, _ => rfl
  | v :: vs, o, w, g, k, h => by
    rw [World.setCells, setCells_other vs (o + 1) _ g k h]
    exact RowKit.Below.heap_setCell w ⟨g, o, none⟩ v k h

theorem setCells_rest : ∀ (vs : List Value) (o : Nat) (w : World) (g : Nat), (w.setCells g o vs).os = w.os ∧ (w.setCells g o vs).tape = w.tape ∧ (w.setCells g o vs).output = w.output ∧ (w.setCells g o vs).heap.size = w.heap.size
  | [], _, _, _ => ⟨rfl, rfl, rfl, rfl⟩
  | v :: vs, o, w, g => by
    obtain ⟨h1, h2, h3, h4⟩ := setCells_rest vs (o + 1) (w.setCell ⟨g, o, none⟩ v) g
    exact ⟨h1, h2, h3, by rw [World.setCells, h4]; simp [World.setCell]⟩

theorem flat_set {E : Nat} : ∀ (l : List AV), (∀ x ∈ l, x.cells.length = E) → ∀ (i : Nat) (y : AV), i < l.length → y.cells.length = E → ∀ q, (flat (l.set i y))[q]? = if i * E ≤ q ∧ q < i * E + E then y.cells[q - i * E]? else (flat l)[q]?
  | [], _, i, y, h, _, q => by simp at h
  | z :: l, hE, 0, y, h, hy, q => by
    have h0 : z.cells.length = E := hE z (by simp)
    simp only [List.set_cons_zero, flat, List.flatMap_cons, Nat.zero_mul, Nat.zero_le, true_and, Nat.zero_add, Nat.sub_zero]
    by_cases hq : q < E
    · rw [if_pos hq, List.getElem?_append_left (by omega)]
    · rw [if_neg hq, List.getElem?_append_right (by omega), List.getElem?_append_right (by omega), hy, h0]
  | z :: l, hE, i + 1, y, h, hy, q => by
    have h0 : z.cells.length = E := hE z (by simp)
    have ih := flat_set l (fun x hx => hE x (by simp [hx])) i y (by simpa using h) hy (q - E)
    simp only [List.set_cons_succ, flat, List.flatMap_cons] at ih ⊢
    have e1 : (i + 1) * E = i * E + E := Nat.succ_mul i E
    by_cases hq : q < E
    · rw [List.getElem?_append_left (by omega), if_neg (by omega), List.getElem?_append_left (by omega)]
    · rw [List.getElem?_append_right (by omega), List.getElem?_append_right (by omega), h0, ih]
      by_cases hq2 : i * E ≤ q - E ∧ q - E < i * E + E
      · rw [if_pos hq2, if_pos (by omega)]; congr 1; omega
      · rw [if_neg hq2, if_neg (by omega)]

/-- An AV is a tree: it names no object of the call's own. -/
def AV.tree1 : AV → Bool
  | .ptr .. | .eptr .. | .own .. | .pre .. | .part .. | .map .. | .agg _ | .tup _ | .qptr .. => false
  | .fn _ [] [] => true
  | .fn .. => false
  | _ => true

def AV.tree : AV → Bool
  | .agg l => l.all AV.tree1
  | v => v.tree1

theorem AV.tree_cells {y a : AV} (h : y.tree = true) (ha : a ∈ y.cells) : a.tree1 = true := by
  cases y with
  | agg l => simp only [AV.tree, List.all_eq_true] at h; exact h a ha
  | _ => simp only [AV.cells, List.mem_singleton] at ha; subst ha; exact h

theorem RelV.toT1 {m : Ids} {S : Blocks} {w : World} {v : Value} {a : AV} (h : RelV m S w v a) (ht : a.tree1 = true) : RelT S w v a := by
  cases h with
  | t _ _ h => exact h
  | fn f fs cs lf lc h1 h2 r1 r2 =>
    match lf, lc, h1, h2, ht with
    | [], [], h1, h2, _ => exact .fn f fs cs [] [] h1 h2 (fun j c a hj ha => by simp at ha) (fun j c a hj ha => by simp at ha)
    | _ :: _, _, _, _, ht => simp [AV.tree1] at ht
    | [], _ :: _, _, _, ht => simp [AV.tree1] at ht
  | _ => simp [AV.tree1] at ht

theorem RelV.toT {m : Ids} {S : Blocks} {w : World} {v : Value} {a : AV} (h : RelV m S w v a) (ht : a.tree = true) : RelT S w v a := by
  cases h with
  | t _ _ h => exact h
  | agg cs l hl h => exact .agg cs l hl fun j c a hj ha => (h j c a hj ha).toT1 (by
      simp only [AV.tree, List.all_eq_true] at ht
      exact ht a (List.mem_of_getElem? ha))
  | fn f fs cs lf lc h1 h2 r1 r2 => exact RelV.toT1 (.fn f fs cs lf lc h1 h2 r1 r2) ht
  | _ => simp [AV.tree, AV.tree1] at ht

/-- The cells of a value: what they stand for. -/
theorem RelV.cells {m : Ids} {S : Blocks} {w : World} {v : Value} {a : AV} (h : RelV m S w v a) (h1 : ∀ x ∈ a.cells, x.one = true) :
    v.cells.size = a.cells.length ∧ (∀ (j : Nat) (c : Value) (x : AV), v.cells[j]? = some c → a.cells[j]? = some x → RelV m S w c x) ∧ (∀ c ∈ v.cells.toList, c.oneCell' = true) := by
  have key : ∀ (cs : Array Value) (l : List AV), cs.size = l.length → (∀ x ∈ l, x.one = true) → (∀ (j : Nat) (c : Value) (a : AV), cs[j]? = some c → l[j]? = some a → RelV m S w c a) → ∀ c ∈ cs.toList, c.oneCell' = true := by
    intro cs l hl h1 h c hc
    obtain ⟨j, hj, rfl⟩ := List.getElem_of_mem hc
    have hj' : j < l.length := by simpa [hl] using hj
    exact (h j _ l[j] (by simp at hj; simp [hj]) (by simp [hj'])).oneCell (h1 _ (List.getElem_mem hj'))
  have single : ∀ {v : Value} {a : AV}, RelV m S w v a → a.cells = [a] → v.cells = #[v] → (∀ x ∈ a.cells, x.one = true) →
      v.cells.size = a.cells.length ∧ (∀ (j : Nat) (c : Value) (x : AV), v.cells[j]? = some c → a.cells[j]? = some x → RelV m S w c x) ∧ (∀ c ∈ v.cells.toList, c.oneCell' = true) := by
    intro v a h ha hv h1
    rw [ha] at h1
    rw [ha, hv]
    refine ⟨rfl, fun j c x hj hx => ?_, fun c hc => ?_⟩
    · cases j with
      | zero => simp at hj hx; subst hj; subst hx; exact h
      | succ j => simp at hx
    · simp at hc
      subst hc
      exact h.oneCell (h1 a (by simp))
  cases a with
  | agg l =>
    cases h with
    | t _ _ h => cases h with
      | agg cs l hl h => exact ⟨hl, fun j c x hj hx => .t _ _ (h j c x hj hx), key cs l hl h1 fun j c x hj hx => .t _ _ (h j c x hj hx)⟩
    | agg cs l hl h => exact ⟨hl, h, key cs l hl h1 h⟩
  | _ =>
    have hone := h.oneCell (h1 _ (by simp [AV.cells]))
    refine single h rfl ?_ h1
    cases v <;> first | rfl | (simp [Value.oneCell'] at hone)

/-- The continuation gets the cells of a value. -/
def withCells (a : AV) (k : List AV → Prop) : Prop :=
  match a with
  | .agg l => k l
  | v => k [v]

theorem withCells_iff {a : AV} {k : List AV → Prop} : withCells a k ↔ k a.cells := by cases a <;> rfl

def allOne : List AV → Bool
  | [] => true
  | a :: l => match a.one with
    | true => allOne l
    | false => false

theorem allOne_spec : ∀ {l : List AV}, allOne l = true → ∀ a ∈ l, a.one = true
  | [], _, a, h => by simp at h
  | b :: l, h, a, ha => by
    unfold allOne at h
    split at h
    · rename_i hb
      rcases List.mem_cons.1 ha with rfl | ha
      · exact hb
      · exact allOne_spec h a ha
    · cases h

def updF (f : Nat → Int) (i : Nat) (x : Int) : Nat → Int := fun j => if j = i then x else f j

/-- A store. -/
def evStore (T : Tab) (H : Heap) (nx : Nat) (t : TypeId) (p v : AV) (k : Res → Prop) : Prop :=
  match lkT T t with
  | none => False
  | some i => match p with
    | .ptr id off => match lkH H id with
      | .cells e l => withCells v fun xs =>
        match Nat.beq xs.length i.size && allOne xs && Nat.ble (off + i.size) l.length with
        | true => k ⟨.undef, [id], [(id, .cells e (putL off xs l))], nx⟩
        | false => False
      | .arr e k' n f => match v with
        | .int kv x => match Nat.beq (kidx kv) (kidx k') && Nat.beq i.size 1 with
          | true => off < n ∧ k ⟨.undef, [id], [(id, .arr e k' n (updF f off x))], nx⟩
          | false => False
        | .iarr kv n' f' => match Nat.beq (kidx kv) (kidx k') && Nat.beq off 0 && Nat.beq n' n && Nat.beq i.size n with
          | true => k ⟨.undef, [id], [(id, .arr e k' n f')], nx⟩
          | false => False
        | _ => False
      | _ => False
    | .eptr id E i' 0 => match lkH H id with
      | .row e E' enc d xs => ∃ y, enc y = v ∧ i' < xs.length ∧ (E = E' ∧ i.size = E ∧ v.tree = true ∧ v.cells.length = E ∧ allOne v.cells = true) ∧ k ⟨.undef, [id], [(id, .row e E' enc d (xs.set i' y))], nx⟩
      | .lst e E' l => i' < l.length ∧ (E = E' ∧ i.size = E ∧ v.tree = true ∧ v.cells.length = E ∧ allOne v.cells = true) ∧ k ⟨.undef, [id], [(id, .lst e E' (l.set i' v))], nx⟩
      | _ => False
    | .eptr id E i' off => match lkH H id with
      | .row e E' enc d xs => ∃ y, (enc y).cells = putL off v.cells (enc (xs.getD i' d)).cells ∧ i' < xs.length ∧ (E = E' ∧ i.size = v.cells.length ∧ off + v.cells.length ≤ E ∧ v.tree = true ∧ allOne v.cells = true) ∧ k ⟨.undef, [id], [(id, .row e E' enc d (xs.set i' y))], nx⟩
      | _ => False
    | _ => False

theorem run_storeVar_cells {P : Program} (w : World) (b o : Nat) (ty : TypeId) (v : Value) (ht : w.there b o v.cells.size) (hi : (P.info? ty).map (·.size) = some v.cells.size) (h1 : ∀ c ∈ v.cells.toList, c.oneCell' = true) :
    (storeVar ty ⟨b, o, none⟩ v).run P w = .ok () (w.setCells b o v.cells.toList) := by
  have := run_storeCells_cells (P := P) b o v.cells.toList 0 w (fun j hj => by simpa using (ht j (by simpa using hj)).1) (fun j hj => by simpa using (ht j (by simpa using hj)).2) h1
  cases hq : P.info? ty with
  | none => simp [hq] at hi
  | some i =>
    have hs : v.cells.size = i.size := by simp [hq] at hi; omega
    simp only [Nat.add_zero] at this
    simp [storeVar, sizeOf, typeInfo, hq, hs, this]

/-- A row after one of its elements was written. -/
theorem RowRel.store {m : Ids} {S : Blocks} {w w' : World} {e E : Nat} {l : List AV} {g n cap : Nat} {vs : List Value} (h : RowRel S w e E l (.slice (some ⟨g, 0, none⟩) n cap) vs) {i : Nat} (hi : i < l.length) {y : AV} {v : Value}
    (hy : RelV m S w v y) (ht : y.tree = true) (hE : y.cells.length = E) (h1 : ∀ a ∈ y.cells, a.one = true) (hw' : w' = w.setCells g (i * E) v.cells.toList) (hS : ¬ S g) :
    ∃ vs', RowRel S w' e E (l.set i y) (.slice (some ⟨g, 0, none⟩) n cap) vs' := by
  obtain ⟨hlen, hown⟩ := h.owns
  rcases hown with ⟨h0, _⟩ | ⟨g', cap', cur, hv, hg0, hh, hnc, hcm, hcs, htake⟩
  · cases h0
  cases hv
  obtain ⟨cur', hh', hsz, hget⟩ := setCells_block v.cells.toList (i * E) w g cur e (0, 0) hh
  rw [← hw'] at hh'
  obtain ⟨c1, c2, c3⟩ := hy.cells h1
  have hvE : v.cells.toList.length = E := by simp [c1, hE]
  have hle : i * E + E ≤ l.length * E := by
    have : (i + 1) * E ≤ l.length * E := Nat.mul_le_mul_right _ hi
    rw [Nat.add_mul] at this
    omega
  have hcapE : l.length * E ≤ cap * E := Nat.mul_le_mul_right _ hnc
  have hkeep : ∀ k, S k → w'.heap[k]? = w.heap[k]? := fun k hk => by rw [hw']; exact setCells_other _ _ _ _ _ (fun e => hS (e ▸ hk))
  refine ⟨cur'.toList.take (l.length * E), ⟨⟨by rw [List.length_take]; simp; omega, .inr ⟨g, cap, cur', by simp, hg0, hh', by simpa using hnc, hcm, by omega, by simp⟩⟩, ?_, ?_, ?_⟩⟩
  · intro x hx
    rcases List.mem_or_eq_of_mem_set hx with hx | rfl
    · exact h.size x hx
    · exact hE
  · intro a ha
    obtain ⟨q, hq⟩ := List.getElem?_of_mem ha
    rw [flat_set l h.size i y hi hE q] at hq
    split at hq
    · exact h1 a (List.mem_of_getElem? hq)
    · exact h.ones a (List.mem_of_getElem? hq)
  · intro j c a hj ha
    rw [List.getElem?_take] at hj
    split at hj
    · rename_i hlt
      rw [flat_set l h.size i y hi hE j] at ha
      rw [Array.getElem?_toList, hget j (by omega), hvE] at hj
      by_cases hq : i * E ≤ j ∧ j < i * E + E
      · rw [if_pos hq] at hj ha
        have : RelV m S w c a := c2 (j - i * E) c a (by simpa using hj) ha
        have htr : a.tree1 = true := AV.tree_cells ht (List.mem_of_getElem? ha)
        exact (this.toT1 htr).mono (fun _ h => h) hkeep
      · rw [if_neg hq] at hj ha
        refine (h.rel j c a ?_ ha).mono (fun _ h => h) hkeep
        rw [← htake, List.getElem?_take, if_pos hlt]
        simpa using hj
    · cases hj

/-- A row after a part of one of its elements was written. -/
theorem RowRel.storePart {m : Ids} {S : Blocks} {w w' : World} {e E : Nat} {l : List AV} {g n cap : Nat} {vs : List Value} (h : RowRel S w e E l (.slice (some ⟨g, 0, none⟩) n cap) vs) {i : Nat} (hi : i < l.length) {off : Nat} {y z : AV} {v : Value}
    (hy : RelV m S w v y) (ht : y.tree = true) (hoff : off + y.cells.length ≤ E) (hz : z.cells = putL off y.cells l[i].cells) (h1 : ∀ a ∈ y.cells, a.one = true) (hw' : w' = w.setCells g (i * E + off) v.cells.toList) (hS : ¬ S g) :
    ∃ vs', RowRel S w' e E (l.set i z) (.slice (some ⟨g, 0, none⟩) n cap) vs' := by
  obtain ⟨hlen, hown⟩ := h.owns
  rcases hown with ⟨h0, _⟩ | ⟨g', cap', cur, hv, hg0, hh, hnc, hcm, hcs, htake⟩
  · cases h0
  cases hv
  obtain ⟨cur', hh', hsz, hget⟩ := setCells_block v.cells.toList (i * E + off) w g cur e (0, 0) hh
  rw [← hw'] at hh'
  obtain ⟨c1, c2, c3⟩ := hy.cells h1
  have hiE : l[i].cells.length = E := h.size _ (List.getElem_mem hi)
  have hzE : z.cells.length = E := by rw [hz, putL_length, hiE]
  have hvE : v.cells.toList.length = y.cells.length := by simp [c1]
  have hle : i * E + E ≤ l.length * E := by
    have : (i + 1) * E ≤ l.length * E := Nat.mul_le_mul_right _ hi
    rw [Nat.add_mul] at this
    omega
  have hcapE : l.length * E ≤ cap * E := Nat.mul_le_mul_right _ hnc
  have hkeep : ∀ k, S k → w'.heap[k]? = w.heap[k]? := fun k hk => by rw [hw']; exact setCells_other _ _ _ _ _ (fun e => hS (e ▸ hk))
  have hflat : ∀ q, (flat (l.set i z))[q]? = if i * E + off ≤ q ∧ q < i * E + off + y.cells.length then y.cells[q - (i * E + off)]? else (flat l)[q]? := by
    intro q
    have hself := flat_set l h.size i l[i] hi hiE q
    rw [List.set_getElem_self] at hself
    rw [flat_set l h.size i z hi hzE q]
    by_cases hq : i * E ≤ q ∧ q < i * E + E
    · rw [if_pos hq] at hself ⊢
      rw [hz, putL_get _ _ _ _ (by rw [hiE]; exact hoff), hself]
      by_cases hq2 : off ≤ q - i * E ∧ q - i * E < off + y.cells.length
      · rw [if_pos hq2, if_pos (by omega), show q - (i * E + off) = q - i * E - off by omega]
      · rw [if_neg hq2, if_neg (by omega)]
    · rw [if_neg hq, if_neg (by omega)]
  refine ⟨cur'.toList.take (l.length * E), ⟨⟨by rw [List.length_take]; simp; omega, .inr ⟨g, cap, cur', by simp, hg0, hh', by simpa using hnc, hcm, by omega, by simp⟩⟩, ?_, ?_, ?_⟩⟩
  · intro x hx
    rcases List.mem_or_eq_of_mem_set hx with hx | rfl
    · exact h.size x hx
    · exact hzE
  · intro a ha
    obtain ⟨q, hq⟩ := List.getElem?_of_mem ha
    rw [hflat q] at hq
    split at hq
    · exact h1 a (List.mem_of_getElem? hq)
    · exact h.ones a (List.mem_of_getElem? hq)
  · intro j c a hj ha
    rw [List.getElem?_take] at hj
    split at hj
    · rename_i hlt
      rw [hflat j] at ha
      rw [Array.getElem?_toList, hget j (by omega), hvE] at hj
      by_cases hq : i * E + off ≤ j ∧ j < i * E + off + y.cells.length
      · rw [if_pos hq] at hj ha
        have : RelV m S w c a := c2 (j - (i * E + off)) c a (by simpa using hj) ha
        have htr : a.tree1 = true := AV.tree_cells ht (List.mem_of_getElem? ha)
        exact (this.toT1 htr).mono (fun _ h => h) hkeep
      · rw [if_neg hq] at hj ha
        refine (h.rel j c a ?_ ha).mono (fun _ h => h) hkeep
        rw [← htake, List.getElem?_take, if_pos hlt]
        simpa using hj
    · cases hj

/-- A store into an array of integers. -/
theorem sem_store_arr [Tabs] {P : Program} {rd : Operand → AV} {H : Heap} {nx : Nat} {t : TypeId} {x y : Operand} {o : Oper} (ho : o.op = .store t x y) {id off : Nat} (hp : rd x = .ptr id off) {e : TypeId} {k' : IntKind} {n : Nat} {f f' : Nat → Int} (hid : lkH H id = .arr e k' n f)
    {sz : Nat} {j0 : TypeInfo} (hj : P.info? t = some j0) (hsz : j0.size = sz) (hle : off + sz ≤ n)
    (hy : ∀ (m : Ids) (S : Blocks) (w : World) (v : Value), RelV m S w v (rd y) → v.cells.size = sz ∧ (∀ (j : Nat) (c : Value), v.cells[j]? = some c → c = .int k' (f' (off + j))))
    (hf : ∀ j, j < n → ¬ (off ≤ j ∧ j < off + sz) → f' j = f j) :
    OpSem P o [(x, true, rd x), (y, true, rd y)] H nx ⟨.undef, [id], [(id, .arr e k' n f')], nx⟩ := by
  intro m S w a H₂ K Q hG ht _ hus hK
  have hx : RelV m S w (a.eval x) (rd x) := hus (x, true, rd x) (by simp) rfl
  have hyv : RelV m S w (a.eval y) (rd y) := hus (y, true, rd y) (by simp) rfl
  rw [hp] at hx
  have hid2 := ht id (by simp)
  have hb := hG.rel id
  rw [hid2, hid] at hb
  obtain ⟨g, cs, hmi, hg, hl, hrel⟩ := hb
  cases hv : a.eval x with
  | pointer pa =>
    rw [hv] at hx
    cases hx with
    | t _ _ h => cases h
    | ptr id off g' hm =>
      rw [hmi] at hm
      cases hm
      obtain ⟨c1, c2⟩ := hy m S w _ hyv
      have hthere : w.there g off (a.eval y).cells.size := fun j hj => by
        have hlt : off + j < cs.size := by omega
        refine ⟨by rw [cell_of_row w g (off + j) cs e (0, 0) hg]; simp [hlt], frozen_of_row w g (off + j) cs e hg⟩
      have hrun := run_storeVar_cells (P := P) w g off t (a.eval y) hthere (by rw [hj]; simp [hsz, c1]) (fun c hc => by
        obtain ⟨j, hj⟩ := List.getElem?_of_mem hc
        rw [c2 j c (by simpa using hj)]
        rfl)
      unfold Oper.wp execOp
      simp only [ho, hv, Instr.storeAt, Instr.sureAddr, Sem.run_bind, Sem.run_pure, Result.andThen_ok, hrun]
      show K (a.put o.dst Go.undef) _
      obtain ⟨cs', hg', hsz', hget⟩ := setCells_block (a.eval y).cells.toList off w g cs e (0, 0) hg
      obtain ⟨r1, r2, r3, r4⟩ := setCells_rest (a.eval y).cells.toList off w g
      have hlive : (lkH H₂ id).live = true := by rw [hid2, hid]; rfl
      refine hK Go.undef m S _ (ext_upd hG hlive hmi rfl _ _ r1 r2 r3 (by rw [r4]; exact Nat.le_refl _) (fun k _ hne => setCells_other _ _ _ _ _ hne) ?_) (.t _ _ (.undef _))
      refine ⟨g, cs', hmi, hg', by rw [hsz', hl], fun j c hj => ?_⟩
      have hjlt : j < cs.size := by
        have := (Array.getElem?_eq_some_iff.1 hj).1
        omega
      rw [hget j hjlt] at hj
      have hvl : (a.eval y).cells.toList.length = sz := by simp [c1]
      rw [hvl] at hj
      by_cases hq : off ≤ j ∧ j < off + sz
      · rw [if_pos hq] at hj
        have := c2 (j - off) c (by simpa using hj)
        rwa [show off + (j - off) = j by omega] at this
      · rw [if_neg hq] at hj
        rw [hf j (by omega) hq]
        exact hrel j c hj
  | _ => rw [hv] at hx; cases hx with
    | t _ _ h => cases h

theorem evStore_sound [Tabs] {P : Program} {T : Tab} (hT : TabOk P T) {rd : Operand → AV} {H : Heap} {nx : Nat} {t : TypeId} {x y : Operand} {o : Oper} (ho : o.op = .store t x y) {k : Res → Prop}
    (h : evStore T H nx t (rd x) (rd y) k) : ∃ r, OpSem P o [(x, true, rd x), (y, true, rd y)] H nx r ∧ nx ≤ r.nx ∧ k r := by
  unfold evStore at h
  split at h
  · exact h.elim
  rename_i i hi
  obtain ⟨hu, ji, hj, hs, _, _⟩ := hT t i hi
  split at h
  · rename_i id off hp
    split at h
    · rename_i e l hid
      rw [withCells_iff] at h
      split at h
      · rename_i hc
        simp only [Bool.and_eq_true] at hc
        obtain ⟨⟨hc1, hc2⟩, hc3⟩ := hc
        have hsz : (rd y).cells.length = i.size := Nat.eq_of_beq_eq_true hc1
        have hle : off + i.size ≤ l.length := Nat.le_of_ble_eq_true hc3
        have h1 := allOne_spec hc2
        refine ⟨_, ?_, Nat.le_refl _, h⟩
        intro m S w a H₂ K Q hG ht _ hus hK
        have hx : RelV m S w (a.eval x) (rd x) := hus (x, true, rd x) (by simp) rfl
        have hy : RelV m S w (a.eval y) (rd y) := hus (y, true, rd y) (by simp) rfl
        simp only [hp] at hx
        have hid2 := ht id (by simp)
        have hb := hG.rel id
        rw [hid2, hid] at hb
        obtain ⟨g, cs, hmi, hg, hl, h1l, hrel⟩ := hb
        cases hv : a.eval x with
        | pointer pa =>
          rw [hv] at hx
          cases hx with
          | t _ _ h => cases h
          | ptr id off g' hm =>
            rw [hmi] at hm
            cases hm
            obtain ⟨c1, c2, c3⟩ := hy.cells h1
            have hthere : w.there g off (a.eval y).cells.size := fun j hj => by
              have hlt : off + j < cs.size := by rw [hl]; omega
              refine ⟨by rw [cell_of_row w g (off + j) cs e (0, 0) hg]; simp [hlt], frozen_of_row w g (off + j) cs e hg⟩
            have hrun := run_storeVar_cells (P := P) w g off t (a.eval y) hthere (by rw [hj]; simp [hs, c1, hsz]) c3
            unfold Oper.wp execOp
            simp only [ho, hv, Instr.storeAt, Instr.sureAddr, Sem.run_bind, Sem.run_pure, Result.andThen_ok, hrun]
            show K (a.put o.dst undef) _
            obtain ⟨cs', hg', hsz', hget⟩ := setCells_block (a.eval y).cells.toList off w g cs e (0, 0) hg
            obtain ⟨r1, r2, r3, r4⟩ := setCells_rest (a.eval y).cells.toList off w g
            have hlive : (lkH H₂ id).live = true := by rw [hid2, hid]; rfl
            have hSg : ¬ S g := fun hSg => (hG.ro g hSg).2 id _ hlive hmi rfl
            refine hK undef m S _ (ext_upd hG hlive hmi rfl _ _ r1 r2 r3 (by rw [r4]; exact Nat.le_refl _) (fun k _ hne => setCells_other _ _ _ _ _ hne) ?_) (.t _ _ (.undef _))
            have hkeep : ∀ k, S k → (w.setCells g off (a.eval y).cells.toList).heap[k]? = w.heap[k]? := fun k hk => setCells_other _ _ _ _ _ (fun e => hSg (e ▸ hk))
            refine ⟨g, cs', hmi, hg', by rw [putL_length, hsz', hl], ?_, ?_⟩
            · intro z hz
              obtain ⟨q, hq⟩ := List.getElem?_of_mem hz
              rw [putL_get _ _ _ _ (by rw [hsz]; exact hle)] at hq
              split at hq
              · exact h1 z (List.mem_of_getElem? hq)
              · exact h1l z (List.mem_of_getElem? hq)
            · intro j c z hj hz
              have hjlt : j < cs.size := by
                have := (Array.getElem?_eq_some_iff.1 hj).1
                omega
              rw [hget j hjlt] at hj
              rw [putL_get _ _ _ _ (by rw [hsz]; exact hle)] at hz
              have hvl : (a.eval y).cells.toList.length = (rd y).cells.length := by simp [c1]
              rw [hvl] at hj
              by_cases hq : off ≤ j ∧ j < off + (rd y).cells.length
              · rw [if_pos hq] at hj hz
                exact (c2 (j - off) c z (by simpa using hj) hz).mono (fun _ _ h => h) (fun _ h => h) hkeep
              · rw [if_neg hq] at hj hz
                exact (hrel j c z hj hz).mono (fun _ _ h => h) (fun _ h => h) hkeep
        | _ => rw [hv] at hx; cases hx with
          | t _ _ h => cases h
      · exact h.elim
    · rename_i e k' n f hid
      split at h
      · rename_i kv xv hy0
        split at h
        · rename_i hc
          simp only [Bool.and_eq_true] at hc
          have hk := kidx_inj hc.1
          have hs1 : i.size = 1 := Nat.eq_of_beq_eq_true hc.2
          subst hk
          obtain ⟨hlt, h⟩ := h
          refine ⟨_, sem_store_arr ho hp hid hj (sz := 1) (by omega) (by omega) (fun m S w v hv => ?_) (fun j hj hq => ?_), Nat.le_refl _, h⟩
          · rw [hy0] at hv
            cases hv with
            | t _ _ h => cases h with
              | int _ _ => exact ⟨rfl, fun j c hj => by
                cases j with
                | zero => simp [Value.cells] at hj; subst hj; simp [updF]
                | succ j => simp [Value.cells] at hj⟩
          · have : j ≠ off := by omega
            simp [updF, this]
        · exact h.elim
      · rename_i kv n' f' hy0
        split at h
        · rename_i hc
          simp only [Bool.and_eq_true] at hc
          have hk := kidx_inj hc.1.1.1
          have h0 : off = 0 := Nat.eq_of_beq_eq_true hc.1.1.2
          have hn : n' = n := Nat.eq_of_beq_eq_true hc.1.2
          have hs1 : i.size = n := Nat.eq_of_beq_eq_true hc.2
          subst hk h0 hn
          refine ⟨_, sem_store_arr ho hp hid hj (sz := n') (by omega) (by omega) (fun m S w v hv => ?_) (fun j hj hq => (hq ⟨by omega, by omega⟩).elim), Nat.le_refl _, h⟩
          rw [hy0] at hv
          cases hv with
          | t _ _ h => cases h with
            | iarr _ _ _ cs hl hr => exact ⟨hl, fun j c hj => by rw [Nat.zero_add]; exact hr j c hj⟩
        · exact h.elim
      · exact h.elim
    · exact h.elim
  · rename_i id E i' hp
    split at h
    · rename_i T' e E' enc d xs hid
      obtain ⟨yv, hyv, hi', ⟨hE, hE2, htree, hcl, hone⟩, hk⟩ := h
      subst hE
      refine ⟨_, ?_, Nat.le_refl _, hk⟩
      intro m S w a H₂ K Q hG ht _ hus hK
      have hx : RelV m S w (a.eval x) (rd x) := hus (x, true, rd x) (by simp) rfl
      have hy : RelV m S w (a.eval y) (rd y) := hus (y, true, rd y) (by simp) rfl
      simp only [hp] at hx
      have hid2 := ht id (by simp)
      have hb := hG.rel id
      rw [hid2, hid] at hb
      obtain ⟨v', vs, hmi, hrow⟩ := hb
      cases hv : a.eval x with
      | pointer pa =>
        rw [hv] at hx
        cases hx with
        | t _ _ h => cases h
        | eptr id E i off g n cap hm =>
          rw [hmi] at hm
          cases hm
          have h1 := allOne_spec hone
          obtain ⟨c1, c2, c3⟩ := hy.cells h1
          have hlies := hrow.lies (m := m) rfl (i := i') (by simpa using hi')
          have hlive : (lkH H₂ id).live = true := by rw [hid2, hid]; rfl
          have hSg : ¬ S g := fun hSg => (hG.ro g hSg).2 id _ hlive hmi rfl
          obtain ⟨hlen, hown⟩ := hrow.owns
          rcases hown with ⟨h0, _⟩ | ⟨g', cap', cur, hv', hg0, hh, hnc, hcm, hcs, htake⟩
          · cases h0
          cases hv'
          have hle : i' * E + E ≤ cur.size := by
            have h2 : (i' + 1) * E ≤ xs.length * E := Nat.mul_le_mul_right _ hi'
            have h3 : (xs.map enc).length * E ≤ cap * E := Nat.mul_le_mul_right _ hnc
            rw [Nat.add_mul] at h2
            simp at h3
            omega
          have hthere : w.there g (i' * E) (a.eval y).cells.size := fun j hj => by
            have hlt : i' * E + j < cur.size := by rw [c1, hcl] at hj; omega
            exact ⟨by rw [cell_of_row w g _ cur e (0, 0) hh]; simp [hlt], frozen_of_row w g _ cur e hh⟩
          have hrun := run_storeVar_cells (P := P) w g (i' * E) t (a.eval y) hthere (by rw [hj]; simp [hs, c1, hcl, hE2]) c3
          unfold Oper.wp execOp
          simp only [ho, hv, Instr.storeAt, Instr.sureAddr, Sem.run_bind, Sem.run_pure, Result.andThen_ok, Nat.add_zero, hrun]
          show K (a.put o.dst undef) _
          obtain ⟨r1, r2, r3, r4⟩ := setCells_rest (a.eval y).cells.toList (i' * E) w g
          refine hK undef m S _ (ext_upd hG hlive hmi rfl _ _ r1 r2 r3 (by rw [r4]; exact Nat.le_refl _) (fun k _ hne => setCells_other _ _ _ _ _ hne) ?_) (.t _ _ (.undef _))
          obtain ⟨vs', hrow'⟩ := hrow.store (m := m) (i := i') (by simpa using hi') hy htree hcl h1 rfl hSg
          refine ⟨_, vs', hmi, ?_⟩
          have : (xs.set i' yv).map enc = (xs.map enc).set i' (rd y) := by rw [← hyv, List.map_set]
          rw [this]
          exact hrow'
      | _ => rw [hv] at hx; cases hx with
        | t _ _ h => cases h
    · rename_i e E' l hid
      obtain ⟨hi', ⟨hE, hE2, htree, hcl, hone⟩, hk⟩ := h
      subst hE
      refine ⟨_, ?_, Nat.le_refl _, hk⟩
      intro m S w a H₂ K Q hG ht _ hus hK
      have hx : RelV m S w (a.eval x) (rd x) := hus (x, true, rd x) (by simp) rfl
      have hy : RelV m S w (a.eval y) (rd y) := hus (y, true, rd y) (by simp) rfl
      simp only [hp] at hx
      have hid2 := ht id (by simp)
      have hb := hG.rel id
      rw [hid2, hid] at hb
      obtain ⟨v', vs, hmi, hrow⟩ := hb
      cases hv : a.eval x with
      | pointer pa =>
        rw [hv] at hx
        cases hx with
        | t _ _ h => cases h
        | eptr id E i off g n cap hm =>
          rw [hmi] at hm
          cases hm
          have h1 := allOne_spec hone
          obtain ⟨c1, c2, c3⟩ := hy.cells h1
          have hlive : (lkH H₂ id).live = true := by rw [hid2, hid]; rfl
          have hSg : ¬ S g := fun hSg => (hG.ro g hSg).2 id _ hlive hmi rfl
          obtain ⟨hlen, hown⟩ := hrow.owns
          rcases hown with ⟨h0, _⟩ | ⟨g', cap', cur, hv', hg0, hh, hnc, hcm, hcs, htake⟩
          · cases h0
          cases hv'
          have hle : i' * E + E ≤ cur.size := by
            have h2 : (i' + 1) * E ≤ l.length * E := Nat.mul_le_mul_right _ hi'
            have h3 : l.length * E ≤ cap * E := Nat.mul_le_mul_right _ hnc
            rw [Nat.add_mul] at h2
            omega
          have hthere : w.there g (i' * E) (a.eval y).cells.size := fun j hj => by
            have hlt : i' * E + j < cur.size := by rw [c1, hcl] at hj; omega
            exact ⟨by rw [cell_of_row w g _ cur e (0, 0) hh]; simp [hlt], frozen_of_row w g _ cur e hh⟩
          have hrun := run_storeVar_cells (P := P) w g (i' * E) t (a.eval y) hthere (by rw [hj]; simp [hs, c1, hcl, hE2]) c3
          unfold Oper.wp execOp
          simp only [ho, hv, Instr.storeAt, Instr.sureAddr, Sem.run_bind, Sem.run_pure, Result.andThen_ok, Nat.add_zero, hrun]
          show K (a.put o.dst undef) _
          obtain ⟨r1, r2, r3, r4⟩ := setCells_rest (a.eval y).cells.toList (i' * E) w g
          refine hK undef m S _ (ext_upd hG hlive hmi rfl _ _ r1 r2 r3 (by rw [r4]; exact Nat.le_refl _) (fun k _ hne => setCells_other _ _ _ _ _ hne) ?_) (.t _ _ (.undef _))
          obtain ⟨vs', hrow'⟩ := hrow.store (m := m) (i := i') hi' hy htree hcl h1 rfl hSg
          exact ⟨_, vs', hmi, hrow'⟩
      | _ => rw [hv] at hx; cases hx with
        | t _ _ h => cases h
    · exact h.elim
  · rename_i id E i' off _ hp
    split at h
    · rename_i T' e E' enc d xs hid
      obtain ⟨yv, hyv, hi', ⟨hE, hE2, hoff, htree, hone⟩, hk⟩ := h
      subst hE
      refine ⟨_, ?_, Nat.le_refl _, hk⟩
      intro m S w a H₂ K Q hG ht _ hus hK
      have hx : RelV m S w (a.eval x) (rd x) := hus (x, true, rd x) (by simp) rfl
      have hy : RelV m S w (a.eval y) (rd y) := hus (y, true, rd y) (by simp) rfl
      simp only [hp] at hx
      have hid2 := ht id (by simp)
      have hb := hG.rel id
      rw [hid2, hid] at hb
      obtain ⟨v', vs, hmi, hrow⟩ := hb
      cases hv : a.eval x with
      | pointer pa =>
        rw [hv] at hx
        cases hx with
        | t _ _ h => cases h
        | eptr id E i off g n cap hm =>
          rw [hmi] at hm
          cases hm
          have h1 := allOne_spec hone
          obtain ⟨c1, c2, c3⟩ := hy.cells h1
          have hlive : (lkH H₂ id).live = true := by rw [hid2, hid]; rfl
          have hSg : ¬ S g := fun hSg => (hG.ro g hSg).2 id _ hlive hmi rfl
          obtain ⟨hlen, hown⟩ := hrow.owns
          rcases hown with ⟨h0, _⟩ | ⟨g', cap', cur, hv', hg0, hh, hnc, hcm, hcs, htake⟩
          · cases h0
          cases hv'
          have hle : i' * E + E ≤ cur.size := by
            have h2 : (i' + 1) * E ≤ xs.length * E := Nat.mul_le_mul_right _ hi'
            have h3 : (xs.map enc).length * E ≤ cap * E := Nat.mul_le_mul_right _ hnc
            rw [Nat.add_mul] at h2
            simp at h3
            omega
          have hthere : w.there g (i' * E + off) (a.eval y).cells.size := fun j hj => by
            have hlt : i' * E + off + j < cur.size := by rw [c1] at hj; omega
            exact ⟨by rw [cell_of_row w g _ cur e (0, 0) hh]; simp [hlt], frozen_of_row w g _ cur e hh⟩
          have hrun := run_storeVar_cells (P := P) w g (i' * E + off) t (a.eval y) hthere (by rw [hj]; simp [hs, c1, hE2]) c3
          unfold Oper.wp execOp
          simp only [ho, hv, Instr.storeAt, Instr.sureAddr, Sem.run_bind, Sem.run_pure, Result.andThen_ok, hrun]
          show K (a.put o.dst undef) _
          obtain ⟨r1, r2, r3, r4⟩ := setCells_rest (a.eval y).cells.toList (i' * E + off) w g
          refine hK undef m S _ (ext_upd hG hlive hmi rfl _ _ r1 r2 r3 (by rw [r4]; exact Nat.le_refl _) (fun k _ hne => setCells_other _ _ _ _ _ hne) ?_) (.t _ _ (.undef _))
          have hget : (xs.map enc)[i']'(by simpa using hi') = enc (xs.getD i' d) := by
            rw [List.getElem_map, List.getD_eq_getElem?_getD, List.getElem?_eq_getElem hi']
            rfl
          obtain ⟨vs', hrow'⟩ := hrow.storePart (m := m) (i := i') (by simpa using hi') (z := enc yv) hy htree hoff (by rw [hget]; exact hyv) h1 rfl hSg
          refine ⟨_, vs', hmi, ?_⟩
          rw [List.map_set]
          exact hrow'
      | _ => rw [hv] at hx; cases hx with
        | t _ _ h => cases h
    · exact h.elim
  · exact h.elim

end Go.Own
