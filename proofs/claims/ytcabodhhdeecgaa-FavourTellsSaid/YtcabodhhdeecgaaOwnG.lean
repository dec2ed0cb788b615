/-
  Slices over abstract values: literals, elements, lengths, parts, append.
-/
import Derived.Test.YtcabodhhdeecgaaOwnF
import Derived.Great.BuildSlice
namespace Go.Own

theorem fill_seq (E : Nat) : ∀ (vs : List Value) (k : Nat) (cells : Array Value), (∀ v ∈ vs, v.cells.size = E) → (k + vs.length) * E ≤ cells.size →
    ∃ cells', Instr.fill (fun i => some (i * E, E)) cells ((vs.zipIdx k).map fun x => (x.2, x.1)) = some cells' ∧ cells'.size = cells.size ∧
      ∀ q, cells'[q]? = if k * E ≤ q ∧ q < (k + vs.length) * E then (vs.flatMap (·.cells.toList))[q - k * E]? else cells[q]?
  | [], k, cells, _, _ => ⟨cells, rfl, rfl, fun q => by rw [if_neg (by simp)]⟩
  | v :: vs, k, cells, hE, hle => by
    have h0 : v.cells.size = E := hE v (by simp)
    have e1 : (k + 1 + vs.length) * E = (k + (v :: vs).length) * E := by congr 1; simp; omega
    have e2 : (k + 1) * E = k * E + E := Nat.succ_mul k E
    have e3 : (k + 1) * E ≤ (k + 1 + vs.length) * E := Nat.mul_le_mul_right _ (by omega)
    obtain ⟨s1, s2⟩ := foldl_set (k * E) v.cells cells (by omega)
    obtain ⟨cells', hf, hsz, hg⟩ := fill_seq E vs (k + 1) _ (fun u hu => hE u (by simp [hu])) (by rw [s1, e1]; exact hle)
    refine ⟨cells', ?_, by rw [hsz, s1], fun q => ?_⟩
    · simp only [List.zipIdx_cons, List.map_cons]
      rw [fill_cons _ cells k v _ (k * E) E rfl h0 (by omega)]
      exact hf
    · rw [hg, s2, h0, ← e1]
      have hl0 : v.cells.toList.length = E := by simpa using h0
      simp only [List.flatMap_cons]
      by_cases hq : (k + 1) * E ≤ q ∧ q < (k + 1 + vs.length) * E
      · rw [if_pos hq, if_pos (by omega), List.getElem?_append_right (by omega), hl0]
        congr 1
        omega
      · rw [if_neg hq]
        by_cases hq2 : k * E ≤ q ∧ q < k * E + E
        · rw [if_pos hq2, if_pos (by omega), List.getElem?_append_left (by omega)]
          simp
        · rw [if_neg hq2, if_neg (by omega)]

def seqB : Nat → List (Nat × AV) → Bool
  | _, [] => true
  | k, (i, _) :: r => match Nat.beq i k with
    | true => seqB (k + 1) r
    | false => false

def sizesB (E : Nat) : List AV → Bool
  | [] => true
  | a :: l => match Nat.beq a.cells.length E && allOne a.cells && a.tree with
    | true => sizesB E l
    | false => false

theorem sizesB_spec {E : Nat} : ∀ {l : List AV}, sizesB E l = true → ∀ x ∈ l, x.cells.length = E ∧ (∀ a ∈ x.cells, a.one = true) ∧ x.tree = true
  | [], _, x, h => by simp at h
  | b :: l, h, x, hx => by
    unfold sizesB at h
    split at h
    · rename_i hb
      simp only [Bool.and_eq_true] at hb
      rcases List.mem_cons.1 hx with rfl | hx
      · exact ⟨Nat.eq_of_beq_eq_true hb.1.1, allOne_spec hb.1.2, hb.2⟩
      · exact sizesB_spec h x hx
    · cases h

/-- Rows: cells of values, one behind the other. -/
theorem flat_rel {m : Ids} {S : Blocks} {w : World} {E : Nat} : ∀ (vs : List Value) (l : List AV), vs.length = l.length → (∀ x ∈ l, x.cells.length = E ∧ (∀ a ∈ x.cells, a.one = true) ∧ x.tree = true) →
    (∀ (j : Nat) (v : Value) (a : AV), vs[j]? = some v → l[j]? = some a → RelV m S w v a) →
    (∀ v ∈ vs, v.cells.size = E) ∧ ∀ (j : Nat) (c : Value) (a : AV), (vs.flatMap (·.cells.toList))[j]? = some c → (flat l)[j]? = some a → RelT S w c a
  | [], l, hl, _, _ => ⟨by simp, fun j c a h => by simp at h⟩
  | v :: vs, [], hl, _, _ => by simp at hl
  | v :: vs, x :: l, hl, hs, hr => by
    obtain ⟨hx1, hx2, hx3⟩ := hs x (by simp)
    have hv : RelV m S w v x := hr 0 v x rfl rfl
    obtain ⟨c1, c2, _⟩ := hv.cells hx2
    obtain ⟨ih1, ih2⟩ := flat_rel vs l (by simpa using hl) (fun y hy => hs y (by simp [hy])) (fun j u a h1 h2 => hr (j + 1) u a (by simpa using h1) (by simpa using h2))
    refine ⟨fun u hu => ?_, fun j c a hj ha => ?_⟩
    · rcases List.mem_cons.1 hu with rfl | hu
      · omega
      · exact ih1 u hu
    · have hl0 : v.cells.toList.length = E := by simp; omega
      simp only [List.flatMap_cons] at hj
      have hfl : flat (x :: l) = x.cells ++ flat l := by simp [flat]
      rw [hfl] at ha
      by_cases hq : j < E
      · rw [List.getElem?_append_left (by omega)] at hj ha
        have := c2 j c a (by simpa using hj) ha
        exact this.toT1 (AV.tree_cells hx3 (List.mem_of_getElem? ha))
      · rw [List.getElem?_append_right (by omega), hl0] at hj
        rw [List.getElem?_append_right (by omega), hx1] at ha
        exact ih2 _ c a hj ha

def evBuildSlice (T : Tab) (nx : Nat) (t : TypeId) (n : Nat) (parts : List (Nat × AV)) (k : Res → Prop) : Prop :=
  match lkT T t with
  | some ⟨.slice e, _, _, _⟩ => match lkT T e with
    | none => False
    | some i => match seqB 0 parts && Nat.beq n parts.length && sizesB i.size (parts.map (·.2)) && Nat.ble (n * i.size) 16777216 && Nat.ble 1 i.size with
      | true => k ⟨.own nx, [], [(nx, .lst e i.size (parts.map (·.2)))], nx + 1⟩
      | false => False
  | _ => False

theorem seqB_spec : ∀ (parts : List (Nat × AV)) (k : Nat), seqB k parts = true → parts.map (·.1) = List.range' k parts.length
  | [], _, _ => rfl
  | (i, v) :: r, k, h => by
    unfold seqB at h
    split at h
    · rename_i hb
      have : i = k := Nat.eq_of_beq_eq_true hb
      subst this
      simp [seqB_spec r (i + 1) h, List.range'_succ]
    · cases h

theorem zip_parts : ∀ (parts : List (Nat × Operand)) (k : Nat) (f : Operand → Value), parts.map (·.1) = List.range' k parts.length → parts.map (fun p => (p.1, f p.2)) = ((parts.map fun p => f p.2).zipIdx k).map fun x => (x.2, x.1)
  | [], _, _, _ => rfl
  | (i, x) :: r, k, f, h => by
    simp only [List.map_cons, List.length_cons, List.range'_succ, List.cons.injEq] at h
    obtain ⟨rfl, h⟩ := h
    simp only [List.map_cons, List.zipIdx_cons]
    rw [zip_parts r (i + 1) f h]

theorem maxLen_ge {n : Nat} (h : n ≤ 140737488355328) : n ≤ maxLen := by unfold maxLen; omega

/-- A new row of the call's own out of cells that are there. -/
theorem RowRel.made {S : Blocks} {w : World} {e E : Nat} {l : List AV} {cells : Array Value} (hsz : cells.size = l.length * E) (hmax : l.length ≤ maxLen) (hs : ∀ x ∈ l, x.cells.length = E) (h1 : ∀ a ∈ flat l, a.one = true)
    (hr : ∀ (j : Nat) (c : Value) (a : AV), cells[j]? = some c → (flat l)[j]? = some a → RelT S w c a) (hS : ∀ g, S g → g < w.heap.size) :
    RowRel S (w.alloc (.cells cells e)) e E l (.slice (some ⟨w.heap.size, 0, none⟩) l.length l.length) cells.toList :=
  ⟨World.ownsRow_lit w cells l.length (Nat.zero_le _) hmax hsz, hs, h1, fun j c a hj ha => (hr j c a (by simpa using hj) ha).mono (fun _ h => h) (fun g hg => RowKit.Below.heap_alloc w _ g (hS g hg))⟩

theorem flat_one {E : Nat} {l : List AV} (h : ∀ x ∈ l, x.cells.length = E ∧ (∀ a ∈ x.cells, a.one = true) ∧ x.tree = true) : ∀ a ∈ flat l, a.one = true := by
  intro a ha
  obtain ⟨x, hx, hax⟩ := List.mem_flatMap.1 ha
  exact (h x hx).2.1 a hax

theorem evBuildSlice_sound [Tabs] {P : Program} {T : Tab} (hT : TabOk P T) {rd : Operand → AV} {H : Heap} {nx : Nat} {t : TypeId} {n : Nat} {parts : Array (Nat × Operand)} {o : Oper} (ho : o.op = .buildSlice t n parts) {k : Res → Prop}
    (h : evBuildSlice T nx t n (parts.toList.map fun p => (p.1, rd p.2)) k) : ∃ r, OpSem P o (parts.toList.map fun p => (p.2, true, rd p.2)) H nx r ∧ nx ≤ r.nx ∧ k r := by
  unfold evBuildSlice at h
  split at h
  · rename_i e s b z hi
    split at h
    · exact h.elim
    · rename_i i he
      split at h
      · rename_i hc
        simp only [Bool.and_eq_true] at hc
        obtain ⟨⟨⟨⟨c1, c2⟩, c3⟩, c4⟩, c5⟩ := hc
        have hseq : parts.toList.map (·.1) = List.range' 0 parts.toList.length := by
          have := seqB_spec _ _ c1
          simpa [List.map_map, Function.comp_def] using this
        have hn : n = parts.toList.length := by have := Nat.eq_of_beq_eq_true c2; simpa using this
        have hsp := sizesB_spec c3
        have hsmall : n * i.size ≤ 16777216 := Nat.le_of_ble_eq_true c4
        have hpos : 1 ≤ i.size := Nat.le_of_ble_eq_true c5
        obtain ⟨hu, _⟩ := hT t _ hi
        obtain ⟨_, j, hj, hs, _, hz⟩ := hT e _ he
        simp only at hu
        simp only [List.map_map, Function.comp_def] at hsp
        refine ⟨_, ?_, Nat.le_succ _, h⟩
        intro m S w a H₂ K Q hG _ hfree hus hK
        have hl : ((parts.toList.map fun p => rd p.2)).length = n := by simp [hn]
        have hrelp : ∀ (j : Nat) (v : Value) (x : AV), (parts.toList.map fun p => a.eval p.2)[j]? = some v → (parts.toList.map fun p => rd p.2)[j]? = some x → RelV m S w v x := by
          intro j v x hv hx
          simp only [List.getElem?_map, Option.map_eq_some_iff] at hv hx
          obtain ⟨p, hp, rfl⟩ := hv
          obtain ⟨p', hp', rfl⟩ := hx
          rw [hp] at hp'
          cases hp'
          exact hus (p.2, true, rd p.2) (List.mem_map.2 ⟨p, List.mem_of_getElem? hp, rfl⟩) rfl
        obtain ⟨f1, f2⟩ := flat_rel (m := m) (S := S) (w := w) (parts.toList.map fun p => a.eval p.2) (parts.toList.map fun p => rd p.2) (by simp) hsp hrelp
        have hn' : m nx = none := hfree nx (Nat.le_refl _) (Nat.lt_succ_self _)
        have hlen2 : (parts.toList.map fun p => rd p.2).length * i.size = (flat (parts.toList.map fun p => rd p.2)).length := (flat_length _ fun x hx => (hsp x hx).1).symm
        -- the cells
        have hcells : ∃ cells : Array Value, (Instr.buildSlice t n (parts.map fun p => (p.1, a.eval p.2))).run P w = .ok (.slice (some ⟨w.heap.size, 0, none⟩) n n) (w.alloc (.cells cells e)) ∧
            cells.size = n * i.size ∧ ∀ q, q < n * i.size → cells[q]? = ((parts.toList.map fun p => a.eval p.2).flatMap (·.cells.toList))[q]? := by
          by_cases h0 : n * i.size = 0
          · have hn0 : n = 0 := by
              rcases Nat.mul_eq_zero.1 h0 with h | h
              · exact h
              · omega
            have hp0 : parts = #[] := by
              apply Array.eq_empty_of_size_eq_zero
              simpa using hn.symm.trans hn0
            refine ⟨#[], ?_, by simp [h0], fun q hq => by omega⟩
            subst hn0
            simp [Instr.buildSlice, run_underlying hu, sizeOf, typeInfo, hj, hp0, Instr.fill, newRow, show Array.range 0 = #[] from by decide]
          · have hfs := fill_seq i.size (parts.toList.map fun p => a.eval p.2) 0 ((Array.range (n * i.size)).map (i.zero.cells[· % i.zero.cells.size]!)) f1 (by simp [← hn])
            obtain ⟨cells, hf, hsz, hg⟩ := hfs
            have hr := run_buildSlice (P := P) w t e n (parts.map fun p => (p.1, a.eval p.2)) cells j i.zero hu hj hz (by rw [hs]; omega) (by rw [hs]; omega) (by
              rw [hs, Array.toList_map, zip_parts parts.toList 0 a.eval hseq]
              exact hf)
            refine ⟨cells, hr, by rw [hsz]; simp, fun q hq => ?_⟩
            rw [hg q, if_pos (by constructor <;> simp <;> (try rw [Array.length_toList] at hn) <;> (try rw [← hn]) <;> omega)]
            simp
        obtain ⟨cells, hrun, hcsz, hcq⟩ := hcells
        unfold Oper.wp execOp
        simp only [ho, Sem.run_bind, hrun, Result.andThen_ok]
        show K (a.put o.dst (.slice (some ⟨w.heap.size, 0, none⟩) n n)) _
        refine hK _ _ S _ (ext_new hG hn' (.slice (some ⟨w.heap.size, 0, none⟩) n n) _ (w.alloc (.cells cells e)) rfl rfl rfl (by simp) (fun k hk => RowKit.Below.heap_alloc w _ k hk) (fun k hk => by simp [blk] at hk; omega) ?_) (.own nx n n (some ⟨w.heap.size, 0, none⟩) (by simp))
        refine ⟨_, cells.toList, by simp; rfl, ?_⟩
        have hmade := RowRel.made (S := S) (w := w) (e := e) (E := i.size) (l := parts.toList.map fun p => rd p.2) (cells := cells) (by rw [hl]; exact hcsz) (maxLen_ge (by
            rw [hl]
            have : n * 1 ≤ n * i.size := Nat.mul_le_mul_left _ hpos
            omega)) (fun x hx => (hsp x hx).1) (flat_one hsp) (fun j c x hj hx => f2 j c x (by
              have hjlt : j < cells.size := (Array.getElem?_eq_some_iff.1 hj).1
              rw [← hcq j (by omega)]; exact hj) hx) (fun g hg => (hG.ro g hg).1)
        rw [hl] at hmade
        simpa [List.map_map, Function.comp_def] using hmade
      · exact h.elim
  · exact h.elim

end Go.Own
