/-
  Queues: rows that begin anywhere in their block; what is put into a row is read only from then on.
-/
import Derived.Test.YtcabodhhdeecgaaOwnP3
namespace Go.Own

theorem run_append_room_at {P : Program} (w : World) (t ty e : TypeId) (i : TypeInfo) (ht : P.underlying t = some (.slice e)) (hi : P.info? e = some i)
    (g o sLen sCap : Nat) (cur : Array Value) (hg : w.heap[g]? = some (.cells cur e (0, 0)))
    (a : Addr) (m c : Nat) (news : List Value) (hl : news.length = m * i.size) (hnews : ∀ j u, news[j]? = some u → w.cell? (a.add j) = some u) (h1 : ∀ u ∈ news, u.oneCell' = true)
    (hroom : sLen + m ≤ sCap) (hfit : o + sLen * i.size + news.length ≤ cur.size) :
    (Builtin.append_ #[t, t] ty #[.slice (some ⟨g, o, none⟩) sLen sCap, .slice (some a) m c]).run P w =
      .ok (.slice (some ⟨g, o, none⟩) (sLen + m) sCap) (w.setRow g (cur.toList.take (o + sLen * i.size) ++ news ++ cur.toList.drop (o + sLen * i.size + news.length)).toArray) := by
  have hf := run_firstCells_some (P := P) w i.size m a m c news hl hnews
  have hst := run_storeCells_at P g (o + sLen * i.size) e news 0 cur w hg (by simpa using hfit) h1
  simp only [Nat.add_zero] at hst
  simp [Builtin.append_, run_underlying ht, sizeOf, typeInfo, hi, Builtin.lenOf, hroom, hf, Addr.add_mid, hst]

theorem append_que_run {P : Program} {t ty e : TypeId} {i : TypeInfo} {z : Value} (ht : P.underlying t = some (.slice e)) (hi : P.info? e = some i) (hz : i.zero = some z) (hzs : z.cells.size = i.size)
    {S : Blocks} {w : World} {dl sl : List AV} {vx : Value} {g o cap : Nat} {cur : Array Value} (hq : QueRel S w e i.size dl g o cap cur) (hx : SrcRel S w i.size vx sl) (hsl : sl ≠ []) (hS : ∀ k, S k → k < w.heap.size ∧ k ≠ g)
    (hbytes : (dl.length + sl.length) * i.bytes ≤ 140737488355328) (h63 : dl.length + sl.length ≤ maxLen) :
    ∃ w' g' o' cap' cur', (Builtin.append_ #[t, t] ty #[.slice (some ⟨g, o, none⟩) dl.length cap, vx]).run P w = .ok (.slice (some ⟨g', o', none⟩) (dl ++ sl).length cap') w' ∧ QueRel S w' e i.size (dl ++ sl) g' o' cap' cur' ∧
      w.grownBy w' (some g) ∧ (g' = g ∨ w.heap.size ≤ g') := by
  rcases hx with ⟨_, h⟩ | ⟨_, _, _, h⟩ | ⟨g2, o2, cap2, cs, rfl, hcs, hE, h1, hc, hr⟩
  · exact (hsl h).elim
  · exact (hsl h).elim
  have hlen : (flat dl).length = dl.length * i.size := flat_length dl hq.size
  have hlen2 : (flat sl).length = sl.length * i.size := flat_length sl hE
  have hone : ∀ u ∈ cs, u.oneCell' = true := by
    intro u hu
    obtain ⟨j, hj⟩ := List.getElem?_of_mem hu
    have hjl : j < (flat sl).length := by rw [hlen2, ← hcs]; exact (List.getElem?_eq_some_iff.1 hj).1
    exact (hr j u _ hj (List.getElem?_eq_getElem hjl)).oneCell (h1 _ (List.getElem_mem hjl))
  have hnews : ∀ (j : Nat) (u : Value), cs[j]? = some u → w.cell? ((⟨g2, o2, none⟩ : Addr).add j) = some u := fun j u hu => by rw [Addr.add_mid]; exact hc j u hu
  have hsize : ∀ x ∈ dl ++ sl, x.cells.length = i.size := fun x hx => by
    rcases List.mem_append.1 hx with hx | hx
    · exact hq.size x hx
    · exact hE x hx
  have hones : ∀ a ∈ flat (dl ++ sl), a.one = true := fun a ha => by
    rw [flat_append] at ha
    rcases List.mem_append.1 ha with ha | ha
    · exact hq.ones a ha
    · exact h1 a ha
  have hroom := hq.room
  have hql := hq.len
  by_cases hfit : dl.length + sl.length ≤ cap
  · have hmul : (dl.length + sl.length) * i.size ≤ cap * i.size := Nat.mul_le_mul_right _ hfit
    rw [Nat.add_mul] at hmul
    have hrun := run_append_room_at (P := P) w t ty e i ht hi g o dl.length cap cur hq.at_ ⟨g2, o2, none⟩ sl.length cap2 cs hcs hnews hone hfit (by omega)
    rw [← List.length_append] at hrun
    refine ⟨_, g, o, cap, (cur.toList.take (o + dl.length * i.size) ++ cs ++ cur.toList.drop (o + dl.length * i.size + cs.length)).toArray, hrun, ?_, ⟨rfl, rfl, rfl, by simp, fun k _ hk => setRow_other w g k _ (fun e => hk (by rw [e]))⟩, .inl rfl⟩
    have hkeep : ∀ k, S k → (w.setRow g (cur.toList.take (o + dl.length * i.size) ++ cs ++ cur.toList.drop (o + dl.length * i.size + cs.length)).toArray).heap[k]? = w.heap[k]? := fun k hk => setRow_other w g k _ (fun e => (hS k hk).2 e)
    refine ⟨setRow_heap w g cur _ e _ hq.at_, by rw [List.length_append]; exact hfit, hq.max, ?_, hsize, hones, fun j c a hj ha => ?_⟩
    · simp only [List.size_toArray, List.length_append, List.length_take, List.length_drop, Array.length_toList]
      omega
    · have htl : (cur.toList.take (o + dl.length * i.size)).length = o + dl.length * i.size := by have : cur.toList.length = cur.size := rfl; rw [List.length_take]; omega
      rw [List.getElem?_toArray, List.append_assoc] at hj
      rw [flat_append] at ha
      by_cases hlt : j < (flat dl).length
      · rw [List.getElem?_append_left hlt] at ha
        rw [List.getElem?_append_left (by rw [htl]; omega), List.getElem?_take, if_pos (by omega)] at hj
        exact (hq.rel j c a (by simpa using hj) ha).mono (fun _ h => h) hkeep
      · have hja : j - (flat dl).length < (flat sl).length := by
          have := (List.getElem?_eq_some_iff.1 ha).1
          rw [List.length_append] at this
          omega
        rw [List.getElem?_append_right (by omega)] at ha
        rw [List.getElem?_append_right (by rw [htl]; omega), htl, List.getElem?_append_left (by omega)] at hj
        refine (hr (j - (flat dl).length) c a ?_ ha).mono (fun _ h => h) hkeep
        rw [hlen, ← hj]
        congr 1
        omega
  · have hsmall : dl.length + sl.length ≤ 9223372036854775807 := by simp only [maxLen] at h63; omega
    let olds := (cur.toList.drop o).take (dl.length * i.size)
    have hol : olds.length = dl.length * i.size := by
      have : dl.length * i.size ≤ cap * i.size := Nat.mul_le_mul_right _ hql
      simp only [olds, List.length_take, List.length_drop, Array.length_toList]
      omega
    have hoget : ∀ j, j < dl.length * i.size → olds[j]? = cur[o + j]? := fun j hj => by
      simp only [olds]
      rw [List.getElem?_take, if_pos hj, List.getElem?_drop]
      simp
    have holds : ∀ (j : Nat) (u : Value), olds[j]? = some u → w.cell? ((⟨g, o, none⟩ : Addr).add j) = some u := fun j u hu => by
      have hlt := (List.getElem?_eq_some_iff.1 hu).1
      rw [Addr.add_mid, cell_of_row w g (o + j) cur e (0, 0) hq.at_, ← hoget j (by omega)]
      exact hu
    have hslpos : 0 < sl.length := List.length_pos_iff.2 hsl
    have hrun := run_append_grow (P := P) w t ty e i z ht hi hz ⟨g, o, none⟩ dl.length cap olds hol holds ⟨g2, o2, none⟩ sl.length cap2 cs hcs hnews (by omega) (by omega) (growslice_fits (by omega) hbytes)
    have hge := grownCap_ge w (dl.length + sl.length) cap e
    have hcm : grownCap w (dl.length + sl.length) cap e ≤ maxLen := grownCap_le_maxLen w (dl.length + sl.length) cap e h63
    have hkeep : ∀ k, S k → (w.drew.alloc (.cells (olds.toArray ++ cs.toArray ++ Builtin.zeroCells z.cells (grownCap w (dl.length + sl.length) cap e - (dl.length + sl.length))) e)).heap[k]? = w.heap[k]? := fun k hk => heap_alloc_old w.drew _ (hS k hk).1
    have hrun2 : (Builtin.append_ #[t, t] ty #[.slice (some ⟨g, o, none⟩) dl.length cap, .slice (some ⟨g2, o2, none⟩) sl.length cap2]).run P w = .ok (.slice (some ⟨w.heap.size, 0, none⟩) (dl ++ sl).length (grownCap w (dl.length + sl.length) cap e))
        (w.drew.alloc (.cells (olds.toArray ++ cs.toArray ++ Builtin.zeroCells z.cells (grownCap w (dl.length + sl.length) cap e - (dl.length + sl.length))) e)) := by rw [List.length_append]; exact hrun
    refine ⟨_, w.heap.size, 0, _, _, hrun2, ⟨heap_alloc_new w.drew _, by rw [List.length_append]; exact hge, hcm, ?_, hsize, hones, fun j c a hj ha => ?_⟩, ⟨rfl, rfl, rfl, by simp, fun k hk _ => heap_alloc_old w.drew _ hk⟩, .inr (Nat.le_refl _)⟩
    · simp only [Array.size_append, List.size_toArray, size_zeroCells, hzs, hol, hcs, ← Nat.add_mul, Nat.zero_add]
      refine Nat.le_of_eq ?_
      congr 1
      omega
    · rw [Nat.zero_add] at hj
      have hj' : (olds ++ cs ++ (Builtin.zeroCells z.cells (grownCap w (dl.length + sl.length) cap e - (dl.length + sl.length))).toList)[j]? = some c := by
        rw [← hj, ← Array.getElem?_toList]
        simp
      rw [flat_append] at ha
      have hjb : j < (flat dl).length + (flat sl).length := by
        have := (List.getElem?_eq_some_iff.1 ha).1
        rwa [List.length_append] at this
      rw [List.append_assoc] at hj'
      by_cases hlt : j < (flat dl).length
      · rw [List.getElem?_append_left hlt] at ha
        rw [List.getElem?_append_left (by omega), hoget j (by omega)] at hj'
        exact (hq.rel j c a hj' ha).mono (fun _ h => h) hkeep
      · rw [List.getElem?_append_right (by omega)] at ha
        rw [List.getElem?_append_right (by omega), List.getElem?_append_left (by omega)] at hj'
        refine (hr (j - (flat dl).length) c a ?_ ha).mono (fun _ h => h) hkeep
        rw [hlen, ← hj', hol]

/-- The queue that a value is. -/
def queOf (H : Heap) (x : AV) : Option Nat :=
  match x with
  | .own id => match lkH H id with
    | .que .. => some id
    | _ => none
  | _ => none

theorem queOf_own {H : Heap} {x : AV} {id : Nat} (h : queOf H x = some id) : x = .own id := by
  unfold queOf at h
  split at h
  · split at h
    · cases h; rfl
    · cases h
  · cases h

def evAppendQ (T : Tab) (H : Heap) (nx : Nat) (t : TypeId) (id : Nat) (x : AV) (k : Res → Prop) : Prop :=
  match lkT T t with
  | some ⟨.slice e, _, _, _⟩ => match lkT T e with
    | none => False
    | some ie => match Nat.ble 1 ie.size && Nat.ble 1 ie.bytes && Nat.beq (cellsN ie.zero) ie.size with
      | false => False
      | true => srcView H ie.size x fun sx touch => match sx with
        | .lst [v] => match notIn id touch with
          | false => False
          | true => match lkH H id with
            | .que e' E' enc d xs => (e' = e ∧ E' = ie.size) ∧ (xs.length + 1) * ie.bytes ≤ 140737488355328 ∧ ∃ y, enc y = v ∧ k ⟨.own nx, id :: touch, [(nx, .que e ie.size enc d (xs ++ [y])), (id, .dead)], nx + 1⟩
            | _ => False
        | _ => False
  | _ => False

theorem evAppendQ_sound [Tabs] {P : Program} {T : Tab} (hT : TabOk P T) {rd : Operand → AV} {H : Heap} {nx id : Nat} {t : TypeId} {s x : Operand} {o : Oper}
    (ho : o.op = .call { callee := .builtin .append, args := #[s, x], argTypes := #[t, t] }) (hs : rd s = .own id) {k : Res → Prop}
    (h : evAppendQ T H nx t id (rd x) k) : ∃ r, OpSem P o [(s, true, rd s), (x, true, rd x)] H nx r ∧ nx ≤ r.nx ∧ k r := by
  unfold evAppendQ at h
  split at h
  · rename_i e sz b z hi
    obtain ⟨hu, _⟩ := hT t _ hi
    simp only at hu
    split at h
    · exact h.elim
    · rename_i ie hie
      obtain ⟨_, j, hj, hsz, hby, hz⟩ := hT e _ hie
      split at h
      · exact h.elim
      · rename_i hc
        simp only [Bool.and_eq_true] at hc
        obtain ⟨⟨c1, c2⟩, c3⟩ := hc
        have hbpos : 1 ≤ ie.bytes := Nat.le_of_ble_eq_true c2
        have hzs : ie.zero.cells.size = ie.size := Nat.eq_of_beq_eq_true c3
        obtain ⟨sx, touch, hsrc, h⟩ := srcView_sound h
        split at h
        · rename_i v
          split at h
          · exact h.elim
          · split at h
            · rename_i T' e' E' enc d xs hid
              obtain ⟨⟨rfl, rfl⟩, hb, y, hy, hk⟩ := h
              refine ⟨_, ?_, Nat.le_succ _, hk⟩
              intro m S w a H₂ K Q hG ht hfree hus hK
              have hs' : RelV m S w (a.eval s) (rd s) := hus (s, true, rd s) (by simp) rfl
              have hx' : RelV m S w (a.eval x) (rd x) := hus (x, true, rd x) (by simp) rfl
              rw [hs] at hs'
              have hid2 := ht id (by simp)
              have hbl := hG.rel id
              rw [hid2, hid] at hbl
              obtain ⟨g, off, cap, cur, hmi, hq⟩ := hbl
              have hv : a.eval s = .slice (some ⟨g, off, none⟩) (xs.map enc).length cap := by
                generalize a.eval s = v at hs'
                cases hs' with
                | t _ _ h => cases h
                | own id n cap a hm => rw [hmi] at hm; cases hm; rw [List.length_map]
              have hlive : (lkH H₂ id).live = true := by rw [hid2, hid]; rfl
              have hb' : ((xs.map enc).length + [v].length) * j.bytes ≤ 140737488355328 := by rw [List.length_map, hby]; exact hb
              rw [← hsz] at hq hzs
              have hxs := hsrc m S w H₂ _ hG (fun i hi => ht i (by simp [hi])) hx'
              rw [← hsz] at hxs
              obtain ⟨w', g', o', cap', cur', hrun, hq', hgr, hgg⟩ := append_que_run (P := P) (ty := o.type) hu hj hz hzs hq (sl := [v]) hxs (by simp) (fun k hk => ⟨(hG.ro k hk).1, fun e => (hG.ro k hk).2 id _ hlive hmi (by rw [e]; rfl)⟩) hb' (maxLen_ge (by
                have : ((xs.map enc).length + [v].length) * 1 ≤ ((xs.map enc).length + [v].length) * j.bytes := Nat.mul_le_mul_left _ (by omega)
                omega))
              have hexec : (execOp a.eval o).run P w = .ok (.value (.slice (some ⟨g', o', none⟩) (xs.map enc ++ [v]).length cap')) w' := by
                unfold execOp
                simp only [List.length_append] at hrun ⊢
                rw [← hv] at hrun
                simp [ho, resolve, invoke, builtin, hrun]
              unfold Oper.wp
              rw [hexec]
              have hn0 : m nx = none := hfree nx (Nat.le_refl _) (Nat.lt_succ_self _)
              refine hK _ _ S w' (ext_move hG hlive hmi hn0 (.slice (some ⟨g', o', none⟩) (xs.map enc ++ [v]).length cap') _ w' hgr.os hgr.tape hgr.output hgr.size (fun k hk hne => hgr.block k hk (fun e => hne (by cases e; rfl))) (fun k hk => ?_) ?_) (.own nx _ cap' _ (by simp))
              · simp only [blk, Option.some.injEq] at hk
                subst hk
                rcases hgg with e | e
                · exact .inl (by rw [e]; rfl)
                · exact .inr e
              · have e2 : xs.map enc ++ [v] = (xs ++ [y]).map enc := by rw [List.map_append, List.map_cons, List.map_nil, hy]
                rw [e2, hsz] at hq'
                exact ⟨g', o', cap', cur', by simp, hq'⟩
            · exact h.elim
        · exact h.elim
  · exact h.elim

def evSliceQ (T : Tab) (H : Heap) (nx : Nat) (t : TypeId) (id : Nat) (lo hi : Option AV) (k : Res → Prop) : Prop :=
  match lkT T t with
  | some ⟨.slice e, _, _, _⟩ => match lkT T e with
    | none => False
    | some ie => match lkH H id with
      | .que e' E enc d xs => match lo, hi with
        | some (.int _ l), none => E = ie.size ∧ (0 ≤ l ∧ l ≤ xs.length) ∧ k ⟨.own nx, [id], [(nx, .que e' E enc d (xs.drop l.toNat)), (id, .dead)], nx + 1⟩
        | _, _ => False
      | _ => False
  | _ => False

theorem QueRel.drop {S : Blocks} {w : World} {e E : Nat} {l : List AV} {g o cap : Nat} {cur : Array Value} (h : QueRel S w e E l g o cap cur) {n : Nat} (hn : n ≤ l.length) :
    QueRel S w e E (l.drop n) g (if cap = n then o else o + n * E) (cap - n) cur := by
  have hr := h.room
  have hl := h.len
  have hsub : n * E + (cap - n) * E = cap * E := by rw [← Nat.add_mul]; congr 1; omega
  refine ⟨h.at_, by rw [List.length_drop]; omega, Nat.le_trans (Nat.sub_le _ _) h.max, ?_, fun x hx => h.size x (List.mem_of_mem_drop hx), fun a ha => ?_, fun j c a hj ha => ?_⟩
  · split
    · rename_i e
      subst e
      rw [Nat.sub_self, Nat.zero_mul]
      omega
    · omega
  · rw [flat_drop _ _ h.size] at ha
    exact h.ones a (List.mem_of_mem_drop ha)
  · rw [flat_drop _ _ h.size] at ha
    rw [List.getElem?_drop] at ha
    split at hj
    · rename_i e
      subst e
      have := (List.getElem?_eq_some_iff.1 ha).1
      rw [flat_length l h.size] at this
      have : l.length * E ≤ cap * E := Nat.mul_le_mul_right _ hl
      omega
    · exact h.rel (n * E + j) c a (by rw [← Nat.add_assoc]; exact hj) ha

theorem evSliceQ_sound [Tabs] {P : Program} {T : Tab} (hT : TabOk P T) {rd : Operand → AV} {H : Heap} {nx id : Nat} {t : TypeId} {x : Operand} {lo hi : Option Operand} {o : Oper} (ho : o.op = .slice t x lo hi none) (hx0 : rd x = .own id) {k : Res → Prop}
    (h : evSliceQ T H nx t id (lo.map rd) (hi.map rd) k) : ∃ r, OpSem P o (optUses rd x lo hi) H nx r ∧ nx ≤ r.nx ∧ k r := by
  unfold evSliceQ at h
  split at h
  · rename_i e sz b z hi'
    obtain ⟨hu, _⟩ := hT t _ hi'
    simp only at hu
    split at h
    · exact h.elim
    · rename_i ie hie
      obtain ⟨_, j, hj, hs, _⟩ := hT e _ hie
      split at h
      · rename_i T' e' E enc d xs hid
        split at h
        · rename_i lo' hi'' kk l hlo hhi
          obtain ⟨hE, ⟨h0, h1⟩, hk⟩ := h
          refine ⟨_, ?_, Nat.le_succ _, hk⟩
          intro m S w a H₂ K Q hG ht hfree hus hK
          cases lo with
          | none => cases hlo
          | some lo =>
          cases hi with
          | some hi => cases hhi
          | none =>
          simp only [Option.map_some, Option.some.injEq] at hlo
          have hx : RelV m S w (a.eval x) (rd x) := hus (x, true, rd x) (by simp [optUses]) rfl
          have hl : RelV m S w (a.eval lo) (rd lo) := hus (lo, true, rd lo) (by simp [optUses]) rfl
          rw [hx0] at hx
          rw [hlo] at hl
          have hlv := relV_int hl
          have hid2 := ht id (by simp)
          have hbl := hG.rel id
          rw [hid2, hid] at hbl
          obtain ⟨g, off, cap, cur, hmi, hq⟩ := hbl
          have hv : a.eval x = .slice (some ⟨g, off, none⟩) xs.length cap := by
            generalize a.eval x = v at hx
            cases hx with
            | t _ _ h => cases h
            | own id n cap a hm => rw [hmi] at hm; cases hm; rfl
          have hlive : (lkH H₂ id).live = true := by rw [hid2, hid]; rfl
          have hql := hq.len
          rw [List.length_map] at hql
          have hbnd := run_sliceBounds (P := P) (w := w) true xs.length cap (some (.int kk l)) none l xs.length (.inr ⟨kk, rfl⟩) (.inl ⟨rfl, rfl⟩) h0 h1 (Int.le_refl _) hql
          have hexec : (execOp a.eval o).run P w = .ok (.value (.slice (some (if cap = l.toNat then ⟨g, off, none⟩ else ⟨g, off + l.toNat * ie.size, none⟩)) (xs.length - l.toNat) (cap - l.toNat))) w := by
            unfold execOp
            simp [ho, hv, hlv, Instr.sliceAt, run_underlying hu, Instr.slice, hbnd, sizeOf, typeInfo, hj, hs, Addr.add_mid]
            split <;> rfl
          unfold Oper.wp
          rw [hexec]
          have hn0 : m nx = none := hfree nx (Nat.le_refl _) (Nat.lt_succ_self _)
          have hadr : (if cap = l.toNat then (⟨g, off, none⟩ : Addr) else ⟨g, off + l.toNat * ie.size, none⟩) = ⟨g, if cap = l.toNat then off else off + l.toNat * ie.size, none⟩ := by split <;> rfl
          rw [hadr]
          refine hK _ _ S w (ext_move hG hlive hmi hn0 (.slice (some ⟨g, if cap = l.toNat then off else off + l.toNat * ie.size, none⟩) (xs.length - l.toNat) (cap - l.toNat)) _ w rfl rfl rfl (Nat.le_refl _) (fun k hk _ => rfl) (fun k hk => .inl hk) ?_) (.own nx _ _ _ (by simp))
          refine ⟨g, _, _, cur, by simp; exact ⟨rfl, rfl⟩, ?_⟩
          rw [List.map_drop, hE]
          rw [hE] at hq
          exact hq.drop (by rw [List.length_map]; omega)
        · exact h.elim
      · exact h.elim
  · exact h.elim

def evIndexAddrQ (T : Tab) (g : Option Bool) (H : Heap) (nx : Nat) (t : TypeId) (id : Nat) (i : AV) (k : Res → Prop) : Prop :=
  match lkT T t with
  | some ⟨.slice e, _, _, _⟩ => match lkT T e with
    | none => False
    | some ie => match i with
      | .int _ n => match lkH H id with
        | .que _ _ _ _ xs => ob g (0 ≤ n ∧ n < xs.length) (k ⟨.qptr id ie.size n.toNat, [id], [], nx⟩)
        | _ => False
      | _ => False
  | _ => False

theorem evIndexAddrQ_sound [Tabs] {P : Program} {T : Tab} (hT : TabOk P T) {g : Option Bool} {rd : Operand → AV} {H : Heap} {nx id : Nat} {t : TypeId} {x i : Operand} {o : Oper} (ho : o.op = .indexAddr t x i) (hx0 : rd x = .own id) {k : Res → Prop}
    (h : evIndexAddrQ T g H nx t id (rd i) k) : ∃ r, (gOk g → OpSemP P o [(x, true, rd x), (i, true, rd i)] H nx r) ∧ (r.wr = [] ∧ r.nx = nx) ∧ k r := by
  unfold evIndexAddrQ at h
  split at h
  · rename_i e s b z hi
    obtain ⟨hu, _⟩ := hT t _ hi
    simp only at hu
    split at h
    · exact h.elim
    · rename_i ie hie
      obtain ⟨_, j, hj, hs, _⟩ := hT e _ hie
      split at h
      · rename_i kk n hn
        split at h
        · rename_i T' e' E enc d xs hid
          obtain ⟨hb, hk⟩ := ob_iff.1 h
          refine ⟨_, fun hg => opsem_pure fun m S w a H₂ hG ht hus => ?_, ⟨rfl, rfl⟩, hk⟩
          have hx : RelV m S w (a.eval x) (rd x) := hus (x, true, rd x) (by simp) rfl
          have hi' : RelV m S w (a.eval i) (rd i) := hus (i, true, rd i) (by simp) rfl
          rw [hn] at hi'
          rw [hx0] at hx
          obtain ⟨h0, h1⟩ := hb hg
          have hbl := hG.rel id
          rw [ht id (by simp), hid] at hbl
          obtain ⟨g', off, cap, cur, hmi, hq⟩ := hbl
          have hv : a.eval x = .slice (some ⟨g', off, none⟩) xs.length cap := by
            generalize a.eval x = v at hx
            cases hx with
            | t _ _ h => cases h
            | own id n cap a hm => rw [hmi] at hm; cases hm; rfl
          refine ⟨_, fun w' _ => ?_, .qptr id ie.size n.toNat g' off _ cap hmi⟩
          have := run_indexAt_sl (P := P) hu hj w' g' off xs.length cap kk n h0 h1
          unfold execOp
          simp only [ho, hv, relV_int hi', Sem.run_bind, this, Result.andThen_ok, hs]
          rfl
        · exact h.elim
      · exact h.elim
  · exact h.elim

def evLenQ (T : Tab) (H : Heap) (nx : Nat) (t : TypeId) (id : Nat) (k : Res → Prop) : Prop :=
  match lkT T t with
  | some ⟨.slice _, _, _, _⟩ => match lkH H id with
    | .que _ _ _ _ xs => k ⟨.int .i64 xs.length, [id], [], nx⟩
    | _ => False
  | _ => False

theorem evLenQ_sound [Tabs] {P : Program} {T : Tab} (hT : TabOk P T) {rd : Operand → AV} {H : Heap} {nx id : Nat} {t : TypeId} {x : Operand} {o : Oper}
    (ho : o.op = .call { callee := .builtin .len, args := #[x], argTypes := #[t] }) (hx0 : rd x = .own id) {k : Res → Prop}
    (h : evLenQ T H nx t id k) : ∃ r, OpSemP P o [(x, true, rd x)] H nx r ∧ (r.wr = [] ∧ r.nx = nx) ∧ k r := by
  unfold evLenQ at h
  split at h
  · rename_i hi
    obtain ⟨hu, _⟩ := hT t _ hi
    simp only at hu
    split at h
    · rename_i T' e' E enc d xs hid
      refine ⟨_, opsem_pure fun m S w a H₂ hG ht hus => ?_, ⟨rfl, rfl⟩, h⟩
      have hx : RelV m S w (a.eval x) (rd x) := hus _ (List.mem_singleton.2 rfl) rfl
      rw [hx0] at hx
      have hbl := hG.rel id
      rw [ht id (by simp), hid] at hbl
      obtain ⟨g', off, cap, cur, hmi, hq⟩ := hbl
      have hv : a.eval x = .slice (some ⟨g', off, none⟩) xs.length cap := by
        generalize a.eval x = v at hx
        cases hx with
        | t _ _ h => cases h
        | own id n cap a hm => rw [hmi] at hm; cases hm; rfl
      refine ⟨goInt xs.length, fun w' _ => ?_, .t _ _ (.int .i64 _)⟩
      have := run_len_sl (P := P) (t := t) (ty := o.type) hu (v := .slice (some ⟨g', off, none⟩) xs.length cap) (n := xs.length) (.mk ..) w'
      unfold execOp
      simp [ho, resolve, invoke, builtin, hv, this]
    · exact h.elim
  · exact h.elim

/-! ### Storing into a row -/

/-- What stands for the one stands for the other. -/
def LeT (a b : AV) : Prop := ∀ (S : Blocks) (w : World) (v : Value), RelT S w v a → RelT S w v b


theorem opsem_freeze2 [Tabs] {P : Program} {o : Oper} {l : List Operand} {rd : Operand → AV} {H : Heap} {nx : Nat} {r : Res} {ids : List Nat} (hids : ∀ x ∈ l, ∀ id ∈ frzI (rd x), id ∈ ids)
    (h : OpSem P o (l.map fun x => (x, true, frzV H (rd x))) H nx r) (ht0 : ∀ id ∈ r.touch, id ∉ ids) : OpSem P o (l.map fun x => (x, true, rd x)) H nx ⟨r.v, r.touch ++ ids, r.wr ++ ids.map (fun i => (i, AB.dead)), r.nx⟩ := by
  intro m S w a H₂ K Q hG ht hfree hus hK
  refine h m (fun g => S g ∨ lent m H₂ ids g) w a (ids.map (fun i => (i, AB.dead)) ++ H₂) K Q (good_freeze hG ids) (fun id hid => ?_) hfree (fun u hu _ => ?_) (fun v m' S' w' hE hV => ?_)
  · rw [lkH_dead, if_neg (ht0 id hid)]
    exact ht id (List.mem_append.2 (.inl hid))
  · obtain ⟨x, hx, rfl⟩ := List.mem_map.1 hu
    exact frzV_rel hG (fun id hi => ht id (List.mem_append.2 (.inr (hids x hx id hi)))) (fun _ h => .inl h) (fun g ⟨i, v, hi, h1, h2, h3⟩ => .inr ⟨i, v, hids x hx i hi, h1, h2, h3⟩) (hus (x, true, rd x) (List.mem_map.2 ⟨x, hx, rfl⟩) rfl)
  · have hown : ∀ g, own m (ids.map (fun i => (i, AB.dead)) ++ H₂) g → own m H₂ g := by
      rintro g ⟨i, v, hl, hm, hb⟩
      rw [lkH_dead] at hl
      by_cases e : i ∈ ids
      · rw [if_pos e] at hl; cases hl
      · rw [if_neg e] at hl; exact ⟨i, v, hl, hm, hb⟩
    refine hK v m' S' w' ⟨hE.ids, hE.same, fun g hg => hE.ros g (.inl hg), fun g hg => ?_, ⟨hE.far.os, hE.far.tape, hE.far.output, hE.far.size, fun k hk hn => hE.far.block k hk fun ho => hn (hown k ho)⟩, fun k hk => ?_, by rw [List.append_assoc]; exact hE.good⟩ hV
    · rcases hE.fresh g hg with (h | ⟨i, v, hi, h1, h2, h3⟩) | h | h
      · exact .inl h
      · exact .inr (.inl ⟨i, v, h1, h2, h3⟩)
      · exact .inr (.inl (hown g h))
      · exact .inr (.inr h)
    · rcases hE.owns k (by rw [← List.append_assoc]; exact hk) with h | h
      · exact .inl (hown k h)
      · exact .inr h

def notIns : List Nat → List Nat → Bool
  | [], _ => true
  | i :: l, ids => match notIn i ids with
    | true => notIns l ids
    | false => false
theorem notIns_spec {ids : List Nat} : ∀ {l : List Nat}, notIns l ids = true → ∀ i ∈ l, i ∉ ids
  | [], _, i, h => by simp at h
  | j :: l, h, i, hi => by
    unfold notIns at h
    split at h
    · rename_i hb
      rcases List.mem_cons.1 hi with rfl | hi
      · intro hm; exact notIn_spec hb _ hm rfl
      · exact notIns_spec h i hi
    · cases h

/-- A store; what goes into a row's element is read only from then on; nil may be put into a field as an empty list. -/
def evStoreF (T : Tab) (H : Heap) (nx : Nat) (t : TypeId) (p v : AV) (k : Res → Prop) : Prop :=
  match p with
  | .eptr id E i (q + 1) => match v with
    | .nils => ∃ v', LeT .nils v' ∧ evStore T H nx t (.eptr id E i (q + 1)) v' k
    | _ => match frzI v with
      | [] => evStore T H nx t p v k
      | i :: is => evStore T H nx t p (frzV H v) fun r => match notIns r.touch (i :: is) with
        | true => k ⟨r.v, r.touch ++ (i :: is), r.wr ++ (i :: is).map (fun i => (i, AB.dead)), r.nx⟩
        | false => False
  | .eptr .. => match frzI v with
    | [] => evStore T H nx t p v k
    | i :: is => evStore T H nx t p (frzV H v) fun r => match notIns r.touch (i :: is) with
      | true => k ⟨r.v, r.touch ++ (i :: is), r.wr ++ (i :: is).map (fun i => (i, AB.dead)), r.nx⟩
      | false => False
  | _ => evStore T H nx t p v k

theorem evStoreF_sound [Tabs] {P : Program} {T : Tab} (hT : TabOk P T) {rd : Operand → AV} {H : Heap} {nx : Nat} {t : TypeId} {x y : Operand} {o : Oper} (ho : o.op = .store t x y) {k : Res → Prop}
    (h : evStoreF T H nx t (rd x) (rd y) k) : ∃ r, OpSem P o [(x, true, rd x), (y, true, rd y)] H nx r ∧ nx ≤ r.nx ∧ k r := by
  have frz : ∀ (a b c d : Nat), rd x = .eptr a b c d → (match frzI (rd y) with
      | [] => evStore T H nx t (rd x) (rd y) k
      | i :: is => evStore T H nx t (rd x) (frzV H (rd y)) fun r => match notIns r.touch (i :: is) with
        | true => k ⟨r.v, r.touch ++ (i :: is), r.wr ++ (i :: is).map (fun i => (i, AB.dead)), r.nx⟩
        | false => False) → ∃ r, OpSem P o [(x, true, rd x), (y, true, rd y)] H nx r ∧ nx ≤ r.nx ∧ k r := by
    intro a b c d hp h
    split at h
    · exact evStore_sound hT ho h
    · rename_i i is hids
      have hp2 : frzV H (rd x) = rd x := by rw [hp]; rfl
      obtain ⟨r, h1, h2, h3⟩ := evStore_sound (rd := fun z => frzV H (rd z)) hT ho (k := fun r => match notIns r.touch (i :: is) with
        | true => k ⟨r.v, r.touch ++ (i :: is), r.wr ++ (i :: is).map (fun i => (i, AB.dead)), r.nx⟩
        | false => False) (by rw [hp2]; exact h)
      split at h3
      · rename_i ht
        refine ⟨_, ?_, ?_, h3⟩
        · exact opsem_freeze2 (P := P) (o := o) (l := [x, y]) (rd := rd) (H := H) (nx := nx) (r := r) (ids := i :: is) (fun z hz id hid => by
            simp only [List.mem_cons, List.not_mem_nil, or_false] at hz
            rcases hz with rfl | rfl
            · rw [hp] at hid; simp [frzI, frz0I] at hid
            · rw [← hids]; exact hid) h1 (notIns_spec ht)
        · exact h2
      · exact h3.elim
  unfold evStoreF at h
  split at h
  · rename_i a b c d hp
    split at h
    · rename_i hy
      haveI : ∀ z : Operand, Decidable (z = y) := fun _ => Classical.propDecidable _
      obtain ⟨v', hle, h⟩ := h
      obtain ⟨r, h1, h2, h3⟩ := evStore_sound (rd := fun z => if z = y then v' else rd z) hT ho (k := k) (by
        by_cases e : x = y
        · rw [← e, hp] at hy
          cases hy
        · simp only [if_neg e, if_true]
          rw [hp]
          exact h)
      have hxy : x ≠ y := fun e => by rw [← e, hp] at hy; cases hy
      refine ⟨r, ?_, h2, h3⟩
      intro m S w a₀ H₂ K Q hG ht hf hus hK
      refine h1 m S w a₀ H₂ K Q hG ht hf (fun u hu hu2 => ?_) hK
      simp only [List.mem_cons, List.not_mem_nil, or_false, if_neg hxy, if_true] at hu
      rcases hu with rfl | rfl
      · exact hus _ (by simp) rfl
      · have := hus (y, true, rd y) (by simp) rfl
        simp only [hy] at this
        exact .t _ _ (hle _ _ _ (this.toT rfl))
    · exact frz a b c (d + 1) hp h
  · rename_i a b c d _ hp
    exact frz a b c d hp h
  · exact evStore_sound hT ho h

end Go.Own
