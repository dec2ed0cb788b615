/-
  Struct and slice literals, over abstract values.
-/
import Derived.Test.YtcabodhhdeecgaaOwnE
namespace Go.Own

theorem foldl_set_list (off : Nat) : ∀ (l : List Value) (k : Nat) (cs : Array Value), off + k + l.length ≤ cs.size →
    ((l.zipIdx k).foldl (fun cs (x : Value × Nat) => cs.setIfInBounds (off + x.2) x.1) cs).size = cs.size ∧
    ∀ q, ((l.zipIdx k).foldl (fun cs (x : Value × Nat) => cs.setIfInBounds (off + x.2) x.1) cs)[q]? = if off + k ≤ q ∧ q < off + k + l.length then l[q - (off + k)]? else cs[q]?
  | [], k, cs, _ => ⟨rfl, fun q => by rw [if_neg (by simp)]; rfl⟩
  | v :: l, k, cs, h => by
    simp only [List.zipIdx_cons, List.foldl_cons]
    simp only [List.length_cons] at h
    obtain ⟨h1, h2⟩ := foldl_set_list off l (k + 1) (cs.setIfInBounds (off + k) v) (by simp; omega)
    refine ⟨by simpa using h1, fun q => ?_⟩
    rw [h2]
    by_cases hq : off + (k + 1) ≤ q ∧ q < off + (k + 1) + l.length
    · rw [if_pos hq, if_pos (by simp; omega)]
      obtain ⟨p, hp⟩ : ∃ p, q - (off + k) = p + 1 := ⟨q - (off + k) - 1, by omega⟩
      rw [hp, List.getElem?_cons_succ]
      congr 1
      omega
    · rw [if_neg hq]
      by_cases hqo : q = off + k
      · subst hqo
        rw [if_pos (by simp)]
        have : off + k < cs.size := by omega
        simp [this]
      · rw [if_neg (by simp; omega), Array.getElem?_setIfInBounds_ne (by omega)]

theorem foldl_set (off : Nat) (v : Array Value) (cs : Array Value) (h : off + v.size ≤ cs.size) :
    (v.zipIdx.foldl (fun cs (x : Value × Nat) => cs.setIfInBounds (off + x.2) x.1) cs).size = cs.size ∧
    ∀ q, (v.zipIdx.foldl (fun cs (x : Value × Nat) => cs.setIfInBounds (off + x.2) x.1) cs)[q]? = if off ≤ q ∧ q < off + v.size then v[q - off]? else cs[q]? := by
  have := foldl_set_list off v.toList 0 cs (by simpa using h)
  rw [← Array.foldl_toList, Array.toList_zipIdx]
  simpa using this

/-- Struct literals: the parts are put over the zero. -/
def fillA (place : Nat → Option (Nat × Nat)) : List AV → List (Nat × AV) → (List AV → Prop) → Prop
  | cells, [], k => k cells
  | cells, (i, v) :: rest, k => match place i with
    | none => False
    | some (off, size) => withCells v fun xs => match Nat.beq xs.length size && Nat.ble (off + size) cells.length && allOne xs with
      | true => fillA place (putL off xs cells) rest k
      | false => False

theorem fill_cons (place : Nat → Option (Nat × Nat)) (cells : Array Value) (i : Nat) (v : Value) (rest : List (Nat × Value)) (off size : Nat) (hp : place i = some (off, size)) (h1 : v.cells.size = size) (h2 : off + size ≤ cells.size) :
    Instr.fill place cells ((i, v) :: rest) = Instr.fill place (v.cells.zipIdx.foldl (fun cs (x : Value × Nat) => cs.setIfInBounds (off + x.2) x.1) cells) rest := by
  rw [Instr.fill, hp]
  simp only
  rw [if_neg (by simp; omega)]

theorem fillA_sound {place : Nat → Option (Nat × Nat)} {k : List AV → Prop} : ∀ (parts : List (Nat × Operand)) (rd : Operand → AV) (cells : List AV), fillA place cells (parts.map fun p => (p.1, rd p.2)) k →
    (∀ a ∈ cells, a.one = true) →
    ∃ l, k l ∧ (∀ a ∈ l, a.one = true) ∧ ∀ (m : Ids) (S : Blocks) (w : World) (a : Act) (cs : Array Value), (∀ p ∈ parts, RelV m S w (a.eval p.2) (rd p.2)) → cs.size = cells.length → (∀ (j : Nat) (c : Value) (x : AV), cs[j]? = some c → cells[j]? = some x → RelV m S w c x) →
      ∃ cs', Instr.fill place cs (parts.map fun p => (p.1, a.eval p.2)) = some cs' ∧ cs'.size = l.length ∧ (∀ (j : Nat) (c : Value) (x : AV), cs'[j]? = some c → l[j]? = some x → RelV m S w c x)
  | [], rd, cells, h, h1 => ⟨cells, h, h1, fun _ _ _ _ cs _ hs hr => ⟨cs, rfl, hs, hr⟩⟩
  | (i, y) :: rest, rd, cells, h, h1 => by
    simp only [List.map_cons, fillA] at h
    split at h
    · exact h.elim
    · rename_i off size hpl
      rw [withCells_iff] at h
      split at h
      · rename_i hc
        simp only [Bool.and_eq_true] at hc
        obtain ⟨⟨hc1, hc2⟩, hc3⟩ := hc
        have e1 : (rd y).cells.length = size := Nat.eq_of_beq_eq_true hc1
        have e2 : off + size ≤ cells.length := Nat.le_of_ble_eq_true hc2
        have e3 := allOne_spec hc3
        have hone : ∀ a ∈ putL off (rd y).cells cells, a.one = true := by
          intro z hz
          obtain ⟨q, hq⟩ := List.getElem?_of_mem hz
          rw [putL_get _ _ _ _ (by rw [e1]; exact e2)] at hq
          split at hq
          · exact e3 z (List.mem_of_getElem? hq)
          · exact h1 z (List.mem_of_getElem? hq)
        obtain ⟨l, hk, hl1, hl⟩ := fillA_sound rest rd _ h hone
        refine ⟨l, hk, hl1, fun m S w a cs hrel hs hr => ?_⟩
        have hy : RelV m S w (a.eval y) (rd y) := hrel (i, y) (by simp)
        obtain ⟨c1, c2, _⟩ := hy.cells e3
        obtain ⟨s1, s2⟩ := foldl_set off (a.eval y).cells cs (by omega)
        obtain ⟨cs', hf, hsz, hrr⟩ := hl m S w a _ (fun p hp => hrel p (by simp [hp])) (by rw [s1, putL_length]; exact hs) (fun j c x hj hx => by
          rw [s2] at hj
          rw [putL_get _ _ _ _ (by rw [e1]; exact e2)] at hx
          have hsy : (a.eval y).cells.size = (rd y).cells.length := c1
          rw [hsy] at hj
          by_cases hq : off ≤ j ∧ j < off + (rd y).cells.length
          · rw [if_pos hq] at hj hx; exact c2 _ _ _ hj hx
          · rw [if_neg hq] at hj hx; exact hr _ _ _ hj hx)
        exact ⟨cs', by simp only [List.map_cons]; rw [fill_cons place cs i _ _ off size hpl (by omega) (by omega)]; exact hf, hsz, hrr⟩
      · exact h.elim

def placesA (T : Tab) : List Field → Option (List (Nat × Nat))
  | [] => some []
  | f :: fs => match lkT T f.type with
    | none => none
    | some i => match placesA T fs with
      | none => none
      | some r => some ((f.offset, i.size) :: r)

theorem placesA_sound {P : Program} {T : Tab} (hT : TabOk P T) : ∀ (fs : List Field) (pl : List (Nat × Nat)), placesA T fs = some pl → fs.mapM (fun f => (P.info? f.type).map fun i => (f.offset, i.size)) = some pl
  | [], pl, h => by simp [placesA] at h; subst h; simp
  | f :: fs, pl, h => by
    unfold placesA at h
    split at h
    · cases h
    · rename_i i hi
      obtain ⟨_, j, hj, hs, _⟩ := hT _ _ hi
      split at h
      · cases h
      · rename_i r hr
        cases h
        simp [List.mapM_cons, hj, hs, placesA_sound hT fs r hr]

def evBuild (T : Tab) (nx : Nat) (t : TypeId) (parts : List (Nat × AV)) (k : Res → Prop) : Prop :=
  match lkT T t with
  | some ⟨.struct fs, _, _, z⟩ => match placesA T fs.toList with
    | none => False
    | some pl => withCells (avOf z) fun zs => match allOne zs with
      | true => fillA (fun i => pl[i]?) zs parts fun l => k ⟨.agg l, [], [], nx⟩
      | false => False
  | _ => False

theorem evBuild_sound [Tabs] {P : Program} {T : Tab} (hT : TabOk P T) {rd : Operand → AV} {H : Heap} {nx : Nat} {t : TypeId} {parts : Array (Nat × Operand)} {o : Oper} (ho : o.op = .build t parts) {k : Res → Prop}
    (h : evBuild T nx t (parts.toList.map fun p => (p.1, rd p.2)) k) : ∃ r, OpSemP P o (parts.toList.map fun p => (p.2, true, rd p.2)) H nx r ∧ (r.wr = [] ∧ r.nx = nx) ∧ k r := by
  unfold evBuild at h
  split at h
  · rename_i fs s b z hi
    obtain ⟨hu, j, hj, _, _, hz⟩ := hT t _ hi
    simp only at hu hz
    split at h
    · exact h.elim
    · rename_i pl hpl
      have hpl' := placesA_sound hT _ _ hpl
      rw [withCells_iff] at h
      split at h
      · rename_i h1
        obtain ⟨l, hk, _, hl⟩ := fillA_sound _ rd _ h (allOne_spec h1)
        refine ⟨_, opsem_pure fun m S w a H₂ hG ht hus => ?_, ⟨rfl, rfl⟩, hk⟩
        obtain ⟨c1, c2, _⟩ := (RelV.t (m := m) _ _ (relT_avOf S w z)).cells (allOne_spec h1)
        obtain ⟨cs', hf, hsz, hrr⟩ := hl m S w a z.cells (fun p hp => hus (p.2, true, rd p.2) (List.mem_map.2 ⟨p, hp, rfl⟩) rfl) c1 c2
        refine ⟨.agg cs', ?_, .agg _ _ hsz hrr⟩
        have hb : P.built t (parts.map fun p => (p.1, a.eval p.2)).toList = some cs' := by
          unfold Program.built
          simp only [hj, hu, hz, hpl']
          rw [Array.toList_map]
          simpa using hf
        intro w' _
        have hrun := run_build (P := P) w' t (parts.map fun p => (p.1, a.eval p.2)) cs' hb
        unfold execOp
        simp only [ho, Sem.run_bind, hrun, Result.andThen_ok]
        rfl
      · exact h.elim
  · exact h.elim

end Go.Own
