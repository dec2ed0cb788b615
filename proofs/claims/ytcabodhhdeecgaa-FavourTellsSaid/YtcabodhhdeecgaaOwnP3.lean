/-
  A slice literal over rows of the call's own: these are read only from then on.
-/
import Derived.Test.YtcabodhhdeecgaaOwnP2
namespace Go.Own

def frz0 (H : Heap) : AV → AV
  | .own id => match lkH H id with
    | .lst _ E l => .lsl E l
    | .row _ E enc d xs => .sl E enc d xs
    | _ => .own id
  | .pre id n => match lkH H id with
    | .lst _ E l => .lsl E (l.take n)
    | .row _ E enc d xs => .sl E enc d (xs.take n)
    | _ => .pre id n
  | v => v
def frz0I : AV → List Nat
  | .own id => [id]
  | .pre id _ => [id]
  | _ => []
def frzV (H : Heap) : AV → AV
  | .agg l => .agg (l.map (frz0 H))
  | v => frz0 H v
def frzI : AV → List Nat
  | .agg l => l.flatMap frz0I
  | v => frz0I v

theorem frz0_rel [Tabs] {m : Ids} {S S' : Blocks} {w : World} {H H₂ : Heap} {u : Value} {v : AV} (hG : Good m S w H₂) (ht : ∀ id ∈ frz0I v, lkH H₂ id = lkH H id) (hS : ∀ g, S g → S' g) (hl : ∀ g, lent m H₂ (frz0I v) g → S' g)
    (h : RelV m S w u v) : RelV m S' w u (frz0 H v) := by
  have same : RelV m S' w u v := h.mono (fun _ _ h => h) hS (fun _ _ => rfl)
  unfold frz0
  split
  · rename_i id
    have hid := ht id (by simp [frz0I])
    split
    · rename_i e E l hc
      obtain ⟨v', vs, hmi, hrow⟩ := own_row (s := .lst l) hG hid hc
      cases h with
      | t _ _ h => cases h
      | own id n cap a hm =>
        rw [hmi] at hm
        cases hm
        exact .t _ _ (hrow.lent hS fun g hg => hl g ⟨id, _, by simp [frz0I], by rw [hid, hc]; rfl, hmi, hg⟩)
    · rename_i T' e E enc d xs hc
      obtain ⟨v', vs, hmi, hrow⟩ := own_row (s := .row enc d xs) hG hid hc
      cases h with
      | t _ _ h => cases h
      | own id n cap a hm =>
        rw [hmi] at hm
        cases hm
        exact .t _ _ (.sl _ _ _ _ _ (hrow.lent hS fun g hg => hl g ⟨id, _, by simp [frz0I], by rw [hid, hc]; rfl, hmi, hg⟩))
    · exact same
  · rename_i id n
    have hid := ht id (by simp [frz0I])
    split
    · rename_i e E l hc
      obtain ⟨v', vs, hmi, hrow⟩ := own_row (s := .lst l) hG hid hc
      cases h with
      | t _ _ h => cases h
      | pre id n n' cap a hm hle =>
        rw [hmi] at hm
        cases hm
        exact .t _ _ ((hrow.take hle).lent hS fun g hg => hl g ⟨id, _, by simp [frz0I], by rw [hid, hc]; rfl, hmi, by cases a <;> simp_all [blk]⟩)
    · rename_i T' e E enc d xs hc
      obtain ⟨v', vs, hmi, hrow⟩ := own_row (s := .row enc d xs) hG hid hc
      cases h with
      | t _ _ h => cases h
      | pre id n n' cap a hm hle =>
        rw [hmi] at hm
        cases hm
        have := (hrow.take hle).lent hS fun g hg => hl g ⟨id, _, by simp [frz0I], by rw [hid, hc]; rfl, hmi, by cases a <;> simp_all [blk]⟩
        simp only [Src.list] at this
        rw [← List.map_take] at this
        exact .t _ _ (.sl _ _ _ _ _ this)
    · exact same
  · exact same

theorem frzV_rel [Tabs] {m : Ids} {S S' : Blocks} {w : World} {H H₂ : Heap} {u : Value} {v : AV} (hG : Good m S w H₂) (ht : ∀ id ∈ frzI v, lkH H₂ id = lkH H id) (hS : ∀ g, S g → S' g) (hl : ∀ g, lent m H₂ (frzI v) g → S' g)
    (h : RelV m S w u v) : RelV m S' w u (frzV H v) := by
  unfold frzV
  split
  · rename_i l
    have main : ∀ (cs : Array Value), cs.size = l.length → (∀ (j : Nat) (c : Value) (a : AV), cs[j]? = some c → l[j]? = some a → RelV m S w c a) → RelV m S' w (.agg cs) (.agg (l.map (frz0 H))) := by
      intro cs hcs hr
      refine .agg cs _ (by simpa using hcs) fun j c a hj ha => ?_
      simp only [List.getElem?_map, Option.map_eq_some_iff] at ha
      obtain ⟨a0, ha0, rfl⟩ := ha
      have hmem : ∀ id, id ∈ frz0I a0 → id ∈ frzI (.agg l) := fun id hi => List.mem_flatMap.2 ⟨a0, List.mem_of_getElem? ha0, hi⟩
      exact frz0_rel hG (fun id hi => ht id (hmem id hi)) hS (fun g ⟨i, v, hi, h1, h2, h3⟩ => hl g ⟨i, v, hmem i hi, h1, h2, h3⟩) (hr j c a0 hj ha0)
    cases h with
    | t _ _ h => cases h with
      | agg cs _ hcs hr => exact main cs hcs fun j c a h1 h2 => .t _ _ (hr j c a h1 h2)
    | agg cs _ hcs hr => exact main cs hcs hr
  · rename_i v2 hv
    have hi : frzI v = frz0I v := by
      cases v <;> first | rfl | (exact (hv _ rfl).elim)
    rw [hi] at ht hl
    exact frz0_rel hG ht hS hl h

theorem lkH_dead (ids : List Nat) (H : Heap) (i : Nat) : lkH (ids.map (fun i => (i, AB.dead)) ++ H) i = if i ∈ ids then .dead else lkH H i := by
  induction ids with
  | nil => simp
  | cons j ids ih =>
    rw [List.map_cons, List.cons_append, lkH_cons, ih]
    by_cases e : j = i
    · subst e; simp
    · rw [if_neg e]
      have : i ≠ j := fun h => e h.symm
      simp [this]

theorem good_freeze [Tabs] {m : Ids} {S : Blocks} {w : World} {H : Heap} (h : Good m S w H) (ids : List Nat) : Good m (fun g => S g ∨ lent m H ids g) w (ids.map (fun i => (i, AB.dead)) ++ H) := by
  have live : ∀ i, (lkH (ids.map (fun i => (i, AB.dead)) ++ H) i).live = true → i ∉ ids ∧ (lkH H i).live = true := by
    intro i hl
    rw [lkH_dead] at hl
    by_cases e : i ∈ ids
    · rw [if_pos e] at hl; cases hl
    · rw [if_neg e] at hl; exact ⟨e, hl⟩
  refine ⟨fun id => ?_, fun i j vi vj k hi hj => h.sep i j vi vj k (live i hi).2 (live j hj).2, fun g hg => ?_, h.tab.mono (fun _ h => .inl h) fun _ _ => rfl⟩
  · rw [lkH_dead]
    split
    · trivial
    · exact (h.rel id).mono (fun _ _ h => h) (fun _ h => .inl h) (fun _ _ => rfl) (fun _ _ _ _ _ => rfl)
  · rcases hg with hg | ⟨i0, v0, hi0, hl0, hm0, hb0⟩
    · exact ⟨(h.ro g hg).1, fun i v hl => (h.ro g hg).2 i v (live i hl).2⟩
    · refine ⟨h.blk_lt hl0 hm0 hb0, fun i v hl hm hb => ?_⟩
      have := h.sep i i0 v v0 g (live i hl).2 hl0 hm hm0 hb hb0
      subst this
      exact (live i hl).1 hi0

theorem opsem_freeze [Tabs] {P : Program} {o : Oper} {l : List Operand} {rd : Operand → AV} {H : Heap} {nx : Nat} {r : Res} {ids : List Nat} (hids : ∀ x ∈ l, ∀ id ∈ frzI (rd x), id ∈ ids)
    (h : OpSem P o (l.map fun x => (x, true, frzV H (rd x))) H nx r) (ht0 : r.touch = []) : OpSem P o (l.map fun x => (x, true, rd x)) H nx ⟨r.v, ids, r.wr ++ ids.map (fun i => (i, AB.dead)), r.nx⟩ := by
  intro m S w a H₂ K Q hG ht hfree hus hK
  refine h m (fun g => S g ∨ lent m H₂ ids g) w a (ids.map (fun i => (i, AB.dead)) ++ H₂) K Q (good_freeze hG ids) (by rw [ht0]; simp) hfree (fun u hu _ => ?_) (fun v m' S' w' hE hV => ?_)
  · obtain ⟨x, hx, rfl⟩ := List.mem_map.1 hu
    exact frzV_rel hG (fun id hi => ht id (hids x hx id hi)) (fun _ h => .inl h) (fun g ⟨i, v, hi, h1, h2, h3⟩ => .inr ⟨i, v, hids x hx i hi, h1, h2, h3⟩) (hus (x, true, rd x) (List.mem_map.2 ⟨x, hx, rfl⟩) rfl)
  · have hown : ∀ g, own m (ids.map (fun i => (i, AB.dead)) ++ H₂) g → own m H₂ g := by
      rintro g ⟨i, v, hl, hm, hb⟩
      rw [lkH_dead] at hl
      by_cases e : i ∈ ids
      · rw [if_pos e] at hl; cases hl
      · rw [if_neg e] at hl; exact ⟨i, v, hl, hm, hb⟩
    refine hK v m' S' w' ⟨hE.ids, hE.same, fun g hg => hE.ros g (.inl hg), fun g hg => ?_, ⟨hE.far.os, hE.far.tape, hE.far.output, hE.far.size, fun k hk hn => hE.far.block k hk fun ho => hn (hown k ho)⟩, fun k hk => ?_, by rw [List.append_assoc]; exact hE.good⟩ hV
    · rcases hE.fresh g hg with (h | ⟨i, v, hi, h1, h2, h3⟩) | h | h
      · exact .inl h
      · exact .inr (.inl ⟨i, v, h1, h2, h3⟩)
      · exact .inr (.inl (hown g h))
      · exact .inr (.inr h)
    · rcases hE.owns k (by rw [← List.append_assoc]; exact hk) with h | h
      · exact .inl (hown k h)
      · exact .inr h

def evBuildSliceF (T : Tab) (H : Heap) (nx : Nat) (t : TypeId) (n : Nat) (parts : List (Nat × AV)) (k : Res → Prop) : Prop :=
  match parts.flatMap fun p => frzI p.2 with
  | [] => evBuildSlice T nx t n parts k
  | i :: is => evBuildSlice T nx t n (parts.map fun p => (p.1, frzV H p.2)) fun r => match r.touch with
    | [] => k ⟨r.v, i :: is, r.wr ++ (i :: is).map (fun i => (i, AB.dead)), r.nx⟩
    | _ => False

theorem evBuildSliceF_sound [Tabs] {P : Program} {T : Tab} (hT : TabOk P T) {rd : Operand → AV} {H : Heap} {nx : Nat} {t : TypeId} {n : Nat} {parts : Array (Nat × Operand)} {o : Oper} (ho : o.op = .buildSlice t n parts) {k : Res → Prop}
    (h : evBuildSliceF T H nx t n (parts.toList.map fun p => (p.1, rd p.2)) k) : ∃ r, OpSem P o (parts.toList.map fun p => (p.2, true, rd p.2)) H nx r ∧ nx ≤ r.nx ∧ k r := by
  unfold evBuildSliceF at h
  split at h
  · exact evBuildSlice_sound hT ho h
  · rename_i i is hids
    rw [List.map_map] at h
    obtain ⟨r, h1, h2, h3⟩ := evBuildSlice_sound (rd := fun x => frzV H (rd x)) hT ho h
    split at h3
    · rename_i ht
      refine ⟨_, ?_, ?_, h3⟩
      · have := opsem_freeze (P := P) (o := o) (l := parts.toList.map (·.2)) (rd := rd) (H := H) (nx := nx) (r := r) (ids := i :: is) (fun x hx id hid => ?_) (by rw [List.map_map]; exact h1) ht
        · rw [List.map_map] at this
          exact this
        · obtain ⟨p, hp, rfl⟩ := List.mem_map.1 hx
          rw [← hids]
          exact List.mem_flatMap.2 ⟨_, List.mem_map.2 ⟨p, hp, rfl⟩, hid⟩
      · exact h2
    · exact h3.elim

end Go.Own
