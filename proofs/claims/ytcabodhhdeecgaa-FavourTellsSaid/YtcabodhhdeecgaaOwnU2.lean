/-
  Rows of the call's own that are read only from some point on.
-/
import Derived.Test.YtcabodhhdeecgaaOwnU
namespace Go.Own

def frzP (H : Heap) (id off : Nat) : AV :=
  match lkH H id with
  | .cells _ l => match treesB l with
    | true => .rop (dropL off l)
    | false => .ptr id off
  | _ => .ptr id off
def frz1 (H : Heap) (ids : List Nat) : AV → AV
  | .own id => match notIn id ids with
    | true => .own id
    | false => frz0 H (.own id)
  | .ptr id off => match notIn id ids with
    | true => .ptr id off
    | false => frzP H id off
  | v => v
def frzA (H : Heap) (ids : List Nat) : AV → AV
  | .agg l => .agg (l.map (frz1 H ids))
  | .fn f a b => .fn f (a.map (frz1 H ids)) (b.map (frz1 H ids))
  | v => frz1 H ids v
def frzB (H : Heap) (ids : List Nat) : AB → AB
  | .cells e l => .cells e (l.map (frz1 H ids))
  | b => b
def frzEnv (H : Heap) (ids : List Nat) : Env → Env
  | [] => []
  | (s, v) :: r => (s, frzA H ids v) :: frzEnv H ids r
def frzMap (H : Heap) (ids : List Nat) : Heap → Heap
  | [] => []
  | (i, b) :: r => (i, frzB H ids b) :: frzMap H ids r
def deads : List Nat → Heap → Heap
  | [], H => H
  | i :: l, H => (i, .dead) :: deads l H

theorem notIn_false {id : Nat} : ∀ {l : List Nat}, notIn id l = false → id ∈ l
  | [], h => by simp [notIn] at h
  | j :: l, h => by
    unfold notIn at h
    split at h
    · rename_i hb
      rw [Nat.eq_of_beq_eq_true hb]
      exact List.mem_cons_self
    · exact List.mem_cons.2 (.inr (notIn_false h))

theorem lk_frzEnv (H : Heap) (ids : List Nat) : ∀ (env : Env) (s : Nat), lk (frzEnv H ids env) s = frzA H ids (lk env s)
  | [], s => rfl
  | (i, v) :: r, s => by
    rw [frzEnv, lk_cons, lk_cons, lk_frzEnv H ids r s]
    split <;> rfl
theorem lkH_frzMap (H : Heap) (ids : List Nat) : ∀ (H' : Heap) (s : Nat), lkH (frzMap H ids H') s = frzB H ids (lkH H' s)
  | [], s => rfl
  | (i, v) :: r, s => by
    rw [frzMap, lkH_cons, lkH_cons, lkH_frzMap H ids r s]
    split <;> rfl
theorem lkH_deads : ∀ (ids : List Nat) (H : Heap) (s : Nat), lkH (deads ids H) s = if s ∈ ids then .dead else lkH H s
  | [], H, s => by simp [deads]
  | i :: l, H, s => by
    rw [deads, lkH_cons, lkH_deads l H s]
    by_cases e : i = s
    · subst e; simp
    · rw [if_neg e]
      have : s ≠ i := fun h => e h.symm
      simp [this]

theorem frz1_rel [Tabs] {m : Ids} {S : Blocks} {w : World} {H : Heap} {ids : List Nat} {u : Value} {v : AV} (hG : Good m S w H) (h : RelV m S w u v) : RelV m (fun g => S g ∨ lent m H ids g) w u (frz1 H ids v) := by
  have same : RelV m (fun g => S g ∨ lent m H ids g) w u v := h.mono (fun _ _ h => h) (fun _ h => .inl h) (fun _ _ => rfl)
  unfold frz1
  split
  · rename_i id
    split
    · exact same
    · rename_i hn
      exact frz0_rel hG (fun _ _ => rfl) (fun _ h => .inl h) (fun g ⟨i, v, hi, h1, h2, h3⟩ => .inr ⟨i, v, by
        simp only [frz0I, List.mem_singleton] at hi
        subst hi
        exact notIn_false hn, h1, h2, h3⟩) h
  · rename_i id off
    split
    · exact same
    · rename_i hn
      unfold frzP
      split
      · rename_i e l hc
        split
        · rename_i ht
          have hb := hG.rel id
          rw [hc] at hb
          obtain ⟨g, cs, hmi, hg, hl, h1, hrel⟩ := hb
          cases h with
          | t _ _ h => cases h
          | ptr id off g' hm =>
            rw [hmi] at hm
            cases hm
            rw [dropL_eq]
            refine .t _ _ (.rop g off (l.drop off) (cs.toList.drop off) (.inr ⟨id, _, notIn_false hn, by rw [hc]; rfl, hmi, rfl⟩) (by simp; omega) (fun a ha => h1 a (List.mem_of_mem_drop ha)) (fun j c hj => ?_) (fun j c a hj ha => ?_))
            · rw [List.getElem?_drop] at hj
              rw [cell_of_row w g (off + j) cs e (0, 0) hg]
              simpa using hj
            · rw [List.getElem?_drop] at hj ha
              refine RelT.more (fun _ h => .inl h) ((hrel (off + j) c a (by simpa using hj) ha).toT (treesB_spec ht a (List.mem_of_getElem? ha)))
        · exact same
      · exact same
  · exact same

theorem frz1_one (H : Heap) (ids : List Nat) (v : AV) (h : v.one = true) : (frz1 H ids v).one = true := by
  unfold frz1
  split
  · split
    · rfl
    · simp only [frz0]
      split <;> rfl
  · split
    · rfl
    · unfold frzP
      split
      · split <;> rfl
      · rfl
  · exact h

theorem frzA_rel [Tabs] {m : Ids} {S : Blocks} {w : World} {H : Heap} {ids : List Nat} {u : Value} {v : AV} (hG : Good m S w H) (h : RelV m S w u v) : RelV m (fun g => S g ∨ lent m H ids g) w u (frzA H ids v) := by
  unfold frzA
  split
  · rename_i l
    obtain ⟨cs, rfl, hl, hr⟩ := relV_agg h
    refine .agg cs _ (by simpa using hl) fun j c a hj ha => ?_
    simp only [List.getElem?_map, Option.map_eq_some_iff] at ha
    obtain ⟨a0, ha0, rfl⟩ := ha
    exact frz1_rel hG (hr j c a0 hj ha0)
  · rename_i f x y
    obtain ⟨fs, cs, rfl, h1, h2, r1, r2⟩ := relV_fn h
    refine .fn f fs cs _ _ (by simpa using h1) (by simpa using h2) (fun j c a hj ha => ?_) (fun j c a hj ha => ?_)
    · simp only [List.getElem?_map, Option.map_eq_some_iff] at ha
      obtain ⟨a0, ha0, rfl⟩ := ha
      exact frz1_rel hG (r1 j c a0 hj ha0)
    · simp only [List.getElem?_map, Option.map_eq_some_iff] at ha
      obtain ⟨a0, ha0, rfl⟩ := ha
      exact frz1_rel hG (r2 j c a0 hj ha0)
  · exact frz1_rel hG h

theorem frzB_live (H : Heap) (ids : List Nat) (b : AB) : (frzB H ids b).live = b.live := by cases b <;> rfl

theorem wk_frz [Tabs] {pn N : Nat} {env : Env} {H : Heap} {nx : Nat} (ids : List Nat) : Wk pn N ⟨env, H, nx⟩ ⟨frzEnv H ids env, deads ids (frzMap H ids H), nx⟩ := by
  rintro F a w hF ⟨m, S, hc, hs, hd, hr⟩
  have hG := hc.good
  have hG1 := good_freeze hG ids
  have hlk : ∀ i, lkH (deads ids (frzMap H ids H)) i = if i ∈ ids then .dead else frzB H ids (lkH H i) := fun i => by rw [lkH_deads, lkH_frzMap]
  have hlive : ∀ i, (lkH (deads ids (frzMap H ids H)) i).live = (lkH (ids.map (fun i => (i, AB.dead)) ++ H) i).live := fun i => by
    rw [hlk, lkH_dead]
    split
    · rfl
    · exact frzB_live H ids _
  have hlive0 : ∀ i, (lkH (deads ids (frzMap H ids H)) i).live = true → (lkH H i).live = true := fun i hl => by
    rw [hlk] at hl
    split at hl
    · cases hl
    · rwa [frzB_live] at hl
  refine ⟨m, fun g => S g ∨ lent m H ids g, ⟨⟨fun id => ?_, fun i j vi vj k hi hj => hG1.sep i j vi vj k (by rw [← hlive]; exact hi) (by rw [← hlive]; exact hj), fun g hg => ⟨(hG1.ro g hg).1, fun i v hl => (hG1.ro g hg).2 i v (by rw [← hlive]; exact hl)⟩, hG1.tab⟩, hc.free, hc.far, ?_, ?_, fun g hg => .inl (hc.ro0 g hg), hc.pins⟩, hs, hd, fun s => ?_⟩
  · have h0 := hG1.rel id
    rw [lkH_dead] at h0
    rw [hlk]
    split
    · trivial
    · rename_i hn
      rw [if_neg hn] at h0
      have h1 := hG.rel id
      cases hb : lkH H id with
      | cells e l =>
        rw [hb] at h1
        obtain ⟨g, cs, hmi, hg, hl, hone, hrel⟩ := h1
        refine ⟨g, cs, hmi, hg, by simpa using hl, fun x hx => ?_, fun j c a hj ha => ?_⟩
        · obtain ⟨y, hy, rfl⟩ := List.mem_map.1 hx
          exact frz1_one H ids y (hone y hy)
        · simp only [List.getElem?_map, Option.map_eq_some_iff] at ha
          obtain ⟨a0, ha0, rfl⟩ := ha
          exact frz1_rel hG (hrel j c a0 hj ha0)
      | _ => rw [hb] at h0; exact h0
  · rintro k ⟨i, v, hl, hm, hb⟩
    exact hc.owns k ⟨i, v, hlive0 i hl, hm, hb⟩
  · rintro g (hg | ⟨i, v, hi, h1, h2, h3⟩)
    · exact hc.ro g hg
    · exact .inr (hc.owns g ⟨i, v, h1, h2, h3⟩)
  · show RelV m _ w (a.tmps.getD s undef) (lk (frzEnv H ids env) s)
    rw [lk_frzEnv]
    exact frzA_rel hG (hr s)

end Go.Own
