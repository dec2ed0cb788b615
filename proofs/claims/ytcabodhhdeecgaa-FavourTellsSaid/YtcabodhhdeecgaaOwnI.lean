/-
  append, and parts of slices, over abstract values.
-/
import Derived.Test.YtcabodhhdeecgaaOwnH
namespace Go.Own

theorem flat_append (a b : List AV) : flat (a ++ b) = flat a ++ flat b := by simp [flat]

theorem flat_take {E : Nat} : ∀ (l : List AV) (n : Nat), (∀ x ∈ l, x.cells.length = E) → flat (l.take n) = (flat l).take (n * E)
  | [], n, _ => by simp [flat]
  | x :: l, 0, _ => by simp [flat]
  | x :: l, n + 1, h => by
    have h0 : x.cells.length = E := h x (by simp)
    have ih := flat_take l n (fun y hy => h y (by simp [hy]))
    have e1 : flat (x :: l) = x.cells ++ flat l := by simp [flat]
    have e2 : flat ((x :: l).take (n + 1)) = x.cells ++ flat (l.take n) := by simp [flat]
    have e3 : (n + 1) * E = E + n * E := by rw [Nat.succ_mul]; omega
    rw [e1, e2, ih, e3, List.take_append, List.take_of_length_le (l := x.cells) (by omega), h0]
    congr 2
    omega

theorem flat_drop {E : Nat} : ∀ (l : List AV) (n : Nat), (∀ x ∈ l, x.cells.length = E) → flat (l.drop n) = (flat l).drop (n * E)
  | [], n, _ => by simp [flat]
  | x :: l, 0, _ => by simp [flat]
  | x :: l, n + 1, h => by
    have h0 : x.cells.length = E := h x (by simp)
    have ih := flat_drop l n (fun y hy => h y (by simp [hy]))
    have e1 : flat (x :: l) = x.cells ++ flat l := by simp [flat]
    have e2 : flat ((x :: l).drop (n + 1)) = flat (l.drop n) := by simp [flat]
    have e3 : (n + 1) * E = E + n * E := by rw [Nat.succ_mul]; omega
    rw [e1, e2, ih, e3, List.drop_append, List.drop_of_length_le (l := x.cells) (by omega), h0, List.nil_append]
    congr 1
    omega

/-- A part of cells that nobody writes. -/
theorem lsl_sub {S : Blocks} {w : World} {g o cap E : Nat} {l : List AV} {cs : List Value} (hs : S g) (hcap : l.length ≤ cap) (hE : ∀ x ∈ l, x.cells.length = E) (h1 : ∀ a ∈ flat l, a.one = true) (hl : cs.length = l.length * E)
    (hc : ∀ (j : Nat) (c : Value), cs[j]? = some c → w.cell? ⟨g, o + j, none⟩ = some c) (h : ∀ (j : Nat) (c : Value) (a : AV), cs[j]? = some c → (flat l)[j]? = some a → RelT S w c a) {lo hi : Nat} (h01 : lo ≤ hi) (h02 : hi ≤ l.length) :
    RelT S w (.slice (some ⟨g, o + lo * E, none⟩) (hi - lo) (cap - lo)) (.lsl E ((l.take hi).drop lo)) := by
  have hlen : ((l.take hi).drop lo).length = hi - lo := by simp; omega
  have hflat : flat ((l.take hi).drop lo) = ((flat l).take (hi * E)).drop (lo * E) := by
    rw [flat_drop _ _ (fun x hx => hE x (List.mem_of_mem_take hx)), flat_take _ _ hE]
  have hmul : hi * E ≤ l.length * E := Nat.mul_le_mul_right _ h02
  have hmul2 : lo * E ≤ hi * E := Nat.mul_le_mul_right _ h01
  have := RelT.lsl (S := S) (w := w) E ((l.take hi).drop lo) g (o + lo * E) (cap - lo) ((cs.take (hi * E)).drop (lo * E)) hs (by omega)
    (fun x hx => hE x (List.mem_of_mem_take (List.mem_of_mem_drop hx))) (fun a ha => by
      rw [hflat] at ha
      exact h1 a (List.mem_of_mem_take (List.mem_of_mem_drop ha)))
    (by rw [hlen, Nat.sub_mul]; simp; omega)
    (fun j c hj => by
      rw [List.getElem?_drop, List.getElem?_take] at hj
      split at hj
      · have := hc _ _ hj
        rwa [← Nat.add_assoc] at this
      · cases hj)
    (fun j c a hj ha => by
      rw [List.getElem?_drop, List.getElem?_take] at hj
      rw [hflat, List.getElem?_drop, List.getElem?_take] at ha
      split at hj
      · rename_i hlt
        rw [if_pos hlt] at ha
        exact h _ _ _ hj ha
      · cases hj)
  rwa [hlen] at this

/-- The elements of a row or list. -/
inductive Src : Type 1 where
  | lst (l : List AV)
  | row {T : Type} (enc : T → AV) (d : T) (xs : List T)

def Src.list : Src → List AV
  | .lst l => l
  | .row enc _ xs => xs.map enc

def Src.len : Src → Nat
  | .lst l => l.length
  | .row _ _ xs => xs.length

theorem Src.len_eq (s : Src) : s.len = s.list.length := by cases s <;> simp [Src.len, Src.list]

def Src.obj (e : TypeId) (E : Nat) : Src → AB
  | .lst l => .lst e E l
  | .row enc d xs => .row e E enc d xs

theorem relB_obj {m : Ids} {S : Blocks} {w : World} {id : Nat} {e E : Nat} {s : Src} : RelB m S w id (s.obj e E) ↔ ∃ v vs, m id = some v ∧ RowRel S w e E s.list v vs := by
  cases s <;> rfl

/-- The elements that a slice value gives, of size E. -/
def SrcRel (S : Blocks) (w : World) (E : Nat) (v : Value) (l : List AV) : Prop :=
  (v = .slice none 0 0 ∧ l = []) ∨ (∃ a cap, v = .slice (some a) 0 cap ∧ l = []) ∨ ∃ (g o cap : Nat) (cs : List Value), v = .slice (some ⟨g, o, none⟩) l.length cap ∧ cs.length = l.length * E ∧
    (∀ x ∈ l, x.cells.length = E) ∧ (∀ a ∈ flat l, a.one = true) ∧
    (∀ (j : Nat) (c : Value), cs[j]? = some c → w.cell? ⟨g, o + j, none⟩ = some c) ∧ (∀ (j : Nat) (c : Value) (a : AV), cs[j]? = some c → (flat l)[j]? = some a → RelT S w c a)

def srcView (H : Heap) (E : Nat) (x : AV) (k : Src → List Nat → Prop) : Prop :=
  match x with
  | .nils => k (.lst []) []
  | .lsl E' l => E' = E ∧ k (.lst l) []
  | .sl E' enc d xs => E' = E ∧ k (.row enc d xs) []
  | .own id => match lkH H id with
    | .lst _ E' l => E' = E ∧ k (.lst l) [id]
    | .row _ E' enc d xs => E' = E ∧ k (.row enc d xs) [id]
    | _ => False
  | .pre id n => match lkH H id with
    | .lst _ E' l => E' = E ∧ k (.lst (l.take n)) [id]
    | .row _ E' enc d xs => E' = E ∧ k (.row enc d (xs.take n)) [id]
    | _ => False
  | .part id E₂ off n => match lkH H id with
    | .lst _ E' l => E' = E ∧ E₂ = E ∧ k (.lst ((l.drop off).take n)) [id]
    | .row _ E' enc d xs => E' = E ∧ E₂ = E ∧ k (.row enc d ((xs.drop off).take n)) [id]
    | _ => False
  | _ => False

theorem RowRel.src {S : Blocks} {w : World} {e E : Nat} {l : List AV} {v : Value} {vs : List Value} (h : RowRel S w e E l v vs) : SrcRel S w E v l := by
  obtain ⟨hl, ho⟩ := h.owns
  rcases ho with ⟨rfl, h0⟩ | ⟨g, cap, cur, rfl, _, hh, hnc, hcm, hcs, htake⟩
  · exact .inl ⟨rfl, List.eq_nil_of_length_eq_zero h0⟩
  · refine .inr (.inr ⟨g, 0, cap, vs, rfl, hl, h.size, h.ones, fun j c hj => ?_, h.rel⟩)
    have := h.owns.cells (g := g) rfl j c hj
    rwa [Addr.add_mid] at this

theorem RowRel.take {S : Blocks} {w : World} {e E : Nat} {l : List AV} {a : Option Addr} {n cap : Nat} {vs : List Value} (h : RowRel S w e E l (.slice a n cap) vs) {k : Nat} (hk : k ≤ n) :
    RowRel S w e E (l.take k) (.slice a k cap) (vs.take (k * E)) := by
  obtain ⟨hl, ho⟩ := h.owns
  have hn : l.length = n := by have := h.n; cases this; rfl
  have hmul : k * E ≤ l.length * E := Nat.mul_le_mul_right _ (by omega)
  have hlk : (l.take k).length = k := by simp; omega
  refine ⟨⟨by rw [hlk]; simp; omega, ?_⟩, fun x hx => h.size x (List.mem_of_mem_take hx), fun a ha => ?_, fun j c a hj ha => ?_⟩
  · rcases ho with ⟨h0, h00⟩ | ⟨g, cap', cur, hv, hb, hh, hnc, hcm, hcs, htake⟩
    · cases h0
      exact .inl ⟨by have : k = 0 := by omega
                     rw [this], by rw [hlk]; omega⟩
    · cases hv
      refine .inr ⟨g, cap, cur, by rw [hlk], hb, hh, by omega, hcm, hcs, ?_⟩
      rw [hlk, ← htake, List.take_take]
      congr 1
      omega
  · rw [flat_take _ _ h.size] at ha
    exact h.ones a (List.mem_of_mem_take ha)
  · rw [flat_take _ _ h.size, List.getElem?_take] at ha
    rw [List.getElem?_take] at hj
    split at hj
    · rename_i hlt
      rw [if_pos hlt] at ha
      exact h.rel j c a hj ha
    · cases hj

theorem SrcRel.sub {S : Blocks} {w : World} {E g n cap c : Nat} {l : List AV} (h : SrcRel S w E (.slice (some ⟨g, 0, none⟩) n cap) l) {off k : Nat} (hle : off + k ≤ n) :
    SrcRel S w E (.slice (some ⟨g, off * E, none⟩) k c) ((l.drop off).take k) := by
  rcases h with ⟨h, _⟩ | ⟨a', c', hv, hl⟩ | ⟨g', o, cap', cs, hv, hcs, hE, h1, hc, hr⟩
  · cases h
  · cases hv
    have : k = 0 := by omega
    subst this
    exact .inr (.inl ⟨_, c, rfl, by simp⟩)
  · cases hv
    have hlen : ((l.drop off).take k).length = k := by simp; omega
    have hflat : flat ((l.drop off).take k) = ((flat l).drop (off * E)).take (k * E) := by
      rw [flat_take _ _ (fun x hx => hE x (List.mem_of_mem_drop hx)), flat_drop _ _ hE]
    have hmul : (off + k) * E ≤ l.length * E := Nat.mul_le_mul_right _ hle
    rw [Nat.add_mul] at hmul
    refine .inr (.inr ⟨g, off * E, c, (cs.drop (off * E)).take (k * E), by rw [hlen], by rw [hlen]; simp; omega, fun x hx => hE x (List.mem_of_mem_drop (List.mem_of_mem_take hx)), fun a ha => ?_, fun j c hj => ?_, fun j c a hj ha => ?_⟩)
    · rw [hflat] at ha
      exact h1 a (List.mem_of_mem_drop (List.mem_of_mem_take ha))
    · rw [List.getElem?_take] at hj
      split at hj
      · rw [List.getElem?_drop] at hj
        have := hc _ _ hj
        rwa [Nat.zero_add] at this
      · cases hj
    · rw [List.getElem?_take] at hj
      rw [hflat, List.getElem?_take] at ha
      split at hj
      · rename_i hlt
        rw [if_pos hlt] at ha
        rw [List.getElem?_drop] at hj ha
        exact hr _ _ _ hj ha
      · cases hj

/-- A row of the call's own, by its number. -/
theorem own_row [Tabs] {m : Ids} {S : Blocks} {w : World} {H H₂ : Heap} (hG : Good m S w H₂) {id : Nat} (ht : lkH H₂ id = lkH H id) {e E : Nat} {s : Src} (hid : lkH H id = s.obj e E) : ∃ v vs, m id = some v ∧ RowRel S w e E s.list v vs := by
  have hb := hG.rel id
  rw [ht, hid] at hb
  exact relB_obj.1 hb

theorem srcView_sound [Tabs] {H : Heap} {E : Nat} {x : AV} {k : Src → List Nat → Prop} (h : srcView H E x k) :
    ∃ s touch, (∀ (m : Ids) (S : Blocks) (w : World) (H₂ : Heap) (v : Value), Good m S w H₂ → (∀ id ∈ touch, lkH H₂ id = lkH H id) → RelV m S w v x → SrcRel S w E v s.list) ∧ k s touch := by
  have lsl : ∀ {S : Blocks} {w : World} {v : Value} {l : List AV}, RelT S w v (.lsl E l) → SrcRel S w E v l := by
    intro S w v l h
    rcases relT_lsl h with ⟨h | ⟨a, h⟩, h'⟩ | ⟨g, o, cap, cs, hv, hS, hcap, hE, h1, hl, hc, hr⟩
    · exact .inl ⟨h, h'⟩
    · exact .inr (.inl ⟨a, 0, h, h'⟩)
    · exact .inr (.inr ⟨g, o, cap, cs, hv, hl, hE, h1, hc, hr⟩)
  unfold srcView at h
  split at h
  · refine ⟨_, _, fun m S w H₂ v _ _ hr => ?_, h⟩
    cases hr with
    | t _ _ h => cases h; exact .inl ⟨rfl, rfl⟩
  · obtain ⟨hE, h⟩ := h
    subst hE
    exact ⟨_, _, fun m S w H₂ v _ _ hr => lsl (l := Src.list (.lst _)) (relV_lsl hr), h⟩
  · obtain ⟨hE, h⟩ := h
    subst hE
    exact ⟨_, _, fun m S w H₂ v _ _ hr => lsl (l := Src.list (.row _ _ _)) (relV_sl hr), h⟩
  · rename_i id
    have main : ∀ (e : TypeId) (s : Src), lkH H id = s.obj e E → k s [id] → ∃ s touch, (∀ (m : Ids) (S : Blocks) (w : World) (H₂ : Heap) (v : Value), Good m S w H₂ → (∀ id ∈ touch, lkH H₂ id = lkH H id) → RelV m S w v (.own id) → SrcRel S w E v s.list) ∧ k s touch := by
      intro e s hid hk
      refine ⟨s, [id], fun m S w H₂ v hG ht hr => ?_, hk⟩
      obtain ⟨v', vs, hmi, hrow⟩ := own_row hG (ht id (by simp)) hid
      cases hr with
      | t _ _ h => cases h
      | own id n cap a hm => rw [hmi] at hm; cases hm; exact hrow.src
    split at h
    · rename_i e E' l hid
      obtain ⟨rfl, h⟩ := h
      exact main e (.lst l) hid h
    · rename_i T e E' enc d xs hid
      obtain ⟨rfl, h⟩ := h
      exact main e (.row enc d xs) hid h
    · exact h.elim
  · rename_i id n
    have main : ∀ (e : TypeId) (s s' : Src), lkH H id = s.obj e E → s'.list = s.list.take n → k s' [id] → ∃ s touch, (∀ (m : Ids) (S : Blocks) (w : World) (H₂ : Heap) (v : Value), Good m S w H₂ → (∀ id ∈ touch, lkH H₂ id = lkH H id) → RelV m S w v (.pre id n) → SrcRel S w E v s.list) ∧ k s touch := by
      intro e s s' hid hs' hk
      refine ⟨s', [id], fun m S w H₂ v hG ht hr => ?_, hk⟩
      obtain ⟨v', vs, hmi, hrow⟩ := own_row hG (ht id (by simp)) hid
      cases hr with
      | t _ _ h => cases h
      | pre id len n cap a hm hle => rw [hmi] at hm; cases hm; rw [hs']; exact (hrow.take hle).src
    split at h
    · rename_i e E' l hid
      obtain ⟨rfl, h⟩ := h
      exact main e (.lst l) (.lst (l.take n)) hid rfl h
    · rename_i T e E' enc d xs hid
      obtain ⟨rfl, h⟩ := h
      exact main e (.row enc d xs) (.row enc d (xs.take n)) hid (by simp [Src.list, List.map_take]) h
    · exact h.elim
  · rename_i id E₂ off n
    have main : ∀ (e : TypeId) (s s' : Src), E₂ = E → lkH H id = s.obj e E → s'.list = (s.list.drop off).take n → k s' [id] → ∃ s touch, (∀ (m : Ids) (S : Blocks) (w : World) (H₂ : Heap) (v : Value), Good m S w H₂ → (∀ id ∈ touch, lkH H₂ id = lkH H id) → RelV m S w v (.part id E₂ off n) → SrcRel S w E v s.list) ∧ k s touch := by
      intro e s s' hE2 hid hs' hk
      subst hE2
      refine ⟨s', [id], fun m S w H₂ v hG ht hr => ?_, hk⟩
      obtain ⟨v', vs, hmi, hrow⟩ := own_row hG (ht id (by simp)) hid
      cases hr with
      | t _ _ h => cases h
      | part id E off len g n cap c hm hle hc =>
        rw [hmi] at hm
        cases hm
        rw [hs']
        exact hrow.src.sub hle
      | partE id E off c g n cap hm =>
        rw [hs', List.take_zero]
        exact .inr (.inr ⟨g, 0, c, [], rfl, by simp, by simp, by simp [flat], by simp, by simp⟩)
      | partN id E off =>
        rw [hs', List.take_zero]
        exact .inl ⟨rfl, rfl⟩
    split at h
    · rename_i e E' l hid
      obtain ⟨rfl, hE, h⟩ := h
      exact main e (.lst l) (.lst ((l.drop off).take n)) hE hid rfl h
    · rename_i T e E' enc d xs hid
      obtain ⟨rfl, hE, h⟩ := h
      exact main e (.row enc d xs) (.row enc d ((xs.drop off).take n)) hE hid (by simp [Src.list, List.map_take, List.map_drop]) h
    · exact h.elim
  · exact h.elim

end Go.Own
