/-
  The call of a function that has a contract: sound.
-/
import Derived.Test.YtcabodhhdeecgaaOwnN
namespace Go.Own

theorem borL_sound [Tabs] {H : Heap} {B : AV → AV → List Nat → Prop} (hB : BorOk H B) {l l' : List AV} {touch : List Nat} (h : BorL B l l' touch) : l'.length = l.length ∧
    ∀ (m : Ids) (S : Blocks) (w : World) (H₂ : Heap) (S₂ : Blocks), Good m S w H₂ → (∀ id ∈ touch, lkH H₂ id = lkH H id) → (∀ g, S g → S₂ g) → (∀ g, lent m H₂ touch g → S₂ g) →
    ∀ (cs : List Value), cs.length = l.length → (∀ (j : Nat) (c : Value) (a : AV), cs[j]? = some c → l[j]? = some a → RelV m S w c a) → ∀ (j : Nat) (c : Value) (a : AV), cs[j]? = some c → l'[j]? = some a → RelT S₂ w c a := by
  induction h with
  | nil => exact ⟨rfl, fun m S w H₂ S₂ _ _ _ _ cs hl _ j c a hj ha => by simp at ha⟩
  | cons h hl ih =>
    rename_i a a' l l' t t'
    refine ⟨by simp [ih.1], fun m S w H₂ S₂ hG ht hS hle cs hlen hr j c x hj hx => ?_⟩
    cases cs with
    | nil => simp at hj
    | cons c0 cs =>
      cases j with
      | zero =>
        simp at hj hx
        subst hj
        subst hx
        exact hB a _ t h m S w H₂ S₂ _ hG (fun id hid => ht id (by simp [hid])) hS (fun g ⟨id, v, h1, h2⟩ => hle g ⟨id, v, by simp [h1], h2⟩) (hr 0 _ _ rfl rfl)
      | succ j =>
        simp at hj hx
        exact ih.2 m S w H₂ S₂ hG (fun id hid => ht id (by simp [hid])) hS (fun g ⟨id, v, h1, h2⟩ => hle g ⟨id, v, by simp [h1], h2⟩) cs (by simpa using hlen)
          (fun j c a h1 h2 => hr (j + 1) c a (by simpa using h1) (by simpa using h2)) j c x hj hx

theorem borOk_1 [Tabs] {H : Heap} {B : AV → AV → List Nat → Prop} (hB : BorOk H B) : BorOk H (Bor1 H B) := by
  intro a a' touch hb m S w H₂ S₂ v hG ht hS hl hr
  cases hb with
  | base h => exact hB a a' touch h m S w H₂ S₂ v hG ht hS hl hr
  | box id off e l l' t h hL h1 =>
    have hid2 := ht id (by simp)
    have hb := hG.rel id
    rw [hid2, h] at hb
    obtain ⟨g, cs, hmi, hg, hlen, hone, hrel⟩ := hb
    obtain ⟨hl1, hl2⟩ := borL_sound hB hL
    cases hr with
    | t _ _ h => cases h
    | ptr id off g' hm =>
      rw [hmi] at hm
      cases hm
      refine .rop g off l' (cs.toList.drop off) (hl g ⟨id, _, by simp, by rw [hid2, h]; rfl, hmi, rfl⟩) (by rw [hl1]; simp; omega) h1 (fun j c hj => ?_) ?_
      · rw [List.getElem?_drop] at hj
        rw [cell_of_row w g _ cs e (0, 0) hg]
        simpa using hj
      · exact hl2 m S w H₂ S₂ hG (fun i hi => ht i (by simp [hi])) hS (fun g ⟨i, v, p, q⟩ => hl g ⟨i, v, by simp [p], q⟩) _ (by simp; omega) (fun j c a hj ha => by
          rw [List.getElem?_drop] at hj ha
          exact hrel _ c a (by simpa using hj) ha)
  | fn f x y x' y' t t' h h' =>
    obtain ⟨l1, l2⟩ := borL_sound hB h
    obtain ⟨l1', l2'⟩ := borL_sound hB h'
    have main : ∀ (fs cs : Array Value), fs.size = x.length → cs.size = y.length → (∀ (j : Nat) (c : Value) (a : AV), fs[j]? = some c → x[j]? = some a → RelV m S w c a) → (∀ (j : Nat) (c : Value) (a : AV), cs[j]? = some c → y[j]? = some a → RelV m S w c a) →
        RelT S₂ w (.func f fs cs) (.fn f x' y') := by
      intro fs cs h1 h2 r1 r2
      refine .fn f fs cs x' y' (by omega) (by omega) (fun j c a hj ha => ?_) (fun j c a hj ha => ?_)
      · exact l2 m S w H₂ S₂ hG (fun i hi => ht i (by simp [hi])) hS (fun g ⟨i, v, p, q⟩ => hl g ⟨i, v, by simp [p], q⟩) fs.toList (by simpa using h1) (fun j c a p q => r1 j c a (by simpa using p) q) j c a (by simpa using hj) ha
      · exact l2' m S w H₂ S₂ hG (fun i hi => ht i (by simp [hi])) hS (fun g ⟨i, v, p, q⟩ => hl g ⟨i, v, by simp [p], q⟩) cs.toList (by simpa using h2) (fun j c a p q => r2 j c a (by simpa using p) q) j c a (by simpa using hj) ha
    cases hr with
    | t _ _ h => cases h with
      | fn f fs cs lf lc h1 h2 r1 r2 => exact main fs cs h1 h2 (fun j c a p q => .t _ _ (r1 j c a p q)) (fun j c a p q => .t _ _ (r2 j c a p q))
    | fn f fs cs lf lc h1 h2 r1 r2 => exact main fs cs h1 h2 r1 r2
  | agg x x' t h =>
    obtain ⟨l1, l2⟩ := borL_sound hB h
    obtain ⟨cs, rfl, hlen, hrel⟩ := relV_agg hr
    exact .agg cs x' (by omega) fun j c a hj ha => l2 m S w H₂ S₂ hG ht hS hl cs.toList (by simpa using hlen) (fun j c a p q => hrel j c a (by simpa using p) q) j c a (by simpa using hj) ha

/-- Numbers, bools, strings, nothing, and structs of these: no memory stands behind them. -/
def AV.scal1 : AV → Bool
  | .bool _ | .int .. | .str _ | .nilp | .nils | .nilm | .nilf | .undef | .skip | .iarr .. | .any1 => true
  | _ => false

def AV.scal : AV → Bool
  | .agg l => l.all AV.scal1
  | v => v.scal1

theorem RelT.scal1 {S S' : Blocks} {w : World} {v : Value} {a : AV} (h : RelT S w v a) (hs : a.scal1 = true) : RelT S' w v a := by
  cases h <;> first | (simp [AV.scal1] at hs; done) | (constructor; done) | skip
  all_goals (constructor <;> assumption)

theorem RelT.scal {S S' : Blocks} {w : World} {v : Value} {a : AV} (h : RelT S w v a) (hs : a.scal = true) : RelT S' w v a := by
  cases h with
  | agg cs l hl h => exact .agg cs l hl fun j c a hj ha => (h j c a hj ha).scal1 (by
      simp only [AV.scal, List.all_eq_true] at hs
      exact hs a (List.mem_of_getElem? ha))
  | undef v => exact .undef v
  | _ => exact RelT.scal1 (S := S) (by constructor <;> assumption) hs

def AR.flat : AR → Prop
  | .val a => a.scal = true
  | .new (.lst _ _ l) => ∀ x ∈ l, x.scal = true
  | .new (.row _ _ enc _ xs) => ∀ x ∈ xs, (enc x).scal = true
  | .new (.smap ev _ es) => ∀ p ∈ es, (ev p.2).scal = true
  | .new (.imap _ ev _ es) => ∀ p ∈ es, (ev p.2).scal = true
  | .new (.cells _ l) => ∀ x ∈ l, x.scal1 = true
  | .new .dead => True
  | .new (.arr ..) => True
  | .new (.que _ _ enc _ xs) => ∀ x ∈ xs, (enc x).scal = true

theorem scal_flat {l : List AV} (h : ∀ x ∈ l, x.scal = true) : ∀ a ∈ flat l, a.scal1 = true := by
  intro a ha
  obtain ⟨x, hx, hax⟩ := List.mem_flatMap.1 ha
  have := h x hx
  cases x with
  | agg l => simp only [AV.scal, List.all_eq_true] at this; exact this a hax
  | _ => simp only [AV.cells, List.mem_singleton] at hax; subst hax; exact this

theorem RowRel.scal {S S' : Blocks} {w : World} {e E : Nat} {l : List AV} {v : Value} {vs : List Value} (h : RowRel S w e E l v vs) (hs : ∀ x ∈ l, x.scal = true) : RowRel S' w e E l v vs :=
  ⟨h.owns, h.size, h.ones, fun j c a hj ha => (h.rel j c a hj ha).scal1 (scal_flat hs a (List.mem_of_getElem? ha))⟩

theorem relR_flat {S S' : Blocks} {w : World} {B : Nat} {v : Value} {r : AR} (h : RelR S w B v r) (hf : r.flat) : RelR S' w B v r := by
  cases r with
  | val a => exact RelT.scal h hf
  | new b =>
    refine ⟨h.1, h.2.1, fun n => ?_⟩
    have hb := h.2.2 n
    cases b with
    | dead => trivial
    | cells e l =>
      obtain ⟨g, cs, hmi, hg, hl, h1, hr⟩ := hb
      refine ⟨g, cs, hmi, hg, hl, h1, fun j c a hj ha => ?_⟩
      have hs := hf a (List.mem_of_getElem? ha)
      have := hr j c a hj ha
      cases this with
      | t _ _ h => exact .t _ _ (h.scal1 hs)
      | _ => simp [AV.scal1] at hs
    | arr e k n f => exact hb
    | que e E enc d xs =>
      obtain ⟨g, o, cap, cur, hmi, hr⟩ := hb
      refine ⟨g, o, cap, cur, hmi, hr.at_, hr.len, hr.max, hr.room, hr.size, hr.ones, fun j c a hj ha => (hr.rel j c a hj ha).scal1 (scal_flat (fun x hx => ?_) a (List.mem_of_getElem? ha))⟩
      obtain ⟨y, hy, rfl⟩ := List.mem_map.1 hx
      exact hf y hy
    | lst e E l => obtain ⟨v', vs, hmi, hr⟩ := hb; exact ⟨v', vs, hmi, hr.scal hf⟩
    | row e E enc d xs =>
      obtain ⟨v', vs, hmi, hr⟩ := hb
      refine ⟨v', vs, hmi, hr.scal fun x hx => ?_⟩
      obtain ⟨y, hy, rfl⟩ := List.mem_map.1 hx
      exact hf y hy
    | smap ev dv es =>
      obtain ⟨r, en, clock, hmi, hr, hl, hb', h2⟩ := hb
      exact ⟨r, en, clock, hmi, hr, hl, hb', fun j x p h3 h4 => ⟨(h2 j x p h3 h4).1, (h2 j x p h3 h4).2.scal (hf p (List.mem_of_getElem? h4))⟩⟩
    | imap k ev dv es =>
      obtain ⟨r, en, clock, hmi, hr, hl, hb', h2⟩ := hb
      exact ⟨r, en, clock, hmi, hr, hl, hb', fun j x p h3 h4 => ⟨(h2 j x p h3 h4).1, (h2 j x p h3 h4).2.scal (hf p (List.mem_of_getElem? h4))⟩⟩

/-- How a result is named by the caller. -/
def nameR (nx : Nat) : AR → AV
  | .val a => a
  | .new (.cells ..) => .ptr nx 0
  | .new (.lst ..) => .own nx
  | .new (.row ..) => .own nx
  | .new (.smap ..) => .map nx
  | .new (.imap ..) => .map nx
  | .new (.arr ..) => .ptr nx 0
  | .new (.que ..) => .own nx
  | .new .dead => .undef

def takeR : List AR → Nat → List AV → List (Nat × AB) → (List AV → List (Nat × AB) → Nat → Prop) → Prop
  | [], nx, vs, wr, k => k vs.reverse wr nx
  | .val a :: rs, nx, vs, wr, k => takeR rs nx (a :: vs) wr k
  | .new b :: rs, nx, vs, wr, k => takeR rs (nx + 1) (nameR nx (.new b) :: vs) ((nx, b) :: wr) k

def valR : List AV → AV
  | [v] => v
  | vs => .tup vs

theorem relB_name {m : Ids} {S : Blocks} {w : World} {id : Nat} {b : AB} {v : Value} (h : RelB m S w id b) (hl : b.live = true) (hm : m id = some v) : RelV m S w v (nameR id (.new b)) := by
  cases b with
  | dead => simp [AB.live] at hl
  | cells e l => obtain ⟨g, cs, hmi, _⟩ := h; rw [hmi] at hm; cases hm; exact .ptr id 0 g hmi
  | lst e E l => obtain ⟨v', vs, hmi, hr⟩ := h; rw [hmi] at hm; cases hm; obtain ⟨a, n, c, rfl⟩ := blk_slice_of hr; exact .own id n c a hmi
  | row e E enc d xs => obtain ⟨v', vs, hmi, hr⟩ := h; rw [hmi] at hm; cases hm; obtain ⟨a, n, c, rfl⟩ := blk_slice_of hr; exact .own id n c a hmi
  | smap ev dv es => obtain ⟨r, en, clock, hmi, _⟩ := h; rw [hmi] at hm; cases hm; exact .map id r hmi
  | imap k ev dv es => obtain ⟨r, en, clock, hmi, _⟩ := h; rw [hmi] at hm; cases hm; exact .map id r hmi
  | arr e k n f => obtain ⟨g, cs, hmi, _⟩ := h; rw [hmi] at hm; cases hm; exact .ptr id 0 g hmi
  | que e E enc d xs => obtain ⟨g, o, cap, cur, hmi, _⟩ := h; rw [hmi] at hm; cases hm; exact .own id _ cap _ hmi

theorem Ext.trans [Tabs] {m m1 m2 : Ids} {S S1 S2 : Blocks} {w w1 w2 : World} {H H1 H2 : Heap} {n n1 n2 : Nat} (h1 : Ext m S w H n n1 m1 S1 w1 H1) (h2 : Ext m1 S1 w1 H1 n1 n2 m2 S2 w2 H2) (hn : n ≤ n1 ∧ n1 ≤ n2) : Ext m S w H n n2 m2 S2 w2 H2 := by
  refine ⟨fun i v h => h2.ids i v (h1.ids i v h), fun i hi => ?_, fun g h => h2.ros g (h1.ros g h), fun g hg => ?_, ?_, fun k hk => ?_, h2.good⟩
  · rw [h2.same i (by omega), h1.same i (by omega)]
  · rcases h2.fresh g hg with h | h | h
    · exact h1.fresh g h
    · exact .inr (h1.owns g h)
    · exact .inr (.inr (Nat.le_trans h1.far.size h))
  · refine h1.far.trans h2.far fun i hi ho => ?_
    rcases h1.owns i ho with h | h
    · exact h
    · omega
  · rcases h2.owns k hk with h | h
    · exact h1.owns k h
    · exact .inr (Nat.le_trans h1.far.size h)

/-- One more object, that lay in the world all the while. -/
theorem ext_add [Tabs] {m : Ids} {S : Blocks} {w : World} {H : Heap} {nx B : Nat} (h : Good m S w H) (hn : m nx = none) (v : Value) (b : AB) (hb : RelB (fun i => if i = nx then some v else m i) S w nx b)
    (hS : ∀ k, blk v = some k → ¬ S k) (ho : ∀ k, blk v = some k → ¬ own m H k) (hB : ∀ k, blk v = some k → B ≤ k) :
    Good (fun i => if i = nx then some v else m i) S w ((nx, b) :: H) ∧ (∀ k, own (fun i => if i = nx then some v else m i) ((nx, b) :: H) k → own m H k ∨ B ≤ k) := by
  have hids : ∀ i u, m i = some u → (fun i => if i = nx then some v else m i) i = some u := by
    intro i u hu
    have : i ≠ nx := by intro e; subst e; rw [hn] at hu; cases hu
    simp [this, hu]
  have old : ∀ i, i ≠ nx → (lkH ((nx, b) :: H) i).live = true → (lkH H i).live = true := by
    intro i e hl
    rwa [lkH_cons, if_neg (fun h => e h.symm)] at hl
  refine ⟨⟨fun id => ?_, ?_, ?_, h.tab⟩, ?_⟩
  · rw [lkH_cons]
    split
    · rename_i e; subst e; exact hb
    · exact (h.rel id).mono hids (fun _ h => h) (fun _ _ => rfl) (fun _ _ _ _ _ => rfl)
  · intro i j vi vj k hli hlj hvi hvj hki hkj
    by_cases ei : i = nx <;> by_cases ej : j = nx
    · rw [ei, ej]
    · subst ei
      simp only [if_true] at hvi
      simp only [ej, if_false] at hvj
      cases hvi
      exact (ho k hki ⟨j, vj, old j ej hlj, hvj, hkj⟩).elim
    · subst ej
      simp only [if_true] at hvj
      simp only [ei, if_false] at hvi
      cases hvj
      exact (ho k hkj ⟨i, vi, old i ei hli, hvi, hki⟩).elim
    · simp only [ei, if_false] at hvi
      simp only [ej, if_false] at hvj
      exact h.sep i j vi vj k (old i ei hli) (old j ej hlj) hvi hvj hki hkj
  · intro g hg
    refine ⟨(h.ro g hg).1, fun i u hl hu hk => ?_⟩
    by_cases e : i = nx
    · subst e
      simp only [if_true] at hu
      cases hu
      exact hS g hk hg
    · simp only [e, if_false] at hu
      exact (h.ro g hg).2 i u (old i e hl) hu hk
  · rintro k ⟨i, u, hl, hu, hk⟩
    by_cases e : i = nx
    · subst e
      simp only [if_true] at hu
      cases hu
      exact .inr (hB k hk)
    · simp only [e, if_false] at hu
      exact .inl ⟨i, u, old i e hl, hu, hk⟩

def tv : List AR → Nat → List AV
  | [], _ => []
  | .val a :: rs, nx => a :: tv rs nx
  | .new b :: rs, nx => nameR nx (.new b) :: tv rs (nx + 1)

def tw : List AR → Nat → List (Nat × AB)
  | [], _ => []
  | .val _ :: rs, nx => tw rs nx
  | .new b :: rs, nx => tw rs (nx + 1) ++ [(nx, b)]

def tn : List AR → Nat → Nat
  | [], nx => nx
  | .val _ :: rs, nx => tn rs nx
  | .new _ :: rs, nx => tn rs (nx + 1)

theorem takeR_eq : ∀ (rs : List AR) (nx : Nat) (vs : List AV) (wr : List (Nat × AB)) (k : List AV → List (Nat × AB) → Nat → Prop), takeR rs nx vs wr k → k (vs.reverse ++ tv rs nx) (tw rs nx ++ wr) (tn rs nx)
  | [], nx, vs, wr, k, h => by simpa [takeR, tv, tw, tn] using h
  | .val a :: rs, nx, vs, wr, k, h => by
    have := takeR_eq rs nx (a :: vs) wr k h
    simpa [tv, tw, tn] using this
  | .new b :: rs, nx, vs, wr, k, h => by
    have := takeR_eq rs (nx + 1) _ _ k h
    simpa [tv, tw, tn] using this

theorem tn_ge : ∀ (rs : List AR) (nx : Nat), nx ≤ tn rs nx
  | [], nx => Nat.le_refl _
  | .val _ :: rs, nx => tn_ge rs nx
  | .new _ :: rs, nx => Nat.le_trans (Nat.le_succ _) (tn_ge rs (nx + 1))

theorem take_sound [Tabs] {S : Blocks} {w : World} {B : Nat} : ∀ (rs : List AR) (us : List Value) (nx : Nat) (m : Ids) (H : Heap), Good m S w H → (∀ i, nx ≤ i → i < tn rs nx → m i = none) → us.length = rs.length →
    (∀ (j : Nat) (u : Value) (r : AR), us[j]? = some u → rs[j]? = some r → RelR S w B u r) →
    (∀ (j : Nat) (u : Value) (b : AB) (k : Nat), us[j]? = some u → rs[j]? = some (.new b) → blk u = some k → ¬ S k ∧ ¬ own m H k ∧ ∀ (j' : Nat) (u' : Value) (b' : AB), us[j']? = some u' → rs[j']? = some (.new b') → blk u' = some k → j = j') →
    ∃ m', Good m' S w (tw rs nx ++ H) ∧ (∀ i v, m i = some v → m' i = some v) ∧ (∀ i, ¬ (nx ≤ i ∧ i < tn rs nx) → m' i = m i) ∧ (∀ k, own m' (tw rs nx ++ H) k → own m H k ∨ B ≤ k) ∧
      (tv rs nx).length = us.length ∧ ∀ (j : Nat) (u : Value) (a : AV), us[j]? = some u → (tv rs nx)[j]? = some a → RelV m' S w u a
  | [], us, nx, m, H, hG, hf, hl, hr, ha => by
    have : us = [] := List.eq_nil_of_length_eq_zero hl
    subst this
    exact ⟨m, hG, fun _ _ h => h, fun _ _ => rfl, fun k h => .inl h, rfl, fun j u a h => by simp at h⟩
  | .val x :: rs, [], nx, m, H, hG, hf, hl, hr, ha => by simp at hl
  | .new b :: rs, [], nx, m, H, hG, hf, hl, hr, ha => by simp at hl
  | .val x :: rs, u :: us, nx, m, H, hG, hf, hl, hr, ha => by
    obtain ⟨m', g1, g2, g3, g4, g5, g6⟩ := take_sound rs us nx m H hG hf (by simpa using hl) (fun j u r h1 h2 => hr (j + 1) u r (by simpa using h1) (by simpa using h2)) (fun j u b k h1 h2 h3 => by
      obtain ⟨a1, a2, a3⟩ := ha (j + 1) u b k (by simpa using h1) (by simpa using h2) h3
      exact ⟨a1, a2, fun j' u' b' p q r => by have := a3 (j' + 1) u' b' (by simpa using p) (by simpa using q) r; omega⟩)
    refine ⟨m', g1, g2, g3, g4, by simp [tv, g5], fun j u' a h1 h2 => ?_⟩
    cases j with
    | zero =>
      simp [tv] at h1 h2
      subst h1
      subst h2
      exact .t _ _ (hr 0 _ _ rfl rfl)
    | succ j => exact g6 j u' a (by simpa using h1) (by simpa [tv] using h2)
  | .new b :: rs, u :: us, nx, m, H, hG, hf, hl, hr, ha => by
    obtain ⟨b1, b2, b3⟩ : RelR S w B u (.new b) := hr 0 u (.new b) rfl rfl
    have hn : m nx = none := hf nx (Nat.le_refl _) (Nat.lt_of_lt_of_le (Nat.lt_succ_self nx) (tn_ge rs (nx + 1)))
    have hids : ∀ i v, m i = some v → (fun i => if i = nx then some u else m i) i = some v := by
      intro i v hv
      have : i ≠ nx := by intro e; subst e; rw [hn] at hv; cases hv
      simp [this, hv]
    have hb : RelB (fun i => if i = nx then some u else m i) S w nx b := (b3 nx).mono (fun i v h => by
      by_cases e : i = nx
      · simpa [e] using h
      · simp [e] at h) (fun _ h => h) (fun _ _ => rfl) (fun _ _ _ _ _ => rfl)
    obtain ⟨e1, e2⟩ := ext_add (B := B) hG hn u b hb (fun k hk => (ha 0 u b k rfl rfl hk).1) (fun k hk => (ha 0 u b k rfl rfl hk).2.1) b2
    obtain ⟨m', g1, g2, g3, g4, g5, g6⟩ := take_sound rs us (nx + 1) _ _ e1 (fun i hi hlt => by
        have : i ≠ nx := by omega
        simp [this, hf i (by omega) hlt]) (by simpa using hl) (fun j u r h1 h2 => hr (j + 1) u r (by simpa using h1) (by simpa using h2)) (fun j u' b' k h1 h2 h3 => by
      obtain ⟨a1, a2, a3⟩ := ha (j + 1) u' b' k (by simpa using h1) (by simpa using h2) h3
      refine ⟨a1, fun ho => ?_, fun j' u'' b'' p q r => by have := a3 (j' + 1) u'' b'' (by simpa using p) (by simpa using q) r; omega⟩
      obtain ⟨i, vi, hli, hvi, hki⟩ := ho
      by_cases ei : i = nx
      · subst ei
        simp only [if_true] at hvi
        cases hvi
        have := a3 0 u b rfl rfl hki
        omega
      · simp only [ei, if_false] at hvi
        rw [lkH_cons, if_neg (fun h => ei h.symm)] at hli
        exact a2 ⟨i, vi, hli, hvi, hki⟩)
    have happ : tw (.new b :: rs) nx ++ H = tw rs (nx + 1) ++ (nx, b) :: H := by simp [tw]
    have hge := tn_ge rs (nx + 1)
    refine ⟨m', by rw [happ]; exact g1, fun i v h => g2 i v (hids i v h), fun i hi => ?_, fun k hk => ?_, by simp [tv, g5], fun j u' a h1 h2 => ?_⟩
    · have hi' : ¬ (nx ≤ i ∧ i < tn rs (nx + 1)) := hi
      have hne : i ≠ nx := by omega
      rw [g3 i (by omega)]
      simp [hne]
    · rw [happ] at hk
      rcases g4 k hk with h | h
      · exact e2 k h
      · exact .inr h
    · cases j with
      | zero =>
        simp [tv] at h1 h2
        subst h1
        subst h2
        have hm : m' nx = some u := g2 nx u (by simp)
        exact relB_name (hb.mono (fun i v h => g2 i v h) (fun _ h => h) (fun _ _ => rfl) (fun _ _ _ _ _ => rfl)) b1 hm
      | succ j => exact g6 j u' a (by simpa using h1) (by simpa [tv] using h2)

theorem retVal_rel {m : Ids} {S : Blocks} {w : World} {us : List Value} {l : List AV} (hl : l.length = us.length) (h : ∀ (j : Nat) (u : Value) (a : AV), us[j]? = some u → l[j]? = some a → RelV m S w u a) : RelV m S w (retVal us) (valR l) := by
  match us, l, hl with
  | [], [], _ => exact .tup _ _ rfl (fun j c a hj => by simp at hj)
  | [u], [a], _ => exact h 0 u a rfl rfl
  | u :: u' :: us, a :: a' :: l, hl => exact .tup _ _ (by simp at hl ⊢; omega) (fun j c x hj hx => h j c x (by simpa using hj) hx)

end Go.Own
