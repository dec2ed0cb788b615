/-
  Forgetting and renaming: from the state at a loop's end to the one at its head.
-/
import Derived.Test.YtcabodhhdeecgaaOwnT
namespace Go.Own

/-- Where an object of the new state comes from: an old one; nothing yet (a nil slice); the beginning of an old row. -/
inductive SrcId where
  | id (i : Nat)
  | nil
  | trunc (i n : Nat)

abbrev Ren := List (Nat × SrcId)

def lkS : Ren → Nat → Option SrcId
  | [], _ => none
  | (i, s) :: r, j => match Nat.beq i j with
    | true => some s
    | false => lkS r j

inductive LeV1 (ρ : Ren) : AV → AV → Prop
  | undef (v : AV) : LeV1 ρ v .undef
  | tree (v v' : AV) (h : v = v') (ht : v'.tree = true) : LeV1 ρ v v'
  | own (i j : Nat) (h : lkS ρ j = some (.id i)) : LeV1 ρ (.own i) (.own j)
  | nilown (j : Nat) (h : lkS ρ j = some .nil) : LeV1 ρ .nils (.own j)
  | trunc (i n j : Nat) (h : lkS ρ j = some (.trunc i n)) : LeV1 ρ (.pre i n) (.own j)
  | pre (i n n' j : Nat) (h : lkS ρ j = some (.id i)) (hn : n = n') : LeV1 ρ (.pre i n) (.pre j n')
  | ptr (i j off : Nat) (h : lkS ρ j = some (.id i)) : LeV1 ρ (.ptr i off) (.ptr j off)
  | map (i j : Nat) (h : lkS ρ j = some (.id i)) : LeV1 ρ (.map i) (.map j)

inductive LeL (R : AV → AV → Prop) : List AV → List AV → Prop
  | nil : LeL R [] []
  | cons {a a' : AV} {l l' : List AV} (h : R a a') (hl : LeL R l l') : LeL R (a :: l) (a' :: l')

inductive LeV (ρ : Ren) : AV → AV → Prop
  | base {v v' : AV} (h : LeV1 ρ v v') : LeV ρ v v'
  | fn (f : Fn) (a b a' b' : List AV) (h : LeL (LeV1 ρ) a a') (h' : LeL (LeV1 ρ) b b') : LeV ρ (.fn f a b) (.fn f a' b')
  | agg (l l' : List AV) (h : LeL (LeV1 ρ) l l') : LeV ρ (.agg l) (.agg l')

theorem LeT.refl (a : AV) : LeT a a := fun _ _ _ h => h
theorem LeT.nils_sl {T : Type} (E : Nat) (enc : T → AV) (d : T) : LeT .nils (.sl E enc d []) := fun S w v h => by
  cases h
  exact .sl _ _ _ _ _ (.lslnil E)
theorem LeT.lsl_sl {T : Type} {E : Nat} {l : List AV} (enc : T → AV) (d : T) (xs : List T) (h : l = xs.map enc) : LeT (.lsl E l) (.sl E enc d xs) := fun S w v hr => .sl _ _ _ _ _ (by rw [← h]; exact hr)

inductive LeTs : List AV → List AV → Prop
  | nil : LeTs [] []
  | cons {a b : AV} {l r : List AV} (h : LeT a b) (t : LeTs l r) : LeTs (a :: l) (b :: r)

theorem LeTs.len {l r : List AV} (h : LeTs l r) : r.length = l.length := by
  induction h with
  | nil => rfl
  | cons _ _ ih => simp [ih]
theorem LeTs.get {l r : List AV} (h : LeTs l r) : ∀ {j : Nat} {b : AV}, r[j]? = some b → ∃ a, l[j]? = some a ∧ LeT a b := by
  induction h with
  | nil => intro j b h; simp at h
  | cons h0 t ih =>
    intro j b h
    cases j with
    | zero => simp at h; subst h; exact ⟨_, rfl, h0⟩
    | succ j => exact ih (by simpa using h)

theorem LeT.any1 {a : AV} (h : a.one = true) : LeT a .any1 := fun _ _ _ hr => .any1 _ (hr.oneCell h)

/-- A row whose elements are told more loosely. -/
theorem RowRel.leT {S : Blocks} {w : World} {e E : Nat} {l r : List AV} {v : Value} {vs : List Value} (h : RowRel S w e E l v vs) (hlen : r.length = l.length) (hE : ∀ x ∈ r, x.cells.length = E) (h1 : ∀ a ∈ flat r, a.one = true) (ht : LeTs (flat l) (flat r)) : RowRel S w e E r v vs :=
  ⟨by rw [hlen]; exact h.owns, hE, h1, fun j c b hj hb => by
    obtain ⟨a, ha, hab⟩ := ht.get hb
    exact hab S w c (h.rel j c a hj ha)⟩

inductive LeB (H : Heap) (ρ : Ren) : SrcId → AB → Prop
  | dead (s : SrcId) : LeB H ρ s .dead
  | row {T : Type} (i e E : Nat) (enc : T → AV) (d : T) (xs xs' : List T) (h : lkH H i = .row e E enc d xs) (hx : xs = xs') : LeB H ρ (.id i) (.row e E enc d xs')
  | lst (i e E : Nat) (l l' : List AV) (h : lkH H i = .lst e E l) (hx : l = l') : LeB H ρ (.id i) (.lst e E l')
  | lstrow {T : Type} (i e E : Nat) (l : List AV) (enc : T → AV) (d : T) (xs : List T) (h : lkH H i = .lst e E l) (hx : l = xs.map enc) : LeB H ρ (.id i) (.row e E enc d xs)
  | cells (i e : Nat) (l l' : List AV) (h : lkH H i = .cells e l) (hl : LeL (LeV ρ) l l') (h1 : allOne l' = true) : LeB H ρ (.id i) (.cells e l')
  | smap {V : Type} (i : Nat) (ev : V → AV) (dv : V) (es es' : List (List UInt8 × V)) (h : lkH H i = .smap ev dv es) (hx : es = es') : LeB H ρ (.id i) (.smap ev dv es')
  | imap {V : Type} (i : Nat) (k : IntKind) (ev : V → AV) (dv : V) (es es' : List (Int × V)) (h : lkH H i = .imap k ev dv es) (hx : es = es') : LeB H ρ (.id i) (.imap k ev dv es')
  | newsmap {V W : Type} (i : Nat) (ev : V → AV) (dv : V) (es : List (List UInt8 × V)) (ev' : W → AV) (dv' : W) (es' : List (List UInt8 × W)) (h : lkH H i = .smap ev dv es) (hx : es = []) (hx' : es' = []) : LeB H ρ (.id i) (.smap ev' dv' es')
  | newimap {V W : Type} (i : Nat) (ev : V → AV) (dv : V) (es : List (List UInt8 × V)) (k : IntKind) (ev' : W → AV) (dv' : W) (es' : List (Int × W)) (h : lkH H i = .smap ev dv es) (hx : es = []) (hx' : es' = []) : LeB H ρ (.id i) (.imap k ev' dv' es')
  | arr (i e : Nat) (k : IntKind) (n : Nat) (f f' : Nat → Int) (h : lkH H i = .arr e k n f) (hx : ∀ j, j < n → f j = f' j) : LeB H ρ (.id i) (.arr e k n f')
  | nilrow {T : Type} (e E : Nat) (enc : T → AV) (d : T) (xs : List T) (hx : xs = []) : LeB H ρ .nil (.row e E enc d xs)
  | nillst (e E : Nat) : LeB H ρ .nil (.lst e E [])
  | que {T : Type} (i e E : Nat) (enc : T → AV) (d : T) (xs xs' : List T) (h : lkH H i = .que e E enc d xs) (hx : xs = xs') : LeB H ρ (.id i) (.que e E enc d xs')
  | rowque {T : Type} (i e E : Nat) (enc : T → AV) (d : T) (xs xs' : List T) (h : lkH H i = .row e E enc d xs) (hx : xs = xs') (hn : xs ≠ []) : LeB H ρ (.id i) (.que e E enc d xs')
  | lstque {T : Type} (i e E : Nat) (l : List AV) (enc : T → AV) (d : T) (xs : List T) (h : lkH H i = .lst e E l) (hx : l = xs.map enc) (hn : xs ≠ []) : LeB H ρ (.id i) (.que e E enc d xs)
  | rowT {T : Type} (i e E : Nat) (s : Src) (enc : T → AV) (d : T) (xs : List T) (h : lkH H i = s.obj e E) (hlen : (xs.map enc).length = s.list.length) (hE : ∀ x ∈ xs.map enc, x.cells.length = E) (h1 : ∀ a ∈ flat (xs.map enc), a.one = true)
      (ht : LeTs (flat s.list) (flat (xs.map enc))) : LeB H ρ (.id i) (.row e E enc d xs)
  | truncrow {T : Type} (i n e E : Nat) (enc : T → AV) (d : T) (xs xs' : List T) (h : lkH H i = .row e E enc d xs) (hn : n ≤ xs.length) (hx : xs.take n = xs') : LeB H ρ (.trunc i n) (.row e E enc d xs')

def LeEnv (ρ : Ren) (env : Env) : Env → Prop
  | [] => True
  | (s, v') :: r => LeV ρ (lk env s) v' ∧ LeEnv ρ env r

def LeHeap (H : Heap) (ρ : Ren) : Heap → Prop
  | [] => True
  | (j, b') :: r => (∃ s, lkS ρ j = some s ∧ LeB H ρ s b') ∧ LeHeap H ρ r

def srcOf : SrcId → Option Nat
  | .id i => some i
  | .nil => none
  | .trunc i _ => some i

/-- Each old object comes once; all numbers are small enough. -/
def renOk (nx : Nat) : Ren → Bool
  | [] => true
  | (j, s) :: r => Nat.blt j nx && (match srcOf s with
    | none => true
    | some i => r.all fun p => match srcOf p.2 with
      | none => true
      | some i' => !(Nat.beq i i')) && renOk nx r

def setLen (n : Nat) : Value → Value
  | .slice a _ c => .slice a n c
  | v => v

def renM (ρ : Ren) (m : Ids) : Ids := fun j => match lkS ρ j with
  | none => none
  | some (.id i) => m i
  | some .nil => some (.slice none 0 0)
  | some (.trunc i n) => (m i).map (setLen n)

theorem renOk_inj {nx : Nat} : ∀ {ρ : Ren}, renOk nx ρ = true → ∀ j j' s s' i, lkS ρ j = some s → lkS ρ j' = some s' → srcOf s = some i → srcOf s' = some i → j = j'
  | [], _, j, j', s, s', i, h, _, _, _ => by simp [lkS] at h
  | (k, t) :: r, hr, j, j', s, s', i, h1, h2, e1, e2 => by
    simp only [renOk, Bool.and_eq_true] at hr
    obtain ⟨⟨_, hd⟩, hr⟩ := hr
    have hin : ∀ {ρ : Ren} {j : Nat} {s : SrcId}, lkS ρ j = some s → ∃ p ∈ ρ, p.2 = s := by
      intro ρ
      induction ρ with
      | nil => intro j s h; simp [lkS] at h
      | cons p ρ ih =>
        intro j s h
        obtain ⟨a, b⟩ := p
        simp only [lkS] at h
        split at h
        · cases h; exact ⟨_, List.mem_cons_self, rfl⟩
        · obtain ⟨p, hp, e⟩ := ih h; exact ⟨p, List.mem_cons.2 (.inr hp), e⟩
    simp only [lkS] at h1 h2
    split at h1 <;> split at h2
    · rename_i _ b1 _ b2
      rw [← Nat.eq_of_beq_eq_true b1, ← Nat.eq_of_beq_eq_true b2]
    · cases h1
      rw [e1] at hd
      obtain ⟨p, hp, rfl⟩ := hin h2
      have := List.all_eq_true.1 hd p hp
      rw [e2] at this
      simp at this
    · cases h2
      rw [e2] at hd
      obtain ⟨p, hp, rfl⟩ := hin h1
      have := List.all_eq_true.1 hd p hp
      rw [e1] at this
      simp at this
    · exact renOk_inj hr j j' s s' i h1 h2 e1 e2

theorem renOk_lt {nx : Nat} : ∀ {ρ : Ren}, renOk nx ρ = true → ∀ j s, lkS ρ j = some s → j < nx
  | [], _, j, s, h => by simp [lkS] at h
  | (k, t) :: r, hr, j, s, h => by
    simp only [renOk, Bool.and_eq_true] at hr
    simp only [lkS] at h
    split at h
    · rename_i b
      rw [← Nat.eq_of_beq_eq_true b]
      simpa [Nat.blt_eq] using hr.1.1
    · exact renOk_lt hr.2 j s h

theorem LeV1.rel {ρ : Ren} {m : Ids} {S : Blocks} {w : World} {v : Value} {a a' : AV} (h : LeV1 ρ a a') (hr : RelV m S w v a) : RelV (renM ρ m) S w v a' := by
  have hid : ∀ {i j u}, lkS ρ j = some (.id i) → m i = some u → renM ρ m j = some u := by
    intro i j u h hm
    simp [renM, h, hm]
  cases h with
  | undef v => exact .t _ _ (.undef _)
  | tree v v' h ht => subst h; exact .t _ _ (hr.toT ht)
  | own i j h => cases hr with
    | t _ _ h => cases h
    | own id n cap a hm => exact .own j n cap a (hid h hm)
  | nilown j h => cases hr with
    | t _ _ h' => cases h'; exact .own j 0 0 none (by simp [renM, h])
  | trunc i n j h => cases hr with
    | t _ _ h => cases h
    | pre id len n' cap a hm hle => exact .own j n cap a (by simp [renM, h, hm, setLen])
  | pre i n n' j h hn => subst hn; cases hr with
    | t _ _ h => cases h
    | pre id len n' cap a hm hle => exact .pre j n n' cap a (hid h hm) hle
  | ptr i j off h => cases hr with
    | t _ _ h => cases h
    | ptr id off g hm => exact .ptr j off g (hid h hm)
  | map i j h => cases hr with
    | t _ _ h => cases h
    | map id r hm => exact .map j r (hid h hm)

theorem LeL.get {R : AV → AV → Prop} {l l' : List AV} (h : LeL R l l') : l'.length = l.length ∧ ∀ (j : Nat) (a' : AV), l'[j]? = some a' → ∃ a, l[j]? = some a ∧ R a a' := by
  induction h with
  | nil => exact ⟨rfl, fun j a' h => by simp at h⟩
  | cons h hl ih =>
    refine ⟨by simp [ih.1], fun j a' hj => ?_⟩
    cases j with
    | zero => simp at hj; subst hj; exact ⟨_, rfl, h⟩
    | succ j => simpa using ih.2 j a' (by simpa using hj)

theorem LeV.rel {ρ : Ren} {m : Ids} {S : Blocks} {w : World} {v : Value} {a a' : AV} (h : LeV ρ a a') (hr : RelV m S w v a) : RelV (renM ρ m) S w v a' := by
  cases h with
  | base h => exact h.rel hr
  | fn f x y x' y' h h' =>
    obtain ⟨fs, cs, rfl, h1, h2, r1, r2⟩ := relV_fn hr
    obtain ⟨l1, g1⟩ := h.get
    obtain ⟨l2, g2⟩ := h'.get
    refine .fn f fs cs x' y' (by omega) (by omega) (fun j c a hj ha => ?_) (fun j c a hj ha => ?_)
    · obtain ⟨a0, h0, hle⟩ := g1 j a ha
      exact hle.rel (r1 j c a0 hj h0)
    · obtain ⟨a0, h0, hle⟩ := g2 j a ha
      exact hle.rel (r2 j c a0 hj h0)
  | agg l l' h =>
    obtain ⟨cs, rfl, h1, r1⟩ := relV_agg hr
    obtain ⟨l1, g1⟩ := h.get
    refine .agg cs l' (by omega) (fun j c a hj ha => ?_)
    obtain ⟨a0, h0, hle⟩ := g1 j a ha
    exact hle.rel (r1 j c a0 hj h0)

theorem RowRel.que {S : Blocks} {w : World} {e E : Nat} {l : List AV} {v : Value} {vs : List Value} (h : RowRel S w e E l v vs) (hn : l ≠ []) : ∃ g cap cur, v = .slice (some ⟨g, 0, none⟩) l.length cap ∧ QueRel S w e E l g 0 cap cur := by
  rcases h.owns.2 with ⟨_, h0⟩ | ⟨g, cap, cur, hv, _, hh, hnc, hcm, hcs, htake⟩
  · exact (hn (List.eq_nil_of_length_eq_zero h0)).elim
  · refine ⟨g, cap, cur, hv, hh, hnc, hcm, by omega, h.size, h.ones, fun j c a hj ha => h.rel j c a ?_ ha⟩
    have hlt := (List.getElem?_eq_some_iff.1 ha).1
    rw [flat_length l h.size] at hlt
    rw [← htake, List.getElem?_take, if_pos hlt]
    rw [Nat.zero_add] at hj
    simpa using hj

/-- What a renamed object is: it is live only if its source is, and it has its block. -/
theorem LeB.rel [Tabs] {H : Heap} {ρ : Ren} {m : Ids} {S : Blocks} {w : World} {s : SrcId} {b' : AB} {j : Nat} (hG : Good m S w H) (hs : lkS ρ j = some s) (h : LeB H ρ s b') :
    RelB (renM ρ m) S w j b' ∧ (b'.live = true → ∀ v k, renM ρ m j = some v → blk v = some k → ∃ i u, srcOf s = some i ∧ (lkH H i).live = true ∧ m i = some u ∧ blk u = some k) := by
  have hid : ∀ {i : Nat}, s = .id i → renM ρ m j = m i := by
    intro i e
    subst e
    simp [renM, hs]
  have fin : ∀ {i : Nat}, s = .id i → (lkH H i).live = true → ∀ v k, renM ρ m j = some v → blk v = some k → ∃ i u, srcOf s = some i ∧ (lkH H i).live = true ∧ m i = some u ∧ blk u = some k := by
    intro i e hl v k hv hk
    rw [hid e] at hv
    subst e
    exact ⟨i, v, rfl, hl, hv, hk⟩
  cases h with
  | dead s => exact ⟨trivial, fun h => by simp [AB.live] at h⟩
  | row i e E enc d xs xs' h hx =>
    subst hx
    have hb := hG.rel i
    rw [h] at hb
    obtain ⟨v, vs, hm, hr⟩ := hb
    exact ⟨⟨v, vs, by rw [hid rfl]; exact hm, hr⟩, fun _ => fin rfl (by rw [h]; rfl)⟩
  | lst i e E l l' h hx =>
    subst hx
    have hb := hG.rel i
    rw [h] at hb
    obtain ⟨v, vs, hm, hr⟩ := hb
    exact ⟨⟨v, vs, by rw [hid rfl]; exact hm, hr⟩, fun _ => fin rfl (by rw [h]; rfl)⟩
  | newsmap i ev dv es ev' dv' es' h hx hx' =>
    subst hx
    subst hx'
    have hb := hG.rel i
    rw [h] at hb
    obtain ⟨r, en, clock, hm, hr, hl, hb1, _⟩ := hb
    exact ⟨⟨r, en, clock, by rw [hid rfl]; exact hm, hr, by simpa using hl, hb1, fun j x p _ hp => by simp at hp⟩, fun _ => fin rfl (by rw [h]; rfl)⟩
  | newimap i ev dv es k ev' dv' es' h hx hx' =>
    subst hx
    subst hx'
    have hb := hG.rel i
    rw [h] at hb
    obtain ⟨r, en, clock, hm, hr, hl, hb1, _⟩ := hb
    exact ⟨⟨r, en, clock, by rw [hid rfl]; exact hm, hr, by simpa using hl, hb1, fun j x p _ hp => by simp at hp⟩, fun _ => fin rfl (by rw [h]; rfl)⟩
  | lstrow i e E l enc d xs h hx =>
    have hb := hG.rel i
    rw [h] at hb
    obtain ⟨v, vs, hm, hr⟩ := hb
    rw [hx] at hr
    exact ⟨⟨v, vs, by rw [hid rfl]; exact hm, hr⟩, fun _ => fin rfl (by rw [h]; rfl)⟩
  | cells i e l l' h hl h1 =>
    have hb := hG.rel i
    rw [h] at hb
    obtain ⟨g, cs, hm, hg, hlen, hone, hr⟩ := hb
    obtain ⟨l1, g1⟩ := hl.get
    refine ⟨⟨g, cs, by rw [hid rfl]; exact hm, hg, by omega, allOne_spec h1, fun j c a hj ha => ?_⟩, fun _ => fin rfl (by rw [h]; rfl)⟩
    obtain ⟨a0, h0, hle⟩ := g1 j a ha
    exact hle.rel (hr j c a0 hj h0)
  | smap i ev dv es es' h hx =>
    subst hx
    have hb := hG.rel i
    rw [h] at hb
    obtain ⟨r, en, clock, hm, hr⟩ := hb
    exact ⟨⟨r, en, clock, by rw [hid rfl]; exact hm, hr⟩, fun _ => fin rfl (by rw [h]; rfl)⟩
  | imap i k ev dv es es' h hx =>
    subst hx
    have hb := hG.rel i
    rw [h] at hb
    obtain ⟨r, en, clock, hm, hr⟩ := hb
    exact ⟨⟨r, en, clock, by rw [hid rfl]; exact hm, hr⟩, fun _ => fin rfl (by rw [h]; rfl)⟩
  | arr i e k n f f' h hx =>
    have hb := hG.rel i
    rw [h] at hb
    obtain ⟨g, cs, hm, hg, hl, hr⟩ := hb
    refine ⟨⟨g, cs, by rw [hid rfl]; exact hm, hg, hl, fun j c hj => ?_⟩, fun _ => fin rfl (by rw [h]; rfl)⟩
    rw [← hx j (by have := (Array.getElem?_eq_some_iff.1 hj).1; omega)]
    exact hr j c hj
  | que i e E enc d xs xs' h hx =>
    subst hx
    have hb := hG.rel i
    rw [h] at hb
    obtain ⟨g, o, cap, cur, hm, hr⟩ := hb
    exact ⟨⟨g, o, cap, cur, by rw [hid rfl]; exact hm, hr⟩, fun _ => fin rfl (by rw [h]; rfl)⟩
  | rowque i e E enc d xs xs' h hx hn =>
    subst hx
    have hb := hG.rel i
    rw [h] at hb
    obtain ⟨v, vs, hm, hr⟩ := hb
    obtain ⟨g, cap, cur, rfl, hq⟩ := hr.que (by simpa using hn)
    exact ⟨⟨g, 0, cap, cur, by rw [hid rfl, hm, List.length_map], hq⟩, fun _ => fin rfl (by rw [h]; rfl)⟩
  | lstque i e E l enc d xs h hx hn =>
    subst hx
    have hb := hG.rel i
    rw [h] at hb
    obtain ⟨v, vs, hm, hr⟩ := hb
    obtain ⟨g, cap, cur, rfl, hq⟩ := hr.que (by simpa using hn)
    exact ⟨⟨g, 0, cap, cur, by rw [hid rfl, hm, List.length_map], hq⟩, fun _ => fin rfl (by rw [h]; rfl)⟩
  | rowT i e E s enc d xs h hlen hE h1 ht =>
    obtain ⟨v, vs, hm, hr⟩ := own_row hG rfl h
    exact ⟨⟨v, vs, by rw [hid rfl]; exact hm, hr.leT hlen hE h1 ht⟩, fun _ => fin rfl (by rw [h]; exact src_obj_live _ _ _)⟩
  | nilrow e E enc d xs hx =>
    subst hx
    have hm : renM ρ m j = some (.slice none 0 0) := by simp [renM, hs]
    refine ⟨⟨_, [], hm, ⟨World.ownsRow_nil w 0 e E, by simp, by simp [flat], by simp⟩⟩, fun _ v k hv hk => ?_⟩
    rw [hm] at hv
    cases hv
    simp [blk] at hk
  | nillst e E =>
    have hm : renM ρ m j = some (.slice none 0 0) := by simp [renM, hs]
    refine ⟨⟨_, [], hm, ⟨World.ownsRow_nil w 0 e E, by simp, by simp [flat], by simp⟩⟩, fun _ v k hv hk => ?_⟩
    rw [hm] at hv
    cases hv
    simp [blk] at hk
  | truncrow i n e E enc d xs xs' h hn hx =>
    subst hx
    have hb := hG.rel i
    rw [h] at hb
    obtain ⟨v, vs, hm, hr⟩ := hb
    obtain ⟨a, n0, c, rfl⟩ := blk_slice_of hr
    have hn0 : n ≤ n0 := by
      have := hr.n
      cases this
      simpa using hn
    have hm' : renM ρ m j = some (.slice a n c) := by simp [renM, hs, hm, setLen]
    refine ⟨⟨_, _, hm', by rw [List.map_take]; exact hr.take hn0⟩, fun _ v k hv hk => ⟨i, _, rfl, by rw [h]; rfl, hm, ?_⟩⟩
    rw [hm'] at hv
    cases hv
    cases a with
    | none => simp [blk] at hk
    | some a => exact hk

theorem leHeap_get {H : Heap} {ρ : Ren} : ∀ {H' : Heap}, LeHeap H ρ H' → ∀ j, lkH H' j = .dead ∨ ∃ s, lkS ρ j = some s ∧ LeB H ρ s (lkH H' j)
  | [], _, j => .inl rfl
  | (i, b) :: r, h, j => by
    rw [lkH_cons]
    split
    · rename_i e
      subst e
      exact .inr h.1
    · exact leHeap_get h.2 j

theorem leEnv_get {ρ : Ren} {env : Env} : ∀ {env' : Env}, LeEnv ρ env env' → ∀ s, lk env' s = .undef ∨ LeV ρ (lk env s) (lk env' s)
  | [], _, s => .inl rfl
  | (i, v) :: r, h, s => by
    rw [lk_cons]
    split
    · rename_i e
      subst e
      exact .inr h.1
    · exact leEnv_get h.2 s

/-- What stands fast keeps its number. -/
def pinOk (ρ : Ren) : Nat → Bool
  | 0 => true
  | n + 1 => match lkS ρ n with
    | some (.id i) => match Nat.beq i n with
      | true => pinOk ρ n
      | false => false
    | _ => false
theorem pinOk_spec {ρ : Ren} : ∀ {n : Nat}, pinOk ρ n = true → ∀ i, i < n → lkS ρ i = some (.id i)
  | 0, _, i, h => by omega
  | n + 1, hp, i, h => by
    unfold pinOk at hp
    split at hp
    · rename_i j hj
      split at hp
      · rename_i hb
        have := Nat.eq_of_beq_eq_true hb
        subst this
        by_cases e : i = j
        · subst e; exact hj
        · exact pinOk_spec hp i (by omega)
      · cases hp
    · cases hp

theorem wk_of [Tabs] {pn N : Nat} {env env' : Env} {H H' : Heap} {nx nx' : Nat} (ρ : Ren) (hρ0 : (renOk nx' ρ && pinOk ρ pn) = true) (he : LeEnv ρ env env') (hh : LeHeap H ρ H') : Wk pn N ⟨env, H, nx⟩ ⟨env', H', nx'⟩ := by
  rw [Bool.and_eq_true] at hρ0
  obtain ⟨hρ, hpin⟩ := hρ0
  rintro F a w hF ⟨m, S, hc, hs, hd, hr⟩
  have hlive : ∀ j, (lkH H' j).live = true → ∃ s, lkS ρ j = some s ∧ LeB H ρ s (lkH H' j) := by
    intro j hl
    rcases leHeap_get hh j with h | h
    · rw [h] at hl; simp [AB.live] at hl
    · exact h
  refine ⟨renM ρ m, S, ⟨⟨fun j => ?_, ?_, ?_, hc.good.tab⟩, fun j hj => ?_, hc.far, ?_, hc.ro, hc.ro0, fun i v hi => by
    have h1 := pinOk_spec hpin i (hF i v hi)
    show renM ρ m i = some v
    unfold renM
    rw [h1]
    exact hc.pins i v hi⟩, hs, hd, fun s => ?_⟩
  · rcases leHeap_get hh j with h | ⟨s, h1, h2⟩
    · rw [h]; trivial
    · exact (h2.rel hc.good h1).1
  · intro i j vi vj k hli hlj hvi hvj hki hkj
    obtain ⟨s1, a1, b1⟩ := hlive i hli
    obtain ⟨s2, a2, b2⟩ := hlive j hlj
    obtain ⟨i1, u1, c1, d1, e1, f1⟩ := (b1.rel hc.good a1).2 hli vi k hvi hki
    obtain ⟨i2, u2, c2, d2, e2, f2⟩ := (b2.rel hc.good a2).2 hlj vj k hvj hkj
    have := hc.good.sep i1 i2 u1 u2 k d1 d2 e1 e2 f1 f2
    subst this
    exact renOk_inj hρ i j s1 s2 i1 a1 a2 c1 c2
  · intro g hg
    refine ⟨(hc.good.ro g hg).1, fun i v hl hv hk => ?_⟩
    obtain ⟨s1, a1, b1⟩ := hlive i hl
    obtain ⟨i1, u1, c1, d1, e1, f1⟩ := (b1.rel hc.good a1).2 hl v g hv hk
    exact (hc.good.ro g hg).2 i1 u1 d1 e1 f1
  · simp only at hj
    cases hk : lkS ρ j with
    | none => simp [renM, hk]
    | some s => have := renOk_lt hρ j s hk; omega
  · rintro k ⟨i, v, hl, hv, hk⟩
    obtain ⟨s1, a1, b1⟩ := hlive i hl
    obtain ⟨i1, u1, c1, d1, e1, f1⟩ := (b1.rel hc.good a1).2 hl v k hv hk
    exact hc.owns k ⟨i1, u1, d1, e1, f1⟩
  · rcases leEnv_get he s with h | h
    · simp only [h]; exact .t _ _ (.undef _)
    · exact h.rel (hr s)

end Go.Own
