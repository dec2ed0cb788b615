/-
  Favour, the plain law: searching by breadth finds the first of the shortest chains.
-/
namespace Go.Proofs.Fav

structure J where
  name : List UInt8
  ncov : Nat
  fav : List (List UInt8)
deriving DecidableEq

def j0 : J := ⟨[], 0, []⟩

/-- An issue favours another one. -/
def fv (l : List J) (i k : Nat) : Bool := (l.getD i j0).fav.contains (l.getD k j0).name
def nxt (l : List J) (i : Nat) : List Nat := (List.range l.length).filter (fv l i)

theorem mem_nxt {l : List J} {i k : Nat} : k ∈ nxt l i ↔ k < l.length ∧ fv l i k = true := by
  unfold nxt
  rw [List.mem_filter, List.mem_range]

/-! ### Shorter, or first -/

def lexlt : List Nat → List Nat → Prop
  | x :: a, y :: b => x < y ∨ (x = y ∧ lexlt a b)
  | _, _ => False

def slt (a b : List Nat) : Prop := a.length < b.length ∨ (a.length = b.length ∧ lexlt a b)
def sle (a b : List Nat) : Prop := a = b ∨ slt a b

theorem lexlt_irrefl : ∀ a, ¬ lexlt a a
  | [], h => h
  | x :: a, h => by
    rcases h with h | ⟨_, h⟩
    · omega
    · exact lexlt_irrefl a h
theorem lexlt_trans : ∀ {a b c : List Nat}, lexlt a b → lexlt b c → lexlt a c
  | [], _, _, h, _ => h.elim
  | _ :: _, [], _, h, _ => h.elim
  | _ :: _, _ :: _, [], _, h => h.elim
  | x :: a, y :: b, z :: c, h, k => by
    rcases h with h | ⟨rfl, h⟩ <;> rcases k with k | ⟨rfl, k⟩
    · exact .inl (by omega)
    · exact .inl h
    · exact .inl k
    · exact .inr ⟨rfl, lexlt_trans h k⟩
theorem lexlt_append : ∀ {a b : List Nat} (x y : List Nat), lexlt a b → lexlt (a ++ x) (b ++ y)
  | [], _, _, _, h => h.elim
  | _ :: _, [], _, _, h => h.elim
  | p :: a, q :: b, x, y, h => by
    rcases h with h | ⟨rfl, h⟩
    · exact .inl h
    · exact .inr ⟨rfl, lexlt_append x y h⟩
theorem lexlt_snoc : ∀ (a : List Nat) {x y : Nat}, x < y → lexlt (a ++ [x]) (a ++ [y])
  | [], _, _, h => .inl h
  | _ :: a, _, _, h => .inr ⟨rfl, lexlt_snoc a h⟩

theorem slt_irrefl (a : List Nat) : ¬ slt a a := fun h => by
  rcases h with h | ⟨_, h⟩
  · omega
  · exact lexlt_irrefl a h
theorem slt_trans {a b c : List Nat} (h : slt a b) (k : slt b c) : slt a c := by
  rcases h with h | ⟨h1, h2⟩ <;> rcases k with k | ⟨k1, k2⟩
  · exact .inl (by omega)
  · exact .inl (by omega)
  · exact .inl (by omega)
  · exact .inr ⟨by omega, lexlt_trans h2 k2⟩
theorem sle_trans {a b c : List Nat} (h : sle a b) (k : sle b c) : sle a c := by
  rcases h with rfl | h
  · exact k
  · rcases k with rfl | k
    · exact .inr h
    · exact .inr (slt_trans h k)
theorem sle_antisymm {a b : List Nat} (h : sle a b) (k : sle b a) : a = b := by
  rcases h with rfl | h
  · rfl
  · rcases k with rfl | k
    · rfl
    · exact (slt_irrefl a (slt_trans h k)).elim
theorem slt_snoc {a b : List Nat} (x : Nat) (h : slt a b) : slt (a ++ [x]) (b ++ [x]) := by
  rcases h with h | ⟨h1, h2⟩
  · exact .inl (by simp; omega)
  · exact .inr ⟨by simp; omega, lexlt_append _ _ h2⟩
theorem sle_snoc {a b : List Nat} (x : Nat) (h : sle a b) : sle (a ++ [x]) (b ++ [x]) := by
  rcases h with rfl | h
  · exact .inl rfl
  · exact .inr (slt_snoc x h)
theorem slt_cons {a b : List Nat} (x : Nat) (h : slt a b) : slt (x :: a) (x :: b) := by
  rcases h with h | ⟨h1, h2⟩
  · exact .inl (by simp; omega)
  · exact .inr ⟨by simp; omega, .inr ⟨rfl, h2⟩⟩
theorem sle_cons {a b : List Nat} (x : Nat) (h : sle a b) : sle (x :: a) (x :: b) := by
  rcases h with rfl | h
  · exact .inl rfl
  · exact .inr (slt_cons x h)
theorem sle_len {a b : List Nat} (h : sle a b) : a.length ≤ b.length := by
  rcases h with rfl | h | ⟨h, _⟩ <;> omega

/-! ### Chains -/

/-- What may be used on a day. -/
def inV (l : List J) (days : List Int) (most : Int) (k : Nat) : Prop := k < l.length ∧ days.getD k 0 ≤ most

/-- A chain from one to another. -/
inductive Ch (l : List J) (days : List Int) (most : Int) : Nat → Nat → List Nat → Prop
  | one {i : Nat} (h : inV l days most i) : Ch l days most i i [i]
  | snoc {i q k : Nat} {c : List Nat} (h : Ch l days most i q c) (ha : fv l q k = true) (hk : inV l days most k) : Ch l days most i k (c ++ [k])

theorem Ch.ne_nil {l : List J} {days : List Int} {most : Int} {i k : Nat} {c : List Nat} (h : Ch l days most i k c) : c ≠ [] := by
  cases h <;> simp
theorem Ch.last {l : List J} {days : List Int} {most : Int} {i k : Nat} {c : List Nat} (h : Ch l days most i k c) : inV l days most k := by
  cases h <;> assumption
theorem Ch.first {l : List J} {days : List Int} {most : Int} {i k : Nat} {c : List Nat} (h : Ch l days most i k c) : inV l days most i := by
  induction h with
  | one h => exact h
  | snoc _ _ _ ih => exact ih

theorem Ch.cons {l : List J} {days : List Int} {most : Int} {i n k : Nat} {c : List Nat} (hi : inV l days most i) (ha : fv l i n = true) (h : Ch l days most n k c) : Ch l days most i k (i :: c) := by
  induction h with
  | one h => exact .snoc (c := [i]) (.one hi) ha h
  | snoc h ha' hk ih => exact .snoc (c := i :: _) ih ha' hk

/-- A chain begins with its first one; what follows is a chain. -/
theorem Ch.split {l : List J} {days : List Int} {most : Int} {i k : Nat} {c : List Nat} (h : Ch l days most i k c) : (c = [i] ∧ i = k) ∨ ∃ n c', c = i :: c' ∧ fv l i n = true ∧ Ch l days most n k c' := by
  induction h with
  | one h => exact .inl ⟨rfl, rfl⟩
  | @snoc q k c h ha hk ih =>
    rcases ih with ⟨rfl, rfl⟩ | ⟨n, c', rfl, h1, h2⟩
    · exact .inr ⟨k, [k], rfl, ha, .one hk⟩
    · exact .inr ⟨n, c' ++ [k], rfl, h1, .snoc h2 ha hk⟩

theorem Ch.mono {l : List J} {days days' : List Int} {most most' : Int} {i k : Nat} {c : List Nat} (h : Ch l days most i k c) (hV : ∀ k, k ∈ c → inV l days most k → inV l days' most' k) : Ch l days' most' i k c := by
  induction h with
  | one h => exact .one (hV _ (by simp) h)
  | snoc h ha hk ih => exact .snoc (ih fun k hk => hV k (by simp [hk])) ha (hV _ (by simp) hk)

theorem Ch.mem {l : List J} {days : List Int} {most : Int} {i k : Nat} {c : List Nat} (h : Ch l days most i k c) : ∀ x ∈ c, inV l days most x := by
  induction h with
  | one h => intro x hx; simp at hx; subst hx; exact h
  | snoc h ha hk ih =>
    intro x hx
    rcases List.mem_append.1 hx with hx | hx
    · exact ih x hx
    · simp at hx; subst hx; exact hk

/-! ### Searching by breadth -/

structure BS where
  out : List (List Nat)
  D : List Nat

def visit (days : List Int) (most : Int) (at_ : Nat) (s : BS) (k : Nat) : BS :=
  if s.out.getD k [] = [] ∧ days.getD k 0 ≤ most then ⟨s.out.set k (s.out.getD at_ [] ++ [k]), s.D ++ [k]⟩ else s

def stepB (l : List J) (days : List Int) (most : Int) (t : Nat) (s : BS) : BS :=
  match s.D[t]? with
  | none => s
  | some a => (nxt l a).foldl (visit days most a) s

def startB (l : List J) (days : List Int) (most : Int) (i : Nat) : BS :=
  if days.getD i 0 ≤ most then ⟨(List.replicate l.length []).set i [i], [i]⟩ else ⟨List.replicate l.length [], []⟩

def bfs (l : List J) (days : List Int) (most : Int) (i : Nat) : Nat → BS
  | 0 => startB l days most i
  | t + 1 => stepB l days most t (bfs l days most i t)

/-- What is known of the search: t elements were looked at; of the next one's neighbours, those for which N holds were. -/
structure Inv (l : List J) (days : List Int) (most : Int) (i t : Nat) (N : Nat → Prop) (s : BS) : Prop where
  len : s.out.length = l.length
  nodup : s.D.Nodup
  inV : ∀ k, k ∈ s.D → Fav.inV l days most k
  mem : ∀ k : Nat, k ∈ s.D ↔ s.out.getD k [] ≠ []
  first : ∀ k : Nat, s.D[0]? = some k → k = i ∧ s.out.getD k [] = [i]
  par : ∀ j k : Nat, s.D[j + 1]? = some k → ∃ p q : Nat, p ≤ j ∧ s.D[p]? = some q ∧ s.out.getD k [] = s.out.getD q [] ++ [k] ∧ fv l q k = true ∧ (∀ p' q' : Nat, p' < p → s.D[p']? = some q' → fv l q' k = false) ∧
    (p < t ∨ (p = t ∧ N k))
  ord : ∀ j k j' k' : Nat, j < j' → s.D[j]? = some k → s.D[j']? = some k' → slt (s.out.getD k []) (s.out.getD k' [])
  clo : ∀ p q k : Nat, p < t → s.D[p]? = some q → fv l q k = true → Fav.inV l days most k → k ∈ s.D
  cloN : ∀ q k : Nat, s.D[t]? = some q → N k → fv l q k = true → Fav.inV l days most k → k ∈ s.D

theorem getD_set (o : List (List Nat)) (k j : Nat) (v : List Nat) : (o.set k v).getD j [] = if k = j ∧ k < o.length then v else o.getD j [] := by
  rw [List.getD_eq_getElem?_getD, List.getElem?_set]
  by_cases e : k = j
  · subst e
    by_cases h : k < o.length
    · simp [h]
    · simp [h, List.getD_eq_getElem?_getD]
  · rw [if_neg e, if_neg (fun h => e h.1), List.getD_eq_getElem?_getD]

theorem mem_get {α : Type} {l : List α} {x : α} (h : x ∈ l) : ∃ j : Nat, l[j]? = some x := List.getElem?_of_mem h

theorem get_lt {α : Type} {l : List α} {x : α} {j : Nat} (h : l[j]? = some x) : j < l.length := (List.getElem?_eq_some_iff.1 h).1

theorem nodup_inj {l : List Nat} (h : l.Nodup) {j j' x : Nat} (h1 : l[j]? = some x) (h2 : l[j']? = some x) : j = j' := by
  obtain ⟨a1, b1⟩ := List.getElem?_eq_some_iff.1 h1
  obtain ⟨a2, b2⟩ := List.getElem?_eq_some_iff.1 h2
  exact (List.getElem_inj (h := h)).1 (b1.trans b2.symm)

theorem get_snoc {D : List Nat} {k j x : Nat} (h : (D ++ [k])[j]? = some x) : D[j]? = some x ∨ (j = D.length ∧ x = k) := by
  by_cases hj : j < D.length
  · rw [List.getElem?_append_left hj] at h; exact .inl h
  · have := get_lt h
    simp at this
    have e : j = D.length := by omega
    subst e
    simp at h
    exact .inr ⟨rfl, h.symm⟩

theorem get_snoc_l {D : List Nat} {k j x : Nat} (h : D[j]? = some x) : (D ++ [k])[j]? = some x := by
  rw [List.getElem?_append_left (get_lt h)]; exact h

theorem inv_start {l : List J} {days : List Int} {most : Int} {i : Nat} (hi : i < l.length) : Inv l days most i 0 (fun _ => False) (startB l days most i) := by
  unfold startB
  split
  · rename_i hd
    refine ⟨by simp, by simp, fun k hk => ?_, fun k => ?_, fun k hk => ?_, fun j k hk => by simp at hk, fun j k j' k' hjj hk hk' => ?_, fun p q k hp => by omega, fun q k _ h => h.elim⟩
    · simp at hk; subst hk; exact ⟨hi, hd⟩
    · rw [getD_set]
      simp only [List.length_replicate, List.mem_singleton]
      by_cases e : i = k
      · subst e; simp [hi]
      · rw [if_neg (fun h => e h.1)]
        constructor
        · intro h; exact (e h.symm).elim
        · intro h
          exfalso
          apply h
          rw [List.getD_eq_getElem?_getD, List.getElem?_replicate]
          split <;> rfl
    · simp at hk
      subst hk
      refine ⟨rfl, ?_⟩
      rw [getD_set]
      simp [hi]
    · have h1 := get_lt hk'
      simp at h1
      omega
  · refine ⟨by simp, by simp, fun k hk => by simp at hk, fun k => ?_, fun k hk => by simp at hk, fun j k hk => by simp at hk, fun j k j' k' hjj hk hk' => by simp at hk, fun p q k hp => by omega, fun q k _ h => h.elim⟩
    constructor
    · intro h; simp at h
    · intro h
      exfalso
      apply h
      rw [List.getD_eq_getElem?_getD, List.getElem?_replicate]
      split <;> rfl

/-- One neighbour is looked at. -/
theorem inv_visit {l : List J} {days : List Int} {most : Int} {i t a : Nat} {N : Nat → Prop} {s : BS} (h : Inv l days most i t N s) (ha : s.D[t]? = some a) {k : Nat} (hk : k < l.length) (hf : fv l a k = true) (hN : ∀ x, N x → x < k) :
    Inv l days most i t (fun x => N x ∨ x = k) (visit days most a s k) := by
  unfold visit
  split
  · rename_i hc
    obtain ⟨hc1, hc2⟩ := hc
    have hkD : k ∉ s.D := fun hm => (h.mem k).1 hm hc1
    have hne : ∀ x, x ∈ s.D → x ≠ k := fun x hx e => hkD (e ▸ hx)
    have hset : ∀ x, x ≠ k → (s.out.set k (s.out.getD a [] ++ [k])).getD x [] = s.out.getD x [] := fun x hx => by
      rw [getD_set, if_neg (fun e => hx e.1.symm)]
    have hsetk : (s.out.set k (s.out.getD a [] ++ [k])).getD k [] = s.out.getD a [] ++ [k] := by
      rw [getD_set, if_pos ⟨rfl, by rw [h.len]; exact hk⟩]
    have hold : ∀ {j x : Nat}, s.D[j]? = some x → (s.out.set k (s.out.getD a [] ++ [k])).getD x [] = s.out.getD x [] := fun hj => hset _ (hne _ (List.mem_of_getElem? hj))
    have hpos : t < s.D.length := get_lt ha
    refine ⟨by simp [h.len], ?_, fun x hx => ?_, fun x => ?_, fun x hx => ?_, fun j x hx => ?_, fun j x j' x' hjj hx hx' => ?_, fun p q x hp hq hfq hx => ?_, fun q x hq hNx hfq hx => ?_⟩
    · rw [List.nodup_append]
      exact ⟨h.nodup, by simp, fun x hx y hy => by simp at hy; subst hy; exact hne x hx⟩
    · rcases List.mem_append.1 hx with hx | hx
      · exact h.inV x hx
      · simp at hx; subst hx; exact ⟨hk, hc2⟩
    · by_cases e : x = k
      · subst e
        simp only [List.mem_append, List.mem_singleton, or_true, true_iff]
        rw [hsetk]
        simp
      · simp only [List.mem_append, List.mem_singleton, e, or_false]
        rw [hset x e]
        exact h.mem x
    · have h0 : s.D[0]? = some x := by
        rcases get_snoc hx with hx | ⟨h1, _⟩
        · exact hx
        · omega
      obtain ⟨e1, e2⟩ := h.first x h0
      refine ⟨e1, ?_⟩
      show (s.out.set k (s.out.getD a [] ++ [k])).getD x [] = [i]
      rw [hold h0]
      exact e2
    · rcases get_snoc hx with hx | ⟨hj, rfl⟩
      · obtain ⟨p, q, h1, h2, h3, h4, h5, h6⟩ := h.par j x hx
        refine ⟨p, q, h1, get_snoc_l h2, ?_, h4, fun p' q' hp hq => ?_, ?_⟩
        · show (s.out.set k (s.out.getD a [] ++ [k])).getD x [] = (s.out.set k (s.out.getD a [] ++ [k])).getD q [] ++ [x]
          rw [hold hx, hold h2]
          exact h3
        · rcases get_snoc hq with hq | ⟨e, _⟩
          · exact h5 p' q' hp hq
          · have := get_lt h2
            omega
        · rcases h6 with h6 | ⟨h6, h7⟩
          · exact .inl h6
          · exact .inr ⟨h6, .inl h7⟩
      · refine ⟨t, a, by omega, get_snoc_l ha, ?_, hf, fun p' q' hp hq => ?_, .inr ⟨rfl, .inr rfl⟩⟩
        · show (s.out.set x (s.out.getD a [] ++ [x])).getD x [] = (s.out.set x (s.out.getD a [] ++ [x])).getD a [] ++ [x]
          rw [hsetk, hold ha]
        · have hq' : s.D[p']? = some q' := by
            rcases get_snoc hq with hq | ⟨e, _⟩
            · exact hq
            · omega
          cases hb : fv l q' x with
          | false => rfl
          | true => exact (hkD (h.clo p' q' x hp hq' hb ⟨hk, hc2⟩)).elim
    · have hx0 : s.D[j]? = some x := by
        rcases get_snoc hx with hx | ⟨e, _⟩
        · exact hx
        · have := get_lt hx'
          simp at this
          omega
      show slt ((s.out.set k (s.out.getD a [] ++ [k])).getD x []) ((s.out.set k (s.out.getD a [] ++ [k])).getD x' [])
      rcases get_snoc hx' with hx' | ⟨hj', rfl⟩
      · rw [hold hx0, hold hx']
        exact h.ord j x j' x' hjj hx0 hx'
      · rw [hold hx0, hsetk]
        -- the new one comes after all others
        cases j with
        | zero =>
          obtain ⟨e1, e2⟩ := h.first x hx0
          rw [e2]
          have hane := (h.mem a).1 (List.mem_of_getElem? ha)
          refine .inl ?_
          have : 0 < (s.out.getD a []).length := List.length_pos_iff.2 hane
          rw [List.length_append, List.length_singleton, List.length_singleton]
          omega
        | succ j =>
          obtain ⟨p, q, h1, h2, h3, h4, h5, h6⟩ := h.par j x hx0
          rw [h3]
          rcases h6 with h6 | ⟨rfl, h7⟩
          · have := h.ord p q t a h6 h2 ha
            rcases this with hl | ⟨hl, hx⟩
            · exact .inl (by rw [List.length_append, List.length_append, List.length_singleton, List.length_singleton]; omega)
            · exact .inr ⟨by rw [List.length_append, List.length_append, List.length_singleton, List.length_singleton]; omega, lexlt_append _ _ hx⟩
          · rw [ha] at h2
            cases h2
            exact .inr ⟨by simp, lexlt_snoc _ (hN x h7)⟩
    · have hq' : s.D[p]? = some q := by
        rcases get_snoc hq with hq | ⟨e, _⟩
        · exact hq
        · omega
      exact List.mem_append.2 (.inl (h.clo p q x hp hq' hfq hx))
    · have hq' : s.D[t]? = some q := by
        rcases get_snoc hq with hq | ⟨e, _⟩
        · exact hq
        · omega
      rcases hNx with hNx | rfl
      · exact List.mem_append.2 (.inl (h.cloN q x hq' hNx hfq hx))
      · exact List.mem_append.2 (.inr (by simp))
  · rename_i hc
    refine ⟨h.len, h.nodup, h.inV, h.mem, h.first, fun j x hx => ?_, h.ord, h.clo, fun q x hq hNx hfq hx => ?_⟩
    · obtain ⟨p, q, h1, h2, h3, h4, h5, h6⟩ := h.par j x hx
      exact ⟨p, q, h1, h2, h3, h4, h5, h6.imp id fun ⟨e, f⟩ => ⟨e, .inl f⟩⟩
    · rcases hNx with hNx | rfl
      · exact h.cloN q x hq hNx hfq hx
      · refine (h.mem x).2 fun e => hc ⟨e, hx.2⟩

theorem inv_fold {l : List J} {days : List Int} {most : Int} {i t a : Nat} : ∀ (ks : List Nat) (N : Nat → Prop) (s : BS), Inv l days most i t N s → s.D[t]? = some a → (∀ k ∈ ks, k < l.length ∧ fv l a k = true) → ks.Pairwise (· < ·) → (∀ x, N x → ∀ k ∈ ks, x < k) →
    Inv l days most i t (fun x => N x ∨ x ∈ ks) (ks.foldl (visit days most a) s) ∧ (ks.foldl (visit days most a) s).D[t]? = some a
  | [], N, s, h, ha, _, _, _ => by
    refine ⟨?_, ha⟩
    have : (fun x => N x ∨ x ∈ ([] : List Nat)) = N := by funext x; simp
    rw [this]; exact h
  | k :: ks, N, s, h, ha, h1, h2, h3 => by
    have hv := inv_visit h ha (h1 k (by simp)).1 (h1 k (by simp)).2 (fun x hx => h3 x hx k (by simp))
    have ha' : (visit days most a s k).D[t]? = some a := by
      unfold visit
      split
      · exact get_snoc_l ha
      · exact ha
    rw [List.pairwise_cons] at h2
    have := inv_fold ks _ _ hv ha' (fun x hx => h1 x (by simp [hx])) h2.2 (fun x hx y hy => by
      rcases hx with hx | rfl
      · exact h3 x hx y (by simp [hy])
      · exact h2.1 y hy)
    have e : (fun x => (N x ∨ x = k) ∨ x ∈ ks) = fun x => N x ∨ x ∈ k :: ks := by
      funext x
      simp [or_assoc]
    rw [e] at this
    exact this

theorem nxt_sorted (l : List J) (a : Nat) : (nxt l a).Pairwise (· < ·) := by
  unfold nxt
  exact List.Pairwise.filter _ List.pairwise_lt_range

theorem inv_step {l : List J} {days : List Int} {most : Int} {i t : Nat} {s : BS} (h : Inv l days most i t (fun _ => False) s) : Inv l days most i (t + 1) (fun _ => False) (stepB l days most t s) := by
  unfold stepB
  cases ha : s.D[t]? with
  | none =>
    have hlen : s.D.length ≤ t := List.getElem?_eq_none_iff.1 ha
    show Inv l days most i (t + 1) (fun _ => False) s
    refine ⟨h.len, h.nodup, h.inV, h.mem, h.first, fun j x hx => ?_, h.ord, fun p q x hp hq hfq hx => ?_, fun q x _ h => h.elim⟩
    · obtain ⟨p, q, h1, h2, h3, h4, h5, h6⟩ := h.par j x hx
      exact ⟨p, q, h1, h2, h3, h4, h5, .inl (by have := get_lt h2; omega)⟩
    · have := get_lt hq
      exact h.clo p q x (by omega) hq hfq hx
  | some a =>
    obtain ⟨h1, h2⟩ := inv_fold (nxt l a) _ s h ha (fun k hk => mem_nxt.1 hk) (nxt_sorted l a) (fun x hx => hx.elim)
    show Inv l days most i (t + 1) (fun _ => False) ((nxt l a).foldl (visit days most a) s)
    refine ⟨h1.len, h1.nodup, h1.inV, h1.mem, h1.first, fun j x hx => ?_, h1.ord, fun p q x hp hq hfq hx => ?_, fun q x _ h => h.elim⟩
    · obtain ⟨p, q, g1, g2, g3, g4, g5, g6⟩ := h1.par j x hx
      refine ⟨p, q, g1, g2, g3, g4, g5, .inl ?_⟩
      rcases g6 with g6 | ⟨g6, _⟩ <;> omega
    · rcases Nat.lt_or_ge p t with hp' | hp'
      · exact h1.clo p q x hp' hq hfq hx
      · have : p = t := by omega
        subst this
        rw [h2] at hq
        cases hq
        exact h1.cloN a x h2 (.inr (mem_nxt.2 ⟨hx.1, hfq⟩)) hfq hx

theorem inv_bfs {l : List J} {days : List Int} {most : Int} {i : Nat} (hi : i < l.length) : ∀ t, Inv l days most i t (fun _ => False) (bfs l days most i t)
  | 0 => inv_start hi
  | t + 1 => inv_step (inv_bfs hi t)

theorem Inv.dlen {l : List J} {days : List Int} {most : Int} {i t : Nat} {N : Nat → Prop} {s : BS} (h : Inv l days most i t N s) : s.D.length ≤ l.length := by
  have hsub : s.D ⊆ List.range l.length := fun k hk => List.mem_range.2 (h.inV k hk).1
  have : ∀ (D R : List Nat), D.Nodup → D ⊆ R → D.length ≤ R.length := by
    intro D
    induction D with
    | nil => intro R _ _; simp
    | cons x D ih =>
      intro R hn hs
      rw [List.nodup_cons] at hn
      have hx : x ∈ R := hs (by simp)
      have := ih (R.erase x) hn.2 (fun y hy => by
        have hyx : y ≠ x := fun e => hn.1 (e ▸ hy)
        exact (List.mem_erase_of_ne hyx).2 (hs (by simp [hy])))
      rw [List.length_erase_of_mem hx] at this
      have : 0 < R.length := List.length_pos_of_mem hx
      simp
      omega
  have := this s.D _ h.nodup hsub
  simpa using this

/-- The chains that are found. -/
def chains (l : List J) (days : List Int) (i : Nat) (most : Int) : List (List Nat) := (bfs l days most i l.length).out

theorem chains_len {l : List J} {days : List Int} {i : Nat} {most : Int} (hi : i < l.length) : (chains l days i most).length = l.length := (inv_bfs hi _).len

theorem chains_valid {l : List J} {days : List Int} {i : Nat} {most : Int} (hi : i < l.length) {k : Nat} (hk : (chains l days i most).getD k [] ≠ []) : Ch l days most i k ((chains l days i most).getD k []) := by
  have h := inv_bfs (days := days) (most := most) hi l.length
  have key : ∀ j k : Nat, (bfs l days most i l.length).D[j]? = some k → Ch l days most i k ((bfs l days most i l.length).out.getD k []) := by
    intro j
    induction j using Nat.strongRecOn with
    | _ j ih =>
      intro k hj
      cases j with
      | zero =>
        obtain ⟨rfl, h2⟩ := h.first k hj
        rw [h2]
        exact .one (h.inV k (List.mem_of_getElem? hj))
      | succ j =>
        obtain ⟨p, q, h1, h2, h3, h4, _⟩ := h.par j k hj
        rw [h3]
        exact .snoc (ih p (by omega) q h2) h4 (h.inV k (List.mem_of_getElem? hj))
  obtain ⟨j, hj⟩ := mem_get ((h.mem k).2 hk)
  exact key j k hj

theorem chains_least {l : List J} {days : List Int} {i : Nat} {most : Int} (hi : i < l.length) {k : Nat} {c : List Nat} (hc : Ch l days most i k c) : (chains l days i most).getD k [] ≠ [] ∧ sle ((chains l days i most).getD k []) c := by
  have h := inv_bfs (days := days) (most := most) hi l.length
  have hdl := h.dlen
  induction hc with
  | one hV =>
    have hD : ∃ k, (bfs l days most i l.length).D[0]? = some k := by
      have h0 : ∀ t, (bfs l days most i t).D[0]? = some i := by
        intro t
        induction t with
        | zero =>
          show (startB l days most i).D[0]? = some i
          unfold startB
          rw [if_pos hV.2]
          rfl
        | succ t ih =>
          show (stepB l days most t (bfs l days most i t)).D[0]? = some i
          unfold stepB
          split
          · exact ih
          · have : ∀ (ks : List Nat) (a : Nat) (s : BS), s.D[0]? = some i → (ks.foldl (visit days most a) s).D[0]? = some i := by
              intro ks a
              induction ks with
              | nil => intro s h; exact h
              | cons k ks ih =>
                intro s h
                refine ih _ ?_
                unfold visit
                split
                · exact get_snoc_l h
                · exact h
            exact this _ _ _ ih
      exact ⟨i, h0 _⟩
    obtain ⟨k, hk⟩ := hD
    obtain ⟨rfl, h2⟩ := h.first k hk
    unfold chains
    rw [h2]
    exact ⟨by simp, .inl rfl⟩
  | @snoc q k c hc ha hV ih =>
    obtain ⟨h1, h2⟩ := ih
    have hq : q ∈ (bfs l days most i l.length).D := (h.mem q).2 h1
    obtain ⟨b, hb⟩ := mem_get hq
    have hbl := get_lt hb
    have hkD : k ∈ (bfs l days most i l.length).D := h.clo b q k (by omega) hb ha hV
    refine ⟨(h.mem k).1 hkD, ?_⟩
    obtain ⟨j, hj⟩ := mem_get hkD
    have h2' : sle ((bfs l days most i l.length).out.getD q []) c := h2
    show sle ((bfs l days most i l.length).out.getD k []) (c ++ [k])
    cases j with
    | zero =>
      obtain ⟨rfl, e2⟩ := h.first k hj
      rw [e2]
      refine .inr (.inl ?_)
      have : 0 < c.length := List.length_pos_iff.2 hc.ne_nil
      simp
      omega
    | succ j =>
      obtain ⟨p, q', g1, g2, g3, g4, g5, _⟩ := h.par j k hj
      rw [g3]
      refine sle_snoc k (sle_trans ?_ h2')
      rcases Nat.lt_trichotomy p b with hlt | rfl | hgt
      · exact .inr (h.ord p q' b q hlt g2 hb)
      · rw [hb] at g2
        cases g2
        exact .inl rfl
      · have := g5 b q hgt hb
        rw [ha] at this
        cases this

end Go.Proofs.Fav
