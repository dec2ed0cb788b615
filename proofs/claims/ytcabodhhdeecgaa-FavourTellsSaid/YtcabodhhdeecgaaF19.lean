/-
  Favour, the plain law: what the document's own way finds: lengths by longer and longer chains, and the first of the next ones.
-/
import Derived.Test.YtcabodhhdeecgaaF2
namespace Go.Proofs.Fav

theorem Ch.append {l : List J} {days : List Int} {most : Int} {i x k : Nat} {p q : List Nat} (h : Ch l days most i x p) (h2 : Ch l days most x k (x :: q)) : Ch l days most i k (p ++ q) := by
  generalize hc : x :: q = c at h2
  induction h2 generalizing q with
  | one hV =>
    have : q = [] := by simpa using hc
    subst this
    rw [List.append_nil]
    exact h
  | @snoc y k c' h3 ha hk ih =>
    -- c' begins with x
    rcases h3.split with ⟨rfl, rfl⟩ | ⟨n, c'', rfl, _⟩
    · have : q = [k] := by simpa using hc
      subst this
      exact .snoc h ha hk
    · have : q = c'' ++ [k] := by simpa using hc
      subst this
      rw [← List.append_assoc]
      exact .snoc (ih rfl) ha hk

/-- How far: the number of the elements of the shortest chain; 0, if it is none of at most n. -/
def IsFar (l : List J) (days : List Int) (most : Int) (to n i v : Nat) : Prop :=
  (v = 0 ∧ ∀ c, Ch l days most i to c → n < c.length) ∨ (0 < v ∧ v ≤ n ∧ (∃ c, Ch l days most i to c ∧ c.length = v) ∧ ∀ c, Ch l days most i to c → v ≤ c.length)

theorem ch_pos {l : List J} {days : List Int} {most : Int} {i k : Nat} {c : List Nat} (h : Ch l days most i k c) : 0 < c.length := List.length_pos_iff.2 h.ne_nil

/-- One more round: i is n + 1 far, if it favours one that is n far. -/
theorem far_step {l : List J} {days : List Int} {most : Int} {to n i : Nat} {o : List Nat} (hn : 0 < n) (ho : ∀ k, k < l.length → IsFar l days most to n k (o.getD k 0)) (hi : i < l.length) :
    IsFar l days most to (n + 1) i (if o.getD i 0 = 0 ∧ (∃ k, k < l.length ∧ o.getD k 0 = n ∧ days.getD i 0 ≤ most ∧ fv l i k = true) then n + 1 else o.getD i 0) := by
  have hoi := ho i hi
  split
  · rename_i h
    obtain ⟨h0, k, hk, h1, h2, h3⟩ := h
    rcases hoi with ⟨_, g⟩ | ⟨g, _⟩
    · refine .inr ⟨by omega, by omega, ?_, fun c hc => g c hc⟩
      rcases ho k hk with ⟨e, _⟩ | ⟨_, _, ⟨c, hc, hcl⟩, _⟩
      · omega
      · exact ⟨i :: c, .cons ⟨hi, h2⟩ h3 hc, by rw [List.length_cons, hcl, h1]⟩
    · omega
  · rename_i h
    rcases hoi with ⟨e, g⟩ | ⟨g1, g2, g3, g4⟩
    · refine .inl ⟨e, fun c hc => ?_⟩
      have hlt := g c hc
      refine Nat.lt_of_le_of_ne hlt fun e2 => h ⟨e, ?_⟩
      -- a chain of n + 1: its second one is n far
      rcases hc.split with ⟨rfl, _⟩ | ⟨k, c', rfl, hf, hc'⟩
      · simp at e2; omega
      · have hk := hc'.first.1
        have hl' : c'.length = n := by rw [List.length_cons] at e2; omega
        refine ⟨k, hk, ?_, hc.first.2, hf⟩
        rcases ho k hk with ⟨_, q⟩ | ⟨q1, q2, ⟨c2, hc2, hl2⟩, q4⟩
        · have := q c' hc'
          omega
        · have := q4 c' hc'
          have h5 := g _ (.cons hc.first hf hc2)
          rw [List.length_cons, hl2] at h5
          omega
    · exact .inr ⟨g1, by omega, g3, g4⟩

theorem far_start {l : List J} {days : List Int} {most : Int} {to : Nat} (hto : to < l.length) (hd : days.getD to 0 ≤ most) {i : Nat} (hi : i < l.length) : IsFar l days most to 1 i (((List.replicate l.length 0).set to 1).getD i 0) := by
  have hg : ((List.replicate l.length 0).set to 1).getD i 0 = if to = i then 1 else 0 := by
    rw [List.getD_eq_getElem?_getD, List.getElem?_set]
    by_cases e : to = i
    · subst e; simp [hto]
    · rw [if_neg e, if_neg e, List.getElem?_replicate, if_pos hi]; rfl
  rw [hg]
  split
  · rename_i e
    subst e
    exact .inr ⟨by omega, by omega, ⟨[to], .one ⟨hto, hd⟩, rfl⟩, fun c hc => ch_pos hc⟩
  · rename_i e
    refine .inl ⟨rfl, fun c hc => ?_⟩
    rcases hc.split with ⟨_, e2⟩ | ⟨n, c', rfl, _, hc'⟩
    · exact (e e2.symm).elim
    · have := ch_pos hc'
      rw [List.length_cons]
      omega

/-- The lengths, all of them. -/
structure Far (l : List J) (days : List Int) (most : Int) (to : Nat) (o : List Nat) : Prop where
  len : o.length = l.length
  pos : ∀ i, i < l.length → 0 < o.getD i 0 → (∃ c, Ch l days most i to c ∧ c.length = o.getD i 0) ∧ ∀ c, Ch l days most i to c → o.getD i 0 ≤ c.length
  zero : ∀ i, i < l.length → o.getD i 0 = 0 → ∀ c, ¬ Ch l days most i to c

/-- No shortest chain has more elements than there are issues. -/
theorem short_len {l : List J} {days : List Int} {most : Int} {i k : Nat} {c : List Nat} (hc : Ch l days most i k c) (hs : ∀ c', Ch l days most i k c' → c.length ≤ c'.length) : c.length ≤ l.length := by
  have hn := hc.nodup hs
  have := nodup_len _ (List.range l.length) hn fun x hx => List.mem_range.2 (hc.mem x hx).1
  simpa using this
theorem shortest {l : List J} {days : List Int} {most : Int} {i k : Nat} : ∀ (n : Nat) (c : List Nat), c.length ≤ n → Ch l days most i k c → ∃ c', Ch l days most i k c' ∧ c'.length ≤ c.length ∧ ∀ c'', Ch l days most i k c'' → c'.length ≤ c''.length
  | 0, c, h, hc => by have := ch_pos hc; omega
  | n + 1, c, h, hc => by
    by_cases hs : ∀ c'', Ch l days most i k c'' → c.length ≤ c''.length
    · exact ⟨c, hc, Nat.le_refl _, hs⟩
    · obtain ⟨c2, hc2⟩ := Classical.not_forall.1 hs
      obtain ⟨h2, h3⟩ := Classical.not_imp.1 hc2
      obtain ⟨c', g1, g2, g3⟩ := shortest n c2 (by omega) h2
      exact ⟨c', g1, by omega, g3⟩

theorem far_done {l : List J} {days : List Int} {most : Int} {to n : Nat} {o : List Nat} (hn : l.length ≤ n) (hl : o.length = l.length) (ho : ∀ k, k < l.length → IsFar l days most to n k (o.getD k 0)) : Far l days most to o := by
  refine ⟨hl, fun i hi hp => ?_, fun i hi h0 c hc => ?_⟩
  · rcases ho i hi with ⟨e, _⟩ | ⟨_, _, g3, g4⟩
    · omega
    · exact ⟨g3, g4⟩
  · rcases ho i hi with ⟨_, g⟩ | ⟨g, _⟩
    · obtain ⟨c', g1, g2, g3⟩ := shortest c.length c (Nat.le_refl _) hc
      have h1 := short_len g1 g3
      have h2 := g c' g1
      omega
    · omega

/-- The next one: the first that is one nearer. -/
def nextOf (l : List J) (o : List Nat) (at_ : Nat) : Nat → Option Nat
  | 0 => none
  | n + 1 => match nextOf l o at_ n with
    | some k => some k
    | none => if 0 < o.getD n 0 ∧ o.getD n 0 = o.getD at_ 0 - 1 ∧ fv l at_ n = true then some n else none

theorem nextOf_some {l : List J} {o : List Nat} {at_ : Nat} : ∀ {n k : Nat}, nextOf l o at_ n = some k → k < n ∧ (0 < o.getD k 0 ∧ o.getD k 0 = o.getD at_ 0 - 1 ∧ fv l at_ k = true) ∧ ∀ j, j < k → ¬ (0 < o.getD j 0 ∧ o.getD j 0 = o.getD at_ 0 - 1 ∧ fv l at_ j = true) := by
  have hnone : ∀ {n : Nat}, nextOf l o at_ n = none → ∀ j, j < n → ¬ (0 < o.getD j 0 ∧ o.getD j 0 = o.getD at_ 0 - 1 ∧ fv l at_ j = true) := by
    intro n
    induction n with
    | zero => intro _ j hj; omega
    | succ n ih =>
      intro h j hj
      unfold nextOf at h
      split at h
      · cases h
      · rename_i h1
        split at h
        · cases h
        · rename_i h2
          by_cases e : j = n
          · subst e; exact h2
          · exact ih h1 j (by omega)
  intro n
  induction n with
  | zero => intro k h; cases h
  | succ n ih =>
    intro k h
    unfold nextOf at h
    split at h
    · rename_i h1
      cases h
      obtain ⟨a, b, c⟩ := ih h1
      exact ⟨by omega, b, c⟩
    · rename_i h1
      split at h
      · rename_i h2
        cases h
        exact ⟨by omega, h2, hnone h1⟩
      · cases h
theorem nextOf_none {l : List J} {o : List Nat} {at_ : Nat} {n : Nat} (h : nextOf l o at_ n = none) : ∀ j, j < n → ¬ (0 < o.getD j 0 ∧ o.getD j 0 = o.getD at_ 0 - 1 ∧ fv l at_ j = true) := by
  induction n with
  | zero => intro j hj; omega
  | succ n ih =>
    intro j hj
    unfold nextOf at h
    split at h
    · cases h
    · rename_i h1
      split at h
      · cases h
      · rename_i h2
        by_cases e : j = n
        · subst e; exact h2
        · exact ih h1 j (by omega)

/-- From one that is far, the next one is there. -/
theorem next_some {l : List J} {days : List Int} {most : Int} {to : Nat} {o : List Nat} (h : Far l days most to o) {a : Nat} (ha : a < l.length) (hp : 0 < o.getD a 0) (hne : a ≠ to) : ∃ k, nextOf l o a l.length = some k ∧ k < l.length ∧ o.getD k 0 + 1 = o.getD a 0 ∧ 0 < o.getD k 0 ∧ fv l a k = true := by
  cases hk : nextOf l o a l.length with
  | some k =>
    obtain ⟨h1, ⟨h2, h3, h4⟩, _⟩ := nextOf_some hk
    exact ⟨k, rfl, h1, by omega, h2, h4⟩
  | none =>
    exfalso
    have hno := nextOf_none hk
    obtain ⟨⟨c, hc, hcl⟩, hmin⟩ := h.pos a ha hp
    rcases hc.split with ⟨_, e⟩ | ⟨n, c', rfl, hf, hc'⟩
    · exact hne e
    · have hn := hc'.first.1
      have hn0 : 0 < o.getD n 0 := Nat.pos_of_ne_zero fun e => h.zero n hn e c' hc'
      obtain ⟨⟨c2, hc2, hl2⟩, hmin2⟩ := h.pos n hn hn0
      have h1 := hmin2 c' hc'
      have h2 := hmin _ (.cons hc.first hf hc2)
      rw [List.length_cons] at h2 hcl
      exact hno n hn ⟨hn0, by omega, hf⟩

/-- The way from one on. -/
def Wf (l : List J) (o : List Nat) (to : Nat) : Nat → Nat → List Nat
  | 0, a => [a]
  | f + 1, a => if a = to then [a] else match nextOf l o a l.length with
    | some k => a :: Wf l o to f k
    | none => [a]

theorem Wf_head (l : List J) (o : List Nat) (to : Nat) (f a : Nat) : Wf l o to f a = a :: (Wf l o to f a).drop 1 := by
  cases f with
  | zero => rfl
  | succ f =>
    unfold Wf
    split
    · rfl
    · split <;> rfl
theorem Wf_to (l : List J) (o : List Nat) (to : Nat) (f : Nat) : Wf l o to f to = [to] := by
  cases f with
  | zero => rfl
  | succ f => unfold Wf; rw [if_pos rfl]
theorem Wf_next {l : List J} {o : List Nat} {to f a k : Nat} (h : a ≠ to) (hk : nextOf l o a l.length = some k) : Wf l o to (f + 1) a = a :: Wf l o to f k := by
  show (if a = to then [a] else match nextOf l o a l.length with | some k => a :: Wf l o to f k | none => [a]) = _
  rw [if_neg h, hk]

theorem Wf_least {l : List J} {days : List Int} {most : Int} {to : Nat} {o : List Nat} (h : Far l days most to o) : ∀ (d a : Nat), a < l.length → o.getD a 0 = d + 1 →
    Ch l days most a to (Wf l o to (d + 1) a) ∧ (Wf l o to (d + 1) a).length = d + 1 ∧ ∀ c, Ch l days most a to c → sle (Wf l o to (d + 1) a) c := by
  intro d
  induction d with
  | zero =>
    intro a ha ho
    obtain ⟨⟨c, hc, hcl⟩, hmin⟩ := h.pos a ha (by omega)
    have hat : a = to := by
      rcases hc.split with ⟨_, e⟩ | ⟨n, c', rfl, _, hc'⟩
      · exact e
      · have := ch_pos hc'
        rw [List.length_cons] at hcl
        omega
    subst hat
    rw [Wf_to]
    refine ⟨.one hc.first, rfl, fun c' hc' => ?_⟩
    rcases hc'.split with ⟨rfl, _⟩ | ⟨n, c'', rfl, _, h2⟩
    · exact .inl rfl
    · have := ch_pos h2
      exact .inr (.inl (by show 1 < c''.length + 1; omega))
  | succ d ih =>
    intro a ha ho
    obtain ⟨⟨c0, hc0, hcl0⟩, hmin⟩ := h.pos a ha (by omega)
    have hne : a ≠ to := by
      rintro rfl
      have := hmin [a] (.one hc0.first)
      rw [List.length_singleton] at this
      omega
    obtain ⟨k, hk, hkl, hko, hkp, hkf⟩ := next_some h ha (by omega) hne
    obtain ⟨i1, i2, i3⟩ := ih k hkl (by omega)
    rw [Wf_next hne hk]
    refine ⟨.cons hc0.first hkf i1, by rw [List.length_cons, i2], fun c hc => ?_⟩
    rcases hc.split with ⟨_, e⟩ | ⟨n, c', rfl, hf, hc'⟩
    · exact (hne e).elim
    · have hn := hc'.first.1
      have hn0 : 0 < o.getD n 0 := Nat.pos_of_ne_zero fun e => h.zero n hn e c' hc'
      obtain ⟨⟨c2, hc2, hl2⟩, hmin2⟩ := h.pos n hn hn0
      have h1 := hmin2 c' hc'
      have h2 := hmin _ (.cons hc.first hf hc2)
      rw [List.length_cons] at h2
      by_cases hlen : c'.length = d + 1
      · obtain ⟨_, _, hfirst⟩ := nextOf_some hk
        rcases Nat.lt_trichotomy k n with hlt | rfl | hgt
        · refine .inr (.inr ⟨by rw [List.length_cons, List.length_cons, i2, hlen], .inr ⟨rfl, ?_⟩⟩)
          rw [Wf_head]
          rcases hc'.split with ⟨rfl, _⟩ | ⟨_, c3, rfl, _⟩
          · exact .inl hlt
          · exact .inl hlt
        · exact sle_cons a (i3 c' hc')
        · exact (hfirst n hgt ⟨hn0, by omega, hf⟩).elim
      · exact .inr (.inl (by rw [List.length_cons, List.length_cons, i2]; omega))

/-- What the document's way finds is what the search finds. -/
theorem ref_chain {l : List J} {days : List Int} {most : Int} {i to : Nat} {o : List Nat} (h : Far l days most to o) (hi : i < l.length) (hp : 0 < o.getD i 0) : Wf l o to (o.getD i 0) i = (chains l days i most).getD to [] := by
  obtain ⟨d, hd⟩ : ∃ d, o.getD i 0 = d + 1 := ⟨o.getD i 0 - 1, by omega⟩
  rw [hd]
  obtain ⟨h1, _, h3⟩ := Wf_least h d i hi hd
  obtain ⟨g1, g2⟩ := chains_least hi h1
  exact sle_antisymm (h3 _ (chains_valid hi g1)) g2
theorem ref_none {l : List J} {days : List Int} {most : Int} {i to : Nat} {o : List Nat} (h : Far l days most to o) (hi : i < l.length) : o.getD i 0 = 0 ↔ (chains l days i most).getD to [] = [] := by
  constructor
  · intro h0
    exact Classical.byContradiction fun hn => h.zero i hi h0 _ (chains_valid hi hn)
  · intro h0
    refine Classical.byContradiction fun hn => ?_
    obtain ⟨⟨c, hc, _⟩, _⟩ := h.pos i hi (by omega)
    exact (chains_least hi hc).1 h0

/-- The day on which the document's way finds it: the least of those on which there is one. -/
def refDay (days : List Int) (g : Int → Bool) : Nat → Int
  | 0 => -1
  | n + 1 => if g (days.getD n 0) = true ∧ (refDay days g n < 0 ∨ days.getD n 0 < refDay days g n) then days.getD n 0 else refDay days g n

theorem refDay_spec {days : List Int} {g : Int → Bool} (hd : ∀ j, j < days.length → 0 ≤ days.getD j 0) : ∀ n, n ≤ days.length →
    (refDay days g n = -1 ∧ ∀ j, j < n → g (days.getD j 0) = false) ∨ (∃ j, j < n ∧ g (days.getD j 0) = true ∧ refDay days g n = days.getD j 0 ∧ ∀ j', j' < n → g (days.getD j' 0) = true → days.getD j 0 ≤ days.getD j' 0)
  | 0, _ => .inl ⟨rfl, fun j hj => by omega⟩
  | n + 1, hn => by
    unfold refDay
    rcases refDay_spec (g := g) hd n (by omega) with ⟨h1, h2⟩ | ⟨j, h1, h2, h3, h4⟩
    · by_cases hg : g (days.getD n 0) = true
      · rw [if_pos ⟨hg, .inl (by omega)⟩]
        refine .inr ⟨n, by omega, hg, rfl, fun j' hj' hg' => ?_⟩
        by_cases e : j' = n
        · subst e; exact Int.le_refl _
        · have := h2 j' (by omega)
          rw [this] at hg'
          cases hg'
      · rw [if_neg (fun h => hg h.1)]
        refine .inl ⟨h1, fun j hj => ?_⟩
        by_cases e : j = n
        · subst e; simpa using hg
        · exact h2 j (by omega)
    · by_cases hg : g (days.getD n 0) = true
      · by_cases hlt : days.getD n 0 < refDay days g n
        · rw [if_pos ⟨hg, .inr hlt⟩]
          refine .inr ⟨n, by omega, hg, rfl, fun j' hj' hg' => ?_⟩
          by_cases e : j' = n
          · subst e; exact Int.le_refl _
          · have := h4 j' (by omega) hg'
            omega
        · have h0 := hd j (by omega)
          rw [if_neg (fun h => by rcases h.2 with h | h <;> omega)]
          refine .inr ⟨j, by omega, h2, h3, fun j' hj' hg' => ?_⟩
          by_cases e : j' = n
          · subst e; omega
          · exact h4 j' (by omega) hg'
      · rw [if_neg (fun h => hg h.1)]
        refine .inr ⟨j, by omega, h2, h3, fun j' hj' hg' => ?_⟩
        by_cases e : j' = n
        · subst e; exact (hg hg').elim
        · exact h4 j' (by omega) hg'

/-- It is the day of the search. -/
theorem refDay_eq {l : List J} {days st : List Int} (hs : Stp l days st) (hd : okDays days) {i k : Nat} (hi : i < l.length) :
    ((S l days st i k).1 = [] → refDay days (fun d => decide ((chains l days i d).getD k [] ≠ [])) days.length = -1) ∧
    ((S l days st i k).1 ≠ [] → refDay days (fun d => decide ((chains l days i d).getD k [] ≠ [])) days.length = (S l days st i k).2) := by
  have hd0 : ∀ j, j < days.length → 0 ≤ days.getD j 0 := fun j hj => (hd _ (fgetD_mem hj)).1
  rcases refDay_spec (g := fun d => decide ((chains l days i d).getD k [] ≠ [])) hd0 days.length (Nat.le_refl _) with ⟨h1, h2⟩ | ⟨j, h1, h2, h3, h4⟩
  · refine ⟨fun _ => h1, fun hS => ?_⟩
    exfalso
    obtain ⟨g1, g2, _⟩ := S_some hs hi hS
    obtain ⟨j, hj, e⟩ := List.getElem_of_mem g1
    have := h2 j hj
    rw [decide_eq_false_iff_not] at this
    apply this
    have e2 : days.getD j 0 = (S l days st i k).2 := by rw [List.getD_eq_getElem?_getD, List.getElem?_eq_getElem hj]; exact e
    rw [e2]
    exact (chains_least hi g2).1
  · have hne := of_decide_eq_true h2
    have hc := chains_valid hi hne
    obtain ⟨hS, hle⟩ := S_of hs hc
    refine ⟨fun h => (hS h).elim, fun _ => ?_⟩
    rw [h3]
    refine Int.le_antisymm ?_ hle
    obtain ⟨g1, g2, _⟩ := S_some hs hi hS
    obtain ⟨j', hj', e⟩ := List.getElem_of_mem g1
    have e2 : days.getD j' 0 = (S l days st i k).2 := by rw [List.getD_eq_getElem?_getD, List.getElem?_eq_getElem hj']; exact e
    have := h4 j' hj' (decide_eq_true (by rw [e2]; exact (chains_least hi g2).1))
    rw [e2] at this
    exact this

end Go.Proofs.Fav
