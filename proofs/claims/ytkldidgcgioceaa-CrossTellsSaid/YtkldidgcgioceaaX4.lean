import Derived.Test.YtkldidgcgioceaaX3
namespace Go.Proofs.Ytkldidgcgioceaa
open Go.Own
set_option maxHeartbeats 1000000

theorem mget_mset {K V : Type} [DecidableEq K] (m : List (K × V)) (k k' : K) (x : V) : mget (mset m k x) k' = if k = k' then some x else mget m k' := by
  induction m with
  | nil => simp [mset, mget]
  | cons p m ih =>
    obtain ⟨a, b⟩ := p
    by_cases h : a = k
    · subst h
      by_cases h2 : a = k' <;> simp [mset, mget, h2]
    · by_cases h2 : a = k'
      · subst h2
        have h3 : ¬ k = a := fun e => h e.symm
        simp [mset, mget, h, h3]
      · simp [mset, mget, h, h2, ih]
theorem mset_key {K V : Type} [DecidableEq K] : ∀ {m : List (K × V)} {k : K} {x : V} {s : K}, s ∈ (mset m k x).map (·.1) ↔ s = k ∨ s ∈ m.map (·.1)
  | [], k, x, s => by simp [mset]
  | (a, v) :: m, k, x, s => by
    have ih := @mset_key K V _ m k x s
    unfold mset
    split
    · rename_i h
      subst h
      simp
    · rw [List.map_cons, List.mem_cons, ih, List.map_cons, List.mem_cons]
      constructor
      · rintro (h | h | h)
        · exact .inr (.inl h)
        · exact .inl h
        · exact .inr (.inr h)
      · rintro (h | h | h)
        · exact .inr (.inl h)
        · exact .inl h
        · exact .inr (.inr h)
theorem mset_nodup {K V : Type} [DecidableEq K] : ∀ {m : List (K × V)} {k : K} {x : V}, (m.map (·.1)).Nodup → ((mset m k x).map (·.1)).Nodup
  | [], k, x, h => by simp [mset]
  | (a, v) :: m, k, x, h => by
    rw [List.map_cons, List.nodup_cons] at h
    unfold mset
    split
    · rename_i e
      subst e
      rw [List.map_cons, List.nodup_cons]
      exact h
    · rename_i e
      rw [List.map_cons, List.nodup_cons, mset_key]
      refine ⟨?_, mset_nodup h.2⟩
      rintro (h1 | h1)
      · exact e h1
      · exact h.1 h1
theorem mset_new {V : Type} : ∀ {m : List (Int × V)} {k : Int} {x : V}, mget m k = none → (mset m k x).length = m.length + 1
  | [], k, x, _ => rfl
  | (a, v) :: m, k, x, h => by
    unfold mget at h
    split at h
    · cases h
    · rename_i e
      unfold mset
      rw [if_neg e, List.length_cons, List.length_cons, mset_new h]
theorem nodup_len {α : Type} [DecidableEq α] : ∀ {l l' : List α}, l.Nodup → (∀ x ∈ l, x ∈ l') → l.length ≤ l'.length
  | [], _, _, _ => Nat.zero_le _
  | a :: l, l', h, hs => by
    rw [List.nodup_cons] at h
    have ha := hs a List.mem_cons_self
    have := nodup_len (l := l) (l' := l'.erase a) h.2 (fun x hx => (List.mem_erase_of_ne (fun e => h.1 (by rw [← e]; exact hx))).2 (hs x (List.mem_cons_of_mem _ hx)))
    rw [List.length_erase_of_mem ha] at this
    have hp := List.length_pos_of_mem ha
    rw [List.length_cons]
    omega

theorem okF_nil (l : List Debt) : okF l [] := ⟨List.nodup_nil, fun p h => by cases h⟩
theorem okF_set {l : List Debt} {es : Fnd} (h : okF l es) {j : Int} (hj : 0 ≤ j ∧ j < l.length) (c : Cau) : okF l (mset es j c) := by
  refine ⟨mset_nodup h.1, fun p hp => ?_⟩
  rcases mset_key.1 (List.mem_map.2 ⟨p, hp, rfl⟩ : p.1 ∈ _) with e | e
  · rw [e]; exact hj
  · obtain ⟨q, hq, e⟩ := List.mem_map.1 e
    rw [← e]
    exact h.2 q hq
theorem okF_len {l : List Debt} {es : Fnd} (h : okF l es) : es.length ≤ l.length := by
  have := nodup_len h.1 (l' := (List.range l.length).map (fun i : Nat => (i : Int))) fun x hx => by
    obtain ⟨p, hp, rfl⟩ := List.mem_map.1 hx
    have := h.2 p hp
    exact List.mem_map.2 ⟨p.1.toNat, List.mem_range.2 (by omega), by omega⟩
  rw [List.length_map, List.length_map, List.length_range] at this
  exact this

theorem seed_okk {l : List Debt} {day : Int} {es : Fnd} (h : okF l es) : ∀ n, n ≤ l.length → okF l (seed l day es n).1 ∧ (seed l day es n).2.length ≤ n ∧ ∀ x ∈ (seed l day es n).2, 0 ≤ x ∧ x < l.length
  | 0, _ => ⟨h, Nat.le_refl _, fun x hx => by cases hx⟩
  | n + 1, hn => by
    obtain ⟨h1, h2, h3⟩ := seed_okk (day := day) h n (by omega)
    rw [seed_succ]
    unfold seedJ
    split
    · refine ⟨okF_set h1 ⟨by omega, by omega⟩ _, ?_, fun x hx => ?_⟩
      · show (_ ++ [(n : Int)]).length ≤ n + 1
        rw [List.length_append]
        show _ + 1 ≤ n + 1
        omega
      · rcases List.mem_append.1 hx with hx | hx
        · exact h3 x hx
        · rw [List.mem_singleton] at hx
          subst hx
          omega
    · exact ⟨h1, by omega, h3⟩
theorem step_okk {l : List Debt} {day r : Int} {es : Fnd} {la : List Int} (h : okF l es) : ∀ n, n ≤ l.length → okF l (step l day r es la n).1 ∧ (step l day r es la n).2.length ≤ n ∧ (∀ x ∈ (step l day r es la n).2, 0 ≤ x ∧ x < l.length) ∧ (step l day r es la n).1.length = es.length + (step l day r es la n).2.length
  | 0, _ => ⟨h, Nat.le_refl _, fun x hx => (by cases hx), rfl⟩
  | n + 1, hn => by
    obtain ⟨h1, h2, h3, h4⟩ := step_okk (day := day) (r := r) (la := la) h n (by omega)
    rw [step_succ]
    unfold stepJ
    split
    · exact ⟨h1, by omega, h3, h4⟩
    · rename_i hno
      split
      · refine ⟨okF_set h1 ⟨by omega, by omega⟩ _, ?_, fun x hx => ?_, ?_⟩
        · show (_ ++ [(n : Int)]).length ≤ n + 1
          rw [List.length_append]
          show _ + 1 ≤ n + 1
          omega
        · rcases List.mem_append.1 hx with hx | hx
          · exact h3 x hx
          · rw [List.mem_singleton] at hx
            subst hx
            omega
        · show (mset _ _ _).length = es.length + (_ ++ [(n : Int)]).length
          rw [mset_new (by simpa using hno), h4, List.length_append]
          rfl
      · exact ⟨h1, by omega, h3, h4⟩

theorem seed_ok' {l : List Debt} {day : Int} {es : Fnd} (h : okF l es) : okF l (seed l day es l.length).1 ∧ okI l (seed l day es l.length).2 := by
  obtain ⟨h1, h2, h3⟩ := seed_okk (day := day) h l.length (Nat.le_refl _)
  exact ⟨h1, h2, h3⟩
theorem step_ok' {l : List Debt} {day r : Int} {es : Fnd} {la : List Int} (h : okF l es) (hla : la ≠ []) : okF l (step l day r es la l.length).1 ∧ okI l (step l day r es la l.length).2 ∧ muF l (step l day r es la l.length) < muF l (es, la) := by
  obtain ⟨h1, h2, h3, h4⟩ := step_okk (day := day) (r := r) (la := la) h l.length (Nat.le_refl _)
  refine ⟨h1, ⟨h2, h3⟩, ?_⟩
  have hl := okF_len h1
  have hl0 := okF_len h
  unfold muF
  rw [if_neg hla]
  split
  · rename_i e
    rw [e] at h4
    simp at h4
    rw [h4]
    show 2 * (l.length - es.length) + 0 < 2 * (l.length - es.length) + 1
    omega
  · rename_i e
    have : 0 < (step l day r es la l.length).2.length := by
      cases hx : (step l day r es la l.length).2 with
      | nil => exact absurd hx e
      | cons _ _ => simp
    show 2 * (l.length - _) + 1 < 2 * (l.length - es.length) + 1
    omega
theorem spread_ok' (l : List Debt) (hl : l.length ≤ 400) (day : Int) (es : Fnd) (h : okF l es) :
    AIO Try.prog 23 [encDs l, .map 0, .int .i64 day] [.imap .i64 encC c0 es] (fun b rs => b = [.imap .i64 encC c0 (spreadL l day es)] ∧ rs = []) :=
  spread_ok l hl day es (seed_ok' h) (fun r es la h _ h2 => step_ok' h h2)

theorem rounds_okF {l : List Debt} {day : Int} : ∀ (f r : Nat) (s : Fnd × List Int), okF l s.1 → okF l (rounds l day f r s)
  | 0, r, s, h => h
  | f + 1, r, s, h => by
    show okF l (if s.2 = [] then s.1 else _)
    split
    · exact h
    · exact rounds_okF f (r + 1) _ (step_okk h l.length (Nat.le_refl _)).1
theorem spread_okF {l : List Debt} {day : Int} {es : Fnd} (h : okF l es) : okF l (spreadL l day es) := rounds_okF _ _ _ (seed_okk h l.length (Nat.le_refl _)).1

end Go.Proofs.Ytkldidgcgioceaa
