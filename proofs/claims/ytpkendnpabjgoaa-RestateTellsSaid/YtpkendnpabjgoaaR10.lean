import Derived.Test.YtpkendnpabjgoaaR9
namespace Go.Proofs.Ytpkendnpabjgoaa
open Go.Own
set_option maxHeartbeats 1000000

theorem mget_mset {K V : Type} [DecidableEq K] (m : List (K × V)) (k k' : K) (x : V) : mget (mset m k x) k' = if k = k' then some x else mget m k' := by
  induction m with
  | nil => simp [mset, mget]
  | cons p m ih =>
    obtain ⟨a, b⟩ := p
    by_cases h : a = k
    · subst h
      by_cases h2 : a = k' <;> simp [mset, mget, h2]
    · by_cases h2 : a = k'
      · subst h2
        have h3 : ¬ k = a := fun e => h e.symm
        simp [mset, mget, h, h3]
      · simp [mset, mget, h, h2, ih]

theorem mset_key {K V : Type} [DecidableEq K] : ∀ {m : List (K × V)} {k : K} {x : V} {s : K}, s ∈ (mset m k x).map (·.1) ↔ s = k ∨ s ∈ m.map (·.1)
  | [], k, x, s => by simp [mset]
  | (a, v) :: m, k, x, s => by
    have ih := @mset_key K V _ m k x s
    unfold mset
    split
    · rename_i h
      subst h
      simp
    · rw [List.map_cons, List.mem_cons, ih, List.map_cons, List.mem_cons]
      constructor
      · rintro (h | h | h)
        · exact .inr (.inl h)
        · exact .inl h
        · exact .inr (.inr h)
      · rintro (h | h | h)
        · exact .inr (.inl h)
        · exact .inl h
        · exact .inr (.inr h)

theorem mset_nodup {K V : Type} [DecidableEq K] : ∀ {m : List (K × V)} {k : K} {x : V}, (m.map (·.1)).Nodup → ((mset m k x).map (·.1)).Nodup
  | [], k, x, h => by simp [mset]
  | (a, v) :: m, k, x, h => by
    rw [List.map_cons, List.nodup_cons] at h
    unfold mset
    split
    · rename_i e
      subst e
      rw [List.map_cons, List.nodup_cons]
      exact h
    · rename_i e
      rw [List.map_cons, List.nodup_cons, mset_key]
      refine ⟨?_, mset_nodup h.2⟩
      rintro (h1 | h1)
      · exact e h1
      · exact h.1 h1

theorem mget_none {V : Type} {m : List (Int × V)} {s : Int} : mget m s = none ↔ s ∉ m.map (·.1) := by
  induction m with
  | nil => simp [mget]
  | cons p m ih =>
    obtain ⟨a, b⟩ := p
    unfold mget
    by_cases h : a = s
    · subst h
      simp
    · rw [if_neg h, ih, List.map_cons, List.mem_cons]
      constructor
      · rintro h1 (h2 | h2)
        · exact h h2.symm
        · exact h1 h2
      · intro h1 h2
        exact h1 (.inr h2)

theorem keysI_mem {V : Type} {m : List (Int × V)} {s : Int} : s ∈ keysI m ↔ s ∈ m.map (·.1) := by
  unfold keysI
  exact List.mem_mergeSort

theorem nodup_len {α : Type} [DecidableEq α] : ∀ {l l' : List α}, l.Nodup → (∀ x ∈ l, x ∈ l') → l.length ≤ l'.length
  | [], _, _, _ => Nat.zero_le _
  | a :: l, l', h, hs => by
    rw [List.nodup_cons] at h
    have ha := hs a List.mem_cons_self
    have := nodup_len (l := l) (l' := l'.erase a) h.2 (fun x hx => (List.mem_erase_of_ne (fun e => h.1 (by rw [← e]; exact hx))).2 (hs x (List.mem_cons_of_mem _ hx)))
    rw [List.length_erase_of_mem ha] at this
    have hp := List.length_pos_of_mem ha
    rw [List.length_cons]
    omega

theorem smallSh_iff {m : List (Int × Int)} : smallSh m (keysI m) = true ↔ ∀ s, (mget m s).getD 0 ≤ 1000000000000000 := by
  unfold smallSh
  rw [List.all_eq_true]
  constructor
  · intro h s
    cases hm : mget m s with
    | none => simp
    | some v =>
      have := h s (keysI_mem.2 (List.mem_map.2 ⟨(s, v), mget_mem hm, rfl⟩))
      rw [hm] at this
      simpa using this
  · intro h s _
    have := h s
    simp
    omega

theorem ofL_shares {m : List (Int × Int)} {s : Int} : ofL (shares m) s = (mget m s).getD 0 := by
  unfold ofL
  cases hf : (shares m).find? (fun x => decide (x.seat = s)) with
  | some x =>
    have h1 := List.find?_some hf
    have h2 := List.mem_of_find?_eq_some hf
    unfold shares shL at h2
    obtain ⟨k, _, rfl⟩ := List.mem_map.1 h2
    simp at h1
    subst h1
    rfl
  | none =>
    have h1 := List.find?_eq_none.1 hf
    have h2 : mget m s = none := mget_none.2 fun hk => by
      have := h1 ⟨s, (mget m s).getD 0⟩ (List.mem_map.2 ⟨s, keysI_mem.2 hk, rfl⟩)
      simp at this
    rw [h2]
    rfl

def sumN (f : Nat → Int) : Nat → Int
  | 0 => 0
  | n + 1 => sumN f n + f n

theorem sumN_le {f g : Nat → Int} : ∀ {n : Nat}, (∀ k, k < n → f k ≤ g k) → sumN f n ≤ sumN g n
  | 0, _ => Int.le_refl _
  | n + 1, h => by
    have h1 := sumN_le (n := n) fun k hk => h k (by omega)
    have h2 := h n (by omega)
    show sumN f n + f n ≤ sumN g n + g n
    omega
theorem sumN_eq {f g : Nat → Int} : ∀ {n : Nat}, (∀ k, k < n → f k = g k) → sumN f n = sumN g n
  | 0, _ => rfl
  | n + 1, h => by
    have h1 := sumN_eq (n := n) fun k hk => h k (by omega)
    have h2 := h n (by omega)
    show sumN f n + f n = sumN g n + g n
    omega

def upB (ps : List Pay) (ds : List Int) (ms : List Bool) (k : Nat) : Bool := decide (0 < overAt ps ds k) && !ms.getD k false
def dA (ps : List Pay) (ds : List Int) (ms : List Bool) (s : Int) (k : Nat) : Int := if upB ps ds ms k = true then (if (ps.getD k p0).seat = s then overAt ps ds k else 0) else 0
def dB (ps : List Pay) (ds : List Int) (s : Int) (k : Nat) : Int := if overAt ps ds k < 0 then (if (ps.getD k p0).seat = s then - overAt ps ds k else 0) else 0

theorem dA_nn {ps : List Pay} {ds : List Int} {ms : List Bool} {s : Int} {k : Nat} : 0 ≤ dA ps ds ms s k := by
  unfold dA
  split
  · rename_i h
    unfold upB at h
    simp at h
    split <;> omega
  · exact Int.le_refl _
theorem dB_nn {ps : List Pay} {ds : List Int} {s : Int} {k : Nat} : 0 ≤ dB ps ds s k := by
  unfold dB
  split
  · split <;> omega
  · exact Int.le_refl _

theorem cap_cap {x d : Int} (h : 0 ≤ d) : cap (cap x + d) = cap (x + d) := by
  unfold cap
  by_cases h1 : x ≤ 2000000000000000
  · rw [if_pos h1]
  · rw [if_neg h1, if_neg (show ¬ x + d ≤ 2000000000000000 by omega)]
    split <;> omega
theorem cap_mono {x y : Int} (h : x ≤ y) : cap x ≤ cap y := by
  unfold cap
  split <;> split <;> omega

theorem bump_get (m : List (Int × Int)) (s d s' : Int) : (mget (bump m s d) s').getD 0 = if s = s' then cap ((mget m s).getD 0 + d) else (mget m s').getD 0 := by
  unfold bump
  rw [mget_mset]
  split <;> rfl

theorem tally_succ (ps : List Pay) (ds : List Int) (ms : List Bool) (n : Nat) : tally ps ds ms (n + 1) = stepAt ps ds ms (tally ps ds ms n) n := by
  unfold tally
  rw [List.range_succ, List.foldl_append]
  rfl
theorem tally1_succ (ps : List Pay) (ds : List Int) (ms : List Bool) (n : Nat) : (tally ps ds ms (n + 1)).1 = if upB ps ds ms n = true then bump (tally ps ds ms n).1 (ps.getD n p0).seat (overAt ps ds n) else (tally ps ds ms n).1 := by
  rw [tally_succ]
  unfold stepAt upB
  split
  · rfl
  · split <;> rfl
theorem tally2_succ (ps : List Pay) (ds : List Int) (ms : List Bool) (n : Nat) : (tally ps ds ms (n + 1)).2 = if overAt ps ds n < 0 then bump (tally ps ds ms n).2 (ps.getD n p0).seat (- overAt ps ds n) else (tally ps ds ms n).2 := by
  rw [tally_succ]
  unfold stepAt
  split
  · rename_i h
    simp at h
    rw [if_neg (by omega)]
  · split <;> rfl

theorem tally1_get (ps : List Pay) (ds : List Int) (ms : List Bool) (s : Int) : ∀ n, (mget (tally ps ds ms n).1 s).getD 0 = cap (sumN (dA ps ds ms s) n)
  | 0 => rfl
  | n + 1 => by
    have ih := tally1_get ps ds ms s n
    have hn := @dA_nn ps ds ms s n
    show _ = cap (sumN (dA ps ds ms s) n + dA ps ds ms s n)
    rw [tally1_succ, ← cap_cap hn, ← ih]
    have ho : cap ((mget (tally ps ds ms n).1 s).getD 0) = (mget (tally ps ds ms n).1 s).getD 0 := by
      rw [ih]
      have := @cap_cap (sumN (dA ps ds ms s) n) 0 (Int.le_refl _)
      simpa using this
    unfold dA
    split
    · rw [bump_get]
      split
      · rename_i h
        rw [h]
      · rw [Int.add_zero, ho]
    · rw [Int.add_zero, ho]
theorem tally2_get (ps : List Pay) (ds : List Int) (ms : List Bool) (s : Int) : ∀ n, (mget (tally ps ds ms n).2 s).getD 0 = cap (sumN (dB ps ds s) n)
  | 0 => rfl
  | n + 1 => by
    have ih := tally2_get ps ds ms s n
    have hn := @dB_nn ps ds s n
    show _ = cap (sumN (dB ps ds s) n + dB ps ds s n)
    rw [tally2_succ, ← cap_cap hn, ← ih]
    have ho : cap ((mget (tally ps ds ms n).2 s).getD 0) = (mget (tally ps ds ms n).2 s).getD 0 := by
      rw [ih]
      have := @cap_cap (sumN (dB ps ds s) n) 0 (Int.le_refl _)
      simpa using this
    unfold dB
    split
    · rw [bump_get]
      split
      · rename_i h
        rw [h]
      · rw [Int.add_zero, ho]
    · rw [Int.add_zero, ho]
theorem tally2_free (ps : List Pay) (ds : List Int) (ms ms' : List Bool) : ∀ n, (tally ps ds ms n).2 = (tally ps ds ms' n).2
  | 0 => rfl
  | n + 1 => by rw [tally2_succ, tally2_succ, tally2_free ps ds ms ms' n]

theorem tally_nodup (ps : List Pay) (ds : List Int) (ms : List Bool) : ∀ n, ((tally ps ds ms n).1.map (·.1)).Nodup ∧ ((tally ps ds ms n).2.map (·.1)).Nodup
  | 0 => ⟨List.nodup_nil, List.nodup_nil⟩
  | n + 1 => by
    obtain ⟨h1, h2⟩ := tally_nodup ps ds ms n
    rw [tally1_succ, tally2_succ]
    constructor
    · split
      · exact mset_nodup h1
      · exact h1
    · split
      · exact mset_nodup h2
      · exact h2
theorem tally_len (ps : List Pay) (ds : List Int) (ms : List Bool) : ∀ n, (tally ps ds ms n).1.length ≤ n ∧ (tally ps ds ms n).2.length ≤ n
  | 0 => ⟨Nat.le_refl _, Nat.le_refl _⟩
  | n + 1 => by
    obtain ⟨h1, h2⟩ := tally_len ps ds ms n
    rw [tally1_succ, tally2_succ]
    constructor
    · split
      · unfold bump
        exact Nat.le_trans (mset_len _ _ _) (by omega)
      · omega
    · split
      · unfold bump
        exact Nat.le_trans (mset_len _ _ _) (by omega)
      · omega
theorem tally1_key (ps : List Pay) (ds : List Int) (ms : List Bool) (s : Int) : ∀ n, s ∈ (tally ps ds ms n).1.map (·.1) ↔ ∃ k, k < n ∧ upB ps ds ms k = true ∧ (ps.getD k p0).seat = s
  | 0 => by simp [tally]
  | n + 1 => by
    have ih := tally1_key ps ds ms s n
    rw [tally1_succ]
    constructor
    · intro h
      split at h
      · rename_i hu
        rcases mset_key.1 h with h | h
        · exact ⟨n, by omega, hu, h.symm⟩
        · obtain ⟨k, hk, h1⟩ := ih.1 h
          exact ⟨k, by omega, h1⟩
      · obtain ⟨k, hk, h1⟩ := ih.1 h
        exact ⟨k, by omega, h1⟩
    · rintro ⟨k, hk, h1, h2⟩
      by_cases e : k = n
      · subst e
        rw [if_pos h1]
        exact mset_key.2 (.inl h2.symm)
      · have := ih.2 ⟨k, by omega, h1, h2⟩
        split
        · exact mset_key.2 (.inr this)
        · exact this

theorem upB_set {ps : List Pay} {ds : List Int} {ms : List Bool} {n k : Nat} (h : upB ps ds (ms.set n true) k = true) : upB ps ds ms k = true := by
  unfold upB at h ⊢
  by_cases e : n = k
  · subst e
    rw [List.getD_eq_getElem?_getD, List.getElem?_set] at h
    simp at h
    obtain ⟨h1, h2⟩ := h
    split at h2
    · simp at h2
    · rename_i hl
      simp [h1, hl]
  · rw [List.getD_eq_getElem?_getD, List.getElem?_set_ne e, ← List.getD_eq_getElem?_getD] at h
    exact h
theorem upB_set_ne {ps : List Pay} {ds : List Int} {ms : List Bool} {n k : Nat} (e : n ≠ k) : upB ps ds (ms.set n true) k = upB ps ds ms k := by
  unfold upB
  rw [List.getD_eq_getElem?_getD, List.getElem?_set_ne e, ← List.getD_eq_getElem?_getD]

theorem faith_plain (ps : List Pay) (ds : List Int) (ms : List Bool) (h20 : ps.length ≤ 20) : ∀ n, n < ps.length → smallSh (tally ps ds ms ps.length).1 (keysI (tally ps ds ms ps.length).1) = true → smallSh (tally ps ds ms ps.length).2 (keysI (tally ps ds ms ps.length).2) = true →
      (smallSh (tally ps ds (ms.set n true) ps.length).1 (keysI (tally ps ds (ms.set n true) ps.length).1) = true ∧ smallSh (tally ps ds (ms.set n true) ps.length).2 (keysI (tally ps ds (ms.set n true) ps.length).2) = true) ∧
      (tally ps ds (ms.set n true) ps.length).2 = (tally ps ds ms ps.length).2 ∧
      (∀ k, k < ps.length → ofL (shares (tally ps ds (ms.set n true) ps.length).1) (ps.getD k p0).seat ≤ ofL (shares (tally ps ds ms ps.length).1) (ps.getD k p0).seat ∧
        (ofL (shares (tally ps ds (ms.set n true) ps.length).1) (ps.getD k p0).seat = ofL (shares (tally ps ds ms ps.length).1) (ps.getD k p0).seat ∨ (ps.getD k p0).seat = (ps.getD n p0).seat)) ∧
      (shares (tally ps ds (ms.set n true) ps.length).1).length ≤ (shares (tally ps ds ms ps.length).1).length ∧ (shares (tally ps ds ms ps.length).1).length ≤ 1000000 ∧ (shares (tally ps ds ms ps.length).2).length ≤ 1000000 := by
  intro n hn h1 h2
  have hle : ∀ s, (mget (tally ps ds (ms.set n true) ps.length).1 s).getD 0 ≤ (mget (tally ps ds ms ps.length).1 s).getD 0 := by
    intro s
    rw [tally1_get, tally1_get]
    refine cap_mono (sumN_le fun k _ => ?_)
    by_cases hu : upB ps ds (ms.set n true) k = true
    · unfold dA
      rw [if_pos hu, if_pos (upB_set hu)]
      exact Int.le_refl _
    · have := @dA_nn ps ds ms s k
      show (if _ then _ else _) ≤ _
      rw [if_neg hu]
      exact this
  have h2e := tally2_free ps ds (ms.set n true) ms ps.length
  obtain ⟨l1, l2⟩ := tally_len ps ds ms ps.length
  have lsh : ∀ m : List (Int × Int), (shares m).length = m.length := fun m => by
    unfold shares shL
    rw [List.length_map, keysI_len]
  refine ⟨⟨?_, by rw [h2e]; exact h2⟩, h2e, ?_, ?_, ?_, ?_⟩
  · rw [smallSh_iff] at h1 ⊢
    exact fun s => Int.le_trans (hle s) (h1 s)
  · intro k hk
    rw [ofL_shares, ofL_shares]
    refine ⟨hle _, ?_⟩
    by_cases e : (ps.getD k p0).seat = (ps.getD n p0).seat
    · exact .inr e
    · left
      rw [tally1_get, tally1_get]
      congr 1
      refine sumN_eq fun j _ => ?_
      unfold dA
      by_cases ej : n = j
      · subst ej
        have e' : ¬ (ps.getD n p0).seat = (ps.getD k p0).seat := fun x => e x.symm
        simp only [if_neg e', ite_self]
      · rw [upB_set_ne ej]
  · rw [lsh, lsh]
    have := nodup_len (tally_nodup ps ds (ms.set n true) ps.length).1 (l' := (tally ps ds ms ps.length).1.map (·.1)) fun s hs => by
      obtain ⟨k, a, b, c⟩ := (tally1_key _ _ _ _ _).1 hs
      exact (tally1_key _ _ _ _ _).2 ⟨k, a, upB_set b, c⟩
    rw [List.length_map, List.length_map] at this
    exact this
  · rw [lsh]; omega
  · rw [lsh]; omega

end Go.Proofs.Ytpkendnpabjgoaa
