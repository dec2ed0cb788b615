import Derived.Test.YtpkendnpabjgoaaR23
namespace Go.Proofs.Ytpkendnpabjgoaa
open Go.Own
set_option maxHeartbeats 1000000

theorem ascB_iff {lim : Int} : ∀ {l : List Int} {last : Int}, ascB lim last l = true ↔ (∀ x ∈ l, last < x ∧ x < lim) ∧ l.Pairwise (· < ·)
  | [], last => by simp [ascB]
  | a :: l, last => by
    have ih := @ascB_iff lim l a
    show (!(decide (a ≤ last) || decide (lim ≤ a)) && ascB lim a l) = true ↔ _
    rw [Bool.and_eq_true, ih, List.pairwise_cons]
    simp only [Bool.not_eq_true', Bool.or_eq_false_iff, decide_eq_false_iff_not, List.mem_cons, forall_eq_or_imp]
    constructor
    · rintro ⟨⟨h1, h2⟩, h3, h4⟩
      exact ⟨⟨⟨by omega, by omega⟩, fun x hx => ⟨by have := h3 x hx; omega, (h3 x hx).2⟩⟩, fun x hx => (h3 x hx).1, h4⟩
    · rintro ⟨⟨⟨h1, h2⟩, h3⟩, h4, h5⟩
      exact ⟨⟨by omega, by omega⟩, fun x hx => ⟨h4 x hx, (h3 x hx).2⟩, h5⟩

theorem getD_get {l : List Int} {j : Nat} (h : j < l.length) : l.getD j 0 = l[j] := by
  rw [List.getD_eq_getElem?_getD, List.getElem?_eq_getElem h]
  rfl
theorem pair_iff {l : List Int} : l.Pairwise (· < ·) ↔ ∀ j, 0 < j → j < l.length → l.getD (j - 1) 0 < l.getD j 0 := by
  rw [List.pairwise_iff_getElem]
  constructor
  · intro h j h0 hj
    rw [getD_get hj, getD_get (show j - 1 < l.length by omega)]
    exact h (j - 1) j (by omega) hj (by omega)
  · intro h i j hi hj hij
    rw [← getD_get hi, ← getD_get hj]
    have main : ∀ d, i + d + 1 < l.length → l.getD i 0 < l.getD (i + d + 1) 0 := by
      intro d
      induction d with
      | zero => intro hd; exact h (i + 1) (by omega) hd
      | succ d ih =>
        intro hd
        have h1 := ih (by omega)
        have h2 := h (i + d + 1 + 1) (by omega) (by omega)
        rw [show i + d + 1 + 1 - 1 = i + d + 1 by omega] at h2
        exact Int.lt_trans h1 h2
    have := main (j - i - 1) (by omega)
    rw [show i + (j - i - 1) + 1 = j by omega] at this
    exact this
theorem mem_get {l : List Int} {P : Int → Prop} : (∀ x ∈ l, P x) ↔ ∀ j, j < l.length → P (l.getD j 0) := by
  constructor
  · intro h j hj
    exact h _ (getD_mem hj)
  · intro h x hx
    obtain ⟨j, hj, e⟩ := List.getElem_of_mem hx
    have := h j hj
    rw [getD_get hj, e] at this
    exact this

theorem fr_iff {i : Nat} {xs : List Int} : (List.range xs.length).any (frBad i xs) = false ↔ ascB i (-1) xs = true := by
  rw [ascB_iff, pair_iff, mem_get, List.any_eq_false]
  unfold frBad
  simp only [List.mem_range, Bool.or_eq_true, Bool.and_eq_true, decide_eq_true_eq]
  constructor
  · intro h
    refine ⟨fun j hj => ?_, fun j h0 hj => ?_⟩
    · have := h j hj
      omega
    · have := h j hj
      omega
  · rintro ⟨h1, h2⟩ j hj
    have := h1 j hj
    by_cases h0 : 0 < j
    · have := h2 j h0 hj
      omega
    · omega

theorem take_get {l : List Int} {n j : Nat} (h : j < n) (hl : j < l.length) : (l.take n).getD j 0 = l.getD j 0 := by
  rw [List.getD_eq_getElem?_getD, List.getElem?_take, if_pos h, ← List.getD_eq_getElem?_getD]

theorem fa_iff {xs : List Int} : (List.range xs.length).any (faBad xs) = false ↔ ((decide (0 < xs.length) && !ascB (xs.getD (xs.length - 1) 0) (-1) (xs.take (xs.length - 1))) || (decide (0 < xs.length) && decide (xs.getD (xs.length - 1) 0 < 0))) = false := by
  by_cases h0 : 0 < xs.length
  · rw [decide_eq_true h0, Bool.true_and, Bool.true_and, Bool.or_eq_false_iff, Bool.not_eq_false', decide_eq_false_iff_not, ascB_iff, pair_iff, mem_get, List.any_eq_false]
    have hl : (xs.take (xs.length - 1)).length = xs.length - 1 := by rw [List.length_take]; omega
    rw [hl]
    unfold faBad
    simp only [List.mem_range, Bool.or_eq_true, Bool.and_eq_true, decide_eq_true_eq]
    constructor
    · intro h
      have hp : xs.Pairwise (· < ·) := pair_iff.2 fun j h1 hj => by
        have := h j hj
        omega
      rw [List.pairwise_iff_getElem] at hp
      refine ⟨⟨fun j hj => ?_, fun j h1 hj => ?_⟩, ?_⟩
      · rw [take_get hj (by omega)]
        have h2 := h j (by omega)
        have h3 := hp j (xs.length - 1) (by omega) (by omega) hj
        rw [← getD_get, ← getD_get] at h3
        omega
      · rw [take_get (by omega) (by omega), take_get hj (by omega)]
        have := h j (by omega)
        omega
      · have := h (xs.length - 1) (by omega)
        omega
    · rintro ⟨⟨h1, h2⟩, h3⟩ j hj
      by_cases e : j = xs.length - 1
      · subst e
        by_cases hz : 0 < xs.length - 1
        · have h4 := h1 (xs.length - 1 - 1) (by omega)
          rw [take_get (by omega) (by omega)] at h4
          omega
        · omega
      · have h4 := h1 j (by omega)
        rw [take_get (by omega) (by omega)] at h4
        by_cases hz : 0 < j
        · have h5 := h2 j hz (by omega)
          rw [take_get (by omega) (by omega), take_get (by omega) (by omega)] at h5
          omega
        · omega
  · have : xs = [] := List.eq_nil_of_length_eq_zero (by omega)
    subst this
    simp

theorem okAt_iff {l : List Val} {i : Nat} : okAt l i = rightV i (l.getD i v0) := by
  unfold okAt rightV
  generalize l.getD i v0 = v
  have h1 := @fr_iff i v.froms
  have h2 := @fa_iff v.facts
  cases ha : (List.range v.froms.length).any (frBad i v.froms) with
  | true =>
    rw [ha] at h1
    have : ascB i (-1) v.froms = false := by
      cases hx : ascB i (-1) v.froms with
      | false => rfl
      | true => exact (Bool.noConfusion (h1.2 hx))
    rw [this]
    rfl
  | false =>
    rw [h1.1 ha]
    simp only [Bool.not_false, Bool.true_and, Bool.not_true, Bool.false_or]
    cases hb : (List.range v.facts.length).any (faBad v.facts) with
    | false => rw [h2.1 hb]
    | true =>
      rw [hb] at h2
      cases hx : ((decide (0 < v.facts.length) && !ascB (v.facts.getD (v.facts.length - 1) 0) (-1) (v.facts.take (v.facts.length - 1))) || (decide (0 < v.facts.length) && decide (v.facts.getD (v.facts.length - 1) 0 < 0))) with
      | true => rfl
      | false => exact (Bool.noConfusion (h2.2 hx))

theorem goV_iff : ∀ {l : List Val} {j : Nat}, goV j l = true ↔ ∀ k, k < l.length → rightV (j + k) (l.getD k v0) = true
  | [], j => by simp [goV]
  | v :: l, j => by
    have ih := @goV_iff l (j + 1)
    show (rightV j v && goV (j + 1) l) = true ↔ _
    rw [Bool.and_eq_true, ih]
    constructor
    · rintro ⟨h1, h2⟩ k hk
      match k, hk with
      | 0, _ => exact h1
      | k + 1, hk =>
        have := h2 k (by simpa using hk)
        rw [show j + 1 + k = j + (k + 1) by omega] at this
        exact this
    · intro h
      refine ⟨h 0 (by simp), fun k hk => ?_⟩
      have := h (k + 1) (by simpa using hk)
      rw [show j + (k + 1) = j + 1 + k by omega] at this
      exact this
theorem ref13_eq (l : List Val) : ref13 l = rightB l := by
  unfold ref13 rightB
  rw [Bool.and_comm]
  congr 1
  rw [Bool.eq_iff_iff, goV_iff, List.all_eq_true]
  simp only [List.mem_range, Nat.zero_add]
  constructor
  · intro h k hk
    rw [← okAt_iff]
    exact h k hk
  · intro h k hk
    rw [okAt_iff]
    exact h k hk
theorem right2_eq (l : List Val) (hl : FitsV l) : APureV Try.prog 13 [encVs l] (.bool (rightB l)) := by
  have := right2_ok l hl
  rw [ref13_eq] at this
  exact this

end Go.Proofs.Ytpkendnpabjgoaa
