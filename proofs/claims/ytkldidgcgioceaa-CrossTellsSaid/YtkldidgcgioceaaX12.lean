import Derived.Test.YtkldidgcgioceaaX11
namespace Go.Proofs.Ytkldidgcgioceaa
open Go.Own
set_option maxHeartbeats 1000000

/-! ### One solution -/
theorem sol_uniq {l : List Debt} {F F' : Nat → Option Cau} (h : Sol l F) (h' : Sol l F') : ∀ j, F j = F' j := by
  have dr : ∀ {F F' : Nat → Option Cau}, Sol l F → Sol l F' → ∀ j c, F j = some c → ∃ c', F' j = some c' ∧ c'.day = c.day ∧ c'.round = c.round := by
    intro F F' h h' j c hc
    obtain ⟨c', e1, e2⟩ := sol_mono' h h' rfl (fun _ _ h => h) (fun j h => ⟨h, Int.le_refl _⟩) hc
    obtain ⟨c'', e3, e4⟩ := sol_mono' h' h rfl (fun _ _ h => h) (fun j h => ⟨h, Int.le_refl _⟩) e1
    rw [hc] at e3
    cases e3
    refine ⟨c', e1, ?_⟩
    unfold le2 at e2 e4
    omega
  have half : ∀ {F F' : Nat → Option Cau}, Sol l F → Sol l F' → ∀ j c, F j = some c → F' j = some c := by
    intro F F' h h' j c hc
    obtain ⟨c', e1, e2, e3⟩ := dr h h' j c hc
    obtain ⟨a1, a2, a3, a4, a5⟩ := h.val j c hc
    obtain ⟨b1, b2, b3, b4, b5⟩ := h'.val j c' e1
    have hb : c'.because = c.because := by
      rcases a5 with ⟨a5, a6, _⟩ | ⟨_, p, cp, a5, a6, a7, a8, a9, a10⟩
      · rcases b5 with ⟨b5, _⟩ | ⟨_, q, cq, _, hq, _, b8, _⟩
        · rw [a5, b5]
        · have := (h'.val q cq hq).2.2.1
          omega
      · rcases b5 with ⟨_, b5, _⟩ | ⟨_, q, cq, b5, b6, b7, b8, b9, b10⟩
        · have := (h.val p cp a6).2.2.1
          omega
        · obtain ⟨cp', f1, f2, f3⟩ := dr h h' p cp a6
          obtain ⟨cq', g1, g2, g3⟩ := dr h' h q cq b6
          have hpq : p = q := by
            rcases Nat.lt_trichotomy p q with hlt | heq | hgt
            · have := b10 p cp' hlt f1 (by omega) (by omega)
              rw [a9] at this
              cases this
            · exact heq
            · have := a10 q cq' hgt g1 (by omega) (by omega)
              rw [b9] at this
              cases this
          rw [a5, b5, hpq]
    rw [e1]
    congr 1
    cases c
    cases c'
    simp at a2 b2 hb e2 e3
    simp [hb, e2, e3, a2, b2]
  intro j
  cases hF : F j with
  | some c => exact (half h h' j c hF).symm
  | none =>
    cases hF' : F' j with
    | none => rfl
    | some c =>
      have := half h' h j c hF'
      rw [hF] at this
      cases this

/-! ### The list of the causes -/
theorem outL_mem {es : Fnd} {n : Nat} {c : Cau} : c ∈ outL es n ↔ ∃ j, j < n ∧ atF es j = some c := by
  unfold outL
  rw [List.mem_filterMap]
  constructor
  · rintro ⟨j, hj, h⟩
    exact ⟨j, List.mem_range.1 hj, h⟩
  · rintro ⟨j, hj, h⟩
    exact ⟨j, List.mem_range.2 hj, h⟩
theorem outL_sorted {es : Fnd} (hi : ∀ j c, atF es j = some c → c.issue = j) : ∀ n, (outL es n).Pairwise (fun a b => a.issue < b.issue)
  | 0 => List.Pairwise.nil
  | n + 1 => by
    rw [outL_succ]
    cases hm : mget es (n : Int) with
    | none => simpa using outL_sorted hi n
    | some c =>
      refine List.pairwise_append.2 ⟨outL_sorted hi n, List.pairwise_singleton _ _, fun a ha b hb => ?_⟩
      simp at hb
      subst hb
      obtain ⟨j, hj, h⟩ := outL_mem.1 ha
      rw [hi j a h, hi n b hm]
      omega
theorem findC_mem {l : List Cau} {j : Int} {c : Cau} (h : findC l j = some c) : c ∈ l ∧ c.issue = j := by
  unfold findC at h
  exact ⟨List.mem_of_find?_eq_some h, by simpa using List.find?_some h⟩
theorem findC_none {l : List Cau} {j : Int} (h : findC l j = none) : ∀ c ∈ l, c.issue ≠ j := by
  intro c hc e
  have := List.find?_eq_none.1 h c hc
  simp [e] at this
theorem findC_sorted {l : List Cau} (hs : l.Pairwise (fun a b => a.issue < b.issue)) {c : Cau} (hc : c ∈ l) : findC l c.issue = some c := by
  cases h : findC l c.issue with
  | none => exact absurd rfl (findC_none h c hc)
  | some d =>
    obtain ⟨hd, he⟩ := findC_mem h
    obtain ⟨i, hi, rfl⟩ := List.getElem_of_mem hc
    obtain ⟨k, hk, rfl⟩ := List.getElem_of_mem hd
    rcases Nat.lt_trichotomy i k with hlt | heq | hgt
    · have := List.pairwise_iff_getElem.1 hs i k hi hk hlt
      omega
    · subst heq; rfl
    · have := List.pairwise_iff_getElem.1 hs k i hk hi hgt
      omega
theorem sorted_same : ∀ {a b : List Cau}, a.Pairwise (fun x y => x.issue < y.issue) → b.Pairwise (fun x y => x.issue < y.issue) → (∀ c, c ∈ a ↔ c ∈ b) → a = b
  | [], [], _, _, _ => rfl
  | [], y :: b, _, _, h => by
    have := (h y).2 List.mem_cons_self
    cases this
  | x :: a, [], _, _, h => by
    have := (h x).1 List.mem_cons_self
    cases this
  | x :: a, y :: b, h1, h2, h => by
    rw [List.pairwise_cons] at h1 h2
    have hxy : x = y := by
      rcases List.mem_cons.1 ((h x).1 List.mem_cons_self) with e | hx
      · exact e
      · rcases List.mem_cons.1 ((h y).2 List.mem_cons_self) with e | hy
        · exact e.symm
        · have := h2.1 x hx
          have := h1.1 y hy
          omega
    subst hxy
    congr 1
    refine sorted_same h1.2 h2.2 fun c => ?_
    constructor
    · intro hc
      rcases List.mem_cons.1 ((h c).1 (List.mem_cons_of_mem _ hc)) with e | h3
      · subst e
        have := h1.1 c hc
        omega
      · exact h3
    · intro hc
      rcases List.mem_cons.1 ((h c).2 (List.mem_cons_of_mem _ hc)) with e | h3
      · subst e
        have := h2.1 c hc
        omega
      · exact h3

theorem close_at (l : List Debt) (j : Nat) : findC (closeL l) j = atF (foundL l) j := by
  have hS := found_sol l
  have hi : ∀ j c, atF (foundL l) j = some c → c.issue = j := fun j c h => (hS.val j c h).2.1
  cases hF : atF (foundL l) j with
  | some c =>
    have hm : c ∈ closeL l := outL_mem.2 ⟨j, (hS.val j c hF).1, hF⟩
    have := findC_sorted (outL_sorted hi l.length) hm
    rw [hi j c hF] at this
    exact this
  | none =>
    cases hf : findC (closeL l) j with
    | none => rfl
    | some c =>
      obtain ⟨hm, he⟩ := findC_mem hf
      obtain ⟨k, hk, hk2⟩ := outL_mem.1 hm
      have h1 := hi k c hk2
      have : k = j := by omega
      subst this
      rw [hF] at hk2
      cases hk2
theorem close_sorted (l : List Debt) : (closeL l).Pairwise (fun a b => a.issue < b.issue) := outL_sorted (fun j c h => ((found_sol l).val j c h).2.1) _
theorem close_mem {l : List Debt} {c : Cau} : c ∈ closeL l ↔ ∃ j, atF (foundL l) j = some c := by
  constructor
  · intro h
    obtain ⟨j, _, h⟩ := outL_mem.1 h
    exact ⟨j, h⟩
  · rintro ⟨j, h⟩
    exact outL_mem.2 ⟨j, ((found_sol l).val j c h).1, h⟩
theorem close_len (l : List Debt) : (closeL l).length ≤ l.length := by
  unfold closeL outL
  exact Nat.le_trans (List.length_filterMap_le _ _) (by rw [List.length_range]; exact Nat.le_refl _)

/-! ### Rounds are few -/
theorem rounds_few {cs : List Cau} (h : ∀ c ∈ cs, 1 ≤ c.round → ∃ o ∈ cs, o.round + 1 = c.round) : ∀ c ∈ cs, c.round < cs.length := by
  have all : ∀ (n : Nat) c, c ∈ cs → c.round = n → ∀ i : Nat, i ≤ n → ∃ o ∈ cs, o.round = i := by
    intro n
    induction n with
    | zero =>
      intro c hc hr i hi
      exact ⟨c, hc, by omega⟩
    | succ n ih =>
      intro c hc hr i hi
      by_cases e : i = n + 1
      · exact ⟨c, hc, by omega⟩
      · obtain ⟨o, ho, hor⟩ := h c hc (by omega)
        exact ih o ho (by omega) i (by omega)
  intro c hc
  by_cases h0 : c.round < 0
  · have : 0 < cs.length := List.length_pos_of_mem hc
    omega
  · have := nodup_len (l := (List.range (c.round.toNat + 1)).map (fun i : Nat => (i : Int))) (l' := cs.map (·.round)) (by
      have h1 : (List.range (c.round.toNat + 1)).Pairwise (· < ·) := List.pairwise_lt_range
      have h2 : ((List.range (c.round.toNat + 1)).map (fun i : Nat => (i : Int))).Pairwise (· < ·) := by
        rw [List.pairwise_map]
        exact h1.imp fun h => by omega
      exact h2.imp fun h => by omega) (fun x hx => by
      obtain ⟨i, hi, rfl⟩ := List.mem_map.1 hx
      obtain ⟨o, ho, hor⟩ := all c.round.toNat c hc (by omega) i (by have := List.mem_range.1 hi; omega)
      exact List.mem_map.2 ⟨o, ho, hor⟩)
    rw [List.length_map, List.length_map, List.length_range] at this
    omega

theorem w64_in {x : Int} (h : -9223372036854775808 ≤ x ∧ x ≤ 9223372036854775807) : w64 x = x := wrap64_in' h
theorem w64_top : w64 9223372036854775808 = -9223372036854775808 := by rfl

end Go.Proofs.Ytkldidgcgioceaa
