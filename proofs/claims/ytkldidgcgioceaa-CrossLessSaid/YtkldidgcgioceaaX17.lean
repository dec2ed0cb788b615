import Derived.Test.YtkldidgcgioceaaX15
namespace Go.Proofs.Ytkldidgcgioceaa
open Go.Own
set_option maxHeartbeats 4000000
set_option maxRecDepth 100000

theorem dayL_at (l : List Debt) (j : Nat) : dayL (closeL l) j = match atF (foundL l) j with
    | some c => c.day
    | none => -1 := by
  unfold dayL
  rw [close_at]
  cases atF (foundL l) j <;> rfl
theorem day_pos {l : List Debt} {j : Nat} (h : 0 ≤ dayL (closeL l) j) : ∃ c, atF (foundL l) j = some c ∧ dayL (closeL l) j = c.day := by
  rw [dayL_at] at h ⊢
  cases hF : atF (foundL l) j with
  | some c => exact ⟨c, rfl, rfl⟩
  | none => rw [hF] at h; simp at h
theorem day_of {l : List Debt} {j : Nat} {c : Cau} (h : atF (foundL l) j = some c) : dayL (closeL l) j = c.day ∧ 0 ≤ c.day := by
  rw [dayL_at, h]
  exact ⟨rfl, ((found_sol l).val j c h).2.2.2.1.1⟩
theorem day_mono {l l' : List Debt} (hn : l.length = l'.length) (hcan : ∀ i j, can l i j = true → can l' i j = true) (hfast : ∀ j, 0 ≤ fastOf l j → 0 ≤ fastOf l' j ∧ fastOf l' j ≤ fastOf l j) {j : Nat} (h : 0 ≤ dayL (closeL l) j) : 0 ≤ dayL (closeL l') j ∧ dayL (closeL l') j ≤ dayL (closeL l) j := by
  obtain ⟨c, h1, h2⟩ := day_pos h
  obtain ⟨c', e1, e2⟩ := sol_mono' (found_sol l) (found_sol l') hn hcan hfast h1
  obtain ⟨g1, g2⟩ := day_of e1
  rw [h2, g1]
  unfold le2 at e2
  omega
theorem sol_ex {l l' : List Debt} {F F' : Nat → Option Cau} (h : Sol l F) (h' : Sol l' F') (hn : l.length = l'.length) (hcan : ∀ i j, can l i j = true → can l' i j = true) (hfast : ∀ j, 0 ≤ fastOf l j → 0 ≤ fastOf l' j) :
    ∀ (n : Nat) (j : Nat) (c : Cau), c.round = (n : Int) → F j = some c → ∃ c', F' j = some c' := by
  intro n
  induction n with
  | zero =>
    intro j c hr hc
    obtain ⟨a1, a2, a3, ⟨a4, _⟩, a5⟩ := h.val j c hc
    rcases a5 with ⟨_, _, a5⟩ | ⟨_, p, cp, _, hp, _, hpr, _⟩
    · obtain ⟨c', e1, _⟩ := h'.sat j (by omega) ⟨hfast j (by rw [a5]; exact a4), j, by omega, rfl⟩
      exact ⟨c', e1⟩
    · have := (h.val p cp hp).2.2.1
      omega
  | succ n ih =>
    intro j c hr hc
    obtain ⟨a1, a2, a3, a4, a5⟩ := h.val j c hc
    rcases a5 with ⟨_, a5, _⟩ | ⟨_, p, cp, _, hp, hpd, hpr, hpc, _⟩
    · omega
    · obtain ⟨cp', e1⟩ := ih p cp (by omega) hp
      obtain ⟨c', g1, _⟩ := h'.clo p cp' j e1 (by omega) (hcan p j hpc)
      exact ⟨c', g1⟩
theorem day_ex {l l' : List Debt} (hn : l.length = l'.length) (hcan : ∀ i j, can l i j = true → can l' i j = true) (hfast : ∀ j, 0 ≤ fastOf l j → 0 ≤ fastOf l' j) {j : Nat} (h : 0 ≤ dayL (closeL l) j) : 0 ≤ dayL (closeL l') j := by
  obtain ⟨c, h1, h2⟩ := day_pos h
  obtain ⟨c', e1⟩ := sol_ex (found_sol l) (found_sol l') hn hcan hfast c.round.toNat j c (by have := ((found_sol l).val j c h1).2.2.1; omega) h1
  obtain ⟨g1, g2⟩ := day_of e1
  omega

/-- One debt is another. -/
theorem getD_set (l : List Debt) (k j : Nat) (d : Debt) (hk : k < l.length) : (l.set k d).getD j d0 = if k = j then d else l.getD j d0 := by
  rw [List.getD_eq_getElem?_getD, List.getElem?_set]
  by_cases e : k = j
  · subst e
    rw [if_pos rfl, if_pos rfl, if_pos hk]
    rfl
  · rw [if_neg e, if_neg e, List.getD_eq_getElem?_getD]
theorem right_set {l : List Debt} {k : Nat} {d : Debt} (h : rightB l = true) (hd : badD d = false) : rightB (l.set k d) = true := by
  unfold rightB at h ⊢
  simp only [Bool.and_eq_true, Bool.not_eq_true'] at h ⊢
  refine ⟨by rw [List.length_set]; exact h.1, List.any_eq_false.2 fun x hx => ?_⟩
  rcases List.mem_or_eq_of_mem_set hx with hx | hx
  · exact List.any_eq_false.1 h.2 x hx
  · rw [hx, hd]
    exact Bool.noConfusion
theorem badD_iff {d : Debt} : badD d = false ↔ (0 ≤ d.issuer ∧ d.issuer ≤ 59) ∧ (0 ≤ d.left ∧ d.left ≤ 1000000000000000) ∧ (-1 ≤ d.over ∧ d.over ≤ 1000000000000000) ∧ (-1 ≤ d.fast ∧ d.fast ≤ 200000) := by
  unfold badD inB
  simp only [Bool.or_eq_false_iff, Bool.not_eq_false', Bool.and_eq_true, decide_eq_true_eq]
  constructor
  · rintro ⟨⟨⟨a, b⟩, c⟩, d⟩
    exact ⟨a, b, c, d⟩
  · rintro ⟨a, b, c, d⟩
    exact ⟨⟨⟨a, b⟩, c⟩, d⟩
theorem right_at {l : List Debt} (h : rightB l = true) {k : Nat} (hk : k < l.length) : badD (l.getD k d0) = false := by
  unfold rightB at h
  simp only [Bool.and_eq_true, Bool.not_eq_true'] at h
  have := List.any_eq_false.1 h.2 _ (getD_mem (d := d0) hk)
  simpa using this

def calmL (l : List Debt) (k : Nat) : List Debt := l.set k { l.getD k d0 with fast := -1 }
def littleL (l : List Debt) (k : Nat) (less : Int) : List Debt := l.set k { l.getD k d0 with left := min (l.getD k d0).left (max less 0) }
def soonL (l : List Debt) (k : Nat) (early : Int) : List Debt := if 0 ≤ (l.getD k d0).fast then l.set k { l.getD k d0 with fast := min (l.getD k d0).fast (max early 0) } else l

theorem less_plain {l : List Debt} (hR : rightB l = true) {k : Nat} (hk : k < l.length) (less early : Int) :
    (rightB (calmL l k) = true ∧ rightB (littleL l k less) = true ∧ rightB (soonL l k early) = true) ∧
    ((calmL l k).length = l.length ∧ (littleL l k less).length = l.length ∧ (soonL l k early).length = l.length) ∧
    ∀ j : Nat, (0 ≤ dayL (closeL (calmL l k)) j → 0 ≤ dayL (closeL l) j ∧ dayL (closeL l) j ≤ dayL (closeL (calmL l k)) j) ∧
      (0 ≤ dayL (closeL (littleL l k less)) j → 0 ≤ dayL (closeL l) j ∧ dayL (closeL l) j ≤ dayL (closeL (littleL l k less)) j) ∧
      (0 ≤ dayL (closeL l) j → 0 ≤ dayL (closeL (soonL l k early)) j ∧ dayL (closeL (soonL l k early)) j ≤ dayL (closeL l) j) ∧
      (0 ≤ dayL (closeL (soonL l k early)) j → 0 ≤ dayL (closeL l) j) := by
  have hb := badD_iff.1 (right_at hR hk)
  have s1 : ∀ j, (calmL l k).getD j d0 = if k = j then { l.getD k d0 with fast := -1 } else l.getD j d0 := fun j => getD_set l k j _ hk
  have s2 : ∀ j, (littleL l k less).getD j d0 = if k = j then { l.getD k d0 with left := min (l.getD k d0).left (max less 0) } else l.getD j d0 := fun j => getD_set l k j _ hk
  have s3 : ∀ j, (soonL l k early).getD j d0 = if 0 ≤ (l.getD k d0).fast ∧ k = j then { l.getD k d0 with fast := min (l.getD k d0).fast (max early 0) } else l.getD j d0 := fun j => by
    unfold soonL
    by_cases h : 0 ≤ (l.getD k d0).fast
    · rw [if_pos h, getD_set l k j _ hk]
      by_cases e : k = j
      · rw [if_pos e, if_pos ⟨h, e⟩]
      · rw [if_neg e, if_neg (fun x => e x.2)]
    · rw [if_neg h, if_neg (fun x => h x.1)]
  have n1 : (calmL l k).length = l.length := List.length_set ..
  have n2 : (littleL l k less).length = l.length := List.length_set ..
  have n3 : (soonL l k early).length = l.length := by
    unfold soonL
    split
    · exact List.length_set ..
    · rfl
  have c1 : ∀ i j, can (calmL l k) i j = can l i j := fun i j => by
    unfold can
    rw [s1, s1]
    by_cases e1 : k = i <;> by_cases e2 : k = j
    · rw [if_pos e1, if_pos e2, ← e1, ← e2]
    · rw [if_pos e1, if_neg e2, ← e1]
    · rw [if_neg e1, if_pos e2, ← e2]
    · rw [if_neg e1, if_neg e2]
  have c3 : ∀ i j, can (soonL l k early) i j = can l i j := fun i j => by
    unfold can
    rw [s3, s3]
    by_cases e1 : 0 ≤ (l.getD k d0).fast ∧ k = i <;> by_cases e2 : 0 ≤ (l.getD k d0).fast ∧ k = j
    · rw [if_pos e1, if_pos e2, ← e1.2, ← e2.2]
    · rw [if_pos e1, if_neg e2, ← e1.2]
    · rw [if_neg e1, if_pos e2, ← e2.2]
    · rw [if_neg e1, if_neg e2]
  have c2 : ∀ i j, can (littleL l k less) i j = true → can l i j = true := fun i j h => by
    unfold can at h ⊢
    rw [s2, s2] at h
    by_cases e1 : k = i <;> by_cases e2 : k = j
    · rw [if_pos e1, if_pos e2] at h
      subst e1
      subst e2
      simp at h
    · rw [if_pos e1, if_neg e2] at h
      subst e1
      simp only [Bool.and_eq_true, Bool.not_eq_true', decide_eq_true_eq, decide_eq_false_iff_not] at h ⊢
      exact ⟨h.1, by omega⟩
    · rw [if_neg e1, if_pos e2] at h
      subst e2
      exact h
    · rw [if_neg e1, if_neg e2] at h
      exact h
  have f1 : ∀ j, 0 ≤ fastOf (calmL l k) j → 0 ≤ fastOf l j ∧ fastOf l j ≤ fastOf (calmL l k) j := fun j h => by
    unfold fastOf at h ⊢
    rw [s1] at h ⊢
    split at h
    · simp at h
    · rename_i e
      rw [if_neg e]
      omega
  have f2 : ∀ j, fastOf (littleL l k less) j = fastOf l j := fun j => by
    unfold fastOf
    rw [s2]
    split
    · rename_i e
      rw [e]
    · rfl
  have f3 : ∀ j, 0 ≤ fastOf l j → 0 ≤ fastOf (soonL l k early) j ∧ fastOf (soonL l k early) j ≤ fastOf l j := fun j h => by
    unfold fastOf at h ⊢
    rw [s3]
    split
    · rename_i e
      rw [← e.2]
      show 0 ≤ min _ _ ∧ min _ _ ≤ _
      omega
    · omega
  have f4 : ∀ j, 0 ≤ fastOf (soonL l k early) j → 0 ≤ fastOf l j := fun j h => by
    unfold fastOf at h ⊢
    rw [s3] at h
    split at h
    · rename_i e
      rw [← e.2]
      exact e.1
    · exact h
  refine ⟨⟨right_set hR (badD_iff.2 ?_), right_set hR (badD_iff.2 ?_), ?_⟩, ⟨n1, n2, n3⟩, fun j => ⟨fun h => ?_, fun h => ?_, fun h => ?_, fun h => ?_⟩⟩
  · exact ⟨hb.1, hb.2.1, hb.2.2.1, by show (-1 : Int) ≤ -1 ∧ (-1 : Int) ≤ 200000; omega⟩
  · refine ⟨hb.1, ?_, hb.2.2.1, hb.2.2.2⟩
    show 0 ≤ min _ _ ∧ min _ _ ≤ 1000000000000000
    omega
  · unfold soonL
    split
    · refine right_set hR (badD_iff.2 ⟨hb.1, hb.2.1, hb.2.2.1, ?_⟩)
      show -1 ≤ min _ _ ∧ min _ _ ≤ 200000
      omega
    · exact hR
  · exact day_mono n1 (fun i j h => by rw [c1] at h; exact h) f1 h
  · exact day_mono n2 c2 (fun j h => by rw [f2] at h ⊢; exact ⟨h, Int.le_refl _⟩) h
  · exact day_mono n3.symm (fun i j h => by rw [c3]; exact h) f3 h
  · exact day_ex n3 (fun i j h => by rw [c3] at h; exact h) f4 h

end Go.Proofs.Ytkldidgcgioceaa
