import Derived.Test.YtglalejjcfcfkaaDoorL1
namespace Go.Proofs.YtglalejjcfcfkaaDoor
open Go.Own
set_option maxHeartbeats 1000000

theorem validB_iff {l : List Ent} : validB l = true ↔ l.length ≤ 10000 ∧ OkL l := by
  unfold validB
  rw [Bool.and_eq_true, decide_eq_true_eq, decide_eq_true_eq]
theorem valid_nil : validB [] = true := validB_iff.2 ⟨Nat.zero_le _, okL_nil⟩

/-! ### LedgerSums -/
theorem placeE_lt {l : List Ent} {i : Int} : placeE l i < l.length ↔ ∃ x ∈ l, x.id = i := by
  unfold placeE
  rw [List.findIdx_lt_length]
  simp
theorem post_ok {l : List Ent} {e : Ent} (h : postE l e = 0) : validB l = true ∧ rightE e = true ∧ validB (l ++ [e]) = true := by
  unfold postE at h
  split at h
  · omega
  · rename_i h1
    simp only [Bool.or_eq_true, Bool.not_eq_true', not_or, Bool.not_eq_false] at h1
    split at h
    · split at h <;> omega
    · split at h
      · rename_i h2
        exact ⟨h1.1, h1.2, h2⟩
      · omega
theorem bal_snoc (l : List Ent) (e : Ent) (a : Int) : bal (l ++ [e]) a = bal l a + ((if e.to = a then e.amt else 0) - (if e.frm = a then e.amt else 0)) := by
  rw [bal_append]
  show bal l a + (_ + 0) = _
  omega
theorem sums_plain {l : List Ent} {e : Ent} (h : postE l e = 0) :
    (∀ a, balO (l ++ [e]) a = balO l a + ((if e.to = a then e.amt else 0) - (if e.frm = a then e.amt else 0))) ∧
    (∀ k, -4000000000000000000 ≤ sumB (l ++ [e]) ((accL (l ++ [e])).take k) ∧ sumB (l ++ [e]) ((accL (l ++ [e])).take k) ≤ 4000000000000000000) ∧
    sumB (l ++ [e]) (accL (l ++ [e])) = 0 ∧ (∀ a, -4000000000000000000 ≤ balO l a ∧ balO l a ≤ 4000000000000000000) ∧ (1 ≤ e.amt ∧ e.amt ≤ 1000000000000000) ∧ (∀ a, balO (l ++ [e]) a = bal (l ++ [e]) a) := by
  obtain ⟨h1, h2, h3⟩ := post_ok h
  have o1 := (validB_iff.1 h1).2
  have o3 := (validB_iff.1 h3).2
  have hn : (accL (l ++ [e])).Nodup := (accL_sorted _).imp fun h => by omega
  have s3 := o3.sum
  have s1 := o1.sum
  have hz := sumA_ge o3.right
  have hz1 := sumA_ge o1.right
  refine ⟨fun a => ?_, fun k => ?_, ?_, fun a => ?_, (rightE_iff.1 h2).2.2.2.2.2, fun a => ?_⟩
  · unfold balO
    rw [if_pos h1, if_pos h3, bal_snoc]
  · have := sumB_bound o3.right ((accL (l ++ [e])).take k) (List.Sublist.nodup (List.take_sublist _ _) hn)
    omega
  · refine sumB_zero hn fun x hx => ⟨?_, ?_⟩
    · rw [accL_mem h3]; exact ⟨x, hx, .inl rfl⟩
    · rw [accL_mem h3]; exact ⟨x, hx, .inr rfl⟩
  · unfold balO
    rw [if_pos h1]
    have := bal_bound o1.right a
    omega
  · unfold balO
    rw [if_pos h3]

/-! ### LedgerOnce -/
def sameB (l : List Ent) (x : Ent) : Bool := l.any (fun y => decide (y = x))
def otherB (l : List Ent) (x : Ent) : Bool := l.any (fun y => decide (y.id = x.id) && !decide (y = x))
theorem once_plain {l : List Ent} {x : Ent} (h : validB l = true) :
    decide (postE l x = 1) = !rightE x ∧ (rightE x = true → decide (postE l x = 5) = sameB l x ∧ decide (postE l x = 24) = otherB l x) := by
  have ok := (validB_iff.1 h).2
  unfold postE
  rw [h, Bool.not_true, Bool.false_or]
  cases hr : rightE x with
  | false => exact ⟨rfl, fun h => by cases h⟩
  | true =>
    rw [Bool.not_true, if_neg Bool.noConfusion]
    have uni : ∀ y ∈ l, ∀ z ∈ l, y.id = z.id → y = z := fun y hy z hz e => by
      obtain ⟨i, hi, rfl⟩ := List.getElem_of_mem hy
      obtain ⟨j, hj, rfl⟩ := List.getElem_of_mem hz
      have hp := List.pairwise_iff_getElem.1 ok.nd
      rcases Nat.lt_trichotomy i j with hlt | heq | hgt
      · have := hp i j (by simpa using hi) (by simpa using hj) hlt
        simp at this
        exact absurd e this
      · subst heq; rfl
      · have := hp j i (by simpa using hj) (by simpa using hi) hgt
        simp at this
        exact absurd e.symm this
    by_cases hp : placeE l x.id < l.length
    · rw [if_pos hp]
      have hm := getD_mem (d := e0) hp
      have hid : (l.getD (placeE l x.id) e0).id = x.id := by
        have hx := List.findIdx_getElem (p := fun y : Ent => decide (y.id = x.id)) (xs := l) (w := hp)
        have : l.getD (placeE l x.id) e0 = l[placeE l x.id] := by rw [List.getD_eq_getElem?_getD, List.getElem?_eq_getElem hp]; rfl
        rw [this]
        exact of_decide_eq_true hx
      generalize l.getD (placeE l x.id) e0 = y at *
      by_cases e : y = x
      · rw [if_pos e]
        subst e
        refine ⟨rfl, fun _ => ⟨?_, ?_⟩⟩
        · have : sameB l y = true := List.any_eq_true.2 ⟨y, hm, by simp⟩
          rw [this]; rfl
        · have : otherB l y = false := by
            cases ho : otherB l y with
            | false => rfl
            | true =>
              obtain ⟨z, hz, h2⟩ := List.any_eq_true.1 ho
              simp only [Bool.and_eq_true, Bool.not_eq_true', decide_eq_true_eq, decide_eq_false_iff_not] at h2
              exact absurd (uni z hz y hm h2.1) h2.2
          rw [this]; rfl
      · rw [if_neg e]
        refine ⟨rfl, fun _ => ⟨?_, ?_⟩⟩
        · have : sameB l x = false := by
            cases ho : sameB l x with
            | false => rfl
            | true =>
              obtain ⟨z, hz, h2⟩ := List.any_eq_true.1 ho
              rw [decide_eq_true_eq] at h2
              subst h2
              exact absurd (uni y hm z hz hid) e
          rw [this]; rfl
        · have : otherB l x = true := List.any_eq_true.2 ⟨y, hm, by simp [hid, e]⟩
          rw [this]; rfl
    · rw [if_neg hp]
      have hno : ∀ z ∈ l, z.id ≠ x.id := fun z hz e => hp (placeE_lt.2 ⟨z, hz, e⟩)
      have s1 : sameB l x = false := by
        cases ho : sameB l x with
        | false => rfl
        | true =>
          obtain ⟨z, hz, h2⟩ := List.any_eq_true.1 ho
          rw [decide_eq_true_eq] at h2
          subst h2
          exact absurd rfl (hno z hz)
      have s2 : otherB l x = false := by
        cases ho : otherB l x with
        | false => rfl
        | true =>
          obtain ⟨z, hz, h2⟩ := List.any_eq_true.1 ho
          simp only [Bool.and_eq_true, decide_eq_true_eq] at h2
          exact absurd h2.1 (hno z hz)
      rw [s1, s2]
      split
      · exact ⟨rfl, fun _ => ⟨rfl, rfl⟩⟩
      · exact ⟨rfl, fun _ => ⟨rfl, rfl⟩⟩

/-! ### LedgerTurns -/
theorem valid_perm {a b : List Ent} (h : validB a = true) (p : a.Perm b) : validB b = true := by
  rw [validB_iff] at h ⊢
  exact ⟨by rw [← p.length_eq]; exact h.1, h.2.of_perm p⟩
theorem valid_left {a b : List Ent} (h : validB (a ++ b) = true) : validB a = true ∧ validB b = true := by
  rw [validB_iff] at h
  rw [List.length_append] at h
  exact ⟨validB_iff.2 ⟨by omega, h.2.left⟩, validB_iff.2 ⟨by omega, h.2.rightPart⟩⟩
theorem asc_eq : ∀ {a b : List Int}, a.Pairwise (· < ·) → b.Pairwise (· < ·) → (∀ x, x ∈ a ↔ x ∈ b) → a = b
  | [], [], _, _, _ => rfl
  | [], y :: b, _, _, h => by
    have := (h y).2 List.mem_cons_self
    cases this
  | x :: a, [], _, _, h => by
    have := (h x).1 List.mem_cons_self
    cases this
  | x :: a, y :: b, h1, h2, h => by
    rw [List.pairwise_cons] at h1 h2
    have hxy : x = y := by
      rcases List.mem_cons.1 ((h x).1 List.mem_cons_self) with e | hx
      · exact e
      · rcases List.mem_cons.1 ((h y).2 List.mem_cons_self) with e | hy
        · exact e.symm
        · have := h2.1 x hx
          have := h1.1 y hy
          omega
    subst hxy
    congr 1
    refine asc_eq h1.2 h2.2 fun c => ?_
    constructor
    · intro hc
      rcases List.mem_cons.1 ((h c).1 (List.mem_cons_of_mem _ hc)) with e | h3
      · subst e
        have := h1.1 c hc
        omega
      · exact h3
    · intro hc
      rcases List.mem_cons.1 ((h c).2 (List.mem_cons_of_mem _ hc)) with e | h3
      · subst e
        have := h2.1 c hc
        omega
      · exact h3
theorem turns_plain {l : List Ent} (h : validB l = true) (k : Nat) (a : Int) :
    validB (l.drop k ++ l.take k) = true ∧ balO (l.drop k ++ l.take k) a = balO l a ∧ accL (l.drop k ++ l.take k) = accL l ∧ balO (l.take k) a + balO (l.drop k) a = balO l a ∧ (∀ m : List Ent, -4000000000000000000 ≤ balO m a ∧ balO m a ≤ 4000000000000000000) := by
  have p : l.Perm (l.drop k ++ l.take k) := by
    have := List.perm_append_comm (l₁ := l.take k) (l₂ := l.drop k)
    rwa [List.take_append_drop] at this
  have hv := valid_perm h p
  have hs : validB (l.take k) = true ∧ validB (l.drop k) = true := valid_left (by rw [List.take_append_drop]; exact h)
  refine ⟨hv, ?_, ?_, ?_, fun m => ?_⟩
  · unfold balO
    rw [if_pos hv, if_pos h, bal_perm p]
  · refine asc_eq (accL_sorted _) (accL_sorted _) fun x => ?_
    rw [accL_mem hv, accL_mem h]
    constructor
    · rintro ⟨e, he, h⟩
      exact ⟨e, p.mem_iff.2 he, h⟩
    · rintro ⟨e, he, h⟩
      exact ⟨e, p.mem_iff.1 he, h⟩
  · unfold balO
    rw [if_pos hs.1, if_pos hs.2, if_pos h, ← bal_append, List.take_append_drop]
  · unfold balO
    split
    · rename_i hm
      have o := (validB_iff.1 hm).2
      have := bal_bound o.right a
      have := o.sum
      omega
    · omega

end Go.Proofs.YtglalejjcfcfkaaDoor
