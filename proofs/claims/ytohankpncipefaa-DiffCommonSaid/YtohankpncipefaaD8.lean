import Derived.Test.YtohankpncipefaaD7
namespace Go.Proofs.Ytohankpncipefaa
open Go.Own

theorem lcs_comm : ∀ (a b : List Str), lcs a b = lcs b a
  | [], b => by rw [lcs_nil_l, lcs_nil_r]
  | x :: a, [] => by rw [lcs_nil_l, lcs_nil_r]
  | x :: a, y :: b => by
    rw [lcs_cons, lcs_cons, lcs_comm a b, lcs_comm a (y :: b), lcs_comm (x :: a) b]
    by_cases h : x = y
    · rw [if_pos h, if_pos h.symm]
    · rw [if_neg h, if_neg (fun e => h e.symm)]; omega
termination_by a b => a.length + b.length

theorem lcs_mono_step : ∀ (n : Nat) (a b : List Str), a.length + b.length ≤ n → (∀ x, lcs a b ≤ lcs (x :: a) b) ∧ (∀ y, lcs a (y :: b) ≤ lcs a b + 1)
  | 0, a, b, h => by
    have ha : a = [] := List.eq_nil_of_length_eq_zero (by omega)
    have hb : b = [] := List.eq_nil_of_length_eq_zero (by omega)
    subst ha hb
    exact ⟨fun x => by rw [lcs_nil_l]; exact Nat.zero_le _, fun y => by rw [lcs_nil_l]; exact Nat.zero_le _⟩
  | n + 1, a, b, h => by
    have hstep : ∀ y, lcs a (y :: b) ≤ lcs a b + 1 := by
      intro y
      cases a with
      | nil => rw [lcs_nil_l]; exact Nat.zero_le _
      | cons x a =>
        have h1 := (lcs_mono_step n a b (by simp at h; omega)).1 x
        have h2 := (lcs_mono_step n a b (by simp at h; omega)).2 y
        rw [lcs_cons]
        split <;> omega
    refine ⟨fun x => ?_, hstep⟩
    cases b with
    | nil => rw [lcs_nil_r]; exact Nat.zero_le _
    | cons y b =>
      have h2 := (lcs_mono_step n a b (by simp at h; omega)).2 y
      rw [lcs_cons]
      split <;> omega

theorem lcs_mono_l (x : Str) (a b : List Str) : lcs a b ≤ lcs (x :: a) b := (lcs_mono_step _ a b (Nat.le_refl _)).1 x
theorem lcs_mono_r (y : Str) (a b : List Str) : lcs a b ≤ lcs a (y :: b) := by rw [lcs_comm a b, lcs_comm a (y :: b)]; exact lcs_mono_l y b a

theorem changes_cons (c : Chg) (l : List Chg) : changes (c :: l) = changes l + if chgB c = true then 1 else 0 := by simp [changes, List.countP_cons]

/-- The comparison's changes are what does not stay. -/
theorem cmp_changes : ∀ (a b : List Str) (i k : Int), 0 ≤ i → 0 ≤ k → changes (cmp a b i k) + 2 * lcs a b = a.length + b.length
  | [], [], i, k, hi, hk => by rw [cmp_nil, lcs_nil_l]; rfl
  | x :: a, [], i, k, hi, hk => by
    have := cmp_changes a [] (i + 1) k (by omega) hk
    rw [lcs_nil_r] at this ⊢
    rw [cmp_left, changes_cons, if_pos (by simp [chgB])]
    simp at this ⊢
    omega
  | [], y :: b, i, k, hi, hk => by
    have := cmp_changes [] b i (k + 1) hi (by omega)
    rw [lcs_nil_l] at this ⊢
    rw [cmp_right, changes_cons, if_pos (by simp [chgB])]
    simp at this ⊢
    omega
  | x :: a, y :: b, i, k, hi, hk => by
    have h1 := cmp_changes a b (i + 1) (k + 1) (by omega) (by omega)
    have h2 := cmp_changes a (y :: b) (i + 1) k (by omega) hk
    have h3 := cmp_changes (x :: a) b i (k + 1) hi (by omega)
    rw [cmp_both, lcs_cons]
    simp only [List.length_cons] at h1 h2 h3 ⊢
    by_cases h : x = y
    · rw [if_pos h, if_pos h, changes_cons, if_neg (by simp [chgB]; omega)]
      omega
    · rw [if_neg h, if_neg h]
      by_cases hl : lcs (x :: a) b ≤ lcs a (y :: b)
      · rw [if_pos hl, changes_cons, if_pos (by simp [chgB])]
        omega
      · rw [if_neg hl, changes_cons, if_pos (by simp [chgB])]
        omega
termination_by a b => a.length + b.length

theorem drop_len {a : List Str} {i : Nat} : (a.drop i).length = a.length - i := List.length_drop

/-- Any comparison has at least as many. -/
theorem ok_changes (a b : List Str) : ∀ (l : List Chg) (i k : Nat), i ≤ a.length → k ≤ b.length → okL a b i k l = true → (a.length - i) + (b.length - k) ≤ changes l + 2 * lcs (a.drop i) (b.drop k)
  | [], i, k, hi, hk, h => by
    simp only [okL, Bool.and_eq_true, decide_eq_true_eq] at h
    omega
  | c :: l, i, k, hi, hk, h => by
    simp only [okL, Bool.and_eq_true, Bool.not_eq_true'] at h
    obtain ⟨⟨h1, h2⟩, h3⟩ := h
    obtain ⟨e1, e2⟩ := bad1_false h1
    rw [changes_cons]
    by_cases ho : c.o = -1
    · have hn : c.n ≠ -1 := by
        intro hn
        simp [bad1, ho, hn] at h1
      have hk' : k < b.length := by have := e2 hn; omega
      rw [← mv_stay ho, ← mv_move hn] at h3
      have ih := ok_changes a b l i (k + 1) hi hk' h3
      have hm := lcs_mono_r (b.getD k []) (a.drop i) (b.drop (k + 1))
      rw [← drop_getD [] hk'] at hm
      rw [if_pos (by simp [chgB, ho])]
      omega
    · have hi' : i < a.length := by have := e1 ho; omega
      by_cases hn : c.n = -1
      · rw [← mv_move ho, ← mv_stay hn] at h3
        have ih := ok_changes a b l (i + 1) k hi' hk h3
        have hm := lcs_mono_l (a.getD i []) (a.drop (i + 1)) (b.drop k)
        rw [← drop_getD [] hi'] at hm
        rw [if_pos (by simp [chgB, hn])]
        omega
      · have hk' : k < b.length := by have := e2 hn; omega
        rw [← mv_move ho, ← mv_move hn] at h3
        have ih := ok_changes a b l (i + 1) (k + 1) hi' hk' h3
        have hxy : a.getD i [] = b.getD k [] := by
          simp [bad2, ho, hn] at h2
          simpa using h2
        have hl := lcs_cons (a.getD i []) (b.getD k []) (a.drop (i + 1)) (b.drop (k + 1))
        rw [← drop_getD [] hi', ← drop_getD [] hk', if_pos hxy] at hl
        rw [if_neg (by simp [chgB, ho, hn])]
        omega

/-- The comparison is one. -/
theorem cmp_ok (a b : List Str) : ∀ (A B : List Str) (i k : Nat), A = a.drop i → B = b.drop k → i ≤ a.length → k ≤ b.length → okL a b i k (cmp A B i k) = true
  | [], [], i, k, hA, hB, hi, hk => by
    have h1 := congrArg List.length hA
    have h2 := congrArg List.length hB
    simp at h1 h2
    rw [cmp_nil]
    simp [okL]
    omega
  | x :: A, [], i, k, hA, hB, hi, hk => by
    have h1 := congrArg List.length hA
    simp at h1
    have hlt : i < a.length := by omega
    rw [drop_getD [] hlt] at hA
    have ih := cmp_ok a b A [] (i + 1) k (by injection hA) hB hlt hk
    have hne : (i : Int) ≠ a.length := by omega
    have hne1 : ¬ ((i : Int) = -1) := by omega
    rw [cmp_left]
    simp only [okL, Bool.and_eq_true, Bool.not_eq_true']
    refine ⟨⟨by simp [bad1, hne, hne1], by simp [bad2]⟩, ?_⟩
    rw [← mv_move hne1, ← mv_stay rfl]
    exact ih
  | [], y :: B, i, k, hA, hB, hi, hk => by
    have h1 := congrArg List.length hB
    simp at h1
    have hlt : k < b.length := by omega
    rw [drop_getD [] hlt] at hB
    have ih := cmp_ok a b [] B i (k + 1) hA (by injection hB) hi hlt
    have hne : (k : Int) ≠ b.length := by omega
    have hne1 : ¬ ((k : Int) = -1) := by omega
    rw [cmp_right]
    simp only [okL, Bool.and_eq_true, Bool.not_eq_true']
    refine ⟨⟨by simp [bad1, hne, hne1], by simp [bad2]⟩, ?_⟩
    rw [← mv_move hne1, ← mv_stay rfl]
    exact ih
  | x :: A, y :: B, i, k, hA, hB, hi, hk => by
    have h1 := congrArg List.length hA
    have h2 := congrArg List.length hB
    simp at h1 h2
    have hli : i < a.length := by omega
    have hlk : k < b.length := by omega
    have hA' := hA
    have hB' := hB
    rw [drop_getD [] hli] at hA'
    rw [drop_getD [] hlk] at hB'
    injection hA' with hx hA'
    injection hB' with hy hB'
    have hnei : (i : Int) ≠ a.length := by omega
    have hnei1 : ¬ ((i : Int) = -1) := by omega
    have hnek : (k : Int) ≠ b.length := by omega
    have hnek1 : ¬ ((k : Int) = -1) := by omega
    rw [cmp_both]
    by_cases h : x = y
    · have ih := cmp_ok a b A B (i + 1) (k + 1) hA' hB' hli hlk
      rw [if_pos h]
      simp only [okL, Bool.and_eq_true, Bool.not_eq_true']
      refine ⟨⟨by simp [bad1, hnei, hnei1, hnek, hnek1], ?_⟩, ?_⟩
      · unfold bad2
        rw [← hx, ← hy]
        simp [h]
      · rw [← mv_move hnei1, ← mv_move hnek1]
        exact ih
    · rw [if_neg h]
      by_cases hl : lcs (x :: A) B ≤ lcs A (y :: B)
      · have ih := cmp_ok a b A (y :: B) (i + 1) k hA' hB hli hk
        rw [if_pos hl]
        simp only [okL, Bool.and_eq_true, Bool.not_eq_true']
        refine ⟨⟨by simp [bad1, hnei, hnei1], by simp [bad2]⟩, ?_⟩
        rw [← mv_move hnei1, ← mv_stay rfl]
        exact ih
      · have ih := cmp_ok a b (x :: A) B i (k + 1) hA hB' hi hlk
        rw [if_neg hl]
        simp only [okL, Bool.and_eq_true, Bool.not_eq_true']
        refine ⟨⟨by simp [bad1, hnek, hnek1], by simp [bad2]⟩, ?_⟩
        rw [← mv_move hnek1, ← mv_stay rfl]
        exact ih
termination_by A B => A.length + B.length

theorem compare_is (a b : List Str) : okL a b 0 0 (compareL a b) = true := cmp_ok a b a b 0 0 rfl rfl (Nat.zero_le _) (Nat.zero_le _)
theorem compare_least (a b : List Str) (l : List Chg) (h : okL a b 0 0 l = true) : changes (compareL a b) ≤ changes l := by
  have h1 := ok_changes a b l 0 0 (Nat.zero_le _) (Nat.zero_le _) h
  have h2 := cmp_changes a b 0 0 (by omega) (by omega)
  simp at h1
  unfold compareL
  omega

end Go.Proofs.Ytohankpncipefaa
