import Derived.Test.YtohankpncipefaaD12
import Derived.Test.YtohankpncipefaaD9
namespace Go.Proofs.Ytohankpncipefaa
open Go.Own
set_option maxHeartbeats 2000000
set_option maxRecDepth 100000

/-- A line whose places lie d further. -/
def sh (d : Int) (c : Chg) : Chg := ⟨if 0 ≤ c.o then c.o + d else c.o, if 0 ≤ c.n then c.n + d else c.n⟩

theorem cmp_shift (d : Int) (hd : 0 ≤ d) : ∀ (a b : List Str) (i k : Int), 0 ≤ i → 0 ≤ k → cmp a b (i + d) (k + d) = (cmp a b i k).map (sh d)
  | [], [], i, k, hi, hk => by rw [cmp_nil, cmp_nil]; rfl
  | x :: a, [], i, k, hi, hk => by
    have ih := cmp_shift d hd a [] (i + 1) k (by omega) hk
    rw [cmp_left, cmp_left, List.map_cons, ← ih, show i + d + 1 = i + 1 + d by omega]
    simp [sh, hi]
  | [], y :: b, i, k, hi, hk => by
    have ih := cmp_shift d hd [] b i (k + 1) hi (by omega)
    rw [cmp_right, cmp_right, List.map_cons, ← ih, show k + d + 1 = k + 1 + d by omega]
    simp [sh, hk]
  | x :: a, y :: b, i, k, hi, hk => by
    have h1 := cmp_shift d hd a b (i + 1) (k + 1) (by omega) (by omega)
    have h2 := cmp_shift d hd a (y :: b) (i + 1) k (by omega) hk
    have h3 := cmp_shift d hd (x :: a) b i (k + 1) hi (by omega)
    rw [cmp_both, cmp_both]
    by_cases h : x = y
    · rw [if_pos h, if_pos h, List.map_cons, ← h1, show i + d + 1 = i + 1 + d by omega, show k + d + 1 = k + 1 + d by omega]
      simp [sh, hi, hk]
    · rw [if_neg h, if_neg h]
      by_cases hl : lcs (x :: a) b ≤ lcs a (y :: b)
      · rw [if_pos hl, if_pos hl, List.map_cons, ← h2, show i + d + 1 = i + 1 + d by omega]
        simp [sh, hi]
      · rw [if_neg hl, if_neg hl, List.map_cons, ← h3, show k + d + 1 = k + 1 + d by omega]
        simp [sh, hk]
termination_by a b => a.length + b.length

theorem cmp_before (a b : List Str) : ∀ (m : List Str) (i : Nat), cmp (m ++ a) (m ++ b) i i = ((List.range m.length).map fun j => (⟨(i + j : Nat), (i + j : Nat)⟩ : Chg)) ++ cmp a b (i + m.length : Nat) (i + m.length : Nat)
  | [], i => by simp
  | x :: m, i => by
    have ih := cmp_before a b m (i + 1)
    rw [List.cons_append, List.cons_append, cmp_both, if_pos rfl]
    rw [show (i : Int) + 1 = ((i + 1 : Nat) : Int) by omega, ih, List.length_cons, List.range_succ_eq_map]
    simp only [List.map_cons, List.map_map, List.cons_append, Nat.add_zero]
    congr 1
    rw [show i + 1 + m.length = i + (m.length + 1) by omega]
    congr 1
    refine List.map_congr_left fun j _ => ?_
    simp
    omega

theorem compare_before (a b m : List Str) : compareL (m ++ a) (m ++ b) = ((List.range m.length).map fun j => (⟨(j : Nat), (j : Nat)⟩ : Chg)) ++ (compareL a b).map (sh m.length) := by
  have h := cmp_before a b m 0
  have h2 := cmp_shift m.length (by omega) a b 0 0 (by omega) (by omega)
  unfold compareL
  rw [show ((0 : Nat) : Int) = 0 by rfl] at h
  rw [h]
  simp only [Nat.zero_add] at h2 ⊢
  rw [Int.zero_add] at h2
  rw [h2]

theorem cmp_same (a : List Str) : ∀ (i : Int), 0 ≤ i → (cmp a a i i).length = a.length ∧ changes (cmp a a i i) = 0 := by
  induction a with
  | nil => intro i hi; rw [cmp_nil]; exact ⟨rfl, rfl⟩
  | cons x a ih =>
    intro i hi
    obtain ⟨h1, h2⟩ := ih (i + 1) (by omega)
    rw [cmp_both, if_pos rfl]
    refine ⟨by simp [h1], ?_⟩
    rw [changes_cons, h2, if_neg (by simp [chgB]; omega)]

theorem lcs_spec : ∀ (a b : List Str), ∃ s : List Str, s.Sublist a ∧ s.Sublist b ∧ s.length = lcs a b
  | [], b => ⟨[], List.nil_sublist _, List.nil_sublist _, by rw [lcs_nil_l]; rfl⟩
  | x :: a, [] => ⟨[], List.nil_sublist _, List.nil_sublist _, by rw [lcs_nil_r]; rfl⟩
  | x :: a, y :: b => by
    rw [lcs_cons]
    by_cases h : x = y
    · subst h
      obtain ⟨s, h1, h2, h3⟩ := lcs_spec a b
      rw [if_pos rfl]
      exact ⟨x :: s, h1.cons_cons x, h2.cons_cons x, by simp [h3]⟩
    · rw [if_neg h]
      by_cases hl : lcs (x :: a) b ≤ lcs a (y :: b)
      · obtain ⟨s, h1, h2, h3⟩ := lcs_spec a (y :: b)
        exact ⟨s, h1.cons x, h2, by omega⟩
      · obtain ⟨s, h1, h2, h3⟩ := lcs_spec (x :: a) b
        exact ⟨s, h1, h2.cons y, by omega⟩
termination_by a b => a.length + b.length

theorem compare_changes (a b : List Str) : changes (compareL a b) + 2 * lcs a b = a.length + b.length := cmp_changes a b 0 0 (by omega) (by omega)
theorem compare_back (a b : List Str) : changes (compareL b a) = changes (compareL a b) := by
  have h1 := compare_changes a b
  have h2 := compare_changes b a
  rw [lcs_comm] at h2
  omega
theorem compare_behind (a b m : List Str) : changes (compareL (a ++ m) (b ++ m)) ≤ changes (compareL a b) := by
  have h1 := compare_changes a b
  have h2 := compare_changes (a ++ m) (b ++ m)
  obtain ⟨s, s1, s2, s3⟩ := lcs_spec a b
  have h3 := sub_lcs (s ++ m) (a ++ m) (b ++ m) (s1.append (List.Sublist.refl m)) (s2.append (List.Sublist.refl m))
  simp at h2 h3
  omega

/-- What stands first. -/
def firstAt (m : Nat) (L : List Chg) (j : Nat) : Chg := if j < m then ⟨j, j⟩ else sh m (L.getD (j - m) c0)

theorem compare_firstAt (a b m : List Str) : (compareL (m ++ a) (m ++ b)).length = m.length + (compareL a b).length ∧ ∀ j, j < (compareL (m ++ a) (m ++ b)).length → (compareL (m ++ a) (m ++ b)).getD j c0 = firstAt m.length (compareL a b) j := by
  rw [compare_before]
  refine ⟨by simp, fun j hj => ?_⟩
  unfold firstAt
  by_cases h : j < m.length
  · rw [if_pos h]
    simp [List.getD, List.getElem?_append_left, h]
  · rw [if_neg h]
    simp at hj
    have hj2 : j - m.length < (compareL a b).length := by omega
    rw [List.getD, List.getElem?_append_right (by simp; omega)]
    simp [List.getD, hj2]

end Go.Proofs.Ytohankpncipefaa
