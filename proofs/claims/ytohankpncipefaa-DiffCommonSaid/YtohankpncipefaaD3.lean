import Derived.Test.YtohankpncipefaaD2
namespace Go.Proofs.Ytohankpncipefaa
open Go.Own
set_option maxHeartbeats 1000000
set_option maxRecDepth 100000

abbrev Str := List UInt8

/-- How many can stay. -/
def lcs : List Str → List Str → Nat
  | [], _ => 0
  | _ :: _, [] => 0
  | x :: a, y :: b => if x = y then lcs a b + 1 else max (lcs a (y :: b)) (lcs (x :: a) b)
termination_by a b => a.length + b.length

theorem lcs_nil_l (b : List Str) : lcs [] b = 0 := by rw [lcs]
theorem lcs_nil_r (a : List Str) : lcs a [] = 0 := by cases a <;> rw [lcs]
theorem lcs_cons (x y : Str) (a b : List Str) : lcs (x :: a) (y :: b) = if x = y then lcs a b + 1 else max (lcs a (y :: b)) (lcs (x :: a) b) := by rw [lcs]

theorem lcs_le_left : ∀ (a b : List Str), lcs a b ≤ a.length
  | [], b => by rw [lcs_nil_l]; exact Nat.zero_le _
  | x :: a, [] => by rw [lcs_nil_r]; exact Nat.zero_le _
  | x :: a, y :: b => by
    rw [lcs_cons]
    have h1 := lcs_le_left a b
    have h2 := lcs_le_left a (y :: b)
    have h3 := lcs_le_left (x :: a) b
    simp only [List.length_cons] at *
    split <;> omega
termination_by a b => a.length + b.length

theorem drop_getD {α : Type} {l : List α} {k : Nat} (d : α) (h : k < l.length) : l.drop k = l.getD k d :: l.drop (k + 1) := by
  rw [List.drop_eq_getElem_cons h]
  simp [List.getD, List.getElem?_eq_getElem h]

/-- The cells of the rows from i on, and of the row before from k on. -/
def tabF (a b : List Str) (i k : Nat) (j : Nat) : Int := if i ≤ j / 201 ∨ (j / 201 + 1 = i ∧ k ≤ j % 201) then lcs (a.drop (j / 201)) (b.drop (j % 201)) else 0

theorem tabF_at {a b : List Str} {i k p q : Nat} (hq : q < 201) : tabF a b i k (p * 201 + q) = if i ≤ p ∨ (p + 1 = i ∧ k ≤ q) then (lcs (a.drop p) (b.drop q) : Int) else 0 := by
  unfold tabF
  rw [show (p * 201 + q) / 201 = p by omega, show (p * 201 + q) % 201 = q by omega]

theorem tabF_full {a b : List Str} {j : Nat} : tabF a b a.length 201 j = 0 := by
  unfold tabF
  split
  · rename_i h
    rcases h with h | h
    · rw [List.drop_eq_nil_of_le h, lcs_nil_l]; rfl
    · omega
  · rfl

theorem tabF_row {a b : List Str} {i j : Nat} (hb : b.length ≤ 200) : tabF a b (i + 1) (b.length) j = tabF a b (i + 1) 201 j := by
  unfold tabF
  by_cases h : i + 1 ≤ j / 201
  · simp [h]
  · by_cases h2 : j / 201 + 1 = i + 1 ∧ b.length ≤ j % 201
    · have h3 : ¬ (i + 1 ≤ j / 201 ∨ (j / 201 + 1 = i + 1 ∧ 201 ≤ j % 201)) := by omega
      rw [if_pos (.inr h2), if_neg h3, List.drop_eq_nil_of_le h2.2, lcs_nil_r]; rfl
    · have h3 : ¬ (i + 1 ≤ j / 201 ∨ (j / 201 + 1 = i + 1 ∧ 201 ≤ j % 201)) := by omega
      rw [if_neg (by omega), if_neg h3]

theorem tabF_next {a b : List Str} {i j : Nat} : tabF a b (i + 1) 0 j = tabF a b i 201 j := by
  unfold tabF
  by_cases h : i ≤ j / 201
  · rw [if_pos (by omega), if_pos (.inl h)]
  · rw [if_neg (by omega), if_neg (by omega)]

theorem tabF_upd {a b : List Str} {p q j : Nat} (hq : q < 201) : updF (tabF a b (p + 1) (q + 1)) (p * 201 + q) (lcs (a.drop p) (b.drop q)) j = tabF a b (p + 1) q j := by
  unfold updF
  by_cases e : j = p * 201 + q
  · subst e
    rw [if_pos rfl, tabF_at hq, if_pos (by omega)]
  · rw [if_neg e]
    unfold tabF
    have : ¬ (j / 201 = p ∧ j % 201 = q) := by omega
    by_cases h : p + 1 ≤ j / 201
    · rw [if_pos (.inl h), if_pos (.inl h)]
    · by_cases h2 : j / 201 + 1 = p + 1 ∧ q + 1 ≤ j % 201
      · rw [if_pos (.inr h2), if_pos (by omega)]
      · rw [if_neg (by omega), if_neg (by omega)]

theorem stays_ok (a b : List Str) (ha : a.length ≤ 200) (hb : b.length ≤ 200) : APure Try.prog 16 [encSs a, encSs b] (fun rs => ∃ f, (∀ i k, k < 201 → f (i * 201 + k) = (lcs (a.drop i) (b.drop k) : Int)) ∧ rs = [.val (.iarr .i64 40401 f)]) := by
  refine apure_of (C := cx 61 [0, 1, 4, 5, 6, 7, 12, 19, 30]) (cxOk _ _) Try.func16 rfl (by decide) rfl (by exact Nat.le_of_ble_eq_true rfl) (by decide) ?_
  conv => whnf
  refine And.intro rfl ?_
  conv => whnf
  refine And.intro rfl ?_
  conv => whnf
  repeat (first | (refine And.intro ⟨by omega, by omega⟩ ?_; conv => whnf) | (refine And.intro rfl ?_; conv => whnf) | (refine And.intro (fun _ => ⟨by omega, by omega⟩) ?_; conv => whnf) | (refine And.intro ⟨(by first | omega | (simp; omega)), (by first | omega | (simp; omega))⟩ ?_; conv => whnf) | (refine Exists.intro _ (And.intro rfl (And.intro (by first | omega | (simp; omega)) (And.intro ⟨rfl, rfl, rfl, rfl, rfl⟩ ?_))); conv => whnf) | (refine And.intro ⟨rfl, rfl⟩ (And.intro (by first | omega | (simp; omega)) ?_); conv => whnf) | (refine Exists.intro _ (And.intro rfl ?_); conv => whnf) | (refine And.intro (fun _ => ?_) (fun h => absurd h (by decide)); conv => whnf) | (refine And.intro (fun h => absurd h (by decide)) (fun _ => ?_); conv => whnf) | (refine .quiet (by kernel_rfl) ?_; conv => whnf))
  refine loop_inv (cxOk _ _) (σ := Nat) (fun i => i ≤ a.length) (fun i => i) (fun i => ⟨[(0, encSs a), (1, encSs b), (4, .ptr 0 0), (5, .ptr 1 0), (6, .int .i64 ((i : Int) - 1))], [(0, .arr 50 .i64 40401 (fun _ => 0)), (1, .arr 50 .i64 40401 (tabF a b i 201))], 2⟩) a.length (Nat.le_refl _) ((wk_of [(0, .id 0), (1, .id 1)] rfl ⟨.base (.tree _ _ rfl rfl), .base (.tree _ _ rfl rfl), .base (.ptr _ _ _ rfl), .base (.ptr _ _ _ rfl), .base (.tree _ _ rfl rfl), trivial⟩ ⟨⟨_, rfl, .arr _ _ _ _ _ _ rfl (fun _ _ => rfl)⟩, ⟨_, rfl, .arr _ _ _ _ _ _ rfl (fun _ _ => tabF_full.symm)⟩, trivial⟩)) ?_
  intro i hi
  conv => whnf
  refine ⟨fun hc => ?_, fun hc => ?_⟩
  · simp only [decide_eq_true_eq] at hc
    conv => whnf
    repeat (first | (refine And.intro ⟨by omega, by omega⟩ ?_; conv => whnf) | (refine And.intro rfl ?_; conv => whnf) | (refine And.intro (fun _ => ⟨by omega, by omega⟩) ?_; conv => whnf) | (refine And.intro ⟨(by first | omega | (simp; omega)), (by first | omega | (simp; omega))⟩ ?_; conv => whnf) | (refine Exists.intro _ (And.intro rfl (And.intro (by first | omega | (simp; omega)) (And.intro ⟨rfl, rfl, rfl, rfl, rfl⟩ ?_))); conv => whnf) | (refine And.intro ⟨rfl, rfl⟩ (And.intro (by first | omega | (simp; omega)) ?_); conv => whnf) | (refine Exists.intro _ (And.intro rfl ?_); conv => whnf) | (refine And.intro (fun _ => ?_) (fun h => absurd h (by decide)); conv => whnf) | (refine And.intro (fun h => absurd h (by decide)) (fun _ => ?_); conv => whnf) | (refine .quiet (by kernel_rfl) ?_; conv => whnf))
    obtain ⟨p, rfl⟩ : ∃ p, i = p + 1 := ⟨i - 1, by omega⟩
    refine loop_inv (cxOk _ _) (σ := Nat) (fun k => k ≤ b.length) (fun k => k) (fun k => ⟨[(0, encSs a), (1, encSs b), (4, .ptr 0 0), (5, .ptr 1 0), (6, .int .i64 (p : Int)), (7, .int .i64 ((k : Int) - 1))], [(0, .arr 50 .i64 40401 (fun _ => 0)), (1, .arr 50 .i64 40401 (tabF a b (p + 1) k))], 2⟩) b.length (Nat.le_refl _) ((wk_of [(0, .id 0), (1, .id 1)] rfl ⟨.base (.tree _ _ rfl rfl), .base (.tree _ _ rfl rfl), .base (.ptr _ _ _ rfl), .base (.ptr _ _ _ rfl), .base (.tree _ _ (by show AV.int .i64 (((p + 1 : Nat) : Int) - 1) = AV.int .i64 (p : Int); congr 1; omega) rfl), .base (.tree _ _ rfl rfl), trivial⟩ ⟨⟨_, rfl, .arr _ _ _ _ _ _ rfl (fun _ _ => rfl)⟩, ⟨_, rfl, .arr _ _ _ _ _ _ rfl (fun _ _ => (tabF_row hb).symm)⟩, trivial⟩)) ?_
    intro k hk
    conv => whnf
    refine ⟨fun hc => ?_, fun hc => ?_⟩
    · simp only [decide_eq_true_eq] at hc
      obtain ⟨q, rfl⟩ : ∃ q, k = q + 1 := ⟨k - 1, by omega⟩
      have e1 : ((q + 1 : Nat) : Int) - 1 = q := by omega
      rw [e1]
      have hA : a.drop p = a.getD p [] :: a.drop (p + 1) := drop_getD [] (by omega)
      have hB : b.drop q = b.getD q [] :: b.drop (q + 1) := drop_getD [] (by omega)
      have hL := lcs_cons (a.getD p []) (b.getD q []) (a.drop (p + 1)) (b.drop (q + 1))
      rw [← hA, ← hB] at hL
      conv => whnf
      repeat (first | (refine And.intro ⟨by omega, by omega⟩ ?_; conv => whnf) | (refine And.intro rfl ?_; conv => whnf) | (refine And.intro (fun _ => ⟨by omega, by omega⟩) ?_; conv => whnf) | (refine And.intro ⟨(by first | omega | (simp; omega)), (by first | omega | (simp; omega))⟩ ?_; conv => whnf) | (refine Exists.intro _ (And.intro rfl (And.intro (by first | omega | (simp; omega)) (And.intro ⟨rfl, rfl, rfl, rfl, rfl⟩ ?_))); conv => whnf) | (refine And.intro ⟨rfl, rfl⟩ (And.intro (by first | omega | (simp; omega)) ?_); conv => whnf) | (refine Exists.intro _ (And.intro rfl ?_); conv => whnf) | (refine And.intro (fun _ => ?_) (fun h => absurd h (by decide)); conv => whnf) | (refine And.intro (fun h => absurd h (by decide)) (fun _ => ?_); conv => whnf) | (refine .quiet (by kernel_rfl) ?_; conv => whnf))
      have hp200 : p < 200 := by omega
      have hq200 : q < 200 := by omega
      have hl1 := lcs_le_left (a.drop (p + 1)) (b.drop (q + 1))
      have hl2 := lcs_le_left (a.drop (p + 1)) (b.drop q)
      have hl3 := lcs_le_left (a.drop p) (b.drop (q + 1))
      simp only [List.length_drop] at hl1 hl2 hl3
      have eo : 0 + (p : Int).toNat * 201 + (q : Int).toNat * 1 = p * 201 + q := by omega
      refine ⟨fun hd => ?_, fun hd => ?_⟩
      · simp only [Int.toNat_natCast, decide_eq_true_eq] at hd
        rw [if_pos hd] at hL
        have hv : tabF a b (p + 1) (q + 1) (0 + ((p : Int) + 1).toNat * 201 + ((q : Int) + 1).toNat * 1) = (lcs (a.drop (p + 1)) (b.drop (q + 1)) : Int) := by
          rw [show 0 + ((p : Int) + 1).toNat * 201 + ((q : Int) + 1).toNat * 1 = (p + 1) * 201 + (q + 1) by omega, tabF_at (by omega), if_pos (by omega)]
        conv => whnf
        refine .eff (cxOk _ _) ?_
        conv => whnf
        repeat (first | (refine And.intro ⟨by omega, by omega⟩ ?_; conv => whnf) | (refine And.intro rfl ?_; conv => whnf) | (refine And.intro (fun _ => ⟨by omega, by omega⟩) ?_; conv => whnf) | (refine And.intro ⟨(by first | omega | (simp; omega)), (by first | omega | (simp; omega))⟩ ?_; conv => whnf) | (refine Exists.intro _ (And.intro rfl (And.intro (by first | omega | (simp; omega)) (And.intro ⟨rfl, rfl, rfl, rfl, rfl⟩ ?_))); conv => whnf) | (refine And.intro ⟨rfl, rfl⟩ (And.intro (by first | omega | (simp; omega)) ?_); conv => whnf) | (refine Exists.intro _ (And.intro rfl ?_); conv => whnf) | (refine And.intro (fun _ => ?_) (fun h => absurd h (by decide)); conv => whnf) | (refine And.intro (fun h => absurd h (by decide)) (fun _ => ?_); conv => whnf) | (refine .quiet (by kernel_rfl) ?_; conv => whnf))
        refine And.intro (show 0 + ((p : Int) + 1).toNat * 201 + ((q : Int) + 1).toNat * 1 < 40401 by omega) ?_
        conv => whnf
        refine And.intro (show -9223372036854775808 ≤ tabF a b (p + 1) (q + 1) (0 + ((p : Int) + 1).toNat * 201 + ((q : Int) + 1).toNat * 1) + 1 ∧ tabF a b (p + 1) (q + 1) (0 + ((p : Int) + 1).toNat * 201 + ((q : Int) + 1).toNat * 1) + 1 ≤ 9223372036854775807 by rw [hv]; constructor <;> omega) ?_
        conv => whnf
        repeat (first | (refine And.intro ⟨by omega, by omega⟩ ?_; conv => whnf) | (refine And.intro rfl ?_; conv => whnf) | (refine And.intro (fun _ => ⟨by omega, by omega⟩) ?_; conv => whnf) | (refine And.intro ⟨(by first | omega | (simp; omega)), (by first | omega | (simp; omega))⟩ ?_; conv => whnf) | (refine Exists.intro _ (And.intro rfl (And.intro (by first | omega | (simp; omega)) (And.intro ⟨rfl, rfl, rfl, rfl, rfl⟩ ?_))); conv => whnf) | (refine And.intro ⟨rfl, rfl⟩ (And.intro (by first | omega | (simp; omega)) ?_); conv => whnf) | (refine Exists.intro _ (And.intro rfl ?_); conv => whnf) | (refine And.intro (fun _ => ?_) (fun h => absurd h (by decide)); conv => whnf) | (refine And.intro (fun h => absurd h (by decide)) (fun _ => ?_); conv => whnf) | (refine .quiet (by kernel_rfl) ?_; conv => whnf))
        refine And.intro (show 0 + (p : Int).toNat * 201 + (q : Int).toNat * 1 < 40401 by omega) ?_
        conv => whnf
        refine ⟨by kernel_rfl, ?_⟩
        conv => whnf
        repeat (first | (refine And.intro ⟨by omega, by omega⟩ ?_; conv => whnf) | (refine And.intro rfl ?_; conv => whnf) | (refine And.intro (fun _ => ⟨by omega, by omega⟩) ?_; conv => whnf) | (refine And.intro ⟨(by first | omega | (simp; omega)), (by first | omega | (simp; omega))⟩ ?_; conv => whnf) | (refine Exists.intro _ (And.intro rfl (And.intro (by first | omega | (simp; omega)) (And.intro ⟨rfl, rfl, rfl, rfl, rfl⟩ ?_))); conv => whnf) | (refine And.intro ⟨rfl, rfl⟩ (And.intro (by first | omega | (simp; omega)) ?_); conv => whnf) | (refine Exists.intro _ (And.intro rfl ?_); conv => whnf) | (refine And.intro (fun _ => ?_) (fun h => absurd h (by decide)); conv => whnf) | (refine And.intro (fun h => absurd h (by decide)) (fun _ => ?_); conv => whnf) | (refine .quiet (by kernel_rfl) ?_; conv => whnf))
        refine ⟨q, by omega, by show q < q + 1; omega, (wk_of [(0, .id 0), (1, .id 1)] rfl ⟨.base (.tree _ _ rfl rfl), .base (.tree _ _ rfl rfl), .base (.ptr _ _ _ rfl), .base (.ptr _ _ _ rfl), .base (.tree _ _ rfl rfl), .base (.tree _ _ rfl rfl), trivial⟩ ⟨⟨_, rfl, .arr _ _ _ _ _ _ rfl (fun _ _ => rfl)⟩, ⟨_, rfl, .arr _ _ _ _ _ _ rfl (fun j _ => (show updF (tabF a b (p + 1) (q + 1)) (0 + (p : Int).toNat * 201 + (q : Int).toNat * 1) (tabF a b (p + 1) (q + 1) (0 + ((p : Int) + 1).toNat * 201 + ((q : Int) + 1).toNat * 1) + 1) j = tabF a b (p + 1) q j by rw [eo, hv, ← tabF_upd (by omega), hL]; rfl))⟩, trivial⟩)⟩
      · simp only [Int.toNat_natCast, decide_eq_false_iff_not] at hd
        rw [if_neg hd] at hL
        have hv1 : tabF a b (p + 1) (q + 1) (0 + ((p : Int) + 1).toNat * 201 + (q : Int).toNat * 1) = (lcs (a.drop (p + 1)) (b.drop q) : Int) := by
          rw [show 0 + ((p : Int) + 1).toNat * 201 + (q : Int).toNat * 1 = (p + 1) * 201 + q by omega, tabF_at (by omega), if_pos (by omega)]
        have hv2 : tabF a b (p + 1) (q + 1) (0 + (p : Int).toNat * 201 + ((q : Int) + 1).toNat * 1) = (lcs (a.drop p) (b.drop (q + 1)) : Int) := by
          rw [show 0 + (p : Int).toNat * 201 + ((q : Int) + 1).toNat * 1 = p * 201 + (q + 1) by omega, tabF_at (by omega), if_pos (by omega)]
        conv => whnf
        refine .eff (cxOk _ _) ?_
        conv => whnf
        repeat (first | (refine And.intro ⟨by omega, by omega⟩ ?_; conv => whnf) | (refine And.intro rfl ?_; conv => whnf) | (refine And.intro (fun _ => ⟨by omega, by omega⟩) ?_; conv => whnf) | (refine And.intro ⟨(by first | omega | (simp; omega)), (by first | omega | (simp; omega))⟩ ?_; conv => whnf) | (refine Exists.intro _ (And.intro rfl (And.intro (by first | omega | (simp; omega)) (And.intro ⟨rfl, rfl, rfl, rfl, rfl⟩ ?_))); conv => whnf) | (refine And.intro ⟨rfl, rfl⟩ (And.intro (by first | omega | (simp; omega)) ?_); conv => whnf) | (refine Exists.intro _ (And.intro rfl ?_); conv => whnf) | (refine And.intro (fun _ => ?_) (fun h => absurd h (by decide)); conv => whnf) | (refine And.intro (fun h => absurd h (by decide)) (fun _ => ?_); conv => whnf) | (refine .quiet (by kernel_rfl) ?_; conv => whnf))
        refine And.intro (show 0 + ((p : Int) + 1).toNat * 201 + (q : Int).toNat * 1 < 40401 by omega) ?_
        conv => whnf
        repeat (first | (refine And.intro ⟨by omega, by omega⟩ ?_; conv => whnf) | (refine And.intro rfl ?_; conv => whnf) | (refine And.intro (fun _ => ⟨by omega, by omega⟩) ?_; conv => whnf) | (refine And.intro ⟨(by first | omega | (simp; omega)), (by first | omega | (simp; omega))⟩ ?_; conv => whnf) | (refine Exists.intro _ (And.intro rfl (And.intro (by first | omega | (simp; omega)) (And.intro ⟨rfl, rfl, rfl, rfl, rfl⟩ ?_))); conv => whnf) | (refine And.intro ⟨rfl, rfl⟩ (And.intro (by first | omega | (simp; omega)) ?_); conv => whnf) | (refine Exists.intro _ (And.intro rfl ?_); conv => whnf) | (refine And.intro (fun _ => ?_) (fun h => absurd h (by decide)); conv => whnf) | (refine And.intro (fun h => absurd h (by decide)) (fun _ => ?_); conv => whnf) | (refine .quiet (by kernel_rfl) ?_; conv => whnf))
        refine And.intro (show 0 + (p : Int).toNat * 201 + ((q : Int) + 1).toNat * 1 < 40401 by omega) ?_
        conv => whnf
        repeat (first | (refine And.intro ⟨by omega, by omega⟩ ?_; conv => whnf) | (refine And.intro rfl ?_; conv => whnf) | (refine And.intro (fun _ => ⟨by omega, by omega⟩) ?_; conv => whnf) | (refine And.intro ⟨(by first | omega | (simp; omega)), (by first | omega | (simp; omega))⟩ ?_; conv => whnf) | (refine Exists.intro _ (And.intro rfl (And.intro (by first | omega | (simp; omega)) (And.intro ⟨rfl, rfl, rfl, rfl, rfl⟩ ?_))); conv => whnf) | (refine And.intro ⟨rfl, rfl⟩ (And.intro (by first | omega | (simp; omega)) ?_); conv => whnf) | (refine Exists.intro _ (And.intro rfl ?_); conv => whnf) | (refine And.intro (fun _ => ?_) (fun h => absurd h (by decide)); conv => whnf) | (refine And.intro (fun h => absurd h (by decide)) (fun _ => ?_); conv => whnf) | (refine .quiet (by kernel_rfl) ?_; conv => whnf))
        refine And.intro (show 0 + (p : Int).toNat * 201 + (q : Int).toNat * 1 < 40401 by omega) ?_
        conv => whnf
        refine ⟨by kernel_rfl, ?_⟩
        conv => whnf
        repeat (first | (refine And.intro ⟨by omega, by omega⟩ ?_; conv => whnf) | (refine And.intro rfl ?_; conv => whnf) | (refine And.intro (fun _ => ⟨by omega, by omega⟩) ?_; conv => whnf) | (refine And.intro ⟨(by first | omega | (simp; omega)), (by first | omega | (simp; omega))⟩ ?_; conv => whnf) | (refine Exists.intro _ (And.intro rfl (And.intro (by first | omega | (simp; omega)) (And.intro ⟨rfl, rfl, rfl, rfl, rfl⟩ ?_))); conv => whnf) | (refine And.intro ⟨rfl, rfl⟩ (And.intro (by first | omega | (simp; omega)) ?_); conv => whnf) | (refine Exists.intro _ (And.intro rfl ?_); conv => whnf) | (refine And.intro (fun _ => ?_) (fun h => absurd h (by decide)); conv => whnf) | (refine And.intro (fun h => absurd h (by decide)) (fun _ => ?_); conv => whnf) | (refine .quiet (by kernel_rfl) ?_; conv => whnf))
        refine ⟨q, by omega, by show q < q + 1; omega, (wk_of [(0, .id 0), (1, .id 1)] rfl ⟨.base (.tree _ _ rfl rfl), .base (.tree _ _ rfl rfl), .base (.ptr _ _ _ rfl), .base (.ptr _ _ _ rfl), .base (.tree _ _ rfl rfl), .base (.tree _ _ rfl rfl), trivial⟩ ⟨⟨_, rfl, .arr _ _ _ _ _ _ rfl (fun _ _ => rfl)⟩, ⟨_, rfl, .arr _ _ _ _ _ _ rfl (fun j _ => (show updF (tabF a b (p + 1) (q + 1)) (0 + (p : Int).toNat * 201 + (q : Int).toNat * 1) (max (tabF a b (p + 1) (q + 1) (0 + ((p : Int) + 1).toNat * 201 + (q : Int).toNat * 1)) (tabF a b (p + 1) (q + 1) (0 + (p : Int).toNat * 201 + ((q : Int) + 1).toNat * 1))) j = tabF a b (p + 1) q j by rw [eo, hv1, hv2, ← tabF_upd (by omega), hL]; congr 1; omega))⟩, trivial⟩)⟩
    · conv => whnf
      simp only [decide_eq_false_iff_not] at hc
      have hk0 : k = 0 := by omega
      subst hk0
      repeat (first | (refine And.intro ⟨by omega, by omega⟩ ?_; conv => whnf) | (refine And.intro rfl ?_; conv => whnf) | (refine And.intro (fun _ => ⟨by omega, by omega⟩) ?_; conv => whnf) | (refine And.intro ⟨(by first | omega | (simp; omega)), (by first | omega | (simp; omega))⟩ ?_; conv => whnf) | (refine Exists.intro _ (And.intro rfl (And.intro (by first | omega | (simp; omega)) (And.intro ⟨rfl, rfl, rfl, rfl, rfl⟩ ?_))); conv => whnf) | (refine And.intro ⟨rfl, rfl⟩ (And.intro (by first | omega | (simp; omega)) ?_); conv => whnf) | (refine Exists.intro _ (And.intro rfl ?_); conv => whnf) | (refine And.intro (fun _ => ?_) (fun h => absurd h (by decide)); conv => whnf) | (refine And.intro (fun h => absurd h (by decide)) (fun _ => ?_); conv => whnf) | (refine .quiet (by kernel_rfl) ?_; conv => whnf))
      refine ⟨p, by omega, by show p < p + 1; omega, (wk_of [(0, .id 0), (1, .id 1)] rfl ⟨.base (.tree _ _ rfl rfl), .base (.tree _ _ rfl rfl), .base (.ptr _ _ _ rfl), .base (.ptr _ _ _ rfl), .base (.tree _ _ rfl rfl), trivial⟩ ⟨⟨_, rfl, .arr _ _ _ _ _ _ rfl (fun _ _ => rfl)⟩, ⟨_, rfl, .arr _ _ _ _ _ _ rfl (fun _ _ => tabF_next)⟩, trivial⟩)⟩
  · conv => whnf
    simp only [decide_eq_false_iff_not] at hc
    have hi0 : i = 0 := by omega
    subst hi0
    repeat (first | (refine And.intro ⟨by omega, by omega⟩ ?_; conv => whnf) | (refine And.intro rfl ?_; conv => whnf) | (refine And.intro (fun _ => ⟨by omega, by omega⟩) ?_; conv => whnf) | (refine And.intro ⟨(by first | omega | (simp; omega)), (by first | omega | (simp; omega))⟩ ?_; conv => whnf) | (refine Exists.intro _ (And.intro rfl (And.intro (by first | omega | (simp; omega)) (And.intro ⟨rfl, rfl, rfl, rfl, rfl⟩ ?_))); conv => whnf) | (refine And.intro ⟨rfl, rfl⟩ (And.intro (by first | omega | (simp; omega)) ?_); conv => whnf) | (refine Exists.intro _ (And.intro rfl ?_); conv => whnf) | (refine And.intro (fun _ => ?_) (fun h => absurd h (by decide)); conv => whnf) | (refine And.intro (fun h => absurd h (by decide)) (fun _ => ?_); conv => whnf) | (refine .quiet (by kernel_rfl) ?_; conv => whnf))
    refine ⟨_, fun i k hk => ?_, rfl⟩
    rw [tabF_at hk, if_pos (by omega)]
end Go.Proofs.Ytohankpncipefaa
