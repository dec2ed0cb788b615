import Derived.Test.YtohankpncipefaaD8
namespace Go.Proofs.Ytohankpncipefaa
open Go.Own
set_option maxHeartbeats 1000000
set_option maxRecDepth 100000

/-- Is the bit of the place in the mask? -/
def bitB (mask : Int) (k : Nat) : Bool := decide (IntKind.u32.wrap ((BitVec.ofInt IntKind.u32.bits (mask.fdiv (2 ^ (min ((k : Int)).toNat IntKind.u32.bits))) &&& BitVec.ofInt IntKind.u32.bits 1).toNat : Int) = 1)
def subTo (p : Nat → Bool) (a : List Str) (k : Nat) : List Str := ((List.range k).filter p).map fun i => a.getD i []
def subL (mask : Int) (a : List Str) : List Str := subTo (bitB mask) a a.length

theorem subTo_succ (p : Nat → Bool) (a : List Str) (k : Nat) : subTo p a (k + 1) = subTo p a k ++ if p k = true then [a.getD k []] else [] := by
  unfold subTo
  rw [List.range_succ, List.filter_append, List.map_append]
  congr 1
  cases h : p k <;> simp [h]

theorem subTo_len (p : Nat → Bool) (a : List Str) (k : Nat) : (subTo p a k).length ≤ k := by
  unfold subTo
  rw [List.length_map]
  exact Nat.le_trans (List.length_filter_le _ _) (by simp)

theorem subL_sub (mask : Int) (a : List Str) : (subL mask a).Sublist a := by
  have h : a = (List.range a.length).map fun i => a.getD i [] := by
    refine List.ext_getElem (by simp) fun i h1 h2 => ?_
    simp [List.getD, List.getElem?_eq_getElem h1]
  unfold subL subTo
  conv => rhs; rw [h]
  exact (List.filter_sublist).map _

theorem subset_ok (a : List Str) (mask : Int) (ha : a.length ≤ 1000) : APure Try.prog 12 [encSs a, .int .u32 mask] (fun rs => rs = [.new (.row 9 1 encS [] (subL mask a))]) := by
  refine apure_of (C := cx 26 [0, 1, 4, 5, 6, 10, 17]) (cxOk _ _) Try.func12 rfl (by decide) rfl (by exact Nat.le_of_ble_eq_true rfl) (by decide) ?_
  conv => whnf
  refine loop_up (cxOk _ _) a.length (fun _ => True) (fun k => ⟨[(0, encSs a), (1, .int .u32 mask), (5, .own 0), (6, .int .i64 (k : Nat))], [(0, .row 9 1 encS [] (subTo (bitB mask) a k))], 1⟩) trivial ((wk_of [(0, .nil)] rfl ⟨.base (.tree _ _ rfl rfl), .base (.tree _ _ rfl rfl), (by first | exact .base (.own _ _ rfl) | exact .base (.nilown _ rfl) | exact .base (.trunc _ _ _ rfl)), .base (.tree _ _ rfl rfl), trivial⟩ ⟨⟨_, rfl, (by first | exact .row _ _ _ _ _ _ _ rfl rfl | exact .lstrow _ _ _ _ _ _ _ rfl rfl | exact .nilrow _ _ _ _ _ rfl | exact .truncrow _ _ _ _ _ _ _ _ rfl (by omega) rfl)⟩, trivial⟩)) ?_
  intro k hk _
  have hstep := subTo_succ (bitB mask) a k
  have hlenS := subTo_len (bitB mask) a k
  conv => whnf
  refine ⟨fun hc => ?_, fun hc => ?_⟩
  · simp only [decide_eq_true_eq] at hc
    have hlt : k < a.length := by omega
    conv => whnf
    repeat (first | (refine And.intro ⟨by omega, by omega⟩ ?_; conv => whnf) | (refine And.intro (by omega) (And.intro rfl ?_); conv => whnf) | (refine And.intro rfl ?_; conv => whnf) | (refine And.intro (fun _ => ⟨by omega, by omega⟩) ?_; conv => whnf) | (refine And.intro (fun _ => by omega) (And.intro rfl ?_); conv => whnf) | (refine And.intro ⟨(by first | omega | (simp; omega)), (by first | omega | (simp; omega))⟩ ?_; conv => whnf) | (refine Exists.intro _ (And.intro rfl (And.intro (by first | omega | (simp; omega)) (And.intro ⟨rfl, rfl, rfl, rfl, rfl⟩ ?_))); conv => whnf) | (refine And.intro ⟨rfl, rfl⟩ (And.intro (by first | omega | (simp; omega)) ?_); conv => whnf) | (refine Exists.intro _ (And.intro rfl ?_); conv => whnf) | (refine And.intro (fun _ => ?_) (fun h => absurd h (by decide)); conv => whnf) | (refine And.intro (fun h => absurd h (by decide)) (fun _ => ?_); conv => whnf) | (refine .quiet (by kernel_rfl) ?_; conv => whnf))
    refine And.intro (by omega) ?_
    conv => whnf
    refine ⟨fun hd => ?_, fun hd => ?_⟩
    · have hd' : bitB mask k = true := hd
      rw [if_pos hd'] at hstep
      conv => whnf
      repeat (first | (refine And.intro ⟨by omega, by omega⟩ ?_; conv => whnf) | (refine And.intro (by omega) (And.intro rfl ?_); conv => whnf) | (refine And.intro rfl ?_; conv => whnf) | (refine And.intro (fun _ => ⟨by omega, by omega⟩) ?_; conv => whnf) | (refine And.intro (fun _ => by omega) (And.intro rfl ?_); conv => whnf) | (refine And.intro ⟨(by first | omega | (simp; omega)), (by first | omega | (simp; omega))⟩ ?_; conv => whnf) | (refine Exists.intro _ (And.intro rfl (And.intro (by first | omega | (simp; omega)) (And.intro ⟨rfl, rfl, rfl, rfl, rfl⟩ ?_))); conv => whnf) | (refine And.intro ⟨rfl, rfl⟩ (And.intro (by first | omega | (simp; omega)) ?_); conv => whnf) | (refine Exists.intro _ (And.intro rfl ?_); conv => whnf) | (refine And.intro (fun _ => ?_) (fun h => absurd h (by decide)); conv => whnf) | (refine And.intro (fun h => absurd h (by decide)) (fun _ => ?_); conv => whnf) | (refine .quiet (by kernel_rfl) ?_; conv => whnf))
      refine And.intro ⟨rfl, rfl⟩ (And.intro (show ((subTo (bitB mask) a k).length + 1) * 16 ≤ 140737488355328 by omega) ?_)
      conv => whnf
      refine ⟨a.getD k [], by simp only [Int.toNat_natCast]; rfl, ?_⟩
      conv => whnf
      repeat (first | (refine And.intro ⟨by omega, by omega⟩ ?_; conv => whnf) | (refine And.intro (by omega) (And.intro rfl ?_); conv => whnf) | (refine And.intro rfl ?_; conv => whnf) | (refine And.intro (fun _ => ⟨by omega, by omega⟩) ?_; conv => whnf) | (refine And.intro (fun _ => by omega) (And.intro rfl ?_); conv => whnf) | (refine And.intro ⟨(by first | omega | (simp; omega)), (by first | omega | (simp; omega))⟩ ?_; conv => whnf) | (refine Exists.intro _ (And.intro rfl (And.intro (by first | omega | (simp; omega)) (And.intro ⟨rfl, rfl, rfl, rfl, rfl⟩ ?_))); conv => whnf) | (refine And.intro ⟨rfl, rfl⟩ (And.intro (by first | omega | (simp; omega)) ?_); conv => whnf) | (refine Exists.intro _ (And.intro rfl ?_); conv => whnf) | (refine And.intro (fun _ => ?_) (fun h => absurd h (by decide)); conv => whnf) | (refine And.intro (fun h => absurd h (by decide)) (fun _ => ?_); conv => whnf) | (refine .quiet (by kernel_rfl) ?_; conv => whnf))
      refine up hlt trivial ((wk_of [(0, .id 2)] rfl ⟨.base (.tree _ _ rfl rfl), .base (.tree _ _ rfl rfl), (by first | exact .base (.own _ _ rfl) | exact .base (.nilown _ rfl) | exact .base (.trunc _ _ _ rfl)), .base (.tree _ _ rfl rfl), trivial⟩ ⟨⟨_, rfl, (by first | exact .row _ _ _ _ _ _ _ rfl hstep.symm | exact .lstrow _ _ _ _ _ _ _ rfl hstep.symm | exact .nilrow _ _ _ _ _ hstep.symm | exact .truncrow _ _ _ _ _ _ _ _ rfl (by omega) hstep.symm)⟩, trivial⟩))
    · have hd' : bitB mask k = false := hd
      rw [if_neg (by rw [hd']; decide), List.append_nil] at hstep
      conv => whnf
      repeat (first | (refine And.intro ⟨by omega, by omega⟩ ?_; conv => whnf) | (refine And.intro (by omega) (And.intro rfl ?_); conv => whnf) | (refine And.intro rfl ?_; conv => whnf) | (refine And.intro (fun _ => ⟨by omega, by omega⟩) ?_; conv => whnf) | (refine And.intro (fun _ => by omega) (And.intro rfl ?_); conv => whnf) | (refine And.intro ⟨(by first | omega | (simp; omega)), (by first | omega | (simp; omega))⟩ ?_; conv => whnf) | (refine Exists.intro _ (And.intro rfl (And.intro (by first | omega | (simp; omega)) (And.intro ⟨rfl, rfl, rfl, rfl, rfl⟩ ?_))); conv => whnf) | (refine And.intro ⟨rfl, rfl⟩ (And.intro (by first | omega | (simp; omega)) ?_); conv => whnf) | (refine Exists.intro _ (And.intro rfl ?_); conv => whnf) | (refine And.intro (fun _ => ?_) (fun h => absurd h (by decide)); conv => whnf) | (refine And.intro (fun h => absurd h (by decide)) (fun _ => ?_); conv => whnf) | (refine .quiet (by kernel_rfl) ?_; conv => whnf))
      refine up hlt trivial ((wk_of [(0, .id 0)] rfl ⟨.base (.tree _ _ rfl rfl), .base (.tree _ _ rfl rfl), (by first | exact .base (.own _ _ rfl) | exact .base (.nilown _ rfl) | exact .base (.trunc _ _ _ rfl)), .base (.tree _ _ rfl rfl), trivial⟩ ⟨⟨_, rfl, (by first | exact .row _ _ _ _ _ _ _ rfl hstep.symm | exact .lstrow _ _ _ _ _ _ _ rfl hstep.symm | exact .nilrow _ _ _ _ _ hstep.symm | exact .truncrow _ _ _ _ _ _ _ _ rfl (by omega) hstep.symm)⟩, trivial⟩))
  · simp only [decide_eq_false_iff_not] at hc
    have : k = a.length := by omega
    subst this
    conv => whnf
    rfl

theorem sub_lcs : ∀ (s a b : List Str), s.Sublist a → s.Sublist b → s.length ≤ lcs a b
  | s, [], b, h1, h2 => by
    cases h1
    exact Nat.zero_le _
  | s, x :: a, [], h1, h2 => by
    cases h2
    exact Nat.zero_le _
  | s, x :: a, y :: b, h1, h2 => by
    rw [lcs_cons]
    by_cases h : x = y
    · subst h
      rw [if_pos rfl]
      cases s with
      | nil => exact Nat.zero_le _
      | cons z s =>
        have t1 : s.Sublist a := by
          cases h1 with
          | cons _ h => exact (List.sublist_cons_self _ _).trans h
          | cons_cons _ h => exact h
        have t2 : s.Sublist b := by
          cases h2 with
          | cons _ h => exact (List.sublist_cons_self _ _).trans h
          | cons_cons _ h => exact h
        have := sub_lcs s a b t1 t2
        simp
        omega
    · rw [if_neg h]
      cases h1 with
      | cons _ h1 =>
        have := sub_lcs s a (y :: b) h1 h2
        omega
      | cons_cons _ h1' =>
        cases h2 with
        | cons _ h2 =>
          have := sub_lcs _ (x :: a) b (h1'.cons_cons x) h2
          omega
        | cons_cons _ h2 => exact (h rfl).elim
termination_by s a b => a.length + b.length

/-- Does a line stay? -/
def stayB (c : Chg) : Bool := decide (0 ≤ c.o) && decide (0 ≤ c.n)
def staysN (l : List Chg) : Nat := l.countP stayB
theorem stays_cons (c : Chg) (l : List Chg) : staysN (c :: l) = staysN l + if stayB c = true then 1 else 0 := by simp [staysN, List.countP_cons]
theorem stays_take {l : List Chg} {k : Nat} (h : k < l.length) : staysN (l.take (k + 1)) = staysN (l.take k) + if stayB (l.getD k c0) = true then 1 else 0 := by
  rw [staysN, take_getD (d := c0) h, List.countP_append]
  simp [staysN, List.countP_cons]

theorem cmp_stays : ∀ (a b : List Str) (i k : Int), 0 ≤ i → 0 ≤ k → changes (cmp a b i k) + 2 * staysN (cmp a b i k) = a.length + b.length
  | [], [], i, k, hi, hk => by rw [cmp_nil]; rfl
  | x :: a, [], i, k, hi, hk => by
    have := cmp_stays a [] (i + 1) k (by omega) hk
    rw [cmp_left, changes_cons, stays_cons, if_pos (by simp [chgB]), if_neg (by simp [stayB])]
    simp at this ⊢
    omega
  | [], y :: b, i, k, hi, hk => by
    have := cmp_stays [] b i (k + 1) hi (by omega)
    rw [cmp_right, changes_cons, stays_cons, if_pos (by simp [chgB]), if_neg (by simp [stayB])]
    simp at this ⊢
    omega
  | x :: a, y :: b, i, k, hi, hk => by
    have h1 := cmp_stays a b (i + 1) (k + 1) (by omega) (by omega)
    have h2 := cmp_stays a (y :: b) (i + 1) k (by omega) hk
    have h3 := cmp_stays (x :: a) b i (k + 1) hi (by omega)
    rw [cmp_both]
    simp only [List.length_cons] at h1 h2 h3 ⊢
    by_cases h : x = y
    · rw [if_pos h, changes_cons, stays_cons, if_neg (by simp [chgB]; omega), if_pos (by simp [stayB]; omega)]
      omega
    · rw [if_neg h]
      by_cases hl : lcs (x :: a) b ≤ lcs a (y :: b)
      · rw [if_pos hl, changes_cons, stays_cons, if_pos (by simp [chgB]), if_neg (by simp [stayB])]
        omega
      · rw [if_neg hl, changes_cons, stays_cons, if_pos (by simp [chgB]), if_neg (by simp [stayB])]
        omega
termination_by a b => a.length + b.length

/-- What a line of a comparison says. -/
def Fit (a b : List Str) (i k : Int) (c : Chg) : Prop :=
  (c.o = -1 ∨ (i ≤ c.o ∧ c.o < i + a.length)) ∧ (c.n = -1 ∨ (k ≤ c.n ∧ c.n < k + b.length)) ∧ (i ≤ c.o → k ≤ c.n → a.getD (c.o - i).toNat [] = b.getD (c.n - k).toNat [])

theorem cmp_fit : ∀ (a b : List Str) (i k : Int), 0 ≤ i → 0 ≤ k → ∀ c ∈ cmp a b i k, Fit a b i k c
  | [], [], i, k, hi, hk, c, hc => by rw [cmp_nil] at hc; simp at hc
  | x :: a, [], i, k, hi, hk, c, hc => by
    rw [cmp_left] at hc
    rcases List.mem_cons.1 hc with rfl | hc
    · refine ⟨.inr ⟨by simp, by simp; omega⟩, .inl rfl, fun _ h => by simp at h; omega⟩
    · obtain ⟨h1, h2, h3⟩ := cmp_fit a [] (i + 1) k (by omega) hk c hc
      refine ⟨by simp; omega, h2, fun h4 h5 => ?_⟩
      exfalso
      simp at h2
      omega
  | [], y :: b, i, k, hi, hk, c, hc => by
    rw [cmp_right] at hc
    rcases List.mem_cons.1 hc with rfl | hc
    · refine ⟨.inl rfl, .inr ⟨by simp, by simp; omega⟩, fun h => by simp at h; omega⟩
    · obtain ⟨h1, h2, h3⟩ := cmp_fit [] b i (k + 1) hi (by omega) c hc
      refine ⟨h1, by simp; omega, fun h4 h5 => ?_⟩
      exfalso
      simp at h1
      omega
  | x :: a, y :: b, i, k, hi, hk, c, hc => by
    rw [cmp_both] at hc
    by_cases h : x = y
    · rw [if_pos h] at hc
      rcases List.mem_cons.1 hc with rfl | hc
      · refine ⟨.inr ⟨by simp, by simp; omega⟩, .inr ⟨by simp, by simp; omega⟩, fun _ _ => by simp [h]⟩
      · obtain ⟨h1, h2, h3⟩ := cmp_fit a b (i + 1) (k + 1) (by omega) (by omega) c hc
        refine ⟨by simp; omega, by simp; omega, fun h4 h5 => ?_⟩
        have e1 : (c.o - i).toNat = (c.o - (i + 1)).toNat + 1 := by omega
        have e2 : (c.n - k).toNat = (c.n - (k + 1)).toNat + 1 := by omega
        rw [e1, e2]
        simpa using h3 (by omega) (by omega)
    · rw [if_neg h] at hc
      by_cases hl : lcs (x :: a) b ≤ lcs a (y :: b)
      · rw [if_pos hl] at hc
        rcases List.mem_cons.1 hc with rfl | hc
        · refine ⟨.inr ⟨by simp, by simp; omega⟩, .inl rfl, fun _ h => by simp at h; omega⟩
        · obtain ⟨h1, h2, h3⟩ := cmp_fit a (y :: b) (i + 1) k (by omega) hk c hc
          refine ⟨by simp; omega, h2, fun h4 h5 => ?_⟩
          have e1 : (c.o - i).toNat = (c.o - (i + 1)).toNat + 1 := by omega
          rw [e1]
          simpa using h3 (by omega) h5
      · rw [if_neg hl] at hc
        rcases List.mem_cons.1 hc with rfl | hc
        · refine ⟨.inl rfl, .inr ⟨by simp, by simp; omega⟩, fun h => by simp at h; omega⟩
        · obtain ⟨h1, h2, h3⟩ := cmp_fit (x :: a) b i (k + 1) hi (by omega) c hc
          refine ⟨h1, by simp; omega, fun h4 h5 => ?_⟩
          have e1 : (c.n - k).toNat = (c.n - (k + 1)).toNat + 1 := by omega
          rw [e1]
          simpa using h3 h4 (by omega)
termination_by a b => a.length + b.length

end Go.Proofs.Ytohankpncipefaa
