import Derived.Test.YtohankpncipefaaD1
namespace Go.Proofs.Ytohankpncipefaa
open Go.Own
set_option maxHeartbeats 1000000
set_option maxRecDepth 100000

theorem take_succ_eq {α : Type} [DecidableEq α] {a b : List α} {k : Nat} (d : α) (h : k < a.length) (hl : a.length = b.length) : (a.take (k + 1) = b.take (k + 1)) ↔ (a.take k = b.take k ∧ a.getD k d = b.getD k d) := by
  rw [take_getD (d := d) h, take_getD (d := d) (by omega)]
  constructor
  · intro h'
    have := List.append_inj' h' rfl
    simpa using this
  · rintro ⟨h1, h2⟩
    rw [h1, h2]

theorem texts_ok (a b : List (List UInt8)) (ha : a.length ≤ 9223372036854775807) (hb : b.length ≤ 9223372036854775807) : APureV Try.prog 10 [encSs a, encSs b] (.bool (decide (a = b))) := by
  refine apure_of (C := cx 26 [0, 1, 4, 5, 10, 14, 25]) (cxOk _ _) Try.func10 rfl (by decide) rfl (by exact Nat.le_of_ble_eq_true rfl) (by decide) ?_
  conv => whnf
  refine ⟨fun hc => ?_, fun hc => ?_⟩
  · conv => whnf
    have : decide (a = b) = false := by
      simp only [Bool.not_eq_true', decide_eq_false_iff_not] at hc ⊢
      intro h
      subst h
      exact hc rfl
    rw [this]
    rfl
  conv => whnf
  have hlen : a.length = b.length := by
    simp only [Bool.not_eq_false', decide_eq_true_eq] at hc
    omega
  refine loop_up (cxOk _ _) a.length (fun k => a.take k = b.take k) (fun k => ⟨[(0, encSs a), (1, encSs b), (5, .int .i64 k)], [], 0⟩) (by simp) (wk_of [] rfl ⟨.base (.tree _ _ rfl rfl), .base (.tree _ _ rfl rfl), .base (.tree _ _ rfl rfl), trivial⟩ trivial) ?_
  intro k hk hP
  conv => whnf
  refine ⟨fun hc => ?_, fun hc => ?_⟩
  · simp only [decide_eq_true_eq] at hc
    have hlt : k < a.length := by omega
    conv => whnf
    repeat (first | (refine And.intro ⟨by omega, by omega⟩ ?_; conv => whnf) | (refine And.intro rfl ?_; conv => whnf) | (refine And.intro (fun _ => ⟨by omega, by omega⟩) ?_; conv => whnf) | (refine And.intro ⟨(by first | omega | (simp; omega)), (by first | omega | (simp; omega))⟩ ?_; conv => whnf) | (refine Exists.intro _ (And.intro rfl (And.intro (by first | omega | (simp; omega)) (And.intro ⟨rfl, rfl, rfl, rfl, rfl⟩ ?_))); conv => whnf) | (refine And.intro ⟨rfl, rfl⟩ (And.intro (by first | omega | (simp; omega)) ?_); conv => whnf) | (refine Exists.intro _ (And.intro rfl ?_); conv => whnf) | (refine And.intro (fun _ => ?_) (fun h => absurd h (by decide)); conv => whnf) | (refine And.intro (fun h => absurd h (by decide)) (fun _ => ?_); conv => whnf) | (refine .quiet (by kernel_rfl) ?_; conv => whnf))
    refine ⟨fun hd => ?_, fun hd => ?_⟩
    · conv => whnf
      simp only [Int.toNat_natCast, Bool.not_eq_true', decide_eq_false_iff_not] at hd
      have : decide (a = b) = false := by
        rw [decide_eq_false_iff_not]
        intro h
        rw [h] at hd
        exact hd rfl
      rw [this]
      rfl
    · simp only [Int.toNat_natCast, Bool.not_eq_false', decide_eq_true_eq] at hd
      conv => whnf
      repeat (first | (refine And.intro ⟨by omega, by omega⟩ ?_; conv => whnf) | (refine And.intro rfl ?_; conv => whnf) | (refine And.intro (fun _ => ⟨by omega, by omega⟩) ?_; conv => whnf) | (refine And.intro ⟨(by first | omega | (simp; omega)), (by first | omega | (simp; omega))⟩ ?_; conv => whnf) | (refine Exists.intro _ (And.intro rfl (And.intro (by first | omega | (simp; omega)) (And.intro ⟨rfl, rfl, rfl, rfl, rfl⟩ ?_))); conv => whnf) | (refine And.intro ⟨rfl, rfl⟩ (And.intro (by first | omega | (simp; omega)) ?_); conv => whnf) | (refine Exists.intro _ (And.intro rfl ?_); conv => whnf) | (refine And.intro (fun _ => ?_) (fun h => absurd h (by decide)); conv => whnf) | (refine And.intro (fun h => absurd h (by decide)) (fun _ => ?_); conv => whnf) | (refine .quiet (by kernel_rfl) ?_; conv => whnf))
      refine up hlt ((take_succ_eq [] hlt hlen).2 ⟨hP, hd⟩) (wk_of [] rfl ⟨.base (.tree _ _ rfl rfl), .base (.tree _ _ rfl rfl), .base (.tree _ _ rfl rfl), trivial⟩ trivial)
  · simp only [decide_eq_false_iff_not] at hc
    conv => whnf
    rw [List.take_of_length_le (by omega), List.take_of_length_le (by omega)] at hP
    rw [decide_eq_true hP]
    rfl

def eqC (a b : Chg) : Bool := decide (a.o = b.o) && (decide (a.n = b.n) && true)
theorem eqC_iff {a b : Chg} : eqC a b = true ↔ a = b := by
  cases a; cases b
  simp [eqC]
instance : DecidableEq Chg := fun a b => decidable_of_iff _ (eqC_iff (a := a) (b := b))

theorem same_ok (a b : List Chg) (ha : a.length ≤ 9223372036854775807) (hb : b.length ≤ 9223372036854775807) : APureV Try.prog 14 [encCs a, encCs b] (.bool (decide (a = b))) := by
  refine apure_of (C := cx 26 [0, 1, 4, 5, 10, 14, 25]) (cxOk _ _) Try.func14 rfl (by decide) rfl (by exact Nat.le_of_ble_eq_true rfl) (by decide) ?_
  conv => whnf
  refine ⟨fun hc => ?_, fun hc => ?_⟩
  · conv => whnf
    have : decide (a = b) = false := by
      simp only [Bool.not_eq_true', decide_eq_false_iff_not] at hc ⊢
      intro h
      subst h
      exact hc rfl
    rw [this]
    rfl
  conv => whnf
  have hlen : a.length = b.length := by
    simp only [Bool.not_eq_false', decide_eq_true_eq] at hc
    omega
  refine loop_up (cxOk _ _) a.length (fun k => a.take k = b.take k) (fun k => ⟨[(0, encCs a), (1, encCs b), (5, .int .i64 k)], [], 0⟩) (by simp) (wk_of [] rfl ⟨.base (.tree _ _ rfl rfl), .base (.tree _ _ rfl rfl), .base (.tree _ _ rfl rfl), trivial⟩ trivial) ?_
  intro k hk hP
  conv => whnf
  refine ⟨fun hc => ?_, fun hc => ?_⟩
  · simp only [decide_eq_true_eq] at hc
    have hlt : k < a.length := by omega
    conv => whnf
    repeat (first | (refine And.intro ⟨by omega, by omega⟩ ?_; conv => whnf) | (refine And.intro rfl ?_; conv => whnf) | (refine And.intro (fun _ => ⟨by omega, by omega⟩) ?_; conv => whnf) | (refine And.intro ⟨(by first | omega | (simp; omega)), (by first | omega | (simp; omega))⟩ ?_; conv => whnf) | (refine Exists.intro _ (And.intro rfl (And.intro (by first | omega | (simp; omega)) (And.intro ⟨rfl, rfl, rfl, rfl, rfl⟩ ?_))); conv => whnf) | (refine And.intro ⟨rfl, rfl⟩ (And.intro (by first | omega | (simp; omega)) ?_); conv => whnf) | (refine Exists.intro _ (And.intro rfl ?_); conv => whnf) | (refine And.intro (fun _ => ?_) (fun h => absurd h (by decide)); conv => whnf) | (refine And.intro (fun h => absurd h (by decide)) (fun _ => ?_); conv => whnf) | (refine .quiet (by kernel_rfl) ?_; conv => whnf))
    refine And.intro ⟨by kernel_rfl, by kernel_rfl⟩ ?_
    conv => whnf
    refine ⟨fun hd => ?_, fun hd => ?_⟩
    · conv => whnf
      simp only [Int.toNat_natCast] at hd
      have hd' : (!eqC (a.getD k c0) (b.getD k c0)) = true := hd
      have : decide (a = b) = false := by
        rw [decide_eq_false_iff_not]
        intro h
        rw [h, eqC_iff.2 rfl] at hd'
        cases hd'
      rw [this]
      rfl
    · simp only [Int.toNat_natCast] at hd
      have hd' : (!eqC (a.getD k c0) (b.getD k c0)) = false := hd
      simp only [Bool.not_eq_false'] at hd'
      conv => whnf
      repeat (first | (refine And.intro ⟨by omega, by omega⟩ ?_; conv => whnf) | (refine And.intro rfl ?_; conv => whnf) | (refine And.intro (fun _ => ⟨by omega, by omega⟩) ?_; conv => whnf) | (refine And.intro ⟨(by first | omega | (simp; omega)), (by first | omega | (simp; omega))⟩ ?_; conv => whnf) | (refine Exists.intro _ (And.intro rfl (And.intro (by first | omega | (simp; omega)) (And.intro ⟨rfl, rfl, rfl, rfl, rfl⟩ ?_))); conv => whnf) | (refine And.intro ⟨rfl, rfl⟩ (And.intro (by first | omega | (simp; omega)) ?_); conv => whnf) | (refine Exists.intro _ (And.intro rfl ?_); conv => whnf) | (refine And.intro (fun _ => ?_) (fun h => absurd h (by decide)); conv => whnf) | (refine And.intro (fun h => absurd h (by decide)) (fun _ => ?_); conv => whnf) | (refine .quiet (by kernel_rfl) ?_; conv => whnf))
      refine up hlt ((take_succ_eq c0 hlt hlen).2 ⟨hP, eqC_iff.1 hd'⟩) (wk_of [] rfl ⟨.base (.tree _ _ rfl rfl), .base (.tree _ _ rfl rfl), .base (.tree _ _ rfl rfl), trivial⟩ trivial)
  · simp only [decide_eq_false_iff_not] at hc
    conv => whnf
    rw [List.take_of_length_le (by omega), List.take_of_length_le (by omega)] at hP
    rw [decide_eq_true hP]
    rfl

/-- Does a line change anything? -/
def chgB (c : Chg) : Bool := decide (c.o = -1) || decide (c.n = -1)
def changes (l : List Chg) : Nat := l.countP chgB
theorem changes_take {l : List Chg} {k : Nat} (h : k < l.length) : changes (l.take (k + 1)) = changes (l.take k) + if chgB (l.getD k c0) = true then 1 else 0 := by
  rw [changes, take_getD (d := c0) h, List.countP_append]
  simp [changes, List.countP_cons]

theorem changes_ok (l : List Chg) (hl : l.length ≤ 9223372036854775807) : APureV Try.prog 11 [encCs l] (.int .i64 (changes l)) := by
  refine apure_of (C := cx 28 [0, 2, 3, 4, 8, 24]) (cxOk _ _) Try.func11 rfl (by decide) rfl (by exact Nat.le_of_ble_eq_true rfl) (by decide) ?_
  conv => whnf
  refine loop_up (cxOk _ _) l.length (fun k => True) (fun k => ⟨[(0, encCs l), (3, .int .i64 (changes (l.take k))), (4, .int .i64 k)], [], 0⟩) trivial (wk_of [] rfl ⟨.base (.tree _ _ rfl rfl), .base (.tree _ _ rfl rfl), .base (.tree _ _ rfl rfl), trivial⟩ trivial) ?_
  intro k hk _
  conv => whnf
  refine ⟨fun hc => ?_, fun hc => ?_⟩
  · simp only [decide_eq_true_eq] at hc
    have hlt : k < l.length := by omega
    have hcnt : changes (l.take k) ≤ k := Nat.le_trans List.countP_le_length (by simp; omega)
    have hs := changes_take hlt
    conv => whnf
    repeat (first | (refine And.intro ⟨by omega, by omega⟩ ?_; conv => whnf) | (refine And.intro rfl ?_; conv => whnf) | (refine And.intro (fun _ => ⟨by omega, by omega⟩) ?_; conv => whnf) | (refine And.intro ⟨(by first | omega | (simp; omega)), (by first | omega | (simp; omega))⟩ ?_; conv => whnf) | (refine Exists.intro _ (And.intro rfl (And.intro (by first | omega | (simp; omega)) (And.intro ⟨rfl, rfl, rfl, rfl, rfl⟩ ?_))); conv => whnf) | (refine And.intro ⟨rfl, rfl⟩ (And.intro (by first | omega | (simp; omega)) ?_); conv => whnf) | (refine Exists.intro _ (And.intro rfl ?_); conv => whnf) | (refine And.intro (fun _ => ?_) (fun h => absurd h (by decide)); conv => whnf) | (refine And.intro (fun h => absurd h (by decide)) (fun _ => ?_); conv => whnf) | (refine .quiet (by kernel_rfl) ?_; conv => whnf))
    refine ⟨fun hd => ?_, fun hd => ?_⟩
    · simp only [Int.toNat_natCast] at hd
      have hd' : chgB (l.getD k c0) = true := hd
      rw [if_pos hd'] at hs
      conv => whnf
      repeat (first | (refine And.intro ⟨by omega, by omega⟩ ?_; conv => whnf) | (refine And.intro rfl ?_; conv => whnf) | (refine And.intro (fun _ => ⟨by omega, by omega⟩) ?_; conv => whnf) | (refine And.intro ⟨(by first | omega | (simp; omega)), (by first | omega | (simp; omega))⟩ ?_; conv => whnf) | (refine Exists.intro _ (And.intro rfl (And.intro (by first | omega | (simp; omega)) (And.intro ⟨rfl, rfl, rfl, rfl, rfl⟩ ?_))); conv => whnf) | (refine And.intro ⟨rfl, rfl⟩ (And.intro (by first | omega | (simp; omega)) ?_); conv => whnf) | (refine Exists.intro _ (And.intro rfl ?_); conv => whnf) | (refine And.intro (fun _ => ?_) (fun h => absurd h (by decide)); conv => whnf) | (refine And.intro (fun h => absurd h (by decide)) (fun _ => ?_); conv => whnf) | (refine .quiet (by kernel_rfl) ?_; conv => whnf))
      refine up hlt trivial ((wk_of [] rfl ⟨.base (.tree _ _ rfl rfl), .base (.tree _ _ (by rw [hs]; rfl) rfl), .base (.tree _ _ rfl rfl), trivial⟩ trivial))
    · simp only [Int.toNat_natCast] at hd
      have hd' : chgB (l.getD k c0) = false := hd
      rw [if_neg (by rw [hd']; decide)] at hs
      conv => whnf
      repeat (first | (refine And.intro ⟨by omega, by omega⟩ ?_; conv => whnf) | (refine And.intro rfl ?_; conv => whnf) | (refine And.intro (fun _ => ⟨by omega, by omega⟩) ?_; conv => whnf) | (refine And.intro ⟨(by first | omega | (simp; omega)), (by first | omega | (simp; omega))⟩ ?_; conv => whnf) | (refine Exists.intro _ (And.intro rfl (And.intro (by first | omega | (simp; omega)) (And.intro ⟨rfl, rfl, rfl, rfl, rfl⟩ ?_))); conv => whnf) | (refine And.intro ⟨rfl, rfl⟩ (And.intro (by first | omega | (simp; omega)) ?_); conv => whnf) | (refine Exists.intro _ (And.intro rfl ?_); conv => whnf) | (refine And.intro (fun _ => ?_) (fun h => absurd h (by decide)); conv => whnf) | (refine And.intro (fun h => absurd h (by decide)) (fun _ => ?_); conv => whnf) | (refine .quiet (by kernel_rfl) ?_; conv => whnf))
      refine up hlt trivial ((wk_of [] rfl ⟨.base (.tree _ _ rfl rfl), .base (.tree _ _ (by rw [hs]; rfl) rfl), .base (.tree _ _ rfl rfl), trivial⟩ trivial))
  · simp only [decide_eq_false_iff_not] at hc
    conv => whnf
    rw [List.take_of_length_le (by omega)]
    rfl

def fewS (l : List (List UInt8)) (n : Int) : Bool := decide ((l.length : Int) ≤ n) && l.all fun s => decide (s.length ≤ 100)
theorem fewS_ok (l : List (List UInt8)) (n : Int) (hl : l.length ≤ 9223372036854775807) (h0 : 0 ≤ n) (hn : n ≤ 1000) : APureV Try.prog 13 [encSs l, .int .i64 n] (.bool (fewS l n)) := by
  refine apure_of (C := cx 27 [0, 1, 4, 5, 14, 22]) (cxOk _ _) Try.func13 rfl (by decide) rfl (by exact Nat.le_of_ble_eq_true rfl) (by decide) ?_
  conv => whnf
  refine loop_up (cxOk _ _) l.length (fun k => (k : Int) ≤ n + 1 ∧ ∀ i < k, (l.getD i []).length ≤ 100) (fun k => ⟨[(0, encSs l), (1, .int .i64 n), (5, .int .i64 k)], [], 0⟩) ⟨by omega, fun i hi => by omega⟩ (wk_of [] rfl ⟨.base (.tree _ _ rfl rfl), .base (.tree _ _ rfl rfl), .base (.tree _ _ rfl rfl), trivial⟩ trivial) ?_
  rintro k hk ⟨hkn, hall⟩
  conv => whnf
  refine ⟨fun hc => ?_, fun hc => ?_⟩
  · simp only [Bool.and_eq_true, decide_eq_true_eq] at hc
    have hlt : k < l.length := by omega
    conv => whnf
    repeat (first | (refine And.intro ⟨by omega, by omega⟩ ?_; conv => whnf) | (refine And.intro rfl ?_; conv => whnf) | (refine And.intro (fun _ => ⟨by omega, by omega⟩) ?_; conv => whnf) | (refine And.intro ⟨(by first | omega | (simp; omega)), (by first | omega | (simp; omega))⟩ ?_; conv => whnf) | (refine Exists.intro _ (And.intro rfl (And.intro (by first | omega | (simp; omega)) (And.intro ⟨rfl, rfl, rfl, rfl, rfl⟩ ?_))); conv => whnf) | (refine And.intro ⟨rfl, rfl⟩ (And.intro (by first | omega | (simp; omega)) ?_); conv => whnf) | (refine Exists.intro _ (And.intro rfl ?_); conv => whnf) | (refine And.intro (fun _ => ?_) (fun h => absurd h (by decide)); conv => whnf) | (refine And.intro (fun h => absurd h (by decide)) (fun _ => ?_); conv => whnf) | (refine .quiet (by kernel_rfl) ?_; conv => whnf))
    refine ⟨fun hd => ?_, fun hd => ?_⟩
    · conv => whnf
      simp only [Int.toNat_natCast, decide_eq_true_eq] at hd
      have : fewS l n = false := by
        cases h : fewS l n with
        | false => rfl
        | true =>
          simp only [fewS, Bool.and_eq_true, List.all_eq_true, decide_eq_true_eq] at h
          have := h.2 _ (getD_mem (d := []) hlt)
          omega
      rw [this]
      rfl
    · simp only [Int.toNat_natCast, decide_eq_false_iff_not] at hd
      conv => whnf
      repeat (first | (refine And.intro ⟨by omega, by omega⟩ ?_; conv => whnf) | (refine And.intro rfl ?_; conv => whnf) | (refine And.intro (fun _ => ⟨by omega, by omega⟩) ?_; conv => whnf) | (refine And.intro ⟨(by first | omega | (simp; omega)), (by first | omega | (simp; omega))⟩ ?_; conv => whnf) | (refine Exists.intro _ (And.intro rfl (And.intro (by first | omega | (simp; omega)) (And.intro ⟨rfl, rfl, rfl, rfl, rfl⟩ ?_))); conv => whnf) | (refine And.intro ⟨rfl, rfl⟩ (And.intro (by first | omega | (simp; omega)) ?_); conv => whnf) | (refine Exists.intro _ (And.intro rfl ?_); conv => whnf) | (refine And.intro (fun _ => ?_) (fun h => absurd h (by decide)); conv => whnf) | (refine And.intro (fun h => absurd h (by decide)) (fun _ => ?_); conv => whnf) | (refine .quiet (by kernel_rfl) ?_; conv => whnf))
      refine up hlt ⟨by omega, fun i hi => ?_⟩ (wk_of [] rfl ⟨.base (.tree _ _ rfl rfl), .base (.tree _ _ rfl rfl), .base (.tree _ _ rfl rfl), trivial⟩ trivial)
      by_cases e : i = k
      · subst e; omega
      · exact hall i (by omega)
  · conv => whnf
    simp only [Bool.and_eq_false_iff, decide_eq_false_iff_not] at hc
    have : fewS l n = decide ((l.length : Int) ≤ n) := by
      by_cases h : (l.length : Int) ≤ n
      · have hkl : k = l.length := by omega
        have : (l.all fun s => decide (s.length ≤ 100)) = true := by
          simp only [List.all_eq_true, decide_eq_true_eq]
          intro f hf
          obtain ⟨i, hi, rfl⟩ := mem_getD (d := []) hf
          exact hall i (by omega)
        simp [fewS, h, this]
      · simp [fewS, h]
    rw [this]
    rfl

def few2 (a b : List (List UInt8)) : Bool := fewS a 30 && fewS b 30
theorem few_ok (a b : List (List UInt8)) (ha : a.length ≤ 9223372036854775807) (hb : b.length ≤ 9223372036854775807) : APureV Try.prog 7 [encSs a, encSs b] (.bool (few2 a b)) := by
  refine apure_of (C := cx 11 [0, 1, 4]) (cxOk _ _) Try.func7 rfl (by decide) rfl (by exact Nat.le_of_ble_eq_true rfl) (by decide) ?_
  conv => whnf
  refine .one _ _ _ (fun _ => fewS_ok a 30 ha (by decide) (by decide)) (by repeat (first | exact .nil | (apply BorL.cons; first | exact lS rfl | exact lR rfl | exact lM rfl rfl | exact lL rfl | exact lX rfl | exact lN | exact lNl | exact lSm rfl | exact lIm rfl | exact lP rfl | exact lQ rfl))) (by first | exact .inl rfl | exact .inr (by repeat (first | exact flats_nil | refine flats_cons (by first | exact flat_val _ rfl | exact flat_row (fun _ => rfl) | exact flat_lst (fun _ => rfl)) ?_))) (by first | exact .inl rfl | exact .inr rfl) ?_
  conv => whnf
  refine .one _ _ _ (fun _ => fewS_ok b 30 hb (by decide) (by decide)) (by repeat (first | exact .nil | (apply BorL.cons; first | exact lS rfl | exact lR rfl | exact lM rfl rfl | exact lL rfl | exact lX rfl | exact lN | exact lNl | exact lSm rfl | exact lIm rfl | exact lP rfl | exact lQ rfl))) (by first | exact .inl rfl | exact .inr (by repeat (first | exact flats_nil | refine flats_cons (by first | exact flat_val _ rfl | exact flat_row (fun _ => rfl) | exact flat_lst (fun _ => rfl)) ?_))) (by first | exact .inl rfl | exact .inr rfl) ?_
  conv => whnf
  rfl

theorem clone_ok (l : List (List UInt8)) (hl : l.length ≤ 1000000) : APure Try.prog 17 [encSs l] (fun rs => rs = [.new (.row 9 1 encS [] l)]) := by
  have h : APure Try.prog 17 [encSs l] (fun rs => rs = [.new (.row 9 1 encS [] l)] ∨ l = [] ∧ rs = [.val .nils]) := by
    refine apure_of (C := cx 8 [0, 2, 4]) (cxOk _ _) Try.func17 rfl (by decide) rfl (by exact Nat.le_of_ble_eq_true rfl) (by decide) ?_
    conv => whnf
    intro b hb
    conv => whnf
    refine ⟨fun hc => ?_, fun hc => ?_⟩
    · conv => whnf
      exact .inr ⟨hb hc, rfl⟩
    · conv => whnf
      refine And.intro rfl ?_
      conv => whnf
      refine ⟨⟨rfl, rfl⟩, (show (0 + l.length) * 16 ≤ 140737488355328 by omega), ?_⟩
      conv => whnf
      exact .inl rfl
  refine h.le fun rs hrs => ?_
  rcases hrs with rfl | ⟨rfl, rfl⟩
  · exact ⟨_, rfl, rfl, fun j r r' h1 h2 => by
      cases j with
      | zero => simp at h1 h2; subst h1; subst h2; exact .same _
      | succ j => simp at h1⟩
  · exact ⟨_, rfl, rfl, fun j r r' h1 h2 => by
      cases j with
      | zero => simp at h1 h2; subst h1; subst h2; exact .nil _ _ _ _
      | succ j => simp at h1⟩
end Go.Proofs.Ytohankpncipefaa
