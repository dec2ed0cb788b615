import Derived.Test.YtohankpncipefaaD4
namespace Go.Proofs.Ytohankpncipefaa
open Go.Own
set_option maxHeartbeats 1000000
set_option maxRecDepth 100000

/-- A line that does not fit at the places i and k. -/
def bad1 (c : Chg) (i k la lb : Int) : Bool :=
  ((decide (c.o = -1) && decide (c.n = -1)) || (!decide (c.o = -1) && (!decide (c.o = i) || decide (i = la)))) || (!decide (c.n = -1) && (!decide (c.n = k) || decide (k = lb)))
def bad2 (c : Chg) (x y : Str) : Bool := (!decide (c.o = -1) && !decide (c.n = -1)) && !decide (x = y)
def mv (n : Int) (i : Nat) : Nat := if n = -1 then i else i + 1

theorem mv_move {n : Int} {i : Nat} (h : ¬ n = -1) : i + 1 = mv n i := by rw [mv, if_neg h]
theorem mv_stay {n : Int} {i : Nat} (h : n = -1) : i = mv n i := by rw [mv, if_pos h]

/-- Is it a comparison, from the places i and k on? -/
def okL (a b : List Str) : Nat → Nat → List Chg → Bool
  | i, k, [] => decide (i = a.length) && decide (k = b.length)
  | i, k, c :: l => !bad1 c i k a.length b.length && !bad2 c (a.getD i []) (b.getD k []) && okL a b (mv c.o i) (mv c.n k) l

def applyRs (a b : List Str) (l : List Chg) : List AR := if okL a b 0 0 l = true then [.new (.row 9 1 encS [] b), .val (.int .i64 0)] else [.val .nils, .val (.int .i64 24)]

theorem bad1_false {c : Chg} {i k la lb : Int} (h : bad1 c i k la lb = false) : (c.o ≠ -1 → i ≠ la) ∧ (c.n ≠ -1 → k ≠ lb) := by
  simp only [bad1, Bool.or_eq_false_iff, Bool.and_eq_false_iff, Bool.not_eq_false', decide_eq_true_eq, decide_eq_false_iff_not] at h
  exact ⟨fun ho => by rcases h.1.2 with h | h; exact (ho h).elim; exact h.2, fun ho => by rcases h.2 with h | h; exact (ho h).elim; exact h.2⟩

theorem apply_ok (a b : List Str) (l : List Chg) (ha : a.length ≤ 1000) (hb : b.length ≤ 1000) (hl : l.length ≤ 9223372036854775807) : APure Try.prog 9 [encSs a, encSs b, encCs l] (fun rs => rs = applyRs a b l) := by
  refine apure_of (C := cx 102 [0, 1, 2, 6, 7, 8, 9, 11, 12, 13, 14, 15, 59, 78, 81, 86, 99]) (cxOk _ _) Try.func9 rfl (by decide) rfl (by exact Nat.le_of_ble_eq_true rfl) (by decide) ?_
  conv => whnf
  refine loop_inv (cxOk _ _) (σ := Nat × Nat × Nat) (fun s => s.1 ≤ a.length ∧ s.2.1 ≤ b.length ∧ s.2.2 ≤ l.length ∧ okL a b 0 0 l = okL a b s.1 s.2.1 (l.drop s.2.2)) (fun s => l.length - s.2.2) (fun s => ⟨[(0, encSs a), (1, encSs b), (8, .int .i64 ((s.1) : Nat)), (9, .int .i64 ((s.2.1) : Nat)), (12, encCs l), (13, .int .i64 l.length), (14, .int .i64 ((s.2.2) : Nat))], [], 0⟩) (0, 0, 0) ⟨Nat.zero_le _, Nat.zero_le _, Nat.zero_le _, by simp⟩ (wk_of [] rfl ⟨.base (.tree _ _ rfl rfl), .base (.tree _ _ rfl rfl), .base (.tree _ _ rfl rfl), .base (.tree _ _ rfl rfl), .base (.tree _ _ rfl rfl), .base (.tree _ _ rfl rfl), .base (.tree _ _ rfl rfl), trivial⟩ trivial) ?_
  rintro ⟨i, k, j⟩ ⟨hi, hk, hj, hP⟩
  simp only at hi hk hj hP
  show evCode _ _ (⟨[(0, encSs a), (1, encSs b), (8, .int .i64 (i : Nat)), (9, .int .i64 (k : Nat)), (12, encCs l), (13, .int .i64 l.length), (14, .int .i64 (j : Nat))], [], 0⟩) _
  conv => whnf
  refine ⟨fun hc => ?_, fun hc => ?_⟩
  · simp only [decide_eq_true_eq] at hc
    have hlt : j < l.length := by omega
    rw [drop_getD c0 hlt, okL] at hP
    conv => whnf
    repeat (first | (refine And.intro ⟨by omega, by omega⟩ ?_; conv => whnf) | (refine And.intro rfl ?_; conv => whnf) | (refine And.intro (fun _ => ⟨by omega, by omega⟩) ?_; conv => whnf) | (refine And.intro ⟨(by first | omega | (simp; omega)), (by first | omega | (simp; omega))⟩ ?_; conv => whnf) | (refine Exists.intro _ (And.intro rfl (And.intro (by first | omega | (simp; omega)) (And.intro ⟨rfl, rfl, rfl, rfl, rfl⟩ ?_))); conv => whnf) | (refine And.intro ⟨rfl, rfl⟩ (And.intro (by first | omega | (simp; omega)) ?_); conv => whnf) | (refine Exists.intro _ (And.intro rfl ?_); conv => whnf) | (refine And.intro (fun _ => ?_) (fun h => absurd h (by decide)); conv => whnf) | (refine And.intro (fun h => absurd h (by decide)) (fun _ => ?_); conv => whnf) | (refine .quiet (by kernel_rfl) ?_; conv => whnf))
    refine ⟨fun hd => ?_, fun hd => ?_⟩
    · simp only [Int.toNat_natCast] at hd
      have hd' : bad1 (l.getD j c0) i k a.length b.length = true := hd
      rw [hd'] at hP
      conv => whnf
      rw [applyRs, if_neg (by rw [hP]; simp)]
      rfl
    simp only [Int.toNat_natCast] at hd
    have hd' : bad1 (l.getD j c0) i k a.length b.length = false := hd
    obtain ⟨hb1, hb2⟩ := bad1_false hd'
    rw [hd'] at hP
    conv => whnf
    refine .quiet (by kernel_rfl) ?_
    conv => whnf
    refine And.intro (fun hg => ?_) ?_
    · have := guard_true hg
      simp only [Int.toNat_natCast, Bool.and_eq_true, Bool.not_eq_true', decide_eq_false_iff_not] at this
      have := hb1 this.1
      constructor <;> omega
    conv => whnf
    repeat (first | (refine And.intro ⟨by omega, by omega⟩ ?_; conv => whnf) | (refine And.intro rfl ?_; conv => whnf) | (refine And.intro (fun _ => ⟨by omega, by omega⟩) ?_; conv => whnf) | (refine And.intro ⟨(by first | omega | (simp; omega)), (by first | omega | (simp; omega))⟩ ?_; conv => whnf) | (refine Exists.intro _ (And.intro rfl (And.intro (by first | omega | (simp; omega)) (And.intro ⟨rfl, rfl, rfl, rfl, rfl⟩ ?_))); conv => whnf) | (refine And.intro ⟨rfl, rfl⟩ (And.intro (by first | omega | (simp; omega)) ?_); conv => whnf) | (refine Exists.intro _ (And.intro rfl ?_); conv => whnf) | (refine And.intro (fun _ => ?_) (fun h => absurd h (by decide)); conv => whnf) | (refine And.intro (fun h => absurd h (by decide)) (fun _ => ?_); conv => whnf) | (refine .quiet (by kernel_rfl) ?_; conv => whnf))
    refine And.intro (fun hg => ?_) ?_
    · have := guard_true hg
      simp only [Int.toNat_natCast, Bool.and_eq_true, Bool.not_eq_true', decide_eq_false_iff_not] at this
      have := hb2 this.2
      constructor <;> omega
    conv => whnf
    repeat (first | (refine And.intro ⟨by omega, by omega⟩ ?_; conv => whnf) | (refine And.intro rfl ?_; conv => whnf) | (refine And.intro (fun _ => ⟨by omega, by omega⟩) ?_; conv => whnf) | (refine And.intro ⟨(by first | omega | (simp; omega)), (by first | omega | (simp; omega))⟩ ?_; conv => whnf) | (refine Exists.intro _ (And.intro rfl (And.intro (by first | omega | (simp; omega)) (And.intro ⟨rfl, rfl, rfl, rfl, rfl⟩ ?_))); conv => whnf) | (refine And.intro ⟨rfl, rfl⟩ (And.intro (by first | omega | (simp; omega)) ?_); conv => whnf) | (refine Exists.intro _ (And.intro rfl ?_); conv => whnf) | (refine And.intro (fun _ => ?_) (fun h => absurd h (by decide)); conv => whnf) | (refine And.intro (fun h => absurd h (by decide)) (fun _ => ?_); conv => whnf) | (refine .quiet (by kernel_rfl) ?_; conv => whnf))
    refine ⟨fun he => ?_, fun he => ?_⟩
    · simp only [Int.toNat_natCast] at he
      have he' : bad2 (l.getD j c0) (a.getD i []) (b.getD k []) = true := he
      rw [he'] at hP
      conv => whnf
      rw [applyRs, if_neg (by rw [hP]; simp)]
      rfl
    simp only [Int.toNat_natCast] at he
    have he' : bad2 (l.getD j c0) (a.getD i []) (b.getD k []) = false := he
    rw [he'] at hP
    conv => whnf
    have fin : ∀ (i' k' : Nat), i' = mv (l.getD j c0).o i → k' = mv (l.getD j c0).n k → okL a b 0 0 l = okL a b i' k' (l.drop (j + 1)) := by
      intro i' k' e1 e2
      rw [hP, e1, e2]
      rfl
    refine ⟨fun h1 => ?_, fun h1 => ?_⟩
    · simp only [Int.toNat_natCast, Bool.not_eq_true', decide_eq_false_iff_not] at h1
      have := hb1 h1
      conv => whnf
      repeat (first | (refine And.intro ⟨by omega, by omega⟩ ?_; conv => whnf) | (refine And.intro rfl ?_; conv => whnf) | (refine And.intro (fun _ => ⟨by omega, by omega⟩) ?_; conv => whnf) | (refine And.intro ⟨(by first | omega | (simp; omega)), (by first | omega | (simp; omega))⟩ ?_; conv => whnf) | (refine Exists.intro _ (And.intro rfl (And.intro (by first | omega | (simp; omega)) (And.intro ⟨rfl, rfl, rfl, rfl, rfl⟩ ?_))); conv => whnf) | (refine And.intro ⟨rfl, rfl⟩ (And.intro (by first | omega | (simp; omega)) ?_); conv => whnf) | (refine Exists.intro _ (And.intro rfl ?_); conv => whnf) | (refine And.intro (fun _ => ?_) (fun h => absurd h (by decide)); conv => whnf) | (refine And.intro (fun h => absurd h (by decide)) (fun _ => ?_); conv => whnf) | (refine .quiet (by kernel_rfl) ?_; conv => whnf))
      refine ⟨fun h2 => ?_, fun h2 => ?_⟩
      · simp only [Int.toNat_natCast, Bool.not_eq_true', decide_eq_false_iff_not] at h2
        have := hb2 h2
        conv => whnf
        repeat (first | (refine And.intro ⟨by omega, by omega⟩ ?_; conv => whnf) | (refine And.intro rfl ?_; conv => whnf) | (refine And.intro (fun _ => ⟨by omega, by omega⟩) ?_; conv => whnf) | (refine And.intro ⟨(by first | omega | (simp; omega)), (by first | omega | (simp; omega))⟩ ?_; conv => whnf) | (refine Exists.intro _ (And.intro rfl (And.intro (by first | omega | (simp; omega)) (And.intro ⟨rfl, rfl, rfl, rfl, rfl⟩ ?_))); conv => whnf) | (refine And.intro ⟨rfl, rfl⟩ (And.intro (by first | omega | (simp; omega)) ?_); conv => whnf) | (refine Exists.intro _ (And.intro rfl ?_); conv => whnf) | (refine And.intro (fun _ => ?_) (fun h => absurd h (by decide)); conv => whnf) | (refine And.intro (fun h => absurd h (by decide)) (fun _ => ?_); conv => whnf) | (refine .quiet (by kernel_rfl) ?_; conv => whnf))
        refine ⟨(i + 1, k + 1, j + 1), ⟨by show i + 1 ≤ a.length; omega, by show k + 1 ≤ b.length; omega, hlt, fin _ _ (mv_move h1) (mv_move h2)⟩, by show l.length - (j + 1) < l.length - j; omega, (wk_of [] rfl ⟨.base (.tree _ _ rfl rfl), .base (.tree _ _ rfl rfl), .base (.tree _ _ rfl rfl), .base (.tree _ _ rfl rfl), .base (.tree _ _ rfl rfl), .base (.tree _ _ rfl rfl), .base (.tree _ _ rfl rfl), trivial⟩ trivial)⟩
      · simp only [Int.toNat_natCast, Bool.not_eq_false', decide_eq_true_eq] at h2
        conv => whnf
        repeat (first | (refine And.intro ⟨by omega, by omega⟩ ?_; conv => whnf) | (refine And.intro rfl ?_; conv => whnf) | (refine And.intro (fun _ => ⟨by omega, by omega⟩) ?_; conv => whnf) | (refine And.intro ⟨(by first | omega | (simp; omega)), (by first | omega | (simp; omega))⟩ ?_; conv => whnf) | (refine Exists.intro _ (And.intro rfl (And.intro (by first | omega | (simp; omega)) (And.intro ⟨rfl, rfl, rfl, rfl, rfl⟩ ?_))); conv => whnf) | (refine And.intro ⟨rfl, rfl⟩ (And.intro (by first | omega | (simp; omega)) ?_); conv => whnf) | (refine Exists.intro _ (And.intro rfl ?_); conv => whnf) | (refine And.intro (fun _ => ?_) (fun h => absurd h (by decide)); conv => whnf) | (refine And.intro (fun h => absurd h (by decide)) (fun _ => ?_); conv => whnf) | (refine .quiet (by kernel_rfl) ?_; conv => whnf))
        refine ⟨(i + 1, k, j + 1), ⟨by show i + 1 ≤ a.length; omega, hk, hlt, fin _ _ (mv_move h1) (mv_stay h2)⟩, by show l.length - (j + 1) < l.length - j; omega, (wk_of [] rfl ⟨.base (.tree _ _ rfl rfl), .base (.tree _ _ rfl rfl), .base (.tree _ _ rfl rfl), .base (.tree _ _ rfl rfl), .base (.tree _ _ rfl rfl), .base (.tree _ _ rfl rfl), .base (.tree _ _ rfl rfl), trivial⟩ trivial)⟩
    · simp only [Int.toNat_natCast, Bool.not_eq_false', decide_eq_true_eq] at h1
      conv => whnf
      refine ⟨fun h2 => ?_, fun h2 => ?_⟩
      · simp only [Int.toNat_natCast, Bool.not_eq_true', decide_eq_false_iff_not] at h2
        have := hb2 h2
        conv => whnf
        repeat (first | (refine And.intro ⟨by omega, by omega⟩ ?_; conv => whnf) | (refine And.intro rfl ?_; conv => whnf) | (refine And.intro (fun _ => ⟨by omega, by omega⟩) ?_; conv => whnf) | (refine And.intro ⟨(by first | omega | (simp; omega)), (by first | omega | (simp; omega))⟩ ?_; conv => whnf) | (refine Exists.intro _ (And.intro rfl (And.intro (by first | omega | (simp; omega)) (And.intro ⟨rfl, rfl, rfl, rfl, rfl⟩ ?_))); conv => whnf) | (refine And.intro ⟨rfl, rfl⟩ (And.intro (by first | omega | (simp; omega)) ?_); conv => whnf) | (refine Exists.intro _ (And.intro rfl ?_); conv => whnf) | (refine And.intro (fun _ => ?_) (fun h => absurd h (by decide)); conv => whnf) | (refine And.intro (fun h => absurd h (by decide)) (fun _ => ?_); conv => whnf) | (refine .quiet (by kernel_rfl) ?_; conv => whnf))
        refine ⟨(i, k + 1, j + 1), ⟨hi, by show k + 1 ≤ b.length; omega, hlt, fin _ _ (mv_stay h1) (mv_move h2)⟩, by show l.length - (j + 1) < l.length - j; omega, (wk_of [] rfl ⟨.base (.tree _ _ rfl rfl), .base (.tree _ _ rfl rfl), .base (.tree _ _ rfl rfl), .base (.tree _ _ rfl rfl), .base (.tree _ _ rfl rfl), .base (.tree _ _ rfl rfl), .base (.tree _ _ rfl rfl), trivial⟩ trivial)⟩
      · simp only [Int.toNat_natCast, Bool.not_eq_false', decide_eq_true_eq] at h2
        conv => whnf
        repeat (first | (refine And.intro ⟨by omega, by omega⟩ ?_; conv => whnf) | (refine And.intro rfl ?_; conv => whnf) | (refine And.intro (fun _ => ⟨by omega, by omega⟩) ?_; conv => whnf) | (refine And.intro ⟨(by first | omega | (simp; omega)), (by first | omega | (simp; omega))⟩ ?_; conv => whnf) | (refine Exists.intro _ (And.intro rfl (And.intro (by first | omega | (simp; omega)) (And.intro ⟨rfl, rfl, rfl, rfl, rfl⟩ ?_))); conv => whnf) | (refine And.intro ⟨rfl, rfl⟩ (And.intro (by first | omega | (simp; omega)) ?_); conv => whnf) | (refine Exists.intro _ (And.intro rfl ?_); conv => whnf) | (refine And.intro (fun _ => ?_) (fun h => absurd h (by decide)); conv => whnf) | (refine And.intro (fun h => absurd h (by decide)) (fun _ => ?_); conv => whnf) | (refine .quiet (by kernel_rfl) ?_; conv => whnf))
        refine ⟨(i, k, j + 1), ⟨hi, hk, hlt, fin _ _ (mv_stay h1) (mv_stay h2)⟩, by show l.length - (j + 1) < l.length - j; omega, (wk_of [] rfl ⟨.base (.tree _ _ rfl rfl), .base (.tree _ _ rfl rfl), .base (.tree _ _ rfl rfl), .base (.tree _ _ rfl rfl), .base (.tree _ _ rfl rfl), .base (.tree _ _ rfl rfl), .base (.tree _ _ rfl rfl), trivial⟩ trivial)⟩
  · simp only [decide_eq_false_iff_not] at hc
    rw [List.drop_eq_nil_of_le (by omega), okL] at hP
    conv => whnf
    refine ⟨fun hd => ?_, fun hd => ?_⟩
    · simp only [Bool.or_eq_true, decide_eq_true_eq] at hd
      conv => whnf
      rw [applyRs, if_neg (by rw [hP]; simp; omega)]
      rfl
    · simp only [Bool.or_eq_false_iff, decide_eq_false_iff_not] at hd
      conv => whnf
      refine .one _ _ _ (fun _ => clone_ok b (by omega)) (by repeat (first | exact .nil | (apply BorL.cons; first | exact lS rfl | exact lR rfl | exact lM rfl rfl | exact lL rfl | exact lX rfl | exact lN | exact lNl | exact lSm rfl | exact lIm rfl | exact lP rfl | exact lQ rfl))) (by first | exact .inl rfl | exact .inr (by repeat (first | exact flats_nil | refine flats_cons (by first | exact flat_val _ rfl | exact flat_row (fun _ => rfl) | exact flat_lst (fun _ => rfl)) ?_))) (by first | exact .inl rfl | exact .inr rfl) ?_
      conv => whnf
      rw [applyRs, if_pos (by rw [hP]; simp; omega)]
      rfl

end Go.Proofs.Ytohankpncipefaa
