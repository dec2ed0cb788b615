import Derived.Test.YtohankpncipefaaD3
namespace Go.Proofs.Ytohankpncipefaa
open Go.Own
set_option maxHeartbeats 1000000
set_option maxRecDepth 100000

/-- The lines of a comparison, from the places i and k on. -/
def cmp : List Str → List Str → Int → Int → List Chg
  | [], [], _, _ => []
  | _ :: a, [], i, k => ⟨i, -1⟩ :: cmp a [] (i + 1) k
  | [], _ :: b, i, k => ⟨-1, k⟩ :: cmp [] b i (k + 1)
  | x :: a, y :: b, i, k => if x = y then ⟨i, k⟩ :: cmp a b (i + 1) (k + 1)
    else if lcs (x :: a) b ≤ lcs a (y :: b) then ⟨i, -1⟩ :: cmp a (y :: b) (i + 1) k else ⟨-1, k⟩ :: cmp (x :: a) b i (k + 1)
termination_by a b => a.length + b.length

theorem cmp_nil (i k : Int) : cmp [] [] i k = [] := by rw [cmp]
theorem cmp_left (x : Str) (a : List Str) (i k : Int) : cmp (x :: a) [] i k = ⟨i, -1⟩ :: cmp a [] (i + 1) k := by rw [cmp]
theorem cmp_right (y : Str) (b : List Str) (i k : Int) : cmp [] (y :: b) i k = ⟨-1, k⟩ :: cmp [] b i (k + 1) := by rw [cmp]
theorem cmp_both (x y : Str) (a b : List Str) (i k : Int) : cmp (x :: a) (y :: b) i k = if x = y then ⟨i, k⟩ :: cmp a b (i + 1) (k + 1)
    else if lcs (x :: a) b ≤ lcs a (y :: b) then ⟨i, -1⟩ :: cmp a (y :: b) (i + 1) k else ⟨-1, k⟩ :: cmp (x :: a) b i (k + 1) := by rw [cmp]

theorem cmp_len : ∀ (a b : List Str) (i k : Int), (cmp a b i k).length ≤ a.length + b.length
  | [], [], i, k => by rw [cmp_nil]; simp
  | x :: a, [], i, k => by
    have := cmp_len a [] (i + 1) k
    rw [cmp_left]
    simp at this ⊢
    omega
  | [], y :: b, i, k => by
    have := cmp_len [] b i (k + 1)
    rw [cmp_right]
    simp at this ⊢
    omega
  | x :: a, y :: b, i, k => by
    have h1 := cmp_len a b (i + 1) (k + 1)
    have h2 := cmp_len a (y :: b) (i + 1) k
    have h3 := cmp_len (x :: a) b i (k + 1)
    rw [cmp_both]
    simp only [List.length_cons] at h1 h2 h3 ⊢
    split
    · simp; omega
    · split <;> simp <;> omega
termination_by a b => a.length + b.length

def compareL (a b : List Str) : List Chg := cmp a b 0 0

theorem compare_ok (a b : List Str) (ha : a.length ≤ 200) (hb : b.length ≤ 200) : APure Try.prog 8 [encSs a, encSs b] (fun rs => rs = [.new (.row 35 2 encC c0 (compareL a b))]) := by
  refine apure_of (C := cx 99 [0, 1, 4, 5, 6, 7, 8, 14, 27, 35, 55, 79, 90]) (cxOk _ _) Try.func8 rfl (by decide) rfl (by exact Nat.le_of_ble_eq_true rfl) (by decide) ?_
  conv => whnf
  refine ⟨fun hc => ?_, fun hc => ?_⟩
  · exfalso
    simp only [decide_eq_true_eq] at hc
    omega
  conv => whnf
  refine .any _ _ _ ⟨rfl, rfl⟩ (stays_ok a b ha hb) (by repeat (first | exact .nil | (apply BorL.cons; first | exact lS rfl | exact lR rfl | exact lM rfl rfl | exact lL rfl | exact lX rfl | exact lN | exact lNl | exact lSm rfl | exact lIm rfl | exact lP rfl | exact lQ rfl))) (by first | exact .inl rfl | exact .inr (by repeat (first | exact flats_nil | refine flats_cons (by first | exact flat_val _ rfl | exact flat_row (fun _ => rfl) | exact flat_lst (fun _ => rfl)) ?_))) ?_
  rintro rs ⟨f, hf, rfl⟩
  conv => whnf
  repeat (first | (refine And.intro ⟨by omega, by omega⟩ ?_; conv => whnf) | (refine And.intro rfl ?_; conv => whnf) | (refine And.intro (fun _ => ⟨by omega, by omega⟩) ?_; conv => whnf) | (refine And.intro ⟨(by first | omega | (simp; omega)), (by first | omega | (simp; omega))⟩ ?_; conv => whnf) | (refine Exists.intro _ (And.intro rfl (And.intro (by first | omega | (simp; omega)) (And.intro ⟨rfl, rfl, rfl, rfl, rfl⟩ ?_))); conv => whnf) | (refine And.intro ⟨rfl, rfl⟩ (And.intro (by first | omega | (simp; omega)) ?_); conv => whnf) | (refine Exists.intro _ (And.intro rfl ?_); conv => whnf) | (refine And.intro (fun _ => ?_) (fun h => absurd h (by decide)); conv => whnf) | (refine And.intro (fun h => absurd h (by decide)) (fun _ => ?_); conv => whnf) | (refine .quiet (by kernel_rfl) ?_; conv => whnf))
  have stepA : ∀ {xs : List Chg} {c : Chg} {i k i' k' : Nat} {t : List Chg}, xs ++ cmp (a.drop i) (b.drop k) i k = compareL a b → cmp (a.drop i) (b.drop k) i k = c :: t → t = cmp (a.drop i') (b.drop k') i' k' → (xs ++ [c]) ++ cmp (a.drop i') (b.drop k') i' k' = compareL a b := by
    intro xs c i k i' k' t h h1 h2
    rw [← h, h1, ← h2]
    simp
  refine loop_inv (cxOk _ _) (σ := Nat × Nat × List Chg) (fun s => (s.1 ≤ a.length ∧ s.2.1 ≤ b.length) ∧ s.2.2.length ≤ s.1 + s.2.1 ∧ s.2.2 ++ cmp (a.drop s.1) (b.drop s.2.1) s.1 s.2.1 = compareL a b) (fun s => a.length + b.length - s.1 - s.2.1) (fun s => ⟨[(0, encSs a), (1, encSs b), (5, .ptr 0 0), (6, .own 1), (7, .int .i64 ((s.1) : Nat)), (8, .int .i64 ((s.2.1) : Nat))], [(0, .arr 50 .i64 40401 f), (1, .row 35 2 encC c0 (s.2.2))], 2⟩) (0, 0, []) ⟨⟨Nat.zero_le _, Nat.zero_le _⟩, by simp, by simp [compareL]⟩ ((wk_of [(0, .id 0), (1, .nil)] rfl ⟨.base (.tree _ _ rfl rfl), .base (.tree _ _ rfl rfl), .base (.ptr _ _ _ rfl), (by first | exact .base (.own _ _ rfl) | exact .base (.nilown _ rfl) | exact .base (.trunc _ _ _ rfl)), .base (.tree _ _ rfl rfl), .base (.tree _ _ rfl rfl), trivial⟩ ⟨⟨_, rfl, .arr _ _ _ _ _ _ rfl (fun _ _ => rfl)⟩, ⟨_, rfl, (by first | exact .row _ _ _ _ _ _ _ rfl rfl | exact .lstrow _ _ _ _ _ _ _ rfl rfl | exact .nilrow _ _ _ _ _ rfl | exact .truncrow _ _ _ _ _ _ _ _ rfl (by omega) rfl)⟩, trivial⟩)) ?_
  rintro ⟨i, k, xs⟩ ⟨⟨hi, hk⟩, hlen, hxs⟩
  simp only at hi hk hlen hxs
  show evCode _ _ (⟨[(0, encSs a), (1, encSs b), (5, .ptr 0 0), (6, .own 1), (7, .int .i64 (i : Nat)), (8, .int .i64 (k : Nat))], [(0, .arr 50 .i64 40401 f), (1, .row 35 2 encC c0 xs)], 2⟩) _
  conv => whnf
  refine ⟨fun hc => ?_, fun hc => ?_⟩
  · simp only [Bool.and_eq_true, decide_eq_true_eq] at hc
    have hlt : i < a.length := by omega
    have hlk : k < b.length := by omega
    have hA : a.drop i = a.getD i [] :: a.drop (i + 1) := drop_getD [] hlt
    have hB : b.drop k = b.getD k [] :: b.drop (k + 1) := drop_getD [] hlk
    have hstep := cmp_both (a.getD i []) (b.getD k []) (a.drop (i + 1)) (b.drop (k + 1)) i k
    rw [← hA, ← hB] at hstep
    conv => whnf
    repeat (first | (refine And.intro ⟨by omega, by omega⟩ ?_; conv => whnf) | (refine And.intro rfl ?_; conv => whnf) | (refine And.intro (fun _ => ⟨by omega, by omega⟩) ?_; conv => whnf) | (refine And.intro ⟨(by first | omega | (simp; omega)), (by first | omega | (simp; omega))⟩ ?_; conv => whnf) | (refine Exists.intro _ (And.intro rfl (And.intro (by first | omega | (simp; omega)) (And.intro ⟨rfl, rfl, rfl, rfl, rfl⟩ ?_))); conv => whnf) | (refine And.intro ⟨rfl, rfl⟩ (And.intro (by first | omega | (simp; omega)) ?_); conv => whnf) | (refine Exists.intro _ (And.intro rfl ?_); conv => whnf) | (refine And.intro (fun _ => ?_) (fun h => absurd h (by decide)); conv => whnf) | (refine And.intro (fun h => absurd h (by decide)) (fun _ => ?_); conv => whnf) | (refine .quiet (by kernel_rfl) ?_; conv => whnf))
    refine ⟨fun hd => ?_, fun hd => ?_⟩
    · simp only [Int.toNat_natCast, decide_eq_true_eq] at hd
      rw [if_pos hd] at hstep
      conv => whnf
      repeat (first | (refine And.intro ⟨by omega, by omega⟩ ?_; conv => whnf) | (refine And.intro rfl ?_; conv => whnf) | (refine And.intro (fun _ => ⟨by omega, by omega⟩) ?_; conv => whnf) | (refine And.intro ⟨(by first | omega | (simp; omega)), (by first | omega | (simp; omega))⟩ ?_; conv => whnf) | (refine Exists.intro _ (And.intro rfl (And.intro (by first | omega | (simp; omega)) (And.intro ⟨rfl, rfl, rfl, rfl, rfl⟩ ?_))); conv => whnf) | (refine And.intro ⟨rfl, rfl⟩ (And.intro (by first | omega | (simp; omega)) ?_); conv => whnf) | (refine Exists.intro _ (And.intro rfl ?_); conv => whnf) | (refine And.intro (fun _ => ?_) (fun h => absurd h (by decide)); conv => whnf) | (refine And.intro (fun h => absurd h (by decide)) (fun _ => ?_); conv => whnf) | (refine .quiet (by kernel_rfl) ?_; conv => whnf))
      refine And.intro ⟨rfl, rfl⟩ (And.intro (show (xs.length + 1) * 16 ≤ 140737488355328 by omega) ?_)
      conv => whnf
      refine ⟨⟨i, k⟩, rfl, ?_⟩
      conv => whnf
      repeat (first | (refine And.intro ⟨by omega, by omega⟩ ?_; conv => whnf) | (refine And.intro rfl ?_; conv => whnf) | (refine And.intro (fun _ => ⟨by omega, by omega⟩) ?_; conv => whnf) | (refine And.intro ⟨(by first | omega | (simp; omega)), (by first | omega | (simp; omega))⟩ ?_; conv => whnf) | (refine Exists.intro _ (And.intro rfl (And.intro (by first | omega | (simp; omega)) (And.intro ⟨rfl, rfl, rfl, rfl, rfl⟩ ?_))); conv => whnf) | (refine And.intro ⟨rfl, rfl⟩ (And.intro (by first | omega | (simp; omega)) ?_); conv => whnf) | (refine Exists.intro _ (And.intro rfl ?_); conv => whnf) | (refine And.intro (fun _ => ?_) (fun h => absurd h (by decide)); conv => whnf) | (refine And.intro (fun h => absurd h (by decide)) (fun _ => ?_); conv => whnf) | (refine .quiet (by kernel_rfl) ?_; conv => whnf))
      refine ⟨(i + 1, k + 1, xs ++ [⟨i, k⟩]), ⟨⟨hlt, hlk⟩, by simp; omega, ?_⟩, by show a.length + b.length - (i + 1) - (k + 1) < a.length + b.length - i - k; omega, (wk_of [(0, .id 0), (1, .id 3)] rfl ⟨.base (.tree _ _ rfl rfl), .base (.tree _ _ rfl rfl), .base (.ptr _ _ _ rfl), (by first | exact .base (.own _ _ rfl) | exact .base (.nilown _ rfl) | exact .base (.trunc _ _ _ rfl)), .base (.tree _ _ rfl rfl), .base (.tree _ _ rfl rfl), trivial⟩ ⟨⟨_, rfl, .arr _ _ _ _ _ _ rfl (fun _ _ => rfl)⟩, ⟨_, rfl, (by first | exact .row _ _ _ _ _ _ _ rfl rfl | exact .lstrow _ _ _ _ _ _ _ rfl rfl | exact .nilrow _ _ _ _ _ rfl | exact .truncrow _ _ _ _ _ _ _ _ rfl (by omega) rfl)⟩, trivial⟩)⟩
      exact stepA hxs hstep rfl
    · simp only [Int.toNat_natCast, decide_eq_false_iff_not] at hd
      rw [if_neg hd] at hstep
      have hv1 : f (0 + ((i : Int) + 1).toNat * 201 + (k : Int).toNat * 1) = (lcs (a.drop (i + 1)) (b.drop k) : Int) := by
        rw [show 0 + ((i : Int) + 1).toNat * 201 + (k : Int).toNat * 1 = (i + 1) * 201 + k by omega, hf _ _ (by omega)]
      have hv2 : f (0 + (i : Int).toNat * 201 + ((k : Int) + 1).toNat * 1) = (lcs (a.drop i) (b.drop (k + 1)) : Int) := by
        rw [show 0 + (i : Int).toNat * 201 + ((k : Int) + 1).toNat * 1 = i * 201 + (k + 1) by omega, hf _ _ (by omega)]
      conv => whnf
      repeat (first | (refine And.intro ⟨by omega, by omega⟩ ?_; conv => whnf) | (refine And.intro rfl ?_; conv => whnf) | (refine And.intro (fun _ => ⟨by omega, by omega⟩) ?_; conv => whnf) | (refine And.intro ⟨(by first | omega | (simp; omega)), (by first | omega | (simp; omega))⟩ ?_; conv => whnf) | (refine Exists.intro _ (And.intro rfl (And.intro (by first | omega | (simp; omega)) (And.intro ⟨rfl, rfl, rfl, rfl, rfl⟩ ?_))); conv => whnf) | (refine And.intro ⟨rfl, rfl⟩ (And.intro (by first | omega | (simp; omega)) ?_); conv => whnf) | (refine Exists.intro _ (And.intro rfl ?_); conv => whnf) | (refine And.intro (fun _ => ?_) (fun h => absurd h (by decide)); conv => whnf) | (refine And.intro (fun h => absurd h (by decide)) (fun _ => ?_); conv => whnf) | (refine .quiet (by kernel_rfl) ?_; conv => whnf))
      refine And.intro (show 0 + ((i : Int) + 1).toNat * 201 + (k : Int).toNat * 1 < 40401 by omega) ?_
      conv => whnf
      repeat (first | (refine And.intro ⟨by omega, by omega⟩ ?_; conv => whnf) | (refine And.intro rfl ?_; conv => whnf) | (refine And.intro (fun _ => ⟨by omega, by omega⟩) ?_; conv => whnf) | (refine And.intro ⟨(by first | omega | (simp; omega)), (by first | omega | (simp; omega))⟩ ?_; conv => whnf) | (refine Exists.intro _ (And.intro rfl (And.intro (by first | omega | (simp; omega)) (And.intro ⟨rfl, rfl, rfl, rfl, rfl⟩ ?_))); conv => whnf) | (refine And.intro ⟨rfl, rfl⟩ (And.intro (by first | omega | (simp; omega)) ?_); conv => whnf) | (refine Exists.intro _ (And.intro rfl ?_); conv => whnf) | (refine And.intro (fun _ => ?_) (fun h => absurd h (by decide)); conv => whnf) | (refine And.intro (fun h => absurd h (by decide)) (fun _ => ?_); conv => whnf) | (refine .quiet (by kernel_rfl) ?_; conv => whnf))
      refine And.intro (show 0 + (i : Int).toNat * 201 + ((k : Int) + 1).toNat * 1 < 40401 by omega) ?_
      conv => whnf
      repeat (first | (refine And.intro ⟨by omega, by omega⟩ ?_; conv => whnf) | (refine And.intro rfl ?_; conv => whnf) | (refine And.intro (fun _ => ⟨by omega, by omega⟩) ?_; conv => whnf) | (refine And.intro ⟨(by first | omega | (simp; omega)), (by first | omega | (simp; omega))⟩ ?_; conv => whnf) | (refine Exists.intro _ (And.intro rfl (And.intro (by first | omega | (simp; omega)) (And.intro ⟨rfl, rfl, rfl, rfl, rfl⟩ ?_))); conv => whnf) | (refine And.intro ⟨rfl, rfl⟩ (And.intro (by first | omega | (simp; omega)) ?_); conv => whnf) | (refine Exists.intro _ (And.intro rfl ?_); conv => whnf) | (refine And.intro (fun _ => ?_) (fun h => absurd h (by decide)); conv => whnf) | (refine And.intro (fun h => absurd h (by decide)) (fun _ => ?_); conv => whnf) | (refine .quiet (by kernel_rfl) ?_; conv => whnf))
      refine ⟨fun he => ?_, fun he => ?_⟩
      · have he' : decide (f (0 + (i : Int).toNat * 201 + ((k : Int) + 1).toNat * 1) ≤ f (0 + ((i : Int) + 1).toNat * 201 + (k : Int).toNat * 1)) = true := he
        rw [hv1, hv2, decide_eq_true_eq] at he'
        rw [if_pos (by omega)] at hstep
        conv => whnf
        repeat (first | (refine And.intro ⟨by omega, by omega⟩ ?_; conv => whnf) | (refine And.intro rfl ?_; conv => whnf) | (refine And.intro (fun _ => ⟨by omega, by omega⟩) ?_; conv => whnf) | (refine And.intro ⟨(by first | omega | (simp; omega)), (by first | omega | (simp; omega))⟩ ?_; conv => whnf) | (refine Exists.intro _ (And.intro rfl (And.intro (by first | omega | (simp; omega)) (And.intro ⟨rfl, rfl, rfl, rfl, rfl⟩ ?_))); conv => whnf) | (refine And.intro ⟨rfl, rfl⟩ (And.intro (by first | omega | (simp; omega)) ?_); conv => whnf) | (refine Exists.intro _ (And.intro rfl ?_); conv => whnf) | (refine And.intro (fun _ => ?_) (fun h => absurd h (by decide)); conv => whnf) | (refine And.intro (fun h => absurd h (by decide)) (fun _ => ?_); conv => whnf) | (refine .quiet (by kernel_rfl) ?_; conv => whnf))
        refine And.intro ⟨rfl, rfl⟩ (And.intro (show (xs.length + 1) * 16 ≤ 140737488355328 by omega) ?_)
        conv => whnf
        refine ⟨⟨i, -1⟩, rfl, ?_⟩
        conv => whnf
        repeat (first | (refine And.intro ⟨by omega, by omega⟩ ?_; conv => whnf) | (refine And.intro rfl ?_; conv => whnf) | (refine And.intro (fun _ => ⟨by omega, by omega⟩) ?_; conv => whnf) | (refine And.intro ⟨(by first | omega | (simp; omega)), (by first | omega | (simp; omega))⟩ ?_; conv => whnf) | (refine Exists.intro _ (And.intro rfl (And.intro (by first | omega | (simp; omega)) (And.intro ⟨rfl, rfl, rfl, rfl, rfl⟩ ?_))); conv => whnf) | (refine And.intro ⟨rfl, rfl⟩ (And.intro (by first | omega | (simp; omega)) ?_); conv => whnf) | (refine Exists.intro _ (And.intro rfl ?_); conv => whnf) | (refine And.intro (fun _ => ?_) (fun h => absurd h (by decide)); conv => whnf) | (refine And.intro (fun h => absurd h (by decide)) (fun _ => ?_); conv => whnf) | (refine .quiet (by kernel_rfl) ?_; conv => whnf))
        refine ⟨(i + 1, k, xs ++ [⟨i, -1⟩]), ⟨⟨hlt, hk⟩, by simp; omega, ?_⟩, by show a.length + b.length - (i + 1) - k < a.length + b.length - i - k; omega, (wk_of [(0, .id 0), (1, .id 3)] rfl ⟨.base (.tree _ _ rfl rfl), .base (.tree _ _ rfl rfl), .base (.ptr _ _ _ rfl), (by first | exact .base (.own _ _ rfl) | exact .base (.nilown _ rfl) | exact .base (.trunc _ _ _ rfl)), .base (.tree _ _ rfl rfl), .base (.tree _ _ rfl rfl), trivial⟩ ⟨⟨_, rfl, .arr _ _ _ _ _ _ rfl (fun _ _ => rfl)⟩, ⟨_, rfl, (by first | exact .row _ _ _ _ _ _ _ rfl rfl | exact .lstrow _ _ _ _ _ _ _ rfl rfl | exact .nilrow _ _ _ _ _ rfl | exact .truncrow _ _ _ _ _ _ _ _ rfl (by omega) rfl)⟩, trivial⟩)⟩
        exact stepA hxs hstep (by rw [hB]; rfl)
      · have he' : decide (f (0 + (i : Int).toNat * 201 + ((k : Int) + 1).toNat * 1) ≤ f (0 + ((i : Int) + 1).toNat * 201 + (k : Int).toNat * 1)) = false := he
        rw [hv1, hv2, decide_eq_false_iff_not] at he'
        rw [if_neg (by omega)] at hstep
        conv => whnf
        repeat (first | (refine And.intro ⟨by omega, by omega⟩ ?_; conv => whnf) | (refine And.intro rfl ?_; conv => whnf) | (refine And.intro (fun _ => ⟨by omega, by omega⟩) ?_; conv => whnf) | (refine And.intro ⟨(by first | omega | (simp; omega)), (by first | omega | (simp; omega))⟩ ?_; conv => whnf) | (refine Exists.intro _ (And.intro rfl (And.intro (by first | omega | (simp; omega)) (And.intro ⟨rfl, rfl, rfl, rfl, rfl⟩ ?_))); conv => whnf) | (refine And.intro ⟨rfl, rfl⟩ (And.intro (by first | omega | (simp; omega)) ?_); conv => whnf) | (refine Exists.intro _ (And.intro rfl ?_); conv => whnf) | (refine And.intro (fun _ => ?_) (fun h => absurd h (by decide)); conv => whnf) | (refine And.intro (fun h => absurd h (by decide)) (fun _ => ?_); conv => whnf) | (refine .quiet (by kernel_rfl) ?_; conv => whnf))
        refine And.intro ⟨rfl, rfl⟩ (And.intro (show (xs.length + 1) * 16 ≤ 140737488355328 by omega) ?_)
        conv => whnf
        refine ⟨⟨-1, k⟩, rfl, ?_⟩
        conv => whnf
        repeat (first | (refine And.intro ⟨by omega, by omega⟩ ?_; conv => whnf) | (refine And.intro rfl ?_; conv => whnf) | (refine And.intro (fun _ => ⟨by omega, by omega⟩) ?_; conv => whnf) | (refine And.intro ⟨(by first | omega | (simp; omega)), (by first | omega | (simp; omega))⟩ ?_; conv => whnf) | (refine Exists.intro _ (And.intro rfl (And.intro (by first | omega | (simp; omega)) (And.intro ⟨rfl, rfl, rfl, rfl, rfl⟩ ?_))); conv => whnf) | (refine And.intro ⟨rfl, rfl⟩ (And.intro (by first | omega | (simp; omega)) ?_); conv => whnf) | (refine Exists.intro _ (And.intro rfl ?_); conv => whnf) | (refine And.intro (fun _ => ?_) (fun h => absurd h (by decide)); conv => whnf) | (refine And.intro (fun h => absurd h (by decide)) (fun _ => ?_); conv => whnf) | (refine .quiet (by kernel_rfl) ?_; conv => whnf))
        refine ⟨(i, k + 1, xs ++ [⟨-1, k⟩]), ⟨⟨hi, hlk⟩, by simp; omega, ?_⟩, by show a.length + b.length - i - (k + 1) < a.length + b.length - i - k; omega, (wk_of [(0, .id 0), (1, .id 3)] rfl ⟨.base (.tree _ _ rfl rfl), .base (.tree _ _ rfl rfl), .base (.ptr _ _ _ rfl), (by first | exact .base (.own _ _ rfl) | exact .base (.nilown _ rfl) | exact .base (.trunc _ _ _ rfl)), .base (.tree _ _ rfl rfl), .base (.tree _ _ rfl rfl), trivial⟩ ⟨⟨_, rfl, .arr _ _ _ _ _ _ rfl (fun _ _ => rfl)⟩, ⟨_, rfl, (by first | exact .row _ _ _ _ _ _ _ rfl rfl | exact .lstrow _ _ _ _ _ _ _ rfl rfl | exact .nilrow _ _ _ _ _ rfl | exact .truncrow _ _ _ _ _ _ _ _ rfl (by omega) rfl)⟩, trivial⟩)⟩
        exact stepA hxs hstep (by rw [hA]; rfl)
  · simp only [Bool.and_eq_false_iff, decide_eq_false_iff_not] at hc
    have hend : a.length = i ∨ b.length = k := by omega
    conv => whnf
    clear hc
    refine loop_inv (cxOk _ _) (σ := Nat × List Chg) (fun s => s.1 ≤ a.length ∧ (s.1 < a.length → k = b.length) ∧ s.2.length ≤ s.1 + k ∧ s.2 ++ cmp (a.drop s.1) (b.drop k) s.1 k = compareL a b) (fun s => a.length - s.1) (fun s => ⟨[(0, encSs a), (1, encSs b), (5, .ptr 0 0), (6, .own 1), (7, .int .i64 ((s.1) : Nat)), (8, .int .i64 (k : Nat))], [(0, .arr 50 .i64 40401 f), (1, .row 35 2 encC c0 (s.2))], 2⟩) (i, xs) ⟨hi, by omega, hlen, hxs⟩ ((wk_of [(0, .id 0), (1, .id 1)] rfl ⟨.base (.tree _ _ rfl rfl), .base (.tree _ _ rfl rfl), .base (.ptr _ _ _ rfl), (by first | exact .base (.own _ _ rfl) | exact .base (.nilown _ rfl) | exact .base (.trunc _ _ _ rfl)), .base (.tree _ _ rfl rfl), .base (.tree _ _ rfl rfl), trivial⟩ ⟨⟨_, rfl, .arr _ _ _ _ _ _ rfl (fun _ _ => rfl)⟩, ⟨_, rfl, (by first | exact .row _ _ _ _ _ _ _ rfl rfl | exact .lstrow _ _ _ _ _ _ _ rfl rfl | exact .nilrow _ _ _ _ _ rfl | exact .truncrow _ _ _ _ _ _ _ _ rfl (by omega) rfl)⟩, trivial⟩)) ?_
    rintro ⟨i, xs⟩ ⟨hi, hik, hlen, hxs⟩
    simp only at hi hik hlen hxs
    show evCode _ _ (⟨[(0, encSs a), (1, encSs b), (5, .ptr 0 0), (6, .own 1), (7, .int .i64 (i : Nat)), (8, .int .i64 (k : Nat))], [(0, .arr 50 .i64 40401 f), (1, .row 35 2 encC c0 xs)], 2⟩) _
    conv => whnf
    refine ⟨fun hc => ?_, fun hc => ?_⟩
    · simp only [decide_eq_true_eq] at hc
      have hlt : i < a.length := by omega
      have hkb := hik hlt
      have hA : a.drop i = a.getD i [] :: a.drop (i + 1) := drop_getD [] hlt
      have hB : b.drop k = [] := List.drop_eq_nil_of_le (by omega)
      have hstep := cmp_left (a.getD i []) (a.drop (i + 1)) i k
      rw [← hA, ← hB] at hstep
      conv => whnf
      repeat (first | (refine And.intro ⟨by omega, by omega⟩ ?_; conv => whnf) | (refine And.intro rfl ?_; conv => whnf) | (refine And.intro (fun _ => ⟨by omega, by omega⟩) ?_; conv => whnf) | (refine And.intro ⟨(by first | omega | (simp; omega)), (by first | omega | (simp; omega))⟩ ?_; conv => whnf) | (refine Exists.intro _ (And.intro rfl (And.intro (by first | omega | (simp; omega)) (And.intro ⟨rfl, rfl, rfl, rfl, rfl⟩ ?_))); conv => whnf) | (refine And.intro ⟨rfl, rfl⟩ (And.intro (by first | omega | (simp; omega)) ?_); conv => whnf) | (refine Exists.intro _ (And.intro rfl ?_); conv => whnf) | (refine And.intro (fun _ => ?_) (fun h => absurd h (by decide)); conv => whnf) | (refine And.intro (fun h => absurd h (by decide)) (fun _ => ?_); conv => whnf) | (refine .quiet (by kernel_rfl) ?_; conv => whnf))
      refine And.intro ⟨rfl, rfl⟩ (And.intro (show (xs.length + 1) * 16 ≤ 140737488355328 by omega) ?_)
      conv => whnf
      refine ⟨⟨i, -1⟩, rfl, ?_⟩
      conv => whnf
      repeat (first | (refine And.intro ⟨by omega, by omega⟩ ?_; conv => whnf) | (refine And.intro rfl ?_; conv => whnf) | (refine And.intro (fun _ => ⟨by omega, by omega⟩) ?_; conv => whnf) | (refine And.intro ⟨(by first | omega | (simp; omega)), (by first | omega | (simp; omega))⟩ ?_; conv => whnf) | (refine Exists.intro _ (And.intro rfl (And.intro (by first | omega | (simp; omega)) (And.intro ⟨rfl, rfl, rfl, rfl, rfl⟩ ?_))); conv => whnf) | (refine And.intro ⟨rfl, rfl⟩ (And.intro (by first | omega | (simp; omega)) ?_); conv => whnf) | (refine Exists.intro _ (And.intro rfl ?_); conv => whnf) | (refine And.intro (fun _ => ?_) (fun h => absurd h (by decide)); conv => whnf) | (refine And.intro (fun h => absurd h (by decide)) (fun _ => ?_); conv => whnf) | (refine .quiet (by kernel_rfl) ?_; conv => whnf))
      refine ⟨(i + 1, xs ++ [⟨i, -1⟩]), ⟨hlt, fun _ => hkb, by simp; omega, ?_⟩, by show a.length - (i + 1) < a.length - i; omega, (wk_of [(0, .id 0), (1, .id 3)] rfl ⟨.base (.tree _ _ rfl rfl), .base (.tree _ _ rfl rfl), .base (.ptr _ _ _ rfl), (by first | exact .base (.own _ _ rfl) | exact .base (.nilown _ rfl) | exact .base (.trunc _ _ _ rfl)), .base (.tree _ _ rfl rfl), .base (.tree _ _ rfl rfl), trivial⟩ ⟨⟨_, rfl, .arr _ _ _ _ _ _ rfl (fun _ _ => rfl)⟩, ⟨_, rfl, (by first | exact .row _ _ _ _ _ _ _ rfl rfl | exact .lstrow _ _ _ _ _ _ _ rfl rfl | exact .nilrow _ _ _ _ _ rfl | exact .truncrow _ _ _ _ _ _ _ _ rfl (by omega) rfl)⟩, trivial⟩)⟩
      exact stepA hxs hstep rfl
    · simp only [decide_eq_false_iff_not] at hc
      have hia : i = a.length := by omega
      conv => whnf
      clear hc hik hend
      refine loop_inv (cxOk _ _) (σ := Nat × List Chg) (fun s => s.1 ≤ b.length ∧ s.2.length ≤ i + s.1 ∧ s.2 ++ cmp (a.drop i) (b.drop s.1) i s.1 = compareL a b) (fun s => b.length - s.1) (fun s => ⟨[(0, encSs a), (1, encSs b), (5, .ptr 0 0), (6, .own 1), (7, .int .i64 (i : Nat)), (8, .int .i64 ((s.1) : Nat))], [(0, .arr 50 .i64 40401 f), (1, .row 35 2 encC c0 (s.2))], 2⟩) (k, xs) ⟨hk, hlen, hxs⟩ ((wk_of [(0, .id 0), (1, .id 1)] rfl ⟨.base (.tree _ _ rfl rfl), .base (.tree _ _ rfl rfl), .base (.ptr _ _ _ rfl), (by first | exact .base (.own _ _ rfl) | exact .base (.nilown _ rfl) | exact .base (.trunc _ _ _ rfl)), .base (.tree _ _ rfl rfl), .base (.tree _ _ rfl rfl), trivial⟩ ⟨⟨_, rfl, .arr _ _ _ _ _ _ rfl (fun _ _ => rfl)⟩, ⟨_, rfl, (by first | exact .row _ _ _ _ _ _ _ rfl rfl | exact .lstrow _ _ _ _ _ _ _ rfl rfl | exact .nilrow _ _ _ _ _ rfl | exact .truncrow _ _ _ _ _ _ _ _ rfl (by omega) rfl)⟩, trivial⟩)) ?_
      rintro ⟨k, xs⟩ ⟨hk, hlen, hxs⟩
      simp only at hk hlen hxs
      show evCode _ _ (⟨[(0, encSs a), (1, encSs b), (5, .ptr 0 0), (6, .own 1), (7, .int .i64 (i : Nat)), (8, .int .i64 (k : Nat))], [(0, .arr 50 .i64 40401 f), (1, .row 35 2 encC c0 xs)], 2⟩) _
      have hA : a.drop i = [] := List.drop_eq_nil_of_le (by omega)
      conv => whnf
      refine ⟨fun hc => ?_, fun hc => ?_⟩
      · simp only [decide_eq_true_eq] at hc
        have hlk : k < b.length := by omega
        have hB : b.drop k = b.getD k [] :: b.drop (k + 1) := drop_getD [] hlk
        have hstep := cmp_right (b.getD k []) (b.drop (k + 1)) i k
        rw [← hB, ← hA] at hstep
        conv => whnf
        repeat (first | (refine And.intro ⟨by omega, by omega⟩ ?_; conv => whnf) | (refine And.intro rfl ?_; conv => whnf) | (refine And.intro (fun _ => ⟨by omega, by omega⟩) ?_; conv => whnf) | (refine And.intro ⟨(by first | omega | (simp; omega)), (by first | omega | (simp; omega))⟩ ?_; conv => whnf) | (refine Exists.intro _ (And.intro rfl (And.intro (by first | omega | (simp; omega)) (And.intro ⟨rfl, rfl, rfl, rfl, rfl⟩ ?_))); conv => whnf) | (refine And.intro ⟨rfl, rfl⟩ (And.intro (by first | omega | (simp; omega)) ?_); conv => whnf) | (refine Exists.intro _ (And.intro rfl ?_); conv => whnf) | (refine And.intro (fun _ => ?_) (fun h => absurd h (by decide)); conv => whnf) | (refine And.intro (fun h => absurd h (by decide)) (fun _ => ?_); conv => whnf) | (refine .quiet (by kernel_rfl) ?_; conv => whnf))
        refine And.intro ⟨rfl, rfl⟩ (And.intro (show (xs.length + 1) * 16 ≤ 140737488355328 by omega) ?_)
        conv => whnf
        refine ⟨⟨-1, k⟩, rfl, ?_⟩
        conv => whnf
        repeat (first | (refine And.intro ⟨by omega, by omega⟩ ?_; conv => whnf) | (refine And.intro rfl ?_; conv => whnf) | (refine And.intro (fun _ => ⟨by omega, by omega⟩) ?_; conv => whnf) | (refine And.intro ⟨(by first | omega | (simp; omega)), (by first | omega | (simp; omega))⟩ ?_; conv => whnf) | (refine Exists.intro _ (And.intro rfl (And.intro (by first | omega | (simp; omega)) (And.intro ⟨rfl, rfl, rfl, rfl, rfl⟩ ?_))); conv => whnf) | (refine And.intro ⟨rfl, rfl⟩ (And.intro (by first | omega | (simp; omega)) ?_); conv => whnf) | (refine Exists.intro _ (And.intro rfl ?_); conv => whnf) | (refine And.intro (fun _ => ?_) (fun h => absurd h (by decide)); conv => whnf) | (refine And.intro (fun h => absurd h (by decide)) (fun _ => ?_); conv => whnf) | (refine .quiet (by kernel_rfl) ?_; conv => whnf))
        refine ⟨(k + 1, xs ++ [⟨-1, k⟩]), ⟨hlk, by simp; omega, ?_⟩, by show b.length - (k + 1) < b.length - k; omega, (wk_of [(0, .id 0), (1, .id 3)] rfl ⟨.base (.tree _ _ rfl rfl), .base (.tree _ _ rfl rfl), .base (.ptr _ _ _ rfl), (by first | exact .base (.own _ _ rfl) | exact .base (.nilown _ rfl) | exact .base (.trunc _ _ _ rfl)), .base (.tree _ _ rfl rfl), .base (.tree _ _ rfl rfl), trivial⟩ ⟨⟨_, rfl, .arr _ _ _ _ _ _ rfl (fun _ _ => rfl)⟩, ⟨_, rfl, (by first | exact .row _ _ _ _ _ _ _ rfl rfl | exact .lstrow _ _ _ _ _ _ _ rfl rfl | exact .nilrow _ _ _ _ _ rfl | exact .truncrow _ _ _ _ _ _ _ _ rfl (by omega) rfl)⟩, trivial⟩)⟩
        exact stepA hxs hstep rfl
      · simp only [decide_eq_false_iff_not] at hc
        have hB : b.drop k = [] := List.drop_eq_nil_of_le (by omega)
        rw [hA, hB, cmp_nil, List.append_nil] at hxs
        conv => whnf
        rw [hxs]
        rfl

end Go.Proofs.Ytohankpncipefaa
