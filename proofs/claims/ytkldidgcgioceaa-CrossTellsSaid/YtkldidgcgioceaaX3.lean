import Derived.Test.YtkldidgcgioceaaX2
namespace Go.Proofs.Ytkldidgcgioceaa
open Go.Own
set_option maxHeartbeats 2000000
set_option maxRecDepth 100000

abbrev Fnd := List (Int × Cau)
/-- The issues of a day that were accelerated by themselves. -/
def seedJ (l : List Debt) (day : Int) (s : Fnd × List Int) (i : Nat) : Fnd × List Int :=
  if ((!(mget s.1 (i : Int)).isSome) && decide ((l.getD i d0).fast = day)) = true then (mset s.1 (i : Int) ⟨i, -1, 0, day⟩, s.2 ++ [(i : Int)]) else s
def seed (l : List Debt) (day : Int) (es : Fnd) (n : Nat) : Fnd × List Int := (List.range n).foldl (seedJ l day) (es, [])
def stepJ (l : List Debt) (day r : Int) (last : List Int) (s : Fnd × List Int) (j : Nat) : Fnd × List Int :=
  if (mget s.1 (j : Int)).isSome = true then s
  else if 0 ≤ firstI (fun i => can l i.toNat j) last then (mset s.1 (j : Int) ⟨j, last.getD (firstI (fun i => can l i.toNat j) last).toNat 0, r, day⟩, s.2 ++ [(j : Int)]) else s
def step (l : List Debt) (day r : Int) (es : Fnd) (last : List Int) (n : Nat) : Fnd × List Int := (List.range n).foldl (stepJ l day r last) (es, [])
def rounds (l : List Debt) (day : Int) : Nat → Nat → Fnd × List Int → Fnd
  | 0, _, s => s.1
  | f + 1, r, s => if s.2 = [] then s.1 else rounds l day f (r + 1) (step l day (r : Int) s.1 s.2 l.length)
def spreadL (l : List Debt) (day : Int) (es : Fnd) : Fnd := rounds l day (2 * l.length + 2) 1 (seed l day es l.length)

theorem seed_succ (l : List Debt) (day : Int) (es : Fnd) (n : Nat) : seed l day es (n + 1) = seedJ l day (seed l day es n) n := by
  unfold seed
  rw [List.range_succ, List.foldl_append]
  rfl
theorem step_succ (l : List Debt) (day r : Int) (es : Fnd) (last : List Int) (n : Nat) : step l day r es last (n + 1) = stepJ l day r last (step l day r es last n) n := by
  unfold step
  rw [List.range_succ, List.foldl_append]
  rfl

theorem cap1_ok (l : List Debt) (x j : Int) (hx : 0 ≤ x ∧ x < l.length) (hj : 0 ≤ j ∧ j < l.length) : APureV Try.prog 38 [.int .i64 x, .rop [encDs l], .rop [.int .i64 j]] (.bool (can l x.toNat j.toNat)) := by
  refine apure_of (C := cx 9 [0, 1, 2, 4]) (cxOk _ _) Try.func38 rfl (by decide) rfl (by exact Nat.le_of_ble_eq_true rfl) (by decide) ?_
  conv => whnf
  refine .one _ _ _ (fun _ => brings_ok l x j hx hj) (by repeat (first | exact .nil | (apply BorL.cons; first | exact lS rfl | exact lR rfl | exact lM rfl rfl | exact lL rfl | exact lX rfl | exact lN | exact lNl | exact lSm rfl | exact lIm rfl | exact lP rfl | exact lQ rfl))) (by first | exact .inl rfl | exact .inr (by repeat (first | exact flats_nil | refine flats_cons (by first | exact flat_val _ rfl | exact flat_row (fun _ => rfl) | exact flat_lst (fun _ => rfl)) ?_))) (by first | exact .inl rfl | exact .inr rfl) ?_
  conv => whnf
  rfl

/-- Keys are places of the list. -/
def okF (l : List Debt) (es : Fnd) : Prop := (es.map (·.1)).Nodup ∧ ∀ p ∈ es, 0 ≤ p.1 ∧ p.1 < l.length
def okI (l : List Debt) (last : List Int) : Prop := last.length ≤ l.length ∧ ∀ x ∈ last, 0 ≤ x ∧ x < l.length

/-- Rounds that are left, at most. -/
def muF (l : List Debt) (s : Fnd × List Int) : Nat := 2 * (l.length - s.1.length) + (if s.2 = [] then 0 else 1)

theorem firstI_lt {T : Type} {p : T → Bool} {l : List T} (h : 0 ≤ firstI p l) : firstI p l < l.length := by
  unfold firstI at h ⊢
  split
  · rename_i hlt
    omega
  · rename_i hn
    rw [if_neg hn] at h
    omega

theorem spread_ok (l : List Debt) (hl : l.length ≤ 400) (day : Int) (es : Fnd) (hseed : okF l (seed l day es l.length).1 ∧ okI l (seed l day es l.length).2)
    (hstep : ∀ r es la, okF l es → okI l la → la ≠ [] → okF l (step l day r es la l.length).1 ∧ okI l (step l day r es la l.length).2 ∧ muF l (step l day r es la l.length) < muF l (es, la)) :
    AIO Try.prog 23 [encDs l, .map 0, .int .i64 day] [.imap .i64 encC c0 es] (fun b rs => b = [.imap .i64 encC c0 (spreadL l day es)] ∧ rs = []) := by
  refine aio_of (C := cxP 1 86 [0, 1, 2, 3, 6, 7, 8, 10, 11, 12, 13, 15, 16, 17, 18, 19, 20, 37, 50, 54, 55, 56, 64, 69]) (cxPOk _ _ _) Try.func23 rfl (by decide) rfl (by exact Nat.le_of_ble_eq_true rfl) (by decide) rfl rfl ?_
  conv => whnf
  refine loop_up (cxPOk _ _ _) l.length (fun k => (seed l day es k).2.length ≤ k) (fun k => ⟨[(1, .map 0), (2, .int .i64 day), (3, .ptr 1 0), (6, .own 2), (17, encDs l), (18, .int .i64 l.length), (19, .int .i64 (k : Nat))], [(0, .imap .i64 encC c0 (seed l day es k).1), (1, .cells 22 [encDs l]), (2, .row 3 1 encI 0 (seed l day es k).2)], 3⟩) (Nat.le_refl _) ((wk_of [(0, .id 0), (1, .id 1), (2, .nil)] rfl ⟨.base (.map _ _ rfl), .base (.tree _ _ rfl rfl), .base (.ptr _ _ _ rfl), (by first | exact .base (.own _ _ rfl) | exact .base (.nilown _ rfl) | exact .base (.trunc _ _ _ rfl)), .base (.tree _ _ rfl rfl), .base (.tree _ _ rfl rfl), .base (.tree _ _ rfl rfl), trivial⟩ ⟨⟨_, rfl, (by first | exact .imap _ _ _ _ _ _ rfl rfl | exact .newimap _ _ _ _ _ _ _ _ rfl rfl rfl)⟩, ⟨_, rfl, .cells _ _ _ _ rfl (by repeat (first | exact .nil | refine .cons (by first | exact .base (.tree _ _ rfl rfl) | exact .base (.own _ _ rfl) | exact .base (.ptr _ _ _ rfl) | exact .base (.map _ _ rfl) | exact .base (.nilown _ rfl)) ?_)) rfl⟩, ⟨_, rfl, (by first | exact .row _ _ _ _ _ _ _ rfl rfl | exact .lstrow _ _ _ _ _ _ _ rfl rfl | exact .nilrow _ _ _ _ _ rfl | exact .truncrow _ _ _ _ _ _ _ _ rfl (by omega) rfl)⟩, trivial⟩)) ?_
  intro k hk hP
  conv => whnf
  refine ⟨fun hc1 => ?_, fun hc1 => ?_⟩
  · simp only [decide_eq_true_eq] at hc1
    have hlt : k < l.length := by omega
    have hlk : l.getD (k : Int).toNat d0 = l.getD k d0 := by rw [Int.toNat_natCast]
    have hS := seed_succ l day es k
    unfold seedJ at hS
    generalize hs' : seed l day es (k + 1) = s' at *
    generalize seed l day es k = s at *
    obtain ⟨es1, la⟩ := s
    have hP' : la.length ≤ k := hP
    conv => whnf
    repeat (first | (refine And.intro ⟨by omega, by omega⟩ ?_; conv => whnf) | (refine And.intro (by omega) (And.intro rfl ?_); conv => whnf) | (refine And.intro rfl ?_; conv => whnf) | (refine And.intro (fun _ => ⟨by omega, by omega⟩) ?_; conv => whnf) | (refine And.intro (fun _ => by omega) (And.intro rfl ?_); conv => whnf) | (refine And.intro ⟨(by first | omega | (simp; omega)), (by first | omega | (simp; omega))⟩ ?_; conv => whnf) | (refine Exists.intro _ (And.intro rfl (And.intro (by first | omega | (simp; omega)) (And.intro ⟨rfl, rfl, rfl, rfl, rfl⟩ ?_))); conv => whnf) | (refine And.intro ⟨rfl, rfl⟩ (And.intro (by first | omega | (simp; omega)) ?_); conv => whnf) | (refine Exists.intro _ (And.intro rfl ?_); conv => whnf) | (refine And.intro (fun _ => ?_) (fun h => absurd h (by decide)); conv => whnf) | (refine And.intro (fun h => absurd h (by decide)) (fun _ => ?_); conv => whnf) | (refine .eff (by first | exact cxOk _ _ | exact cxPOk _ _ _) ?_; conv => whnf))
    rw [hlk]
    refine ⟨fun hd => ?_, fun hd => ?_⟩
    · rw [if_pos hd] at hS
      conv => whnf
      repeat (first | (refine And.intro ⟨by omega, by omega⟩ ?_; conv => whnf) | (refine And.intro (by omega) (And.intro rfl ?_); conv => whnf) | (refine And.intro rfl ?_; conv => whnf) | (refine And.intro (fun _ => ⟨by omega, by omega⟩) ?_; conv => whnf) | (refine And.intro (fun _ => by omega) (And.intro rfl ?_); conv => whnf) | (refine And.intro ⟨(by first | omega | (simp; omega)), (by first | omega | (simp; omega))⟩ ?_; conv => whnf) | (refine Exists.intro _ (And.intro rfl (And.intro (by first | omega | (simp; omega)) (And.intro ⟨rfl, rfl, rfl, rfl, rfl⟩ ?_))); conv => whnf) | (refine And.intro ⟨rfl, rfl⟩ (And.intro (by first | omega | (simp; omega)) ?_); conv => whnf) | (refine Exists.intro _ (And.intro rfl ?_); conv => whnf) | (refine And.intro (fun _ => ?_) (fun h => absurd h (by decide)); conv => whnf) | (refine And.intro (fun h => absurd h (by decide)) (fun _ => ?_); conv => whnf) | (refine .eff (by first | exact cxOk _ _ | exact cxPOk _ _ _) ?_; conv => whnf))
      refine ⟨⟨k, -1, 0, day⟩, rfl, ?_⟩
      conv => whnf
      repeat (first | (refine And.intro ⟨by omega, by omega⟩ ?_; conv => whnf) | (refine And.intro (by omega) (And.intro rfl ?_); conv => whnf) | (refine And.intro rfl ?_; conv => whnf) | (refine And.intro (fun _ => ⟨by omega, by omega⟩) ?_; conv => whnf) | (refine And.intro (fun _ => by omega) (And.intro rfl ?_); conv => whnf) | (refine And.intro ⟨(by first | omega | (simp; omega)), (by first | omega | (simp; omega))⟩ ?_; conv => whnf) | (refine Exists.intro _ (And.intro rfl (And.intro (by first | omega | (simp; omega)) (And.intro ⟨rfl, rfl, rfl, rfl, rfl⟩ ?_))); conv => whnf) | (refine And.intro ⟨rfl, rfl⟩ (And.intro (by first | omega | (simp; omega)) ?_); conv => whnf) | (refine Exists.intro _ (And.intro rfl ?_); conv => whnf) | (refine And.intro (fun _ => ?_) (fun h => absurd h (by decide)); conv => whnf) | (refine And.intro (fun h => absurd h (by decide)) (fun _ => ?_); conv => whnf) | (refine .eff (by first | exact cxOk _ _ | exact cxPOk _ _ _) ?_; conv => whnf))
      refine And.intro ⟨rfl, rfl⟩ (And.intro (show (la.length + 1) * 8 ≤ 140737488355328 by omega) ?_)
      conv => whnf
      refine ⟨(k : Int), rfl, ?_⟩
      conv => whnf
      repeat (first | (refine And.intro ⟨by omega, by omega⟩ ?_; conv => whnf) | (refine And.intro (by omega) (And.intro rfl ?_); conv => whnf) | (refine And.intro rfl ?_; conv => whnf) | (refine And.intro (fun _ => ⟨by omega, by omega⟩) ?_; conv => whnf) | (refine And.intro (fun _ => by omega) (And.intro rfl ?_); conv => whnf) | (refine And.intro ⟨(by first | omega | (simp; omega)), (by first | omega | (simp; omega))⟩ ?_; conv => whnf) | (refine Exists.intro _ (And.intro rfl (And.intro (by first | omega | (simp; omega)) (And.intro ⟨rfl, rfl, rfl, rfl, rfl⟩ ?_))); conv => whnf) | (refine And.intro ⟨rfl, rfl⟩ (And.intro (by first | omega | (simp; omega)) ?_); conv => whnf) | (refine Exists.intro _ (And.intro rfl ?_); conv => whnf) | (refine And.intro (fun _ => ?_) (fun h => absurd h (by decide)); conv => whnf) | (refine And.intro (fun h => absurd h (by decide)) (fun _ => ?_); conv => whnf) | (refine .eff (by first | exact cxOk _ _ | exact cxPOk _ _ _) ?_; conv => whnf))
      have h1 : mset es1 (k : Int) ⟨k, -1, 0, day⟩ = s'.1 := by rw [hS]
      have h2 : la ++ [(k : Int)] = s'.2 := by rw [hS]
      refine up hlt ?_ ((wk_of [(0, .id 0), (1, .id 1), (2, .id 6)] rfl ⟨.base (.map _ _ rfl), .base (.tree _ _ rfl rfl), .base (.ptr _ _ _ rfl), (by first | exact .base (.own _ _ rfl) | exact .base (.nilown _ rfl) | exact .base (.trunc _ _ _ rfl)), .base (.tree _ _ rfl rfl), .base (.tree _ _ rfl rfl), .base (.tree _ _ rfl rfl), trivial⟩ ⟨⟨_, rfl, (by first | exact .imap _ _ _ _ _ _ rfl (by rw [hs']; exact h1) | exact .newimap _ _ _ _ _ _ _ _ rfl rfl (by rw [hs']; exact h1))⟩, ⟨_, rfl, .cells _ _ _ _ rfl (by repeat (first | exact .nil | refine .cons (by first | exact .base (.tree _ _ rfl rfl) | exact .base (.own _ _ rfl) | exact .base (.ptr _ _ _ rfl) | exact .base (.map _ _ rfl) | exact .base (.nilown _ rfl)) ?_)) rfl⟩, ⟨_, rfl, (by first | exact .row _ _ _ _ _ _ _ rfl (by rw [hs']; exact h2) | exact .lstrow _ _ _ _ _ _ _ rfl (by rw [hs']; exact h2) | exact .nilrow _ _ _ _ _ (by rw [hs']; exact h2) | exact .truncrow _ _ _ _ _ _ _ _ rfl (by omega) (by rw [hs']; exact h2))⟩, trivial⟩))
      rw [hs', hS]
      show (la ++ [(k : Int)]).length ≤ k + 1
      rw [List.length_append]
      show la.length + 1 ≤ k + 1
      omega
    · rw [if_neg (by rw [show ((!(mget es1 (k : Int)).isSome) && decide ((l.getD k d0).fast = day)) = false from hd]; exact Bool.noConfusion)] at hS
      have h1 : es1 = s'.1 := by rw [hS]
      have h2 : la = s'.2 := by rw [hS]
      conv => whnf
      repeat (first | (refine And.intro ⟨by omega, by omega⟩ ?_; conv => whnf) | (refine And.intro (by omega) (And.intro rfl ?_); conv => whnf) | (refine And.intro rfl ?_; conv => whnf) | (refine And.intro (fun _ => ⟨by omega, by omega⟩) ?_; conv => whnf) | (refine And.intro (fun _ => by omega) (And.intro rfl ?_); conv => whnf) | (refine And.intro ⟨(by first | omega | (simp; omega)), (by first | omega | (simp; omega))⟩ ?_; conv => whnf) | (refine Exists.intro _ (And.intro rfl (And.intro (by first | omega | (simp; omega)) (And.intro ⟨rfl, rfl, rfl, rfl, rfl⟩ ?_))); conv => whnf) | (refine And.intro ⟨rfl, rfl⟩ (And.intro (by first | omega | (simp; omega)) ?_); conv => whnf) | (refine Exists.intro _ (And.intro rfl ?_); conv => whnf) | (refine And.intro (fun _ => ?_) (fun h => absurd h (by decide)); conv => whnf) | (refine And.intro (fun h => absurd h (by decide)) (fun _ => ?_); conv => whnf) | (refine .eff (by first | exact cxOk _ _ | exact cxPOk _ _ _) ?_; conv => whnf))
      refine up hlt ?_ ((wk_of [(0, .id 0), (1, .id 1), (2, .id 2)] rfl ⟨.base (.map _ _ rfl), .base (.tree _ _ rfl rfl), .base (.ptr _ _ _ rfl), (by first | exact .base (.own _ _ rfl) | exact .base (.nilown _ rfl) | exact .base (.trunc _ _ _ rfl)), .base (.tree _ _ rfl rfl), .base (.tree _ _ rfl rfl), .base (.tree _ _ rfl rfl), trivial⟩ ⟨⟨_, rfl, (by first | exact .imap _ _ _ _ _ _ rfl (by rw [hs']; exact h1) | exact .newimap _ _ _ _ _ _ _ _ rfl rfl (by rw [hs']; exact h1))⟩, ⟨_, rfl, .cells _ _ _ _ rfl (by repeat (first | exact .nil | refine .cons (by first | exact .base (.tree _ _ rfl rfl) | exact .base (.own _ _ rfl) | exact .base (.ptr _ _ _ rfl) | exact .base (.map _ _ rfl) | exact .base (.nilown _ rfl)) ?_)) rfl⟩, ⟨_, rfl, (by first | exact .row _ _ _ _ _ _ _ rfl (by rw [hs']; exact h2) | exact .lstrow _ _ _ _ _ _ _ rfl (by rw [hs']; exact h2) | exact .nilrow _ _ _ _ _ (by rw [hs']; exact h2) | exact .truncrow _ _ _ _ _ _ _ _ rfl (by omega) (by rw [hs']; exact h2))⟩, trivial⟩))
      rw [hs', hS]
      show la.length ≤ k + 1
      omega
  · simp only [decide_eq_false_iff_not] at hc1
    obtain rfl : k = l.length := by omega
    clear hP
    have hF : ∀ f r s, f = 2 * l.length + 2 → r = 1 → s = seed l day es l.length → rounds l day f r s = spreadL l day es := by
      rintro f r s rfl rfl rfl
      rfl
    conv => whnf
    refine loop_inv (cxPOk _ _ _) (σ := Nat × Nat × Fnd × List Int) (fun q => rounds l day q.1 q.2.1 q.2.2 = spreadL l day es ∧ q.2.1 ≤ 2 * l.length + 3 ∧ q.1 + q.2.1 = 2 * l.length + 3 ∧ muF l q.2.2 ≤ q.1 ∧ okF l q.2.2.1 ∧ okI l q.2.2.2) (fun q => q.1) (fun q => ⟨[(1, .map 0), (2, .int .i64 day), (3, .ptr 1 0), (6, .own 2), (11, .int .i64 ((q).2.1 : Nat))], [(0, .imap .i64 encC c0 (q).2.2.1), (1, .cells 22 [encDs l]), (2, .row 3 1 encI 0 (q).2.2.2)], 3⟩) (2 * l.length + 2, 1, seed l day es l.length) ?_ ((wk_of [(0, .id 0), (1, .id 1), (2, .id 2)] rfl ⟨.base (.map _ _ rfl), .base (.tree _ _ rfl rfl), .base (.ptr _ _ _ rfl), (by first | exact .base (.own _ _ rfl) | exact .base (.nilown _ rfl) | exact .base (.trunc _ _ _ rfl)), .base (.tree _ _ rfl rfl), trivial⟩ ⟨⟨_, rfl, (by first | exact .imap _ _ _ _ _ _ rfl rfl | exact .newimap _ _ _ _ _ _ _ _ rfl rfl rfl)⟩, ⟨_, rfl, .cells _ _ _ _ rfl (by repeat (first | exact .nil | refine .cons (by first | exact .base (.tree _ _ rfl rfl) | exact .base (.own _ _ rfl) | exact .base (.ptr _ _ _ rfl) | exact .base (.map _ _ rfl) | exact .base (.nilown _ rfl)) ?_)) rfl⟩, ⟨_, rfl, (by first | exact .row _ _ _ _ _ _ _ rfl rfl | exact .lstrow _ _ _ _ _ _ _ rfl rfl | exact .nilrow _ _ _ _ _ rfl | exact .truncrow _ _ _ _ _ _ _ _ rfl (by omega) rfl)⟩, trivial⟩)) ?_
    · refine ⟨rfl, (show 1 ≤ 2 * l.length + 3 by omega), (show 2 * l.length + 2 + 1 = 2 * l.length + 3 by omega), ?_, hseed.1, hseed.2⟩
      show muF l (seed l day es l.length) ≤ 2 * l.length + 2
      unfold muF
      split <;> omega
    rintro ⟨f, r, es1, la⟩ ⟨i1, i2, i3, i4, i5, i6⟩
    have i1' : rounds l day f r (es1, la) = spreadL l day es := i1
    have i2' : r ≤ 2 * l.length + 3 := i2
    have i3' : f + r = 2 * l.length + 3 := i3
    have i4' : muF l (es1, la) ≤ f := i4
    have i5' : okF l es1 := i5
    have i6' : okI l la := i6
    clear i1 i2 i3 i4 i5 i6 hF
    conv => whnf
    repeat (first | (refine And.intro ⟨by omega, by omega⟩ ?_; conv => whnf) | (refine And.intro (by omega) (And.intro rfl ?_); conv => whnf) | (refine And.intro rfl ?_; conv => whnf) | (refine And.intro (fun _ => ⟨by omega, by omega⟩) ?_; conv => whnf) | (refine And.intro (fun _ => by omega) (And.intro rfl ?_); conv => whnf) | (refine And.intro ⟨(by first | omega | (simp; omega)), (by first | omega | (simp; omega))⟩ ?_; conv => whnf) | (refine Exists.intro _ (And.intro rfl (And.intro (by first | omega | (simp; omega)) (And.intro ⟨rfl, rfl, rfl, rfl, rfl⟩ ?_))); conv => whnf) | (refine And.intro ⟨rfl, rfl⟩ (And.intro (by first | omega | (simp; omega)) ?_); conv => whnf) | (refine Exists.intro _ (And.intro rfl ?_); conv => whnf) | (refine And.intro (fun _ => ?_) (fun h => absurd h (by decide)); conv => whnf) | (refine And.intro (fun h => absurd h (by decide)) (fun _ => ?_); conv => whnf) | (refine .eff (by first | exact cxOk _ _ | exact cxPOk _ _ _) ?_; conv => whnf))
    refine ⟨fun hc2 => ?_, fun hc2 => ?_⟩
    · have hc2' : decide (0 < (la.length : Int)) = true := hc2
      simp only [decide_eq_true_eq] at hc2'
      have hla : la ≠ [] := fun e => by rw [e] at hc2'; simp at hc2'
      have hlal := i6'.1
      conv => whnf
      repeat (first | (refine And.intro ⟨by omega, by omega⟩ ?_; conv => whnf) | (refine And.intro (by omega) (And.intro rfl ?_); conv => whnf) | (refine And.intro rfl ?_; conv => whnf) | (refine And.intro (fun _ => ⟨by omega, by omega⟩) ?_; conv => whnf) | (refine And.intro (fun _ => by omega) (And.intro rfl ?_); conv => whnf) | (refine And.intro ⟨(by first | omega | (simp; omega)), (by first | omega | (simp; omega))⟩ ?_; conv => whnf) | (refine Exists.intro _ (And.intro rfl (And.intro (by first | omega | (simp; omega)) (And.intro ⟨rfl, rfl, rfl, rfl, rfl⟩ ?_))); conv => whnf) | (refine And.intro ⟨rfl, rfl⟩ (And.intro (by first | omega | (simp; omega)) ?_); conv => whnf) | (refine Exists.intro _ (And.intro rfl ?_); conv => whnf) | (refine And.intro (fun _ => ?_) (fun h => absurd h (by decide)); conv => whnf) | (refine And.intro (fun h => absurd h (by decide)) (fun _ => ?_); conv => whnf) | (refine .eff (by first | exact cxOk _ _ | exact cxPOk _ _ _) ?_; conv => whnf))
      refine loop_up (cxPOk _ _ _) l.length (fun j => (step l day (r : Int) es1 la j).2.length ≤ j) (fun j => ⟨[(1, .map 0), (2, .int .i64 day), (3, .ptr 1 0), (6, .own 2), (11, .int .i64 (r : Nat)), (12, .own 3), (54, .int .i64 l.length), (55, .int .i64 (j : Nat))], [(0, .imap .i64 encC c0 (step l day (r : Int) es1 la j).1), (1, .cells 22 [encDs l]), (2, .row 3 1 encI 0 la), (3, .row 3 1 encI 0 (step l day (r : Int) es1 la j).2)], 4⟩) (Nat.le_refl _) ((wk_of [(0, .id 0), (1, .id 1), (2, .id 2), (3, .nil)] rfl ⟨.base (.map _ _ rfl), .base (.tree _ _ rfl rfl), .base (.ptr _ _ _ rfl), (by first | exact .base (.own _ _ rfl) | exact .base (.nilown _ rfl) | exact .base (.trunc _ _ _ rfl)), .base (.tree _ _ rfl rfl), (by first | exact .base (.own _ _ rfl) | exact .base (.nilown _ rfl) | exact .base (.trunc _ _ _ rfl)), .base (.tree _ _ rfl rfl), .base (.tree _ _ rfl rfl), trivial⟩ ⟨⟨_, rfl, (by first | exact .imap _ _ _ _ _ _ rfl rfl | exact .newimap _ _ _ _ _ _ _ _ rfl rfl rfl)⟩, ⟨_, rfl, .cells _ _ _ _ rfl (by repeat (first | exact .nil | refine .cons (by first | exact .base (.tree _ _ rfl rfl) | exact .base (.own _ _ rfl) | exact .base (.ptr _ _ _ rfl) | exact .base (.map _ _ rfl) | exact .base (.nilown _ rfl)) ?_)) rfl⟩, ⟨_, rfl, (by first | exact .row _ _ _ _ _ _ _ rfl rfl | exact .lstrow _ _ _ _ _ _ _ rfl rfl | exact .nilrow _ _ _ _ _ rfl | exact .truncrow _ _ _ _ _ _ _ _ rfl (by omega) rfl)⟩, ⟨_, rfl, (by first | exact .row _ _ _ _ _ _ _ rfl rfl | exact .lstrow _ _ _ _ _ _ _ rfl rfl | exact .nilrow _ _ _ _ _ rfl | exact .truncrow _ _ _ _ _ _ _ _ rfl (by omega) rfl)⟩, trivial⟩)) ?_
      intro j hj hP
      conv => whnf
      refine ⟨fun hc3 => ?_, fun hc3 => ?_⟩
      · simp only [decide_eq_true_eq] at hc3
        have hjt : j < l.length := by omega
        have hS := step_succ l day (r : Int) es1 la j
        unfold stepJ at hS
        generalize hs' : step l day (r : Int) es1 la (j + 1) = s' at *
        generalize step l day (r : Int) es1 la j = s at *
        obtain ⟨es2, nx2⟩ := s
        have hP' : nx2.length ≤ j := hP
        conv => whnf
        repeat (first | (refine And.intro ⟨by omega, by omega⟩ ?_; conv => whnf) | (refine And.intro (by omega) (And.intro rfl ?_); conv => whnf) | (refine And.intro rfl ?_; conv => whnf) | (refine And.intro (fun _ => ⟨by omega, by omega⟩) ?_; conv => whnf) | (refine And.intro (fun _ => by omega) (And.intro rfl ?_); conv => whnf) | (refine And.intro ⟨(by first | omega | (simp; omega)), (by first | omega | (simp; omega))⟩ ?_; conv => whnf) | (refine Exists.intro _ (And.intro rfl (And.intro (by first | omega | (simp; omega)) (And.intro ⟨rfl, rfl, rfl, rfl, rfl⟩ ?_))); conv => whnf) | (refine And.intro ⟨rfl, rfl⟩ (And.intro (by first | omega | (simp; omega)) ?_); conv => whnf) | (refine Exists.intro _ (And.intro rfl ?_); conv => whnf) | (refine And.intro (fun _ => ?_) (fun h => absurd h (by decide)); conv => whnf) | (refine And.intro (fun h => absurd h (by decide)) (fun _ => ?_); conv => whnf) | (refine .eff (by first | exact cxOk _ _ | exact cxPOk _ _ _) ?_; conv => whnf))
        refine ⟨fun hd => ?_, fun hd => ?_⟩
        · have hd' : (mget es2 (j : Int)).isSome = true := hd
          rw [if_pos hd'] at hS
          have h1 : es2 = s'.1 := by rw [hS]
          have h2 : nx2 = s'.2 := by rw [hS]
          conv => whnf
          repeat (first | (refine And.intro ⟨by omega, by omega⟩ ?_; conv => whnf) | (refine And.intro (by omega) (And.intro rfl ?_); conv => whnf) | (refine And.intro rfl ?_; conv => whnf) | (refine And.intro (fun _ => ⟨by omega, by omega⟩) ?_; conv => whnf) | (refine And.intro (fun _ => by omega) (And.intro rfl ?_); conv => whnf) | (refine And.intro ⟨(by first | omega | (simp; omega)), (by first | omega | (simp; omega))⟩ ?_; conv => whnf) | (refine Exists.intro _ (And.intro rfl (And.intro (by first | omega | (simp; omega)) (And.intro ⟨rfl, rfl, rfl, rfl, rfl⟩ ?_))); conv => whnf) | (refine And.intro ⟨rfl, rfl⟩ (And.intro (by first | omega | (simp; omega)) ?_); conv => whnf) | (refine Exists.intro _ (And.intro rfl ?_); conv => whnf) | (refine And.intro (fun _ => ?_) (fun h => absurd h (by decide)); conv => whnf) | (refine And.intro (fun h => absurd h (by decide)) (fun _ => ?_); conv => whnf) | (refine .eff (by first | exact cxOk _ _ | exact cxPOk _ _ _) ?_; conv => whnf))
          refine up hjt ?_ ((wk_of [(0, .id 0), (1, .id 1), (2, .id 2), (3, .id 3)] rfl ⟨.base (.map _ _ rfl), .base (.tree _ _ rfl rfl), .base (.ptr _ _ _ rfl), (by first | exact .base (.own _ _ rfl) | exact .base (.nilown _ rfl) | exact .base (.trunc _ _ _ rfl)), .base (.tree _ _ rfl rfl), (by first | exact .base (.own _ _ rfl) | exact .base (.nilown _ rfl) | exact .base (.trunc _ _ _ rfl)), .base (.tree _ _ rfl rfl), .base (.tree _ _ rfl rfl), trivial⟩ ⟨⟨_, rfl, (by first | exact .imap _ _ _ _ _ _ rfl (by rw [hs']; exact h1) | exact .newimap _ _ _ _ _ _ _ _ rfl rfl (by rw [hs']; exact h1))⟩, ⟨_, rfl, .cells _ _ _ _ rfl (by repeat (first | exact .nil | refine .cons (by first | exact .base (.tree _ _ rfl rfl) | exact .base (.own _ _ rfl) | exact .base (.ptr _ _ _ rfl) | exact .base (.map _ _ rfl) | exact .base (.nilown _ rfl)) ?_)) rfl⟩, ⟨_, rfl, (by first | exact .row _ _ _ _ _ _ _ rfl rfl | exact .lstrow _ _ _ _ _ _ _ rfl rfl | exact .nilrow _ _ _ _ _ rfl | exact .truncrow _ _ _ _ _ _ _ _ rfl (by omega) rfl)⟩, ⟨_, rfl, (by first | exact .row _ _ _ _ _ _ _ rfl (by rw [hs']; exact h2) | exact .lstrow _ _ _ _ _ _ _ rfl (by rw [hs']; exact h2) | exact .nilrow _ _ _ _ _ (by rw [hs']; exact h2) | exact .truncrow _ _ _ _ _ _ _ _ rfl (by omega) (by rw [hs']; exact h2))⟩, trivial⟩))
          rw [hs', hS]
          show nx2.length ≤ j + 1
          omega
        · have hd' : (mget es2 (j : Int)).isSome = false := hd
          rw [if_neg (by rw [show (mget (es2, nx2).1 (j : Int)).isSome = false from hd']; exact Bool.noConfusion)] at hS
          have hix := indexI_ok la (by omega) 38 [encDs l] [.int .i64 (j : Int)] (fun i => can l i.toNat j) (fun x hx => by
            have := cap1_ok l x j (i6'.2 x hx) ⟨by omega, by omega⟩
            rw [Int.toNat_natCast] at this
            exact this)
          have hlt := @firstI_lt Int (fun i => can l i.toNat j) la
          generalize firstI (fun i => can l i.toNat j) la = k at *
          conv => whnf
          repeat (first | (refine And.intro ⟨by omega, by omega⟩ ?_; conv => whnf) | (refine And.intro (by omega) (And.intro rfl ?_); conv => whnf) | (refine And.intro rfl ?_; conv => whnf) | (refine And.intro (fun _ => ⟨by omega, by omega⟩) ?_; conv => whnf) | (refine And.intro (fun _ => by omega) (And.intro rfl ?_); conv => whnf) | (refine And.intro ⟨(by first | omega | (simp; omega)), (by first | omega | (simp; omega))⟩ ?_; conv => whnf) | (refine Exists.intro _ (And.intro rfl (And.intro (by first | omega | (simp; omega)) (And.intro ⟨rfl, rfl, rfl, rfl, rfl⟩ ?_))); conv => whnf) | (refine And.intro ⟨rfl, rfl⟩ (And.intro (by first | omega | (simp; omega)) ?_); conv => whnf) | (refine Exists.intro _ (And.intro rfl ?_); conv => whnf) | (refine And.intro (fun _ => ?_) (fun h => absurd h (by decide)); conv => whnf) | (refine And.intro (fun h => absurd h (by decide)) (fun _ => ?_); conv => whnf) | (refine .eff (by first | exact cxOk _ _ | exact cxPOk _ _ _) ?_; conv => whnf))
          refine .one _ _ _ (fun _ => hix) (by repeat (first | exact .nil | (apply BorL.cons; first | exact lS rfl | exact lR rfl | exact lM rfl rfl | exact lL rfl | exact lX rfl | exact lN | exact lNl | exact lSm rfl | exact lIm rfl | exact lP rfl | exact lQ rfl | exact .fn _ _ _ _ _ _ _ (by repeat (first | exact .nil | (apply BorL.cons; first | exact .base (.same _ rfl) | exact .base (.row _ _ _ _ _ _ rfl) | exact .base (.smap _ _ _ _ rfl) | exact .base (.imap _ _ _ _ _ rfl) | exact .box _ _ _ _ _ _ rfl (by repeat (first | exact .nil | (apply BorL.cons; first | exact .same _ rfl | exact .row _ _ _ _ _ _ rfl | exact .lstrow _ _ _ _ _ _ _ rfl rfl | exact .lst _ _ _ _ rfl | exact .smap _ _ _ _ rfl | exact .imap _ _ _ _ _ rfl))) (by first | exact allOne_spec rfl | simp [AV.one])))) (by repeat (first | exact .nil | (apply BorL.cons; first | exact .base (.same _ rfl) | exact .base (.row _ _ _ _ _ _ rfl) | exact .base (.smap _ _ _ _ rfl) | exact .base (.imap _ _ _ _ _ rfl) | exact .box _ _ _ _ _ _ rfl (by repeat (first | exact .nil | (apply BorL.cons; first | exact .same _ rfl | exact .row _ _ _ _ _ _ rfl | exact .lstrow _ _ _ _ _ _ _ rfl rfl | exact .lst _ _ _ _ rfl | exact .smap _ _ _ _ rfl | exact .imap _ _ _ _ _ rfl))) (by first | exact allOne_spec rfl | simp [AV.one])))) | exact .box _ _ _ _ _ _ rfl (by repeat (first | exact .nil | (apply BorL.cons; first | exact .base (.same _ rfl) | exact .base (.row _ _ _ _ _ _ rfl) | exact .base (.smap _ _ _ _ rfl) | exact .base (.imap _ _ _ _ _ rfl) | exact .box _ _ _ _ _ _ rfl (by repeat (first | exact .nil | (apply BorL.cons; first | exact .same _ rfl | exact .row _ _ _ _ _ _ rfl | exact .lstrow _ _ _ _ _ _ _ rfl rfl | exact .lst _ _ _ _ rfl | exact .smap _ _ _ _ rfl | exact .imap _ _ _ _ _ rfl))) (by first | exact allOne_spec rfl | simp [AV.one])))) (by first | exact allOne_spec rfl | simp [AV.one]) | exact .agg _ _ _ (by repeat (first | exact .nil | (apply BorL.cons; first | exact .base (.same _ rfl) | exact .base (.row _ _ _ _ _ _ rfl) | exact .base (.smap _ _ _ _ rfl) | exact .base (.imap _ _ _ _ _ rfl) | exact .box _ _ _ _ _ _ rfl (by repeat (first | exact .nil | (apply BorL.cons; first | exact .same _ rfl | exact .row _ _ _ _ _ _ rfl | exact .lstrow _ _ _ _ _ _ _ rfl rfl | exact .lst _ _ _ _ rfl | exact .smap _ _ _ _ rfl | exact .imap _ _ _ _ _ rfl))) (by first | exact allOne_spec rfl | simp [AV.one]))))))) (by first | exact .inl rfl | exact .inr (by repeat (first | exact flats_nil | refine flats_cons (by first | exact flat_val _ rfl | exact flat_row (fun _ => rfl) | exact flat_lst (fun _ => rfl)) ?_))) (by first | exact .inl rfl | exact .inr rfl) ?_
          conv => whnf
          repeat (first | (refine And.intro ⟨by omega, by omega⟩ ?_; conv => whnf) | (refine And.intro (by omega) (And.intro rfl ?_); conv => whnf) | (refine And.intro rfl ?_; conv => whnf) | (refine And.intro (fun _ => ⟨by omega, by omega⟩) ?_; conv => whnf) | (refine And.intro (fun _ => by omega) (And.intro rfl ?_); conv => whnf) | (refine And.intro ⟨(by first | omega | (simp; omega)), (by first | omega | (simp; omega))⟩ ?_; conv => whnf) | (refine Exists.intro _ (And.intro rfl (And.intro (by first | omega | (simp; omega)) (And.intro ⟨rfl, rfl, rfl, rfl, rfl⟩ ?_))); conv => whnf) | (refine And.intro ⟨rfl, rfl⟩ (And.intro (by first | omega | (simp; omega)) ?_); conv => whnf) | (refine Exists.intro _ (And.intro rfl ?_); conv => whnf) | (refine And.intro (fun _ => ?_) (fun h => absurd h (by decide)); conv => whnf) | (refine And.intro (fun h => absurd h (by decide)) (fun _ => ?_); conv => whnf) | (refine .eff (by first | exact cxOk _ _ | exact cxPOk _ _ _) ?_; conv => whnf))
          refine ⟨fun hk2 => ?_, fun hk2 => ?_⟩
          · have hk2' : 0 ≤ k := of_decide_eq_true hk2
            have hkl := hlt hk2'
            rw [if_pos hk2'] at hS
            conv => whnf
            repeat (first | (refine And.intro ⟨by omega, by omega⟩ ?_; conv => whnf) | (refine And.intro (by omega) (And.intro rfl ?_); conv => whnf) | (refine And.intro rfl ?_; conv => whnf) | (refine And.intro (fun _ => ⟨by omega, by omega⟩) ?_; conv => whnf) | (refine And.intro (fun _ => by omega) (And.intro rfl ?_); conv => whnf) | (refine And.intro ⟨(by first | omega | (simp; omega)), (by first | omega | (simp; omega))⟩ ?_; conv => whnf) | (refine Exists.intro _ (And.intro rfl (And.intro (by first | omega | (simp; omega)) (And.intro ⟨rfl, rfl, rfl, rfl, rfl⟩ ?_))); conv => whnf) | (refine And.intro ⟨rfl, rfl⟩ (And.intro (by first | omega | (simp; omega)) ?_); conv => whnf) | (refine Exists.intro _ (And.intro rfl ?_); conv => whnf) | (refine And.intro (fun _ => ?_) (fun h => absurd h (by decide)); conv => whnf) | (refine And.intro (fun h => absurd h (by decide)) (fun _ => ?_); conv => whnf) | (refine .eff (by first | exact cxOk _ _ | exact cxPOk _ _ _) ?_; conv => whnf))
            refine And.intro ⟨rfl, rfl⟩ (And.intro (show (nx2.length + 1) * 8 ≤ 140737488355328 by omega) ?_)
            conv => whnf
            refine ⟨(j : Int), rfl, ?_⟩
            conv => whnf
            repeat (first | (refine And.intro ⟨by omega, by omega⟩ ?_; conv => whnf) | (refine And.intro (by omega) (And.intro rfl ?_); conv => whnf) | (refine And.intro rfl ?_; conv => whnf) | (refine And.intro (fun _ => ⟨by omega, by omega⟩) ?_; conv => whnf) | (refine And.intro (fun _ => by omega) (And.intro rfl ?_); conv => whnf) | (refine And.intro ⟨(by first | omega | (simp; omega)), (by first | omega | (simp; omega))⟩ ?_; conv => whnf) | (refine Exists.intro _ (And.intro rfl (And.intro (by first | omega | (simp; omega)) (And.intro ⟨rfl, rfl, rfl, rfl, rfl⟩ ?_))); conv => whnf) | (refine And.intro ⟨rfl, rfl⟩ (And.intro (by first | omega | (simp; omega)) ?_); conv => whnf) | (refine Exists.intro _ (And.intro rfl ?_); conv => whnf) | (refine And.intro (fun _ => ?_) (fun h => absurd h (by decide)); conv => whnf) | (refine And.intro (fun h => absurd h (by decide)) (fun _ => ?_); conv => whnf) | (refine .eff (by first | exact cxOk _ _ | exact cxPOk _ _ _) ?_; conv => whnf))
            refine ⟨⟨j, la.getD k.toNat 0, r, day⟩, rfl, ?_⟩
            conv => whnf
            refine ⟨by kernel_rfl, ?_⟩
            conv => whnf
            repeat (first | (refine And.intro ⟨by omega, by omega⟩ ?_; conv => whnf) | (refine And.intro (by omega) (And.intro rfl ?_); conv => whnf) | (refine And.intro rfl ?_; conv => whnf) | (refine And.intro (fun _ => ⟨by omega, by omega⟩) ?_; conv => whnf) | (refine And.intro (fun _ => by omega) (And.intro rfl ?_); conv => whnf) | (refine And.intro ⟨(by first | omega | (simp; omega)), (by first | omega | (simp; omega))⟩ ?_; conv => whnf) | (refine Exists.intro _ (And.intro rfl (And.intro (by first | omega | (simp; omega)) (And.intro ⟨rfl, rfl, rfl, rfl, rfl⟩ ?_))); conv => whnf) | (refine And.intro ⟨rfl, rfl⟩ (And.intro (by first | omega | (simp; omega)) ?_); conv => whnf) | (refine Exists.intro _ (And.intro rfl ?_); conv => whnf) | (refine And.intro (fun _ => ?_) (fun h => absurd h (by decide)); conv => whnf) | (refine And.intro (fun h => absurd h (by decide)) (fun _ => ?_); conv => whnf) | (refine .eff (by first | exact cxOk _ _ | exact cxPOk _ _ _) ?_; conv => whnf))
            have h1 : mset es2 (j : Int) ⟨j, la.getD k.toNat 0, r, day⟩ = s'.1 := by rw [hS]
            have h2 : nx2 ++ [(j : Int)] = s'.2 := by rw [hS]
            refine up hjt ?_ ((wk_of [(0, .id 0), (1, .id 1), (2, .id 2), (3, .id 7)] rfl ⟨.base (.map _ _ rfl), .base (.tree _ _ rfl rfl), .base (.ptr _ _ _ rfl), (by first | exact .base (.own _ _ rfl) | exact .base (.nilown _ rfl) | exact .base (.trunc _ _ _ rfl)), .base (.tree _ _ rfl rfl), (by first | exact .base (.own _ _ rfl) | exact .base (.nilown _ rfl) | exact .base (.trunc _ _ _ rfl)), .base (.tree _ _ rfl rfl), .base (.tree _ _ rfl rfl), trivial⟩ ⟨⟨_, rfl, (by first | exact .imap _ _ _ _ _ _ rfl (by rw [hs']; exact h1) | exact .newimap _ _ _ _ _ _ _ _ rfl rfl (by rw [hs']; exact h1))⟩, ⟨_, rfl, .cells _ _ _ _ rfl (by repeat (first | exact .nil | refine .cons (by first | exact .base (.tree _ _ rfl rfl) | exact .base (.own _ _ rfl) | exact .base (.ptr _ _ _ rfl) | exact .base (.map _ _ rfl) | exact .base (.nilown _ rfl)) ?_)) rfl⟩, ⟨_, rfl, (by first | exact .row _ _ _ _ _ _ _ rfl rfl | exact .lstrow _ _ _ _ _ _ _ rfl rfl | exact .nilrow _ _ _ _ _ rfl | exact .truncrow _ _ _ _ _ _ _ _ rfl (by omega) rfl)⟩, ⟨_, rfl, (by first | exact .row _ _ _ _ _ _ _ rfl (by rw [hs']; exact h2) | exact .lstrow _ _ _ _ _ _ _ rfl (by rw [hs']; exact h2) | exact .nilrow _ _ _ _ _ (by rw [hs']; exact h2) | exact .truncrow _ _ _ _ _ _ _ _ rfl (by omega) (by rw [hs']; exact h2))⟩, trivial⟩))
            rw [hs', hS]
            show (nx2 ++ [(j : Int)]).length ≤ j + 1
            rw [List.length_append]
            show nx2.length + 1 ≤ j + 1
            omega
          · have hk2' : ¬ 0 ≤ k := of_decide_eq_false hk2
            rw [if_neg hk2'] at hS
            have h1 : es2 = s'.1 := by rw [hS]
            have h2 : nx2 = s'.2 := by rw [hS]
            conv => whnf
            repeat (first | (refine And.intro ⟨by omega, by omega⟩ ?_; conv => whnf) | (refine And.intro (by omega) (And.intro rfl ?_); conv => whnf) | (refine And.intro rfl ?_; conv => whnf) | (refine And.intro (fun _ => ⟨by omega, by omega⟩) ?_; conv => whnf) | (refine And.intro (fun _ => by omega) (And.intro rfl ?_); conv => whnf) | (refine And.intro ⟨(by first | omega | (simp; omega)), (by first | omega | (simp; omega))⟩ ?_; conv => whnf) | (refine Exists.intro _ (And.intro rfl (And.intro (by first | omega | (simp; omega)) (And.intro ⟨rfl, rfl, rfl, rfl, rfl⟩ ?_))); conv => whnf) | (refine And.intro ⟨rfl, rfl⟩ (And.intro (by first | omega | (simp; omega)) ?_); conv => whnf) | (refine Exists.intro _ (And.intro rfl ?_); conv => whnf) | (refine And.intro (fun _ => ?_) (fun h => absurd h (by decide)); conv => whnf) | (refine And.intro (fun h => absurd h (by decide)) (fun _ => ?_); conv => whnf) | (refine .eff (by first | exact cxOk _ _ | exact cxPOk _ _ _) ?_; conv => whnf))
            refine up hjt ?_ ((wk_of [(0, .id 0), (1, .id 1), (2, .id 2), (3, .id 3)] rfl ⟨.base (.map _ _ rfl), .base (.tree _ _ rfl rfl), .base (.ptr _ _ _ rfl), (by first | exact .base (.own _ _ rfl) | exact .base (.nilown _ rfl) | exact .base (.trunc _ _ _ rfl)), .base (.tree _ _ rfl rfl), (by first | exact .base (.own _ _ rfl) | exact .base (.nilown _ rfl) | exact .base (.trunc _ _ _ rfl)), .base (.tree _ _ rfl rfl), .base (.tree _ _ rfl rfl), trivial⟩ ⟨⟨_, rfl, (by first | exact .imap _ _ _ _ _ _ rfl (by rw [hs']; exact h1) | exact .newimap _ _ _ _ _ _ _ _ rfl rfl (by rw [hs']; exact h1))⟩, ⟨_, rfl, .cells _ _ _ _ rfl (by repeat (first | exact .nil | refine .cons (by first | exact .base (.tree _ _ rfl rfl) | exact .base (.own _ _ rfl) | exact .base (.ptr _ _ _ rfl) | exact .base (.map _ _ rfl) | exact .base (.nilown _ rfl)) ?_)) rfl⟩, ⟨_, rfl, (by first | exact .row _ _ _ _ _ _ _ rfl rfl | exact .lstrow _ _ _ _ _ _ _ rfl rfl | exact .nilrow _ _ _ _ _ rfl | exact .truncrow _ _ _ _ _ _ _ _ rfl (by omega) rfl)⟩, ⟨_, rfl, (by first | exact .row _ _ _ _ _ _ _ rfl (by rw [hs']; exact h2) | exact .lstrow _ _ _ _ _ _ _ rfl (by rw [hs']; exact h2) | exact .nilrow _ _ _ _ _ (by rw [hs']; exact h2) | exact .truncrow _ _ _ _ _ _ _ _ rfl (by omega) (by rw [hs']; exact h2))⟩, trivial⟩))
            rw [hs', hS]
            show nx2.length ≤ j + 1
            omega
      · simp only [decide_eq_false_iff_not] at hc3
        obtain rfl : j = l.length := by omega
        clear hP
        obtain ⟨t1, t2, t3⟩ := hstep r es1 la i5' i6' hla
        have hrr : ∀ f0, f = f0 + 1 → rounds l day f0 (r + 1) (step l day (r : Int) es1 la l.length) = spreadL l day es := by
          rintro f0 rfl
          rw [← i1']
          show _ = if la = [] then es1 else _
          rw [if_neg hla]
        generalize hss : step l day (r : Int) es1 la l.length = s at *
        obtain ⟨es2, nx2⟩ := s
        conv => whnf
        repeat (first | (refine And.intro ⟨by omega, by omega⟩ ?_; conv => whnf) | (refine And.intro (by omega) (And.intro rfl ?_); conv => whnf) | (refine And.intro rfl ?_; conv => whnf) | (refine And.intro (fun _ => ⟨by omega, by omega⟩) ?_; conv => whnf) | (refine And.intro (fun _ => by omega) (And.intro rfl ?_); conv => whnf) | (refine And.intro ⟨(by first | omega | (simp; omega)), (by first | omega | (simp; omega))⟩ ?_; conv => whnf) | (refine Exists.intro _ (And.intro rfl (And.intro (by first | omega | (simp; omega)) (And.intro ⟨rfl, rfl, rfl, rfl, rfl⟩ ?_))); conv => whnf) | (refine And.intro ⟨rfl, rfl⟩ (And.intro (by first | omega | (simp; omega)) ?_); conv => whnf) | (refine Exists.intro _ (And.intro rfl ?_); conv => whnf) | (refine And.intro (fun _ => ?_) (fun h => absurd h (by decide)); conv => whnf) | (refine And.intro (fun h => absurd h (by decide)) (fun _ => ?_); conv => whnf) | (refine .eff (by first | exact cxOk _ _ | exact cxPOk _ _ _) ?_; conv => whnf))
        refine ⟨(f - 1, r + 1, es2, nx2), ⟨hrr (f - 1) (by omega), (show r + 1 ≤ 2 * l.length + 3 by omega), (show f - 1 + (r + 1) = 2 * l.length + 3 by omega), (show muF l (es2, nx2) ≤ f - 1 by omega), t1, t2⟩, (show f - 1 < f by omega), (wk_of [(0, .id 0), (1, .id 1), (2, .id 3)] rfl ⟨.base (.map _ _ rfl), .base (.tree _ _ rfl rfl), .base (.ptr _ _ _ rfl), (by first | exact .base (.own _ _ rfl) | exact .base (.nilown _ rfl) | exact .base (.trunc _ _ _ rfl)), .base (.tree _ _ rfl rfl), trivial⟩ ⟨⟨_, rfl, (by first | exact .imap _ _ _ _ _ _ rfl rfl | exact .newimap _ _ _ _ _ _ _ _ rfl rfl rfl)⟩, ⟨_, rfl, .cells _ _ _ _ rfl (by repeat (first | exact .nil | refine .cons (by first | exact .base (.tree _ _ rfl rfl) | exact .base (.own _ _ rfl) | exact .base (.ptr _ _ _ rfl) | exact .base (.map _ _ rfl) | exact .base (.nilown _ rfl)) ?_)) rfl⟩, ⟨_, rfl, (by first | exact .row _ _ _ _ _ _ _ rfl rfl | exact .lstrow _ _ _ _ _ _ _ rfl rfl | exact .nilrow _ _ _ _ _ rfl | exact .truncrow _ _ _ _ _ _ _ _ rfl (by omega) rfl)⟩, trivial⟩)⟩
    · have hc2' : decide (0 < (la.length : Int)) = false := hc2
      simp only [decide_eq_false_iff_not] at hc2'
      have hla : la = [] := List.eq_nil_of_length_eq_zero (by omega)
      subst hla
      have : rounds l day f r (es1, []) = es1 := by
        cases f with
        | zero => rfl
        | succ f => rfl
      rw [this] at i1'
      rw [← i1']
      conv => whnf
      exact ⟨rfl, rfl⟩

end Go.Proofs.Ytkldidgcgioceaa
