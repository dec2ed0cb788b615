import Derived.Test.YtcabodhhdeecgaaF7
import Derived.Test.YtcabodhhdeecgaaOwnZ10
namespace Go.Proofs.Ytcabodhhdeecgaa
open Go.Own Go.Proofs.Fav
set_option maxHeartbeats 2000000
set_option maxRecDepth 100000

/-! ### The example -/
def threeL : List J := [⟨[97], 1, [[98]]⟩, ⟨[98], 0, [[99]]⟩, ⟨[99], 1, []⟩]
def covA : AV := .lsl 7 [.agg [.str [120], .int .i64 0, .int .i64 0, .int .i64 0, .str [], .nils, .int .i64 0]]
def issA (n : List UInt8) (c f : AV) : AV := .agg [.str n, .str [], .int .i64 0, .int .i64 0, .int .i64 0, .int .i64 0, .int .i64 0, .int .i64 0, .int .i64 0, .int .i64 0, .nils, .int .i64 0, .int .i64 0, .int .i64 0, .str [], .nils, .int .i64 0, c, f, .int .i64 0, .nils, .int .i64 0, .int .i64 0, .int .i64 0, .int .i64 0]
def threeA : List AV := [issA [97] covA (.lsl 1 [.str [98]]), issA [98] .nils (.lsl 1 [.str [99]]), issA [99] covA .nils]
theorem three_raw : APure Try.prog 15 [] (fun rs => rs = [.new (.lst 48 25 threeA)]) := by
  refine apure_of (C := cx 12 [0, 1]) (cxOk _ _) Try.func15 rfl (by decide) rfl (by exact Nat.le_of_ble_eq_true rfl) (by decide) ?_
  conv => whnf
  rfl

theorem cov_let : LeT covA (.sl 7 encU () [()]) := by
  refine LeT.trans (b := .lsl 7 [encU ()]) ?_ (LeT.lsl_sl encU () [()] rfl)
  refine LeT.lsl rfl (fun x hx => ?_) (fun a ha => ?_) ?_
  · simp at hx; subst hx; rfl
  · obtain ⟨x, hx, hax⟩ := List.mem_flatMap.1 ha
    simp at hx
    subst hx
    simp [encU, AV.cells] at hax
    subst hax
    rfl
  · show LeTs [.str [120], .int .i64 0, .int .i64 0, .int .i64 0, .str [], .nils, .int .i64 0] [.any1, .any1, .any1, .any1, .any1, .any1, .any1]
    repeat (first | exact .nil | refine .cons (LeT.any1 rfl) ?_)

theorem three_ok : APureV Try.prog 15 [] (encJs threeL) := by
  refine three_raw.freeze1.leT ?_
  intro S w v h
  have h' : RelT S w v (.lsl 25 threeA) := h
  refine .sl _ _ _ _ _ (LeT.lsl (l := threeA) (r := threeL.map encJ) rfl (fun x hx => ?_) (fun a ha => ?_) ?_ S w v h')
  · obtain ⟨y, _, rfl⟩ := List.mem_map.1 hx
    rfl
  · obtain ⟨x, hx, hax⟩ := List.mem_flatMap.1 ha
    obtain ⟨y, _, rfl⟩ := List.mem_map.1 hx
    simp [encJ, AV.cells] at hax
    rcases hax with rfl | rfl | rfl | rfl | rfl <;> rfl
  · show LeTs (flat [issA [97] covA (.lsl 1 [.str [98]]), issA [98] .nils (.lsl 1 [.str [99]]), issA [99] covA .nils]) (flat [encJ ⟨[97], 1, [[98]]⟩, encJ ⟨[98], 0, [[99]]⟩, encJ ⟨[99], 1, []⟩])
    repeat (first | exact .nil | refine .cons (by first | exact LeT.refl _ | exact cov_let | exact LeT.nils_sl _ _ _ | exact LeT.lsl_sl _ _ _ rfl | exact LeT.any1 rfl) ?_)

theorem sc_three : sc [5, 9, 7] = [5, 7, 9] := by
  refine ascI_eq (sc_asc _) (by decide) fun x => ?_
  rw [sc_mem]
  simp
  omega
theorem clos_three : clos threeL [5, 9, 7] [5, 7, 9] = [[⟨0, 0, 5, [0]⟩, ⟨2, 0, 9, [0, 1, 2]⟩], [⟨2, 0, 9, [1, 2]⟩], [⟨2, 0, 7, [2]⟩]] := by rfl
theorem err_three : errE threeL [5, 9, 7] = 0 := by decide

theorem small_ok : APureV Try.prog 8 [] (.bool true) := by
  have hc := closure_ok threeL [5, 9, 7] (by decide)
  rw [if_pos err_three, sc_three, clos_three] at hc
  have t1 := is_ok ⟨0, 0, 5, [0]⟩ 0 0 5 [0] (by decide) (by decide)
  have t2 := is_ok ⟨2, 0, 9, [0, 1, 2]⟩ 2 0 9 [0, 1, 2] (by decide) (by decide)
  have t3 := is_ok ⟨2, 0, 9, [1, 2]⟩ 2 0 9 [1, 2] (by decide) (by decide)
  have t4 := is_ok ⟨2, 0, 7, [2]⟩ 2 0 7 [2] (by decide) (by decide)
  rw [show isB ⟨0, 0, 5, [0]⟩ 0 0 5 [0] = true by decide] at t1
  rw [show isB ⟨2, 0, 9, [0, 1, 2]⟩ 2 0 9 [0, 1, 2] = true by decide] at t2
  rw [show isB ⟨2, 0, 9, [1, 2]⟩ 2 0 9 [1, 2] = true by decide] at t3
  rw [show isB ⟨2, 0, 7, [2]⟩ 2 0 7 [2] = true by decide] at t4
  refine apure_of (C := cx 69 [0, 1, 2, 15, 34]) (cxOk _ _) Try.func8 rfl (by decide) rfl (by exact Nat.le_of_ble_eq_true rfl) (by decide) ?_
  conv => whnf
  refine .one _ _ _ (fun _ => three_ok) (by repeat (first | exact .nil | (apply BorL.cons; first | exact lS rfl | exact lR rfl | exact lM rfl rfl | exact lL rfl | exact lX rfl | exact lN | exact lNl | exact lSm rfl | exact lIm rfl | exact lP rfl | exact lQ rfl | exact lB rfl rfl rfl))) (by first | exact .inl rfl | exact .inr (by repeat (first | exact flats_nil | refine flats_cons (by first | exact flat_val _ rfl | exact flat_row (fun _ => rfl) | exact flat_lst (fun _ => rfl)) ?_))) (by first | exact .inl rfl | exact .inr rfl) ?_
  conv => whnf
  repeat (first | (refine And.intro ⟨by omega, by omega⟩ ?_; conv => whnf) | (refine And.intro (by omega) (And.intro rfl ?_); conv => whnf) | (refine And.intro rfl ?_; conv => whnf) | (refine And.intro (fun _ => ⟨by omega, by omega⟩) ?_; conv => whnf) | (refine And.intro (fun _ => by omega) (And.intro rfl ?_); conv => whnf) | (refine And.intro ⟨(by first | omega | (simp; omega)), (by first | omega | (simp; omega))⟩ ?_; conv => whnf) | (refine Exists.intro _ (And.intro rfl (And.intro (by first | omega | (simp; omega)) (And.intro ⟨rfl, rfl, rfl, rfl, rfl⟩ ?_))); conv => whnf) | (refine And.intro ⟨rfl, rfl⟩ (And.intro (by first | omega | (simp; omega)) ?_); conv => whnf) | (refine Exists.intro _ (And.intro rfl ?_); conv => whnf) | (refine And.intro (fun _ => ?_) (fun h => absurd h (by decide)); conv => whnf) | (refine And.intro (fun h => absurd h (by decide)) (fun _ => ?_); conv => whnf) | (refine .quiet (by kernel_rfl) ?_; conv => whnf))
  refine .raw _ _ rfl (fun h => by cases h) (giv_sem (hc) (by repeat (first | exact .nil | (apply BorL.cons; first | exact lS rfl | exact lR rfl | exact lM rfl rfl | exact lL rfl | exact lX rfl | exact lN | exact lNl | exact lSm rfl | exact lIm rfl | exact lP rfl | exact lQ rfl | exact lB rfl rfl rfl)))) ?_
  rintro r rfl
  refine ⟨tn_ge _ _, ?_⟩
  conv => whnf
  repeat (first | (refine And.intro ⟨by first | omega | decide, by first | omega | decide⟩ ?_; conv => whnf) | (refine And.intro (by first | omega | decide) (And.intro rfl ?_); conv => whnf) | (refine And.intro rfl ?_; conv => whnf) | (refine And.intro (fun _ => ⟨by first | omega | decide, by first | omega | decide⟩) ?_; conv => whnf) | (refine And.intro (fun _ => by first | omega | decide) (And.intro rfl ?_); conv => whnf) | (refine And.intro ⟨(by first | omega | (simp; omega)), (by first | omega | (simp; omega))⟩ ?_; conv => whnf) | (refine Exists.intro _ (And.intro rfl (And.intro (by first | omega | (simp; omega)) (And.intro ⟨rfl, rfl, rfl, rfl, rfl⟩ ?_))); conv => whnf) | (refine And.intro ⟨rfl, rfl⟩ (And.intro (by first | omega | (simp; omega)) ?_); conv => whnf) | (refine Exists.intro _ (And.intro rfl ?_); conv => whnf) | (refine And.intro (fun _ => ?_) (fun h => absurd h (by decide)); conv => whnf) | (refine And.intro (fun h => absurd h (by decide)) (fun _ => ?_); conv => whnf) | (refine .quiet (by kernel_rfl) ?_; conv => whnf))
  refine .one _ _ _ (fun _ => t1) (by repeat (first | exact .nil | (apply BorL.cons; first | exact lS rfl | exact lR rfl | exact lM rfl rfl | exact lL rfl | exact lX rfl | exact lN | exact lNl | exact lSm rfl | exact lIm rfl | exact lP rfl | exact lQ rfl | exact lB rfl rfl rfl))) (by first | exact .inl rfl | exact .inr (by repeat (first | exact flats_nil | refine flats_cons (by first | exact flat_val _ rfl | exact flat_row (fun _ => rfl) | exact flat_lst (fun _ => rfl)) ?_))) (by first | exact .inl rfl | exact .inr rfl) ?_
  conv => whnf
  repeat (first | (refine And.intro ⟨by first | omega | decide, by first | omega | decide⟩ ?_; conv => whnf) | (refine And.intro (by first | omega | decide) (And.intro rfl ?_); conv => whnf) | (refine And.intro rfl ?_; conv => whnf) | (refine And.intro (fun _ => ⟨by first | omega | decide, by first | omega | decide⟩) ?_; conv => whnf) | (refine And.intro (fun _ => by first | omega | decide) (And.intro rfl ?_); conv => whnf) | (refine And.intro ⟨(by first | omega | (simp; omega)), (by first | omega | (simp; omega))⟩ ?_; conv => whnf) | (refine Exists.intro _ (And.intro rfl (And.intro (by first | omega | (simp; omega)) (And.intro ⟨rfl, rfl, rfl, rfl, rfl⟩ ?_))); conv => whnf) | (refine And.intro ⟨rfl, rfl⟩ (And.intro (by first | omega | (simp; omega)) ?_); conv => whnf) | (refine Exists.intro _ (And.intro rfl ?_); conv => whnf) | (refine And.intro (fun _ => ?_) (fun h => absurd h (by decide)); conv => whnf) | (refine And.intro (fun h => absurd h (by decide)) (fun _ => ?_); conv => whnf) | (refine .quiet (by kernel_rfl) ?_; conv => whnf))
  refine .one _ _ _ (fun _ => t2) (by repeat (first | exact .nil | (apply BorL.cons; first | exact lS rfl | exact lR rfl | exact lM rfl rfl | exact lL rfl | exact lX rfl | exact lN | exact lNl | exact lSm rfl | exact lIm rfl | exact lP rfl | exact lQ rfl | exact lB rfl rfl rfl))) (by first | exact .inl rfl | exact .inr (by repeat (first | exact flats_nil | refine flats_cons (by first | exact flat_val _ rfl | exact flat_row (fun _ => rfl) | exact flat_lst (fun _ => rfl)) ?_))) (by first | exact .inl rfl | exact .inr rfl) ?_
  conv => whnf
  repeat (first | (refine And.intro ⟨by first | omega | decide, by first | omega | decide⟩ ?_; conv => whnf) | (refine And.intro (by first | omega | decide) (And.intro rfl ?_); conv => whnf) | (refine And.intro rfl ?_; conv => whnf) | (refine And.intro (fun _ => ⟨by first | omega | decide, by first | omega | decide⟩) ?_; conv => whnf) | (refine And.intro (fun _ => by first | omega | decide) (And.intro rfl ?_); conv => whnf) | (refine And.intro ⟨(by first | omega | (simp; omega)), (by first | omega | (simp; omega))⟩ ?_; conv => whnf) | (refine Exists.intro _ (And.intro rfl (And.intro (by first | omega | (simp; omega)) (And.intro ⟨rfl, rfl, rfl, rfl, rfl⟩ ?_))); conv => whnf) | (refine And.intro ⟨rfl, rfl⟩ (And.intro (by first | omega | (simp; omega)) ?_); conv => whnf) | (refine Exists.intro _ (And.intro rfl ?_); conv => whnf) | (refine And.intro (fun _ => ?_) (fun h => absurd h (by decide)); conv => whnf) | (refine And.intro (fun h => absurd h (by decide)) (fun _ => ?_); conv => whnf) | (refine .quiet (by kernel_rfl) ?_; conv => whnf))
  refine .one _ _ _ (fun _ => t3) (by repeat (first | exact .nil | (apply BorL.cons; first | exact lS rfl | exact lR rfl | exact lM rfl rfl | exact lL rfl | exact lX rfl | exact lN | exact lNl | exact lSm rfl | exact lIm rfl | exact lP rfl | exact lQ rfl | exact lB rfl rfl rfl))) (by first | exact .inl rfl | exact .inr (by repeat (first | exact flats_nil | refine flats_cons (by first | exact flat_val _ rfl | exact flat_row (fun _ => rfl) | exact flat_lst (fun _ => rfl)) ?_))) (by first | exact .inl rfl | exact .inr rfl) ?_
  conv => whnf
  repeat (first | (refine And.intro ⟨by first | omega | decide, by first | omega | decide⟩ ?_; conv => whnf) | (refine And.intro (by first | omega | decide) (And.intro rfl ?_); conv => whnf) | (refine And.intro rfl ?_; conv => whnf) | (refine And.intro (fun _ => ⟨by first | omega | decide, by first | omega | decide⟩) ?_; conv => whnf) | (refine And.intro (fun _ => by first | omega | decide) (And.intro rfl ?_); conv => whnf) | (refine And.intro ⟨(by first | omega | (simp; omega)), (by first | omega | (simp; omega))⟩ ?_; conv => whnf) | (refine Exists.intro _ (And.intro rfl (And.intro (by first | omega | (simp; omega)) (And.intro ⟨rfl, rfl, rfl, rfl, rfl⟩ ?_))); conv => whnf) | (refine And.intro ⟨rfl, rfl⟩ (And.intro (by first | omega | (simp; omega)) ?_); conv => whnf) | (refine Exists.intro _ (And.intro rfl ?_); conv => whnf) | (refine And.intro (fun _ => ?_) (fun h => absurd h (by decide)); conv => whnf) | (refine And.intro (fun h => absurd h (by decide)) (fun _ => ?_); conv => whnf) | (refine .quiet (by kernel_rfl) ?_; conv => whnf))
  refine .one _ _ _ (fun _ => t4) (by repeat (first | exact .nil | (apply BorL.cons; first | exact lS rfl | exact lR rfl | exact lM rfl rfl | exact lL rfl | exact lX rfl | exact lN | exact lNl | exact lSm rfl | exact lIm rfl | exact lP rfl | exact lQ rfl | exact lB rfl rfl rfl))) (by first | exact .inl rfl | exact .inr (by repeat (first | exact flats_nil | refine flats_cons (by first | exact flat_val _ rfl | exact flat_row (fun _ => rfl) | exact flat_lst (fun _ => rfl)) ?_))) (by first | exact .inl rfl | exact .inr rfl) ?_
  conv => whnf
  repeat (first | (refine And.intro ⟨by first | omega | decide, by first | omega | decide⟩ ?_; conv => whnf) | (refine And.intro (by first | omega | decide) (And.intro rfl ?_); conv => whnf) | (refine And.intro rfl ?_; conv => whnf) | (refine And.intro (fun _ => ⟨by first | omega | decide, by first | omega | decide⟩) ?_; conv => whnf) | (refine And.intro (fun _ => by first | omega | decide) (And.intro rfl ?_); conv => whnf) | (refine And.intro ⟨(by first | omega | (simp; omega)), (by first | omega | (simp; omega))⟩ ?_; conv => whnf) | (refine Exists.intro _ (And.intro rfl (And.intro (by first | omega | (simp; omega)) (And.intro ⟨rfl, rfl, rfl, rfl, rfl⟩ ?_))); conv => whnf) | (refine And.intro ⟨rfl, rfl⟩ (And.intro (by first | omega | (simp; omega)) ?_); conv => whnf) | (refine Exists.intro _ (And.intro rfl ?_); conv => whnf) | (refine And.intro (fun _ => ?_) (fun h => absurd h (by decide)); conv => whnf) | (refine And.intro (fun h => absurd h (by decide)) (fun _ => ?_); conv => whnf) | (refine .quiet (by kernel_rfl) ?_; conv => whnf))
  rfl

/-! ### Limits -/
structure SmallJ (x : J) : Prop where
  name : x.name.length ≤ 30
  fav : x.fav.length ≤ 6
  cov : x.ncov ≤ 6
  each : ∀ n, n < x.fav.length → (x.fav.getD n []).length ≤ 30
instance (x : J) : Decidable (SmallJ x) := decidable_of_iff (x.name.length ≤ 30 ∧ x.fav.length ≤ 6 ∧ x.ncov ≤ 6 ∧ ∀ n, n < x.fav.length → (x.fav.getD n []).length ≤ 30) ⟨fun h => ⟨h.1, h.2.1, h.2.2.1, h.2.2.2⟩, fun h => ⟨h.1, h.2, h.3, h.4⟩⟩
structure Few (l : List J) (days : List Int) (n : Nat) : Prop where
  len : l.length ≤ n
  days : days.length ≤ 20
  each : ∀ k, k < l.length → SmallJ (l.getD k j0)
instance (l : List J) (days : List Int) (n : Nat) : Decidable (Few l days n) := decidable_of_iff (l.length ≤ n ∧ days.length ≤ 20 ∧ ∀ k, k < l.length → SmallJ (l.getD k j0)) ⟨fun h => ⟨h.1, h.2.1, h.2.2⟩, fun h => ⟨h.1, h.2, h.3⟩⟩

theorem few_ok (l : List J) (days : List Int) (n : Nat) (hl : l.length ≤ 9223372036854775807) : APureV Try.prog 9 [encJs l, encIs days, .int .i64 n] (.bool (decide (Few l days n))) := by
  refine apure_of (C := cx 69 [0, 1, 2, 6, 7, 8, 17, 21, 48, 56, 68]) (cxOk _ _) Try.func9 rfl (by decide) rfl (by exact Nat.le_of_ble_eq_true rfl) (by decide) ?_
  conv => whnf
  refine ⟨fun hc => ?_, fun hc => ?_⟩
  · have hc' : (decide ((n : Int) < (l.length : Int)) || decide (20 < (days.length : Int))) = true := hc
    have : decide (Few l days n) = false := by
      rw [decide_eq_false_iff_not]
      intro h
      have h1 := h.len
      have h2 := h.days
      simp only [Bool.or_eq_true, decide_eq_true_eq] at hc'
      omega
    rw [this]
    conv => whnf
    rfl
  have hc' : (decide ((n : Int) < (l.length : Int)) || decide (20 < (days.length : Int))) = false := hc
  simp only [Bool.or_eq_false_iff, decide_eq_false_iff_not] at hc'
  conv => whnf
  refine loop_up (cxOk _ _) l.length (fun k => ∀ j, j < k → SmallJ (l.getD j j0)) (fun k => ⟨[(0, encJs l), (1, encIs days), (2, .int .i64 n), (7, .int .i64 (k : Nat))], [], 0⟩) (by intro j hj; omega) (wk_of [] rfl ⟨.base (.tree _ _ rfl rfl), .base (.tree _ _ rfl rfl), .base (.tree _ _ rfl rfl), .base (.tree _ _ rfl rfl), trivial⟩ trivial) ?_
  intro k hk hP
  conv => whnf
  refine ⟨fun hd => ?_, fun hd => ?_⟩
  · have hkt : k < l.length := by
      have := of_decide_eq_true hd
      omega
    have hek : (k : Int).toNat = k := Int.toNat_natCast k
    generalize hx : l.getD k j0 = x at *
    conv => whnf
    repeat (first | (refine And.intro ⟨by omega, by omega⟩ ?_; conv => whnf) | (refine And.intro (by omega) (And.intro rfl ?_); conv => whnf) | (refine And.intro rfl ?_; conv => whnf) | (refine And.intro (fun _ => ⟨by omega, by omega⟩) ?_; conv => whnf) | (refine And.intro (fun _ => by omega) (And.intro rfl ?_); conv => whnf) | (refine And.intro ⟨(by first | omega | (simp; omega)), (by first | omega | (simp; omega))⟩ ?_; conv => whnf) | (refine Exists.intro _ (And.intro rfl (And.intro (by first | omega | (simp; omega)) (And.intro ⟨rfl, rfl, rfl, rfl, rfl⟩ ?_))); conv => whnf) | (refine And.intro ⟨rfl, rfl⟩ (And.intro (by first | omega | (simp; omega)) ?_); conv => whnf) | (refine Exists.intro _ (And.intro rfl ?_); conv => whnf) | (refine And.intro (fun _ => ?_) (fun h => absurd h (by decide)); conv => whnf) | (refine And.intro (fun h => absurd h (by decide)) (fun _ => ?_); conv => whnf) | (refine .quiet (by kernel_rfl) ?_; conv => whnf))
    rw [hek, hx, List.length_replicate]
    refine ⟨fun he => ?_, fun he => ?_⟩
    · have he' : ((decide (30 < (x.name.length : Int)) || decide (6 < (x.fav.length : Int))) || decide (6 < (x.ncov : Int))) = true := he
      have : decide (Few l days n) = false := by
        rw [decide_eq_false_iff_not]
        intro h
        have h1 := h.each k hkt
        rw [hx] at h1
        have := h1.name
        have := h1.fav
        have := h1.cov
        simp only [Bool.or_eq_true, decide_eq_true_eq] at he'
        omega
      rw [this]
      conv => whnf
      rfl
    · have he' : ((decide (30 < (x.name.length : Int)) || decide (6 < (x.fav.length : Int))) || decide (6 < (x.ncov : Int))) = false := he
      simp only [Bool.or_eq_false_iff, decide_eq_false_iff_not] at he'
      conv => whnf
      refine loop_up (cxOk _ _) x.fav.length (fun m => ∀ j, j < m → (x.fav.getD j []).length ≤ 30) (fun m => ⟨[(0, encJs l), (1, encIs days), (2, .int .i64 n), (7, .int .i64 (k : Nat)), (8, .int .i64 (m : Nat))], [], 0⟩) (by intro j hj; omega) (wk_of [] rfl ⟨.base (.tree _ _ rfl rfl), .base (.tree _ _ rfl rfl), .base (.tree _ _ rfl rfl), .base (.tree _ _ rfl rfl), .base (.tree _ _ rfl rfl), trivial⟩ trivial) ?_
      intro m hm hP2
      have hem : (m : Int).toNat = m := Int.toNat_natCast m
      conv => whnf
      repeat (first | (refine And.intro ⟨by omega, by omega⟩ ?_; conv => whnf) | (refine And.intro (by omega) (And.intro rfl ?_); conv => whnf) | (refine And.intro rfl ?_; conv => whnf) | (refine And.intro (fun _ => ⟨by omega, by omega⟩) ?_; conv => whnf) | (refine And.intro (fun _ => by omega) (And.intro rfl ?_); conv => whnf) | (refine And.intro ⟨(by first | omega | (simp; omega)), (by first | omega | (simp; omega))⟩ ?_; conv => whnf) | (refine Exists.intro _ (And.intro rfl (And.intro (by first | omega | (simp; omega)) (And.intro ⟨rfl, rfl, rfl, rfl, rfl⟩ ?_))); conv => whnf) | (refine And.intro ⟨rfl, rfl⟩ (And.intro (by first | omega | (simp; omega)) ?_); conv => whnf) | (refine Exists.intro _ (And.intro rfl ?_); conv => whnf) | (refine And.intro (fun _ => ?_) (fun h => absurd h (by decide)); conv => whnf) | (refine And.intro (fun h => absurd h (by decide)) (fun _ => ?_); conv => whnf) | (refine .quiet (by kernel_rfl) ?_; conv => whnf))
      rw [hek, hx]
      refine ⟨fun hf => ?_, fun hf => ?_⟩
      · have hmt : m < x.fav.length := by
          have := of_decide_eq_true hf
          omega
        conv => whnf
        repeat (first | (refine And.intro ⟨by omega, by omega⟩ ?_; conv => whnf) | (refine And.intro (by omega) (And.intro rfl ?_); conv => whnf) | (refine And.intro rfl ?_; conv => whnf) | (refine And.intro (fun _ => ⟨by omega, by omega⟩) ?_; conv => whnf) | (refine And.intro (fun _ => by omega) (And.intro rfl ?_); conv => whnf) | (refine And.intro ⟨(by first | omega | (simp; omega)), (by first | omega | (simp; omega))⟩ ?_; conv => whnf) | (refine Exists.intro _ (And.intro rfl (And.intro (by first | omega | (simp; omega)) (And.intro ⟨rfl, rfl, rfl, rfl, rfl⟩ ?_))); conv => whnf) | (refine And.intro ⟨rfl, rfl⟩ (And.intro (by first | omega | (simp; omega)) ?_); conv => whnf) | (refine Exists.intro _ (And.intro rfl ?_); conv => whnf) | (refine And.intro (fun _ => ?_) (fun h => absurd h (by decide)); conv => whnf) | (refine And.intro (fun h => absurd h (by decide)) (fun _ => ?_); conv => whnf) | (refine .quiet (by kernel_rfl) ?_; conv => whnf))
        rw [hek, hx]
        refine And.intro ⟨by omega, by omega⟩ ?_
        conv => whnf
        repeat (first | (refine And.intro ⟨by omega, by omega⟩ ?_; conv => whnf) | (refine And.intro (by omega) (And.intro rfl ?_); conv => whnf) | (refine And.intro rfl ?_; conv => whnf) | (refine And.intro (fun _ => ⟨by omega, by omega⟩) ?_; conv => whnf) | (refine And.intro (fun _ => by omega) (And.intro rfl ?_); conv => whnf) | (refine And.intro ⟨(by first | omega | (simp; omega)), (by first | omega | (simp; omega))⟩ ?_; conv => whnf) | (refine Exists.intro _ (And.intro rfl (And.intro (by first | omega | (simp; omega)) (And.intro ⟨rfl, rfl, rfl, rfl, rfl⟩ ?_))); conv => whnf) | (refine And.intro ⟨rfl, rfl⟩ (And.intro (by first | omega | (simp; omega)) ?_); conv => whnf) | (refine Exists.intro _ (And.intro rfl ?_); conv => whnf) | (refine And.intro (fun _ => ?_) (fun h => absurd h (by decide)); conv => whnf) | (refine And.intro (fun h => absurd h (by decide)) (fun _ => ?_); conv => whnf) | (refine .quiet (by kernel_rfl) ?_; conv => whnf))
        rw [hem]
        refine ⟨fun hg => ?_, fun hg => ?_⟩
        · have hg' := of_decide_eq_true hg
          have : decide (Few l days n) = false := by
            rw [decide_eq_false_iff_not]
            intro h
            have h1 := (h.each k hkt)
            rw [hx] at h1
            have := h1.each m hmt
            omega
          rw [this]
          conv => whnf
          rfl
        · have hg' := of_decide_eq_false hg
          conv => whnf
          repeat (first | (refine And.intro ⟨by omega, by omega⟩ ?_; conv => whnf) | (refine And.intro (by omega) (And.intro rfl ?_); conv => whnf) | (refine And.intro rfl ?_; conv => whnf) | (refine And.intro (fun _ => ⟨by omega, by omega⟩) ?_; conv => whnf) | (refine And.intro (fun _ => by omega) (And.intro rfl ?_); conv => whnf) | (refine And.intro ⟨(by first | omega | (simp; omega)), (by first | omega | (simp; omega))⟩ ?_; conv => whnf) | (refine Exists.intro _ (And.intro rfl (And.intro (by first | omega | (simp; omega)) (And.intro ⟨rfl, rfl, rfl, rfl, rfl⟩ ?_))); conv => whnf) | (refine And.intro ⟨rfl, rfl⟩ (And.intro (by first | omega | (simp; omega)) ?_); conv => whnf) | (refine Exists.intro _ (And.intro rfl ?_); conv => whnf) | (refine And.intro (fun _ => ?_) (fun h => absurd h (by decide)); conv => whnf) | (refine And.intro (fun h => absurd h (by decide)) (fun _ => ?_); conv => whnf) | (refine .quiet (by kernel_rfl) ?_; conv => whnf))
          refine up hmt (fun j hj => ?_) (wk_of [] rfl ⟨.base (.tree _ _ rfl rfl), .base (.tree _ _ rfl rfl), .base (.tree _ _ rfl rfl), .base (.tree _ _ rfl rfl), .base (.tree _ _ rfl rfl), trivial⟩ trivial)
          by_cases e : j = m
          · subst e; omega
          · exact hP2 j (by omega)
      · have hme : m = x.fav.length := by
          have := of_decide_eq_false hf
          omega
        subst hme
        conv => whnf
        repeat (first | (refine And.intro ⟨by omega, by omega⟩ ?_; conv => whnf) | (refine And.intro (by omega) (And.intro rfl ?_); conv => whnf) | (refine And.intro rfl ?_; conv => whnf) | (refine And.intro (fun _ => ⟨by omega, by omega⟩) ?_; conv => whnf) | (refine And.intro (fun _ => by omega) (And.intro rfl ?_); conv => whnf) | (refine And.intro ⟨(by first | omega | (simp; omega)), (by first | omega | (simp; omega))⟩ ?_; conv => whnf) | (refine Exists.intro _ (And.intro rfl (And.intro (by first | omega | (simp; omega)) (And.intro ⟨rfl, rfl, rfl, rfl, rfl⟩ ?_))); conv => whnf) | (refine And.intro ⟨rfl, rfl⟩ (And.intro (by first | omega | (simp; omega)) ?_); conv => whnf) | (refine Exists.intro _ (And.intro rfl ?_); conv => whnf) | (refine And.intro (fun _ => ?_) (fun h => absurd h (by decide)); conv => whnf) | (refine And.intro (fun h => absurd h (by decide)) (fun _ => ?_); conv => whnf) | (refine .quiet (by kernel_rfl) ?_; conv => whnf))
        refine up hkt (fun j hj => ?_) (wk_of [] rfl ⟨.base (.tree _ _ rfl rfl), .base (.tree _ _ rfl rfl), .base (.tree _ _ rfl rfl), .base (.tree _ _ rfl rfl), trivial⟩ trivial)
        by_cases e : j = k
        · subst e; rw [hx]; exact ⟨by omega, by omega, by omega, hP2⟩
        · exact hP j (by omega)
  · have hke : k = l.length := by
      have := of_decide_eq_false hd
      omega
    subst hke
    have : decide (Few l days n) = true := decide_eq_true ⟨by omega, by omega, hP⟩
    rw [this]
    conv => whnf
    rfl

end Go.Proofs.Ytcabodhhdeecgaa
