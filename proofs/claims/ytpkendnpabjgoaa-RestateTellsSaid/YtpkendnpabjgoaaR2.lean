import Derived.Test.YtpkendnpabjgoaaR1
namespace Go.Proofs.Ytpkendnpabjgoaa
open Go.Own
set_option maxHeartbeats 1000000
set_option maxRecDepth 100000

theorem indexFunc_ok (l : List Int) (hl : l.length ≤ 9223372036854775807) (n : Nat) (cs : List AV) (p : Int → Bool) (hp : ∀ x ∈ l, APureV Try.prog n [encI x, .rop cs] (.bool (p x))) :
    APure Try.prog 31 [encIs l, .fn (.func n) [] [.rop cs]] (fun rs => ∃ i : Int, rs = [.val (.int .i64 i)] ∧ (0 ≤ i ↔ ∃ x ∈ l, p x = true)) := by
  refine apure_of (C := cx 19 [0, 1, 4, 5, 7, 8, 9, 16]) (cxOk _ _) Try.func31 rfl (by decide) rfl (by exact Nat.le_of_ble_eq_true rfl) (by decide) ?_
  conv => whnf
  refine loop_up (cxOk _ _) l.length (fun k => ¬ ∃ x ∈ l.take k, p x = true) (fun k => ⟨[(0, encIs l), (1, .fn (.func n) [] [.rop cs]), (7, .int .i64 l.length), (8, .int .i64 (k : Nat))], [], 0⟩) (by simp) (wk_of [] rfl ⟨.base (.tree _ _ rfl rfl), .fn _ _ _ _ _ (by repeat (first | exact .nil | refine .cons (by first | exact .tree _ _ rfl rfl | exact .ptr _ _ _ rfl | exact .own _ _ rfl) ?_)) (by repeat (first | exact .nil | refine .cons (by first | exact .tree _ _ rfl rfl | exact .ptr _ _ _ rfl | exact .own _ _ rfl) ?_)), .base (.tree _ _ rfl rfl), .base (.tree _ _ rfl rfl), trivial⟩ trivial) ?_
  intro k hk hP
  conv => whnf
  refine ⟨fun hc => ?_, fun hc => ?_⟩
  · simp only [decide_eq_true_eq] at hc
    have hlt : k < l.length := by omega
    conv => whnf
    repeat (first | (refine And.intro ⟨by omega, by omega⟩ ?_; conv => whnf) | (refine And.intro (by omega) (And.intro rfl ?_); conv => whnf) | (refine And.intro rfl ?_; conv => whnf) | (refine And.intro (fun _ => ⟨by omega, by omega⟩) ?_; conv => whnf) | (refine And.intro (fun _ => by omega) (And.intro rfl ?_); conv => whnf) | (refine And.intro ⟨(by first | omega | (simp; omega)), (by first | omega | (simp; omega))⟩ ?_; conv => whnf) | (refine Exists.intro _ (And.intro rfl (And.intro (by first | omega | (simp; omega)) (And.intro ⟨rfl, rfl, rfl, rfl, rfl⟩ ?_))); conv => whnf) | (refine And.intro ⟨rfl, rfl⟩ (And.intro (by first | omega | (simp; omega)) ?_); conv => whnf) | (refine Exists.intro _ (And.intro rfl ?_); conv => whnf) | (refine And.intro (fun _ => ?_) (fun h => absurd h (by decide)); conv => whnf) | (refine And.intro (fun h => absurd h (by decide)) (fun _ => ?_); conv => whnf) | (refine .quiet (by kernel_rfl) ?_; conv => whnf))
    refine .one _ _ _ (fun _ => hp (l.getD k 0) (getD_mem hlt)) (by repeat (first | exact .nil | (apply BorL.cons; first | exact lS rfl | exact lR rfl | exact lM rfl rfl | exact lL rfl | exact lX rfl | exact lN | exact lNl | exact lSm rfl | exact lIm rfl | exact lP rfl | exact lQ rfl))) (by first | exact .inl rfl | exact .inr (by repeat (first | exact flats_nil | refine flats_cons (by first | exact flat_val _ rfl | exact flat_row (fun _ => rfl) | exact flat_lst (fun _ => rfl)) ?_))) (by first | exact .inl rfl | exact .inr rfl) ?_
    conv => whnf
    refine ⟨fun hd => ?_, fun hd => ?_⟩
    · conv => whnf
      exact ⟨k, rfl, fun _ => ⟨_, getD_mem hlt, hd⟩, fun _ => by omega⟩
    · conv => whnf
      repeat (first | (refine And.intro ⟨by omega, by omega⟩ ?_; conv => whnf) | (refine And.intro (by omega) (And.intro rfl ?_); conv => whnf) | (refine And.intro rfl ?_; conv => whnf) | (refine And.intro (fun _ => ⟨by omega, by omega⟩) ?_; conv => whnf) | (refine And.intro (fun _ => by omega) (And.intro rfl ?_); conv => whnf) | (refine And.intro ⟨(by first | omega | (simp; omega)), (by first | omega | (simp; omega))⟩ ?_; conv => whnf) | (refine Exists.intro _ (And.intro rfl (And.intro (by first | omega | (simp; omega)) (And.intro ⟨rfl, rfl, rfl, rfl, rfl⟩ ?_))); conv => whnf) | (refine And.intro ⟨rfl, rfl⟩ (And.intro (by first | omega | (simp; omega)) ?_); conv => whnf) | (refine Exists.intro _ (And.intro rfl ?_); conv => whnf) | (refine And.intro (fun _ => ?_) (fun h => absurd h (by decide)); conv => whnf) | (refine And.intro (fun h => absurd h (by decide)) (fun _ => ?_); conv => whnf) | (refine .quiet (by kernel_rfl) ?_; conv => whnf))
      refine up hlt ?_ (wk_of [] rfl ⟨.base (.tree _ _ rfl rfl), .fn _ _ _ _ _ (by repeat (first | exact .nil | refine .cons (by first | exact .tree _ _ rfl rfl | exact .ptr _ _ _ rfl | exact .own _ _ rfl) ?_)) (by repeat (first | exact .nil | refine .cons (by first | exact .tree _ _ rfl rfl | exact .ptr _ _ _ rfl | exact .own _ _ rfl) ?_)), .base (.tree _ _ rfl rfl), .base (.tree _ _ rfl rfl), trivial⟩ trivial)
      rw [take_getD (d := 0) hlt]
      rintro ⟨x, hx, hpx⟩
      rcases List.mem_append.1 hx with h | h
      · exact hP ⟨x, h, hpx⟩
      · rw [List.mem_singleton.1 h, hd] at hpx
        cases hpx
  · simp only [decide_eq_false_iff_not] at hc
    conv => whnf
    refine ⟨-1, rfl, by omega, fun h => ?_⟩
    rw [List.take_of_length_le (by omega)] at hP
    exact (hP h).elim

theorem containsFunc_ok (l : List Int) (hl : l.length ≤ 9223372036854775807) (n : Nat) (cs : List AV) (p : Int → Bool) (hp : ∀ x ∈ l, APureV Try.prog n [encI x, .rop cs] (.bool (p x))) :
    APureV Try.prog 26 [encIs l, .fn (.func n) [] [.rop cs]] (.bool (l.any p)) := by
  refine apure_of (C := cx 9 [0, 1, 4]) (cxOk _ _) Try.func26 rfl (by decide) rfl (by exact Nat.le_of_ble_eq_true rfl) (by decide) ?_
  conv => whnf
  refine .any _ _ _ ⟨rfl, rfl⟩ (indexFunc_ok l hl n cs p hp) (.cons (lS rfl) (.cons (.fn _ _ _ _ _ _ _ .nil (.cons (.base (.same _ rfl)) .nil)) .nil)) (.inl rfl) ?_
  rintro rs ⟨i, rfl, hi⟩
  conv => whnf
  have : l.any p = decide (0 ≤ i) := by
    by_cases h : 0 ≤ i
    · obtain ⟨x, hx, hpx⟩ := hi.1 h
      simp only [h, decide_true]
      exact List.any_eq_true.2 ⟨x, hx, hpx⟩
    · simp only [h, decide_false]
      cases h' : l.any p with
      | false => rfl
      | true => exact (h (hi.2 (List.any_eq_true.1 h'))).elim
  rw [this]
  rfl

theorem ch1_ok (es : List (Int × Bool)) (x : Int) : APureV Try.prog 27 [encI x, .rop [.rimap .i64 encB false es]] (.bool ((mget es x).getD false)) := by
  refine apure_of (C := cx 7 [0, 1, 3]) (cxOk _ _) Try.func27 rfl (by decide) rfl (by exact Nat.le_of_ble_eq_true rfl) (by decide) ?_
  conv => whnf
  refine And.intro rfl ?_
  conv => whnf
  rfl

theorem ch2_ok (r : List Bool) (hr : r.length ≤ 9223372036854775807) (x : Int) (hx : 0 ≤ x ∧ x < r.length) : APureV Try.prog 28 [encI x, .rop [encBs r]] (.bool (r.getD x.toNat false)) := by
  refine apure_of (C := cx 8 [0, 1, 3]) (cxOk _ _) Try.func28 rfl (by decide) rfl (by exact Nat.le_of_ble_eq_true rfl) (by decide) ?_
  conv => whnf
  repeat (first | (refine And.intro ⟨by omega, by omega⟩ ?_; conv => whnf) | (refine And.intro (by omega) (And.intro rfl ?_); conv => whnf) | (refine And.intro rfl ?_; conv => whnf) | (refine And.intro (fun _ => ⟨by omega, by omega⟩) ?_; conv => whnf) | (refine And.intro (fun _ => by omega) (And.intro rfl ?_); conv => whnf) | (refine And.intro ⟨(by first | omega | (simp; omega)), (by first | omega | (simp; omega))⟩ ?_; conv => whnf) | (refine Exists.intro _ (And.intro rfl (And.intro (by first | omega | (simp; omega)) (And.intro ⟨rfl, rfl, rfl, rfl, rfl⟩ ?_))); conv => whnf) | (refine And.intro ⟨rfl, rfl⟩ (And.intro (by first | omega | (simp; omega)) ?_); conv => whnf) | (refine Exists.intro _ (And.intro rfl ?_); conv => whnf) | (refine And.intro (fun _ => ?_) (fun h => absurd h (by decide)); conv => whnf) | (refine And.intro (fun h => absurd h (by decide)) (fun _ => ?_); conv => whnf) | (refine .quiet (by kernel_rfl) ?_; conv => whnf))
  rfl

/-- The map of the facts. -/
def factM (facts : List Int) : List (Int × Bool) := facts.foldl (fun m x => mset m x true) []
/-- Which values change, as far as they go. -/
def chStep (facts : List Int) (r : List Bool) (v : Val) : List Bool := r ++ [v.facts.any (fun x => (mget (factM facts) x).getD false) || v.froms.any (fun j => r.getD j.toNat false)]
def chRow (facts : List Int) (l : List Val) : List Bool := l.foldl (chStep facts) []
def trues (r : List Bool) : List Int := List.map (fun i : Nat => (i : Int)) ((List.range r.length).filter (fun i => r.getD i false))

theorem chRow_take (facts : List Int) {l : List Val} {k : Nat} (hk : k < l.length) : chRow facts (l.take (k + 1)) = chStep facts (chRow facts (l.take k)) (l.getD k v0) := by
  unfold chRow
  rw [take_getD (d := v0) hk, List.foldl_append]
  rfl

theorem chRow_len (facts : List Int) : ∀ (l : List Val), (chRow facts l).length = l.length := by
  have key : ∀ (l : List Val) (r : List Bool), (l.foldl (chStep facts) r).length = r.length + l.length := by
    intro l
    induction l with
    | nil => intro r; rfl
    | cons v l ih => intro r; rw [List.foldl_cons, ih]; simp [chStep]; omega
  intro l
  have := key l []
  simpa [chRow] using this

theorem trues_snoc (r : List Bool) (b : Bool) : trues (r ++ [b]) = if b = true then trues r ++ [(r.length : Int)] else trues r := by
  unfold trues
  rw [List.length_append, List.length_singleton, List.range_succ, List.filter_append, List.map_append]
  have h1 : (List.range r.length).filter (fun i => (r ++ [b]).getD i false) = (List.range r.length).filter (fun i => r.getD i false) := by
    apply List.filter_congr
    intro i hi
    have hi : i < r.length := List.mem_range.1 hi
    simp [List.getD, List.getElem?_append_left hi]
  rw [h1]
  cases b <;> simp [List.getD]

theorem trues_len (r : List Bool) : (trues r).length ≤ r.length := by
  unfold trues
  rw [List.length_map]
  exact Nat.le_trans (List.length_filter_le _ _) (by simp)

theorem goV_at {l : List Val} : ∀ {k : Nat} {j : Nat}, goV j l = true → k < l.length → rightV (j + k) (l.getD k v0) = true := by
  induction l with
  | nil => intro k j _ h; simp at h
  | cons v l ih =>
    intro k j h hk
    simp only [goV, Bool.and_eq_true] at h
    cases k with
    | zero => exact h.1
    | succ k =>
      have := ih (k := k) h.2 (by simpa using hk)
      rw [show j + (k + 1) = j + 1 + k by omega]
      exact this

theorem ascB_mem {lim : Int} : ∀ {l : List Int} {last : Int}, ascB lim last l = true → ∀ x ∈ l, last < x ∧ x < lim
  | [], _, _ => fun x hx => by simp at hx
  | y :: l, last, h => by
    simp only [ascB, Bool.and_eq_true, Bool.not_eq_true', Bool.or_eq_false_iff, decide_eq_false_iff_not] at h
    intro x hx
    rcases List.mem_cons.1 hx with rfl | hx
    · omega
    · have := ascB_mem h.2 x hx
      omega

theorem froms_lt {l : List Val} (hR : rightB l = true) {k : Nat} (hk : k < l.length) : ∀ x ∈ (l.getD k v0).froms, 0 ≤ x ∧ x < k := by
  unfold rightB at hR
  simp only [Bool.and_eq_true] at hR
  have := goV_at hR.1 hk
  rw [Nat.zero_add] at this
  unfold rightV at this
  simp only [Bool.not_eq_true', Bool.or_eq_false_iff, Bool.not_eq_false'] at this
  intro x hx
  have := ascB_mem this.1.1 x hx
  omega

theorem set_next {r : List Bool} {n k : Nat} (hr : r.length = k) (hk : k < n) (b : Bool) : (r ++ List.replicate (n - k) false).set k b = (r ++ [b]) ++ List.replicate (n - (k + 1)) false := by
  subst hr
  rw [List.set_append_right _ _ (Nat.le_refl _), Nat.sub_self, show n - r.length = (n - (r.length + 1)) + 1 by omega, List.replicate_succ]
  simp

theorem set_read {r : List Bool} {n k : Nat} (hr : r.length = k) (hk : k < n) (b : Bool) : ((r ++ List.replicate (n - k) false).set k b).getD k false = b := by
  rw [set_next hr hk, List.append_assoc]
  subst hr
  simp [List.getD]

theorem changed_ok (l : List Val) (hl : FitsV l) (h20 : l.length ≤ 10000) (facts : List Int) (hf : facts.length ≤ 9223372036854775807) :
    APure Try.prog 15 [encVs l, encIs facts] (fun rs => rs = if rightB l = true then [.new (.row 3 1 encI 0 (trues (chRow facts l)))] else [.val .nils]) := by
  refine apure_of (C := cx 58 [0, 1, 4, 5, 7, 8, 9, 10, 11, 14, 16, 17, 18, 19, 28, 29, 30, 31, 51]) (cxOk _ _) Try.func15 rfl (by decide) rfl (by exact Nat.le_of_ble_eq_true rfl) (by decide) ?_
  conv => whnf
  refine .one _ _ _ (fun _ => right_ok l hl) (by repeat (first | exact .nil | (apply BorL.cons; first | exact lS rfl | exact lR rfl | exact lM rfl rfl | exact lL rfl | exact lX rfl | exact lN | exact lNl | exact lSm rfl | exact lIm rfl | exact lP rfl | exact lQ rfl))) (by first | exact .inl rfl | exact .inr (by repeat (first | exact flats_nil | refine flats_cons (by first | exact flat_val _ rfl | exact flat_row (fun _ => rfl) | exact flat_lst (fun _ => rfl)) ?_))) (by first | exact .inl rfl | exact .inr rfl) ?_
  conv => whnf
  cases hR : rightB l with
  | false =>
    refine ⟨fun hc => ?_, fun hc => ?_⟩
    · conv => whnf
      rfl
    · cases hc
  | true =>
    refine ⟨fun hc => ?_, fun hc => ?_⟩
    · cases hc
    conv => whnf
    repeat (first | (refine And.intro ⟨by omega, by omega⟩ ?_; conv => whnf) | (refine And.intro (by omega) (And.intro rfl ?_); conv => whnf) | (refine And.intro rfl ?_; conv => whnf) | (refine And.intro (fun _ => ⟨by omega, by omega⟩) ?_; conv => whnf) | (refine And.intro (fun _ => by omega) (And.intro rfl ?_); conv => whnf) | (refine And.intro ⟨(by first | omega | (simp; omega)), (by first | omega | (simp; omega))⟩ ?_; conv => whnf) | (refine Exists.intro _ (And.intro rfl (And.intro (by first | omega | (simp; omega)) (And.intro ⟨rfl, rfl, rfl, rfl, rfl⟩ ?_))); conv => whnf) | (refine And.intro ⟨rfl, rfl⟩ (And.intro (by first | omega | (simp; omega)) ?_); conv => whnf) | (refine Exists.intro _ (And.intro rfl ?_); conv => whnf) | (refine And.intro (fun _ => ?_) (fun h => absurd h (by decide)); conv => whnf) | (refine And.intro (fun h => absurd h (by decide)) (fun _ => ?_); conv => whnf) | (refine .quiet (by kernel_rfl) ?_; conv => whnf))
    refine loop_up (cxOk _ _) facts.length (fun _ => True) (fun k => ⟨[(0, encVs l), (1, encIs facts), (5, .ptr 1 0), (16, encIs facts), (17, .int .i64 facts.length), (18, .int .i64 (k : Nat))], [(0, .imap .i64 encB false (factM (facts.take k))), (1, .cells 57 [.map 0])], 2⟩) trivial ((wk_of [(0, .id 0), (1, .id 1)] rfl ⟨.base (.tree _ _ rfl rfl), .base (.tree _ _ rfl rfl), .base (.ptr _ _ _ rfl), .base (.tree _ _ rfl rfl), .base (.tree _ _ rfl rfl), .base (.tree _ _ rfl rfl), trivial⟩ ⟨⟨_, rfl, (by first | exact .imap _ _ _ _ _ _ rfl rfl | exact .newimap _ _ _ _ _ _ _ _ rfl rfl rfl)⟩, ⟨_, rfl, .cells _ _ _ _ rfl (by repeat (first | exact .nil | refine .cons (by first | exact .base (.tree _ _ rfl rfl) | exact .base (.own _ _ rfl) | exact .base (.ptr _ _ _ rfl) | exact .base (.map _ _ rfl) | exact .base (.nilown _ rfl)) ?_)) rfl⟩, trivial⟩)) ?_
    intro k hk _
    conv => whnf
    refine ⟨fun hc => ?_, fun hc => ?_⟩
    · simp only [decide_eq_true_eq] at hc
      have hlt : k < facts.length := by omega
      conv => whnf
      repeat (first | (refine And.intro ⟨by omega, by omega⟩ ?_; conv => whnf) | (refine And.intro (by omega) (And.intro rfl ?_); conv => whnf) | (refine And.intro rfl ?_; conv => whnf) | (refine And.intro (fun _ => ⟨by omega, by omega⟩) ?_; conv => whnf) | (refine And.intro (fun _ => by omega) (And.intro rfl ?_); conv => whnf) | (refine And.intro ⟨(by first | omega | (simp; omega)), (by first | omega | (simp; omega))⟩ ?_; conv => whnf) | (refine Exists.intro _ (And.intro rfl (And.intro (by first | omega | (simp; omega)) (And.intro ⟨rfl, rfl, rfl, rfl, rfl⟩ ?_))); conv => whnf) | (refine And.intro ⟨rfl, rfl⟩ (And.intro (by first | omega | (simp; omega)) ?_); conv => whnf) | (refine Exists.intro _ (And.intro rfl ?_); conv => whnf) | (refine And.intro (fun _ => ?_) (fun h => absurd h (by decide)); conv => whnf) | (refine And.intro (fun h => absurd h (by decide)) (fun _ => ?_); conv => whnf) | (refine .quiet (by kernel_rfl) ?_; conv => whnf))
      have hM : factM (facts.take (k + 1)) = mset (factM (facts.take k)) (facts.getD k 0) true := by
        unfold factM
        rw [take_getD (d := 0) hlt, List.foldl_append]
        rfl
      refine up hlt trivial ((wk_of [(0, .id 0), (1, .id 1)] rfl ⟨.base (.tree _ _ rfl rfl), .base (.tree _ _ rfl rfl), .base (.ptr _ _ _ rfl), .base (.tree _ _ rfl rfl), .base (.tree _ _ rfl rfl), .base (.tree _ _ rfl rfl), trivial⟩ ⟨⟨_, rfl, (by first | exact .imap _ _ _ _ _ _ rfl (by rw [hM, Int.toNat_natCast]) | exact .newimap _ _ _ _ _ _ _ _ rfl rfl (by rw [hM, Int.toNat_natCast]))⟩, ⟨_, rfl, .cells _ _ _ _ rfl (by repeat (first | exact .nil | refine .cons (by first | exact .base (.tree _ _ rfl rfl) | exact .base (.own _ _ rfl) | exact .base (.ptr _ _ _ rfl) | exact .base (.map _ _ rfl) | exact .base (.nilown _ rfl)) ?_)) rfl⟩, trivial⟩))
    · simp only [decide_eq_false_iff_not] at hc
      rw [List.take_of_length_le (by omega)]
      conv => whnf
      repeat (first | (refine And.intro ⟨by omega, by omega⟩ ?_; conv => whnf) | (refine And.intro (by omega) (And.intro rfl ?_); conv => whnf) | (refine And.intro rfl ?_; conv => whnf) | (refine And.intro (fun _ => ⟨by omega, by omega⟩) ?_; conv => whnf) | (refine And.intro (fun _ => by omega) (And.intro rfl ?_); conv => whnf) | (refine And.intro ⟨(by first | omega | (simp; omega)), (by first | omega | (simp; omega))⟩ ?_; conv => whnf) | (refine Exists.intro _ (And.intro rfl (And.intro (by first | omega | (simp; omega)) (And.intro ⟨rfl, rfl, rfl, rfl, rfl⟩ ?_))); conv => whnf) | (refine And.intro ⟨rfl, rfl⟩ (And.intro (by first | omega | (simp; omega)) ?_); conv => whnf) | (refine Exists.intro _ (And.intro rfl ?_); conv => whnf) | (refine And.intro (fun _ => ?_) (fun h => absurd h (by decide)); conv => whnf) | (refine And.intro (fun h => absurd h (by decide)) (fun _ => ?_); conv => whnf) | (refine .quiet (by kernel_rfl) ?_; conv => whnf))
      have hlk : ∀ k, (chRow facts (l.take k)).length = min k l.length := by
        intro k
        rw [chRow_len, List.length_take]
      have htl : ∀ k, k < l.length → (trues (chRow facts (l.take k))).length ≤ k := by
        intro k hk
        have := trues_len (chRow facts (l.take k))
        rw [hlk] at this
        omega
      refine loop_up (cxOk _ _) l.length (fun _ => True) (fun k => ⟨[(0, encVs l), (5, .ptr 1 0), (8, .ptr 3 0), (9, .own 4), (28, encVs l), (29, .int .i64 l.length), (30, .int .i64 (k : Nat))], [(0, .imap .i64 encB false (factM facts)), (1, .cells 57 [.map 0]), (2, .row 4 1 encB false (chRow facts (l.take k) ++ List.replicate (l.length - k) false)), (3, .cells 25 [.own 2]), (4, .row 3 1 encI 0 (trues (chRow facts (l.take k))))], 5⟩) trivial ((wk_of [(0, .id 0), (1, .id 1), (2, .id 2), (3, .id 3), (4, .nil)] rfl ⟨.base (.tree _ _ rfl rfl), .base (.ptr _ _ _ rfl), .base (.ptr _ _ _ rfl), (by first | exact .base (.own _ _ rfl) | exact .base (.nilown _ rfl) | exact .base (.trunc _ _ _ rfl)), .base (.tree _ _ rfl rfl), .base (.tree _ _ rfl rfl), .base (.tree _ _ rfl rfl), trivial⟩ ⟨⟨_, rfl, (by first | exact .imap _ _ _ _ _ _ rfl rfl | exact .newimap _ _ _ _ _ _ _ _ rfl rfl rfl)⟩, ⟨_, rfl, .cells _ _ _ _ rfl (by repeat (first | exact .nil | refine .cons (by first | exact .base (.tree _ _ rfl rfl) | exact .base (.own _ _ rfl) | exact .base (.ptr _ _ _ rfl) | exact .base (.map _ _ rfl) | exact .base (.nilown _ rfl)) ?_)) rfl⟩, ⟨_, rfl, (by first | exact .row _ _ _ _ _ _ _ rfl (by rw [Int.toNat_natCast]; exact (List.map_replicate (f := encB)).symm) | exact .lstrow _ _ _ _ _ _ _ rfl (by rw [Int.toNat_natCast]; exact (List.map_replicate (f := encB)).symm) | exact .nilrow _ _ _ _ _ (by rw [Int.toNat_natCast]; exact (List.map_replicate (f := encB)).symm) | exact .truncrow _ _ _ _ _ _ _ _ rfl (by omega) (by rw [Int.toNat_natCast]; exact (List.map_replicate (f := encB)).symm))⟩, ⟨_, rfl, .cells _ _ _ _ rfl (by repeat (first | exact .nil | refine .cons (by first | exact .base (.tree _ _ rfl rfl) | exact .base (.own _ _ rfl) | exact .base (.ptr _ _ _ rfl) | exact .base (.map _ _ rfl) | exact .base (.nilown _ rfl)) ?_)) rfl⟩, ⟨_, rfl, (by first | exact .row _ _ _ _ _ _ _ rfl rfl | exact .lstrow _ _ _ _ _ _ _ rfl rfl | exact .nilrow _ _ _ _ _ rfl | exact .truncrow _ _ _ _ _ _ _ _ rfl (by omega) rfl)⟩, trivial⟩)) ?_
      intro k hk _
      conv => whnf
      refine ⟨fun hc2 => ?_, fun hc2 => ?_⟩
      · simp only [decide_eq_true_eq] at hc2
        have hlt : k < l.length := by omega
        have hfr := froms_lt hR hlt
        obtain ⟨hf1, hf2⟩ := hl.2 _ (getD_mem (d := v0) hlt)
        have hst := chRow_take facts hlt
        unfold chStep at hst
        have hkl := hlk k
        rw [Nat.min_eq_left hk] at hkl
        have htk := htl k hlt
        conv => whnf
        repeat (first | (refine And.intro ⟨by omega, by omega⟩ ?_; conv => whnf) | (refine And.intro (by omega) (And.intro rfl ?_); conv => whnf) | (refine And.intro rfl ?_; conv => whnf) | (refine And.intro (fun _ => ⟨by omega, by omega⟩) ?_; conv => whnf) | (refine And.intro (fun _ => by omega) (And.intro rfl ?_); conv => whnf) | (refine And.intro ⟨(by first | omega | (simp; omega)), (by first | omega | (simp; omega))⟩ ?_; conv => whnf) | (refine Exists.intro _ (And.intro rfl (And.intro (by first | omega | (simp; omega)) (And.intro ⟨rfl, rfl, rfl, rfl, rfl⟩ ?_))); conv => whnf) | (refine And.intro ⟨rfl, rfl⟩ (And.intro (by first | omega | (simp; omega)) ?_); conv => whnf) | (refine Exists.intro _ (And.intro rfl ?_); conv => whnf) | (refine And.intro (fun _ => ?_) (fun h => absurd h (by decide)); conv => whnf) | (refine And.intro (fun h => absurd h (by decide)) (fun _ => ?_); conv => whnf) | (refine .eff (cxOk _ _) ?_; conv => whnf))
        rw [Int.toNat_natCast]
        generalize l.getD k v0 = v at *
        generalize chRow facts (l.take k) = r at *
        generalize factM facts = M at *
        refine .one _ _ _ (fun _ => containsFunc_ok v.facts hf2 27 [.rimap .i64 encB false M] _ (fun x _ => ch1_ok M x)) (.cons (lS rfl) (.cons (.fn _ _ _ _ _ _ _ .nil (.cons (.box 1 0 57 _ _ _ rfl (.cons (.imap _ _ _ _ _ rfl) .nil) (by simp [AV.one])) .nil)) .nil)) (.inr (flats_cons (flat_val _ rfl) flats_nil)) (.inr rfl) ?_
        conv => whnf
        have hrl : (r ++ List.replicate (l.length - k) false).length = l.length := by
          rw [List.length_append, List.length_replicate, hkl]; omega
        have hcong : (v.froms.any fun x => (r ++ List.replicate (l.length - k) false).getD x.toNat false) = v.froms.any fun j => r.getD j.toNat false := by
          have : ∀ (q : List Int), (∀ x ∈ q, 0 ≤ x ∧ x < (k : Int)) → (q.any fun x => (r ++ List.replicate (l.length - k) false).getD x.toNat false) = q.any fun j => r.getD j.toNat false := by
            intro q
            induction q with
            | nil => intro _; rfl
            | cons x q ih =>
              intro h
              have hx := h x (by simp)
              rw [List.any_cons, List.any_cons, ih fun y hy => h y (by simp [hy])]
              congr 1
              simp [List.getD, List.getElem?_append_left (show x.toNat < r.length by omega)]
          exact this _ hfr
        cases hb : v.facts.any (fun x => (mget M x).getD false) with
        | false =>
          rw [hb, Bool.false_or] at hst
          repeat (first | (refine And.intro ⟨by omega, by omega⟩ ?_; conv => whnf) | (refine And.intro (by omega) (And.intro rfl ?_); conv => whnf) | (refine And.intro rfl ?_; conv => whnf) | (refine And.intro (fun _ => ⟨by omega, by omega⟩) ?_; conv => whnf) | (refine And.intro (fun _ => by omega) (And.intro rfl ?_); conv => whnf) | (refine And.intro ⟨(by first | omega | (simp; omega)), (by first | omega | (simp; omega))⟩ ?_; conv => whnf) | (refine Exists.intro _ (And.intro rfl (And.intro (by first | omega | (simp; omega)) (And.intro ⟨rfl, rfl, rfl, rfl, rfl⟩ ?_))); conv => whnf) | (refine And.intro ⟨rfl, rfl⟩ (And.intro (by first | omega | (simp; omega)) ?_); conv => whnf) | (refine Exists.intro _ (And.intro rfl ?_); conv => whnf) | (refine And.intro (fun _ => ?_) (fun h => absurd h (by decide)); conv => whnf) | (refine And.intro (fun h => absurd h (by decide)) (fun _ => ?_); conv => whnf) | (refine .eff (cxOk _ _) ?_; conv => whnf))
          refine .one _ _ _ (fun _ => containsFunc_ok v.froms hf1 28 [encBs (r ++ List.replicate (l.length - k) false)] _ (fun x hx => ch2_ok _ (by rw [hrl]; omega) x (by rw [hrl]; have := hfr x hx; omega))) (.cons (lS rfl) (.cons (.fn _ _ _ _ _ _ _ .nil (.cons (.box 3 0 25 _ _ _ rfl (.cons (.row _ _ _ _ _ _ rfl) .nil) (by simp [AV.one, encBs])) .nil)) .nil)) (.inr (flats_cons (flat_val _ rfl) flats_nil)) (.inr rfl) ?_
          conv => whnf
          rw [hcong]
          generalize (v.froms.any fun j => r.getD j.toNat false) = b at *
          repeat (first | (refine And.intro ⟨by omega, by omega⟩ ?_; conv => whnf) | (refine And.intro (by omega) (And.intro rfl ?_); conv => whnf) | (refine And.intro rfl ?_; conv => whnf) | (refine And.intro (fun _ => ⟨by omega, by omega⟩) ?_; conv => whnf) | (refine And.intro (fun _ => by omega) (And.intro rfl ?_); conv => whnf) | (refine And.intro ⟨(by first | omega | (simp; omega)), (by first | omega | (simp; omega))⟩ ?_; conv => whnf) | (refine Exists.intro _ (And.intro rfl (And.intro (by first | omega | (simp; omega)) (And.intro ⟨rfl, rfl, rfl, rfl, rfl⟩ ?_))); conv => whnf) | (refine And.intro ⟨rfl, rfl⟩ (And.intro (by first | omega | (simp; omega)) ?_); conv => whnf) | (refine Exists.intro _ (And.intro rfl ?_); conv => whnf) | (refine And.intro (fun _ => ?_) (fun h => absurd h (by decide)); conv => whnf) | (refine And.intro (fun h => absurd h (by decide)) (fun _ => ?_); conv => whnf) | (refine .eff (cxOk _ _) ?_; conv => whnf))
          refine And.intro (by rw [List.length_set, hrl, Int.toNat_natCast]; omega) (And.intro rfl ?_)
          conv => whnf
          rw [Int.toNat_natCast]
          refine ⟨fun hd => ?_, fun hd => ?_⟩
          · have hd' : ((r ++ List.replicate (l.length - k) false).set k b).getD k false = true := hd
            rw [set_read hkl hlt] at hd'
            conv => whnf
            repeat (first | (refine And.intro ⟨by omega, by omega⟩ ?_; conv => whnf) | (refine And.intro (by omega) (And.intro rfl ?_); conv => whnf) | (refine And.intro rfl ?_; conv => whnf) | (refine And.intro (fun _ => ⟨by omega, by omega⟩) ?_; conv => whnf) | (refine And.intro (fun _ => by omega) (And.intro rfl ?_); conv => whnf) | (refine And.intro ⟨(by first | omega | (simp; omega)), (by first | omega | (simp; omega))⟩ ?_; conv => whnf) | (refine Exists.intro _ (And.intro rfl (And.intro (by first | omega | (simp; omega)) (And.intro ⟨rfl, rfl, rfl, rfl, rfl⟩ ?_))); conv => whnf) | (refine And.intro ⟨rfl, rfl⟩ (And.intro (by first | omega | (simp; omega)) ?_); conv => whnf) | (refine Exists.intro _ (And.intro rfl ?_); conv => whnf) | (refine And.intro (fun _ => ?_) (fun h => absurd h (by decide)); conv => whnf) | (refine And.intro (fun h => absurd h (by decide)) (fun _ => ?_); conv => whnf) | (refine .eff (cxOk _ _) ?_; conv => whnf))
            refine And.intro ⟨rfl, rfl⟩ (And.intro (show ((trues r).length + 1) * 8 ≤ 140737488355328 by omega) ?_)
            conv => whnf
            refine ⟨(k : Int), rfl, ?_⟩
            conv => whnf
            repeat (first | (refine And.intro ⟨by omega, by omega⟩ ?_; conv => whnf) | (refine And.intro (by omega) (And.intro rfl ?_); conv => whnf) | (refine And.intro rfl ?_; conv => whnf) | (refine And.intro (fun _ => ⟨by omega, by omega⟩) ?_; conv => whnf) | (refine And.intro (fun _ => by omega) (And.intro rfl ?_); conv => whnf) | (refine And.intro ⟨(by first | omega | (simp; omega)), (by first | omega | (simp; omega))⟩ ?_; conv => whnf) | (refine Exists.intro _ (And.intro rfl (And.intro (by first | omega | (simp; omega)) (And.intro ⟨rfl, rfl, rfl, rfl, rfl⟩ ?_))); conv => whnf) | (refine And.intro ⟨rfl, rfl⟩ (And.intro (by first | omega | (simp; omega)) ?_); conv => whnf) | (refine Exists.intro _ (And.intro rfl ?_); conv => whnf) | (refine And.intro (fun _ => ?_) (fun h => absurd h (by decide)); conv => whnf) | (refine And.intro (fun h => absurd h (by decide)) (fun _ => ?_); conv => whnf) | (refine .eff (cxOk _ _) ?_; conv => whnf))
            refine up hlt trivial ((wk_of [(0, .id 0), (1, .id 1), (2, .id 2), (3, .id 3), (4, .id 7)] rfl ⟨.base (.tree _ _ rfl rfl), .base (.ptr _ _ _ rfl), .base (.ptr _ _ _ rfl), (by first | exact .base (.own _ _ rfl) | exact .base (.nilown _ rfl) | exact .base (.trunc _ _ _ rfl)), .base (.tree _ _ rfl rfl), .base (.tree _ _ rfl rfl), .base (.tree _ _ rfl rfl), trivial⟩ ⟨⟨_, rfl, (by first | exact .imap _ _ _ _ _ _ rfl rfl | exact .newimap _ _ _ _ _ _ _ _ rfl rfl rfl)⟩, ⟨_, rfl, .cells _ _ _ _ rfl (by repeat (first | exact .nil | refine .cons (by first | exact .base (.tree _ _ rfl rfl) | exact .base (.own _ _ rfl) | exact .base (.ptr _ _ _ rfl) | exact .base (.map _ _ rfl) | exact .base (.nilown _ rfl)) ?_)) rfl⟩, ⟨_, rfl, (by first | exact .row _ _ _ _ _ _ _ rfl (by rw [hst]; exact set_next hkl hlt b) | exact .lstrow _ _ _ _ _ _ _ rfl (by rw [hst]; exact set_next hkl hlt b) | exact .nilrow _ _ _ _ _ (by rw [hst]; exact set_next hkl hlt b) | exact .truncrow _ _ _ _ _ _ _ _ rfl (by omega) (by rw [hst]; exact set_next hkl hlt b))⟩, ⟨_, rfl, .cells _ _ _ _ rfl (by repeat (first | exact .nil | refine .cons (by first | exact .base (.tree _ _ rfl rfl) | exact .base (.own _ _ rfl) | exact .base (.ptr _ _ _ rfl) | exact .base (.map _ _ rfl) | exact .base (.nilown _ rfl)) ?_)) rfl⟩, ⟨_, rfl, (by first | exact .row _ _ _ _ _ _ _ rfl (by rw [hst, trues_snoc, if_pos hd', hkl]) | exact .lstrow _ _ _ _ _ _ _ rfl (by rw [hst, trues_snoc, if_pos hd', hkl]) | exact .nilrow _ _ _ _ _ (by rw [hst, trues_snoc, if_pos hd', hkl]) | exact .truncrow _ _ _ _ _ _ _ _ rfl (by omega) (by rw [hst, trues_snoc, if_pos hd', hkl]))⟩, trivial⟩))
          · have hd' : ((r ++ List.replicate (l.length - k) false).set k b).getD k false = false := hd
            rw [set_read hkl hlt] at hd'
            conv => whnf
            repeat (first | (refine And.intro ⟨by omega, by omega⟩ ?_; conv => whnf) | (refine And.intro (by omega) (And.intro rfl ?_); conv => whnf) | (refine And.intro rfl ?_; conv => whnf) | (refine And.intro (fun _ => ⟨by omega, by omega⟩) ?_; conv => whnf) | (refine And.intro (fun _ => by omega) (And.intro rfl ?_); conv => whnf) | (refine And.intro ⟨(by first | omega | (simp; omega)), (by first | omega | (simp; omega))⟩ ?_; conv => whnf) | (refine Exists.intro _ (And.intro rfl (And.intro (by first | omega | (simp; omega)) (And.intro ⟨rfl, rfl, rfl, rfl, rfl⟩ ?_))); conv => whnf) | (refine And.intro ⟨rfl, rfl⟩ (And.intro (by first | omega | (simp; omega)) ?_); conv => whnf) | (refine Exists.intro _ (And.intro rfl ?_); conv => whnf) | (refine And.intro (fun _ => ?_) (fun h => absurd h (by decide)); conv => whnf) | (refine And.intro (fun h => absurd h (by decide)) (fun _ => ?_); conv => whnf) | (refine .eff (cxOk _ _) ?_; conv => whnf))
            refine up hlt trivial ((wk_of [(0, .id 0), (1, .id 1), (2, .id 2), (3, .id 3), (4, .id 4)] rfl ⟨.base (.tree _ _ rfl rfl), .base (.ptr _ _ _ rfl), .base (.ptr _ _ _ rfl), (by first | exact .base (.own _ _ rfl) | exact .base (.nilown _ rfl) | exact .base (.trunc _ _ _ rfl)), .base (.tree _ _ rfl rfl), .base (.tree _ _ rfl rfl), .base (.tree _ _ rfl rfl), trivial⟩ ⟨⟨_, rfl, (by first | exact .imap _ _ _ _ _ _ rfl rfl | exact .newimap _ _ _ _ _ _ _ _ rfl rfl rfl)⟩, ⟨_, rfl, .cells _ _ _ _ rfl (by repeat (first | exact .nil | refine .cons (by first | exact .base (.tree _ _ rfl rfl) | exact .base (.own _ _ rfl) | exact .base (.ptr _ _ _ rfl) | exact .base (.map _ _ rfl) | exact .base (.nilown _ rfl)) ?_)) rfl⟩, ⟨_, rfl, (by first | exact .row _ _ _ _ _ _ _ rfl (by rw [hst]; exact set_next hkl hlt b) | exact .lstrow _ _ _ _ _ _ _ rfl (by rw [hst]; exact set_next hkl hlt b) | exact .nilrow _ _ _ _ _ (by rw [hst]; exact set_next hkl hlt b) | exact .truncrow _ _ _ _ _ _ _ _ rfl (by omega) (by rw [hst]; exact set_next hkl hlt b))⟩, ⟨_, rfl, .cells _ _ _ _ rfl (by repeat (first | exact .nil | refine .cons (by first | exact .base (.tree _ _ rfl rfl) | exact .base (.own _ _ rfl) | exact .base (.ptr _ _ _ rfl) | exact .base (.map _ _ rfl) | exact .base (.nilown _ rfl)) ?_)) rfl⟩, ⟨_, rfl, (by first | exact .row _ _ _ _ _ _ _ rfl (by rw [hst, trues_snoc, if_neg (by rw [hd']; exact Bool.noConfusion)]) | exact .lstrow _ _ _ _ _ _ _ rfl (by rw [hst, trues_snoc, if_neg (by rw [hd']; exact Bool.noConfusion)]) | exact .nilrow _ _ _ _ _ (by rw [hst, trues_snoc, if_neg (by rw [hd']; exact Bool.noConfusion)]) | exact .truncrow _ _ _ _ _ _ _ _ rfl (by omega) (by rw [hst, trues_snoc, if_neg (by rw [hd']; exact Bool.noConfusion)]))⟩, trivial⟩))
        | true =>
          rw [hb, Bool.true_or] at hst
          repeat (first | (refine And.intro ⟨by omega, by omega⟩ ?_; conv => whnf) | (refine And.intro (by omega) (And.intro rfl ?_); conv => whnf) | (refine And.intro rfl ?_; conv => whnf) | (refine And.intro (fun _ => ⟨by omega, by omega⟩) ?_; conv => whnf) | (refine And.intro (fun _ => by omega) (And.intro rfl ?_); conv => whnf) | (refine And.intro ⟨(by first | omega | (simp; omega)), (by first | omega | (simp; omega))⟩ ?_; conv => whnf) | (refine Exists.intro _ (And.intro rfl (And.intro (by first | omega | (simp; omega)) (And.intro ⟨rfl, rfl, rfl, rfl, rfl⟩ ?_))); conv => whnf) | (refine And.intro ⟨rfl, rfl⟩ (And.intro (by first | omega | (simp; omega)) ?_); conv => whnf) | (refine Exists.intro _ (And.intro rfl ?_); conv => whnf) | (refine And.intro (fun _ => ?_) (fun h => absurd h (by decide)); conv => whnf) | (refine And.intro (fun h => absurd h (by decide)) (fun _ => ?_); conv => whnf) | (refine .eff (cxOk _ _) ?_; conv => whnf))
          refine And.intro (by rw [List.length_set, hrl, Int.toNat_natCast]; omega) (And.intro rfl ?_)
          conv => whnf
          rw [Int.toNat_natCast]
          refine ⟨fun hd => ?_, fun hd => ?_⟩
          · have hd' : ((r ++ List.replicate (l.length - k) false).set k true).getD k false = true := hd
            rw [set_read hkl hlt] at hd'
            conv => whnf
            repeat (first | (refine And.intro ⟨by omega, by omega⟩ ?_; conv => whnf) | (refine And.intro (by omega) (And.intro rfl ?_); conv => whnf) | (refine And.intro rfl ?_; conv => whnf) | (refine And.intro (fun _ => ⟨by omega, by omega⟩) ?_; conv => whnf) | (refine And.intro (fun _ => by omega) (And.intro rfl ?_); conv => whnf) | (refine And.intro ⟨(by first | omega | (simp; omega)), (by first | omega | (simp; omega))⟩ ?_; conv => whnf) | (refine Exists.intro _ (And.intro rfl (And.intro (by first | omega | (simp; omega)) (And.intro ⟨rfl, rfl, rfl, rfl, rfl⟩ ?_))); conv => whnf) | (refine And.intro ⟨rfl, rfl⟩ (And.intro (by first | omega | (simp; omega)) ?_); conv => whnf) | (refine Exists.intro _ (And.intro rfl ?_); conv => whnf) | (refine And.intro (fun _ => ?_) (fun h => absurd h (by decide)); conv => whnf) | (refine And.intro (fun h => absurd h (by decide)) (fun _ => ?_); conv => whnf) | (refine .eff (cxOk _ _) ?_; conv => whnf))
            refine And.intro ⟨rfl, rfl⟩ (And.intro (show ((trues r).length + 1) * 8 ≤ 140737488355328 by omega) ?_)
            conv => whnf
            refine ⟨(k : Int), rfl, ?_⟩
            conv => whnf
            repeat (first | (refine And.intro ⟨by omega, by omega⟩ ?_; conv => whnf) | (refine And.intro (by omega) (And.intro rfl ?_); conv => whnf) | (refine And.intro rfl ?_; conv => whnf) | (refine And.intro (fun _ => ⟨by omega, by omega⟩) ?_; conv => whnf) | (refine And.intro (fun _ => by omega) (And.intro rfl ?_); conv => whnf) | (refine And.intro ⟨(by first | omega | (simp; omega)), (by first | omega | (simp; omega))⟩ ?_; conv => whnf) | (refine Exists.intro _ (And.intro rfl (And.intro (by first | omega | (simp; omega)) (And.intro ⟨rfl, rfl, rfl, rfl, rfl⟩ ?_))); conv => whnf) | (refine And.intro ⟨rfl, rfl⟩ (And.intro (by first | omega | (simp; omega)) ?_); conv => whnf) | (refine Exists.intro _ (And.intro rfl ?_); conv => whnf) | (refine And.intro (fun _ => ?_) (fun h => absurd h (by decide)); conv => whnf) | (refine And.intro (fun h => absurd h (by decide)) (fun _ => ?_); conv => whnf) | (refine .eff (cxOk _ _) ?_; conv => whnf))
            refine up hlt trivial ((wk_of [(0, .id 0), (1, .id 1), (2, .id 2), (3, .id 3), (4, .id 7)] rfl ⟨.base (.tree _ _ rfl rfl), .base (.ptr _ _ _ rfl), .base (.ptr _ _ _ rfl), (by first | exact .base (.own _ _ rfl) | exact .base (.nilown _ rfl) | exact .base (.trunc _ _ _ rfl)), .base (.tree _ _ rfl rfl), .base (.tree _ _ rfl rfl), .base (.tree _ _ rfl rfl), trivial⟩ ⟨⟨_, rfl, (by first | exact .imap _ _ _ _ _ _ rfl rfl | exact .newimap _ _ _ _ _ _ _ _ rfl rfl rfl)⟩, ⟨_, rfl, .cells _ _ _ _ rfl (by repeat (first | exact .nil | refine .cons (by first | exact .base (.tree _ _ rfl rfl) | exact .base (.own _ _ rfl) | exact .base (.ptr _ _ _ rfl) | exact .base (.map _ _ rfl) | exact .base (.nilown _ rfl)) ?_)) rfl⟩, ⟨_, rfl, (by first | exact .row _ _ _ _ _ _ _ rfl (by rw [hst]; exact set_next hkl hlt true) | exact .lstrow _ _ _ _ _ _ _ rfl (by rw [hst]; exact set_next hkl hlt true) | exact .nilrow _ _ _ _ _ (by rw [hst]; exact set_next hkl hlt true) | exact .truncrow _ _ _ _ _ _ _ _ rfl (by omega) (by rw [hst]; exact set_next hkl hlt true))⟩, ⟨_, rfl, .cells _ _ _ _ rfl (by repeat (first | exact .nil | refine .cons (by first | exact .base (.tree _ _ rfl rfl) | exact .base (.own _ _ rfl) | exact .base (.ptr _ _ _ rfl) | exact .base (.map _ _ rfl) | exact .base (.nilown _ rfl)) ?_)) rfl⟩, ⟨_, rfl, (by first | exact .row _ _ _ _ _ _ _ rfl (by rw [hst, trues_snoc, if_pos rfl, hkl]) | exact .lstrow _ _ _ _ _ _ _ rfl (by rw [hst, trues_snoc, if_pos rfl, hkl]) | exact .nilrow _ _ _ _ _ (by rw [hst, trues_snoc, if_pos rfl, hkl]) | exact .truncrow _ _ _ _ _ _ _ _ rfl (by omega) (by rw [hst, trues_snoc, if_pos rfl, hkl]))⟩, trivial⟩))
          · have hd' : ((r ++ List.replicate (l.length - k) false).set k true).getD k false = false := hd
            rw [set_read hkl hlt] at hd'
            cases hd'
      · simp only [decide_eq_false_iff_not] at hc2
        rw [List.take_of_length_le (by omega)]
        conv => whnf
        rfl

end Go.Proofs.Ytpkendnpabjgoaa
