import Derived.Test.YtpkendnpabjgoaaR4
namespace Go.Proofs.Ytpkendnpabjgoaa
open Go.Own
set_option maxHeartbeats 1000000
set_option maxRecDepth 100000

abbrev p0 : Pay := ⟨0, 0, 0, 0, 0, 0⟩
instance : Inhabited Pay := ⟨p0⟩
def encP (p : Pay) : AV := .agg [.int .i64 p.issue, .int .i64 p.seat, .int .i64 p.day, .int .i64 p.due, .int .i64 p.paid, .int .i64 p.period]
def encPs (l : List Pay) : AV := .sl 6 encP p0 l

def badAt (ps : List Pay) (ds : List Int) (k : Nat) : Bool := (decide ((ps.getD k p0).seat < 0) || !moneyB (ps.getD k p0).paid) || !moneyB (ds.getD k 0)
/-- What is over. -/
def overAt (ps : List Pay) (ds : List Int) (k : Nat) : Int := (ps.getD k p0).paid - ds.getD k 0
def cap (x : Int) : Int := if x ≤ 2000000000000000 then x else 2000000000000000
def bump (m : List (Int × Int)) (s d : Int) : List (Int × Int) := mset m s (cap ((mget m s).getD 0 + d))
def stepAt (ps : List Pay) (ds : List Int) (ms : List Bool) (ab : List (Int × Int) × List (Int × Int)) (k : Nat) : List (Int × Int) × List (Int × Int) :=
  if (decide (0 < overAt ps ds k) && !ms.getD k false) = true then (bump ab.1 (ps.getD k p0).seat (overAt ps ds k), ab.2)
  else if overAt ps ds k < 0 then (ab.1, bump ab.2 (ps.getD k p0).seat (- overAt ps ds k)) else (ab.1, ab.2)
def tally (ps : List Pay) (ds : List Int) (ms : List Bool) (n : Nat) : List (Int × Int) × List (Int × Int) := (List.range n).foldl (stepAt ps ds ms) ([], [])
def anyBad (ps : List Pay) (ds : List Int) (n : Nat) : Bool := (List.range n).any (badAt ps ds)

def okMap (m : List (Int × Int)) : Prop := ∀ p ∈ m, (0 ≤ p.1 ∧ p.1 ≤ 9223372036854775807) ∧ (0 ≤ p.2 ∧ p.2 ≤ 2000000000000000)

theorem mset_mem {K V : Type} [DecidableEq K] : ∀ {m : List (K × V)} {k : K} {x : V} {p : K × V}, p ∈ mset m k x → p ∈ m ∨ p = (k, x)
  | [], k, x, p, h => by simp [mset] at h; exact .inr h
  | (a, v) :: m, k, x, p, h => by
    unfold mset at h
    split at h
    · rcases List.mem_cons.1 h with h | h
      · exact .inr h
      · exact .inl (by simp [h])
    · rcases List.mem_cons.1 h with h | h
      · exact .inl (by simp [h])
      · rcases mset_mem h with h | h
        · exact .inl (by simp [h])
        · exact .inr h

theorem mset_len {K V : Type} [DecidableEq K] : ∀ (m : List (K × V)) (k : K) (x : V), (mset m k x).length ≤ m.length + 1
  | [], k, x => by simp [mset]
  | (a, v) :: m, k, x => by
    have := mset_len m k x
    unfold mset
    split <;> simp <;> omega

theorem mget_mem {V : Type} : ∀ {m : List (Int × V)} {k : Int} {v : V}, mget m k = some v → (k, v) ∈ m
  | [], k, v, h => by simp [mget] at h
  | (a, x) :: m, k, v, h => by
    unfold mget at h
    split at h
    · rename_i e
      subst e
      cases h
      exact List.mem_cons_self
    · exact List.mem_cons_of_mem _ (mget_mem h)

theorem okMap_get {m : List (Int × Int)} (h : okMap m) (k : Int) : 0 ≤ (mget m k).getD 0 ∧ (mget m k).getD 0 ≤ 2000000000000000 := by
  cases hm : mget m k with
  | none => simp
  | some v => exact (h _ (mget_mem hm)).2

theorem okMap_bump {m : List (Int × Int)} (h : okMap m) {s d : Int} (hs : 0 ≤ s ∧ s ≤ 9223372036854775807) (hd : 0 ≤ d) : okMap (bump m s d) := by
  intro p hp
  have hg := okMap_get h s
  rcases mset_mem hp with hp | hp
  · exact h p hp
  · subst hp
    refine ⟨hs, ?_⟩
    show 0 ≤ cap _ ∧ cap _ ≤ _
    unfold cap
    split <;> omega

theorem wf_in {n : Int} (h1 : -9223372036854775808 ≤ n) (h2 : n ≤ 9223372036854775807) : (Lit.int .i64 n).wf = true := by
  have e1 : IntKind.i64.min = -9223372036854775808 := by rfl
  have e2 : IntKind.i64.max = 9223372036854775807 := by rfl
  show (decide (IntKind.i64.min ≤ n) && decide (n ≤ IntKind.i64.max)) = true
  rw [e1, e2]
  simp [h1, h2]

theorem backs_ok (ps : List Pay) (hl : ps.length ≤ 1000000) (hseat : ∀ p ∈ ps, p.seat ≤ 9223372036854775807) (ds : List Int) (ms : List Bool) (hd : ds.length ≤ 9223372036854775807) (hm : ms.length ≤ 9223372036854775807) :
    APure Try.prog 10 [encPs ps, encIs ds, encBs ms] (fun rs => rs = if (!decide (ds.length = ps.length) || !decide (ms.length = ps.length)) = true then [.val .nils, .val .nils, .val (.int .i64 1)]
      else if anyBad ps ds ps.length = true then [.val .nils, .val .nils, .val (.int .i64 1)]
      else if (smallSh (tally ps ds ms ps.length).1 (keysI (tally ps ds ms ps.length).1) && smallSh (tally ps ds ms ps.length).2 (keysI (tally ps ds ms ps.length).2)) = true then
        [.new (.row 48 2 encSh s0 (shares (tally ps ds ms ps.length).1)), .new (.row 48 2 encSh s0 (shares (tally ps ds ms ps.length).2)), .val (.int .i64 0)]
      else [.val .nils, .val .nils, .val (.int .i64 6)]) := by
  refine apure_of (C := cx 115 [0, 1, 2, 6, 7, 8, 9, 10, 11, 12, 13, 14, 15, 16, 17, 29, 32, 33, 34, 35, 55, 63, 83, 112]) (cxOk _ _) Try.func10 rfl (by decide) rfl (by exact Nat.le_of_ble_eq_true rfl) (by decide) ?_
  conv => whnf
  refine ⟨fun hc => ?_, fun hc => ?_⟩
  · conv => whnf
    have hc' : (!decide ((ds.length : Int) = ps.length) || !decide ((ms.length : Int) = ps.length)) = true := hc
    have e1 : decide ((ds.length : Int) = ps.length) = decide (ds.length = ps.length) := by rw [decide_eq_decide]; omega
    have e2 : decide ((ms.length : Int) = ps.length) = decide (ms.length = ps.length) := by rw [decide_eq_decide]; omega
    rw [e1, e2] at hc'
    rw [if_pos hc']
    rfl
  have hc' : (!decide ((ds.length : Int) = ps.length) || !decide ((ms.length : Int) = ps.length)) = false := hc
  have e1 : decide ((ds.length : Int) = ps.length) = decide (ds.length = ps.length) := by rw [decide_eq_decide]; omega
  have e2 : decide ((ms.length : Int) = ps.length) = decide (ms.length = ps.length) := by rw [decide_eq_decide]; omega
  rw [e1, e2] at hc'
  rw [if_neg (by rw [hc']; exact Bool.noConfusion)]
  have hdl : ds.length = ps.length := by
    simp only [Bool.or_eq_false_iff, Bool.not_eq_false', decide_eq_true_eq] at hc'
    exact hc'.1
  have hml : ms.length = ps.length := by
    simp only [Bool.or_eq_false_iff, Bool.not_eq_false', decide_eq_true_eq] at hc'
    exact hc'.2
  conv => whnf
  repeat (first | (refine And.intro ⟨by omega, by omega⟩ ?_; conv => whnf) | (refine And.intro (by omega) (And.intro rfl ?_); conv => whnf) | (refine And.intro rfl ?_; conv => whnf) | (refine And.intro (fun _ => ⟨by omega, by omega⟩) ?_; conv => whnf) | (refine And.intro (fun _ => by omega) (And.intro rfl ?_); conv => whnf) | (refine And.intro ⟨(by first | omega | (simp; omega)), (by first | omega | (simp; omega))⟩ ?_; conv => whnf) | (refine Exists.intro _ (And.intro rfl (And.intro (by first | omega | (simp; omega)) (And.intro ⟨rfl, rfl, rfl, rfl, rfl⟩ ?_))); conv => whnf) | (refine And.intro ⟨rfl, rfl⟩ (And.intro (by first | omega | (simp; omega)) ?_); conv => whnf) | (refine Exists.intro _ (And.intro rfl ?_); conv => whnf) | (refine And.intro (fun _ => ?_) (fun h => absurd h (by decide)); conv => whnf) | (refine And.intro (fun h => absurd h (by decide)) (fun _ => ?_); conv => whnf) | (refine .quiet (by kernel_rfl) ?_; conv => whnf))
  refine loop_up (cxOk _ _) ps.length (fun k => anyBad ps ds k = false ∧ (okMap (tally ps ds ms k).1 ∧ okMap (tally ps ds ms k).2) ∧ (tally ps ds ms k).1.length ≤ k ∧ (tally ps ds ms k).2.length ≤ k) (fun k => ⟨[(0, encPs ps), (1, encIs ds), (2, encBs ms), (9, .map 0), (10, .map 1), (32, encPs ps), (33, .int .i64 ps.length), (34, .int .i64 (k : Nat))], [(0, .imap .i64 encI 0 (tally ps ds ms k).1), (1, .imap .i64 encI 0 (tally ps ds ms k).2)], 2⟩) ⟨rfl, ⟨by intro p hp; simp [tally] at hp, by intro p hp; simp [tally] at hp⟩, Nat.le_refl _, Nat.le_refl _⟩ ((wk_of [(0, .id 0), (1, .id 1)] rfl ⟨.base (.tree _ _ rfl rfl), .base (.tree _ _ rfl rfl), .base (.tree _ _ rfl rfl), .base (.map _ _ rfl), .base (.map _ _ rfl), .base (.tree _ _ rfl rfl), .base (.tree _ _ rfl rfl), .base (.tree _ _ rfl rfl), trivial⟩ ⟨⟨_, rfl, (by first | exact .imap _ _ _ _ _ _ rfl rfl | exact .newimap _ _ _ _ _ _ _ _ rfl rfl rfl)⟩, ⟨_, rfl, (by first | exact .imap _ _ _ _ _ _ rfl rfl | exact .newimap _ _ _ _ _ _ _ _ rfl rfl rfl)⟩, trivial⟩)) ?_
  rintro k hk ⟨hB, ⟨hA1, hA2⟩, hL1, hL2⟩
  conv => whnf
  refine ⟨fun hc2 => ?_, fun hc2 => ?_⟩
  · simp only [decide_eq_true_eq] at hc2
    have hlt : k < ps.length := by omega
    have hsk := hseat _ (getD_mem (d := p0) hlt)
    have hbad : anyBad ps ds (k + 1) = badAt ps ds k := by
      unfold anyBad at hB ⊢
      rw [List.range_succ, List.any_append, hB]
      simp
    have htal : tally ps ds ms (k + 1) = stepAt ps ds ms (tally ps ds ms k) k := by
      unfold tally
      rw [List.range_succ, List.foldl_append]
      rfl
    unfold stepAt overAt at htal
    unfold badAt at hbad
    generalize (tally ps ds ms k).1 = A at *
    generalize (tally ps ds ms k).2 = B at *
    conv => whnf
    repeat (first | (refine And.intro ⟨by omega, by omega⟩ ?_; conv => whnf) | (refine And.intro (by omega) (And.intro rfl ?_); conv => whnf) | (refine And.intro rfl ?_; conv => whnf) | (refine And.intro (fun _ => ⟨by omega, by omega⟩) ?_; conv => whnf) | (refine And.intro (fun _ => by omega) (And.intro rfl ?_); conv => whnf) | (refine And.intro ⟨(by first | omega | (simp; omega)), (by first | omega | (simp; omega))⟩ ?_; conv => whnf) | (refine Exists.intro _ (And.intro rfl (And.intro (by first | omega | (simp; omega)) (And.intro ⟨rfl, rfl, rfl, rfl, rfl⟩ ?_))); conv => whnf) | (refine And.intro ⟨rfl, rfl⟩ (And.intro (by first | omega | (simp; omega)) ?_); conv => whnf) | (refine Exists.intro _ (And.intro rfl ?_); conv => whnf) | (refine And.intro (fun _ => ?_) (fun h => absurd h (by decide)); conv => whnf) | (refine And.intro (fun h => absurd h (by decide)) (fun _ => ?_); conv => whnf) | (refine .quiet (by kernel_rfl) ?_; conv => whnf))
    rw [Int.toNat_natCast]
    generalize ps.getD k p0 = p at *
    refine .one _ _ _ (fun _ => money_ok _) (by repeat (first | exact .nil | (apply BorL.cons; first | exact lS rfl | exact lR rfl | exact lM rfl rfl | exact lL rfl | exact lX rfl | exact lN | exact lNl | exact lSm rfl | exact lIm rfl | exact lP rfl | exact lQ rfl))) (by first | exact .inl rfl | exact .inr (by repeat (first | exact flats_nil | refine flats_cons (by first | exact flat_val _ rfl | exact flat_row (fun _ => rfl) | exact flat_lst (fun _ => rfl)) ?_))) (by first | exact .inl rfl | exact .inr rfl) ?_
    conv => whnf
    repeat (first | (refine And.intro ⟨by omega, by omega⟩ ?_; conv => whnf) | (refine And.intro (by omega) (And.intro rfl ?_); conv => whnf) | (refine And.intro rfl ?_; conv => whnf) | (refine And.intro (fun _ => ⟨by omega, by omega⟩) ?_; conv => whnf) | (refine And.intro (fun _ => by omega) (And.intro rfl ?_); conv => whnf) | (refine And.intro ⟨(by first | omega | (simp; omega)), (by first | omega | (simp; omega))⟩ ?_; conv => whnf) | (refine Exists.intro _ (And.intro rfl (And.intro (by first | omega | (simp; omega)) (And.intro ⟨rfl, rfl, rfl, rfl, rfl⟩ ?_))); conv => whnf) | (refine And.intro ⟨rfl, rfl⟩ (And.intro (by first | omega | (simp; omega)) ?_); conv => whnf) | (refine Exists.intro _ (And.intro rfl ?_); conv => whnf) | (refine And.intro (fun _ => ?_) (fun h => absurd h (by decide)); conv => whnf) | (refine And.intro (fun h => absurd h (by decide)) (fun _ => ?_); conv => whnf) | (refine .quiet (by kernel_rfl) ?_; conv => whnf))
    rw [Int.toNat_natCast]
    refine .one _ _ _ (fun _ => money_ok _) (by repeat (first | exact .nil | (apply BorL.cons; first | exact lS rfl | exact lR rfl | exact lM rfl rfl | exact lL rfl | exact lX rfl | exact lN | exact lNl | exact lSm rfl | exact lIm rfl | exact lP rfl | exact lQ rfl))) (by first | exact .inl rfl | exact .inr (by repeat (first | exact flats_nil | refine flats_cons (by first | exact flat_val _ rfl | exact flat_row (fun _ => rfl) | exact flat_lst (fun _ => rfl)) ?_))) (by first | exact .inl rfl | exact .inr rfl) ?_
    conv => whnf
    generalize hdk : ds.getD k 0 = d at *
    refine ⟨fun hc3 => ?_, fun hc3 => ?_⟩
    · have hc3' : ((decide (p.seat < 0) || !moneyB p.paid) || !moneyB d) = true := hc3
      rw [hc3'] at hbad
      have hall : anyBad ps ds ps.length = true := by
        unfold anyBad at hbad ⊢
        obtain ⟨x, hx, hxb⟩ := List.any_eq_true.1 hbad
        exact List.any_eq_true.2 ⟨x, List.mem_range.2 (by have := List.mem_range.1 hx; omega), hxb⟩
      conv => whnf
      rw [if_pos hall]
      rfl
    have hc3' : ((decide (p.seat < 0) || !moneyB p.paid) || !moneyB d) = false := hc3
    rw [hc3'] at hbad
    have hp0 : 0 ≤ p.seat ∧ (0 ≤ p.paid ∧ p.paid ≤ 1000000000000000) ∧ (0 ≤ d ∧ d ≤ 1000000000000000) := by
      simp [moneyB] at hc3'
      omega
    conv => whnf
    repeat (first | (refine And.intro ⟨by omega, by omega⟩ ?_; conv => whnf) | (refine And.intro (by omega) (And.intro rfl ?_); conv => whnf) | (refine And.intro rfl ?_; conv => whnf) | (refine And.intro (fun _ => ⟨by omega, by omega⟩) ?_; conv => whnf) | (refine And.intro (fun _ => by omega) (And.intro rfl ?_); conv => whnf) | (refine And.intro ⟨(by first | omega | (simp; omega)), (by first | omega | (simp; omega))⟩ ?_; conv => whnf) | (refine Exists.intro _ (And.intro rfl (And.intro (by first | omega | (simp; omega)) (And.intro ⟨rfl, rfl, rfl, rfl, rfl⟩ ?_))); conv => whnf) | (refine And.intro ⟨rfl, rfl⟩ (And.intro (by first | omega | (simp; omega)) ?_); conv => whnf) | (refine Exists.intro _ (And.intro rfl ?_); conv => whnf) | (refine And.intro (fun _ => ?_) (fun h => absurd h (by decide)); conv => whnf) | (refine And.intro (fun h => absurd h (by decide)) (fun _ => ?_); conv => whnf) | (refine .quiet (by kernel_rfl) ?_; conv => whnf))
    rw [Int.toNat_natCast, hdk]
    refine And.intro ⟨by omega, by omega⟩ ?_
    conv => whnf
    repeat (first | (refine And.intro ⟨by omega, by omega⟩ ?_; conv => whnf) | (refine And.intro (by omega) (And.intro rfl ?_); conv => whnf) | (refine And.intro rfl ?_; conv => whnf) | (refine And.intro (fun _ => ⟨by omega, by omega⟩) ?_; conv => whnf) | (refine And.intro (fun _ => by omega) (And.intro rfl ?_); conv => whnf) | (refine And.intro ⟨(by first | omega | (simp; omega)), (by first | omega | (simp; omega))⟩ ?_; conv => whnf) | (refine Exists.intro _ (And.intro rfl (And.intro (by first | omega | (simp; omega)) (And.intro ⟨rfl, rfl, rfl, rfl, rfl⟩ ?_))); conv => whnf) | (refine And.intro ⟨rfl, rfl⟩ (And.intro (by first | omega | (simp; omega)) ?_); conv => whnf) | (refine Exists.intro _ (And.intro rfl ?_); conv => whnf) | (refine And.intro (fun _ => ?_) (fun h => absurd h (by decide)); conv => whnf) | (refine And.intro (fun h => absurd h (by decide)) (fun _ => ?_); conv => whnf) | (refine .quiet (by kernel_rfl) ?_; conv => whnf))
    rw [Int.toNat_natCast]
    generalize ms.getD k false = mk at *
    refine ⟨fun hc4 => ?_, fun hc4 => ?_⟩
    · have hc4' : (decide (0 < p.paid - d) && !mk) = true := hc4
      rw [if_pos hc4'] at htal
      have hpos : 0 < p.paid - d := by
        simp only [Bool.and_eq_true, decide_eq_true_eq] at hc4'
        exact hc4'.1
      have hg := okMap_get hA1 p.seat
      conv => whnf
      repeat (first | (refine And.intro ⟨by omega, by omega⟩ ?_; conv => whnf) | (refine And.intro (by omega) (And.intro rfl ?_); conv => whnf) | (refine And.intro rfl ?_; conv => whnf) | (refine And.intro (fun _ => ⟨by omega, by omega⟩) ?_; conv => whnf) | (refine And.intro (fun _ => by omega) (And.intro rfl ?_); conv => whnf) | (refine And.intro ⟨(by first | omega | (simp; omega)), (by first | omega | (simp; omega))⟩ ?_; conv => whnf) | (refine Exists.intro _ (And.intro rfl (And.intro (by first | omega | (simp; omega)) (And.intro ⟨rfl, rfl, rfl, rfl, rfl⟩ ?_))); conv => whnf) | (refine And.intro ⟨rfl, rfl⟩ (And.intro (by first | omega | (simp; omega)) ?_); conv => whnf) | (refine Exists.intro _ (And.intro rfl ?_); conv => whnf) | (refine And.intro (fun _ => ?_) (fun h => absurd h (by decide)); conv => whnf) | (refine And.intro (fun h => absurd h (by decide)) (fun _ => ?_); conv => whnf) | (refine .quiet (by kernel_rfl) ?_; conv => whnf))
      have hml1 := mset_len A p.seat (cap ((mget A p.seat).getD 0 + (p.paid - d)))
      refine up hlt ⟨hbad, by rw [htal]; exact ⟨okMap_bump hA1 ⟨hp0.1, hsk⟩ (by omega), hA2⟩, by rw [htal]; show (mset A p.seat _).length ≤ _; omega, by rw [htal]; show B.length ≤ _; omega⟩ ((wk_of [(0, .id 0), (1, .id 1)] rfl ⟨.base (.tree _ _ rfl rfl), .base (.tree _ _ rfl rfl), .base (.tree _ _ rfl rfl), .base (.map _ _ rfl), .base (.map _ _ rfl), .base (.tree _ _ rfl rfl), .base (.tree _ _ rfl rfl), .base (.tree _ _ rfl rfl), trivial⟩ ⟨⟨_, rfl, (by first | exact .imap _ _ _ _ _ _ rfl (by rw [htal]; rfl) | exact .newimap _ _ _ _ _ _ _ _ rfl rfl (by rw [htal]; rfl))⟩, ⟨_, rfl, (by first | exact .imap _ _ _ _ _ _ rfl (by rw [htal]) | exact .newimap _ _ _ _ _ _ _ _ rfl rfl (by rw [htal]))⟩, trivial⟩))
    · have hc4' : (decide (0 < p.paid - d) && !mk) = false := hc4
      rw [if_neg (by rw [hc4']; exact Bool.noConfusion)] at htal
      conv => whnf
      refine ⟨fun hc5 => ?_, fun hc5 => ?_⟩
      · simp only [decide_eq_true_eq] at hc5
        rw [if_pos hc5] at htal
        have hg := okMap_get hA2 p.seat
        conv => whnf
        repeat (first | (refine And.intro ⟨by omega, by omega⟩ ?_; conv => whnf) | (refine And.intro (by omega) (And.intro rfl ?_); conv => whnf) | (refine And.intro rfl ?_; conv => whnf) | (refine And.intro (fun _ => ⟨by omega, by omega⟩) ?_; conv => whnf) | (refine And.intro (fun _ => by omega) (And.intro rfl ?_); conv => whnf) | (refine And.intro ⟨(by first | omega | (simp; omega)), (by first | omega | (simp; omega))⟩ ?_; conv => whnf) | (refine Exists.intro _ (And.intro rfl (And.intro (by first | omega | (simp; omega)) (And.intro ⟨rfl, rfl, rfl, rfl, rfl⟩ ?_))); conv => whnf) | (refine And.intro ⟨rfl, rfl⟩ (And.intro (by first | omega | (simp; omega)) ?_); conv => whnf) | (refine Exists.intro _ (And.intro rfl ?_); conv => whnf) | (refine And.intro (fun _ => ?_) (fun h => absurd h (by decide)); conv => whnf) | (refine And.intro (fun h => absurd h (by decide)) (fun _ => ?_); conv => whnf) | (refine .quiet (by kernel_rfl) ?_; conv => whnf))
        have hml1 := mset_len B p.seat (cap ((mget B p.seat).getD 0 + (- (p.paid - d))))
        refine up hlt ⟨hbad, by rw [htal]; exact ⟨hA1, okMap_bump hA2 ⟨hp0.1, hsk⟩ (by omega)⟩, by rw [htal]; show A.length ≤ _; omega, by rw [htal]; show (mset B p.seat _).length ≤ _; omega⟩ ((wk_of [(0, .id 0), (1, .id 1)] rfl ⟨.base (.tree _ _ rfl rfl), .base (.tree _ _ rfl rfl), .base (.tree _ _ rfl rfl), .base (.map _ _ rfl), .base (.map _ _ rfl), .base (.tree _ _ rfl rfl), .base (.tree _ _ rfl rfl), .base (.tree _ _ rfl rfl), trivial⟩ ⟨⟨_, rfl, (by first | exact .imap _ _ _ _ _ _ rfl (by rw [htal]) | exact .newimap _ _ _ _ _ _ _ _ rfl rfl (by rw [htal]))⟩, ⟨_, rfl, (by first | exact .imap _ _ _ _ _ _ rfl (by rw [htal]; rfl) | exact .newimap _ _ _ _ _ _ _ _ rfl rfl (by rw [htal]; rfl))⟩, trivial⟩))
      · simp only [decide_eq_false_iff_not] at hc5
        rw [if_neg hc5] at htal
        conv => whnf
        repeat (first | (refine And.intro ⟨by omega, by omega⟩ ?_; conv => whnf) | (refine And.intro (by omega) (And.intro rfl ?_); conv => whnf) | (refine And.intro rfl ?_; conv => whnf) | (refine And.intro (fun _ => ⟨by omega, by omega⟩) ?_; conv => whnf) | (refine And.intro (fun _ => by omega) (And.intro rfl ?_); conv => whnf) | (refine And.intro ⟨(by first | omega | (simp; omega)), (by first | omega | (simp; omega))⟩ ?_; conv => whnf) | (refine Exists.intro _ (And.intro rfl (And.intro (by first | omega | (simp; omega)) (And.intro ⟨rfl, rfl, rfl, rfl, rfl⟩ ?_))); conv => whnf) | (refine And.intro ⟨rfl, rfl⟩ (And.intro (by first | omega | (simp; omega)) ?_); conv => whnf) | (refine Exists.intro _ (And.intro rfl ?_); conv => whnf) | (refine And.intro (fun _ => ?_) (fun h => absurd h (by decide)); conv => whnf) | (refine And.intro (fun h => absurd h (by decide)) (fun _ => ?_); conv => whnf) | (refine .quiet (by kernel_rfl) ?_; conv => whnf))
        refine up hlt ⟨hbad, by rw [htal]; exact ⟨hA1, hA2⟩, by rw [htal]; show A.length ≤ _; omega, by rw [htal]; show B.length ≤ _; omega⟩ ((wk_of [(0, .id 0), (1, .id 1)] rfl ⟨.base (.tree _ _ rfl rfl), .base (.tree _ _ rfl rfl), .base (.tree _ _ rfl rfl), .base (.map _ _ rfl), .base (.map _ _ rfl), .base (.tree _ _ rfl rfl), .base (.tree _ _ rfl rfl), .base (.tree _ _ rfl rfl), trivial⟩ ⟨⟨_, rfl, (by first | exact .imap _ _ _ _ _ _ rfl (by rw [htal]) | exact .newimap _ _ _ _ _ _ _ _ rfl rfl (by rw [htal]))⟩, ⟨_, rfl, (by first | exact .imap _ _ _ _ _ _ rfl (by rw [htal]) | exact .newimap _ _ _ _ _ _ _ _ rfl rfl (by rw [htal]))⟩, trivial⟩))
  · simp only [decide_eq_false_iff_not] at hc2
    have : k = ps.length := by omega
    subst this
    generalize (tally ps ds ms ps.length).1 = A at *
    generalize (tally ps ds ms ps.length).2 = B at *
    conv => whnf
    rw [if_neg (by rw [hB]; exact Bool.noConfusion)]
    have hw1 : ∀ p ∈ A, (Lit.int .i64 p.1).wf = true := fun p hp => by
      have := (hA1 p hp).1
      exact wf_in (by omega) this.2
    have hw2 : ∀ p ∈ B, (Lit.int .i64 p.1).wf = true := fun p hp => by
      have := (hA2 p hp).1
      exact wf_in (by omega) this.2
    have h1 := shares_ok A hw1 (by omega)
    have h2 := shares_ok B hw2 (by omega)
    cases hs1 : smallSh A (keysI A) with
    | false =>
      rw [hs1, if_neg (by exact Bool.noConfusion)] at h1
      cases hs2 : smallSh B (keysI B) with
      | false =>
        rw [hs2, if_neg (by exact Bool.noConfusion)] at h2
        refine .one _ _ _ (fun _ => h1) (by repeat (first | exact .nil | (apply BorL.cons; first | exact lS rfl | exact lR rfl | exact lM rfl rfl | exact lL rfl | exact lX rfl | exact lN | exact lNl | exact lSm rfl | exact lIm rfl | exact lP rfl | exact lQ rfl))) (by first | exact .inl rfl | exact .inr (by repeat (first | exact flats_nil | refine flats_cons (by first | exact flat_val _ rfl | exact flat_row (fun _ => rfl) | exact flat_lst (fun _ => rfl)) ?_))) (by first | exact .inl rfl | exact .inr rfl) ?_
        conv => whnf
        refine .one _ _ _ (fun _ => h2) (by repeat (first | exact .nil | (apply BorL.cons; first | exact lS rfl | exact lR rfl | exact lM rfl rfl | exact lL rfl | exact lX rfl | exact lN | exact lNl | exact lSm rfl | exact lIm rfl | exact lP rfl | exact lQ rfl))) (by first | exact .inl rfl | exact .inr (by repeat (first | exact flats_nil | refine flats_cons (by first | exact flat_val _ rfl | exact flat_row (fun _ => rfl) | exact flat_lst (fun _ => rfl)) ?_))) (by first | exact .inl rfl | exact .inr rfl) ?_
        conv => whnf
        refine ⟨fun hh => ?_, fun hh => ?_⟩
        · conv => whnf
          rfl
        · cases hh
      | true =>
        rw [hs2, if_pos rfl] at h2
        refine .one _ _ _ (fun _ => h1) (by repeat (first | exact .nil | (apply BorL.cons; first | exact lS rfl | exact lR rfl | exact lM rfl rfl | exact lL rfl | exact lX rfl | exact lN | exact lNl | exact lSm rfl | exact lIm rfl | exact lP rfl | exact lQ rfl))) (by first | exact .inl rfl | exact .inr (by repeat (first | exact flats_nil | refine flats_cons (by first | exact flat_val _ rfl | exact flat_row (fun _ => rfl) | exact flat_lst (fun _ => rfl)) ?_))) (by first | exact .inl rfl | exact .inr rfl) ?_
        conv => whnf
        refine .one _ _ _ (fun _ => h2) (by repeat (first | exact .nil | (apply BorL.cons; first | exact lS rfl | exact lR rfl | exact lM rfl rfl | exact lL rfl | exact lX rfl | exact lN | exact lNl | exact lSm rfl | exact lIm rfl | exact lP rfl | exact lQ rfl))) (by first | exact .inl rfl | exact .inr (by repeat (first | exact flats_nil | refine flats_cons (by first | exact flat_val _ rfl | exact flat_row (fun _ => rfl) | exact flat_lst (fun _ => rfl)) ?_))) (by first | exact .inl rfl | exact .inr rfl) ?_
        conv => whnf
        refine ⟨fun hh => ?_, fun hh => ?_⟩
        · conv => whnf
          rfl
        · cases hh
    | true =>
      rw [hs1, if_pos rfl] at h1
      cases hs2 : smallSh B (keysI B) with
      | false =>
        rw [hs2, if_neg (by exact Bool.noConfusion)] at h2
        refine .one _ _ _ (fun _ => h1) (by repeat (first | exact .nil | (apply BorL.cons; first | exact lS rfl | exact lR rfl | exact lM rfl rfl | exact lL rfl | exact lX rfl | exact lN | exact lNl | exact lSm rfl | exact lIm rfl | exact lP rfl | exact lQ rfl))) (by first | exact .inl rfl | exact .inr (by repeat (first | exact flats_nil | refine flats_cons (by first | exact flat_val _ rfl | exact flat_row (fun _ => rfl) | exact flat_lst (fun _ => rfl)) ?_))) (by first | exact .inl rfl | exact .inr rfl) ?_
        conv => whnf
        refine .one _ _ _ (fun _ => h2) (by repeat (first | exact .nil | (apply BorL.cons; first | exact lS rfl | exact lR rfl | exact lM rfl rfl | exact lL rfl | exact lX rfl | exact lN | exact lNl | exact lSm rfl | exact lIm rfl | exact lP rfl | exact lQ rfl))) (by first | exact .inl rfl | exact .inr (by repeat (first | exact flats_nil | refine flats_cons (by first | exact flat_val _ rfl | exact flat_row (fun _ => rfl) | exact flat_lst (fun _ => rfl)) ?_))) (by first | exact .inl rfl | exact .inr rfl) ?_
        conv => whnf
        refine ⟨fun hh => ?_, fun hh => ?_⟩
        · conv => whnf
          rfl
        · cases hh
      | true =>
        rw [hs2, if_pos rfl] at h2
        refine .one _ _ _ (fun _ => h1) (by repeat (first | exact .nil | (apply BorL.cons; first | exact lS rfl | exact lR rfl | exact lM rfl rfl | exact lL rfl | exact lX rfl | exact lN | exact lNl | exact lSm rfl | exact lIm rfl | exact lP rfl | exact lQ rfl))) (by first | exact .inl rfl | exact .inr (by repeat (first | exact flats_nil | refine flats_cons (by first | exact flat_val _ rfl | exact flat_row (fun _ => rfl) | exact flat_lst (fun _ => rfl)) ?_))) (by first | exact .inl rfl | exact .inr rfl) ?_
        conv => whnf
        refine .one _ _ _ (fun _ => h2) (by repeat (first | exact .nil | (apply BorL.cons; first | exact lS rfl | exact lR rfl | exact lM rfl rfl | exact lL rfl | exact lX rfl | exact lN | exact lNl | exact lSm rfl | exact lIm rfl | exact lP rfl | exact lQ rfl))) (by first | exact .inl rfl | exact .inr (by repeat (first | exact flats_nil | refine flats_cons (by first | exact flat_val _ rfl | exact flat_row (fun _ => rfl) | exact flat_lst (fun _ => rfl)) ?_))) (by first | exact .inl rfl | exact .inr rfl) ?_
        conv => whnf
        refine ⟨fun hh => ?_, fun hh => ?_⟩
        · cases hh
        · conv => whnf
          rfl

end Go.Proofs.Ytpkendnpabjgoaa
