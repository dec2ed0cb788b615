import Derived.Test.YtpkendnpabjgoaaR5
namespace Go.Proofs.Ytpkendnpabjgoaa
open Go.Own
set_option maxHeartbeats 1000000
set_option maxRecDepth 100000

theorem ints_ok (a b : List Int) (ha : a.length ≤ 1000000) (hb : b.length ≤ 1000000) : APureV Try.prog 14 [encIs a, encIs b] (.bool (decide (a = b))) := by
  refine apure_of (C := cx 26 [0, 1, 4, 5, 10, 14, 25]) (cxOk _ _) Try.func14 rfl (by decide) rfl (by exact Nat.le_of_ble_eq_true rfl) (by decide) ?_
  conv => whnf
  refine ⟨fun hc => ?_, fun hc => ?_⟩
  · conv => whnf
    simp only [Bool.not_eq_true', decide_eq_false_iff_not] at hc
    have : ¬ a = b := fun e => hc (by rw [e])
    simp [this]
  simp only [Bool.not_eq_false', decide_eq_true_eq] at hc
  conv => whnf
  refine loop_up (cxOk _ _) a.length (fun k => a.take k = b.take k) (fun k => ⟨[(0, encIs a), (1, encIs b), (5, .int .i64 (k : Nat))], [], 0⟩) (by simp) (wk_of [] rfl ⟨.base (.tree _ _ rfl rfl), .base (.tree _ _ rfl rfl), .base (.tree _ _ rfl rfl), trivial⟩ trivial) ?_
  intro k hk hP
  conv => whnf
  refine ⟨fun hd => ?_, fun hd => ?_⟩
  · simp only [decide_eq_true_eq] at hd
    have hlt : k < a.length := by omega
    have hlt2 : k < b.length := by omega
    conv => whnf
    repeat (first | (refine And.intro ⟨by omega, by omega⟩ ?_; conv => whnf) | (refine And.intro (by omega) (And.intro rfl ?_); conv => whnf) | (refine And.intro rfl ?_; conv => whnf) | (refine And.intro (fun _ => ⟨by omega, by omega⟩) ?_; conv => whnf) | (refine And.intro (fun _ => by omega) (And.intro rfl ?_); conv => whnf) | (refine And.intro ⟨(by first | omega | (simp; omega)), (by first | omega | (simp; omega))⟩ ?_; conv => whnf) | (refine Exists.intro _ (And.intro rfl (And.intro (by first | omega | (simp; omega)) (And.intro ⟨rfl, rfl, rfl, rfl, rfl⟩ ?_))); conv => whnf) | (refine And.intro ⟨rfl, rfl⟩ (And.intro (by first | omega | (simp; omega)) ?_); conv => whnf) | (refine Exists.intro _ (And.intro rfl ?_); conv => whnf) | (refine And.intro (fun _ => ?_) (fun h => absurd h (by decide)); conv => whnf) | (refine And.intro (fun h => absurd h (by decide)) (fun _ => ?_); conv => whnf) | (refine .quiet (by kernel_rfl) ?_; conv => whnf))
    refine ⟨fun he => ?_, fun he => ?_⟩
    · conv => whnf
      simp only [Int.toNat_natCast, Bool.not_eq_true', decide_eq_false_iff_not] at he
      have : ¬ a = b := fun e => he (by rw [e])
      simp [this]
    · conv => whnf
      repeat (first | (refine And.intro ⟨by omega, by omega⟩ ?_; conv => whnf) | (refine And.intro (by omega) (And.intro rfl ?_); conv => whnf) | (refine And.intro rfl ?_; conv => whnf) | (refine And.intro (fun _ => ⟨by omega, by omega⟩) ?_; conv => whnf) | (refine And.intro (fun _ => by omega) (And.intro rfl ?_); conv => whnf) | (refine And.intro ⟨(by first | omega | (simp; omega)), (by first | omega | (simp; omega))⟩ ?_; conv => whnf) | (refine Exists.intro _ (And.intro rfl (And.intro (by first | omega | (simp; omega)) (And.intro ⟨rfl, rfl, rfl, rfl, rfl⟩ ?_))); conv => whnf) | (refine And.intro ⟨rfl, rfl⟩ (And.intro (by first | omega | (simp; omega)) ?_); conv => whnf) | (refine Exists.intro _ (And.intro rfl ?_); conv => whnf) | (refine And.intro (fun _ => ?_) (fun h => absurd h (by decide)); conv => whnf) | (refine And.intro (fun h => absurd h (by decide)) (fun _ => ?_); conv => whnf) | (refine .quiet (by kernel_rfl) ?_; conv => whnf))
      simp only [Int.toNat_natCast, Bool.not_eq_false', decide_eq_true_eq] at he
      refine up hlt ?_ (wk_of [] rfl ⟨.base (.tree _ _ rfl rfl), .base (.tree _ _ rfl rfl), .base (.tree _ _ rfl rfl), trivial⟩ trivial)
      rw [take_getD (d := 0) hlt, take_getD (d := 0) hlt2, hP, he]
  · simp only [decide_eq_false_iff_not] at hd
    rw [List.take_of_length_le (by omega), List.take_of_length_le (by omega)] at hP
    conv => whnf
    simp [hP]

/-- The amount of a seat. -/
def ofL (l : List Sh) (s : Int) : Int := match l.find? (fun x => decide (x.seat = s)) with
  | some x => x.amount
  | none => 0

theorem of_ok (l : List Sh) (hl : l.length ≤ 9223372036854775807) (s : Int) : APureV Try.prog 20 [encShs l, .int .i64 s] (.int .i64 (ofL l s)) := by
  refine apure_of (C := cx 24 [0, 1, 4, 5, 9, 18]) (cxOk _ _) Try.func20 rfl (by decide) rfl (by exact Nat.le_of_ble_eq_true rfl) (by decide) ?_
  conv => whnf
  refine loop_up (cxOk _ _) l.length (fun k => l.find? (fun x => decide (x.seat = s)) = (l.drop k).find? (fun x => decide (x.seat = s))) (fun k => ⟨[(0, encShs l), (1, .int .i64 s), (5, .int .i64 (k : Nat))], [], 0⟩) rfl (wk_of [] rfl ⟨.base (.tree _ _ rfl rfl), .base (.tree _ _ rfl rfl), .base (.tree _ _ rfl rfl), trivial⟩ trivial) ?_
  intro k hk hP
  conv => whnf
  refine ⟨fun hc => ?_, fun hc => ?_⟩
  · simp only [decide_eq_true_eq] at hc
    have hlt : k < l.length := by omega
    rw [List.drop_eq_getElem_cons hlt, show l[k] = l.getD k s0 by simp [List.getD, List.getElem?_eq_getElem hlt], List.find?_cons] at hP
    conv => whnf
    repeat (first | (refine And.intro ⟨by omega, by omega⟩ ?_; conv => whnf) | (refine And.intro (by omega) (And.intro rfl ?_); conv => whnf) | (refine And.intro rfl ?_; conv => whnf) | (refine And.intro (fun _ => ⟨by omega, by omega⟩) ?_; conv => whnf) | (refine And.intro (fun _ => by omega) (And.intro rfl ?_); conv => whnf) | (refine And.intro ⟨(by first | omega | (simp; omega)), (by first | omega | (simp; omega))⟩ ?_; conv => whnf) | (refine Exists.intro _ (And.intro rfl (And.intro (by first | omega | (simp; omega)) (And.intro ⟨rfl, rfl, rfl, rfl, rfl⟩ ?_))); conv => whnf) | (refine And.intro ⟨rfl, rfl⟩ (And.intro (by first | omega | (simp; omega)) ?_); conv => whnf) | (refine Exists.intro _ (And.intro rfl ?_); conv => whnf) | (refine And.intro (fun _ => ?_) (fun h => absurd h (by decide)); conv => whnf) | (refine And.intro (fun h => absurd h (by decide)) (fun _ => ?_); conv => whnf) | (refine .quiet (by kernel_rfl) ?_; conv => whnf))
    refine ⟨fun hd => ?_, fun hd => ?_⟩
    · conv => whnf
      repeat (first | (refine And.intro ⟨by omega, by omega⟩ ?_; conv => whnf) | (refine And.intro (by omega) (And.intro rfl ?_); conv => whnf) | (refine And.intro rfl ?_; conv => whnf) | (refine And.intro (fun _ => ⟨by omega, by omega⟩) ?_; conv => whnf) | (refine And.intro (fun _ => by omega) (And.intro rfl ?_); conv => whnf) | (refine And.intro ⟨(by first | omega | (simp; omega)), (by first | omega | (simp; omega))⟩ ?_; conv => whnf) | (refine Exists.intro _ (And.intro rfl (And.intro (by first | omega | (simp; omega)) (And.intro ⟨rfl, rfl, rfl, rfl, rfl⟩ ?_))); conv => whnf) | (refine And.intro ⟨rfl, rfl⟩ (And.intro (by first | omega | (simp; omega)) ?_); conv => whnf) | (refine Exists.intro _ (And.intro rfl ?_); conv => whnf) | (refine And.intro (fun _ => ?_) (fun h => absurd h (by decide)); conv => whnf) | (refine And.intro (fun h => absurd h (by decide)) (fun _ => ?_); conv => whnf) | (refine .quiet (by kernel_rfl) ?_; conv => whnf))
      rw [Int.toNat_natCast] at hd ⊢
      rw [hd] at hP
      unfold ofL
      rw [hP]
      rfl
    · conv => whnf
      repeat (first | (refine And.intro ⟨by omega, by omega⟩ ?_; conv => whnf) | (refine And.intro (by omega) (And.intro rfl ?_); conv => whnf) | (refine And.intro rfl ?_; conv => whnf) | (refine And.intro (fun _ => ⟨by omega, by omega⟩) ?_; conv => whnf) | (refine And.intro (fun _ => by omega) (And.intro rfl ?_); conv => whnf) | (refine And.intro ⟨(by first | omega | (simp; omega)), (by first | omega | (simp; omega))⟩ ?_; conv => whnf) | (refine Exists.intro _ (And.intro rfl (And.intro (by first | omega | (simp; omega)) (And.intro ⟨rfl, rfl, rfl, rfl, rfl⟩ ?_))); conv => whnf) | (refine And.intro ⟨rfl, rfl⟩ (And.intro (by first | omega | (simp; omega)) ?_); conv => whnf) | (refine Exists.intro _ (And.intro rfl ?_); conv => whnf) | (refine And.intro (fun _ => ?_) (fun h => absurd h (by decide)); conv => whnf) | (refine And.intro (fun h => absurd h (by decide)) (fun _ => ?_); conv => whnf) | (refine .quiet (by kernel_rfl) ?_; conv => whnf))
      rw [Int.toNat_natCast] at hd
      rw [hd] at hP
      refine up hlt hP (wk_of [] rfl ⟨.base (.tree _ _ rfl rfl), .base (.tree _ _ rfl rfl), .base (.tree _ _ rfl rfl), trivial⟩ trivial)
  · simp only [decide_eq_false_iff_not] at hc
    rw [List.drop_eq_nil_of_le (by omega)] at hP
    conv => whnf
    unfold ofL
    rw [hP]
    rfl

def eqSh (a b : Sh) : Bool := decide (a.seat = b.seat) && (decide (a.amount = b.amount) && true)
theorem eqSh_iff {a b : Sh} : eqSh a b = true ↔ a = b := by
  cases a; cases b
  simp [eqSh]

theorem same_ok (a b : List Sh) (ha : a.length ≤ 1000000) (hb : b.length ≤ 1000000) : APureV Try.prog 17 [encShs a, encShs b] (.bool (decide (a = b))) := by
  refine apure_of (C := cx 26 [0, 1, 4, 5, 10, 14, 25]) (cxOk _ _) Try.func17 rfl (by decide) rfl (by exact Nat.le_of_ble_eq_true rfl) (by decide) ?_
  conv => whnf
  refine ⟨fun hc => ?_, fun hc => ?_⟩
  · conv => whnf
    simp only [Bool.not_eq_true', decide_eq_false_iff_not] at hc
    have : ¬ a = b := fun e => hc (by rw [e])
    simp [this]
  simp only [Bool.not_eq_false', decide_eq_true_eq] at hc
  conv => whnf
  refine loop_up (cxOk _ _) a.length (fun k => a.take k = b.take k) (fun k => ⟨[(0, encShs a), (1, encShs b), (5, .int .i64 (k : Nat))], [], 0⟩) (by simp) (wk_of [] rfl ⟨.base (.tree _ _ rfl rfl), .base (.tree _ _ rfl rfl), .base (.tree _ _ rfl rfl), trivial⟩ trivial) ?_
  intro k hk hP
  conv => whnf
  refine ⟨fun hd => ?_, fun hd => ?_⟩
  · simp only [decide_eq_true_eq] at hd
    have hlt : k < a.length := by omega
    have hlt2 : k < b.length := by omega
    conv => whnf
    repeat (first | (refine And.intro ⟨by omega, by omega⟩ ?_; conv => whnf) | (refine And.intro (by omega) (And.intro rfl ?_); conv => whnf) | (refine And.intro rfl ?_; conv => whnf) | (refine And.intro (fun _ => ⟨by omega, by omega⟩) ?_; conv => whnf) | (refine And.intro (fun _ => by omega) (And.intro rfl ?_); conv => whnf) | (refine And.intro ⟨(by first | omega | (simp; omega)), (by first | omega | (simp; omega))⟩ ?_; conv => whnf) | (refine Exists.intro _ (And.intro rfl (And.intro (by first | omega | (simp; omega)) (And.intro ⟨rfl, rfl, rfl, rfl, rfl⟩ ?_))); conv => whnf) | (refine And.intro ⟨rfl, rfl⟩ (And.intro (by first | omega | (simp; omega)) ?_); conv => whnf) | (refine Exists.intro _ (And.intro rfl ?_); conv => whnf) | (refine And.intro (fun _ => ?_) (fun h => absurd h (by decide)); conv => whnf) | (refine And.intro (fun h => absurd h (by decide)) (fun _ => ?_); conv => whnf) | (refine .quiet (by kernel_rfl) ?_; conv => whnf))
    refine And.intro ⟨by kernel_rfl, by kernel_rfl⟩ ?_
    conv => whnf
    refine ⟨fun he => ?_, fun he => ?_⟩
    · conv => whnf
      have he' : (!eqSh (a.getD ((k : Nat) : Int).toNat s0) (b.getD ((k : Nat) : Int).toNat s0)) = true := he
      rw [Int.toNat_natCast] at he'
      have : ¬ a = b := fun e => by
        rw [e, eqSh_iff.2 rfl] at he'
        cases he'
      simp [this]
    · conv => whnf
      repeat (first | (refine And.intro ⟨by omega, by omega⟩ ?_; conv => whnf) | (refine And.intro (by omega) (And.intro rfl ?_); conv => whnf) | (refine And.intro rfl ?_; conv => whnf) | (refine And.intro (fun _ => ⟨by omega, by omega⟩) ?_; conv => whnf) | (refine And.intro (fun _ => by omega) (And.intro rfl ?_); conv => whnf) | (refine And.intro ⟨(by first | omega | (simp; omega)), (by first | omega | (simp; omega))⟩ ?_; conv => whnf) | (refine Exists.intro _ (And.intro rfl (And.intro (by first | omega | (simp; omega)) (And.intro ⟨rfl, rfl, rfl, rfl, rfl⟩ ?_))); conv => whnf) | (refine And.intro ⟨rfl, rfl⟩ (And.intro (by first | omega | (simp; omega)) ?_); conv => whnf) | (refine Exists.intro _ (And.intro rfl ?_); conv => whnf) | (refine And.intro (fun _ => ?_) (fun h => absurd h (by decide)); conv => whnf) | (refine And.intro (fun h => absurd h (by decide)) (fun _ => ?_); conv => whnf) | (refine .quiet (by kernel_rfl) ?_; conv => whnf))
      have he' : (!eqSh (a.getD ((k : Nat) : Int).toNat s0) (b.getD ((k : Nat) : Int).toNat s0)) = false := he
      rw [Int.toNat_natCast] at he'
      have he2 : eqSh (a.getD k s0) (b.getD k s0) = true := by simpa using he'
      refine up hlt ?_ (wk_of [] rfl ⟨.base (.tree _ _ rfl rfl), .base (.tree _ _ rfl rfl), .base (.tree _ _ rfl rfl), trivial⟩ trivial)
      rw [take_getD (d := s0) hlt, take_getD (d := s0) hlt2, hP, eqSh_iff.1 he2]
  · simp only [decide_eq_false_iff_not] at hd
    rw [List.take_of_length_le (by omega), List.take_of_length_le (by omega)] at hP
    conv => whnf
    simp [hP]

def okV (v : Val) : Bool := !(decide (20 < (v.froms.length : Int)) || decide (20 < (v.facts.length : Int)))
def fewB (l : List Val) (n : Int) : Bool := l.all okV && decide ((l.length : Int) ≤ n)

theorem few_ok (l : List Val) (hl : FitsV l) (n : Int) (h0 : 0 ≤ n) (hn : n ≤ 1000) : APureV Try.prog 9 [encVs l, .int .i64 n] (.bool (fewB l n)) := by
  have hl1 := hl.1
  refine apure_of (C := cx 37 [0, 1, 4, 5, 14, 32]) (cxOk _ _) Try.func9 rfl (by decide) rfl (by exact Nat.le_of_ble_eq_true rfl) (by decide) ?_
  conv => whnf
  refine loop_up (cxOk _ _) l.length (fun k => (l.take k).all okV = true) (fun k => ⟨[(0, encVs l), (1, .int .i64 n), (5, .int .i64 (k : Nat))], [], 0⟩) rfl (wk_of [] rfl ⟨.base (.tree _ _ rfl rfl), .base (.tree _ _ rfl rfl), .base (.tree _ _ rfl rfl), trivial⟩ trivial) ?_
  intro k hk hP
  conv => whnf
  refine ⟨fun hc => ?_, fun hc => ?_⟩
  · have hc' : (decide ((k : Int) < l.length) && decide ((k : Int) ≤ n)) = true := hc
    simp only [Bool.and_eq_true, decide_eq_true_eq] at hc'
    have hlt : k < l.length := by omega
    conv => whnf
    repeat (first | (refine And.intro ⟨by omega, by omega⟩ ?_; conv => whnf) | (refine And.intro (by omega) (And.intro rfl ?_); conv => whnf) | (refine And.intro rfl ?_; conv => whnf) | (refine And.intro (fun _ => ⟨by omega, by omega⟩) ?_; conv => whnf) | (refine And.intro (fun _ => by omega) (And.intro rfl ?_); conv => whnf) | (refine And.intro ⟨(by first | omega | (simp; omega)), (by first | omega | (simp; omega))⟩ ?_; conv => whnf) | (refine Exists.intro _ (And.intro rfl (And.intro (by first | omega | (simp; omega)) (And.intro ⟨rfl, rfl, rfl, rfl, rfl⟩ ?_))); conv => whnf) | (refine And.intro ⟨rfl, rfl⟩ (And.intro (by first | omega | (simp; omega)) ?_); conv => whnf) | (refine Exists.intro _ (And.intro rfl ?_); conv => whnf) | (refine And.intro (fun _ => ?_) (fun h => absurd h (by decide)); conv => whnf) | (refine And.intro (fun h => absurd h (by decide)) (fun _ => ?_); conv => whnf) | (refine .quiet (by kernel_rfl) ?_; conv => whnf))
    have e : ∀ v : Val, (decide (20 < (v.froms.length : Int)) || decide (20 < (v.facts.length : Int))) = !okV v := fun v => by simp [okV]
    refine ⟨fun hd => ?_, fun hd => ?_⟩
    · conv => whnf
      rw [Int.toNat_natCast] at hd
      have hd' : (decide (20 < ((l.getD k v0).froms.length : Int)) || decide (20 < ((l.getD k v0).facts.length : Int))) = true := hd
      rw [e] at hd'
      have : fewB l n = false := by
        unfold fewB
        cases hx : l.all okV with
        | false => rfl
        | true =>
          rw [List.all_eq_true.1 hx _ (getD_mem hlt)] at hd'
          cases hd'
      rw [this]
      rfl
    · conv => whnf
      repeat (first | (refine And.intro ⟨by omega, by omega⟩ ?_; conv => whnf) | (refine And.intro (by omega) (And.intro rfl ?_); conv => whnf) | (refine And.intro rfl ?_; conv => whnf) | (refine And.intro (fun _ => ⟨by omega, by omega⟩) ?_; conv => whnf) | (refine And.intro (fun _ => by omega) (And.intro rfl ?_); conv => whnf) | (refine And.intro ⟨(by first | omega | (simp; omega)), (by first | omega | (simp; omega))⟩ ?_; conv => whnf) | (refine Exists.intro _ (And.intro rfl (And.intro (by first | omega | (simp; omega)) (And.intro ⟨rfl, rfl, rfl, rfl, rfl⟩ ?_))); conv => whnf) | (refine And.intro ⟨rfl, rfl⟩ (And.intro (by first | omega | (simp; omega)) ?_); conv => whnf) | (refine Exists.intro _ (And.intro rfl ?_); conv => whnf) | (refine And.intro (fun _ => ?_) (fun h => absurd h (by decide)); conv => whnf) | (refine And.intro (fun h => absurd h (by decide)) (fun _ => ?_); conv => whnf) | (refine .quiet (by kernel_rfl) ?_; conv => whnf))
      rw [Int.toNat_natCast] at hd
      have hd' : (decide (20 < ((l.getD k v0).froms.length : Int)) || decide (20 < ((l.getD k v0).facts.length : Int))) = false := hd
      rw [e] at hd'
      refine up hlt ?_ (wk_of [] rfl ⟨.base (.tree _ _ rfl rfl), .base (.tree _ _ rfl rfl), .base (.tree _ _ rfl rfl), trivial⟩ trivial)
      rw [take_getD (d := v0) hlt, List.all_append, hP]
      simpa using hd'
  · have hc' : (decide ((k : Int) < l.length) && decide ((k : Int) ≤ n)) = false := hc
    conv => whnf
    have : fewB l n = decide ((l.length : Int) ≤ n) := by
      unfold fewB
      by_cases hkl : k < l.length
      · have h1 : decide ((k : Int) < l.length) = true := by simp; omega
        rw [h1, Bool.true_and] at hc'
        simp only [decide_eq_false_iff_not] at hc'
        have : decide ((l.length : Int) ≤ n) = false := by simp; omega
        rw [this, Bool.and_false]
      · rw [List.take_of_length_le (by omega)] at hP
        rw [hP, Bool.true_and]
    rw [this]
    rfl

end Go.Proofs.Ytpkendnpabjgoaa
