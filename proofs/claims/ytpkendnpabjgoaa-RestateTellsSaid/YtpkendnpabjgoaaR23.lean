import Derived.Test.YtpkendnpabjgoaaR17
namespace Go.Proofs.Ytpkendnpabjgoaa
open Go.Own
set_option maxHeartbeats 2000000
set_option maxRecDepth 100000

def frBad (i : Nat) (xs : List Int) (j : Nat) : Bool := (decide (xs.getD j 0 < 0) || decide ((i : Int) ≤ xs.getD j 0)) || (decide (0 < j) && decide (xs.getD j 0 ≤ xs.getD (j - 1) 0))
def faBad (xs : List Int) (j : Nat) : Bool := decide (xs.getD j 0 < 0) || (decide (0 < j) && decide (xs.getD j 0 ≤ xs.getD (j - 1) 0))
def okAt (l : List Val) (i : Nat) : Bool := !(List.range (l.getD i v0).froms.length).any (frBad i (l.getD i v0).froms) && !(List.range (l.getD i v0).facts.length).any (faBad (l.getD i v0).facts)
def ref13 (l : List Val) : Bool := decide ((l.length : Int) ≤ 10000) && (List.range l.length).all (okAt l)

theorem any_ex {p : Nat → Bool} {n j : Nat} (hj : j < n) (h : p j = true) : (List.range n).any p = true := List.any_eq_true.2 ⟨j, List.mem_range.2 hj, h⟩
theorem all_not {p : Nat → Bool} {n j : Nat} (hj : j < n) (h : p j = false) : (List.range n).all p = false := by
  cases hx : (List.range n).all p with
  | false => rfl
  | true =>
    have := List.all_eq_true.1 hx j (List.mem_range.2 hj)
    rw [h] at this
    cases this
theorem any_succ {p : Nat → Bool} {n : Nat} (h : (List.range n).any p = false) (hn : p n = false) : (List.range (n + 1)).any p = false := by
  rw [List.range_succ, List.any_append, h]
  simp [hn]
theorem all_succ {p : Nat → Bool} {n : Nat} (h : (List.range n).all p = true) (hn : p n = true) : (List.range (n + 1)).all p = true := by
  rw [List.range_succ, List.all_append, h]
  simp [hn]

theorem right2_ok (l : List Val) (hl : FitsV l) : APureV Try.prog 13 [encVs l] (.bool (ref13 l)) := by
  have hl1 := hl.1
  refine apure_of (C := cx 98 [0, 2, 3, 4, 5, 6, 7, 10, 14, 24, 59, 67, 97]) (cxOk _ _) Try.func13 rfl (by decide) rfl (by exact Nat.le_of_ble_eq_true rfl) (by decide) ?_
  conv => whnf
  refine ⟨fun hc => ?_, fun hc => ?_⟩
  · have hc' : decide (10000 < (l.length : Int)) = true := hc
    simp only [decide_eq_true_eq] at hc'
    conv => whnf
    unfold ref13
    rw [decide_eq_false (by omega)]
    rfl
  have hc' : decide (10000 < (l.length : Int)) = false := hc
  simp only [decide_eq_false_iff_not] at hc'
  have hr : ref13 l = (List.range l.length).all (okAt l) := by
    unfold ref13
    rw [decide_eq_true (by omega), Bool.true_and]
  rw [hr]
  conv => whnf
  refine loop_up (cxOk _ _) l.length (fun k => (List.range k).all (okAt l) = true) (fun k => ⟨[(0, encVs l), (3, .int .i64 (k : Nat))], [], 0⟩) rfl ((wk_of [] rfl ⟨.base (.tree _ _ rfl rfl), .base (.tree _ _ rfl rfl), trivial⟩ trivial)) ?_
  intro k hk hP
  conv => whnf
  refine ⟨fun hc1 => ?_, fun hc1 => ?_⟩
  · simp only [decide_eq_true_eq] at hc1
    have hlt : k < l.length := by omega
    have hv := hl.2 _ (getD_mem (d := v0) hlt)
    have hvk : l.getD (k : Int).toNat v0 = l.getD k v0 := by rw [Int.toNat_natCast]
    have hok : okAt l k = (!(List.range (l.getD k v0).froms.length).any (frBad k (l.getD k v0).froms) && !(List.range (l.getD k v0).facts.length).any (faBad (l.getD k v0).facts)) := rfl
    generalize hvv : l.getD k v0 = v at *
    conv => whnf
    refine loop_up (cxOk _ _) v.froms.length (fun j => (List.range j).any (frBad k v.froms) = false) (fun j => ⟨[(0, encVs l), (3, .int .i64 (k : Nat)), (4, .int .i64 (j : Nat))], [], 0⟩) rfl ((wk_of [] rfl ⟨.base (.tree _ _ rfl rfl), .base (.tree _ _ rfl rfl), .base (.tree _ _ rfl rfl), trivial⟩ trivial)) ?_
    intro j hj hQ
    conv => whnf
    repeat (first | (refine And.intro ⟨by omega, by omega⟩ ?_; conv => whnf) | (refine And.intro (by omega) (And.intro rfl ?_); conv => whnf) | (refine And.intro rfl ?_; conv => whnf) | (refine And.intro (fun _ => ⟨by omega, by omega⟩) ?_; conv => whnf) | (refine And.intro (fun _ => by omega) (And.intro rfl ?_); conv => whnf) | (refine And.intro ⟨(by first | omega | (simp; omega)), (by first | omega | (simp; omega))⟩ ?_; conv => whnf) | (refine Exists.intro _ (And.intro rfl (And.intro (by first | omega | (simp; omega)) (And.intro ⟨rfl, rfl, rfl, rfl, rfl⟩ ?_))); conv => whnf) | (refine And.intro ⟨rfl, rfl⟩ (And.intro (by first | omega | (simp; omega)) ?_); conv => whnf) | (refine Exists.intro _ (And.intro rfl ?_); conv => whnf) | (refine And.intro (fun _ => ?_) (fun h => absurd h (by decide)); conv => whnf) | (refine And.intro (fun h => absurd h (by decide)) (fun _ => ?_); conv => whnf) | (refine .quiet (by kernel_rfl) ?_; conv => whnf))
    rw [hvk]
    refine ⟨fun hc2 => ?_, fun hc2 => ?_⟩
    · simp only [decide_eq_true_eq] at hc2
      have hjt : j < v.froms.length := by omega
      have hbd : frBad k v.froms j = ((decide (v.froms.getD j 0 < 0) || decide ((k : Int) ≤ v.froms.getD j 0)) || (decide (0 < j) && decide (v.froms.getD j 0 ≤ v.froms.getD (j - 1) 0))) := rfl
      have hxx : v.froms.getD (j : Int).toNat 0 = v.froms.getD j 0 := by rw [Int.toNat_natCast]
      have hmx : (max ((j : Int) - 1) 0).toNat = j - 1 := by omega
      have hj0 : decide (0 < (j : Int)) = decide (0 < j) := by rw [decide_eq_decide]; omega
      generalize v.froms.getD j 0 = x at *
      conv => whnf
      repeat (first | (refine And.intro ⟨by omega, by omega⟩ ?_; conv => whnf) | (refine And.intro (by omega) (And.intro rfl ?_); conv => whnf) | (refine And.intro rfl ?_; conv => whnf) | (refine And.intro (fun _ => ⟨by omega, by omega⟩) ?_; conv => whnf) | (refine And.intro (fun _ => by omega) (And.intro rfl ?_); conv => whnf) | (refine And.intro ⟨(by first | omega | (simp; omega)), (by first | omega | (simp; omega))⟩ ?_; conv => whnf) | (refine Exists.intro _ (And.intro rfl (And.intro (by first | omega | (simp; omega)) (And.intro ⟨rfl, rfl, rfl, rfl, rfl⟩ ?_))); conv => whnf) | (refine And.intro ⟨rfl, rfl⟩ (And.intro (by first | omega | (simp; omega)) ?_); conv => whnf) | (refine Exists.intro _ (And.intro rfl ?_); conv => whnf) | (refine And.intro (fun _ => ?_) (fun h => absurd h (by decide)); conv => whnf) | (refine And.intro (fun h => absurd h (by decide)) (fun _ => ?_); conv => whnf) | (refine .quiet (by kernel_rfl) ?_; conv => whnf))
      rw [hvk]
      repeat (first | (refine And.intro ⟨by omega, by omega⟩ ?_; conv => whnf) | (refine And.intro (by omega) (And.intro rfl ?_); conv => whnf) | (refine And.intro rfl ?_; conv => whnf) | (refine And.intro (fun _ => ⟨by omega, by omega⟩) ?_; conv => whnf) | (refine And.intro (fun _ => by omega) (And.intro rfl ?_); conv => whnf) | (refine And.intro ⟨(by first | omega | (simp; omega)), (by first | omega | (simp; omega))⟩ ?_; conv => whnf) | (refine Exists.intro _ (And.intro rfl (And.intro (by first | omega | (simp; omega)) (And.intro ⟨rfl, rfl, rfl, rfl, rfl⟩ ?_))); conv => whnf) | (refine And.intro ⟨rfl, rfl⟩ (And.intro (by first | omega | (simp; omega)) ?_); conv => whnf) | (refine Exists.intro _ (And.intro rfl ?_); conv => whnf) | (refine And.intro (fun _ => ?_) (fun h => absurd h (by decide)); conv => whnf) | (refine And.intro (fun h => absurd h (by decide)) (fun _ => ?_); conv => whnf) | (refine .quiet (by kernel_rfl) ?_; conv => whnf))
      rw [hxx]
      repeat (first | (refine And.intro ⟨by omega, by omega⟩ ?_; conv => whnf) | (refine And.intro (by omega) (And.intro rfl ?_); conv => whnf) | (refine And.intro rfl ?_; conv => whnf) | (refine And.intro (fun _ => ⟨by omega, by omega⟩) ?_; conv => whnf) | (refine And.intro (fun _ => by omega) (And.intro rfl ?_); conv => whnf) | (refine And.intro ⟨(by first | omega | (simp; omega)), (by first | omega | (simp; omega))⟩ ?_; conv => whnf) | (refine Exists.intro _ (And.intro rfl (And.intro (by first | omega | (simp; omega)) (And.intro ⟨rfl, rfl, rfl, rfl, rfl⟩ ?_))); conv => whnf) | (refine And.intro ⟨rfl, rfl⟩ (And.intro (by first | omega | (simp; omega)) ?_); conv => whnf) | (refine Exists.intro _ (And.intro rfl ?_); conv => whnf) | (refine And.intro (fun _ => ?_) (fun h => absurd h (by decide)); conv => whnf) | (refine And.intro (fun h => absurd h (by decide)) (fun _ => ?_); conv => whnf) | (refine .quiet (by kernel_rfl) ?_; conv => whnf))
      rw [hvk]
      repeat (first | (refine And.intro ⟨by omega, by omega⟩ ?_; conv => whnf) | (refine And.intro (by omega) (And.intro rfl ?_); conv => whnf) | (refine And.intro rfl ?_; conv => whnf) | (refine And.intro (fun _ => ⟨by omega, by omega⟩) ?_; conv => whnf) | (refine And.intro (fun _ => by omega) (And.intro rfl ?_); conv => whnf) | (refine And.intro ⟨(by first | omega | (simp; omega)), (by first | omega | (simp; omega))⟩ ?_; conv => whnf) | (refine Exists.intro _ (And.intro rfl (And.intro (by first | omega | (simp; omega)) (And.intro ⟨rfl, rfl, rfl, rfl, rfl⟩ ?_))); conv => whnf) | (refine And.intro ⟨rfl, rfl⟩ (And.intro (by first | omega | (simp; omega)) ?_); conv => whnf) | (refine Exists.intro _ (And.intro rfl ?_); conv => whnf) | (refine And.intro (fun _ => ?_) (fun h => absurd h (by decide)); conv => whnf) | (refine And.intro (fun h => absurd h (by decide)) (fun _ => ?_); conv => whnf) | (refine .quiet (by kernel_rfl) ?_; conv => whnf))
      refine ⟨fun hz => ?_, fun hz => ?_⟩
      · have hz' : ((decide (x < 0) || decide ((k : Int) ≤ x)) || (decide (0 < (j : Int)) && decide (x ≤ v.froms.getD (max ((j : Int) - 1) 0).toNat 0))) = true := hz
        rw [hmx, hj0] at hz'
        rw [hz'] at hbd
        rw [all_not hlt (by rw [hok, any_ex hjt hbd]; rfl)]
        conv => whnf
        rfl
      · have hz' : ((decide (x < 0) || decide ((k : Int) ≤ x)) || (decide (0 < (j : Int)) && decide (x ≤ v.froms.getD (max ((j : Int) - 1) 0).toNat 0))) = false := hz
        rw [hmx, hj0] at hz'
        rw [hz'] at hbd
        conv => whnf
        repeat (first | (refine And.intro ⟨by omega, by omega⟩ ?_; conv => whnf) | (refine And.intro (by omega) (And.intro rfl ?_); conv => whnf) | (refine And.intro rfl ?_; conv => whnf) | (refine And.intro (fun _ => ⟨by omega, by omega⟩) ?_; conv => whnf) | (refine And.intro (fun _ => by omega) (And.intro rfl ?_); conv => whnf) | (refine And.intro ⟨(by first | omega | (simp; omega)), (by first | omega | (simp; omega))⟩ ?_; conv => whnf) | (refine Exists.intro _ (And.intro rfl (And.intro (by first | omega | (simp; omega)) (And.intro ⟨rfl, rfl, rfl, rfl, rfl⟩ ?_))); conv => whnf) | (refine And.intro ⟨rfl, rfl⟩ (And.intro (by first | omega | (simp; omega)) ?_); conv => whnf) | (refine Exists.intro _ (And.intro rfl ?_); conv => whnf) | (refine And.intro (fun _ => ?_) (fun h => absurd h (by decide)); conv => whnf) | (refine And.intro (fun h => absurd h (by decide)) (fun _ => ?_); conv => whnf) | (refine .quiet (by kernel_rfl) ?_; conv => whnf))
        refine up hjt (any_succ hQ hbd) ((wk_of [] rfl ⟨.base (.tree _ _ rfl rfl), .base (.tree _ _ rfl rfl), .base (.tree _ _ rfl rfl), trivial⟩ trivial))
    · simp only [decide_eq_false_iff_not] at hc2
      obtain rfl : j = v.froms.length := by omega
      rw [hQ] at hok
      conv => whnf
      refine loop_up (cxOk _ _) v.facts.length (fun j => (List.range j).any (faBad v.facts) = false) (fun j => ⟨[(0, encVs l), (3, .int .i64 (k : Nat)), (6, .int .i64 (j : Nat))], [], 0⟩) rfl ((wk_of [] rfl ⟨.base (.tree _ _ rfl rfl), .base (.tree _ _ rfl rfl), .base (.tree _ _ rfl rfl), trivial⟩ trivial)) ?_
      intro j hj hQ2
      conv => whnf
      repeat (first | (refine And.intro ⟨by omega, by omega⟩ ?_; conv => whnf) | (refine And.intro (by omega) (And.intro rfl ?_); conv => whnf) | (refine And.intro rfl ?_; conv => whnf) | (refine And.intro (fun _ => ⟨by omega, by omega⟩) ?_; conv => whnf) | (refine And.intro (fun _ => by omega) (And.intro rfl ?_); conv => whnf) | (refine And.intro ⟨(by first | omega | (simp; omega)), (by first | omega | (simp; omega))⟩ ?_; conv => whnf) | (refine Exists.intro _ (And.intro rfl (And.intro (by first | omega | (simp; omega)) (And.intro ⟨rfl, rfl, rfl, rfl, rfl⟩ ?_))); conv => whnf) | (refine And.intro ⟨rfl, rfl⟩ (And.intro (by first | omega | (simp; omega)) ?_); conv => whnf) | (refine Exists.intro _ (And.intro rfl ?_); conv => whnf) | (refine And.intro (fun _ => ?_) (fun h => absurd h (by decide)); conv => whnf) | (refine And.intro (fun h => absurd h (by decide)) (fun _ => ?_); conv => whnf) | (refine .quiet (by kernel_rfl) ?_; conv => whnf))
      rw [hvk]
      refine ⟨fun hc3 => ?_, fun hc3 => ?_⟩
      · simp only [decide_eq_true_eq] at hc3
        have hjt : j < v.facts.length := by omega
        have hbd : faBad v.facts j = (decide (v.facts.getD j 0 < 0) || (decide (0 < j) && decide (v.facts.getD j 0 ≤ v.facts.getD (j - 1) 0))) := rfl
        have hxx : v.facts.getD (j : Int).toNat 0 = v.facts.getD j 0 := by rw [Int.toNat_natCast]
        have hmx : (max ((j : Int) - 1) 0).toNat = j - 1 := by omega
        have hj0 : decide (0 < (j : Int)) = decide (0 < j) := by rw [decide_eq_decide]; omega
        generalize v.facts.getD j 0 = x at *
        conv => whnf
        repeat (first | (refine And.intro ⟨by omega, by omega⟩ ?_; conv => whnf) | (refine And.intro (by omega) (And.intro rfl ?_); conv => whnf) | (refine And.intro rfl ?_; conv => whnf) | (refine And.intro (fun _ => ⟨by omega, by omega⟩) ?_; conv => whnf) | (refine And.intro (fun _ => by omega) (And.intro rfl ?_); conv => whnf) | (refine And.intro ⟨(by first | omega | (simp; omega)), (by first | omega | (simp; omega))⟩ ?_; conv => whnf) | (refine Exists.intro _ (And.intro rfl (And.intro (by first | omega | (simp; omega)) (And.intro ⟨rfl, rfl, rfl, rfl, rfl⟩ ?_))); conv => whnf) | (refine And.intro ⟨rfl, rfl⟩ (And.intro (by first | omega | (simp; omega)) ?_); conv => whnf) | (refine Exists.intro _ (And.intro rfl ?_); conv => whnf) | (refine And.intro (fun _ => ?_) (fun h => absurd h (by decide)); conv => whnf) | (refine And.intro (fun h => absurd h (by decide)) (fun _ => ?_); conv => whnf) | (refine .quiet (by kernel_rfl) ?_; conv => whnf))
        rw [hvk]
        repeat (first | (refine And.intro ⟨by omega, by omega⟩ ?_; conv => whnf) | (refine And.intro (by omega) (And.intro rfl ?_); conv => whnf) | (refine And.intro rfl ?_; conv => whnf) | (refine And.intro (fun _ => ⟨by omega, by omega⟩) ?_; conv => whnf) | (refine And.intro (fun _ => by omega) (And.intro rfl ?_); conv => whnf) | (refine And.intro ⟨(by first | omega | (simp; omega)), (by first | omega | (simp; omega))⟩ ?_; conv => whnf) | (refine Exists.intro _ (And.intro rfl (And.intro (by first | omega | (simp; omega)) (And.intro ⟨rfl, rfl, rfl, rfl, rfl⟩ ?_))); conv => whnf) | (refine And.intro ⟨rfl, rfl⟩ (And.intro (by first | omega | (simp; omega)) ?_); conv => whnf) | (refine Exists.intro _ (And.intro rfl ?_); conv => whnf) | (refine And.intro (fun _ => ?_) (fun h => absurd h (by decide)); conv => whnf) | (refine And.intro (fun h => absurd h (by decide)) (fun _ => ?_); conv => whnf) | (refine .quiet (by kernel_rfl) ?_; conv => whnf))
        rw [hxx]
        repeat (first | (refine And.intro ⟨by omega, by omega⟩ ?_; conv => whnf) | (refine And.intro (by omega) (And.intro rfl ?_); conv => whnf) | (refine And.intro rfl ?_; conv => whnf) | (refine And.intro (fun _ => ⟨by omega, by omega⟩) ?_; conv => whnf) | (refine And.intro (fun _ => by omega) (And.intro rfl ?_); conv => whnf) | (refine And.intro ⟨(by first | omega | (simp; omega)), (by first | omega | (simp; omega))⟩ ?_; conv => whnf) | (refine Exists.intro _ (And.intro rfl (And.intro (by first | omega | (simp; omega)) (And.intro ⟨rfl, rfl, rfl, rfl, rfl⟩ ?_))); conv => whnf) | (refine And.intro ⟨rfl, rfl⟩ (And.intro (by first | omega | (simp; omega)) ?_); conv => whnf) | (refine Exists.intro _ (And.intro rfl ?_); conv => whnf) | (refine And.intro (fun _ => ?_) (fun h => absurd h (by decide)); conv => whnf) | (refine And.intro (fun h => absurd h (by decide)) (fun _ => ?_); conv => whnf) | (refine .quiet (by kernel_rfl) ?_; conv => whnf))
        rw [hvk]
        repeat (first | (refine And.intro ⟨by omega, by omega⟩ ?_; conv => whnf) | (refine And.intro (by omega) (And.intro rfl ?_); conv => whnf) | (refine And.intro rfl ?_; conv => whnf) | (refine And.intro (fun _ => ⟨by omega, by omega⟩) ?_; conv => whnf) | (refine And.intro (fun _ => by omega) (And.intro rfl ?_); conv => whnf) | (refine And.intro ⟨(by first | omega | (simp; omega)), (by first | omega | (simp; omega))⟩ ?_; conv => whnf) | (refine Exists.intro _ (And.intro rfl (And.intro (by first | omega | (simp; omega)) (And.intro ⟨rfl, rfl, rfl, rfl, rfl⟩ ?_))); conv => whnf) | (refine And.intro ⟨rfl, rfl⟩ (And.intro (by first | omega | (simp; omega)) ?_); conv => whnf) | (refine Exists.intro _ (And.intro rfl ?_); conv => whnf) | (refine And.intro (fun _ => ?_) (fun h => absurd h (by decide)); conv => whnf) | (refine And.intro (fun h => absurd h (by decide)) (fun _ => ?_); conv => whnf) | (refine .quiet (by kernel_rfl) ?_; conv => whnf))
        refine ⟨fun hz => ?_, fun hz => ?_⟩
        · have hz' : (decide (x < 0) || (decide (0 < (j : Int)) && decide (x ≤ v.facts.getD (max ((j : Int) - 1) 0).toNat 0))) = true := hz
          rw [hmx, hj0] at hz'
          rw [hz'] at hbd
          rw [all_not hlt (by rw [hok, any_ex hjt hbd]; rfl)]
          conv => whnf
          rfl
        · have hz' : (decide (x < 0) || (decide (0 < (j : Int)) && decide (x ≤ v.facts.getD (max ((j : Int) - 1) 0).toNat 0))) = false := hz
          rw [hmx, hj0] at hz'
          rw [hz'] at hbd
          conv => whnf
          repeat (first | (refine And.intro ⟨by omega, by omega⟩ ?_; conv => whnf) | (refine And.intro (by omega) (And.intro rfl ?_); conv => whnf) | (refine And.intro rfl ?_; conv => whnf) | (refine And.intro (fun _ => ⟨by omega, by omega⟩) ?_; conv => whnf) | (refine And.intro (fun _ => by omega) (And.intro rfl ?_); conv => whnf) | (refine And.intro ⟨(by first | omega | (simp; omega)), (by first | omega | (simp; omega))⟩ ?_; conv => whnf) | (refine Exists.intro _ (And.intro rfl (And.intro (by first | omega | (simp; omega)) (And.intro ⟨rfl, rfl, rfl, rfl, rfl⟩ ?_))); conv => whnf) | (refine And.intro ⟨rfl, rfl⟩ (And.intro (by first | omega | (simp; omega)) ?_); conv => whnf) | (refine Exists.intro _ (And.intro rfl ?_); conv => whnf) | (refine And.intro (fun _ => ?_) (fun h => absurd h (by decide)); conv => whnf) | (refine And.intro (fun h => absurd h (by decide)) (fun _ => ?_); conv => whnf) | (refine .quiet (by kernel_rfl) ?_; conv => whnf))
          refine up hjt (any_succ hQ2 hbd) ((wk_of [] rfl ⟨.base (.tree _ _ rfl rfl), .base (.tree _ _ rfl rfl), .base (.tree _ _ rfl rfl), trivial⟩ trivial))
      · simp only [decide_eq_false_iff_not] at hc3
        obtain rfl : j = v.facts.length := by omega
        rw [hQ2] at hok
        conv => whnf
        repeat (first | (refine And.intro ⟨by omega, by omega⟩ ?_; conv => whnf) | (refine And.intro (by omega) (And.intro rfl ?_); conv => whnf) | (refine And.intro rfl ?_; conv => whnf) | (refine And.intro (fun _ => ⟨by omega, by omega⟩) ?_; conv => whnf) | (refine And.intro (fun _ => by omega) (And.intro rfl ?_); conv => whnf) | (refine And.intro ⟨(by first | omega | (simp; omega)), (by first | omega | (simp; omega))⟩ ?_; conv => whnf) | (refine Exists.intro _ (And.intro rfl (And.intro (by first | omega | (simp; omega)) (And.intro ⟨rfl, rfl, rfl, rfl, rfl⟩ ?_))); conv => whnf) | (refine And.intro ⟨rfl, rfl⟩ (And.intro (by first | omega | (simp; omega)) ?_); conv => whnf) | (refine Exists.intro _ (And.intro rfl ?_); conv => whnf) | (refine And.intro (fun _ => ?_) (fun h => absurd h (by decide)); conv => whnf) | (refine And.intro (fun h => absurd h (by decide)) (fun _ => ?_); conv => whnf) | (refine .quiet (by kernel_rfl) ?_; conv => whnf))
        refine up hlt (all_succ hP hok) ((wk_of [] rfl ⟨.base (.tree _ _ rfl rfl), .base (.tree _ _ rfl rfl), trivial⟩ trivial))
  · simp only [decide_eq_false_iff_not] at hc1
    obtain rfl : k = l.length := by omega
    rw [hP]
    conv => whnf
    rfl

end Go.Proofs.Ytpkendnpabjgoaa
