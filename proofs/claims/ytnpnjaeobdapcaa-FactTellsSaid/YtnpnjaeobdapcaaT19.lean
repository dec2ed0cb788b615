import Derived.Test.YtnpnjaeobdapcaaT18
import Derived.Test.YtnpnjaeobdapcaaT11
namespace Go.Proofs.Ytnpnjaeobdapcaa
open Go.Own
set_option maxHeartbeats 1000000
set_option maxRecDepth 100000

def lastD (l : List Fact) (k : Nat) : Int := if k = 0 then 0 else (l.getD (k - 1) f0).day

theorem right2_ok (l : List Fact) (hl : Fits l) : APureV Try.prog 17 [encFs l] (.bool (rightB l)) := by
  refine apure_of (C := cx 37 [0, 2, 3, 6, 10, 36]) (cxOk _ _) Try.func17 rfl (by decide) rfl (by exact Nat.le_of_ble_eq_true rfl) (by decide) ?_
  conv => whnf
  refine ⟨fun hc => ?_, fun hc => ?_⟩
  · simp only [decide_eq_true_eq] at hc
    have : rightB l = false := by simp [rightB]; omega
    rw [this]
    conv => whnf
    rfl
  simp only [decide_eq_false_iff_not] at hc
  have hR : rightB l = goR 0 l := by
    have : decide ((l.length : Int) ≤ 10000) = true := by simp; omega
    rw [rightB, this, Bool.true_and]
  rw [hR]
  conv => whnf
  refine loop_up (cxOk _ _) l.length (fun k => goR 0 l = goR (lastD l k) (l.drop k)) (fun k => ⟨[(0, encFs l), (3, .int .i64 (k : Nat))], [], 0⟩) (by simp [lastD]) (wk_of [] rfl ⟨.base (.tree _ _ rfl rfl), .base (.tree _ _ rfl rfl), trivial⟩ trivial) ?_
  intro k hk hP
  conv => whnf
  refine ⟨fun hd => ?_, fun hd => ?_⟩
  · simp only [decide_eq_true_eq] at hd
    have hlt : k < l.length := by omega
    have hdrop : l.drop k = l.getD k f0 :: l.drop (k + 1) := by
      rw [List.drop_eq_getElem_cons hlt]
      simp [List.getD, List.getElem?_eq_getElem hlt]
    rw [hdrop, goR] at hP
    conv => whnf
    repeat (first | (refine And.intro ⟨by omega, by omega⟩ ?_; conv => whnf) | (refine And.intro (by omega) (And.intro rfl ?_); conv => whnf) | (refine And.intro rfl ?_; conv => whnf) | (refine And.intro (fun _ => ⟨by omega, by omega⟩) ?_; conv => whnf) | (refine And.intro (fun _ => by omega) (And.intro rfl ?_); conv => whnf) | (refine And.intro ⟨(by first | omega | (simp; omega)), (by first | omega | (simp; omega))⟩ ?_; conv => whnf) | (refine Exists.intro _ (And.intro rfl (And.intro (by first | omega | (simp; omega)) (And.intro ⟨rfl, rfl, rfl, rfl, rfl⟩ ?_))); conv => whnf) | (refine And.intro ⟨rfl, rfl⟩ (And.intro (by first | omega | (simp; omega)) ?_); conv => whnf) | (refine Exists.intro _ (And.intro rfl ?_); conv => whnf) | (refine And.intro (fun _ => ?_) (fun h => absurd h (by decide)); conv => whnf) | (refine And.intro (fun h => absurd h (by decide)) (fun _ => ?_); conv => whnf) | (refine .quiet (by kernel_rfl) ?_; conv => whnf))
    refine .mk _ _ _ _ (fun _ => one2_ok (l.getD k f0) (hl.2 _ (getD_mem hlt))) (by repeat (first | exact .nil | (apply BorL.cons; first | exact lS rfl | exact lR rfl | exact lM rfl rfl | exact lL rfl | exact lX rfl | exact lN | exact lNl | exact lSm rfl | exact lIm rfl | exact lP rfl | exact lQ rfl))) rfl ?_
    conv => whnf
    repeat (first | (refine And.intro ⟨by omega, by omega⟩ ?_; conv => whnf) | (refine And.intro (by omega) (And.intro rfl ?_); conv => whnf) | (refine And.intro rfl ?_; conv => whnf) | (refine And.intro (fun _ => ⟨by omega, by omega⟩) ?_; conv => whnf) | (refine And.intro (fun _ => by omega) (And.intro rfl ?_); conv => whnf) | (refine And.intro ⟨(by first | omega | (simp; omega)), (by first | omega | (simp; omega))⟩ ?_; conv => whnf) | (refine Exists.intro _ (And.intro rfl (And.intro (by first | omega | (simp; omega)) (And.intro ⟨rfl, rfl, rfl, rfl, rfl⟩ ?_))); conv => whnf) | (refine And.intro ⟨rfl, rfl⟩ (And.intro (by first | omega | (simp; omega)) ?_); conv => whnf) | (refine Exists.intro _ (And.intro rfl ?_); conv => whnf) | (refine And.intro (fun _ => ?_) (fun h => absurd h (by decide)); conv => whnf) | (refine And.intro (fun h => absurd h (by decide)) (fun _ => ?_); conv => whnf) | (refine .quiet (by kernel_rfl) ?_; conv => whnf))
    refine And.intro (fun hg => ?_) (And.intro rfl ?_)
    · simp [andG, polB] at hg
      exact ⟨by omega, by omega⟩
    conv => whnf
    repeat (first | (refine And.intro ⟨by omega, by omega⟩ ?_; conv => whnf) | (refine And.intro (by omega) (And.intro rfl ?_); conv => whnf) | (refine And.intro rfl ?_; conv => whnf) | (refine And.intro (fun _ => ⟨by omega, by omega⟩) ?_; conv => whnf) | (refine And.intro (fun _ => by omega) (And.intro rfl ?_); conv => whnf) | (refine And.intro ⟨(by first | omega | (simp; omega)), (by first | omega | (simp; omega))⟩ ?_; conv => whnf) | (refine Exists.intro _ (And.intro rfl (And.intro (by first | omega | (simp; omega)) (And.intro ⟨rfl, rfl, rfl, rfl, rfl⟩ ?_))); conv => whnf) | (refine And.intro ⟨rfl, rfl⟩ (And.intro (by first | omega | (simp; omega)) ?_); conv => whnf) | (refine Exists.intro _ (And.intro rfl ?_); conv => whnf) | (refine And.intro (fun _ => ?_) (fun h => absurd h (by decide)); conv => whnf) | (refine And.intro (fun h => absurd h (by decide)) (fun _ => ?_); conv => whnf) | (refine .quiet (by kernel_rfl) ?_; conv => whnf))
    have e1 : ((k : Nat) : Int).toNat = k := Int.toNat_natCast k
    have e2 : ((k : Int) - 1).toNat = k - 1 := by omega
    refine ⟨fun he => ?_, fun he => ?_⟩
    · have he' : (!oneB (l.getD k f0) || (decide (0 < (k : Int)) && decide ((l.getD ((k : Nat) : Int).toNat f0).day < (l.getD ((k : Int) - 1).toNat f0).day))) = true := he
      rw [e1, e2] at he'
      have hf : goR 0 l = false := by
        rw [hP]
        rcases Bool.or_eq_true_iff.1 he' with h | h
        · have : oneB (l.getD k f0) = false := by simpa using h
          rw [this]; rfl
        · simp only [Bool.and_eq_true, decide_eq_true_eq] at h
          have : lastD l k = (l.getD (k - 1) f0).day := by unfold lastD; rw [if_neg (by omega)]
          rw [this, decide_eq_true h.2]
          simp
      rw [hf]
      conv => whnf
      rfl
    · have he' : (!oneB (l.getD k f0) || (decide (0 < (k : Int)) && decide ((l.getD ((k : Nat) : Int).toNat f0).day < (l.getD ((k : Int) - 1).toNat f0).day))) = false := he
      rw [e1, e2] at he'
      obtain ⟨h1, h2⟩ := Bool.or_eq_false_iff.1 he'
      have h1 : oneB (l.getD k f0) = true := by simpa using h1
      conv => whnf
      repeat (first | (refine And.intro ⟨by omega, by omega⟩ ?_; conv => whnf) | (refine And.intro (by omega) (And.intro rfl ?_); conv => whnf) | (refine And.intro rfl ?_; conv => whnf) | (refine And.intro (fun _ => ⟨by omega, by omega⟩) ?_; conv => whnf) | (refine And.intro (fun _ => by omega) (And.intro rfl ?_); conv => whnf) | (refine And.intro ⟨(by first | omega | (simp; omega)), (by first | omega | (simp; omega))⟩ ?_; conv => whnf) | (refine Exists.intro _ (And.intro rfl (And.intro (by first | omega | (simp; omega)) (And.intro ⟨rfl, rfl, rfl, rfl, rfl⟩ ?_))); conv => whnf) | (refine And.intro ⟨rfl, rfl⟩ (And.intro (by first | omega | (simp; omega)) ?_); conv => whnf) | (refine Exists.intro _ (And.intro rfl ?_); conv => whnf) | (refine And.intro (fun _ => ?_) (fun h => absurd h (by decide)); conv => whnf) | (refine And.intro (fun h => absurd h (by decide)) (fun _ => ?_); conv => whnf) | (refine .quiet (by kernel_rfl) ?_; conv => whnf))
      refine up hlt ?_ (wk_of [] rfl ⟨.base (.tree _ _ rfl rfl), .base (.tree _ _ rfl rfl), trivial⟩ trivial)
      have h3 : lastD l (k + 1) = (l.getD k f0).day := by simp [lastD]
      have h4 : decide ((l.getD k f0).day < lastD l k) = false := by
        unfold lastD
        by_cases h0 : k = 0
        · rw [if_pos h0]
          have := one_day h1
          simp only [decide_eq_false_iff_not]
          omega
        · rw [if_neg h0]
          have h5 : decide (0 < (k : Int)) = true := by simp; omega
          rw [h5] at h2
          simpa using h2
      rw [h3, hP, h1, h4]
      rfl
  · simp only [decide_eq_false_iff_not] at hd
    conv => whnf
    rw [hP, List.drop_eq_nil_of_le (by omega)]
    rfl

theorem restated2_ok (l : List Fact) (hl : l.length ≤ 9223372036854775807) (f : Fact) : APureV Try.prog 21 [encFs l, encF f] (.bool (restatedB l f)) := by
  unfold restatedB
  refine apure_of (C := cx 40 [0, 1, 3, 4, 5, 9, 39]) (cxOk _ _) Try.func21 rfl (by decide) rfl (by exact Nat.le_of_ble_eq_true rfl) (by decide) ?_
  conv => whnf
  refine loop_up (cxOk _ _) l.length (fun k => (l.take k).any (sameKey f) = false) (fun k => ⟨[(0, encFs l), (3, .ptr 0 0), (5, .int .i64 (k : Nat))], [(0, .cells 24 [.int .i64 f.issuer, .str f.name, .int .i64 f.period, .int .i64 f.value, .int .i64 f.day])], 1⟩) (by simp) (wk_of [(0, .id 0)] rfl ⟨.base (.tree _ _ rfl rfl), .base (.ptr _ _ _ rfl), .base (.tree _ _ rfl rfl), trivial⟩ ⟨⟨_, rfl, .cells _ _ _ _ rfl (by repeat (first | exact .nil | refine .cons (by first | exact .base (.tree _ _ rfl rfl) | exact .base (.own _ _ rfl) | exact .base (.ptr _ _ _ rfl) | exact .base (.map _ _ rfl) | exact .base (.nilown _ rfl)) ?_)) rfl⟩, trivial⟩) ?_
  intro k hk hP
  conv => whnf
  refine ⟨fun hd => ?_, fun hd => ?_⟩
  · simp only [decide_eq_true_eq] at hd
    have hlt : k < l.length := by omega
    conv => whnf
    repeat (first | (refine And.intro ⟨by omega, by omega⟩ ?_; conv => whnf) | (refine And.intro (by omega) (And.intro rfl ?_); conv => whnf) | (refine And.intro rfl ?_; conv => whnf) | (refine And.intro (fun _ => ⟨by omega, by omega⟩) ?_; conv => whnf) | (refine And.intro (fun _ => by omega) (And.intro rfl ?_); conv => whnf) | (refine And.intro ⟨(by first | omega | (simp; omega)), (by first | omega | (simp; omega))⟩ ?_; conv => whnf) | (refine Exists.intro _ (And.intro rfl (And.intro (by first | omega | (simp; omega)) (And.intro ⟨rfl, rfl, rfl, rfl, rfl⟩ ?_))); conv => whnf) | (refine And.intro ⟨rfl, rfl⟩ (And.intro (by first | omega | (simp; omega)) ?_); conv => whnf) | (refine Exists.intro _ (And.intro rfl ?_); conv => whnf) | (refine And.intro (fun _ => ?_) (fun h => absurd h (by decide)); conv => whnf) | (refine And.intro (fun h => absurd h (by decide)) (fun _ => ?_); conv => whnf) | (refine .quiet (by kernel_rfl) ?_; conv => whnf))
    refine ⟨fun he => ?_, fun he => ?_⟩
    · conv => whnf
      have he' : sameKey f (l.getD ((k : Nat) : Int).toNat f0) = true := he
      rw [Int.toNat_natCast] at he'
      have : l.any (sameKey f) = true := List.any_eq_true.2 ⟨_, getD_mem hlt, he'⟩
      rw [this]
      rfl
    · conv => whnf
      repeat (first | (refine And.intro ⟨by omega, by omega⟩ ?_; conv => whnf) | (refine And.intro (by omega) (And.intro rfl ?_); conv => whnf) | (refine And.intro rfl ?_; conv => whnf) | (refine And.intro (fun _ => ⟨by omega, by omega⟩) ?_; conv => whnf) | (refine And.intro (fun _ => by omega) (And.intro rfl ?_); conv => whnf) | (refine And.intro ⟨(by first | omega | (simp; omega)), (by first | omega | (simp; omega))⟩ ?_; conv => whnf) | (refine Exists.intro _ (And.intro rfl (And.intro (by first | omega | (simp; omega)) (And.intro ⟨rfl, rfl, rfl, rfl, rfl⟩ ?_))); conv => whnf) | (refine And.intro ⟨rfl, rfl⟩ (And.intro (by first | omega | (simp; omega)) ?_); conv => whnf) | (refine Exists.intro _ (And.intro rfl ?_); conv => whnf) | (refine And.intro (fun _ => ?_) (fun h => absurd h (by decide)); conv => whnf) | (refine And.intro (fun h => absurd h (by decide)) (fun _ => ?_); conv => whnf) | (refine .quiet (by kernel_rfl) ?_; conv => whnf))
      have he' : sameKey f (l.getD ((k : Nat) : Int).toNat f0) = false := he
      rw [Int.toNat_natCast] at he'
      refine up hlt ?_ (wk_of [(0, .id 0)] rfl ⟨.base (.tree _ _ rfl rfl), .base (.ptr _ _ _ rfl), .base (.tree _ _ rfl rfl), trivial⟩ ⟨⟨_, rfl, .cells _ _ _ _ rfl (by repeat (first | exact .nil | refine .cons (by first | exact .base (.tree _ _ rfl rfl) | exact .base (.own _ _ rfl) | exact .base (.ptr _ _ _ rfl) | exact .base (.map _ _ rfl) | exact .base (.nilown _ rfl)) ?_)) rfl⟩, trivial⟩)
      rw [take_getD (d := f0) hlt, List.any_append, hP]
      simp only [List.any_cons, List.any_nil, Bool.or_false, Bool.false_or]
      exact he'
  · simp only [decide_eq_false_iff_not] at hd
    rw [List.take_of_length_le (by omega)] at hP
    conv => whnf
    rw [hP]
    rfl

/-- The place of the best, or -1. -/
def At (l : List Fact) (o : Option Fact) (i : Int) : Prop :=
  match o with
  | none => i = -1
  | some f => ∃ n : Nat, i = n ∧ n < l.length ∧ l.getD n f0 = f

theorem known2_ok (l : List Fact) (hl : Fits l) (issuer : Int) (name : List UInt8) (period day : Int) :
    APure Try.prog 30 [encFs l, .int .i64 issuer, .str name, .int .i64 period, .int .i64 day] (fun rs => ∃ i : Int, rs = [.val (.int .i64 i)] ∧ At l (best issuer name period day l) i) := by
  refine apure_of (C := cx 72 [0, 1, 2, 3, 4, 10, 11, 12, 16, 69]) (cxOk _ _) Try.func30 rfl (by decide) rfl (by exact Nat.le_of_ble_eq_true rfl) (by decide) ?_
  conv => whnf
  refine loop_inv (cxOk _ _) (σ := Nat × Int) (fun s => s.1 ≤ l.length ∧ At l (best issuer name period day (l.take s.1)) s.2) (fun s => l.length - s.1) (fun s => ⟨[(0, encFs l), (1, .int .i64 issuer), (2, .str name), (3, .int .i64 period), (4, .int .i64 day), (11, .int .i64 ((s.2))), (12, .int .i64 ((s.1) : Nat))], [], 0⟩) (0, -1) ⟨Nat.zero_le _, rfl⟩ (wk_of [] rfl ⟨.base (.tree _ _ rfl rfl), .base (.tree _ _ rfl rfl), .base (.tree _ _ rfl rfl), .base (.tree _ _ rfl rfl), .base (.tree _ _ rfl rfl), .base (.tree _ _ rfl rfl), .base (.tree _ _ rfl rfl), trivial⟩ trivial) ?_
  have hl1 := hl.1
  rintro s ⟨hk, hP⟩
  conv => whnf
  refine ⟨fun hd => ?_, fun hd => ?_⟩
  · simp only [decide_eq_true_eq] at hd
    have hlt : s.1 < l.length := by omega
    have hstep : best issuer name period day (l.take (s.1 + 1)) = best1 issuer name period day (best issuer name period day (l.take s.1)) (l.getD s.1 f0) := by
      rw [take_getD (d := f0) hlt]
      unfold best
      rw [List.foldl_append]
      rfl
    have hi : ¬ s.2 < 0 → 0 ≤ s.2 ∧ s.2 < l.length := by
      unfold At at hP
      intro h
      split at hP
      · omega
      · obtain ⟨n, h1, h2, _⟩ := hP
        omega
    conv => whnf
    repeat (first | (refine And.intro ⟨by omega, by omega⟩ ?_; conv => whnf) | (refine And.intro (by omega) (And.intro rfl ?_); conv => whnf) | (refine And.intro rfl ?_; conv => whnf) | (refine And.intro (fun _ => ⟨by omega, by omega⟩) ?_; conv => whnf) | (refine And.intro (fun _ => by omega) (And.intro rfl ?_); conv => whnf) | (refine And.intro ⟨(by first | omega | (simp; omega)), (by first | omega | (simp; omega))⟩ ?_; conv => whnf) | (refine Exists.intro _ (And.intro rfl (And.intro (by first | omega | (simp; omega)) (And.intro ⟨rfl, rfl, rfl, rfl, rfl⟩ ?_))); conv => whnf) | (refine And.intro ⟨rfl, rfl⟩ (And.intro (by first | omega | (simp; omega)) ?_); conv => whnf) | (refine Exists.intro _ (And.intro rfl ?_); conv => whnf) | (refine And.intro (fun _ => ?_) (fun h => absurd h (by decide)); conv => whnf) | (refine And.intro (fun h => absurd h (by decide)) (fun _ => ?_); conv => whnf) | (refine .quiet (by kernel_rfl) ?_; conv => whnf))
    refine And.intro (fun hg => ?_) ?_
    · simp [andG, polB] at hg
      exact hi (by omega)
    conv => whnf
    repeat (first | (refine And.intro ⟨by omega, by omega⟩ ?_; conv => whnf) | (refine And.intro (by omega) (And.intro rfl ?_); conv => whnf) | (refine And.intro rfl ?_; conv => whnf) | (refine And.intro (fun _ => ⟨by omega, by omega⟩) ?_; conv => whnf) | (refine And.intro (fun _ => by omega) (And.intro rfl ?_); conv => whnf) | (refine And.intro ⟨(by first | omega | (simp; omega)), (by first | omega | (simp; omega))⟩ ?_; conv => whnf) | (refine Exists.intro _ (And.intro rfl (And.intro (by first | omega | (simp; omega)) (And.intro ⟨rfl, rfl, rfl, rfl, rfl⟩ ?_))); conv => whnf) | (refine And.intro ⟨rfl, rfl⟩ (And.intro (by first | omega | (simp; omega)) ?_); conv => whnf) | (refine Exists.intro _ (And.intro rfl ?_); conv => whnf) | (refine And.intro (fun _ => ?_) (fun h => absurd h (by decide)); conv => whnf) | (refine And.intro (fun h => absurd h (by decide)) (fun _ => ?_); conv => whnf) | (refine .quiet (by kernel_rfl) ?_; conv => whnf))
    refine ⟨fun he => ?_, fun he => ?_⟩
    · conv => whnf
      repeat (first | (refine And.intro ⟨by omega, by omega⟩ ?_; conv => whnf) | (refine And.intro (by omega) (And.intro rfl ?_); conv => whnf) | (refine And.intro rfl ?_; conv => whnf) | (refine And.intro (fun _ => ⟨by omega, by omega⟩) ?_; conv => whnf) | (refine And.intro (fun _ => by omega) (And.intro rfl ?_); conv => whnf) | (refine And.intro ⟨(by first | omega | (simp; omega)), (by first | omega | (simp; omega))⟩ ?_; conv => whnf) | (refine Exists.intro _ (And.intro rfl (And.intro (by first | omega | (simp; omega)) (And.intro ⟨rfl, rfl, rfl, rfl, rfl⟩ ?_))); conv => whnf) | (refine And.intro ⟨rfl, rfl⟩ (And.intro (by first | omega | (simp; omega)) ?_); conv => whnf) | (refine Exists.intro _ (And.intro rfl ?_); conv => whnf) | (refine And.intro (fun _ => ?_) (fun h => absurd h (by decide)); conv => whnf) | (refine And.intro (fun h => absurd h (by decide)) (fun _ => ?_); conv => whnf) | (refine .quiet (by kernel_rfl) ?_; conv => whnf))
      have he' : (heard issuer name period day (l.getD ((s.1 : Nat) : Int).toNat f0) && (decide (s.2 < 0) || decide ((l.getD s.2.toNat f0).period ≤ (l.getD ((s.1 : Nat) : Int).toNat f0).period))) = true := he
      rw [Int.toNat_natCast] at he'
      obtain ⟨h1, h2⟩ := Bool.and_eq_true_iff.1 he'
      refine ⟨(s.1 + 1, (s.1 : Int)), ⟨hlt, ?_⟩, by show l.length - (s.1 + 1) < l.length - s.1; omega, (wk_of [] rfl ⟨.base (.tree _ _ rfl rfl), .base (.tree _ _ rfl rfl), .base (.tree _ _ rfl rfl), .base (.tree _ _ rfl rfl), .base (.tree _ _ rfl rfl), .base (.tree _ _ rfl rfl), .base (.tree _ _ rfl rfl), trivial⟩ trivial)⟩
      rw [hstep]
      unfold best1
      rw [if_pos h1]
      unfold At at hP
      split at hP
      · rename_i h3
        rw [h3]
        exact ⟨s.1, rfl, hlt, rfl⟩
      · rename_i g h3
        obtain ⟨n, h4, h5, h6⟩ := hP
        rw [h3]
        unfold better
        have : g.period ≤ (l.getD s.1 f0).period := by
          rw [h4] at h2
          simp only [Int.toNat_natCast, h6, Bool.or_eq_true, decide_eq_true_eq] at h2
          omega
        simp only [this, if_true]
        exact ⟨s.1, rfl, hlt, rfl⟩
    · conv => whnf
      repeat (first | (refine And.intro ⟨by omega, by omega⟩ ?_; conv => whnf) | (refine And.intro (by omega) (And.intro rfl ?_); conv => whnf) | (refine And.intro rfl ?_; conv => whnf) | (refine And.intro (fun _ => ⟨by omega, by omega⟩) ?_; conv => whnf) | (refine And.intro (fun _ => by omega) (And.intro rfl ?_); conv => whnf) | (refine And.intro ⟨(by first | omega | (simp; omega)), (by first | omega | (simp; omega))⟩ ?_; conv => whnf) | (refine Exists.intro _ (And.intro rfl (And.intro (by first | omega | (simp; omega)) (And.intro ⟨rfl, rfl, rfl, rfl, rfl⟩ ?_))); conv => whnf) | (refine And.intro ⟨rfl, rfl⟩ (And.intro (by first | omega | (simp; omega)) ?_); conv => whnf) | (refine Exists.intro _ (And.intro rfl ?_); conv => whnf) | (refine And.intro (fun _ => ?_) (fun h => absurd h (by decide)); conv => whnf) | (refine And.intro (fun h => absurd h (by decide)) (fun _ => ?_); conv => whnf) | (refine .quiet (by kernel_rfl) ?_; conv => whnf))
      have he' : (heard issuer name period day (l.getD ((s.1 : Nat) : Int).toNat f0) && (decide (s.2 < 0) || decide ((l.getD s.2.toNat f0).period ≤ (l.getD ((s.1 : Nat) : Int).toNat f0).period))) = false := he
      rw [Int.toNat_natCast] at he'
      refine ⟨(s.1 + 1, s.2), ⟨hlt, ?_⟩, by show l.length - (s.1 + 1) < l.length - s.1; omega, (wk_of [] rfl ⟨.base (.tree _ _ rfl rfl), .base (.tree _ _ rfl rfl), .base (.tree _ _ rfl rfl), .base (.tree _ _ rfl rfl), .base (.tree _ _ rfl rfl), .base (.tree _ _ rfl rfl), .base (.tree _ _ rfl rfl), trivial⟩ trivial)⟩
      show At l (best issuer name period day (l.take (s.1 + 1))) s.2
      rw [hstep]
      unfold best1
      split
      · rename_i h1
        rw [h1, Bool.true_and] at he'
        obtain ⟨h2, h3⟩ := Bool.or_eq_false_iff.1 he'
        simp only [decide_eq_false_iff_not] at h2 h3
        unfold At at hP
        split at hP
        · omega
        · rename_i g h4
          obtain ⟨n, h5, h6, h7⟩ := hP
          rw [h4]
          unfold better
          have : ¬ g.period ≤ (l.getD s.1 f0).period := by
            rw [h5, Int.toNat_natCast, h7] at h3
            exact h3
          simp only [this, if_false]
          exact ⟨n, h5, h6, h7⟩
      · exact hP
  · simp only [decide_eq_false_iff_not] at hd
    rw [List.take_of_length_le (by omega)] at hP
    conv => whnf
    exact ⟨s.2, rfl, hP⟩

theorem strings_ok (a b : List (List UInt8)) (ha : a.length ≤ 1000000) (hb : b.length ≤ 1000000) : APureV Try.prog 19 [encSs a, encSs b] (.bool (decide (a = b))) := by
  refine apure_of (C := cx 26 [0, 1, 4, 5, 10, 14, 25]) (cxOk _ _) Try.func19 rfl (by decide) rfl (by exact Nat.le_of_ble_eq_true rfl) (by decide) ?_
  conv => whnf
  refine ⟨fun hc => ?_, fun hc => ?_⟩
  · conv => whnf
    simp only [Bool.not_eq_true', decide_eq_false_iff_not] at hc
    have : ¬ a = b := fun e => hc (by rw [e])
    simp [this]
  simp only [Bool.not_eq_false', decide_eq_true_eq] at hc
  conv => whnf
  refine loop_up (cxOk _ _) a.length (fun k => a.take k = b.take k) (fun k => ⟨[(0, encSs a), (1, encSs b), (5, .int .i64 (k : Nat))], [], 0⟩) (by simp) (wk_of [] rfl ⟨.base (.tree _ _ rfl rfl), .base (.tree _ _ rfl rfl), .base (.tree _ _ rfl rfl), trivial⟩ trivial) ?_
  intro k hk hP
  conv => whnf
  refine ⟨fun hd => ?_, fun hd => ?_⟩
  · simp only [decide_eq_true_eq] at hd
    have hlt : k < a.length := by omega
    have hlt2 : k < b.length := by omega
    conv => whnf
    repeat (first | (refine And.intro ⟨by omega, by omega⟩ ?_; conv => whnf) | (refine And.intro (by omega) (And.intro rfl ?_); conv => whnf) | (refine And.intro rfl ?_; conv => whnf) | (refine And.intro (fun _ => ⟨by omega, by omega⟩) ?_; conv => whnf) | (refine And.intro (fun _ => by omega) (And.intro rfl ?_); conv => whnf) | (refine And.intro ⟨(by first | omega | (simp; omega)), (by first | omega | (simp; omega))⟩ ?_; conv => whnf) | (refine Exists.intro _ (And.intro rfl (And.intro (by first | omega | (simp; omega)) (And.intro ⟨rfl, rfl, rfl, rfl, rfl⟩ ?_))); conv => whnf) | (refine And.intro ⟨rfl, rfl⟩ (And.intro (by first | omega | (simp; omega)) ?_); conv => whnf) | (refine Exists.intro _ (And.intro rfl ?_); conv => whnf) | (refine And.intro (fun _ => ?_) (fun h => absurd h (by decide)); conv => whnf) | (refine And.intro (fun h => absurd h (by decide)) (fun _ => ?_); conv => whnf) | (refine .quiet (by kernel_rfl) ?_; conv => whnf))
    refine ⟨fun he => ?_, fun he => ?_⟩
    · conv => whnf
      simp only [Int.toNat_natCast, Bool.not_eq_true', decide_eq_false_iff_not] at he
      have : ¬ a = b := fun e => he (by rw [e])
      simp [this]
    · conv => whnf
      repeat (first | (refine And.intro ⟨by omega, by omega⟩ ?_; conv => whnf) | (refine And.intro (by omega) (And.intro rfl ?_); conv => whnf) | (refine And.intro rfl ?_; conv => whnf) | (refine And.intro (fun _ => ⟨by omega, by omega⟩) ?_; conv => whnf) | (refine And.intro (fun _ => by omega) (And.intro rfl ?_); conv => whnf) | (refine And.intro ⟨(by first | omega | (simp; omega)), (by first | omega | (simp; omega))⟩ ?_; conv => whnf) | (refine Exists.intro _ (And.intro rfl (And.intro (by first | omega | (simp; omega)) (And.intro ⟨rfl, rfl, rfl, rfl, rfl⟩ ?_))); conv => whnf) | (refine And.intro ⟨rfl, rfl⟩ (And.intro (by first | omega | (simp; omega)) ?_); conv => whnf) | (refine Exists.intro _ (And.intro rfl ?_); conv => whnf) | (refine And.intro (fun _ => ?_) (fun h => absurd h (by decide)); conv => whnf) | (refine And.intro (fun h => absurd h (by decide)) (fun _ => ?_); conv => whnf) | (refine .quiet (by kernel_rfl) ?_; conv => whnf))
      simp only [Int.toNat_natCast, Bool.not_eq_false', decide_eq_true_eq] at he
      refine up hlt ?_ (wk_of [] rfl ⟨.base (.tree _ _ rfl rfl), .base (.tree _ _ rfl rfl), .base (.tree _ _ rfl rfl), trivial⟩ trivial)
      rw [take_getD (d := []) hlt, take_getD (d := []) hlt2, hP, he]
  · simp only [decide_eq_false_iff_not] at hd
    rw [List.take_of_length_le (by omega), List.take_of_length_le (by omega)] at hP
    conv => whnf
    simp [hP]

/-- A slice of numbers. -/
def encJ (n : Int) : AV := .int .i64 n
theorem ints_ok (a b : List Int) (ha : a.length ≤ 1000000) (hb : b.length ≤ 1000000) : APureV Try.prog 20 [.sl 1 encJ 0 a, .sl 1 encJ 0 b] (.bool (decide (a = b))) := by
  refine apure_of (C := cx 26 [0, 1, 4, 5, 10, 14, 25]) (cxOk _ _) Try.func20 rfl (by decide) rfl (by exact Nat.le_of_ble_eq_true rfl) (by decide) ?_
  conv => whnf
  refine ⟨fun hc => ?_, fun hc => ?_⟩
  · conv => whnf
    simp only [Bool.not_eq_true', decide_eq_false_iff_not] at hc
    have : ¬ a = b := fun e => hc (by rw [e])
    simp [this]
  simp only [Bool.not_eq_false', decide_eq_true_eq] at hc
  conv => whnf
  refine loop_up (cxOk _ _) a.length (fun k => a.take k = b.take k) (fun k => ⟨[(0, .sl 1 encJ 0 a), (1, .sl 1 encJ 0 b), (5, .int .i64 (k : Nat))], [], 0⟩) (by simp) (wk_of [] rfl ⟨.base (.tree _ _ rfl rfl), .base (.tree _ _ rfl rfl), .base (.tree _ _ rfl rfl), trivial⟩ trivial) ?_
  intro k hk hP
  conv => whnf
  refine ⟨fun hd => ?_, fun hd => ?_⟩
  · simp only [decide_eq_true_eq] at hd
    have hlt : k < a.length := by omega
    have hlt2 : k < b.length := by omega
    conv => whnf
    repeat (first | (refine And.intro ⟨by omega, by omega⟩ ?_; conv => whnf) | (refine And.intro (by omega) (And.intro rfl ?_); conv => whnf) | (refine And.intro rfl ?_; conv => whnf) | (refine And.intro (fun _ => ⟨by omega, by omega⟩) ?_; conv => whnf) | (refine And.intro (fun _ => by omega) (And.intro rfl ?_); conv => whnf) | (refine And.intro ⟨(by first | omega | (simp; omega)), (by first | omega | (simp; omega))⟩ ?_; conv => whnf) | (refine Exists.intro _ (And.intro rfl (And.intro (by first | omega | (simp; omega)) (And.intro ⟨rfl, rfl, rfl, rfl, rfl⟩ ?_))); conv => whnf) | (refine And.intro ⟨rfl, rfl⟩ (And.intro (by first | omega | (simp; omega)) ?_); conv => whnf) | (refine Exists.intro _ (And.intro rfl ?_); conv => whnf) | (refine And.intro (fun _ => ?_) (fun h => absurd h (by decide)); conv => whnf) | (refine And.intro (fun h => absurd h (by decide)) (fun _ => ?_); conv => whnf) | (refine .quiet (by kernel_rfl) ?_; conv => whnf))
    refine ⟨fun he => ?_, fun he => ?_⟩
    · conv => whnf
      simp only [Int.toNat_natCast, Bool.not_eq_true', decide_eq_false_iff_not] at he
      have : ¬ a = b := fun e => he (by rw [e])
      simp [this]
    · conv => whnf
      repeat (first | (refine And.intro ⟨by omega, by omega⟩ ?_; conv => whnf) | (refine And.intro (by omega) (And.intro rfl ?_); conv => whnf) | (refine And.intro rfl ?_; conv => whnf) | (refine And.intro (fun _ => ⟨by omega, by omega⟩) ?_; conv => whnf) | (refine And.intro (fun _ => by omega) (And.intro rfl ?_); conv => whnf) | (refine And.intro ⟨(by first | omega | (simp; omega)), (by first | omega | (simp; omega))⟩ ?_; conv => whnf) | (refine Exists.intro _ (And.intro rfl (And.intro (by first | omega | (simp; omega)) (And.intro ⟨rfl, rfl, rfl, rfl, rfl⟩ ?_))); conv => whnf) | (refine And.intro ⟨rfl, rfl⟩ (And.intro (by first | omega | (simp; omega)) ?_); conv => whnf) | (refine Exists.intro _ (And.intro rfl ?_); conv => whnf) | (refine And.intro (fun _ => ?_) (fun h => absurd h (by decide)); conv => whnf) | (refine And.intro (fun h => absurd h (by decide)) (fun _ => ?_); conv => whnf) | (refine .quiet (by kernel_rfl) ?_; conv => whnf))
      simp only [Int.toNat_natCast, Bool.not_eq_false', decide_eq_true_eq] at he
      refine up hlt ?_ (wk_of [] rfl ⟨.base (.tree _ _ rfl rfl), .base (.tree _ _ rfl rfl), .base (.tree _ _ rfl rfl), trivial⟩ trivial)
      rw [take_getD (d := 0) hlt, take_getD (d := 0) hlt2, hP, he]
  · simp only [decide_eq_false_iff_not] at hd
    rw [List.take_of_length_le (by omega), List.take_of_length_le (by omega)] at hP
    conv => whnf
    simp [hP]

end Go.Proofs.Ytnpnjaeobdapcaa
