import Derived.Test.YtnpnjaeobdapcaaT19
namespace Go.Proofs.Ytnpnjaeobdapcaa
open Go.Own
set_option maxHeartbeats 1000000
set_option maxRecDepth 100000

theorem valueO_eq {l : List Fact} (hR : rightB l = true) (issuer : Int) (name : List UInt8) (period day : Int) : valueO l issuer name period day = best issuer name period day l := by
  rw [valueO, if_pos hR, known_best]

theorem value2_ok (l : List Fact) (hl : Fits l) (issuer : Int) (name : List UInt8) (period day : Int) :
    APure Try.prog 14 [encFs l, .int .i64 issuer, .str name, .int .i64 period, .int .i64 day] (fun rs => rs = [.val (.int .i64 ((valueO l issuer name period day).getD f0).value), .val (.bool (valueO l issuer name period day).isSome)]) := by
  refine apure_of (C := cx 31 [0, 1, 2, 3, 4, 10, 11, 12, 25]) (cxOk _ _) Try.func14 rfl (by decide) rfl (by exact Nat.le_of_ble_eq_true rfl) (by decide) ?_
  conv => whnf
  refine .any _ _ _ ⟨rfl, rfl⟩ (known2_ok l hl issuer name period day) (by repeat (first | exact .nil | (apply BorL.cons; first | exact lS rfl | exact lR rfl | exact lM rfl rfl | exact lL rfl | exact lX rfl | exact lN | exact lNl | exact lSm rfl | exact lIm rfl | exact lP rfl | exact lQ rfl))) (by first | exact .inl rfl | exact .inr (by repeat (first | exact flats_nil | refine flats_cons (by first | exact flat_val _ rfl | exact flat_row (fun _ => rfl) | exact flat_lst (fun _ => rfl)) ?_))) ?_
  rintro rs ⟨i, rfl, hi⟩
  conv => whnf
  refine .one _ _ _ (fun _ => right2_ok l hl) (by repeat (first | exact .nil | (apply BorL.cons; first | exact lS rfl | exact lR rfl | exact lM rfl rfl | exact lL rfl | exact lX rfl | exact lN | exact lNl | exact lSm rfl | exact lIm rfl | exact lP rfl | exact lQ rfl))) (by first | exact .inl rfl | exact .inr (by repeat (first | exact flats_nil | refine flats_cons (by first | exact flat_val _ rfl | exact flat_row (fun _ => rfl) | exact flat_lst (fun _ => rfl)) ?_))) (by first | exact .inl rfl | exact .inr rfl) ?_
  conv => whnf
  refine ⟨fun hc => ?_, fun hc => ?_⟩
  · conv => whnf
    have hc' : (decide (i < 0) || !rightB l) = true := hc
    have : valueO l issuer name period day = none := by
      unfold valueO
      split
      · rename_i hR
        rw [hR] at hc'
        simp only [Bool.not_true, Bool.or_false, decide_eq_true_eq] at hc'
        rw [known_best]
        unfold At at hi
        split at hi
        · assumption
        · obtain ⟨n, h1, _⟩ := hi
          omega
      · rfl
    rw [this]
    rfl
  · have hc' : (decide (i < 0) || !rightB l) = false := hc
    obtain ⟨h1, h2⟩ := Bool.or_eq_false_iff.1 hc'
    have hR : rightB l = true := by simpa using h2
    simp only [decide_eq_false_iff_not] at h1
    have hV := valueO_eq hR issuer name period day
    unfold At at hi
    split at hi
    · omega
    · rename_i g hg
      obtain ⟨n, h3, h4, h5⟩ := hi
      subst h3
      rw [hV, hg, ← h5]
      conv => whnf
      repeat (first | (refine And.intro ⟨by omega, by omega⟩ ?_; conv => whnf) | (refine And.intro (by omega) (And.intro rfl ?_); conv => whnf) | (refine And.intro rfl ?_; conv => whnf) | (refine And.intro (fun _ => ⟨by omega, by omega⟩) ?_; conv => whnf) | (refine And.intro (fun _ => by omega) (And.intro rfl ?_); conv => whnf) | (refine And.intro ⟨(by first | omega | (simp; omega)), (by first | omega | (simp; omega))⟩ ?_; conv => whnf) | (refine Exists.intro _ (And.intro rfl (And.intro (by first | omega | (simp; omega)) (And.intro ⟨rfl, rfl, rfl, rfl, rfl⟩ ?_))); conv => whnf) | (refine And.intro ⟨rfl, rfl⟩ (And.intro (by first | omega | (simp; omega)) ?_); conv => whnf) | (refine Exists.intro _ (And.intro rfl ?_); conv => whnf) | (refine And.intro (fun _ => ?_) (fun h => absurd h (by decide)); conv => whnf) | (refine And.intro (fun h => absurd h (by decide)) (fun _ => ?_); conv => whnf) | (refine .quiet (by kernel_rfl) ?_; conv => whnf))
      rw [Int.toNat_natCast]
      rfl

theorem add2_ok (l : List Fact) (hl : Fits l) (h20 : l.length ≤ 100000) (f : Fact) (hf : f.name.length ≤ 9223372036854775807) : APure Try.prog 13 [encFs l, encF f] (fun rs => rs = addRs l f) := by
  refine apure_of (C := cx 38 [0, 1, 3, 4, 5, 13, 28, 31]) (cxOk _ _) Try.func13 rfl (by decide) rfl (by exact Nat.le_of_ble_eq_true rfl) (by decide) ?_
  conv => whnf
  refine .one _ _ _ (fun _ => right2_ok l hl) (by repeat (first | exact .nil | (apply BorL.cons; first | exact lS rfl | exact lR rfl | exact lM rfl rfl | exact lL rfl | exact lX rfl | exact lN | exact lNl | exact lSm rfl | exact lIm rfl | exact lP rfl | exact lQ rfl))) (by first | exact .inl rfl | exact .inr (by repeat (first | exact flats_nil | refine flats_cons (by first | exact flat_val _ rfl | exact flat_row (fun _ => rfl) | exact flat_lst (fun _ => rfl)) ?_))) (by first | exact .inl rfl | exact .inr rfl) ?_
  conv => whnf
  refine .one _ _ _ (fun _ => one2_ok f hf) (by repeat (first | exact .nil | (apply BorL.cons; first | exact lS rfl | exact lR rfl | exact lM rfl rfl | exact lL rfl | exact lX rfl | exact lN | exact lNl | exact lSm rfl | exact lIm rfl | exact lP rfl | exact lQ rfl))) (by first | exact .inl rfl | exact .inr (by repeat (first | exact flats_nil | refine flats_cons (by first | exact flat_val _ rfl | exact flat_row (fun _ => rfl) | exact flat_lst (fun _ => rfl)) ?_))) (by first | exact .inl rfl | exact .inr rfl) ?_
  conv => whnf
  refine ⟨fun hc => ?_, fun hc => ?_⟩
  · conv => whnf
    have : addE l f = 1 := by
      have hc' : (!rightB l || !oneB f) = true := hc
      rw [addE, if_pos hc']
    rw [addRs, if_neg (by omega), this]
    rfl
  have h1 : (!rightB l || !oneB f) = false := hc
  have key : addE l f = if (decide ((0 : Int) < l.length) && decide (f.day < (l.getD (l.length - 1) f0).day)) = true then 20 else if 10000 ≤ (l.length : Int) then 6 else 0 := by
    rw [addE, if_neg (by rw [h1]; decide)]
  have hidx : ((l.length : Int) - 1).toNat = l.length - 1 := by omega
  conv => whnf
  refine .quiet (by kernel_rfl) ?_
  conv => whnf
  refine And.intro (fun hg => ?_) ?_
  · have := guard_true hg
    simp only [decide_eq_true_eq] at this
    constructor <;> omega
  conv => whnf
  refine And.intro (fun hg => ?_) (And.intro rfl ?_)
  · have := guard_true hg
    simp only [decide_eq_true_eq] at this
    constructor <;> omega
  conv => whnf
  refine ⟨fun hc => ?_, fun hc => ?_⟩
  · conv => whnf
    rw [hidx] at hc
    have : addE l f = 20 := by rw [key, if_pos hc]
    rw [addRs, if_neg (by omega), this]
    rfl
  conv => whnf
  rw [hidx] at hc
  refine ⟨fun hd => ?_, fun hd => ?_⟩
  · conv => whnf
    simp only [decide_eq_true_eq] at hd
    have : addE l f = 6 := by rw [key, if_neg (by rw [hc]; decide), if_pos (by omega)]
    rw [addRs, if_neg (by omega), this]
    rfl
  conv => whnf
  simp only [decide_eq_false_iff_not] at hd
  have h0 : addE l f = 0 := by rw [key, if_neg (by rw [hc]; decide), if_neg (by omega)]
  refine .eff (cxOk _ _) ?_
  conv => whnf
  repeat (first | (refine And.intro ⟨by omega, by omega⟩ ?_; conv => whnf) | (refine And.intro (by omega) (And.intro rfl ?_); conv => whnf) | (refine And.intro rfl ?_; conv => whnf) | (refine And.intro (fun _ => ⟨by omega, by omega⟩) ?_; conv => whnf) | (refine And.intro (fun _ => by omega) (And.intro rfl ?_); conv => whnf) | (refine And.intro ⟨(by first | omega | (simp; omega)), (by first | omega | (simp; omega))⟩ ?_; conv => whnf) | (refine Exists.intro _ (And.intro rfl (And.intro (by first | omega | (simp; omega)) (And.intro ⟨rfl, rfl, rfl, rfl, rfl⟩ ?_))); conv => whnf) | (refine And.intro ⟨rfl, rfl⟩ (And.intro (by first | omega | (simp; omega)) ?_); conv => whnf) | (refine Exists.intro _ (And.intro rfl ?_); conv => whnf) | (refine And.intro (fun _ => ?_) (fun h => absurd h (by decide)); conv => whnf) | (refine And.intro (fun h => absurd h (by decide)) (fun _ => ?_); conv => whnf) | (refine .quiet (by kernel_rfl) ?_; conv => whnf))
  refine And.intro ⟨rfl, rfl⟩ (And.intro (show (0 + l.length) * 48 ≤ 140737488355328 by omega) ?_)
  conv => whnf
  repeat (first | (refine And.intro ⟨by omega, by omega⟩ ?_; conv => whnf) | (refine And.intro (by omega) (And.intro rfl ?_); conv => whnf) | (refine And.intro rfl ?_; conv => whnf) | (refine And.intro (fun _ => ⟨by omega, by omega⟩) ?_; conv => whnf) | (refine And.intro (fun _ => by omega) (And.intro rfl ?_); conv => whnf) | (refine And.intro ⟨(by first | omega | (simp; omega)), (by first | omega | (simp; omega))⟩ ?_; conv => whnf) | (refine Exists.intro _ (And.intro rfl (And.intro (by first | omega | (simp; omega)) (And.intro ⟨rfl, rfl, rfl, rfl, rfl⟩ ?_))); conv => whnf) | (refine And.intro ⟨rfl, rfl⟩ (And.intro (by first | omega | (simp; omega)) ?_); conv => whnf) | (refine Exists.intro _ (And.intro rfl ?_); conv => whnf) | (refine And.intro (fun _ => ?_) (fun h => absurd h (by decide)); conv => whnf) | (refine And.intro (fun h => absurd h (by decide)) (fun _ => ?_); conv => whnf) | (refine .quiet (by kernel_rfl) ?_; conv => whnf))
  refine And.intro ⟨rfl, rfl⟩ (And.intro (show (l.length + 1) * 48 ≤ 140737488355328 by omega) ?_)
  conv => whnf
  refine ⟨f, rfl, ?_⟩
  conv => whnf
  refine ⟨by kernel_rfl, ?_⟩
  conv => whnf
  rw [addRs, if_pos h0]
  rfl

end Go.Proofs.Ytnpnjaeobdapcaa
