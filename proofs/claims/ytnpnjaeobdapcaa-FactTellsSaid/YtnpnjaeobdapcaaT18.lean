import Derived.Test.YtnpnjaeobdapcaaT5
namespace Go.Proofs.Ytnpnjaeobdapcaa
open Go.Own
set_option maxHeartbeats 1000000
set_option maxRecDepth 100000

/-! The functions of the reference, stated by what the functions of the program answer. -/
theorem letter2_ok (c : Int) : APureV Try.prog 52 [.int .u8 c] (.bool (letterB c)) := by
  refine apure_of (C := cx 9 [0, 2]) (cxOk _ _) Try.func52 rfl (by decide) rfl (by exact Nat.le_of_ble_eq_true rfl) (by decide) ?_
  conv => whnf
  rfl
theorem digit2_ok (c : Int) : APureV Try.prog 53 [.int .u8 c] (.bool (digitB c)) := by
  refine apure_of (C := cx 9 [0, 2]) (cxOk _ _) Try.func53 rfl (by decide) rfl (by exact Nat.le_of_ble_eq_true rfl) (by decide) ?_
  conv => whnf
  rfl

theorem span_all (p : Int → Bool) : ∀ s : List UInt8, decide ((spanN p s : Int) = (s.length : Int)) = s.all (fun c => p c.toNat)
  | [] => rfl
  | c :: s => by
    have ih := span_all p s
    have hle : ∀ s : List UInt8, spanN p s ≤ s.length := by
      intro s
      induction s with
      | nil => exact Nat.le_refl _
      | cons c s ih => unfold spanN; split <;> simp <;> omega
    rw [List.all_cons, ← ih, show spanN p (c :: s) = if p c.toNat then spanN p s + 1 else 0 from rfl]
    by_cases h : p c.toNat = true
    · rw [if_pos h, h]
      simp
    · rw [if_neg h]
      have : p c.toNat = false := by simpa using h
      rw [this]
      simp
      omega

theorem wordB_eq (s : List UInt8) : wordB s = ((!(decide ((s.length : Int) < 1) || decide (20 < (s.length : Int)) || !letterB (s.getD 0 0).toNat)) && (s.drop 1).all (fun c => wordC c.toNat)) := by
  unfold wordB
  rw [span_all]
  cases s with
  | nil => simp
  | cons c s =>
    have h1 : decide (((c :: s).length : Int) < 1) = false := by simp; omega
    rw [h1]
    cases hl : letterB (c.toNat : Int) with
    | false => simp [hl]
    | true =>
      have : wordC (c.toNat : Int) = true := by unfold wordC; rw [hl]; rfl
      simp [hl, this]

theorem word2_ok (s : List UInt8) (hs : s.length ≤ 9223372036854775807) : APureV Try.prog 43 [.str s] (.bool (wordB s)) := by
  refine apure_of (C := cx 36 [0, 2, 3, 17, 21, 35]) (cxOk _ _) Try.func43 rfl (by decide) rfl (by exact Nat.le_of_ble_eq_true rfl) (by decide) ?_
  conv => whnf
  refine And.intro (fun hg => ?_) ?_
  · simp [andG, polB] at hg
    exact ⟨by omega, by omega⟩
  conv => whnf
  refine .one _ _ _ (fun _ => letter2_ok _) (by repeat (first | exact .nil | (apply BorL.cons; first | exact lS rfl | exact lR rfl | exact lM rfl rfl | exact lL rfl | exact lX rfl | exact lN | exact lNl | exact lSm rfl | exact lIm rfl | exact lP rfl | exact lQ rfl))) (by first | exact .inl rfl | exact .inr (by repeat (first | exact flats_nil | refine flats_cons (by first | exact flat_val _ rfl | exact flat_row (fun _ => rfl) | exact flat_lst (fun _ => rfl)) ?_))) (by first | exact .inl rfl | exact .inr rfl) ?_
  conv => whnf
  have hW := wordB_eq s
  refine ⟨fun hc => ?_, fun hc => ?_⟩
  · conv => whnf
    have hc' : (decide ((s.length : Int) < 1) || decide (20 < (s.length : Int)) || !letterB (s.getD 0 0).toNat) = true := hc
    rw [hc'] at hW
    rw [hW]
    rfl
  · have hc' : (decide ((s.length : Int) < 1) || decide (20 < (s.length : Int)) || !letterB (s.getD 0 0).toNat) = false := hc
    rw [hc'] at hW
    have hl1 : 1 ≤ s.length := by
      simp only [Bool.or_eq_false_iff, decide_eq_false_iff_not] at hc'
      omega
    have hall : wordB s = (s.drop 1).all (fun c => wordC c.toNat) := by rw [hW]; rfl
    clear hW hc hc'
    conv => whnf
    refine loop_up (cxOk _ _) (s.length - 1) (fun k => ((s.drop 1).take k).all (fun c => wordC c.toNat) = true) (fun k => ⟨[(0, .str s), (3, .int .i64 ((k + 1 : Nat) : Int))], [], 0⟩) (by simp) (wk_of [] rfl ⟨.base (.tree _ _ rfl rfl), .base (.tree _ _ rfl rfl), trivial⟩ trivial) ?_
    intro k hk hP
    conv => whnf
    refine ⟨fun hd => ?_, fun hd => ?_⟩
    · simp only [decide_eq_true_eq] at hd
      have hlt : k + 1 < s.length := by omega
      have hstep : ((s.drop 1).take (k + 1)).all (fun c => wordC c.toNat) = wordC (s.getD (k + 1) 0).toNat := by
        have hlt' : k < (s.drop 1).length := by rw [List.length_drop]; omega
        rw [take_getD (d := 0) hlt', List.all_append, hP]
        have : (s.drop 1).getD k 0 = s.getD (k + 1) 0 := by
          simp [List.getD]
        rw [this]
        simp
      conv => whnf
      repeat (first | (refine And.intro ⟨by omega, by omega⟩ ?_; conv => whnf) | (refine And.intro (by omega) (And.intro rfl ?_); conv => whnf) | (refine And.intro rfl ?_; conv => whnf) | (refine And.intro (fun _ => ⟨by omega, by omega⟩) ?_; conv => whnf) | (refine And.intro (fun _ => by omega) (And.intro rfl ?_); conv => whnf) | (refine And.intro ⟨(by first | omega | (simp; omega)), (by first | omega | (simp; omega))⟩ ?_; conv => whnf) | (refine Exists.intro _ (And.intro rfl (And.intro (by first | omega | (simp; omega)) (And.intro ⟨rfl, rfl, rfl, rfl, rfl⟩ ?_))); conv => whnf) | (refine And.intro ⟨rfl, rfl⟩ (And.intro (by first | omega | (simp; omega)) ?_); conv => whnf) | (refine Exists.intro _ (And.intro rfl ?_); conv => whnf) | (refine And.intro (fun _ => ?_) (fun h => absurd h (by decide)); conv => whnf) | (refine And.intro (fun h => absurd h (by decide)) (fun _ => ?_); conv => whnf) | (refine .quiet (by kernel_rfl) ?_; conv => whnf))
      refine .one _ _ _ (fun _ => letter2_ok _) (by repeat (first | exact .nil | (apply BorL.cons; first | exact lS rfl | exact lR rfl | exact lM rfl rfl | exact lL rfl | exact lX rfl | exact lN | exact lNl | exact lSm rfl | exact lIm rfl | exact lP rfl | exact lQ rfl))) (by first | exact .inl rfl | exact .inr (by repeat (first | exact flats_nil | refine flats_cons (by first | exact flat_val _ rfl | exact flat_row (fun _ => rfl) | exact flat_lst (fun _ => rfl)) ?_))) (by first | exact .inl rfl | exact .inr rfl) ?_
      conv => whnf
      repeat (first | (refine And.intro ⟨by omega, by omega⟩ ?_; conv => whnf) | (refine And.intro (by omega) (And.intro rfl ?_); conv => whnf) | (refine And.intro rfl ?_; conv => whnf) | (refine And.intro (fun _ => ⟨by omega, by omega⟩) ?_; conv => whnf) | (refine And.intro (fun _ => by omega) (And.intro rfl ?_); conv => whnf) | (refine And.intro ⟨(by first | omega | (simp; omega)), (by first | omega | (simp; omega))⟩ ?_; conv => whnf) | (refine Exists.intro _ (And.intro rfl (And.intro (by first | omega | (simp; omega)) (And.intro ⟨rfl, rfl, rfl, rfl, rfl⟩ ?_))); conv => whnf) | (refine And.intro ⟨rfl, rfl⟩ (And.intro (by first | omega | (simp; omega)) ?_); conv => whnf) | (refine Exists.intro _ (And.intro rfl ?_); conv => whnf) | (refine And.intro (fun _ => ?_) (fun h => absurd h (by decide)); conv => whnf) | (refine And.intro (fun h => absurd h (by decide)) (fun _ => ?_); conv => whnf) | (refine .quiet (by kernel_rfl) ?_; conv => whnf))
      refine .one _ _ _ (fun _ => digit2_ok _) (by repeat (first | exact .nil | (apply BorL.cons; first | exact lS rfl | exact lR rfl | exact lM rfl rfl | exact lL rfl | exact lX rfl | exact lN | exact lNl | exact lSm rfl | exact lIm rfl | exact lP rfl | exact lQ rfl))) (by first | exact .inl rfl | exact .inr (by repeat (first | exact flats_nil | refine flats_cons (by first | exact flat_val _ rfl | exact flat_row (fun _ => rfl) | exact flat_lst (fun _ => rfl)) ?_))) (by first | exact .inl rfl | exact .inr rfl) ?_
      conv => whnf
      refine ⟨fun he => ?_, fun he => ?_⟩
      · conv => whnf
        have : wordC (s.getD (k + 1) 0).toNat = false := by
          have he' : (!letterB (s.getD (((k + 1 : Nat) : Int)).toNat 0).toNat && !digitB (s.getD (((k + 1 : Nat) : Int)).toNat 0).toNat) = true := he
          rw [Int.toNat_natCast] at he'
          simp only [Bool.and_eq_true, Bool.not_eq_true'] at he'
          unfold wordC
          rw [he'.1, he'.2]
          rfl
        have hf : wordB s = false := by
          rw [hall]
          cases hx : (s.drop 1).all (fun c => wordC c.toNat) with
          | false => rfl
          | true =>
            have := List.all_eq_true.1 hx
            rw [hstep.symm, List.all_eq_false] at *
            rename_i h5
            obtain ⟨c, hc1, hc2⟩ := h5
            exact (hc2 (this c (List.mem_of_mem_take hc1))).elim
        rw [hf]
        rfl
      · conv => whnf
        repeat (first | (refine And.intro ⟨by omega, by omega⟩ ?_; conv => whnf) | (refine And.intro (by omega) (And.intro rfl ?_); conv => whnf) | (refine And.intro rfl ?_; conv => whnf) | (refine And.intro (fun _ => ⟨by omega, by omega⟩) ?_; conv => whnf) | (refine And.intro (fun _ => by omega) (And.intro rfl ?_); conv => whnf) | (refine And.intro ⟨(by first | omega | (simp; omega)), (by first | omega | (simp; omega))⟩ ?_; conv => whnf) | (refine Exists.intro _ (And.intro rfl (And.intro (by first | omega | (simp; omega)) (And.intro ⟨rfl, rfl, rfl, rfl, rfl⟩ ?_))); conv => whnf) | (refine And.intro ⟨rfl, rfl⟩ (And.intro (by first | omega | (simp; omega)) ?_); conv => whnf) | (refine Exists.intro _ (And.intro rfl ?_); conv => whnf) | (refine And.intro (fun _ => ?_) (fun h => absurd h (by decide)); conv => whnf) | (refine And.intro (fun h => absurd h (by decide)) (fun _ => ?_); conv => whnf) | (refine .quiet (by kernel_rfl) ?_; conv => whnf))
        refine up (by omega) ?_ (wk_of [] rfl ⟨.base (.tree _ _ rfl rfl), .base (.tree _ _ rfl rfl), trivial⟩ trivial)
        rw [hstep]
        have he' : (!letterB (s.getD (((k + 1 : Nat) : Int)).toNat 0).toNat && !digitB (s.getD (((k + 1 : Nat) : Int)).toNat 0).toNat) = false := he
        rw [Int.toNat_natCast] at he'
        unfold wordC
        cases h1 : letterB (s.getD (k + 1) 0).toNat with
        | true => rfl
        | false =>
          rw [h1] at he'
          simpa using he'
    · simp only [decide_eq_false_iff_not] at hd
      rw [List.take_of_length_le (by rw [List.length_drop]; omega)] at hP
      conv => whnf
      rw [hall, hP]
      rfl

theorem reserved2_ok : APureV Try.prog 42 [] (encSs reservedL) := by
  have h : APure Try.prog 42 [] (fun rs => rs = [.new (.lst 9 1 (reservedL.map encS))]) := by
    refine apure_of (C := cx 2 [0]) (cxOk _ _) Try.func42 rfl (by decide) rfl (by exact Nat.le_of_ble_eq_true rfl) (by decide) ?_
    conv => whnf
    rfl
  exact h.freeze1.le1 (.lsl _ _ _ _ _ rfl)

theorem name2_ok (s : List UInt8) (hs : s.length ≤ 9223372036854775807) : APureV Try.prog 35 [.str s] (.bool (nameB s)) := by
  have hlen : reservedL.length = 50 := by decide
  have hr := reserved2_ok
  unfold nameB
  generalize reservedL = R at *
  refine apure_of (C := cx 20 [0, 2, 3, 4, 9, 17]) (cxOk _ _) Try.func35 rfl (by decide) rfl (by exact Nat.le_of_ble_eq_true rfl) (by decide) ?_
  conv => whnf
  refine .one _ _ _ (fun _ => hr) (by repeat (first | exact .nil | (apply BorL.cons; first | exact lS rfl | exact lR rfl | exact lM rfl rfl | exact lL rfl | exact lX rfl | exact lN | exact lNl | exact lSm rfl | exact lIm rfl | exact lP rfl | exact lQ rfl))) (by first | exact .inl rfl | exact .inr (by repeat (first | exact flats_nil | refine flats_cons (by first | exact flat_val _ rfl | exact flat_row (fun _ => rfl) | exact flat_lst (fun _ => rfl)) ?_))) (by first | exact .inl rfl | exact .inr rfl) ?_
  conv => whnf
  refine loop_up (cxOk _ _) R.length (fun k => s ∉ R.take k) (fun k => ⟨[(0, .str s), (3, encSs R), (4, .int .i64 (k : Nat))], [], 0⟩) (by simp) (wk_of [] rfl ⟨.base (.tree _ _ rfl rfl), .base (.tree _ _ rfl rfl), .base (.tree _ _ rfl rfl), trivial⟩ trivial) ?_
  intro k hk hP
  conv => whnf
  refine ⟨fun hd => ?_, fun hd => ?_⟩
  · simp only [decide_eq_true_eq] at hd
    have hlt : k < R.length := by omega
    conv => whnf
    repeat (first | (refine And.intro ⟨by omega, by omega⟩ ?_; conv => whnf) | (refine And.intro (by omega) (And.intro rfl ?_); conv => whnf) | (refine And.intro rfl ?_; conv => whnf) | (refine And.intro (fun _ => ⟨by omega, by omega⟩) ?_; conv => whnf) | (refine And.intro (fun _ => by omega) (And.intro rfl ?_); conv => whnf) | (refine And.intro ⟨(by first | omega | (simp; omega)), (by first | omega | (simp; omega))⟩ ?_; conv => whnf) | (refine Exists.intro _ (And.intro rfl (And.intro (by first | omega | (simp; omega)) (And.intro ⟨rfl, rfl, rfl, rfl, rfl⟩ ?_))); conv => whnf) | (refine And.intro ⟨rfl, rfl⟩ (And.intro (by first | omega | (simp; omega)) ?_); conv => whnf) | (refine Exists.intro _ (And.intro rfl ?_); conv => whnf) | (refine And.intro (fun _ => ?_) (fun h => absurd h (by decide)); conv => whnf) | (refine And.intro (fun h => absurd h (by decide)) (fun _ => ?_); conv => whnf) | (refine .quiet (by kernel_rfl) ?_; conv => whnf))
    refine ⟨fun he => ?_, fun he => ?_⟩
    · conv => whnf
      simp only [Int.toNat_natCast, decide_eq_true_eq] at he
      have hm : s ∈ R := by rw [← he]; exact getD_mem hlt
      simp [hm]
    · conv => whnf
      repeat (first | (refine And.intro ⟨by omega, by omega⟩ ?_; conv => whnf) | (refine And.intro (by omega) (And.intro rfl ?_); conv => whnf) | (refine And.intro rfl ?_; conv => whnf) | (refine And.intro (fun _ => ⟨by omega, by omega⟩) ?_; conv => whnf) | (refine And.intro (fun _ => by omega) (And.intro rfl ?_); conv => whnf) | (refine And.intro ⟨(by first | omega | (simp; omega)), (by first | omega | (simp; omega))⟩ ?_; conv => whnf) | (refine Exists.intro _ (And.intro rfl (And.intro (by first | omega | (simp; omega)) (And.intro ⟨rfl, rfl, rfl, rfl, rfl⟩ ?_))); conv => whnf) | (refine And.intro ⟨rfl, rfl⟩ (And.intro (by first | omega | (simp; omega)) ?_); conv => whnf) | (refine Exists.intro _ (And.intro rfl ?_); conv => whnf) | (refine And.intro (fun _ => ?_) (fun h => absurd h (by decide)); conv => whnf) | (refine And.intro (fun h => absurd h (by decide)) (fun _ => ?_); conv => whnf) | (refine .quiet (by kernel_rfl) ?_; conv => whnf))
      simp only [Int.toNat_natCast, decide_eq_false_iff_not] at he
      refine up hlt ?_ (wk_of [] rfl ⟨.base (.tree _ _ rfl rfl), .base (.tree _ _ rfl rfl), .base (.tree _ _ rfl rfl), trivial⟩ trivial)
      rw [take_getD (d := []) hlt, List.mem_append, List.mem_singleton]
      rintro (h | h)
      · exact hP h
      · exact he h.symm
  · simp only [decide_eq_false_iff_not] at hd
    rw [List.take_of_length_le (by omega)] at hP
    conv => whnf
    refine .one _ _ _ (fun _ => word2_ok s hs) (by repeat (first | exact .nil | (apply BorL.cons; first | exact lS rfl | exact lR rfl | exact lM rfl rfl | exact lL rfl | exact lX rfl | exact lN | exact lNl | exact lSm rfl | exact lIm rfl | exact lP rfl | exact lQ rfl))) (by first | exact .inl rfl | exact .inr (by repeat (first | exact flats_nil | refine flats_cons (by first | exact flat_val _ rfl | exact flat_row (fun _ => rfl) | exact flat_lst (fun _ => rfl)) ?_))) (by first | exact .inl rfl | exact .inr rfl) ?_
    conv => whnf
    simp [hP]

theorem one2_ok (f : Fact) (hs : f.name.length ≤ 9223372036854775807) : APureV Try.prog 29 [encF f] (.bool (oneB f)) := by
  refine apure_of (C := cx 43 [0, 1, 2]) (cxOk _ _) Try.func29 rfl (by decide) rfl (by exact Nat.le_of_ble_eq_true rfl) (by decide) ?_
  conv => whnf
  refine .one _ _ _ (fun _ => name2_ok _ hs) (by repeat (first | exact .nil | (apply BorL.cons; first | exact lS rfl | exact lR rfl | exact lM rfl rfl | exact lL rfl | exact lX rfl | exact lN | exact lNl | exact lSm rfl | exact lIm rfl | exact lP rfl | exact lQ rfl))) (by first | exact .inl rfl | exact .inr (by repeat (first | exact flats_nil | refine flats_cons (by first | exact flat_val _ rfl | exact flat_row (fun _ => rfl) | exact flat_lst (fun _ => rfl)) ?_))) (by first | exact .inl rfl | exact .inr rfl) ?_
  conv => whnf
  have : oneB f = (decide (0 ≤ f.issuer) && decide (f.issuer < 60) && nameB f.name && decide (0 ≤ f.period) && decide (f.period ≤ f.day) && decide (f.day ≤ 200000) && decide (0 ≤ f.value) && decide (f.value ≤ 1000000000000000)) := by
    unfold oneB
    cases nameB f.name <;> simp [Bool.and_assoc]
  rw [this]
  rfl

end Go.Proofs.Ytnpnjaeobdapcaa
