import Derived.Test.YtnpnjaeobdapcaaT3
namespace Go.Proofs.Ytnpnjaeobdapcaa
open Go.Own
set_option maxHeartbeats 400000

def goR : Int → List Fact → Bool
  | _, [] => true
  | last, f :: l => oneB f && !decide (f.day < last) && goR f.day l
def rightB (l : List Fact) : Bool := decide ((l.length : Int) ≤ 10000) && goR 0 l

theorem right_ok (l : List Fact) (hl : Fits l) : APureV Try.prog 12 [encFs l] (.bool (rightB l)) := by
  refine apure_of (C := cx 27 [0, 2, 3, 5, 8, 9, 10, 11, 12, 23]) (cxOk _ _) Try.func12 rfl (by decide) rfl (by exact Nat.le_of_ble_eq_true rfl) (by decide) ?_
  conv => whnf
  refine ⟨fun hc => ?_, fun hc => ?_⟩
  · conv => whnf
    simp only [decide_eq_true_eq] at hc
    have : rightB l = false := by simp [rightB]; omega
    rw [this]
    rfl
  conv => whnf
  simp only [decide_eq_false_iff_not] at hc
  have hR : rightB l = goR 0 l := by
    have : decide ((l.length : Int) ≤ 10000) = true := by simp; omega
    rw [rightB, this, Bool.true_and]
  refine loop_inv (cxOk _ _) (σ := Nat × Int) (fun s => s.1 ≤ l.length ∧ goR 0 l = goR s.2 (l.drop s.1)) (fun s => l.length - s.1) (fun s => ⟨[(3, .int .i64 s.2), (9, encFs l), (10, .int .i64 l.length), (11, .int .i64 s.1)], [], 0⟩) (0, 0) ⟨Nat.zero_le _, by simp⟩ ?_ ?_
  · exact wk_of [] rfl ⟨.base (.tree _ _ rfl rfl), .base (.tree _ _ rfl rfl), .base (.tree _ _ rfl rfl), .base (.tree _ _ rfl rfl), trivial⟩ trivial
  · rintro ⟨k, last⟩ ⟨hk, hP⟩
    conv => whnf
    refine ⟨fun hc => ?_, fun hc => ?_⟩
    · simp only [decide_eq_true_eq] at hc
      have hlt : k < l.length := by
        have : (k : Int) < l.length := hc
        omega
      have hdrop : l.drop k = l.getD k ⟨0, [], 0, 0, 0⟩ :: l.drop (k + 1) := by
        rw [List.drop_eq_getElem_cons hlt]
        simp [List.getD, List.getElem?_eq_getElem hlt]
      have hP' : goR 0 l = goR last (l.drop k) := hP
      rw [hdrop, goR] at hP'
      conv => whnf
      refine ⟨by constructor <;> omega, ?_⟩
      conv => whnf
      refine ⟨rfl, ?_⟩
      conv => whnf
      refine .one _ _ _ (fun _ => one_ok (l.getD k ⟨0, [], 0, 0, 0⟩) (hl.2 _ (getD_mem hlt))) (.cons (.base (.base (.same _ rfl))) .nil) (.inl rfl) (.inr rfl) ?_
      conv => whnf
      refine ⟨fun hd => ?_, fun hd => ?_⟩
      · simp only [Int.toNat_natCast] at hd
        conv => whnf
        have : rightB l = false := by
          rw [hR, hP']
          rcases Bool.or_eq_true_iff.1 hd with h | h
          · have : oneB (l.getD k ⟨0, [], 0, 0, 0⟩) = false := by simpa using h
            rw [this]; rfl
          · rw [h]; simp
        rw [this]
        rfl
      · simp only [Int.toNat_natCast] at hd
        conv => whnf
        refine ⟨by constructor <;> omega, ?_⟩
        conv => whnf
        refine ⟨(k + 1, (l.getD k ⟨0, [], 0, 0, 0⟩).day), ⟨hlt, ?_⟩, by show l.length - (k + 1) < l.length - k; omega, wk_of [] rfl ⟨.base (.tree _ _ rfl rfl), .base (.tree _ _ rfl rfl), .base (.tree _ _ rfl rfl), .base (.tree _ _ rfl rfl), trivial⟩ trivial⟩
        rw [hP']
        obtain ⟨h1, h2⟩ := Bool.or_eq_false_iff.1 hd
        rw [h2, show oneB (l.getD k ⟨0, [], 0, 0, 0⟩) = true by simpa using h1]
        rfl
    · conv => whnf
      have hge : l.length ≤ k := by
        have : ¬ ((k : Int) < l.length) := by simpa using hc
        omega
      have hP' : goR 0 l = goR last (l.drop k) := hP
      have : rightB l = true := by rw [hR, hP', List.drop_eq_nil_of_le hge]; rfl
      rw [this]
      rfl

abbrev f0 : Fact := ⟨0, [], 0, 0, 0⟩
theorem clone_ok (l : List Fact) (hl : l.length ≤ 1000000) : APure Try.prog 25 [encFs l] (fun rs => rs = [.new (.row 24 5 encF f0 l)]) := by
  have h : APure Try.prog 25 [encFs l] (fun rs => rs = [.new (.row 24 5 encF f0 l)] ∨ l = [] ∧ rs = [.val .nils]) := by
    refine apure_of (C := cx 8 [0, 2, 4]) (cxOk _ _) Try.func25 rfl (by decide) rfl (by exact Nat.le_of_ble_eq_true rfl) (by decide) ?_
    conv => whnf
    intro b hb
    conv => whnf
    refine ⟨fun hc => ?_, fun hc => ?_⟩
    · conv => whnf
      exact .inr ⟨hb hc, rfl⟩
    · conv => whnf
      refine ⟨rfl, ?_⟩
      conv => whnf
      refine ⟨⟨rfl, rfl⟩, (show (0 + l.length) * 48 ≤ 140737488355328 by omega), ?_⟩
      conv => whnf
      exact .inl rfl
  refine h.le fun rs hrs => ?_
  rcases hrs with rfl | ⟨rfl, rfl⟩
  · refine ⟨_, rfl, rfl, fun j r r' h1 h2 => ?_⟩
    cases j with
    | zero => simp at h1 h2; subst h1; subst h2; exact .same _
    | succ j => simp at h1
  · refine ⟨_, rfl, rfl, fun j r r' h1 h2 => ?_⟩
    cases j with
    | zero => simp at h1 h2; subst h1; subst h2; exact .nil _ _ _ _
    | succ j => simp at h1

def addE (l : List Fact) (f : Fact) : Int :=
  if !rightB l || !oneB f then 1 else if decide ((0 : Int) < l.length) && decide (f.day < (l.getD (l.length - 1) f0).day) then 20 else if 10000 ≤ (l.length : Int) then 6 else 0
def addRs (l : List Fact) (f : Fact) : List AR :=
  if addE l f = 0 then [.new (.row 24 5 encF f0 (l ++ [f])), .val (.int .i64 0)] else [.val .nils, .val (.int .i64 (addE l f))]

theorem add_ok (l : List Fact) (hl : Fits l) (h20 : l.length ≤ 100000) (f : Fact) (hf : f.name.length ≤ 9223372036854775807) : APure Try.prog 9 [encFs l, encF f] (fun rs => rs = addRs l f) := by
  refine apure_of (C := cx 40 [0, 1, 3, 4, 5, 6, 9, 18, 32]) (cxOk _ _) Try.func9 rfl (by decide) rfl (by exact Nat.le_of_ble_eq_true rfl) (by decide) ?_
  conv => whnf
  refine .one _ _ _ (fun _ => right_ok l hl) (.cons (.base (.base (.same _ rfl))) .nil) (.inl rfl) (.inr rfl) ?_
  conv => whnf
  refine .one _ _ _ (fun _ => one_ok f hf) (.cons (.base (.base (.same _ rfl))) .nil) (.inl rfl) (.inr rfl) ?_
  conv => whnf
  refine ⟨fun hc => ?_, fun hc => ?_⟩
  · conv => whnf
    have : addE l f = 1 := by
      have hc' : (!rightB l || !oneB f) = true := hc
      rw [addE, if_pos hc']
    rw [addRs, if_neg (by omega), this]
    rfl
  have h1 : (!rightB l || !oneB f) = false := hc
  conv => whnf
  refine .quiet (by kernel_rfl) ?_
  conv => whnf
  refine ⟨fun hg => ?_, ?_⟩
  · have := guard_true hg
    simp only [decide_eq_true_eq] at this
    constructor <;> omega
  conv => whnf
  refine ⟨fun hg => ?_, rfl, ?_⟩
  · have := guard_true hg
    simp only [decide_eq_true_eq] at this
    constructor <;> omega
  conv => whnf
  have hidx : ((l.length : Int) - 1).toNat = l.length - 1 := by omega
  have key : addE l f = if (decide ((0 : Int) < l.length) && decide (f.day < (l.getD (l.length - 1) f0).day)) = true then 20 else if 10000 ≤ (l.length : Int) then 6 else 0 := by
    rw [addE, if_neg (by rw [h1]; decide)]
  refine ⟨fun hc => ?_, fun hc => ?_⟩
  · conv => whnf
    rw [hidx] at hc
    have : addE l f = 20 := by rw [key, if_pos hc]
    rw [addRs, if_neg (by omega), this]
    rfl
  conv => whnf
  rw [hidx] at hc
  refine ⟨fun hd => ?_, fun hd => ?_⟩
  · conv => whnf
    simp only [decide_eq_true_eq] at hd
    have : addE l f = 6 := by rw [key, if_neg (by rw [hc]; decide), if_pos (by omega)]
    rw [addRs, if_neg (by omega), this]
    rfl
  conv => whnf
  simp only [decide_eq_false_iff_not] at hd
  have h0 : addE l f = 0 := by rw [key, if_neg (by rw [hc]; decide), if_neg (by omega)]
  refine .eff (cxOk _ _) ?_
  conv => whnf
  refine .one _ _ _ (fun _ => clone_ok l (by omega)) (.cons (.base (.base (.same _ rfl))) .nil) (.inl rfl) (.inl rfl) ?_
  conv => whnf
  refine ⟨rfl, ?_⟩
  conv => whnf
  refine ⟨⟨rfl, rfl⟩, (show (l.length + 1) * 48 ≤ 140737488355328 by omega), ?_⟩
  conv => whnf
  refine ⟨f, rfl, ?_⟩
  conv => whnf
  refine ⟨by kernel_rfl, ?_⟩
  conv => whnf
  rw [addRs, if_pos h0]
  rfl

end Go.Proofs.Ytnpnjaeobdapcaa
