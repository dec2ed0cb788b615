import Derived.Test.YtnpnjaeobdapcaaT2
namespace Go.Proofs.Ytnpnjaeobdapcaa
open Go.Own
set_option maxHeartbeats 400000

def oneB (f : Fact) : Bool :=
  decide (0 ≤ f.issuer) && decide (f.issuer < 60) && (decide (0 ≤ f.period) && decide (f.period ≤ f.day) && decide (f.day ≤ 200000)) && decide (0 ≤ f.value) && decide (f.value ≤ 1000000000000000) && nameB f.name
theorem one_ok (f : Fact) (hs : f.name.length ≤ 9223372036854775807) : APureV Try.prog 24 [encF f] (.bool (oneB f)) := by
  refine apure_of (C := cx 47 [0,1,2,3,4]) (cxOk _ _) Try.func24 rfl (by decide) rfl (by exact Nat.le_of_ble_eq_true rfl) (by decide) ?_
  conv => whnf
  refine .quiet (by kernel_rfl) ?_
  conv => whnf
  refine .one _ _ _ (fun _ => name_ok _ hs) (.cons (.base (.base (.same _ rfl))) .nil) (.inl rfl) (.inr rfl) ?_
  conv => whnf
  rfl

/-- Nothing is longer than it can be. -/
def Fits (l : List Fact) : Prop := l.length ≤ 9223372036854775807 ∧ ∀ f ∈ l, f.name.length ≤ 9223372036854775807

theorem indexFunc_ok (l : List Fact) (hl : l.length ≤ 9223372036854775807) (n : Nat) (cs : List AV) (p : Fact → Bool) (hp : ∀ x ∈ l, APureV Try.prog n [encF x, .rop cs] (.bool (p x))) :
    APure Try.prog 34 [encFs l, .fn (.func n) [] [.rop cs]] (fun rs => ∃ i : Int, rs = [.val (.int .i64 i)] ∧ (0 ≤ i ↔ ∃ x ∈ l, p x = true)) := by
  refine apure_of (C := cx 19 [0, 1, 4, 5, 7, 8, 9, 16]) (cxOk _ _) Try.func34 rfl (by decide) rfl (by exact Nat.le_of_ble_eq_true rfl) (by decide) ?_
  conv => whnf
  refine loop_up (cxOk _ _) l.length (fun k => ¬ ∃ x ∈ l.take k, p x = true) (fun k => ⟨[(0, encFs l), (1, .fn (.func n) [] [.rop cs]), (7, .int .i64 l.length), (8, .int .i64 k)], [], 0⟩) (by simp) ?_ ?_
  · exact wk_of [] rfl ⟨.base (.tree _ _ rfl rfl), .fn _ _ _ _ _ .nil (.cons (.tree _ _ rfl rfl) .nil), .base (.tree _ _ rfl rfl), .base (.tree _ _ rfl rfl), trivial⟩ trivial
  · intro k hk hP
    conv => whnf
    refine ⟨fun hc => ?_, fun hc => ?_⟩
    · simp only [decide_eq_true_eq] at hc
      have hlt : k < l.length := by omega
      conv => whnf
      refine ⟨by constructor <;> omega, ?_⟩
      conv => whnf
      refine ⟨rfl, ?_⟩
      conv => whnf
      refine .one _ _ _ (fun _ => hp (l.getD k ⟨0, [], 0, 0, 0⟩) (getD_mem hlt)) (.cons (.base (.base (.same _ rfl))) (.cons (.base (.base (.same _ rfl))) .nil)) (.inl rfl) (.inr rfl) ?_
      conv => whnf
      refine ⟨fun hd => ?_, fun hd => ?_⟩
      · conv => whnf
        exact ⟨k, rfl, fun _ => ⟨_, getD_mem hlt, hd⟩, fun _ => by omega⟩
      · conv => whnf
        refine ⟨by constructor <;> omega, ?_⟩
        conv => whnf
        refine up hlt ?_ (wk_of [] rfl ⟨.base (.tree _ _ rfl rfl), .fn _ _ _ _ _ .nil (.cons (.tree _ _ rfl rfl) .nil), .base (.tree _ _ rfl rfl), .base (.tree _ _ rfl rfl), trivial⟩ trivial)
        rw [take_getD (d := ⟨0, [], 0, 0, 0⟩) hlt]
        rintro ⟨x, hx, hpx⟩
        rcases List.mem_append.1 hx with h | h
        · exact hP ⟨x, h, hpx⟩
        · rw [List.mem_singleton.1 h, hd] at hpx
          cases hpx
    · simp only [decide_eq_false_iff_not] at hc
      conv => whnf
      refine ⟨-1, rfl, by omega, fun h => ?_⟩
      rw [List.take_of_length_le (by omega)] at hP
      exact (hP h).elim

theorem containsFunc_ok (l : List Fact) (hl : l.length ≤ 9223372036854775807) (n : Nat) (cs : List AV) (p : Fact → Bool) (hp : ∀ x ∈ l, APureV Try.prog n [encF x, .rop cs] (.bool (p x))) :
    APureV Try.prog 27 [encFs l, .fn (.func n) [] [.rop cs]] (.bool (l.any p)) := by
  refine apure_of (C := cx 9 [0, 1, 4]) (cxOk _ _) Try.func27 rfl (by decide) rfl (by exact Nat.le_of_ble_eq_true rfl) (by decide) ?_
  conv => whnf
  refine .any _ _ _ ⟨rfl, rfl⟩ (indexFunc_ok l hl n cs p hp) (.cons (.base (.base (.same _ rfl))) (.cons (.fn _ _ _ _ _ _ _ .nil (.cons (.base (.same _ rfl)) .nil)) .nil)) (.inl rfl) ?_
  rintro rs ⟨i, rfl, hi⟩
  conv => whnf
  have : l.any p = decide (0 ≤ i) := by
    by_cases h : 0 ≤ i
    · obtain ⟨x, hx, hpx⟩ := hi.1 h
      simp only [h, decide_true]
      exact List.any_eq_true.2 ⟨x, hx, hpx⟩
    · simp only [h, decide_false]
      cases h' : l.any p with
      | false => rfl
      | true => exact (h (hi.2 (List.any_eq_true.1 h'))).elim
  rw [this]
  rfl

def sameKey (f x : Fact) : Bool := decide (x.issuer = f.issuer) && decide (x.name = f.name) && decide (x.period = f.period)
theorem restated1_ok (x f : Fact) : APureV Try.prog 28 [encF x, .rop [.int .i64 f.issuer, .str f.name, .int .i64 f.period, .int .i64 f.value, .int .i64 f.day]] (.bool (sameKey f x)) := by
  refine apure_of (C := cx 23 [0, 1, 2, 3]) (cxOk _ _) Try.func28 rfl (by decide) rfl (by exact Nat.le_of_ble_eq_true rfl) (by decide) ?_
  conv => whnf
  rfl

def restatedB (l : List Fact) (f : Fact) : Bool := l.any (sameKey f)
theorem restated_ok (l : List Fact) (hl : l.length ≤ 9223372036854775807) (f : Fact) : APureV Try.prog 11 [encFs l, encF f] (.bool (restatedB l f)) := by
  refine apure_of (C := cx 8 [0, 1, 3, 4]) (cxOk _ _) Try.func11 rfl (by decide) rfl (by exact Nat.le_of_ble_eq_true rfl) (by decide) ?_
  conv => whnf
  refine .one _ _ _ (fun _ => containsFunc_ok l hl 28 _ (sameKey f) (fun x _ => restated1_ok x f)) (.cons (.base (.base (.same _ rfl))) (.cons (.fn _ _ _ _ _ _ _ .nil (.cons (.box _ _ _ _ _ _ rfl (.cons (.same _ rfl) (.cons (.same _ rfl) (.cons (.same _ rfl) (.cons (.same _ rfl) (.cons (.same _ rfl) .nil))))) (by simp [AV.one])) .nil)) .nil)) (.inr ?_) (.inr rfl) ?_
  · intro r hr; simp at hr; subst hr; rfl
  conv => whnf
  rfl
end Go.Proofs.Ytnpnjaeobdapcaa
