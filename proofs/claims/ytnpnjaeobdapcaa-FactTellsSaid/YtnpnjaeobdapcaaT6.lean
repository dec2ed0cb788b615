import Derived.Test.YtnpnjaeobdapcaaT5
namespace Go.Proofs.Ytnpnjaeobdapcaa
open Go.Own
set_option maxHeartbeats 400000

def eqF (a b : Fact) : Bool := decide (a.issuer = b.issuer) && (decide (a.name = b.name) && (decide (a.period = b.period) && (decide (a.value = b.value) && (decide (a.day = b.day) && true))))
theorem eqF_iff {a b : Fact} : eqF a b = true ↔ a = b := by
  cases a; cases b
  simp [eqF]

theorem same_ok (a b : List Fact) (ha : a.length ≤ 9223372036854775807) (hb : b.length ≤ 9223372036854775807) : APure Try.prog 18 [encFs a, encFs b] (fun rs => ∃ r : Bool, rs = [.val (.bool r)] ∧ (r = true ↔ a = b)) := by
  refine apure_of (C := cx 26 [0, 1, 4, 5, 10, 14, 25]) (cxOk _ _) Try.func18 rfl (by decide) rfl (by exact Nat.le_of_ble_eq_true rfl) (by decide) ?_
  conv => whnf
  refine ⟨fun hc => ?_, fun hc => ?_⟩
  · conv => whnf
    refine ⟨false, rfl, by simp, fun h => ?_⟩
    subst h
    simp at hc
  conv => whnf
  have hlen : a.length = b.length := by
    have : ¬ ((a.length : Int) ≠ b.length) := by simpa using hc
    omega
  refine loop_up (cxOk _ _) a.length (fun k => a.take k = b.take k) (fun k => ⟨[(0, encFs a), (1, encFs b), (5, .int .i64 k)], [], 0⟩) (by simp) ?_ ?_
  · exact wk_of [] rfl ⟨.base (.tree _ _ rfl rfl), .base (.tree _ _ rfl rfl), .base (.tree _ _ rfl rfl), trivial⟩ trivial
  · intro k hk hP
    conv => whnf
    refine ⟨fun hc => ?_, fun hc => ?_⟩
    · simp only [decide_eq_true_eq] at hc
      have hlt : k < a.length := by omega
      conv => whnf
      refine .quiet (by kernel_rfl) ?_
      conv => whnf
      refine ⟨by constructor <;> omega, ?_⟩
      conv => whnf
      refine ⟨rfl, ?_⟩
      conv => whnf
      refine ⟨by constructor <;> omega, ?_⟩
      conv => whnf
      refine ⟨rfl, ?_⟩
      conv => whnf
      refine ⟨⟨by kernel_rfl, by kernel_rfl⟩, ?_⟩
      conv => whnf
      refine ⟨fun hd => ?_, fun hd => ?_⟩
      · simp only [Int.toNat_natCast] at hd
        conv => whnf
        refine ⟨false, rfl, by simp, fun h => ?_⟩
        have hd' : (!eqF (a.getD k f0) (b.getD k f0)) = true := hd
        rw [h, eqF_iff.2 rfl] at hd'
        cases hd'
      · simp only [Int.toNat_natCast] at hd
        have hd' : (!eqF (a.getD k f0) (b.getD k f0)) = false := hd
        have : eqF (a.getD k f0) (b.getD k f0) = true := by simpa using hd'
        conv => whnf
        refine ⟨by constructor <;> omega, ?_⟩
        conv => whnf
        refine up hlt ?_ (wk_of [] rfl ⟨.base (.tree _ _ rfl rfl), .base (.tree _ _ rfl rfl), .base (.tree _ _ rfl rfl), trivial⟩ trivial)
        rw [take_getD (d := f0) hlt, take_getD (d := f0) (by omega), hP, eqF_iff.1 this]
    · simp only [decide_eq_false_iff_not] at hc
      conv => whnf
      rw [List.take_of_length_le (by omega), List.take_of_length_le (by omega)] at hP
      exact ⟨true, rfl, fun _ => hP, fun _ => rfl⟩

end Go.Proofs.Ytnpnjaeobdapcaa
