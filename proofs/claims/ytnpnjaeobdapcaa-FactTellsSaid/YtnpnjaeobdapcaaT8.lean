import Derived.Test.YtnpnjaeobdapcaaT7
namespace Go.Proofs.Ytnpnjaeobdapcaa
open Go.Own
set_option maxHeartbeats 1000000

def betweenP (f : Fact) (period : Int) (x : Fact) : Bool := (decide (x.issuer = f.issuer) && decide (x.name = f.name)) && decide (f.period < x.period) && decide (x.period ≤ period)
def thereP (f : Fact) (x : Fact) : Bool := (decide (x.issuer = f.issuer) && decide (x.name = f.name)) && decide (x.period = f.period)

/-- What the law checks of a fact that was reported. -/
def nowB (l : List Fact) (f : Fact) (period day : Int) : Bool :=
  let more := l ++ [f]
  let v := valueO more f.issuer f.name f.period day
  let w := valueO more f.issuer f.name period day
  !(!v.isSome || !w.isSome || !decide ((v.getD f0).value = f.value) || (!l.any (betweenP f period) && !decide ((w.getD f0).value = f.value)) || !(restatedB l f == l.any (thereP f)) || !restatedB more f) &&
    (decide (((valueO l f.issuer f.name f.period (f.day - 1)).getD f0).value = ((valueO more f.issuer f.name f.period (f.day - 1)).getD f0).value) && ((valueO l f.issuer f.name f.period (f.day - 1)).isSome == (valueO more f.issuer f.name f.period (f.day - 1)).isSome))

theorem fits_add {l : List Fact} (h : Fits l) {f : Fact} (hl : l.length ≤ 100000) (hf : f.name.length ≤ 9223372036854775807) : Fits (l ++ [f]) := by
  refine ⟨by simp; omega, fun x hx => ?_⟩
  rcases List.mem_append.1 hx with h' | h'
  · exact h.2 x h'
  · rw [List.mem_singleton.1 h']; exact hf

theorem law_now (l : List Fact) (hl : Fits l) (f : Fact) (hf : f.name.length ≤ 9223372036854775807) (period day : Int) (hone : addE l f = 0 → 0 ≤ f.day ∧ f.day ≤ 200000)
    (hnow : addE l f = 0 → f.day ≤ day → f.period ≤ period → nowB l f period day = true) : APureV Try.prog 3 [encFs l, encF f, .int .i64 period, .int .i64 day] (.bool true) := by
  refine apure_of (C := cx 214 [0, 1, 2, 3, 5, 8, 9, 10, 11, 12, 13, 14, 15, 16, 17, 18, 19, 20, 21, 22, 23, 33, 54, 82, 174]) (cxOk _ _) Try.func3 rfl (by decide) rfl (by exact Nat.le_of_ble_eq_true rfl) (by decide) ?_
  conv => whnf
  refine .one _ _ _ (fun _ => small_ok) .nil (.inl rfl) (.inr rfl) ?_
  conv => whnf
  refine .one _ _ _ (fun _ => few_ok l 20 hl.1 (by decide) (by decide)) (.cons (.base (.base (.same _ rfl))) (.cons (.base (.base (.same _ rfl))) .nil)) (.inl rfl) (.inr rfl) ?_
  conv => whnf
  refine ⟨fun hc => ?_, fun hc => ?_⟩
  · conv => whnf
    rfl
  conv => whnf
  have hc' : (!fewB l 20 || decide (40 < (f.name.length : Int))) = false := hc
  have hlen : l.length ≤ 20 := by
    have h1 := (Bool.or_eq_false_iff.1 hc').1
    simp [fewB] at h1
    omega
  have hadd := add_ok l hl (by omega) f hf
  by_cases h0 : addE l f = 0
  · rw [addRs, if_pos h0] at hadd
    refine .one _ _ _ (fun _ => hadd) (.cons (.base (.base (.same _ rfl))) (.cons (.base (.base (.same _ rfl))) .nil)) (.inl rfl) (.inl rfl) ?_
    conv => whnf
    refine ⟨fun hc => ?_, fun hc => ?_⟩
    · conv => whnf
      rfl
    conv => whnf
    have hfm := fits_add hl (f := f) (by omega) hf
    have hcd : (!decide ((0 : Int) = 0) || decide (day < f.day) || decide (period < f.period)) = false := hc
    simp only [Bool.or_eq_false_iff, decide_eq_false_iff_not] at hcd
    have hN := hnow h0 (by omega) (by omega)
    have hone' := hone h0
    unfold nowB at hN
    obtain ⟨hN1', hN2⟩ := Bool.and_eq_true_iff.1 hN
    rw [Bool.not_eq_true'] at hN1'
    have hN1 := hN1'
    refine .one _ _ _ (fun _ => value_ok (l ++ [f]) hfm _ _ _ _) (.cons (.base (.base (.row _ _ _ _ _ _ rfl))) (.cons (.base (.base (.same _ rfl))) (.cons (.base (.base (.same _ rfl))) (.cons (.base (.base (.same _ rfl))) (.cons (.base (.base (.same _ rfl))) .nil))))) (.inr ?_) (.inl rfl) ?_
    · intro r hr
      simp at hr
      rcases hr with rfl | rfl <;> rfl
    conv => whnf
    refine .one _ _ _ (fun _ => value_ok (l ++ [f]) hfm _ _ _ _) (.cons (.base (.base (.row _ _ _ _ _ _ rfl))) (.cons (.base (.base (.same _ rfl))) (.cons (.base (.base (.same _ rfl))) (.cons (.base (.base (.same _ rfl))) (.cons (.base (.base (.same _ rfl))) .nil))))) (.inr ?_) (.inl rfl) ?_
    · intro r hr
      simp at hr
      rcases hr with rfl | rfl <;> rfl
    conv => whnf
    let v := valueO (l ++ [f]) f.issuer f.name f.period day
    let w := valueO (l ++ [f]) f.issuer f.name period day
    refine loop_up (cxOk _ _) l.length (fun _ => True) (fun k => ⟨[(0, encFs l), (2, .int .i64 period), (3, .int .i64 day), (5, .ptr 0 0), (9, .bool true), (10, .own 1), (12, .int .i64 (v.getD f0).value), (13, .bool v.isSome), (14, .int .i64 (w.getD f0).value), (15, .bool w.isSome), (16, .bool ((l.take k).any (betweenP f period))), (17, .bool ((l.take k).any (thereP f))), (18, .int .i64 k)],
      [(0, .cells 24 [.int .i64 f.issuer, .str f.name, .int .i64 f.period, .int .i64 f.value, .int .i64 f.day]), (1, .row 24 5 encF f0 (l ++ [f]))], 2⟩) trivial ?_ ?_
    · exact (wk_of [(0, .id 0), (1, .id 1)] rfl ⟨.base (.tree _ _ rfl rfl), .base (.tree _ _ rfl rfl), .base (.tree _ _ rfl rfl), .base (.ptr _ _ _ rfl), .base (.tree _ _ rfl rfl), .base (.own _ _ rfl), .base (.tree _ _ rfl rfl), .base (.tree _ _ rfl rfl), .base (.tree _ _ rfl rfl), .base (.tree _ _ rfl rfl), .base (.tree _ _ (by rfl) rfl), .base (.tree _ _ (by rfl) rfl), .base (.tree _ _ rfl rfl), trivial⟩ ⟨⟨_, rfl, .cells _ _ _ _ rfl (.cons (.base (.tree _ _ rfl rfl)) (.cons (.base (.tree _ _ rfl rfl)) (.cons (.base (.tree _ _ rfl rfl)) (.cons (.base (.tree _ _ rfl rfl)) (.cons (.base (.tree _ _ rfl rfl)) .nil))))) rfl⟩, ⟨_, rfl, .row _ _ _ _ _ _ _ rfl rfl⟩, trivial⟩)
    · intro k hk _
      conv => whnf
      refine ⟨fun hc => ?_, fun hc => ?_⟩
      · simp only [decide_eq_true_eq] at hc
        have hlt : k < l.length := by omega
        conv => whnf
        refine .quiet (by kernel_rfl) ?_
        conv => whnf
        refine ⟨by constructor <;> omega, rfl, ?_⟩
        conv => whnf
        refine ⟨fun _ => by constructor <;> omega, rfl, ?_⟩
        conv => whnf
        refine .quiet (by kernel_rfl) ?_
        conv => whnf
        refine ⟨fun _ => by constructor <;> omega, rfl, ?_⟩
        conv => whnf
        refine ⟨fun _ => by constructor <;> omega, rfl, ?_⟩
        conv => whnf
        refine .quiet (by kernel_rfl) ?_
        conv => whnf
        refine ⟨fun _ => by constructor <;> omega, rfl, ?_⟩
        conv => whnf
        refine ⟨by constructor <;> omega, ?_⟩
        conv => whnf
        have hB : (l.take (k + 1)).any (betweenP f period) = ((l.take k).any (betweenP f period) || betweenP f period (l.getD k f0)) := by
          rw [take_getD (d := f0) hlt, List.any_append]; simp
        have hT : (l.take (k + 1)).any (thereP f) = ((l.take k).any (thereP f) || thereP f (l.getD k f0)) := by
          rw [take_getD (d := f0) hlt, List.any_append]; simp
        refine up hlt trivial (wk_of [(0, .id 0), (1, .id 1)] rfl ⟨.base (.tree _ _ rfl rfl), .base (.tree _ _ rfl rfl), .base (.tree _ _ rfl rfl), .base (.ptr _ _ _ rfl), .base (.tree _ _ rfl rfl), .base (.own _ _ rfl), .base (.tree _ _ rfl rfl), .base (.tree _ _ rfl rfl), .base (.tree _ _ rfl rfl), .base (.tree _ _ rfl rfl), .base (.tree _ _ (by rw [hB]; rfl) rfl), .base (.tree _ _ (by rw [hT]; rfl) rfl), .base (.tree _ _ rfl rfl), trivial⟩ ⟨⟨_, rfl, .cells _ _ _ _ rfl (.cons (.base (.tree _ _ rfl rfl)) (.cons (.base (.tree _ _ rfl rfl)) (.cons (.base (.tree _ _ rfl rfl)) (.cons (.base (.tree _ _ rfl rfl)) (.cons (.base (.tree _ _ rfl rfl)) .nil))))) rfl⟩, ⟨_, rfl, .row _ _ _ _ _ _ _ rfl rfl⟩, trivial⟩)
      · conv => whnf
        simp only [decide_eq_false_iff_not] at hc
        refine .one _ _ _ (fun _ => restated_ok l hl.1 f) (.cons (.base (.base (.same _ rfl))) (.cons (.base (.base (.same _ rfl))) .nil)) (.inl rfl) (.inr rfl) ?_
        conv => whnf
        refine .one _ _ _ (fun _ => restated_ok (l ++ [f]) hfm.1 f) (.cons (.base (.base (.row _ _ _ _ _ _ rfl))) (.cons (.base (.base (.same _ rfl))) .nil)) (.inr ?_) (.inr rfl) ?_
        · intro r hr
          simp at hr
          rcases hr with rfl | rfl <;> rfl
        conv => whnf
        have hl' : l.take k = l := List.take_of_length_le (by omega)
        refine ⟨fun hd => ?_, fun hd => ?_⟩
        · exfalso
          rw [hl'] at hd
          exact Bool.noConfusion (hN1.symm.trans hd)
        · conv => whnf
          refine ⟨⟨by omega, by omega⟩, ?_⟩
          conv => whnf
          refine .one _ _ _ (fun _ => value_ok l hl f.issuer f.name f.period (f.day - 1)) (.cons (.base (.base (.same _ rfl))) (.cons (.base (.base (.same _ rfl))) (.cons (.base (.base (.same _ rfl))) (.cons (.base (.base (.same _ rfl))) (.cons (.base (.base (.same _ rfl))) .nil))))) (.inl rfl) (.inl rfl) ?_
          conv => whnf
          refine ⟨⟨by omega, by omega⟩, ?_⟩
          conv => whnf
          refine .one _ _ _ (fun _ => value_ok (l ++ [f]) hfm f.issuer f.name f.period (f.day - 1)) (.cons (.base (.base (.row _ _ _ _ _ _ rfl))) (.cons (.base (.base (.same _ rfl))) (.cons (.base (.base (.same _ rfl))) (.cons (.base (.base (.same _ rfl))) (.cons (.base (.base (.same _ rfl))) .nil))))) (.inr ?_) (.inl rfl) ?_
          · intro r hr
            simp at hr
            rcases hr with rfl | rfl <;> rfl
          conv => whnf
          exact congrArg (fun b => [AR.val (AV.bool b)]) hN2
  · rw [addRs, if_neg h0] at hadd
    refine .one _ _ _ (fun _ => hadd) (.cons (.base (.base (.same _ rfl))) (.cons (.base (.base (.same _ rfl))) .nil)) (.inl rfl) (.inl rfl) ?_
    conv => whnf
    refine ⟨fun hc => ?_, fun hc => ?_⟩
    · conv => whnf
      rfl
    · exfalso
      have hc' : (!decide (addE l f = 0) || decide (day < f.day) || decide (period < f.period)) = false := hc
      simp [h0] at hc'

end Go.Proofs.Ytnpnjaeobdapcaa
