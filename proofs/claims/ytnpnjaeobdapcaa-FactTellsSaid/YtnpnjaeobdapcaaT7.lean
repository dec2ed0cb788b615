import Derived.Test.YtnpnjaeobdapcaaT6
namespace Go.Proofs.Ytnpnjaeobdapcaa
open Go.Own
set_option maxHeartbeats 400000

abbrev cash : List UInt8 := [99, 97, 115, 104]
theorem fits_take {l : List Fact} (h : Fits l) (n : Nat) : Fits (l.take n) := ⟨by have := h.1; rw [List.length_take]; omega, fun f hf => h.2 f (List.mem_of_mem_take hf)⟩

theorem same_refl (a : List Fact) (ha : a.length ≤ 9223372036854775807) : APureV Try.prog 18 [encFs a, encFs a] (.bool true) :=
  (same_ok a a ha ha).mono fun rs ⟨r, e, h⟩ => by rw [e, h.2 rfl]

theorem small_ok : APureV Try.prog 7 [] (.bool true) := by
  have a1 : addRs someL ⟨3, cash, 0, 0, 209⟩ = [.val .nils, .val (.int .i64 20)] := by
    have : addE someL ⟨3, cash, 0, 0, 209⟩ = 20 := by kernel_rfl
    rw [addRs, if_neg (by rw [this]; decide), this]
  have a2 : addRs (someL.take 2) (someL.getD 2 f0) = [.new (.row 24 5 encF f0 someL), .val (.int .i64 0)] := by
    have : addE (someL.take 2) (someL.getD 2 f0) = 0 := by kernel_rfl
    rw [addRs, if_pos this]
    rfl
  have c1 := add_ok someL fits_some (by decide) ⟨3, cash, 0, 0, 209⟩ (by decide)
  rw [a1] at c1
  have c2 := add_ok (someL.take 2) (fits_take fits_some 2) (by decide) (someL.getD 2 f0) (by decide)
  rw [a2] at c2
  refine apure_of (C := cx 77 [0, 1, 3, 4, 5, 6]) (cxOk _ _) Try.func7 rfl (by decide) rfl (by exact Nat.le_of_ble_eq_true rfl) (by decide) ?_
  conv => whnf
  refine .one _ _ _ (fun _ => someF_ok) .nil (.inl rfl) (.inr rfl) ?_
  conv => whnf
  refine .one _ _ _ (fun _ => c1) (.cons (.base (.base (.same _ rfl))) (.cons (.base (.base (.same _ rfl))) .nil)) (.inl rfl) (.inl rfl) ?_
  conv => whnf
  refine .eff (cxOk _ _) ?_
  conv => whnf
  refine ⟨by decide, ?_⟩
  conv => whnf
  refine ⟨rfl, ?_⟩
  conv => whnf
  refine ⟨by decide, ?_⟩
  conv => whnf
  refine ⟨rfl, ?_⟩
  conv => whnf
  refine .one _ _ _ (fun _ => c2) (.cons (.base (.base (.same _ rfl))) (.cons (.base (.base (.same _ rfl))) .nil)) (.inl rfl) (.inl rfl) ?_
  conv => whnf
  refine ⟨by kernel_rfl, ?_⟩
  conv => whnf
  refine .one _ _ _ (fun _ => says_ok _ _ _) (.cons (.base (.base (.same _ rfl))) (.cons (.base (.base (.same _ rfl))) (.cons (.base (.base (.same _ rfl))) .nil))) (.inl rfl) (.inr rfl) ?_
  conv => whnf
  refine .one _ _ _ (fun _ => says_ok _ _ _) (.cons (.base (.base (.same _ rfl))) (.cons (.base (.base (.same _ rfl))) (.cons (.base (.base (.same _ rfl))) .nil))) (.inl rfl) (.inr rfl) ?_
  conv => whnf
  refine .one _ _ _ (fun _ => says_ok _ _ _) (.cons (.base (.base (.same _ rfl))) (.cons (.base (.base (.same _ rfl))) (.cons (.base (.base (.same _ rfl))) .nil))) (.inl rfl) (.inr rfl) ?_
  conv => whnf
  refine .one _ _ _ (fun _ => says_ok _ _ _) (.cons (.base (.base (.same _ rfl))) (.cons (.base (.base (.same _ rfl))) (.cons (.base (.base (.same _ rfl))) .nil))) (.inl rfl) (.inr rfl) ?_
  conv => whnf
  refine .one _ _ _ (fun _ => says_ok _ _ _) (.cons (.base (.base (.same _ rfl))) (.cons (.base (.base (.same _ rfl))) (.cons (.base (.base (.same _ rfl))) .nil))) (.inl rfl) (.inr rfl) ?_
  conv => whnf
  refine .one _ _ _ (fun _ => says_ok _ _ _) (.cons (.base (.base (.same _ rfl))) (.cons (.base (.base (.same _ rfl))) (.cons (.base (.base (.same _ rfl))) .nil))) (.inl rfl) (.inr rfl) ?_
  conv => whnf
  refine .one _ _ _ (fun _ => says_ok _ _ _) (.cons (.base (.base (.same _ rfl))) (.cons (.base (.base (.same _ rfl))) (.cons (.base (.base (.same _ rfl))) .nil))) (.inl rfl) (.inr rfl) ?_
  conv => whnf
  refine .quiet (by kernel_rfl) ?_
  conv => whnf
  refine ⟨fun _ => by decide, ?_⟩
  conv => whnf
  refine ⟨rfl, fun _ => by decide, ?_⟩
  conv => whnf
  refine ⟨rfl, ?_⟩
  conv => whnf
  refine .mk _ _ _ _ (fun _ => restated_ok (someL.take 2) (by decide) (someL.getD 2 f0)) (.cons (.base (.base (.same _ rfl))) (.cons (.base (.base (.same _ rfl))) .nil)) rfl ?_
  conv => whnf
  refine ⟨fun _ => by decide, ?_⟩
  conv => whnf
  refine ⟨rfl, fun _ => by decide, ?_⟩
  conv => whnf
  refine ⟨rfl, ?_⟩
  conv => whnf
  refine .mk _ _ _ _ (fun _ => restated_ok (someL.take 1) (by decide) (someL.getD 1 f0)) (.cons (.base (.base (.same _ rfl))) (.cons (.base (.base (.same _ rfl))) .nil)) rfl ?_
  conv => whnf
  refine .mk _ _ _ _ (fun _ => same_refl someL (by decide)) (.cons (.base (.base (.row _ _ _ _ _ _ rfl))) (.cons (.base (.base (.same _ rfl))) .nil)) rfl ?_
  conv => whnf
  refine .mk _ _ _ _ (fun _ => right_ok someL fits_some) (.cons (.base (.base (.same _ rfl))) .nil) rfl ?_
  conv => whnf
  kernel_rfl

end Go.Proofs.Ytnpnjaeobdapcaa
