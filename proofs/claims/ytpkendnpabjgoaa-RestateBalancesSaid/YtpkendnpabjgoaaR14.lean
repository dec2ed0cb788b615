import Derived.Test.YtpkendnpabjgoaaR13
namespace Go.Proofs.Ytpkendnpabjgoaa
open Go.Own
set_option maxHeartbeats 1000000

theorem cap_small {x : Int} (h : cap x ≤ 1000000000000000) : cap x = x := by
  unfold cap at h ⊢
  split at h
  · rename_i h1
    rw [if_pos h1]
  · omega
theorem sumN_bd {f : Nat → Int} {N : Nat} (h : ∀ k, k < N → 0 ≤ f k ∧ f k ≤ 1000000000000000) : ∀ n, n ≤ N → 0 ≤ sumN f n ∧ sumN f n ≤ 1000000000000000 * n
  | 0, _ => by simp [sumN]
  | n + 1, hn => by
    have h1 := sumN_bd h n (by omega)
    have h2 := h n (by omega)
    show 0 ≤ sumN f n + f n ∧ sumN f n + f n ≤ _
    omega
theorem sumN_one {f : Nat → Int} (h0 : ∀ k, 0 ≤ f k) {j : Nat} (hj : 1 ≤ f j) : ∀ n, j < n → 1 ≤ sumN f n
  | 0, h => by omega
  | n + 1, h => by
    show 1 ≤ sumN f n + f n
    by_cases e : j = n
    · subst e
      have : 0 ≤ sumN f j := by
        clear h
        generalize j = m
        induction m with
        | zero => exact Int.le_refl _
        | succ m ih =>
          have := h0 m
          show 0 ≤ sumN f m + f m
          omega
      omega
    · have := sumN_one h0 hj n (by omega)
      have := h0 n
      omega
theorem sumN_bal {f g h u : Nat → Int} : ∀ n, (∀ k, k < n → f k - g k + h k = u k) → sumN f n - sumN g n + sumN h n = sumN u n
  | 0, _ => rfl
  | n + 1, hk => by
    have h1 := sumN_bal n fun k hkn => hk k (by omega)
    have h2 := hk n (by omega)
    show sumN f n + f n - (sumN g n + g n) + (sumN h n + h n) = sumN u n + u n
    omega

theorem keysI_sorted {m : List (Int × Int)} (hn : (m.map (·.1)).Nodup) : (keysI m).Pairwise (· < ·) := by
  unfold keysI
  have h1 : ((m.map (·.1)).mergeSort leI).Pairwise (fun a b => leI a b = true) := List.pairwise_mergeSort (fun a b c h1 h2 => by simp [leI] at *; omega) (fun a b => by simp [leI]; omega) _
  have h2 : ((m.map (·.1)).mergeSort leI).Nodup := (List.mergeSort_perm _ _).nodup_iff.2 hn
  refine (List.Pairwise.and h1 h2).imp ?_
  rintro a b ⟨h3, h4⟩
  simp [leI] at h3
  omega

theorem okSh_of {ps : List Pay} {m : List (Int × Int)} (hn : (m.map (·.1)).Nodup) (hl : m.length ≤ 20) (h1 : smallSh m (keysI m) = true) (hk : ∀ s, s ∈ m.map (·.1) → 1 ≤ (mget m s).getD 0 ∧ ∃ k, k < ps.length ∧ (ps.getD k p0).seat = s) : okSh (ps.map (·.seat)) (shares m) := by
  have hlen : (shares m).length = (keysI m).length := by unfold shares shL; rw [List.length_map]
  have hget : ∀ i, i < (keysI m).length → (shares m).getD i s0 = ⟨(keysI m).getD i 0, (mget m ((keysI m).getD i 0)).getD 0⟩ := fun i hi => by
    unfold shares shL
    rw [List.getD_eq_getElem?_getD, List.getElem?_map, List.getD_eq_getElem?_getD, List.getElem?_eq_getElem hi]
    rfl
  refine ⟨by rw [hlen, keysI_len]; exact hl, fun i hi => ?_⟩
  rw [hlen] at hi
  rw [hget i hi]
  have hmem : (keysI m).getD i 0 ∈ m.map (·.1) := keysI_mem.1 (getD_mem hi)
  obtain ⟨g1, k, hkl, hks⟩ := hk _ hmem
  refine ⟨⟨g1, smallSh_iff.1 h1 _⟩, ?_, fun h0 => ?_⟩
  · refine List.any_eq_true.2 ⟨(ps.getD k p0).seat, List.mem_map.2 ⟨_, getD_mem hkl, rfl⟩, ?_⟩
    exact decide_eq_true hks
  · rw [hget (i - 1) (by omega)]
    have := List.pairwise_iff_getElem.1 (keysI_sorted hn) (i - 1) i (by omega) hi (by omega)
    show (keysI m).getD (i - 1) 0 < (keysI m).getD i 0
    rw [List.getD_eq_getElem?_getD, List.getD_eq_getElem?_getD, List.getElem?_eq_getElem hi, List.getElem?_eq_getElem (show i - 1 < (keysI m).length by omega)]
    exact this

theorem tally2_key (ps : List Pay) (ds : List Int) (ms : List Bool) (s : Int) : ∀ n, s ∈ (tally ps ds ms n).2.map (·.1) → ∃ k, k < n ∧ overAt ps ds k < 0 ∧ (ps.getD k p0).seat = s
  | 0 => by simp [tally]
  | n + 1 => by
    have ih := tally2_key ps ds ms s n
    rw [tally2_succ]
    intro h
    split at h
    · rename_i hu
      rcases mset_key.1 h with h | h
      · exact ⟨n, by omega, hu, h.symm⟩
      · obtain ⟨k, hk, h1⟩ := ih h
        exact ⟨k, by omega, h1⟩
    · obtain ⟨k, hk, h1⟩ := ih h
      exact ⟨k, by omega, h1⟩

theorem cap_one {x : Int} (h : 1 ≤ x) : 1 ≤ cap x := by
  unfold cap
  split <;> omega
theorem cap_nn {x : Int} (h : 0 ≤ x) : 0 ≤ cap x := by
  unfold cap
  split <;> omega
theorem sumN_nn {f : Nat → Int} (h0 : ∀ k, 0 ≤ f k) : ∀ n, 0 ≤ sumN f n
  | 0 => Int.le_refl _
  | n + 1 => by
    have h1 := sumN_nn h0 n
    have h2 := h0 n
    show 0 ≤ sumN f n + f n
    omega

theorem balances_plain (ps : List Pay) (ds : List Int) (ms : List Bool) (h20 : ps.length ≤ 20) (hbad : anyBad ps ds ps.length = false) (h1 : smallSh (tally ps ds ms ps.length).1 (keysI (tally ps ds ms ps.length).1) = true) (h2 : smallSh (tally ps ds ms ps.length).2 (keysI (tally ps ds ms ps.length).2) = true) :
      (∀ s, sumN (fP ps s) ps.length - ofL (shares (tally ps ds ms ps.length).1) s + ofL (shares (tally ps ds ms ps.length).2) s = sumN (fW ps ds ms s) ps.length) ∧
      (∀ s k, k ≤ ps.length → (0 ≤ sumN (fP ps s) k ∧ sumN (fP ps s) k ≤ 20000000000000000) ∧ (0 ≤ sumN (fW ps ds ms s) k ∧ sumN (fW ps ds ms s) k ≤ 20000000000000000)) ∧
      (∀ k, k < ps.length → (0 ≤ (ps.getD k p0).paid ∧ (ps.getD k p0).paid ≤ 1000000000000000) ∧ (0 ≤ ds.getD k 0 ∧ ds.getD k 0 ≤ 1000000000000000)) ∧
      (∀ s, (0 ≤ ofL (shares (tally ps ds ms ps.length).1) s ∧ ofL (shares (tally ps ds ms ps.length).1) s ≤ 1000000000000000) ∧ (0 ≤ ofL (shares (tally ps ds ms ps.length).2) s ∧ ofL (shares (tally ps ds ms ps.length).2) s ≤ 1000000000000000)) ∧
      okSh (ps.map (·.seat)) (shares (tally ps ds ms ps.length).1) ∧ okSh (ps.map (·.seat)) (shares (tally ps ds ms ps.length).2) := by
  have hb : ∀ k, k < ps.length → (0 ≤ (ps.getD k p0).paid ∧ (ps.getD k p0).paid ≤ 1000000000000000) ∧ (0 ≤ ds.getD k 0 ∧ ds.getD k 0 ≤ 1000000000000000) := by
    intro k hk
    have := List.any_eq_false.1 hbad k (List.mem_range.2 hk)
    simp only [badAt, moneyB, Bool.or_eq_true, decide_eq_true_eq, Bool.not_eq_true', Bool.and_eq_false_iff, decide_eq_false_iff_not, not_or] at this
    omega
  have s1 := smallSh_iff.1 h1
  have s2 := smallSh_iff.1 h2
  have hA : ∀ s, ofL (shares (tally ps ds ms ps.length).1) s = sumN (dA ps ds ms s) ps.length := fun s => by
    have := s1 s
    rw [tally1_get] at this
    rw [ofL_shares, tally1_get, cap_small this]
  have hB : ∀ s, ofL (shares (tally ps ds ms ps.length).2) s = sumN (dB ps ds s) ps.length := fun s => by
    have := s2 s
    rw [tally2_get] at this
    rw [ofL_shares, tally2_get, cap_small this]
  obtain ⟨n1, n2⟩ := tally_nodup ps ds ms ps.length
  obtain ⟨l1, l2⟩ := tally_len ps ds ms ps.length
  refine ⟨fun s => ?_, fun s k hk => ?_, hb, fun s => ?_, ?_, ?_⟩
  · rw [hA, hB]
    refine sumN_bal _ fun k hk => ?_
    unfold fP dA dB fW wantAt upB
    by_cases e : (ps.getD k p0).seat = s
    · rw [if_pos e, if_pos e, if_pos e, if_pos e]
      unfold overAt
      cases hm : ms.getD k false with
      | true =>
        simp only [Bool.not_true, Bool.and_false, Bool.false_eq_true, if_false, if_true]
        split <;> omega
      | false =>
        simp only [Bool.not_false, Bool.and_true, decide_eq_true_eq, Bool.false_eq_true, if_false]
        split <;> split <;> omega
    · simp only [if_neg e, ite_self]
      omega
  · have g1 := sumN_bd (f := fP ps s) (N := ps.length) (fun k hk => by
      have := hb k hk
      unfold fP
      split <;> omega) k hk
    have g2 := sumN_bd (f := fW ps ds ms s) (N := ps.length) (fun k hk => by
      have := hb k hk
      unfold fW wantAt
      split
      · split <;> omega
      · omega) k hk
    omega
  · have a1 := s1 s
    have a2 := s2 s
    have a3 := cap_nn (sumN_nn (fun k => @dA_nn ps ds ms s k) ps.length)
    have a4 := cap_nn (sumN_nn (fun k => @dB_nn ps ds s k) ps.length)
    rw [← tally1_get] at a3
    rw [← tally2_get _ _ ms] at a4
    rw [ofL_shares, ofL_shares]
    exact ⟨⟨a3, a1⟩, a4, a2⟩
  · refine okSh_of n1 (by omega) h1 fun s hs => ?_
    obtain ⟨k, hk, hu, he⟩ := (tally1_key _ _ _ _ _).1 hs
    refine ⟨?_, k, hk, he⟩
    rw [tally1_get]
    refine cap_one (sumN_one (fun k => dA_nn) (j := k) ?_ _ hk)
    unfold dA
    rw [if_pos hu, if_pos he]
    unfold upB at hu
    simp only [Bool.and_eq_true, decide_eq_true_eq] at hu
    omega
  · refine okSh_of n2 (by omega) h2 fun s hs => ?_
    obtain ⟨k, hk, hu, he⟩ := tally2_key _ _ _ _ _ hs
    refine ⟨?_, k, hk, he⟩
    rw [tally2_get]
    refine cap_one (sumN_one (fun k => dB_nn) (j := k) ?_ _ hk)
    unfold dB
    rw [if_pos hu, if_pos he]
    omega

end Go.Proofs.Ytpkendnpabjgoaa
