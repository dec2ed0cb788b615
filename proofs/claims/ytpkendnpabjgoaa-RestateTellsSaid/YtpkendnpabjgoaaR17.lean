import Derived.Test.YtpkendnpabjgoaaR16
namespace Go.Proofs.Ytpkendnpabjgoaa
open Go.Own
set_option maxHeartbeats 1000000

theorem hasL_iff {l : List Int} {x : Int} : hasL l x = true ↔ x ∈ l := by
  unfold hasL
  rw [List.any_eq_true]
  constructor
  · rintro ⟨y, hy, h⟩
    rw [← of_decide_eq_true h]
    exact hy
  · intro h
    exact ⟨x, h, decide_eq_true rfl⟩
theorem anyTo_all {l xs : List Int} : anyTo l xs xs.length = xs.any (hasL l) := by
  unfold anyTo
  rw [List.take_of_length_le (Nat.le_refl _)]

theorem mget_mset' {K V : Type} [DecidableEq K] (m : List (K × V)) (k k' : K) (x : V) : mget (mset m k x) k' = if k = k' then some x else mget m k' := mget_mset m k k' x
theorem factM_get (facts : List Int) (x : Int) : (mget (factM facts) x).getD false = hasL facts x := by
  have key : ∀ (fs : List Int) (m : List (Int × Bool)), (mget (fs.foldl (fun m x => mset m x true) m) x).getD false = (hasL fs x || (mget m x).getD false) := by
    intro fs
    induction fs with
    | nil => intro m; simp [hasL]
    | cons a fs ih =>
      intro m
      rw [List.foldl_cons, ih, mget_mset]
      show (hasL fs x || _) = ((decide (a = x) || hasL fs x) || _)
      by_cases e : a = x
      · rw [if_pos e, decide_eq_true e]
        simp
      · rw [if_neg e, decide_eq_false e, Bool.false_or]
  have := key facts []
  simpa [factM, mget] using this

theorem trues_mem {r : List Bool} {x : Int} : x ∈ trues r ↔ ∃ i : Nat, i < r.length ∧ r.getD i false = true ∧ x = i := by
  unfold trues
  rw [List.mem_map]
  constructor
  · rintro ⟨i, hi, rfl⟩
    rw [List.mem_filter, List.mem_range] at hi
    exact ⟨i, hi.1, hi.2, rfl⟩
  · rintro ⟨i, h1, h2, rfl⟩
    exact ⟨i, List.mem_filter.2 ⟨List.mem_range.2 h1, h2⟩, rfl⟩
theorem hasL_trues (r : List Bool) (i : Nat) : hasL (trues r) i = r.getD i false := by
  rw [Bool.eq_iff_iff, hasL_iff, trues_mem]
  constructor
  · rintro ⟨j, _, h, e⟩
    have : i = j := by omega
    rw [this]
    exact h
  · intro h
    refine ⟨i, ?_, h, rfl⟩
    by_cases hl : i < r.length
    · exact hl
    · rw [List.getD_eq_getElem?_getD, List.getElem?_eq_none (by omega)] at h
      cases h

theorem chRow_pre (facts : List Int) (l : List Val) : ∀ n, n ≤ l.length → ∀ i, i < n → (chRow facts (l.take n)).getD i false = (chRow facts l).getD i false := by
  have step : ∀ n, n < l.length → ∀ i, i < n → (chRow facts (l.take (n + 1))).getD i false = (chRow facts (l.take n)).getD i false := by
    intro n hn i hi
    rw [chRow_take facts hn]
    unfold chStep
    rw [List.getD_eq_getElem?_getD, List.getElem?_append_left (by rw [chRow_len, List.length_take]; omega), ← List.getD_eq_getElem?_getD]
  have go : ∀ d n, n + d = l.length → ∀ i, i < n → (chRow facts (l.take n)).getD i false = (chRow facts l).getD i false := by
    intro d
    induction d with
    | zero =>
      intro n hn i _
      rw [List.take_of_length_le (by omega)]
    | succ d ih =>
      intro n hn i hi
      rw [← step n (by omega) i hi]
      exact ih (n + 1) (by omega) i (by omega)
  intro n hn
  exact go (l.length - n) n (by omega)

theorem any_congr' {α : Type} {p q : α → Bool} : ∀ {l : List α}, (∀ x ∈ l, p x = q x) → l.any p = l.any q
  | [], _ => rfl
  | a :: l, h => by
    rw [List.any_cons, List.any_cons, h a List.mem_cons_self, any_congr' fun x hx => h x (List.mem_cons_of_mem _ hx)]

/-- What is changed, by its definition. -/
theorem chRow_at {facts : List Int} {l : List Val} (hR : rightB l = true) {i : Nat} (hi : i < l.length) : (chRow facts l).getD i false = ((l.getD i v0).facts.any (hasL facts) || (l.getD i v0).froms.any (fun j => (chRow facts l).getD j.toNat false)) := by
  rw [← chRow_pre facts l (i + 1) (by omega) i (by omega), chRow_take facts hi]
  unfold chStep
  have hlen : (chRow facts (l.take i)).length = i := by rw [chRow_len, List.length_take]; omega
  rw [List.getD_eq_getElem?_getD, List.getElem?_append_right (by omega), hlen, Nat.sub_self]
  show (_ || _) = _
  congr 1
  · exact any_congr' fun x _ => factM_get facts x
  · exact any_congr' fun j hj => by
      have := froms_lt hR hi j hj
      exact chRow_pre facts l i (by omega) j.toNat (by omega)

theorem trues_sorted (r : List Bool) : (trues r).Pairwise (· < ·) := by
  unfold trues
  rw [List.pairwise_map]
  refine List.Pairwise.imp (R := (· < ·)) (fun h => by omega) ?_
  exact (List.pairwise_lt_range).filter _

theorem closes_plain {l : List Val} {facts set : List Int} (hR : rightB l = true) : (∀ i, i < l.length → hasL (trues (chRow facts l)) (i : Nat) = (anyTo facts (l.getD i v0).facts (l.getD i v0).facts.length || anyTo (trues (chRow facts l)) (l.getD i v0).froms (l.getD i v0).froms.length)) ∧
      (∀ i, i < (trues (chRow facts l)).length → (0 ≤ (trues (chRow facts l)).getD i 0 ∧ (trues (chRow facts l)).getD i 0 < l.length) ∧ (0 < i → (trues (chRow facts l)).getD (i - 1) 0 < (trues (chRow facts l)).getD i 0) ∧
        (clos facts set l l.length = true → hasL set ((trues (chRow facts l)).getD i 0) = true)) := by
  refine ⟨fun i hi => ?_, fun i hi => ?_⟩
  · rw [anyTo_all, anyTo_all, hasL_trues, chRow_at hR hi]
    congr 1
    exact any_congr' fun j hj => by
      have h1 := froms_lt hR hi j hj
      have h2 := hasL_trues (chRow facts l) j.toNat
      rw [show ((j.toNat : Nat) : Int) = j by omega] at h2
      exact h2.symm
  · obtain ⟨k, hk, hkt, he⟩ := trues_mem.1 (getD_mem (d := 0) hi)
    rw [chRow_len] at hk
    refine ⟨by omega, fun h0 => ?_, fun hc => ?_⟩
    · have := List.pairwise_iff_getElem.1 (trues_sorted (chRow facts l)) (i - 1) i (by omega) hi (by omega)
      rw [List.getD_eq_getElem?_getD, List.getD_eq_getElem?_getD, List.getElem?_eq_getElem hi, List.getElem?_eq_getElem (show i - 1 < (trues (chRow facts l)).length by omega)]
      exact this
    · rw [he]
      clear he hi i
      have main : ∀ n k, k < n → k < l.length → (chRow facts l).getD k false = true → hasL set (k : Nat) = true := by
        intro n
        induction n with
        | zero => intro k h; omega
        | succ n ih =>
          intro k hkn hk hkt
          have hcl := List.all_eq_true.1 hc k (List.mem_range.2 hk)
          unfold closStep at hcl
          rw [Bool.or_eq_true] at hcl
          rcases hcl with hcl | hcl
          · exfalso
            rw [Bool.and_eq_true, Bool.not_eq_true', Bool.not_eq_true', anyTo_all, anyTo_all] at hcl
            rw [chRow_at hR hk, hcl.1, Bool.false_or] at hkt
            obtain ⟨j, hj, hjt⟩ := List.any_eq_true.1 hkt
            have hjl := froms_lt hR hk j hj
            have h1 := ih j.toNat (by omega) (by omega) hjt
            rw [show ((j.toNat : Nat) : Int) = j by omega] at h1
            have h2 := List.any_eq_false.1 hcl.2 j hj
            exact h2 h1
          · exact hcl
      exact main (k + 1) k (by omega) hk hkt

end Go.Proofs.Ytpkendnpabjgoaa
