import Derived.Test.YtpkendnpabjgoaaR27
namespace Go.Proofs.Ytpkendnpabjgoaa
open Go.Own
set_option maxHeartbeats 1000000

/-- Two strictly ascending lists with the same elements are the same. -/
theorem sorted_uniq : ∀ {l l' : List Sh}, l.Pairwise (fun a b => a.seat < b.seat) → l'.Pairwise (fun a b => a.seat < b.seat) → (∀ x, x ∈ l ↔ x ∈ l') → l = l'
  | [], [], _, _, _ => rfl
  | [], b :: l', _, _, h => by
    have := (h b).2 List.mem_cons_self
    cases this
  | a :: l, [], _, _, h => by
    have := (h a).1 List.mem_cons_self
    cases this
  | a :: l, b :: l', h1, h2, h => by
    rw [List.pairwise_cons] at h1 h2
    have hab : a = b := by
      rcases List.mem_cons.1 ((h a).1 List.mem_cons_self) with e | ha
      · exact e
      · rcases List.mem_cons.1 ((h b).2 List.mem_cons_self) with e | hb
        · exact e.symm
        · have := h2.1 a ha
          have := h1.1 b hb
          omega
    subst hab
    congr 1
    refine sorted_uniq h1.2 h2.2 fun x => ?_
    constructor
    · intro hx
      rcases List.mem_cons.1 ((h x).1 (List.mem_cons_of_mem _ hx)) with e | h3
      · subst e
        have := h1.1 x hx
        omega
      · exact h3
    · intro hx
      rcases List.mem_cons.1 ((h x).2 (List.mem_cons_of_mem _ hx)) with e | h3
      · subst e
        have := h2.1 x hx
        omega
      · exact h3

theorem addL_nil (s a : Int) : addL [] s a = [⟨s, a⟩] := rfl
theorem addL_cons (x : Sh) (l : List Sh) (s a : Int) : addL (x :: l) s a = if x.seat < s then x :: addL l s a else if x.seat = s then ⟨s, x.amount + a⟩ :: l else ⟨s, a⟩ :: x :: l := by
  by_cases h : x.seat < s
  · rw [if_pos h]
    unfold addL
    have hp : placeTo (x :: l) s = placeTo l s + 1 := by
      show (if x.seat < s then placeTo l s + 1 else 0) = _
      rw [if_pos h]
    rw [hp]
    have hg : (x :: l).getD (placeTo l s + 1) s0 = l.getD (placeTo l s) s0 := rfl
    rw [hg]
    by_cases hc : placeTo l s < l.length ∧ (l.getD (placeTo l s) s0).seat = s
    · rw [if_pos hc, if_pos ⟨by rw [List.length_cons]; omega, hc.2⟩]
      rfl
    · rw [if_neg hc, if_neg (fun h' => hc ⟨by have := h'.1; rw [List.length_cons] at this; omega, h'.2⟩)]
      rfl
  · rw [if_neg h]
    unfold addL
    have hp : placeTo (x :: l) s = 0 := by
      show (if x.seat < s then placeTo l s + 1 else 0) = _
      rw [if_neg h]
    rw [hp]
    by_cases e : x.seat = s
    · rw [if_pos e, if_pos ⟨by simp, e⟩]
      subst e
      rfl
    · rw [if_neg e, if_neg (fun h' => e h'.2)]
      rfl
theorem ofL_cons (x : Sh) (l : List Sh) (s : Int) : ofL (x :: l) s = if x.seat = s then x.amount else ofL l s := by
  unfold ofL
  rw [List.find?_cons]
  by_cases e : x.seat = s
  · rw [decide_eq_true e, if_pos e]
  · rw [decide_eq_false e, if_neg e]

theorem addL_iff {s a : Int} : ∀ {l : List Sh}, l.Pairwise (fun a b => a.seat < b.seat) → ∀ y, y ∈ addL l s a ↔ (y ∈ l ∧ y.seat ≠ s) ∨ (y.seat = s ∧ y.amount = ofL l s + a)
  | [], _, y => by
    rw [addL_nil]
    show y ∈ [(⟨s, a⟩ : Sh)] ↔ (y ∈ [] ∧ _) ∨ (_ ∧ y.amount = 0 + a)
    rw [List.mem_singleton]
    constructor
    · rintro rfl
      exact .inr ⟨rfl, (Int.zero_add a).symm⟩
    · rintro (⟨h, _⟩ | ⟨h1, h2⟩)
      · cases h
      · cases y
        simp at h1 h2
        simp [h1, h2]
  | x :: l, h, y => by
    rw [List.pairwise_cons] at h
    have ih := addL_iff (s := s) (a := a) h.2 y
    rw [addL_cons, ofL_cons]
    by_cases h1 : x.seat < s
    · rw [if_pos h1, if_neg (by omega), List.mem_cons, ih, List.mem_cons]
      constructor
      · rintro (rfl | ⟨h2, h3⟩ | h2)
        · exact .inl ⟨.inl rfl, by omega⟩
        · exact .inl ⟨.inr h2, h3⟩
        · exact .inr h2
      · rintro (⟨rfl | h2, h3⟩ | h2)
        · exact .inl rfl
        · exact .inr (.inl ⟨h2, h3⟩)
        · exact .inr (.inr h2)
    · rw [if_neg h1]
      by_cases e : x.seat = s
      · rw [if_pos e, if_pos e, List.mem_cons, List.mem_cons]
        constructor
        · rintro (rfl | h2)
          · exact .inr ⟨rfl, rfl⟩
          · exact .inl ⟨.inr h2, by have := h.1 y h2; omega⟩
        · rintro (⟨rfl | h2, h3⟩ | ⟨h2, h3⟩)
          · exact absurd e h3
          · exact .inr h2
          · left
            cases y
            simp at h2 h3
            simp [h2, h3]
      · rw [if_neg e, if_neg e, List.mem_cons, List.mem_cons]
        have h0 : ofL l s = 0 := by
          unfold ofL
          rw [List.find?_eq_none.2 fun z hz => by
            have := h.1 z hz
            simp
            omega]
        rw [h0]
        constructor
        · rintro (rfl | rfl | h2)
          · exact .inr ⟨rfl, by show a = 0 + a; omega⟩
          · exact .inl ⟨.inl rfl, e⟩
          · exact .inl ⟨.inr h2, by have := h.1 y h2; omega⟩
        · rintro (⟨h2, h3⟩ | ⟨h2, h3⟩)
          · exact .inr h2
          · left
            cases y
            simp at h2 h3
            simp [h2, h3]
theorem addL_sorted {s a : Int} : ∀ {l : List Sh}, l.Pairwise (fun a b => a.seat < b.seat) → (addL l s a).Pairwise (fun a b => a.seat < b.seat)
  | [], _ => by
    rw [addL_nil]
    exact List.pairwise_singleton _ _
  | x :: l, h => by
    have hh := h
    rw [List.pairwise_cons] at h
    rw [addL_cons]
    by_cases h1 : x.seat < s
    · rw [if_pos h1, List.pairwise_cons]
      refine ⟨fun y hy => ?_, addL_sorted h.2⟩
      rcases (addL_iff h.2 y).1 hy with ⟨h2, _⟩ | ⟨h2, _⟩
      · exact h.1 y h2
      · omega
    · rw [if_neg h1]
      by_cases e : x.seat = s
      · rw [if_pos e, List.pairwise_cons]
        exact ⟨fun y hy => by have := h.1 y hy; show s < y.seat; omega, h.2⟩
      · rw [if_neg e, List.pairwise_cons]
        refine ⟨fun y hy => ?_, hh⟩
        show s < y.seat
        rcases List.mem_cons.1 hy with rfl | hy
        · omega
        · have := h.1 y hy
          omega

/-- The list stands for the sums. -/
def good (l : List Sh) (D : Int → Int) (K : Int → Prop) : Prop := l.Pairwise (fun a b => a.seat < b.seat) ∧ ∀ x, x ∈ l ↔ K x.seat ∧ x.amount = D x.seat

theorem good_of {l : List Sh} {D : Int → Int} {K : Int → Prop} (h : good l D K) (h0 : ∀ s, ¬ K s → D s = 0) (s : Int) : ofL l s = D s := by
  unfold ofL
  cases hf : l.find? (fun x => decide (x.seat = s)) with
  | some x =>
    have h1 := List.find?_some hf
    have h2 := (h.2 x).1 (List.mem_of_find?_eq_some hf)
    simp at h1
    rw [← h1]
    exact h2.2
  | none =>
    have h1 := List.find?_eq_none.1 hf
    by_cases hk : K s
    · have := h1 ⟨s, D s⟩ ((h.2 _).2 ⟨hk, rfl⟩)
      simp at this
    · exact (h0 s hk).symm
theorem good_add {l : List Sh} {D D' : Int → Int} {K K' : Int → Prop} {s a : Int} (h : good l D K) (h0 : ∀ s, ¬ K s → D s = 0) (hD : ∀ t, D' t = D t + (if s = t then a else 0)) (hK : ∀ t, K' t ↔ K t ∨ t = s) : good (addL l s a) D' K' := by
  refine ⟨addL_sorted h.1, fun x => ?_⟩
  rw [addL_iff h.1 x, good_of h h0, hK, hD, h.2]
  by_cases e : x.seat = s
  · rw [if_pos e.symm, e]
    constructor
    · rintro (⟨_, h3⟩ | ⟨_, h3⟩)
      · exact absurd rfl h3
      · exact ⟨.inr rfl, h3⟩
    · rintro ⟨_, h3⟩
      exact .inr ⟨rfl, h3⟩
  · rw [if_neg (fun h => e h.symm), Int.add_zero]
    constructor
    · rintro (⟨⟨h3, h4⟩, _⟩ | ⟨h3, _⟩)
      · exact ⟨.inl h3, h4⟩
      · exact absurd h3 e
    · rintro ⟨h3 | h3, h4⟩
      · exact .inl ⟨⟨h3, h4⟩, e⟩
      · exact absurd h3 e

def dG (c : Nat → Bool) (st am : Nat → Int) (s : Int) (k : Nat) : Int := if c k = true then (if st k = s then am k else 0) else 0
def genR (c : Nat → Bool) (st am : Nat → Int) : Nat → List Sh
  | 0 => []
  | n + 1 => if c n = true then addL (genR c st am n) (st n) (am n) else genR c st am n
def kG (c : Nat → Bool) (st : Nat → Int) (n : Nat) (s : Int) : Prop := ∃ k, k < n ∧ c k = true ∧ st k = s

theorem dG_zero {c : Nat → Bool} {st am : Nat → Int} {s : Int} : ∀ {n : Nat}, ¬ kG c st n s → sumN (dG c st am s) n = 0
  | 0, _ => rfl
  | n + 1, h => by
    have ih := dG_zero (am := am) (n := n) (fun ⟨k, h1, h2⟩ => h ⟨k, by omega, h2⟩)
    show sumN (dG c st am s) n + dG c st am s n = 0
    rw [ih, Int.zero_add]
    unfold dG
    by_cases h1 : c n = true
    · rw [if_pos h1, if_neg (fun e => h ⟨n, by omega, h1, e⟩)]
    · rw [if_neg h1]
theorem genR_good (c : Nat → Bool) (st am : Nat → Int) : ∀ n, good (genR c st am n) (fun s => sumN (dG c st am s) n) (kG c st n)
  | 0 => ⟨List.Pairwise.nil, fun x => ⟨fun h => (by cases h), fun h => by
      obtain ⟨⟨k, h1, _⟩, _⟩ := h
      omega⟩⟩
  | n + 1 => by
    have ih := genR_good c st am n
    have h0 : ∀ s, ¬ kG c st n s → (fun s => sumN (dG c st am s) n) s = 0 := fun s hs => dG_zero hs
    show good (if c n = true then addL (genR c st am n) (st n) (am n) else genR c st am n) _ _
    by_cases hc : c n = true
    · rw [if_pos hc]
      refine good_add ih h0 (fun t => ?_) (fun t => ?_)
      · show sumN (dG c st am t) n + dG c st am t n = _
        unfold dG
        rw [if_pos hc]
      · constructor
        · rintro ⟨k, hk, h1, h2⟩
          by_cases e : k = n
          · subst e
            exact .inr h2.symm
          · exact .inl ⟨k, by omega, h1, h2⟩
        · rintro (⟨k, hk, h1⟩ | h)
          · exact ⟨k, by omega, h1⟩
          · exact ⟨n, by omega, hc, h.symm⟩
    · rw [if_neg hc]
      refine ⟨ih.1, fun x => ?_⟩
      rw [ih.2]
      have hs : sumN (dG c st am x.seat) (n + 1) = sumN (dG c st am x.seat) n := by
        show sumN (dG c st am x.seat) n + dG c st am x.seat n = _
        unfold dG
        rw [if_neg hc, Int.add_zero]
      show _ ↔ kG c st (n + 1) x.seat ∧ x.amount = sumN (dG c st am x.seat) (n + 1)
      rw [hs]
      constructor
      · rintro ⟨⟨k, hk, h1⟩, h2⟩
        exact ⟨⟨k, by omega, h1⟩, h2⟩
      · rintro ⟨⟨k, hk, h1, h3⟩, h2⟩
        refine ⟨⟨k, ?_, h1, h3⟩, h2⟩
        by_cases e : k = n
        · subst e
          exact absurd h1 hc
        · omega

theorem cap_sm {x : Int} (h : cap x ≤ 1000000000000000) : cap x = x := by
  unfold cap at h ⊢
  split at h
  · rename_i h1
    rw [if_pos h1]
  · omega
theorem keysI_asc {m : List (Int × Int)} (hn : (m.map (·.1)).Nodup) : (keysI m).Pairwise (· < ·) := by
  unfold keysI
  have h1 : ((m.map (·.1)).mergeSort leI).Pairwise (fun a b => leI a b = true) := List.pairwise_mergeSort (fun a b c h1 h2 => by simp [leI] at *; omega) (fun a b => by simp [leI]; omega) _
  have h2 : ((m.map (·.1)).mergeSort leI).Nodup := (List.mergeSort_perm _ _).nodup_iff.2 hn
  refine (List.Pairwise.and h1 h2).imp ?_
  rintro a b ⟨h3, h4⟩
  simp [leI] at h3
  omega
theorem shares_good {m : List (Int × Int)} (hn : (m.map (·.1)).Nodup) : good (shares m) (fun s => (mget m s).getD 0) (fun s => s ∈ m.map (·.1)) := by
  constructor
  · unfold shares shL
    rw [List.pairwise_map]
    exact keysI_asc hn
  · intro x
    unfold shares shL
    rw [List.mem_map]
    constructor
    · rintro ⟨k, hk, rfl⟩
      exact ⟨keysI_mem.1 hk, rfl⟩
    · rintro ⟨h1, h2⟩
      refine ⟨x.seat, keysI_mem.2 h1, ?_⟩
      cases x
      simp at h2
      simp [h2]

/-- The program's sums and the reference's. -/
theorem both {m : List (Int × Int)} {c : Nat → Bool} {st am : Nat → Int} {n : Nat} (hn : (m.map (·.1)).Nodup) (hk : ∀ s, s ∈ m.map (·.1) ↔ kG c st n s) (hg : ∀ s, (mget m s).getD 0 = cap (sumN (dG c st am s) n)) :
    (smallSh m (keysI m) = !bigR (genR c st am n)) ∧ (smallSh m (keysI m) = true → shares m = genR c st am n) := by
  have hG := genR_good c st am n
  constructor
  · rw [Bool.eq_iff_iff, smallSh_iff, Bool.not_eq_true', ← Bool.not_eq_true, bigR, List.any_eq_true]
    constructor
    · rintro h ⟨x, hx, hx2⟩
      have h1 := ((hG.2 x).1 hx).2
      have h2 := h x.seat
      rw [hg] at h2
      have h3 := cap_sm h2
      have h4 := of_decide_eq_true hx2
      rw [h3] at h2
      rw [h1] at h4
      have h5 : sumN (dG c st am x.seat) n > 1000000000000000 := h4
      omega
    · intro h s
      by_cases hs : 1000000000000000 < sumN (dG c st am s) n
      · exfalso
        have hks : kG c st n s := Classical.byContradiction fun hks => by
          have := dG_zero (am := am) hks
          omega
        exact h ⟨⟨s, sumN (dG c st am s) n⟩, (hG.2 _).2 ⟨hks, rfl⟩, decide_eq_true hs⟩
      · rw [hg]
        unfold cap
        split <;> omega
  · intro h
    have hS := shares_good hn
    refine sorted_uniq hS.1 hG.1 fun x => ?_
    rw [hS.2, hG.2]
    show x.seat ∈ m.map (·.1) ∧ _ ↔ _
    rw [hk]
    have h2 := smallSh_iff.1 h x.seat
    have e : (mget m x.seat).getD 0 = sumN (dG c st am x.seat) n := by
      rw [hg] at h2 ⊢
      exact cap_sm h2
    show _ ∧ x.amount = (mget m x.seat).getD 0 ↔ _ ∧ x.amount = sumN (dG c st am x.seat) n
    rw [e]

theorem tallyR_gen (ps : List Pay) (ds : List Int) (ms : List Bool) : ∀ n, tallyR ps ds ms n = (genR (upB ps ds ms) (fun k => (ps.getD k p0).seat) (overAt ps ds) n, genR (fun k => decide (overAt ps ds k < 0)) (fun k => (ps.getD k p0).seat) (fun k => - overAt ps ds k) n)
  | 0 => rfl
  | n + 1 => by
    rw [tallyR_succ, tallyR_gen ps ds ms n]
    unfold stepR
    show (_, _) = (if _ then _ else _, if decide (overAt ps ds n < 0) = true then _ else _)
    simp only [decide_eq_true_eq]
theorem tally2_iff (ps : List Pay) (ds : List Int) (ms : List Bool) (s : Int) : ∀ n, s ∈ (tally ps ds ms n).2.map (·.1) ↔ ∃ k, k < n ∧ overAt ps ds k < 0 ∧ (ps.getD k p0).seat = s
  | 0 => by simp [tally]
  | n + 1 => by
    have ih := tally2_iff ps ds ms s n
    rw [tally2_succ]
    constructor
    · intro h
      split at h
      · rename_i hu
        rcases mset_key.1 h with h | h
        · exact ⟨n, by omega, hu, h.symm⟩
        · obtain ⟨k, hk, h1⟩ := ih.1 h
          exact ⟨k, by omega, h1⟩
      · obtain ⟨k, hk, h1⟩ := ih.1 h
        exact ⟨k, by omega, h1⟩
    · rintro ⟨k, hk, h1, h2⟩
      by_cases e : k = n
      · subst e
        rw [if_pos h1]
        exact mset_key.2 (.inl h2.symm)
      · have := ih.2 ⟨k, by omega, h1, h2⟩
        split
        · exact mset_key.2 (.inr this)
        · exact this

theorem back_same (ps : List Pay) (ds : List Int) (ms : List Bool) (n : Nat) :
    ((smallSh (tally ps ds ms n).1 (keysI (tally ps ds ms n).1) && smallSh (tally ps ds ms n).2 (keysI (tally ps ds ms n).2)) = !bigR ((tallyR ps ds ms n).1 ++ (tallyR ps ds ms n).2)) ∧
    ((smallSh (tally ps ds ms n).1 (keysI (tally ps ds ms n).1) && smallSh (tally ps ds ms n).2 (keysI (tally ps ds ms n).2)) = true → shares (tally ps ds ms n).1 = (tallyR ps ds ms n).1 ∧ shares (tally ps ds ms n).2 = (tallyR ps ds ms n).2) := by
  obtain ⟨n1, n2⟩ := tally_nodup ps ds ms n
  have a := both (c := upB ps ds ms) (st := fun k => (ps.getD k p0).seat) (am := overAt ps ds) (n := n) n1 (fun s => tally1_key ps ds ms s n) (fun s => tally1_get ps ds ms s n)
  have b := both (c := fun k => decide (overAt ps ds k < 0)) (st := fun k => (ps.getD k p0).seat) (am := fun k => - overAt ps ds k) (n := n) n2 (fun s => by
    rw [tally2_iff]
    unfold kG
    simp only [decide_eq_true_eq]) (fun s => by
    rw [tally2_get]
    congr 1
    refine sumN_eq fun k _ => ?_
    unfold dB dG
    simp only [decide_eq_true_eq])
  rw [tallyR_gen]
  constructor
  · rw [a.1, b.1]
    unfold bigR
    rw [List.any_append, Bool.not_or]
  · intro h
    rw [Bool.and_eq_true] at h
    exact ⟨a.2 h.1, b.2 h.2⟩

end Go.Proofs.Ytpkendnpabjgoaa
