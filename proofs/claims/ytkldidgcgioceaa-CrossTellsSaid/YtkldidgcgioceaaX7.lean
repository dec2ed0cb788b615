import Derived.Test.YtkldidgcgioceaaX6
namespace Go.Proofs.Ytkldidgcgioceaa
open Go.Own
set_option maxHeartbeats 1000000

def fastOf (l : List Debt) (j : Nat) : Int := (l.getD j d0).fast

/-! ### The first one -/
theorem firstI_spec {p : Int → Bool} {la : List Int} (hs : la.Pairwise (· < ·)) (h : 0 ≤ firstI p la) : la.getD (firstI p la).toNat 0 ∈ la ∧ p (la.getD (firstI p la).toNat 0) = true ∧ ∀ q ∈ la, q < la.getD (firstI p la).toNat 0 → p q = false := by
  unfold firstI at h ⊢
  split at h
  · rename_i hlt
    rw [if_pos hlt, Int.toNat_natCast]
    have hg : la.getD (la.findIdx p) 0 = la[la.findIdx p] := by rw [List.getD_eq_getElem?_getD, List.getElem?_eq_getElem hlt]; rfl
    rw [hg]
    refine ⟨List.getElem_mem hlt, List.findIdx_getElem (w := hlt), fun q hq hqlt => ?_⟩
    obtain ⟨i, hi, rfl⟩ := List.getElem_of_mem hq
    have hil : i < la.findIdx p := by
      cases Nat.lt_or_ge i (la.findIdx p) with
      | inl h => exact h
      | inr h =>
        exfalso
        by_cases e : i = la.findIdx p
        · subst e
          omega
        · have := List.pairwise_iff_getElem.1 hs (la.findIdx p) i hlt hi (by omega)
          omega
    have := List.not_of_lt_findIdx hil
    simpa using this
  · omega
theorem firstI_any {p : Int → Bool} {la : List Int} : 0 ≤ firstI p la ↔ ∃ x ∈ la, p x = true := by
  have := @firstI_pos Int p la
  rw [← List.any_eq_true, ← this, decide_eq_true_eq]

/-! ### What a round adds -/
def cndR (l : List Debt) (es : Fnd) (la : List Int) (j : Nat) : Bool := !(mget es (j : Int)).isSome && decide (0 ≤ firstI (fun i => can l i.toNat j) la)
def newR (l : List Debt) (day r : Int) (la : List Int) (j : Nat) : Cau := ⟨j, la.getD (firstI (fun i => can l i.toNat j) la).toNat 0, r, day⟩
def cndS (l : List Debt) (day : Int) (es : Fnd) (j : Nat) : Bool := (!(mget es (j : Int)).isSome) && decide (fastOf l j = day)
def castL (l : List Nat) : List Int := l.map (fun i : Nat => (i : Int))

theorem castL_sorted {l : List Nat} (h : l.Pairwise (· < ·)) : (castL l).Pairwise (· < ·) := by
  unfold castL
  rw [List.pairwise_map]
  exact h.imp fun h => by omega
theorem range_filter_sorted (p : Nat → Bool) (n : Nat) : ((List.range n).filter p).Pairwise (· < ·) := List.pairwise_lt_range.filter _
theorem mem_castL {p : Nat → Bool} {n : Nat} {x : Int} : x ∈ castL ((List.range n).filter p) ↔ ∃ j : Nat, x = j ∧ j < n ∧ p j = true := by
  unfold castL
  rw [List.mem_map]
  constructor
  · rintro ⟨j, hj, rfl⟩
    rw [List.mem_filter, List.mem_range] at hj
    exact ⟨j, rfl, hj.1, hj.2⟩
  · rintro ⟨j, rfl, h1, h2⟩
    exact ⟨j, List.mem_filter.2 ⟨List.mem_range.2 h1, h2⟩, rfl⟩

theorem step_spec (l : List Debt) (day r : Int) (es : Fnd) (la : List Int) : ∀ n, (∀ j : Nat, mget (step l day r es la n).1 (j : Int) = if j < n ∧ cndR l es la j = true then some (newR l day r la j) else mget es (j : Int)) ∧ (step l day r es la n).2 = castL ((List.range n).filter (cndR l es la))
  | 0 => ⟨fun j => by simp [step], rfl⟩
  | n + 1 => by
    obtain ⟨h1, h2⟩ := step_spec l day r es la n
    have hn : mget (step l day r es la n).1 (n : Int) = mget es (n : Int) := by rw [h1 n, if_neg (fun h => Nat.lt_irrefl _ h.1)]
    rw [step_succ]
    unfold stepJ
    rw [hn, List.range_succ, List.filter_append]
    by_cases hs : (mget es (n : Int)).isSome = true
    · have hc : cndR l es la n = false := by unfold cndR; rw [hs]; rfl
      rw [if_pos hs, List.filter_cons_of_neg (by rw [hc]; exact Bool.noConfusion)]
      refine ⟨fun j => ?_, by simpa using h2⟩
      rw [h1 j]
      by_cases e : j = n
      · subst e
        rw [if_neg (fun h => Nat.lt_irrefl _ h.1), if_neg (fun h => by rw [hc] at h; cases h.2)]
      · by_cases hj : j < n ∧ cndR l es la j = true
        · rw [if_pos hj, if_pos ⟨by omega, hj.2⟩]
        · rw [if_neg hj, if_neg (fun h => hj ⟨by omega, h.2⟩)]
    · rw [if_neg hs]
      have hs' : (mget es (n : Int)).isSome = false := by simpa using hs
      by_cases hf : 0 ≤ firstI (fun i => can l i.toNat n) la
      · have hc : cndR l es la n = true := by unfold cndR; rw [hs', decide_eq_true hf]; rfl
        rw [if_pos hf, List.filter_cons_of_pos hc]
        refine ⟨fun j => ?_, ?_⟩
        · show mget (mset _ _ _) _ = _
          rw [mget_mset]
          by_cases e : j = n
          · subst e
            rw [if_pos rfl, if_pos ⟨by omega, hc⟩]
            rfl
          · rw [if_neg (by omega), h1 j]
            by_cases hj : j < n ∧ cndR l es la j = true
            · rw [if_pos hj, if_pos ⟨by omega, hj.2⟩]
            · rw [if_neg hj, if_neg (fun h => hj ⟨by omega, h.2⟩)]
        · show (step l day r es la n).2 ++ [(n : Int)] = _
          rw [h2]
          unfold castL
          rw [List.map_append]
          rfl
      · have hc : cndR l es la n = false := by unfold cndR; rw [hs', decide_eq_false hf]; rfl
        rw [if_neg hf, List.filter_cons_of_neg (by rw [hc]; exact Bool.noConfusion)]
        refine ⟨fun j => ?_, by simpa using h2⟩
        rw [h1 j]
        by_cases e : j = n
        · subst e
          rw [if_neg (fun h => Nat.lt_irrefl _ h.1), if_neg (fun h => by rw [hc] at h; cases h.2)]
        · by_cases hj : j < n ∧ cndR l es la j = true
          · rw [if_pos hj, if_pos ⟨by omega, hj.2⟩]
          · rw [if_neg hj, if_neg (fun h => hj ⟨by omega, h.2⟩)]
theorem seed_spec (l : List Debt) (day : Int) (es : Fnd) : ∀ n, (∀ j : Nat, mget (seed l day es n).1 (j : Int) = if j < n ∧ cndS l day es j = true then some ⟨j, -1, 0, day⟩ else mget es (j : Int)) ∧ (seed l day es n).2 = castL ((List.range n).filter (cndS l day es))
  | 0 => ⟨fun j => by simp [seed], rfl⟩
  | n + 1 => by
    obtain ⟨h1, h2⟩ := seed_spec l day es n
    have hn : mget (seed l day es n).1 (n : Int) = mget es (n : Int) := by rw [h1 n, if_neg (fun h => Nat.lt_irrefl _ h.1)]
    rw [seed_succ]
    unfold seedJ
    rw [hn, List.range_succ, List.filter_append]
    show (∀ j : Nat, mget (if cndS l day es n = true then _ else _ : Fnd × List Int).1 _ = _) ∧ (if cndS l day es n = true then _ else _ : Fnd × List Int).2 = _
    by_cases hc : cndS l day es n = true
    · rw [if_pos hc, List.filter_cons_of_pos hc]
      refine ⟨fun j => ?_, ?_⟩
      · show mget (mset _ _ _) _ = _
        rw [mget_mset]
        by_cases e : j = n
        · subst e
          rw [if_pos rfl, if_pos ⟨by omega, hc⟩]
        · rw [if_neg (by omega), h1 j]
          by_cases hj : j < n ∧ cndS l day es j = true
          · rw [if_pos hj, if_pos ⟨by omega, hj.2⟩]
          · rw [if_neg hj, if_neg (fun h => hj ⟨by omega, h.2⟩)]
      · show (seed l day es n).2 ++ [(n : Int)] = _
        rw [h2]
        unfold castL
        rw [List.map_append]
        rfl
    · rw [if_neg hc, List.filter_cons_of_neg hc]
      refine ⟨fun j => ?_, by simpa using h2⟩
      rw [h1 j]
      by_cases e : j = n
      · subst e
        rw [if_neg (fun h => Nat.lt_irrefl _ h.1), if_neg (fun h => hc h.2)]
      · by_cases hj : j < n ∧ cndS l day es j = true
        · rw [if_pos hj, if_pos ⟨by omega, hj.2⟩]
        · rw [if_neg hj, if_neg (fun h => hj ⟨by omega, h.2⟩)]

/-! ### Rounds -/
structure RI (l : List Debt) (day r : Int) (es0 es : Fnd) (la : List Int) : Prop where
  ext : ∀ (j : Nat) c, mget es0 (j : Int) = some c → mget es (j : Int) = some c
  new : ∀ (j : Nat) c, mget es (j : Int) = some c → mget es0 (j : Int) = none → j < l.length ∧ c.issue = j ∧ c.day = day ∧ 0 ≤ c.round ∧ c.round + 1 ≤ r ∧
    ((c.because = -1 ∧ c.round = 0 ∧ fastOf l j = day) ∨ (fastOf l j ≠ day ∧ ∃ (p : Nat) (cp : Cau), c.because = p ∧ mget es (p : Int) = some cp ∧ mget es0 (p : Int) = none ∧ cp.round + 1 = c.round ∧ can l p j = true ∧
      ∀ (q : Nat) cq, q < p → mget es (q : Int) = some cq → mget es0 (q : Int) = none → cq.round + 1 = c.round → can l q j = false))
  las : ∀ x, x ∈ la ↔ ∃ (j : Nat) (c : Cau), x = j ∧ mget es0 (j : Int) = none ∧ mget es (j : Int) = some c ∧ c.round + 1 = r
  srt : la.Pairwise (· < ·)
  clo : ∀ (o : Nat) co (j : Nat), mget es (o : Int) = some co → mget es0 (o : Int) = none → co.round + 1 < r → j < l.length → can l o j = true → ∃ cj, mget es (j : Int) = some cj ∧ (mget es0 (j : Int) = some cj ∨ cj.round ≤ co.round + 1)
  sed : ∀ j : Nat, j < l.length → fastOf l j = day → ∃ c, mget es (j : Int) = some c
  inn : ∀ (j : Nat) c, mget es0 (j : Int) = some c → j < l.length

theorem isSome_none {α : Type} {o : Option α} : (!o.isSome) = true ↔ o = none := by cases o <;> simp

theorem RI.seed {l : List Debt} {day : Int} {es0 : Fnd} (h0 : ∀ (j : Nat) c, mget es0 (j : Int) = some c → j < l.length) : RI l day 1 es0 (seed l day es0 l.length).1 (seed l day es0 l.length).2 := by
  obtain ⟨h1, h2⟩ := seed_spec l day es0 l.length
  have hc : ∀ j, cndS l day es0 j = true ↔ mget es0 (j : Int) = none ∧ fastOf l j = day := fun j => by
    unfold cndS
    rw [Bool.and_eq_true, isSome_none, decide_eq_true_eq]
  refine ⟨fun j c hj => ?_, fun j c hj h => ?_, fun x => ?_, ?_, fun o co j ho h hr => ?_, fun j hj hf => ?_, h0⟩
  · rw [h1 j, if_neg (fun h => by rw [((hc j).1 h.2).1] at hj; cases hj)]
    exact hj
  · rw [h1 j] at hj
    split at hj
    · rename_i hk
      cases hj
      exact ⟨hk.1, rfl, rfl, Int.le_refl _, Int.le_refl _, .inl ⟨rfl, rfl, ((hc j).1 hk.2).2⟩⟩
    · rw [h] at hj; cases hj
  · rw [h2, mem_castL]
    constructor
    · rintro ⟨j, rfl, hj, hk⟩
      exact ⟨j, ⟨j, -1, 0, day⟩, rfl, ((hc j).1 hk).1, by rw [h1 j, if_pos ⟨hj, hk⟩], rfl⟩
    · rintro ⟨j, c, rfl, hn, hs, _⟩
      rw [h1 j] at hs
      split at hs
      · rename_i hk
        exact ⟨j, rfl, hk.1, hk.2⟩
      · rw [hn] at hs; cases hs
  · rw [h2]
    exact castL_sorted (range_filter_sorted _ _)
  · exfalso
    rw [h1 o] at ho
    split at ho
    · cases ho
      simp at hr
    · rw [h] at ho; cases ho
  · rw [h1 j]
    cases hm : mget es0 (j : Int) with
    | none => exact ⟨_, if_pos ⟨hj, (hc j).2 ⟨hm, hf⟩⟩⟩
    | some c => exact ⟨c, if_neg (fun h => by rw [((hc j).1 h.2).1] at hm; cases hm)⟩

theorem RI.step {l : List Debt} {day r : Int} {es0 es : Fnd} {la : List Int} (h : RI l day r es0 es la) (hr : 1 ≤ r) : RI l day (r + 1) es0 (step l day r es la l.length).1 (step l day r es la l.length).2 := by
  obtain ⟨h1, h2⟩ := step_spec l day r es la l.length
  have hc : ∀ j, cndR l es la j = true ↔ mget es (j : Int) = none ∧ ∃ x ∈ la, can l x.toNat j = true := fun j => by
    unfold cndR
    rw [Bool.and_eq_true, isSome_none, decide_eq_true_eq, firstI_any]
  have old : ∀ (j : Nat) c, mget es (j : Int) = some c → mget (Go.Proofs.Ytkldidgcgioceaa.step l day r es la l.length).1 (j : Int) = some c := fun j c hj => by
    rw [h1 j, if_neg (fun h => by rw [((hc j).1 h.2).1] at hj; cases hj)]
    exact hj
  have cases' : ∀ (j : Nat) c, mget (Go.Proofs.Ytkldidgcgioceaa.step l day r es la l.length).1 (j : Int) = some c → mget es (j : Int) = some c ∨ (j < l.length ∧ cndR l es la j = true ∧ c = newR l day r la j) := fun j c hj => by
    rw [h1 j] at hj
    split at hj
    · rename_i hk
      cases hj
      exact .inr ⟨hk.1, hk.2, rfl⟩
    · exact .inl hj
  have es0n : ∀ j : Nat, mget es (j : Int) = none → mget es0 (j : Int) = none := fun j hj => by
    cases hm : mget es0 (j : Int) with
    | none => rfl
    | some c => rw [h.ext j c hm] at hj; cases hj
  refine ⟨fun j c hj => old j c (h.ext j c hj), fun j c hj h0 => ?_, fun x => ?_, ?_, fun o co j ho h0 hlt hj hcan => ?_, fun j hj hf => ?_, h.inn⟩
  · rcases cases' j c hj with hj | ⟨hjl, hk, rfl⟩
    · obtain ⟨a1, a2, a3, a4, a5, a6⟩ := h.new j c hj h0
      refine ⟨a1, a2, a3, a4, by omega, ?_⟩
      rcases a6 with a6 | ⟨a6, p, cp, b1, b2, b3, b4, b5, b6⟩
      · exact .inl a6
      · refine .inr ⟨a6, p, cp, b1, old p cp b2, b3, b4, b5, fun q cq hq hqs hq0 hqr => ?_⟩
        rcases cases' q cq hqs with hqs | ⟨_, _, rfl⟩
        · exact b6 q cq hq hqs hq0 hqr
        · exfalso
          have : r + 1 = c.round := hqr
          omega
    · obtain ⟨hn, x, hx, hxc⟩ := (hc j).1 hk
      obtain ⟨f1, f2, f3⟩ := firstI_spec (p := fun i => can l i.toNat j) h.srt (firstI_any.2 ⟨x, hx, hxc⟩)
      have hb : (newR l day r la j).because = la.getD (firstI (fun i => can l i.toNat j) la).toNat 0 := rfl
      generalize la.getD (firstI (fun i => can l i.toNat j) la).toNat 0 = y at *
      obtain ⟨p, cp, rfl, p1, p2, p3⟩ := (h.las y).1 f1
      refine ⟨hjl, rfl, rfl, (show (0 : Int) ≤ r by omega), (show r + 1 ≤ r + 1 by omega), .inr ⟨fun hf => ?_, p, cp, hb, old p cp p2, p1, p3, by simpa using f2, fun q cq hq hqs hq0 hqr => ?_⟩⟩
      · obtain ⟨c', hc'⟩ := h.sed j hjl hf
        rw [hc'] at hn
        cases hn
      · rcases cases' q cq hqs with hqs | ⟨_, _, rfl⟩
        · have hmem := (h.las (q : Int)).2 ⟨q, cq, rfl, hq0, hqs, hqr⟩
          have := f3 (q : Int) hmem (by omega)
          simpa using this
        · exfalso
          have : r + 1 = r := hqr
          omega
  · rw [h2, mem_castL]
    constructor
    · rintro ⟨j, rfl, hj, hk⟩
      refine ⟨j, newR l day r la j, rfl, es0n j ((hc j).1 hk).1, by rw [h1 j, if_pos ⟨hj, hk⟩], rfl⟩
    · rintro ⟨j, c, rfl, hn, hs, hr2⟩
      rcases cases' j c hs with hs | ⟨hj, hk, rfl⟩
      · exfalso
        have := (h.new j c hs hn).2.2.2.2.1
        omega
      · exact ⟨j, rfl, hj, hk⟩
  · rw [h2]
    exact castL_sorted (range_filter_sorted _ _)
  · rcases cases' o co ho with ho | ⟨_, _, rfl⟩
    · by_cases hlt2 : co.round + 1 < r
      · obtain ⟨cj, e1, e2⟩ := h.clo o co j ho h0 hlt2 hj hcan
        exact ⟨cj, old j cj e1, e2⟩
      · have hr1 : co.round + 1 = r := by omega
        cases hm : mget es (j : Int) with
        | some cj =>
          refine ⟨cj, old j cj hm, ?_⟩
          cases hm0 : mget es0 (j : Int) with
          | some c' =>
            have := h.ext j c' hm0
            rw [hm] at this
            cases this
            exact .inl rfl
          | none =>
            have := (h.new j cj hm hm0).2.2.2.2.1
            exact .inr (by omega)
        | none =>
          have hk : cndR l es la j = true := (hc j).2 ⟨hm, (o : Int), (h.las o).2 ⟨o, co, rfl, h0, ho, hr1⟩, by simpa using hcan⟩
          exact ⟨newR l day r la j, by rw [h1 j, if_pos ⟨hj, hk⟩], .inr (show r ≤ co.round + 1 by omega)⟩
    · exfalso
      have : r + 1 < r + 1 := hlt
      omega
  · obtain ⟨c, hc'⟩ := h.sed j hj hf
    exact ⟨c, old j c hc'⟩

theorem RI.rounds {l : List Debt} {day : Int} {es0 : Fnd} : ∀ (f r : Nat) (s : Fnd × List Int), 1 ≤ r → RI l day r es0 s.1 s.2 → okF l s.1 → muF l s ≤ f → ∃ r' : Int, 1 ≤ r' ∧ RI l day r' es0 (rounds l day f r s) []
  | 0, r, s, hr, h, _, hm => by
    have hs : s.2 = [] := by
      unfold muF at hm
      split at hm
      · assumption
      · omega
    refine ⟨r, by omega, ?_⟩
    rw [hs] at h
    exact h
  | f + 1, r, s, hr, h, hok, hm => by
    show ∃ r' : Int, 1 ≤ r' ∧ RI l day r' es0 (if s.2 = [] then s.1 else _) []
    by_cases hs : s.2 = []
    · rw [if_pos hs]
      refine ⟨r, by omega, ?_⟩
      rw [hs] at h
      exact h
    · rw [if_neg hs]
      obtain ⟨a1, a2, a3⟩ := step_ok' (day := day) (r := (r : Int)) hok hs
      have h' := h.step (by omega)
      refine RI.rounds f (r + 1) _ (by omega) ?_ a1 (by
        have : muF l (s.1, s.2) = muF l s := rfl
        omega)
      have e : ((r + 1 : Nat) : Int) = (r : Int) + 1 := by omega
      rw [e]
      exact h'

theorem spread_RI {l : List Debt} {day : Int} {es0 : Fnd} (hok : okF l es0) (h0 : ∀ (j : Nat) c, mget es0 (j : Int) = some c → j < l.length) : ∃ r : Int, 1 ≤ r ∧ RI l day r es0 (spreadL l day es0) [] := by
  refine RI.rounds (2 * l.length + 2) 1 _ (Nat.le_refl _) (RI.seed h0) (seed_ok' hok).1 ?_
  unfold muF
  split <;> omega

end Go.Proofs.Ytkldidgcgioceaa
