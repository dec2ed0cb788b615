import Derived.Test.YtkldidgcgioceaaX7
namespace Go.Proofs.Ytkldidgcgioceaa
open Go.Own
set_option maxHeartbeats 1000000

structure Inv (l : List Debt) (F : Nat → Option Cau) (S : Int → Prop) : Prop where
  val : ∀ j c, F j = some c → j < l.length ∧ c.issue = j ∧ 0 ≤ c.round ∧ S c.day ∧
    ((c.because = -1 ∧ c.round = 0 ∧ fastOf l j = c.day) ∨ (¬ (0 ≤ fastOf l j ∧ fastOf l j ≤ c.day) ∧ ∃ (p : Nat) (cp : Cau), c.because = p ∧ F p = some cp ∧ cp.day = c.day ∧ cp.round + 1 = c.round ∧ can l p j = true ∧
      ∀ (q : Nat) cq, q < p → F q = some cq → cq.day = c.day → cq.round + 1 = c.round → can l q j = false))
  clo : ∀ o co j, F o = some co → j < l.length → can l o j = true → ∃ cj, F j = some cj ∧ (cj.day < co.day ∨ (cj.day = co.day ∧ cj.round ≤ co.round + 1))
  sat : ∀ j, j < l.length → S (fastOf l j) → ∃ cj, F j = some cj ∧ cj.day ≤ fastOf l j

def atF (es : Fnd) (j : Nat) : Option Cau := mget es (j : Int)

theorem Inv.spread {l : List Debt} {es0 : Fnd} {S : Int → Prop} {d : Int} (h : Inv l (atF es0) S) (hok : okF l es0) (hS : ∀ x, S x → x < d) (hd : 0 ≤ d) (hall : ∀ j, j < l.length → 0 ≤ fastOf l j → fastOf l j < d → S (fastOf l j)) :
    Inv l (atF (spreadL l d es0)) (fun x => S x ∨ x = d) := by
  obtain ⟨r, hr, R⟩ := spread_RI (day := d) hok (fun j c hj => (h.val j c hj).1)
  generalize spreadL l d es0 = es at *
  have full : ∀ (o : Nat) co, mget es (o : Int) = some co → mget es0 (o : Int) = none → co.round + 1 < r := fun o co ho h0 => by
    have h1 := (R.new o co ho h0).2.2.2.2.1
    by_cases e : co.round + 1 = r
    · have := (R.las (o : Int)).2 ⟨o, co, rfl, h0, ho, e⟩
      cases this
    · omega
  have split' : ∀ (j : Nat) c, mget es (j : Int) = some c → mget es0 (j : Int) = some c ∨ mget es0 (j : Int) = none := fun j c hj => by
    cases hm : mget es0 (j : Int) with
    | none => exact .inr rfl
    | some c' =>
      have := R.ext j c' hm
      rw [hj] at this
      cases this
      exact .inl rfl
  refine ⟨fun j c hj => ?_, fun o co j ho hj hcan => ?_, fun j hj hs => ?_⟩
  · rcases split' j c hj with h0 | h0
    · obtain ⟨a1, a2, a3, a4, a5⟩ := h.val j c h0
      refine ⟨a1, a2, a3, .inl a4, ?_⟩
      rcases a5 with a5 | ⟨a5, p, cp, b1, b2, b3, b4, b5, b6⟩
      · exact .inl a5
      · refine .inr ⟨a5, p, cp, b1, R.ext p cp b2, b3, b4, b5, fun q cq hq hqs hqd hqr => ?_⟩
        rcases split' q cq hqs with hq0 | hq0
        · exact b6 q cq hq hq0 hqd hqr
        · exfalso
          have := (R.new q cq hqs hq0).2.2.1
          have := hS _ a4
          omega
    · obtain ⟨a1, a2, a3, a4, _, a6⟩ := R.new j c hj h0
      refine ⟨a1, a2, a4, .inr a3, ?_⟩
      rcases a6 with ⟨a6, a7, a8⟩ | ⟨a6, p, cp, b1, b2, b3, b4, b5, b6⟩
      · exact .inl ⟨a6, a7, by rw [a3]; exact a8⟩
      · refine .inr ⟨fun hf => ?_, p, cp, b1, b2, ?_, b4, b5, fun q cq hq hqs hqd hqr => ?_⟩
        · rw [a3] at hf
          have hlt : fastOf l j < d := by omega
          obtain ⟨cj, e1, _⟩ := h.sat j a1 (hall j a1 hf.1 hlt)
          have e1' : mget es0 (j : Int) = some cj := e1
          rw [h0] at e1'
          cases e1'
        · rw [a3]
          exact (R.new p cp b2 b3).2.2.1
        · rcases split' q cq hqs with hq0 | hq0
          · exfalso
            have := hS _ (h.val q cq hq0).2.2.2.1
            omega
          · exact b6 q cq hq hqs hq0 hqr
  · rcases split' o co ho with h0 | h0
    · obtain ⟨cj, e1, e2⟩ := h.clo o co j h0 hj hcan
      exact ⟨cj, R.ext j cj e1, e2⟩
    · have od := (R.new o co ho h0).2.2.1
      obtain ⟨cj, e1, e2⟩ := R.clo o co j ho h0 (full o co ho h0) hj hcan
      refine ⟨cj, e1, ?_⟩
      rcases split' j cj e1 with g | g
      · have := hS _ (h.val j cj g).2.2.2.1
        exact .inl (by omega)
      · rcases e2 with e2 | e2
        · rw [g] at e2; cases e2
        · exact .inr ⟨by rw [od]; exact (R.new j cj e1 g).2.2.1, e2⟩
  · rcases hs with hs | hs
    · obtain ⟨cj, e1, e2⟩ := h.sat j hj hs
      exact ⟨cj, R.ext j cj e1, e2⟩
    · obtain ⟨c, hc⟩ := R.sed j hj hs
      refine ⟨c, hc, ?_⟩
      rcases split' j c hc with g | g
      · have := hS _ (h.val j c g).2.2.2.1
        omega
      · have := (R.new j c hc g).2.2.1
        omega

theorem Inv.weaken {l : List Debt} {F : Nat → Option Cau} {S S' : Int → Prop} (h : Inv l F S) (hS : ∀ x, S x ↔ S' x) : Inv l F S' := by
  refine ⟨fun j c hj => ?_, h.clo, fun j hj hs => h.sat j hj ((hS _).2 hs)⟩
  obtain ⟨a1, a2, a3, a4, a5⟩ := h.val j c hj
  exact ⟨a1, a2, a3, (hS _).1 a4, a5⟩

theorem found_inv {l : List Debt} : ∀ (ds : List Int) (es : Fnd) (S : Int → Prop), ds.Pairwise (· < ·) → (∀ d ∈ ds, 0 ≤ d) → (∀ x, S x → ∀ d ∈ ds, x < d) → (∀ j, j < l.length → 0 ≤ fastOf l j → S (fastOf l j) ∨ fastOf l j ∈ ds) → okF l es → Inv l (atF es) S →
    Inv l (atF (ds.foldl (fun es day => spreadL l day es) es)) (fun x => S x ∨ x ∈ ds)
  | [], es, S, _, _, _, _, _, h => h.weaken fun x => by simp
  | d :: ds, es, S, hp, hn, hS, hall, hok, h => by
    rw [List.pairwise_cons] at hp
    have h1 := h.spread (d := d) hok (fun x hx => hS x hx d List.mem_cons_self) (hn d List.mem_cons_self) (fun j hj h0 hlt => by
      rcases hall j hj h0 with h | h
      · exact h
      · rcases List.mem_cons.1 h with e | h
        · omega
        · have := hp.1 _ h
          omega)
    have h2 := found_inv ds (spreadL l d es) (fun x => S x ∨ x = d) hp.2 (fun x hx => hn x (List.mem_cons_of_mem _ hx)) (fun x hx y hy => by
      rcases hx with hx | hx
      · exact hS x hx y (List.mem_cons_of_mem _ hy)
      · rw [hx]; exact hp.1 y hy) (fun j hj h0 => by
      rcases hall j hj h0 with h | h
      · exact .inl (.inl h)
      · rcases List.mem_cons.1 h with e | h
        · exact .inl (.inr e)
        · exact .inr h) (spread_okF hok) h1
    refine h2.weaken fun x => ?_
    rw [List.mem_cons]
    constructor
    · rintro ((h | h) | h)
      · exact .inl h
      · exact .inr (.inl h)
      · exact .inr (.inr h)
    · rintro (h | h | h)
      · exact .inl (.inl h)
      · exact .inl (.inr h)
      · exact .inr h

/-! ### The days -/
theorem compact_spec (zs : List Int) (hs : zs.Pairwise (· ≤ ·)) : (Go.Lib.compact zs).Pairwise (· < ·) ∧ ∀ x, x ∈ Go.Lib.compact zs ↔ x ∈ zs := by
  have get : ∀ j, j < zs.length → zs.toArray[j]! = zs.getD j 0 := fun j hj => by
    rw [List.getD_eq_getElem?_getD, List.getElem?_eq_getElem hj]
    simp [hj]
  have mono : ∀ i j, i ≤ j → j < zs.length → zs.getD i 0 ≤ zs.getD j 0 := fun i j hij hj => by
    by_cases e : i = j
    · subst e; exact Int.le_refl _
    · have := List.pairwise_iff_getElem.1 hs i j (by omega) hj (by omega)
      rw [List.getD_eq_getElem?_getD, List.getD_eq_getElem?_getD, List.getElem?_eq_getElem hj, List.getElem?_eq_getElem (show i < zs.length by omega)]
      exact this
  have main : ∀ m, m ≤ zs.length → (Go.Lib.compactUpTo zs.toArray m).Pairwise (· < ·) ∧ ∀ x, x ∈ Go.Lib.compactUpTo zs.toArray m ↔ ∃ j, j < m ∧ zs.getD j 0 = x := by
    intro m
    induction m with
    | zero => intro _; exact ⟨by simp [Go.Lib.compactUpTo], fun x => by simp [Go.Lib.compactUpTo]⟩
    | succ m ih =>
      intro hm
      obtain ⟨i1, i2⟩ := ih (by omega)
      rw [Go.Lib.compactUpTo_succ]
      by_cases hk : Go.Lib.keeps zs.toArray m = true
      · rw [if_pos hk, get m (by omega)]
        have hk' : m = 0 ∨ zs.getD m 0 ≠ zs.getD (m - 1) 0 := by
          unfold Go.Lib.keeps at hk
          have := of_decide_eq_true hk
          rcases this with h | h
          · exact .inl h
          · by_cases h0 : m = 0
            · exact .inl h0
            · right
              rw [get m (by omega), get (m - 1) (by omega)] at h
              exact h
        refine ⟨List.pairwise_append.2 ⟨i1, List.pairwise_singleton _ _, fun a ha b hb => ?_⟩, fun x => ?_⟩
        · rw [List.mem_singleton] at hb
          subst hb
          obtain ⟨j, hj, rfl⟩ := (i2 a).1 ha
          have := mono j (m - 1) (by omega) (by omega)
          have := mono (m - 1) m (by omega) (by omega)
          rcases hk' with h | h
          · omega
          · omega
        · rw [List.mem_append, i2, List.mem_singleton]
          constructor
          · rintro (⟨j, hj, rfl⟩ | rfl)
            · exact ⟨j, by omega, rfl⟩
            · exact ⟨m, by omega, rfl⟩
          · rintro ⟨j, hj, rfl⟩
            by_cases e : j = m
            · subst e; exact .inr rfl
            · exact .inl ⟨j, by omega, rfl⟩
      · rw [if_neg hk, List.append_nil]
        have hk' : m ≠ 0 ∧ zs.getD m 0 = zs.getD (m - 1) 0 := by
          unfold Go.Lib.keeps at hk
          have : ¬ (m = 0 ∨ zs.toArray[m]! ≠ zs.toArray[m - 1]!) := fun h => hk (decide_eq_true h)
          have h0 : m ≠ 0 := fun e => this (.inl e)
          refine ⟨h0, ?_⟩
          have h1 : zs.toArray[m]! = zs.toArray[m - 1]! := Classical.byContradiction fun h => this (.inr h)
          rw [get m (by omega), get (m - 1) (by omega)] at h1
          exact h1
        refine ⟨i1, fun x => ?_⟩
        rw [i2]
        constructor
        · rintro ⟨j, hj, rfl⟩
          exact ⟨j, by omega, rfl⟩
        · rintro ⟨j, hj, rfl⟩
          by_cases e : j = m
          · subst e
            exact ⟨j - 1, by omega, hk'.2.symm⟩
          · exact ⟨j, by omega, rfl⟩
  obtain ⟨h1, h2⟩ := main zs.length (Nat.le_refl _)
  refine ⟨h1, fun x => ?_⟩
  show x ∈ Go.Lib.compactUpTo zs.toArray zs.length ↔ _
  rw [h2]
  constructor
  · rintro ⟨j, hj, rfl⟩
    exact getD_mem hj
  · intro hx
    obtain ⟨j, hj, e⟩ := List.getElem_of_mem hx
    refine ⟨j, hj, ?_⟩
    rw [List.getD_eq_getElem?_getD, List.getElem?_eq_getElem hj, ← e]
    rfl

theorem days_spec (l : List Debt) : (daysL l).Pairwise (· < ·) ∧ ∀ x, x ∈ daysL l ↔ 0 ≤ x ∧ ∃ j, j < l.length ∧ fastOf l j = x := by
  have hs : ((fasts l).mergeSort leZ).Pairwise (· ≤ ·) := by
    refine (List.pairwise_mergeSort (le := leZ) (fun a b c h1 h2 => by simp [leZ] at *; omega) (fun a b => by simp [leZ]; omega) _).imp fun h => ?_
    simpa [leZ] using h
  obtain ⟨h1, h2⟩ := compact_spec _ hs
  refine ⟨h1, fun x => ?_⟩
  show x ∈ Go.Lib.compact _ ↔ _
  rw [h2, List.mem_mergeSort]
  unfold fasts
  rw [List.mem_filter, List.mem_map, decide_eq_true_eq]
  constructor
  · rintro ⟨⟨d, hd, rfl⟩, h0⟩
    obtain ⟨j, hj, e⟩ := List.getElem_of_mem hd
    refine ⟨h0, j, hj, ?_⟩
    unfold fastOf
    rw [List.getD_eq_getElem?_getD, List.getElem?_eq_getElem hj, ← e]
    rfl
  · rintro ⟨h0, j, hj, rfl⟩
    exact ⟨⟨_, getD_mem hj, rfl⟩, h0⟩

/-- What Close finds. -/
def Sol (l : List Debt) (F : Nat → Option Cau) : Prop := Inv l F (fun x => 0 ≤ x ∧ ∃ j, j < l.length ∧ fastOf l j = x)

theorem found_sol (l : List Debt) : Sol l (atF (foundL l)) := by
  obtain ⟨h1, h2⟩ := days_spec l
  have h0 : Inv l (atF []) (fun _ => False) := ⟨fun j c hj => (by cases hj), fun o co j ho => (by cases ho), fun j hj h => h.elim⟩
  have := found_inv (l := l) (daysL l) [] (fun _ => False) h1 (fun d hd => ((h2 d).1 hd).1) (fun x h => h.elim) (fun j hj h0 => .inr ((h2 _).2 ⟨h0, j, hj, rfl⟩)) (okF_nil l) h0
  refine this.weaken fun x => ?_
  rw [h2]
  constructor
  · rintro (h | h)
    · exact h.elim
    · exact h
  · exact .inr

/-- The day and the round of one are at least as good as those of the other. -/
def le2 (a b : Cau) : Prop := a.day < b.day ∨ (a.day = b.day ∧ a.round ≤ b.round)

/-- What is found where more can be brought down, earlier. -/
theorem sol_mono {l l' : List Debt} {F F' : Nat → Option Cau} (h : Sol l F) (h' : Sol l' F') (hn : l.length = l'.length) (hcan : ∀ i j, can l i j = true → can l' i j = true) (hfast : ∀ j, 0 ≤ fastOf l j → 0 ≤ fastOf l' j ∧ fastOf l' j ≤ fastOf l j) :
    ∀ (n : Nat) (j : Nat) (c : Cau), c.round = (n : Int) → F j = some c → ∃ c', F' j = some c' ∧ le2 c' c := by
  intro n
  induction n with
  | zero =>
    intro j c hr hc
    obtain ⟨a1, a2, a3, ⟨a4, _⟩, a5⟩ := h.val j c hc
    rcases a5 with ⟨_, _, a5⟩ | ⟨_, p, cp, _, hp, _, hpr, _⟩
    · obtain ⟨f0, f1⟩ := hfast j (by rw [a5]; exact a4)
      obtain ⟨c', e1, e2⟩ := h'.sat j (by omega) ⟨f0, j, by omega, rfl⟩
      refine ⟨c', e1, ?_⟩
      by_cases e : c'.day = c.day
      · refine .inr ⟨e, ?_⟩
        obtain ⟨b1, b2, b3, b4, b5⟩ := h'.val j c' e1
        rcases b5 with ⟨_, b5, _⟩ | ⟨b5, _⟩
        · omega
        · exact absurd ⟨f0, by omega⟩ b5
      · exact .inl (by omega)
    · have := (h.val p cp hp).2.2.1
      omega
  | succ n ih =>
    intro j c hr hc
    obtain ⟨a1, a2, a3, a4, a5⟩ := h.val j c hc
    rcases a5 with ⟨_, a5, _⟩ | ⟨_, p, cp, _, hp, hpd, hpr, hpc, _⟩
    · omega
    · obtain ⟨cp', e1, e2⟩ := ih p cp (by omega) hp
      obtain ⟨c', g1, g2⟩ := h'.clo p cp' j e1 (by omega) (hcan p j hpc)
      refine ⟨c', g1, ?_⟩
      unfold le2 at e2 ⊢
      omega

theorem sol_mono' {l l' : List Debt} {F F' : Nat → Option Cau} (h : Sol l F) (h' : Sol l' F') (hn : l.length = l'.length) (hcan : ∀ i j, can l i j = true → can l' i j = true) (hfast : ∀ j, 0 ≤ fastOf l j → 0 ≤ fastOf l' j ∧ fastOf l' j ≤ fastOf l j) {j : Nat} {c : Cau} (hc : F j = some c) : ∃ c', F' j = some c' ∧ le2 c' c :=
  sol_mono h h' hn hcan hfast c.round.toNat j c (by have := (h.val j c hc).2.2.1; omega) hc

end Go.Proofs.Ytkldidgcgioceaa
