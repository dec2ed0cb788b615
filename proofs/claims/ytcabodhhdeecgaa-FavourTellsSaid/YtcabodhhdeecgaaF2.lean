/-
  Favour, the plain law: which covenants hold, since when, by which chain.
-/
import Derived.Test.YtcabodhhdeecgaaF1
import Derived.Test.YtcabodhhdeecgaaOwnZ8
namespace Go.Proofs.Fav

/-! ### Lists of numbers -/
theorem fgetD_mem {α : Type} {l : List α} {j : Nat} {d : α} (h : j < l.length) : l.getD j d ∈ l := by
  rw [List.getD_eq_getElem?_getD, List.getElem?_eq_getElem h]; exact List.getElem_mem h

theorem compact_spec (zs : List Int) (hs : zs.Pairwise (· ≤ ·)) : (Go.Lib.compact zs).Pairwise (· < ·) ∧ ∀ x, x ∈ Go.Lib.compact zs ↔ x ∈ zs := by
  have get : ∀ j, j < zs.length → zs.toArray[j]! = zs.getD j 0 := fun j hj => by
    rw [List.getD_eq_getElem?_getD, List.getElem?_eq_getElem hj]
    simp [hj]
  have mono : ∀ i j, i ≤ j → j < zs.length → zs.getD i 0 ≤ zs.getD j 0 := fun i j hij hj => by
    by_cases e : i = j
    · subst e; exact Int.le_refl _
    · have := List.pairwise_iff_getElem.1 hs i j (by omega) hj (by omega)
      rw [List.getD_eq_getElem?_getD, List.getD_eq_getElem?_getD, List.getElem?_eq_getElem hj, List.getElem?_eq_getElem (show i < zs.length by omega)]
      exact this
  have main : ∀ m, m ≤ zs.length → (Go.Lib.compactUpTo zs.toArray m).Pairwise (· < ·) ∧ ∀ x, x ∈ Go.Lib.compactUpTo zs.toArray m ↔ ∃ j, j < m ∧ zs.getD j 0 = x := by
    intro m
    induction m with
    | zero => intro _; exact ⟨by simp [Go.Lib.compactUpTo], fun x => by simp [Go.Lib.compactUpTo]⟩
    | succ m ih =>
      intro hm
      obtain ⟨i1, i2⟩ := ih (by omega)
      rw [Go.Lib.compactUpTo_succ]
      by_cases hk : Go.Lib.keeps zs.toArray m = true
      · rw [if_pos hk, get m (by omega)]
        have hk' : m = 0 ∨ zs.getD m 0 ≠ zs.getD (m - 1) 0 := by
          unfold Go.Lib.keeps at hk
          have := of_decide_eq_true hk
          rcases this with h | h
          · exact .inl h
          · by_cases h0 : m = 0
            · exact .inl h0
            · right
              rw [get m (by omega), get (m - 1) (by omega)] at h
              exact h
        refine ⟨List.pairwise_append.2 ⟨i1, List.pairwise_singleton _ _, fun a ha b hb => ?_⟩, fun x => ?_⟩
        · rw [List.mem_singleton] at hb
          subst hb
          obtain ⟨j, hj, rfl⟩ := (i2 a).1 ha
          have := mono j (m - 1) (by omega) (by omega)
          have := mono (m - 1) m (by omega) (by omega)
          rcases hk' with h | h
          · omega
          · omega
        · rw [List.mem_append, i2, List.mem_singleton]
          constructor
          · rintro (⟨j, hj, rfl⟩ | rfl)
            · exact ⟨j, by omega, rfl⟩
            · exact ⟨m, by omega, rfl⟩
          · rintro ⟨j, hj, rfl⟩
            by_cases e : j = m
            · subst e; exact .inr rfl
            · exact .inl ⟨j, by omega, rfl⟩
      · rw [if_neg hk, List.append_nil]
        have hk' : m ≠ 0 ∧ zs.getD m 0 = zs.getD (m - 1) 0 := by
          unfold Go.Lib.keeps at hk
          have : ¬ (m = 0 ∨ zs.toArray[m]! ≠ zs.toArray[m - 1]!) := fun h => hk (decide_eq_true h)
          have h0 : m ≠ 0 := fun e => this (.inl e)
          refine ⟨h0, ?_⟩
          have h1 : zs.toArray[m]! = zs.toArray[m - 1]! := Classical.byContradiction fun h => this (.inr h)
          rw [get m (by omega), get (m - 1) (by omega)] at h1
          exact h1
        refine ⟨i1, fun x => ?_⟩
        rw [i2]
        constructor
        · rintro ⟨j, hj, rfl⟩
          exact ⟨j, by omega, rfl⟩
        · rintro ⟨j, hj, rfl⟩
          by_cases e : j = m
          · subst e
            exact ⟨j - 1, by omega, hk'.2.symm⟩
          · exact ⟨j, by omega, rfl⟩
  obtain ⟨h1, h2⟩ := main zs.length (Nat.le_refl _)
  refine ⟨h1, fun x => ?_⟩
  show x ∈ Go.Lib.compactUpTo zs.toArray zs.length ↔ _
  rw [h2]
  constructor
  · rintro ⟨j, hj, rfl⟩
    exact fgetD_mem hj
  · intro hx
    obtain ⟨j, hj, e⟩ := List.getElem_of_mem hx
    refine ⟨j, hj, ?_⟩
    rw [List.getD_eq_getElem?_getD, List.getElem?_eq_getElem hj, ← e]
    rfl

def leI (a b : Int) : Bool := decide (a ≤ b)

/-- Sorted, each once. -/
def sc (xs : List Int) : List Int := Go.Lib.compact (xs.mergeSort leI)
theorem sc_asc (xs : List Int) : (sc xs).Pairwise (· < ·) := by
  refine (compact_spec _ ?_).1
  refine (List.pairwise_mergeSort (le := leI) (fun a b c h1 h2 => by simp [leI] at *; omega) (fun a b => by simp [leI]; omega) _).imp fun h => ?_
  simpa [leI] using h
theorem sc_mem (xs : List Int) (x : Int) : x ∈ sc xs ↔ x ∈ xs := by
  unfold sc
  rw [(compact_spec _ _).2, List.mem_mergeSort]
  refine (List.pairwise_mergeSort (le := leI) (fun a b c h1 h2 => by simp [leI] at *; omega) (fun a b => by simp [leI]; omega) _).imp fun h => ?_
  simpa [leI] using h
/-- Ascending lists with the same members are equal. -/
theorem ascI_eq : ∀ {a b : List Int}, a.Pairwise (· < ·) → b.Pairwise (· < ·) → (∀ x, x ∈ a ↔ x ∈ b) → a = b
  | [], [], _, _, _ => rfl
  | [], y :: b, _, _, h => by have := (h y).2 (by simp); simp at this
  | x :: a, [], _, _, h => by have := (h x).1 (by simp); simp at this
  | x :: a, y :: b, ha, hb, h => by
    rw [List.pairwise_cons] at ha hb
    have hx : x = y := by
      have h1 := (h x).1 (by simp)
      have h2 := (h y).2 (by simp)
      rcases List.mem_cons.1 h1 with e | h1
      · exact e
      · rcases List.mem_cons.1 h2 with e | h2
        · exact e.symm
        · have := hb.1 x h1
          have := ha.1 y h2
          omega
    subst hx
    congr 1
    refine ascI_eq ha.2 hb.2 fun z => ?_
    have hz := h z
    rw [List.mem_cons, List.mem_cons] at hz
    constructor
    · intro hm
      rcases hz.1 (.inr hm) with e | e
      · subst e
        have := ha.1 z hm
        omega
      · exact e
    · intro hm
      rcases hz.2 (.inr hm) with e | e
      · subst e
        have := hb.1 z hm
        omega
      · exact e

theorem nodup_len : ∀ (D R : List Nat), D.Nodup → (∀ x ∈ D, x ∈ R) → D.length ≤ R.length := by
  intro D
  induction D with
  | nil => intro R _ _; simp
  | cons x D ih =>
    intro R hn hs
    rw [List.nodup_cons] at hn
    have hx : x ∈ R := hs x (by simp)
    have := ih (R.erase x) hn.2 (fun y hy => by
      have hyx : y ≠ x := fun e => hn.1 (e ▸ hy)
      exact (List.mem_erase_of_ne hyx).2 (hs y (by simp [hy])))
    rw [List.length_erase_of_mem hx] at this
    have : 0 < R.length := List.length_pos_of_mem hx
    simp
    omega

/-! ### The first day -/

/-- The first day on which there is a chain, and this. -/
def bestK : List Int → (Int → List (List Nat)) → Nat → List Nat × Int
  | [], _, _ => ([], 0)
  | d :: ds, f, k => if (f d).getD k [] ≠ [] then ((f d).getD k [], d) else bestK ds f k

theorem bestK_snoc (f : Int → List (List Nat)) (k : Nat) (d : Int) : ∀ ds, bestK (ds ++ [d]) f k = if (bestK ds f k).1 = [] ∧ (f d).getD k [] ≠ [] then ((f d).getD k [], d) else bestK ds f k
  | [] => by
    simp only [List.nil_append, bestK]
    by_cases h : (f d).getD k [] ≠ []
    · rw [if_pos h, if_pos ⟨trivial, h⟩]
    · rw [if_neg h, if_neg (fun h' => h h'.2)]
  | e :: ds => by
    have e1 : bestK (e :: (ds ++ [d])) f k = if (f e).getD k [] ≠ [] then ((f e).getD k [], e) else bestK (ds ++ [d]) f k := rfl
    have e2 : bestK (e :: ds) f k = if (f e).getD k [] ≠ [] then ((f e).getD k [], e) else bestK ds f k := rfl
    rw [List.cons_append, e1, e2, bestK_snoc f k d ds]
    by_cases h : (f e).getD k [] ≠ []
    · rw [if_pos h, if_pos h, if_neg (fun h' => h h'.1)]
    · rw [if_neg h, if_neg h]

theorem bestK_some (f : Int → List (List Nat)) (k : Nat) : ∀ (ds : List Int), ds.Pairwise (· < ·) → (bestK ds f k).1 ≠ [] →
    (bestK ds f k).2 ∈ ds ∧ (bestK ds f k).1 = (f (bestK ds f k).2).getD k [] ∧ ∀ d ∈ ds, (f d).getD k [] ≠ [] → (bestK ds f k).2 ≤ d
  | [], _, h => (h rfl).elim
  | d :: ds, hp, h => by
    rw [List.pairwise_cons] at hp
    unfold bestK at h ⊢
    split
    · refine ⟨by simp, rfl, fun d' hd' _ => ?_⟩
      rcases List.mem_cons.1 hd' with rfl | hd'
      · exact Int.le_refl _
      · exact Int.le_of_lt (hp.1 d' hd')
    · rename_i hn
      rw [if_neg hn] at h
      obtain ⟨h1, h2, h3⟩ := bestK_some f k ds hp.2 h
      refine ⟨by simp [h1], h2, fun d' hd' hf => ?_⟩
      rcases List.mem_cons.1 hd' with rfl | hd'
      · exact (hn hf).elim
      · exact h3 d' hd' hf

theorem bestK_ne (f : Int → List (List Nat)) (k : Nat) : ∀ (ds : List Int) (d : Int), d ∈ ds → (f d).getD k [] ≠ [] → (bestK ds f k).1 ≠ []
  | [], d, h, _ => by simp at h
  | e :: ds, d, h, hf => by
    unfold bestK
    split
    · rename_i h; exact h
    · rename_i hn
      rcases List.mem_cons.1 h with rfl | h
      · exact (hn hf).elim
      · exact bestK_ne f k ds d h hf

/-- The best of an issue for another one. -/
def S (l : List J) (days st : List Int) (i k : Nat) : List Nat × Int := bestK st (chains l days i) k

structure Stp (l : List J) (days st : List Int) : Prop where
  asc : st.Pairwise (· < ·)
  mem : ∀ x, x ∈ st ↔ x ∈ days
  len : days.length = l.length

theorem S_some {l : List J} {days st : List Int} (hs : Stp l days st) {i k : Nat} (hi : i < l.length) (h : (S l days st i k).1 ≠ []) :
    (S l days st i k).2 ∈ days ∧ Ch l days (S l days st i k).2 i k (S l days st i k).1 ∧ ∀ c, Ch l days (S l days st i k).2 i k c → sle (S l days st i k).1 c := by
  obtain ⟨h1, h2, h3⟩ := bestK_some (chains l days i) k st hs.asc h
  have h4 : (chains l days i (S l days st i k).2).getD k [] ≠ [] := by
    have : (S l days st i k).1 = (chains l days i (S l days st i k).2).getD k [] := h2
    rw [← this]; exact h
  have h2' : (S l days st i k).1 = (chains l days i (S l days st i k).2).getD k [] := h2
  refine ⟨(hs.mem _).1 h1, by rw [h2']; exact chains_valid hi h4, fun c hc => by rw [h2']; exact (chains_least hi hc).2⟩

/-- The latest day of a chain. -/
theorem Ch.latest {l : List J} {days : List Int} {most : Int} {i k : Nat} {c : List Nat} (h : Ch l days most i k c) : ∃ x ∈ c, days.getD x 0 ≤ most ∧ x < l.length ∧ Ch l days (days.getD x 0) i k c := by
  have hmax : ∀ (c : List Nat), c ≠ [] → ∃ x ∈ c, ∀ y ∈ c, days.getD y 0 ≤ days.getD x 0 := by
    intro c
    induction c with
    | nil => intro h; exact (h rfl).elim
    | cons a c ih =>
      intro _
      cases c with
      | nil => exact ⟨a, by simp, fun y hy => by simp at hy; subst hy; exact Int.le_refl _⟩
      | cons b c =>
        obtain ⟨x, hx, hm⟩ := ih (by simp)
        by_cases hle : days.getD a 0 ≤ days.getD x 0
        · refine ⟨x, by simp [hx], fun y hy => ?_⟩
          rcases List.mem_cons.1 hy with rfl | hy
          · exact hle
          · exact hm y hy
        · refine ⟨a, by simp, fun y hy => ?_⟩
          rcases List.mem_cons.1 hy with rfl | hy
          · exact Int.le_refl _
          · have := hm y hy
            omega
  obtain ⟨x, hx, hm⟩ := hmax c h.ne_nil
  refine ⟨x, hx, (h.mem x hx).2, (h.mem x hx).1, h.mono fun y hy hv => ⟨hv.1, hm y hy⟩⟩

theorem S_of {l : List J} {days st : List Int} (hs : Stp l days st) {i k : Nat} {most : Int} {c : List Nat} (h : Ch l days most i k c) : (S l days st i k).1 ≠ [] ∧ (S l days st i k).2 ≤ most := by
  have hi := h.first.1
  obtain ⟨x, hx, h1, h2, h3⟩ := h.latest
  have hm : days.getD x 0 ∈ st := (hs.mem _).2 (fgetD_mem (by rw [hs.len]; exact h2))
  have hne := (chains_least hi h3).1
  have hS := bestK_ne (chains l days i) k st _ hm hne
  exact ⟨hS, Int.le_trans ((bestK_some (chains l days i) k st hs.asc hS).2.2 _ hm hne) h1⟩

theorem S_range {l : List J} {days st : List Int} (hs : Stp l days st) {i k : Nat} (hi : i < l.length) (h : (S l days st i k).1 ≠ []) : k < l.length := (S_some hs hi h).2.1.last.1

/-! ### What holds -/

structure HH where
  iss : Nat
  cov : Nat
  since : Int
  chain : List Nat
deriving DecidableEq

def h0 : HH := ⟨0, 0, 0, []⟩

def heldK (l : List J) (B : Nat → List Nat × Int) (k : Nat) : List HH :=
  if (B k).1 = [] then [] else (List.range (l.getD k j0).ncov).map fun c => ⟨k, c, (B k).2, (B k).1⟩
def heldTo (l : List J) (B : Nat → List Nat × Int) (n : Nat) : List HH := (List.range n).flatMap (heldK l B)
def held (l : List J) (days st : List Int) (i : Nat) : List HH := heldTo l (S l days st i) l.length
def closTo (l : List J) (days st : List Int) (n : Nat) : List (List HH) := (List.range n).map (held l days st)
def clos (l : List J) (days st : List Int) : List (List HH) := closTo l days st l.length

theorem heldTo_succ (l : List J) (B : Nat → List Nat × Int) (n : Nat) : heldTo l B (n + 1) = heldTo l B n ++ heldK l B n := by
  unfold heldTo
  rw [List.range_succ, List.flatMap_append]
  simp
theorem closTo_succ (l : List J) (days st : List Int) (n : Nat) : closTo l days st (n + 1) = closTo l days st n ++ [held l days st n] := by
  unfold closTo
  rw [List.range_succ, List.map_append]
  rfl
theorem closTo_len (l : List J) (days st : List Int) (n : Nat) : (closTo l days st n).length = n := by unfold closTo; simp
theorem clos_get {l : List J} {days st : List Int} {i : Nat} (hi : i < l.length) : (clos l days st).getD i [] = held l days st i := by
  unfold clos closTo
  rw [List.getD_eq_getElem?_getD, List.getElem?_map, List.getElem?_range hi]
  rfl

theorem mem_heldTo {l : List J} {B : Nat → List Nat × Int} {n : Nat} {h : HH} : h ∈ heldTo l B n ↔ h.iss < n ∧ (B h.iss).1 ≠ [] ∧ h.cov < (l.getD h.iss j0).ncov ∧ h.since = (B h.iss).2 ∧ h.chain = (B h.iss).1 := by
  unfold heldTo
  rw [List.mem_flatMap]
  constructor
  · rintro ⟨k, hk, hm⟩
    unfold heldK at hm
    split at hm
    · simp at hm
    · rename_i hn
      obtain ⟨c, hc, rfl⟩ := List.mem_map.1 hm
      exact ⟨List.mem_range.1 hk, hn, List.mem_range.1 hc, rfl, rfl⟩
  · rintro ⟨h1, h2, h3, h4, h5⟩
    refine ⟨h.iss, List.mem_range.2 h1, ?_⟩
    unfold heldK
    rw [if_neg h2]
    refine List.mem_map.2 ⟨h.cov, List.mem_range.2 h3, ?_⟩
    rw [← h4, ← h5]

theorem mem_held {l : List J} {days st : List Int} {i : Nat} {h : HH} : h ∈ held l days st i ↔ h.iss < l.length ∧ (S l days st i h.iss).1 ≠ [] ∧ h.cov < (l.getD h.iss j0).ncov ∧ h.since = (S l days st i h.iss).2 ∧ h.chain = (S l days st i h.iss).1 := mem_heldTo

/-- Since when; -1, if it does not hold. -/
def sinceL : List HH → Nat → Nat → Int
  | [], _, _ => -1
  | h :: t, a, b => if h.iss = a ∧ h.cov = b then h.since else sinceL t a b

theorem sinceL_mem : ∀ (hs : List HH) (a b : Nat), (∃ h ∈ hs, h.iss = a ∧ h.cov = b ∧ sinceL hs a b = h.since) ∨ ((∀ h ∈ hs, ¬ (h.iss = a ∧ h.cov = b)) ∧ sinceL hs a b = -1)
  | [], a, b => .inr ⟨by simp, rfl⟩
  | h :: t, a, b => by
    unfold sinceL
    split
    · rename_i e
      exact .inl ⟨h, by simp, e.1, e.2, rfl⟩
    · rename_i e
      rcases sinceL_mem t a b with ⟨h', h1, h2⟩ | ⟨h1, h2⟩
      · exact .inl ⟨h', by simp [h1], h2⟩
      · refine .inr ⟨fun x hx => ?_, h2⟩
        rcases List.mem_cons.1 hx with rfl | hx
        · exact e
        · exact h1 x hx

def dayOf (l : List J) (days st : List Int) (i k : Nat) : Int := if (S l days st i k).1 = [] then -1 else (S l days st i k).2

theorem since_held {l : List J} {days st : List Int} {i k c : Nat} (hk : k < l.length) (hc : c < (l.getD k j0).ncov) : sinceL (held l days st i) k c = dayOf l days st i k := by
  unfold dayOf
  rcases sinceL_mem (held l days st i) k c with ⟨h, h1, rfl, rfl, h4⟩ | ⟨h1, h2⟩
  · obtain ⟨_, g2, _, g4, _⟩ := mem_held.1 h1
    rw [if_neg g2, h4, g4]
  · by_cases hn : (S l days st i k).1 = []
    · rw [if_pos hn, h2]
    · exact (h1 ⟨k, c, (S l days st i k).2, (S l days st i k).1⟩ (mem_held.2 ⟨hk, hn, hc, rfl, rfl⟩) ⟨rfl, rfl⟩).elim

theorem heldK_len (l : List J) (B : Nat → List Nat × Int) (k : Nat) : (heldK l B k).length = if (B k).1 = [] then 0 else (l.getD k j0).ncov := by
  unfold heldK
  split <;> simp

/-- By issue, then by covenant. -/
def ltH (a b : HH) : Prop := a.iss < b.iss ∨ (a.iss = b.iss ∧ a.cov < b.cov)
theorem heldTo_asc (l : List J) (B : Nat → List Nat × Int) : ∀ n, (heldTo l B n).Pairwise ltH
  | 0 => by simp [heldTo]
  | n + 1 => by
    rw [heldTo_succ]
    refine List.pairwise_append.2 ⟨heldTo_asc l B n, ?_, fun a ha b hb => ?_⟩
    · unfold heldK
      split
      · simp
      · rw [List.pairwise_map]
        exact List.pairwise_lt_range.imp fun h => .inr ⟨rfl, h⟩
    · have h1 := (mem_heldTo.1 ha).1
      have h2 : b.iss = n := by
        unfold heldK at hb
        split at hb
        · simp at hb
        · obtain ⟨c, _, rfl⟩ := List.mem_map.1 hb
          rfl
      exact .inl (by omega)

/-! ### Valid days -/

def okDays (days : List Int) : Prop := ∀ d ∈ days, 0 ≤ d ∧ d ≤ 200000

theorem dayOf_nonneg {l : List J} {days st : List Int} (hs : Stp l days st) (hd : okDays days) {i k : Nat} (hi : i < l.length) : 0 ≤ dayOf l days st i k ↔ (S l days st i k).1 ≠ [] := by
  unfold dayOf
  split
  · rename_i h; constructor
    · intro h; omega
    · intro h'; exact (h' h).elim
  · rename_i h
    exact ⟨fun _ => h, fun _ => (hd _ (S_some hs hi h).1).1⟩

theorem dayOf_eq {l : List J} {days st : List Int} {i k : Nat} (h : (S l days st i k).1 ≠ []) : dayOf l days st i k = (S l days st i k).2 := by
  unfold dayOf; rw [if_neg h]

theorem dayOf_own {l : List J} {days st : List Int} (hs : Stp l days st) {i : Nat} (hi : i < l.length) : (S l days st i i).1 ≠ [] ∧ dayOf l days st i i = days.getD i 0 := by
  have h1 : Ch l days (days.getD i 0) i i [i] := .one ⟨hi, Int.le_refl _⟩
  obtain ⟨h2, h3⟩ := S_of hs h1
  refine ⟨h2, ?_⟩
  rw [dayOf_eq h2]
  have := (S_some hs hi h2).2.1.first.2
  omega

/-- A shortest chain has nothing twice. -/
theorem Ch.part {l : List J} {days : List Int} {most : Int} {i k : Nat} {c : List Nat} (h : Ch l days most i k c) : ∀ x ∈ c, ∃ c', Ch l days most i x c' ∧ c'.length ≤ c.length := by
  induction h with
  | one h => intro x hx; simp at hx; subst hx; exact ⟨_, .one h, Nat.le_refl _⟩
  | snoc h ha hk ih =>
    intro x hx
    rcases List.mem_append.1 hx with hx | hx
    · obtain ⟨c', h1, h2⟩ := ih x hx
      exact ⟨c', h1, by rw [List.length_append]; omega⟩
    · simp at hx
      subst hx
      exact ⟨_, .snoc h ha hk, Nat.le_refl _⟩

theorem Ch.nodup {l : List J} {days : List Int} {most : Int} {i k : Nat} {c : List Nat} (h : Ch l days most i k c) (hs : ∀ c', Ch l days most i k c' → c.length ≤ c'.length) : c.Nodup := by
  induction h with
  | one h => simp
  | @snoc q k c h ha hk ih =>
    have h1 := ih fun c' hc' => by
      have := hs _ (.snoc hc' ha hk)
      rw [List.length_append, List.length_append] at this
      omega
    rw [List.nodup_append]
    refine ⟨h1, by simp, fun x hx y hy => ?_⟩
    simp at hy
    subst hy
    rintro rfl
    obtain ⟨c', h2, h3⟩ := h.part x hx
    have := hs c' h2
    rw [List.length_append, List.length_singleton] at this
    omega

theorem S_nodup {l : List J} {days st : List Int} (hs : Stp l days st) {i k : Nat} (hi : i < l.length) (h : (S l days st i k).1 ≠ []) : (S l days st i k).1.Nodup ∧ (S l days st i k).1.length ≤ l.length := by
  obtain ⟨_, h2, h3⟩ := S_some hs hi h
  have hn := h2.nodup fun c' hc' => sle_len (h3 c' hc')
  refine ⟨hn, ?_⟩
  have := nodup_len _ (List.range l.length) hn fun x hx => List.mem_range.2 (h2.mem x hx).1
  simpa using this

/-- The second one of a shortest chain. -/
theorem S_split {l : List J} {days st : List Int} (hs : Stp l days st) {i k : Nat} (hi : i < l.length) (h : (S l days st i k).1 ≠ []) :
    ((S l days st i k).1 = [i] ∧ i = k) ∨ ∃ n c', (S l days st i k).1 = i :: c' ∧ n ≠ i ∧ fv l i n = true ∧ Ch l days (S l days st i k).2 n k c' ∧ k ≠ i := by
  obtain ⟨_, h2, h3⟩ := S_some hs hi h
  rcases h2.split with h4 | ⟨n, c', h4, h5, h6⟩
  · exact .inl h4
  · refine .inr ⟨n, c', h4, ?_, h5, h6, ?_⟩
    · rintro rfl
      have := sle_len (h3 c' h6)
      rw [h4] at this
      simp at this
      omega
    · rintro rfl
      have := sle_len (h3 [k] (.one h2.first))
      rw [h4] at this
      have h7 : 0 < c'.length := List.length_pos_iff.2 h6.ne_nil
      rw [List.length_cons, List.length_singleton] at this
      omega

/-- A neighbour's chain, one longer. -/
theorem S_over {l : List J} {days st : List Int} (hs : Stp l days st) {i n k : Nat} (hi : i < l.length) (hn : n < l.length) (hf : fv l i n = true) (h : (S l days st n k).1 ≠ []) :
    (S l days st i k).1 ≠ [] ∧ (S l days st i k).2 ≤ max (S l days st n k).2 (days.getD i 0) := by
  obtain ⟨_, h2, _⟩ := S_some hs hn h
  have h3 : Ch l days (max (S l days st n k).2 (days.getD i 0)) n k (S l days st n k).1 := h2.mono fun x _ hx => ⟨hx.1, Int.le_trans hx.2 (Int.le_max_left _ _)⟩
  exact S_of hs (.cons ⟨hi, Int.le_max_right _ _⟩ hf h3)

/-! ### The least of the later ones -/

def wantF (g : Nat → Bool) (v : Nat → Int) : Nat → Int
  | 0 => -1
  | n + 1 => if g n = true ∧ (wantF g v n < 0 ∨ v n < wantF g v n) then v n else wantF g v n

theorem wantF_spec (g : Nat → Bool) (v : Nat → Int) (hv : ∀ n, g n = true → 0 ≤ v n) : ∀ n, (wantF g v n = -1 ∧ ∀ j, j < n → g j = false) ∨ (∃ j, j < n ∧ g j = true ∧ wantF g v n = v j ∧ ∀ j', j' < n → g j' = true → v j ≤ v j')
  | 0 => .inl ⟨rfl, fun j hj => by omega⟩
  | n + 1 => by
    unfold wantF
    rcases wantF_spec g v hv n with ⟨h1, h2⟩ | ⟨j, h1, h2, h3, h4⟩
    · by_cases hg : g n = true
      · rw [if_pos ⟨hg, .inl (by omega)⟩]
        refine .inr ⟨n, by omega, hg, rfl, fun j' hj' hg' => ?_⟩
        by_cases e : j' = n
        · subst e; exact Int.le_refl _
        · have := h2 j' (by omega)
          rw [this] at hg'
          cases hg'
      · rw [if_neg (fun h => hg h.1)]
        refine .inl ⟨h1, fun j hj => ?_⟩
        by_cases e : j = n
        · subst e; simpa using hg
        · exact h2 j (by omega)
    · by_cases hg : g n = true
      · by_cases hlt : v n < wantF g v n
        · rw [if_pos ⟨hg, .inr hlt⟩]
          refine .inr ⟨n, by omega, hg, rfl, fun j' hj' hg' => ?_⟩
          by_cases e : j' = n
          · subst e; exact Int.le_refl _
          · have := h4 j' (by omega) hg'
            omega
        · have h0 := hv j h2
          rw [if_neg (fun h => by rcases h.2 with h | h <;> omega)]
          refine .inr ⟨j, by omega, h2, h3, fun j' hj' hg' => ?_⟩
          by_cases e : j' = n
          · subst e; omega
          · exact h4 j' (by omega) hg'
      · rw [if_neg (fun h => hg h.1)]
        refine .inr ⟨j, by omega, h2, h3, fun j' hj' hg' => ?_⟩
        by_cases e : j' = n
        · subst e; exact (hg hg').elim
        · exact h4 j' (by omega) hg'

/-- What FavourLeast asks. -/
theorem want_eq {l : List J} {days st : List Int} (hs : Stp l days st) (hd : okDays days) {i k : Nat} (hi : i < l.length) (hki : k ≠ i) :
    wantF (fun n => decide (n ≠ i ∧ 0 ≤ dayOf l days st n k ∧ fv l i n = true)) (fun n => max (dayOf l days st n k) (days.getD i 0)) l.length = dayOf l days st i k := by
  have hdi : 0 ≤ days.getD i 0 := (hd _ (fgetD_mem (by rw [hs.len]; exact hi))).1
  rcases wantF_spec (fun n => decide (n ≠ i ∧ 0 ≤ dayOf l days st n k ∧ fv l i n = true)) (fun n => max (dayOf l days st n k) (days.getD i 0)) (fun n _ => Int.le_trans hdi (Int.le_max_right _ _)) l.length with ⟨h1, h2⟩ | ⟨j, h1, h2, h3, h4⟩
  · rw [h1]
    by_cases hS : (S l days st i k).1 = []
    · unfold dayOf; rw [if_pos hS]
    · exfalso
      rcases S_split hs hi hS with ⟨_, e⟩ | ⟨n, c', _, hni, hf, hc, _⟩
      · exact hki e.symm
      · have hn := hc.first.1
        have := h2 n hn
        rw [decide_eq_false_iff_not] at this
        exact this ⟨hni, (dayOf_nonneg hs hd hn).2 (S_of hs hc).1, hf⟩
  · rw [h3]
    obtain ⟨g1, g2, g3⟩ := of_decide_eq_true h2
    have hSj := (dayOf_nonneg hs hd h1).1 g2
    obtain ⟨hS, hle⟩ := S_over hs hi h1 g3 hSj
    rw [dayOf_eq hS]
    rw [dayOf_eq hSj] at *
    refine Int.le_antisymm ?_ hle
    rcases S_split hs hi hS with ⟨_, e⟩ | ⟨n, c', _, hni, hf, hc, _⟩
    · exact (hki e.symm).elim
    · have hn := hc.first.1
      obtain ⟨hSn, hle2⟩ := S_of hs hc
      have h5 := h4 n hn (decide_eq_true ⟨hni, (dayOf_nonneg hs hd hn).2 hSn, hf⟩)
      have h6 := (S_some hs hi hS).2.1.first.2
      rw [dayOf_eq hSn] at h5
      have : max (S l days st n k).2 (days.getD i 0) ≤ (S l days st i k).2 := Int.max_le.2 ⟨hle2, h6⟩
      exact Int.le_trans h5 this

end Go.Proofs.Fav
