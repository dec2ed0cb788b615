import Derived.Test.YtglalejjcfcfkaaDoorOwnZ4
namespace Go.Proofs.YtglalejjcfcfkaaDoor
open Go.Own
set_option maxHeartbeats 1000000

/-! ### The ledger in plain words -/
structure Ent where
  id : Int
  day : Int
  frm : Int
  to : Int
  amt : Int
deriving DecidableEq
def e0 : Ent := ⟨0, 0, 0, 0, 0⟩
instance : Inhabited Ent := ⟨e0⟩

def inB (n a b : Int) : Bool := decide (a ≤ n) && decide (n ≤ b)
def rightE (e : Ent) : Bool := ((((inB e.id 0 1000000000000000 && inB e.day 0 200000) && inB e.frm 0 99999) && inB e.to 0 99999) && !decide (e.frm = e.to)) && inB e.amt 1 1000000000000000
theorem rightE_iff {e : Ent} : rightE e = true ↔ (0 ≤ e.id ∧ e.id ≤ 1000000000000000) ∧ (0 ≤ e.day ∧ e.day ≤ 200000) ∧ (0 ≤ e.frm ∧ e.frm ≤ 99999) ∧ (0 ≤ e.to ∧ e.to ≤ 99999) ∧ e.frm ≠ e.to ∧ (1 ≤ e.amt ∧ e.amt ≤ 1000000000000000) := by
  unfold rightE inB
  simp only [Bool.and_eq_true, Bool.not_eq_true', decide_eq_true_eq, decide_eq_false_iff_not, and_assoc]

def sumA : List Ent → Int
  | [] => 0
  | e :: l => e.amt + sumA l
theorem sumA_append : ∀ (a b : List Ent), sumA (a ++ b) = sumA a + sumA b
  | [], b => by simp [sumA]
  | e :: a, b => by
    show e.amt + sumA (a ++ b) = e.amt + sumA a + sumA b
    rw [sumA_append a b]
    omega
theorem sumA_ge : ∀ {l : List Ent}, (∀ e ∈ l, rightE e = true) → (l.length : Int) ≤ sumA l
  | [], _ => by simp [sumA]
  | e :: l, h => by
    have h1 := (rightE_iff.1 (h e List.mem_cons_self)).2.2.2.2.2
    have h2 := sumA_ge fun x hx => h x (List.mem_cons_of_mem _ hx)
    show ((l.length + 1 : Nat) : Int) ≤ e.amt + sumA l
    omega

/-- The entries are right, their numbers differ, and their amounts are together not too great. -/
structure OkL (l : List Ent) : Prop where
  right : ∀ e ∈ l, rightE e = true
  nd : (l.map (·.id)).Nodup
  sum : sumA l ≤ 4000000000000000000
instance (l : List Ent) : Decidable (OkL l) := decidable_of_iff ((∀ e ∈ l, rightE e = true) ∧ (l.map (·.id)).Nodup ∧ sumA l ≤ 4000000000000000000) ⟨fun h => ⟨h.1, h.2.1, h.2.2⟩, fun h => ⟨h.1, h.2, h.3⟩⟩
def validB (l : List Ent) : Bool := decide (l.length ≤ 10000) && decide (OkL l)
theorem okL_nil : OkL [] := ⟨fun e h => (by cases h), List.nodup_nil, by decide⟩
theorem OkL.left {a b : List Ent} (h : OkL (a ++ b)) : OkL a := by
  refine ⟨fun e he => h.right e (List.mem_append_left _ he), ?_, ?_⟩
  · have := h.nd
    rw [List.map_append] at this
    exact (List.nodup_append.1 this).1
  · have h1 := h.sum
    rw [sumA_append] at h1
    have := sumA_ge fun e he => h.right e (List.mem_append_right _ he)
    omega
theorem OkL.of_perm {a b : List Ent} (h : OkL a) (p : a.Perm b) : OkL b := by
  have hs : sumA a = sumA b := by
    clear h
    induction p with
    | nil => rfl
    | cons x _ ih => show x.amt + _ = x.amt + _; rw [ih]
    | swap x y l => show y.amt + (x.amt + _) = x.amt + (y.amt + _); omega
    | trans _ _ h1 h2 => rw [h1, h2]
  exact ⟨fun e he => h.right e (p.mem_iff.2 he), ((p.map _).nodup_iff).1 h.nd, by rw [← hs]; exact h.sum⟩
theorem OkL.rightPart {a b : List Ent} (h : OkL (a ++ b)) : OkL b := (h.of_perm List.perm_append_comm).left
theorem OkL.snoc {a : List Ent} {e : Ent} : OkL (a ++ [e]) ↔ OkL a ∧ rightE e = true ∧ (∀ x ∈ a, x.id ≠ e.id) ∧ e.amt ≤ 4000000000000000000 - sumA a := by
  constructor
  · intro h
    refine ⟨h.left, h.right e (by simp), fun x hx he => ?_, ?_⟩
    · have := h.nd
      rw [List.map_append] at this
      have := (List.nodup_append.1 this).2.2 x.id (List.mem_map.2 ⟨x, hx, rfl⟩) e.id (by simp)
      exact this he
    · have := h.sum
      rw [sumA_append] at this
      simp only [sumA] at this
      omega
  · rintro ⟨h, h1, h2, h3⟩
    refine ⟨fun x hx => ?_, ?_, ?_⟩
    · rcases List.mem_append.1 hx with hx | hx
      · exact h.right x hx
      · rw [List.mem_singleton] at hx
        rw [hx]; exact h1
    · rw [List.map_append]
      refine List.nodup_append.2 ⟨h.nd, by simp, fun x hx y hy => ?_⟩
      obtain ⟨z, hz, rfl⟩ := List.mem_map.1 hx
      simp at hy
      subst hy
      exact h2 z hz
    · rw [sumA_append]
      simp only [sumA]
      omega

/-! ### Balances -/
def bal : List Ent → Int → Int
  | [], _ => 0
  | e :: l, a => ((if e.to = a then e.amt else 0) - (if e.frm = a then e.amt else 0)) + bal l a
theorem bal_append : ∀ (x y : List Ent) (a : Int), bal (x ++ y) a = bal x a + bal y a
  | [], y, a => by simp [bal]
  | e :: x, y, a => by
    show _ + bal (x ++ y) a = _ + bal x a + bal y a
    rw [bal_append x y a]
    omega
theorem bal_perm {x y : List Ent} (p : x.Perm y) (a : Int) : bal x a = bal y a := by
  induction p with
  | nil => rfl
  | cons e _ ih => show _ + _ = _ + _; rw [ih]
  | swap u v l => show _ + (_ + _) = _ + (_ + _); omega
  | trans _ _ h1 h2 => rw [h1, h2]
theorem bal_bound : ∀ {l : List Ent}, (∀ e ∈ l, rightE e = true) → ∀ a, -sumA l ≤ bal l a ∧ bal l a ≤ sumA l
  | [], _, a => by simp [bal, sumA]
  | e :: l, h, a => by
    have h1 := rightE_iff.1 (h e List.mem_cons_self)
    have h2 := bal_bound (fun x hx => h x (List.mem_cons_of_mem _ hx)) a
    show -(e.amt + sumA l) ≤ _ + bal l a ∧ _ + bal l a ≤ e.amt + sumA l
    split <;> split <;> omega

def Mp := List (Int × Int)
def balStep (m : List (Int × Int)) (e : Ent) : List (Int × Int) :=
  mset (mset m e.frm ((mget m e.frm).getD 0 - e.amt)) e.to ((mget (mset m e.frm ((mget m e.frm).getD 0 - e.amt)) e.to).getD 0 + e.amt)
def balM (l : List Ent) : List (Int × Int) := l.foldl balStep []

theorem mget_mset {K V : Type} [DecidableEq K] (m : List (K × V)) (k k' : K) (x : V) : mget (mset m k x) k' = if k = k' then some x else mget m k' := by
  induction m with
  | nil => simp [mset, mget]
  | cons p m ih =>
    obtain ⟨a, b⟩ := p
    by_cases h : a = k
    · subst h
      by_cases h2 : a = k' <;> simp [mset, mget, h2]
    · by_cases h2 : a = k'
      · subst h2
        have h3 : ¬ k = a := fun e => h e.symm
        simp [mset, mget, h, h3]
      · simp [mset, mget, h, h2, ih]
theorem mset_key {K V : Type} [DecidableEq K] : ∀ {m : List (K × V)} {k : K} {x : V} {s : K}, s ∈ (mset m k x).map (·.1) ↔ s = k ∨ s ∈ m.map (·.1)
  | [], k, x, s => by simp [mset]
  | (a, v) :: m, k, x, s => by
    have ih := @mset_key K V _ m k x s
    unfold mset
    split
    · rename_i h
      subst h
      simp
    · rw [List.map_cons, List.mem_cons, ih, List.map_cons, List.mem_cons]
      constructor
      · rintro (h | h | h)
        · exact .inr (.inl h)
        · exact .inl h
        · exact .inr (.inr h)
      · rintro (h | h | h)
        · exact .inr (.inl h)
        · exact .inl h
        · exact .inr (.inr h)
theorem mset_nodup {K V : Type} [DecidableEq K] : ∀ {m : List (K × V)} {k : K} {x : V}, (m.map (·.1)).Nodup → ((mset m k x).map (·.1)).Nodup
  | [], k, x, h => by simp [mset]
  | (a, v) :: m, k, x, h => by
    rw [List.map_cons, List.nodup_cons] at h
    unfold mset
    split
    · rename_i e
      subst e
      rw [List.map_cons, List.nodup_cons]
      exact h
    · rename_i e
      rw [List.map_cons, List.nodup_cons, mset_key]
      refine ⟨?_, mset_nodup h.2⟩
      rintro (h1 | h1)
      · exact e h1
      · exact h.1 h1

theorem balM_snoc (l : List Ent) (e : Ent) : balM (l ++ [e]) = balStep (balM l) e := by
  unfold balM
  rw [List.foldl_append]
  rfl
theorem balStep_get (m : List (Int × Int)) (e : Ent) (a : Int) : (mget (balStep m e) a).getD 0 = (mget m a).getD 0 + ((if e.to = a then e.amt else 0) - (if e.frm = a then e.amt else 0)) := by
  unfold balStep
  simp only [mget_mset]
  by_cases h1 : e.to = a <;> by_cases h2 : e.frm = a
  · subst h1
    rw [if_pos rfl, if_pos h2, if_pos rfl, if_pos h2]
    simp [h2]
  · subst h1
    rw [if_pos rfl, if_neg h2, if_pos rfl, if_neg h2]
    simp
  · rw [if_neg h1, if_pos h2, if_neg h1, if_pos h2, h2]
    simp
    omega
  · rw [if_neg h1, if_neg h2, if_neg h1, if_neg h2]
    simp
theorem balM_get (l : List Ent) (a : Int) : (mget (balM l) a).getD 0 = bal l a := by
  have go : ∀ (l : List Ent) (m : List (Int × Int)), (mget (l.foldl balStep m) a).getD 0 = (mget m a).getD 0 + bal l a := by
    intro l
    induction l with
    | nil => intro m; simp [bal]
    | cons e l ih =>
      intro m
      rw [List.foldl_cons, ih, balStep_get]
      show _ = _ + (_ + bal l a)
      omega
  have := go l []
  unfold balM
  rw [this]
  simp [mget]
theorem balM_key (l : List Ent) (a : Int) : a ∈ (balM l).map (·.1) ↔ ∃ e ∈ l, e.frm = a ∨ e.to = a := by
  have go : ∀ (l : List Ent) (m : List (Int × Int)), a ∈ (l.foldl balStep m).map (·.1) ↔ a ∈ m.map (·.1) ∨ ∃ e ∈ l, e.frm = a ∨ e.to = a := by
    intro l
    induction l with
    | nil => intro m; simp
    | cons e l ih =>
      intro m
      rw [List.foldl_cons, ih]
      unfold balStep
      rw [mset_key, mset_key]
      constructor
      · rintro ((h | h | h) | ⟨x, hx, h⟩)
        · exact .inr ⟨e, List.mem_cons_self, .inr h.symm⟩
        · exact .inr ⟨e, List.mem_cons_self, .inl h.symm⟩
        · exact .inl h
        · exact .inr ⟨x, List.mem_cons_of_mem _ hx, h⟩
      · rintro (h | ⟨x, hx, h⟩)
        · exact .inl (.inr (.inr h))
        · rcases List.mem_cons.1 hx with e' | hx
          · subst e'
            rcases h with h | h
            · exact .inl (.inr (.inl h.symm))
            · exact .inl (.inl h.symm)
          · exact .inr ⟨x, hx, h⟩
  have := go l []
  unfold balM
  rw [this]
  simp
theorem balM_nodup (l : List Ent) : ((balM l).map (·.1)).Nodup := by
  have go : ∀ (l : List Ent) (m : List (Int × Int)), (m.map (·.1)).Nodup → ((l.foldl balStep m).map (·.1)).Nodup := by
    intro l
    induction l with
    | nil => intro m h; exact h
    | cons e l ih =>
      intro m h
      rw [List.foldl_cons]
      exact ih _ (mset_nodup (mset_nodup h))
  exact go l [] List.nodup_nil
theorem mset_len {V : Type} : ∀ (m : List (Int × V)) (k : Int) (x : V), (mset m k x).length ≤ m.length + 1
  | [], _, _ => Nat.le_refl _
  | (a, v) :: m, k, x => by
    unfold mset
    split
    · simp
    · have := mset_len m k x
      simp
      omega
theorem balM_len (l : List Ent) : (balM l).length ≤ 2 * l.length := by
  have go : ∀ (l : List Ent) (m : List (Int × Int)), (l.foldl balStep m).length ≤ m.length + 2 * l.length := by
    intro l
    induction l with
    | nil => intro m; simp
    | cons e l ih =>
      intro m
      rw [List.foldl_cons]
      have h1 := ih (balStep m e)
      have h2 : (balStep m e).length ≤ m.length + 2 := by
        unfold balStep
        have a1 := mset_len (mset m e.frm ((mget m e.frm).getD 0 - e.amt)) e.to ((mget (mset m e.frm ((mget m e.frm).getD 0 - e.amt)) e.to).getD 0 + e.amt)
        have a2 := mset_len m e.frm ((mget m e.frm).getD 0 - e.amt)
        omega
      rw [List.length_cons]
      omega
  have := go l []
  simpa [balM] using this

def balO (l : List Ent) (a : Int) : Int := if validB l = true then bal l a else 0
def accM (l : List Ent) : List (Int × Int) := if validB l = true then balM l else []
def accL (l : List Ent) : List Int := keysI (accM l)
theorem accM_get (l : List Ent) (a : Int) : (mget (accM l) a).getD 0 = balO l a := by
  unfold accM balO
  split
  · exact balM_get l a
  · rfl
theorem keysI_mem {V : Type} {m : List (Int × V)} {s : Int} : s ∈ keysI m ↔ s ∈ m.map (·.1) := by
  unfold keysI
  exact List.mem_mergeSort
theorem keysI_len {V : Type} (es : List (Int × V)) : (keysI es).length = es.length := by
  unfold keysI
  rw [List.length_mergeSort, List.length_map]
theorem keysI_sorted {m : List (Int × Int)} (hn : (m.map (·.1)).Nodup) : (keysI m).Pairwise (· < ·) := by
  unfold keysI
  have h1 : ((m.map (·.1)).mergeSort leI).Pairwise (fun a b => leI a b = true) := List.pairwise_mergeSort (fun a b c h1 h2 => by simp [leI] at *; omega) (fun a b => by simp [leI]; omega) _
  have h2 : ((m.map (·.1)).mergeSort leI).Nodup := (List.mergeSort_perm _ _).nodup_iff.2 hn
  refine (List.Pairwise.and h1 h2).imp ?_
  rintro a b ⟨h3, h4⟩
  simp [leI] at h3
  omega
theorem accL_sorted (l : List Ent) : (accL l).Pairwise (· < ·) := by
  unfold accL accM
  split
  · exact keysI_sorted (balM_nodup l)
  · exact keysI_sorted List.nodup_nil
theorem accL_mem {l : List Ent} (h : validB l = true) {a : Int} : a ∈ accL l ↔ ∃ e ∈ l, e.frm = a ∨ e.to = a := by
  unfold accL accM
  rw [if_pos h, keysI_mem, balM_key]
theorem accL_len (l : List Ent) : (accL l).length ≤ 2 * l.length := by
  unfold accL
  rw [keysI_len]
  unfold accM
  split
  · exact balM_len l
  · exact Nat.zero_le _

/-- The sum of the balances of some accounts. -/
def sumB (l : List Ent) (ks : List Int) : Int := (ks.map (bal l)).foldr (· + ·) 0
theorem sumB_nil (ks : List Int) : sumB [] ks = 0 := by
  induction ks with
  | nil => rfl
  | cons a ks ih => show bal [] a + sumB [] ks = 0; rw [ih]; rfl
theorem sumB_cons (e : Ent) (l : List Ent) (ks : List Int) (hn : ks.Nodup) : sumB (e :: l) ks = ((if e.to ∈ ks then e.amt else 0) - (if e.frm ∈ ks then e.amt else 0)) + sumB l ks := by
  induction ks with
  | nil => simp [sumB]
  | cons a ks ih =>
    rw [List.nodup_cons] at hn
    have h1 := ih hn.2
    show bal (e :: l) a + sumB (e :: l) ks = _ + (bal l a + sumB l ks)
    rw [h1]
    show ((if e.to = a then e.amt else 0) - (if e.frm = a then e.amt else 0)) + bal l a + _ = _
    by_cases c1 : e.to = a <;> by_cases c2 : e.frm = a
    · have d1 : e.to ∉ ks := by rw [c1]; exact hn.1
      have d2 : e.frm ∉ ks := by rw [c2]; exact hn.1
      simp [c1, c2, hn.1]
    · have d1 : e.to ∉ ks := by rw [c1]; exact hn.1
      rw [if_pos c1, if_neg c2, if_neg d1, if_pos (show e.to ∈ a :: ks by rw [c1]; exact List.mem_cons_self)]
      by_cases d2 : e.frm ∈ ks
      · rw [if_pos d2, if_pos (List.mem_cons_of_mem _ d2)]; omega
      · rw [if_neg d2, if_neg (by rw [List.mem_cons]; rintro (h | h); exact c2 h; exact d2 h)]; omega
    · have d2 : e.frm ∉ ks := by rw [c2]; exact hn.1
      rw [if_neg c1, if_pos c2, if_neg d2, if_pos (show e.frm ∈ a :: ks by rw [c2]; exact List.mem_cons_self)]
      by_cases d1 : e.to ∈ ks
      · rw [if_pos d1, if_pos (List.mem_cons_of_mem _ d1)]; omega
      · rw [if_neg d1, if_neg (by rw [List.mem_cons]; rintro (h | h); exact c1 h; exact d1 h)]; omega
    · rw [if_neg c1, if_neg c2]
      have f1 : (e.to ∈ a :: ks) ↔ e.to ∈ ks := by rw [List.mem_cons]; exact ⟨fun h => h.resolve_left c1, .inr⟩
      have f2 : (e.frm ∈ a :: ks) ↔ e.frm ∈ ks := by rw [List.mem_cons]; exact ⟨fun h => h.resolve_left c2, .inr⟩
      simp only [f1, f2]
      omega
theorem sumB_bound : ∀ {l : List Ent}, (∀ e ∈ l, rightE e = true) → ∀ ks : List Int, ks.Nodup → -sumA l ≤ sumB l ks ∧ sumB l ks ≤ sumA l
  | [], _, ks, _ => by rw [sumB_nil]; simp [sumA]
  | e :: l, h, ks, hn => by
    have h1 := rightE_iff.1 (h e List.mem_cons_self)
    have h2 := sumB_bound (fun x hx => h x (List.mem_cons_of_mem _ hx)) ks hn
    rw [sumB_cons _ _ _ hn]
    show -(e.amt + sumA l) ≤ _ ∧ _ ≤ e.amt + sumA l
    split <;> split <;> omega
theorem sumB_zero : ∀ {l : List Ent} {ks : List Int}, ks.Nodup → (∀ e ∈ l, e.frm ∈ ks ∧ e.to ∈ ks) → sumB l ks = 0
  | [], ks, _, _ => sumB_nil ks
  | e :: l, ks, hn, h => by
    have h1 := h e List.mem_cons_self
    rw [sumB_cons _ _ _ hn, if_pos h1.2, if_pos h1.1, sumB_zero hn fun x hx => h x (List.mem_cons_of_mem _ hx)]
    omega
theorem sumB_snoc (l : List Ent) (ks : List Int) (a : Int) : sumB l (ks ++ [a]) = sumB l ks + bal l a := by
  induction ks with
  | nil => show bal l a + 0 = 0 + bal l a; omega
  | cons b ks ih =>
    show bal l b + sumB l (ks ++ [a]) = bal l b + sumB l ks + bal l a
    rw [ih]
    omega

/-! ### Posting -/
/-- The place of the first with the number, or the length. -/
def placeE (l : List Ent) (i : Int) : Nat := l.findIdx (fun x => decide (x.id = i))
/-- The error that Post returns. -/
def postE (l : List Ent) (e : Ent) : Int :=
  if (!validB l || !rightE e) = true then 1
  else if placeE l e.id < l.length then (if l.getD (placeE l e.id) e0 = e then 5 else 24)
  else if validB (l ++ [e]) = true then 0 else 6

end Go.Proofs.YtglalejjcfcfkaaDoor
