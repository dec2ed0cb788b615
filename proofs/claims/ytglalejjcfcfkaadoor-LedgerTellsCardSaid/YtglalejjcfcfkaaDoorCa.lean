import Derived.Test.YtglalejjcfcfkaaDoorLc
import Derived.Shelf.Strconv.Itoa3
import Derived.Shelf.Strconv.AtoiAll
import Derived.Shelf.Small.Wraps
import Derived.Shelf.Small.Strs
import Derived.Ground.NamesProg
import Derived.KernelRfl
import Derived.Test.YtglalejjcfcfkaaDoorProg
import Derived.Shelf.SlIterI.Nil
import Derived.Shelf.SortM.Plain
import Derived.Shelf.SortM.SortNone
import Derived.Ground.GgzProg
import Derived.Ground.SlgmProg
import Derived.Lib.IndexLaws
import Derived.Lib.ItoaLen
import Derived.Lib.AtoiAllCases
namespace Go.Proofs.YtglalejjcfcfkaaDoor
open Go.Own
set_option maxHeartbeats 1000000

/-! ### The ledger in plain words -/
structure Ent where
  id : Int
  day : Int
  frm : Int
  to : Int
  amt : Int
deriving DecidableEq
def e0 : Ent := ⟨0, 0, 0, 0, 0⟩
instance : Inhabited Ent := ⟨e0⟩

def inB (n a b : Int) : Bool := decide (a ≤ n) && decide (n ≤ b)
def rightE (e : Ent) : Bool := ((((inB e.id 0 1000000000000000 && inB e.day 0 200000) && inB e.frm 0 99999) && inB e.to 0 99999) && !decide (e.frm = e.to)) && inB e.amt 1 1000000000000000
theorem rightE_iff {e : Ent} : rightE e = true ↔ (0 ≤ e.id ∧ e.id ≤ 1000000000000000) ∧ (0 ≤ e.day ∧ e.day ≤ 200000) ∧ (0 ≤ e.frm ∧ e.frm ≤ 99999) ∧ (0 ≤ e.to ∧ e.to ≤ 99999) ∧ e.frm ≠ e.to ∧ (1 ≤ e.amt ∧ e.amt ≤ 1000000000000000) := by
  unfold rightE inB
  simp only [Bool.and_eq_true, Bool.not_eq_true', decide_eq_true_eq, decide_eq_false_iff_not, and_assoc]

def sumA : List Ent → Int
  | [] => 0
  | e :: l => e.amt + sumA l
theorem sumA_append : ∀ (a b : List Ent), sumA (a ++ b) = sumA a + sumA b
  | [], b => by simp [sumA]
  | e :: a, b => by
    show e.amt + sumA (a ++ b) = e.amt + sumA a + sumA b
    rw [sumA_append a b]
    omega
theorem sumA_ge : ∀ {l : List Ent}, (∀ e ∈ l, rightE e = true) → (l.length : Int) ≤ sumA l
  | [], _ => by simp [sumA]
  | e :: l, h => by
    have h1 := (rightE_iff.1 (h e List.mem_cons_self)).2.2.2.2.2
    have h2 := sumA_ge fun x hx => h x (List.mem_cons_of_mem _ hx)
    show ((l.length + 1 : Nat) : Int) ≤ e.amt + sumA l
    omega

/-- The entries are right, their numbers differ, and their amounts are together not too great. -/
structure OkL (l : List Ent) : Prop where
  right : ∀ e ∈ l, rightE e = true
  nd : (l.map (·.id)).Nodup
  sum : sumA l ≤ 4000000000000000000
instance (l : List Ent) : Decidable (OkL l) := decidable_of_iff ((∀ e ∈ l, rightE e = true) ∧ (l.map (·.id)).Nodup ∧ sumA l ≤ 4000000000000000000) ⟨fun h => ⟨h.1, h.2.1, h.2.2⟩, fun h => ⟨h.1, h.2, h.3⟩⟩
def validB (l : List Ent) : Bool := decide (l.length ≤ 10000) && decide (OkL l)
theorem okL_nil : OkL [] := ⟨fun e h => (by cases h), List.nodup_nil, by decide⟩
theorem OkL.left {a b : List Ent} (h : OkL (a ++ b)) : OkL a := by
  refine ⟨fun e he => h.right e (List.mem_append_left _ he), ?_, ?_⟩
  · have := h.nd
    rw [List.map_append] at this
    exact (List.nodup_append.1 this).1
  · have h1 := h.sum
    rw [sumA_append] at h1
    have := sumA_ge fun e he => h.right e (List.mem_append_right _ he)
    omega
theorem OkL.of_perm {a b : List Ent} (h : OkL a) (p : a.Perm b) : OkL b := by
  have hs : sumA a = sumA b := by
    clear h
    induction p with
    | nil => rfl
    | cons x _ ih => show x.amt + _ = x.amt + _; rw [ih]
    | swap x y l => show y.amt + (x.amt + _) = x.amt + (y.amt + _); omega
    | trans _ _ h1 h2 => rw [h1, h2]
  exact ⟨fun e he => h.right e (p.mem_iff.2 he), ((p.map _).nodup_iff).1 h.nd, by rw [← hs]; exact h.sum⟩
theorem OkL.rightPart {a b : List Ent} (h : OkL (a ++ b)) : OkL b := (h.of_perm List.perm_append_comm).left
theorem OkL.snoc {a : List Ent} {e : Ent} : OkL (a ++ [e]) ↔ OkL a ∧ rightE e = true ∧ (∀ x ∈ a, x.id ≠ e.id) ∧ e.amt ≤ 4000000000000000000 - sumA a := by
  constructor
  · intro h
    refine ⟨h.left, h.right e (by simp), fun x hx he => ?_, ?_⟩
    · have := h.nd
      rw [List.map_append] at this
      have := (List.nodup_append.1 this).2.2 x.id (List.mem_map.2 ⟨x, hx, rfl⟩) e.id (by simp)
      exact this he
    · have := h.sum
      rw [sumA_append] at this
      simp only [sumA] at this
      omega
  · rintro ⟨h, h1, h2, h3⟩
    refine ⟨fun x hx => ?_, ?_, ?_⟩
    · rcases List.mem_append.1 hx with hx | hx
      · exact h.right x hx
      · rw [List.mem_singleton] at hx
        rw [hx]; exact h1
    · rw [List.map_append]
      refine List.nodup_append.2 ⟨h.nd, by simp, fun x hx y hy => ?_⟩
      obtain ⟨z, hz, rfl⟩ := List.mem_map.1 hx
      simp at hy
      subst hy
      exact h2 z hz
    · rw [sumA_append]
      simp only [sumA]
      omega

/-! ### Balances -/
def bal : List Ent → Int → Int
  | [], _ => 0
  | e :: l, a => ((if e.to = a then e.amt else 0) - (if e.frm = a then e.amt else 0)) + bal l a
theorem bal_append : ∀ (x y : List Ent) (a : Int), bal (x ++ y) a = bal x a + bal y a
  | [], y, a => by simp [bal]
  | e :: x, y, a => by
    show _ + bal (x ++ y) a = _ + bal x a + bal y a
    rw [bal_append x y a]
    omega
theorem bal_perm {x y : List Ent} (p : x.Perm y) (a : Int) : bal x a = bal y a := by
  induction p with
  | nil => rfl
  | cons e _ ih => show _ + _ = _ + _; rw [ih]
  | swap u v l => show _ + (_ + _) = _ + (_ + _); omega
  | trans _ _ h1 h2 => rw [h1, h2]
theorem bal_bound : ∀ {l : List Ent}, (∀ e ∈ l, rightE e = true) → ∀ a, -sumA l ≤ bal l a ∧ bal l a ≤ sumA l
  | [], _, a => by simp [bal, sumA]
  | e :: l, h, a => by
    have h1 := rightE_iff.1 (h e List.mem_cons_self)
    have h2 := bal_bound (fun x hx => h x (List.mem_cons_of_mem _ hx)) a
    show -(e.amt + sumA l) ≤ _ + bal l a ∧ _ + bal l a ≤ e.amt + sumA l
    split <;> split <;> omega

def Mp := List (Int × Int)
def balStep (m : List (Int × Int)) (e : Ent) : List (Int × Int) :=
  mset (mset m e.frm ((mget m e.frm).getD 0 - e.amt)) e.to ((mget (mset m e.frm ((mget m e.frm).getD 0 - e.amt)) e.to).getD 0 + e.amt)
def balM (l : List Ent) : List (Int × Int) := l.foldl balStep []

theorem mget_mset {K V : Type} [DecidableEq K] (m : List (K × V)) (k k' : K) (x : V) : mget (mset m k x) k' = if k = k' then some x else mget m k' := by
  induction m with
  | nil => simp [mset, mget]
  | cons p m ih =>
    obtain ⟨a, b⟩ := p
    by_cases h : a = k
    · subst h
      by_cases h2 : a = k' <;> simp [mset, mget, h2]
    · by_cases h2 : a = k'
      · subst h2
        have h3 : ¬ k = a := fun e => h e.symm
        simp [mset, mget, h, h3]
      · simp [mset, mget, h, h2, ih]
theorem mset_key {K V : Type} [DecidableEq K] : ∀ {m : List (K × V)} {k : K} {x : V} {s : K}, s ∈ (mset m k x).map (·.1) ↔ s = k ∨ s ∈ m.map (·.1)
  | [], k, x, s => by simp [mset]
  | (a, v) :: m, k, x, s => by
    have ih := @mset_key K V _ m k x s
    unfold mset
    split
    · rename_i h
      subst h
      simp
    · rw [List.map_cons, List.mem_cons, ih, List.map_cons, List.mem_cons]
      constructor
      · rintro (h | h | h)
        · exact .inr (.inl h)
        · exact .inl h
        · exact .inr (.inr h)
      · rintro (h | h | h)
        · exact .inr (.inl h)
        · exact .inl h
        · exact .inr (.inr h)
theorem mset_nodup {K V : Type} [DecidableEq K] : ∀ {m : List (K × V)} {k : K} {x : V}, (m.map (·.1)).Nodup → ((mset m k x).map (·.1)).Nodup
  | [], k, x, h => by simp [mset]
  | (a, v) :: m, k, x, h => by
    rw [List.map_cons, List.nodup_cons] at h
    unfold mset
    split
    · rename_i e
      subst e
      rw [List.map_cons, List.nodup_cons]
      exact h
    · rename_i e
      rw [List.map_cons, List.nodup_cons, mset_key]
      refine ⟨?_, mset_nodup h.2⟩
      rintro (h1 | h1)
      · exact e h1
      · exact h.1 h1

theorem balM_snoc (l : List Ent) (e : Ent) : balM (l ++ [e]) = balStep (balM l) e := by
  unfold balM
  rw [List.foldl_append]
  rfl
theorem balStep_get (m : List (Int × Int)) (e : Ent) (a : Int) : (mget (balStep m e) a).getD 0 = (mget m a).getD 0 + ((if e.to = a then e.amt else 0) - (if e.frm = a then e.amt else 0)) := by
  unfold balStep
  simp only [mget_mset]
  by_cases h1 : e.to = a <;> by_cases h2 : e.frm = a
  · subst h1
    rw [if_pos rfl, if_pos h2, if_pos rfl, if_pos h2]
    simp [h2]
  · subst h1
    rw [if_pos rfl, if_neg h2, if_pos rfl, if_neg h2]
    simp
  · rw [if_neg h1, if_pos h2, if_neg h1, if_pos h2, h2]
    simp
    omega
  · rw [if_neg h1, if_neg h2, if_neg h1, if_neg h2]
    simp
theorem balM_get (l : List Ent) (a : Int) : (mget (balM l) a).getD 0 = bal l a := by
  have go : ∀ (l : List Ent) (m : List (Int × Int)), (mget (l.foldl balStep m) a).getD 0 = (mget m a).getD 0 + bal l a := by
    intro l
    induction l with
    | nil => intro m; simp [bal]
    | cons e l ih =>
      intro m
      rw [List.foldl_cons, ih, balStep_get]
      show _ = _ + (_ + bal l a)
      omega
  have := go l []
  unfold balM
  rw [this]
  simp [mget]
theorem balM_key (l : List Ent) (a : Int) : a ∈ (balM l).map (·.1) ↔ ∃ e ∈ l, e.frm = a ∨ e.to = a := by
  have go : ∀ (l : List Ent) (m : List (Int × Int)), a ∈ (l.foldl balStep m).map (·.1) ↔ a ∈ m.map (·.1) ∨ ∃ e ∈ l, e.frm = a ∨ e.to = a := by
    intro l
    induction l with
    | nil => intro m; simp
    | cons e l ih =>
      intro m
      rw [List.foldl_cons, ih]
      unfold balStep
      rw [mset_key, mset_key]
      constructor
      · rintro ((h | h | h) | ⟨x, hx, h⟩)
        · exact .inr ⟨e, List.mem_cons_self, .inr h.symm⟩
        · exact .inr ⟨e, List.mem_cons_self, .inl h.symm⟩
        · exact .inl h
        · exact .inr ⟨x, List.mem_cons_of_mem _ hx, h⟩
      · rintro (h | ⟨x, hx, h⟩)
        · exact .inl (.inr (.inr h))
        · rcases List.mem_cons.1 hx with e' | hx
          · subst e'
            rcases h with h | h
            · exact .inl (.inr (.inl h.symm))
            · exact .inl (.inl h.symm)
          · exact .inr ⟨x, hx, h⟩
  have := go l []
  unfold balM
  rw [this]
  simp
theorem balM_nodup (l : List Ent) : ((balM l).map (·.1)).Nodup := by
  have go : ∀ (l : List Ent) (m : List (Int × Int)), (m.map (·.1)).Nodup → ((l.foldl balStep m).map (·.1)).Nodup := by
    intro l
    induction l with
    | nil => intro m h; exact h
    | cons e l ih =>
      intro m h
      rw [List.foldl_cons]
      exact ih _ (mset_nodup (mset_nodup h))
  exact go l [] List.nodup_nil
theorem mset_len {V : Type} : ∀ (m : List (Int × V)) (k : Int) (x : V), (mset m k x).length ≤ m.length + 1
  | [], _, _ => Nat.le_refl _
  | (a, v) :: m, k, x => by
    unfold mset
    split
    · simp
    · have := mset_len m k x
      simp
      omega
theorem balM_len (l : List Ent) : (balM l).length ≤ 2 * l.length := by
  have go : ∀ (l : List Ent) (m : List (Int × Int)), (l.foldl balStep m).length ≤ m.length + 2 * l.length := by
    intro l
    induction l with
    | nil => intro m; simp
    | cons e l ih =>
      intro m
      rw [List.foldl_cons]
      have h1 := ih (balStep m e)
      have h2 : (balStep m e).length ≤ m.length + 2 := by
        unfold balStep
        have a1 := mset_len (mset m e.frm ((mget m e.frm).getD 0 - e.amt)) e.to ((mget (mset m e.frm ((mget m e.frm).getD 0 - e.amt)) e.to).getD 0 + e.amt)
        have a2 := mset_len m e.frm ((mget m e.frm).getD 0 - e.amt)
        omega
      rw [List.length_cons]
      omega
  have := go l []
  simpa [balM] using this

def balO (l : List Ent) (a : Int) : Int := if validB l = true then bal l a else 0
def accM (l : List Ent) : List (Int × Int) := if validB l = true then balM l else []
def accL (l : List Ent) : List Int := keysI (accM l)
theorem accM_get (l : List Ent) (a : Int) : (mget (accM l) a).getD 0 = balO l a := by
  unfold accM balO
  split
  · exact balM_get l a
  · rfl
theorem keysI_mem {V : Type} {m : List (Int × V)} {s : Int} : s ∈ keysI m ↔ s ∈ m.map (·.1) := by
  unfold keysI
  exact List.mem_mergeSort
theorem keysI_len {V : Type} (es : List (Int × V)) : (keysI es).length = es.length := by
  unfold keysI
  rw [List.length_mergeSort, List.length_map]
theorem keysI_sorted {m : List (Int × Int)} (hn : (m.map (·.1)).Nodup) : (keysI m).Pairwise (· < ·) := by
  unfold keysI
  have h1 : ((m.map (·.1)).mergeSort leI).Pairwise (fun a b => leI a b = true) := List.pairwise_mergeSort (fun a b c h1 h2 => by simp [leI] at *; omega) (fun a b => by simp [leI]; omega) _
  have h2 : ((m.map (·.1)).mergeSort leI).Nodup := (List.mergeSort_perm _ _).nodup_iff.2 hn
  refine (List.Pairwise.and h1 h2).imp ?_
  rintro a b ⟨h3, h4⟩
  simp [leI] at h3
  omega
theorem accL_sorted (l : List Ent) : (accL l).Pairwise (· < ·) := by
  unfold accL accM
  split
  · exact keysI_sorted (balM_nodup l)
  · exact keysI_sorted List.nodup_nil
theorem accL_mem {l : List Ent} (h : validB l = true) {a : Int} : a ∈ accL l ↔ ∃ e ∈ l, e.frm = a ∨ e.to = a := by
  unfold accL accM
  rw [if_pos h, keysI_mem, balM_key]
theorem accL_len (l : List Ent) : (accL l).length ≤ 2 * l.length := by
  unfold accL
  rw [keysI_len]
  unfold accM
  split
  · exact balM_len l
  · exact Nat.zero_le _

/-- The sum of the balances of some accounts. -/
def sumB (l : List Ent) (ks : List Int) : Int := (ks.map (bal l)).foldr (· + ·) 0
theorem sumB_nil (ks : List Int) : sumB [] ks = 0 := by
  induction ks with
  | nil => rfl
  | cons a ks ih => show bal [] a + sumB [] ks = 0; rw [ih]; rfl
theorem sumB_cons (e : Ent) (l : List Ent) (ks : List Int) (hn : ks.Nodup) : sumB (e :: l) ks = ((if e.to ∈ ks then e.amt else 0) - (if e.frm ∈ ks then e.amt else 0)) + sumB l ks := by
  induction ks with
  | nil => simp [sumB]
  | cons a ks ih =>
    rw [List.nodup_cons] at hn
    have h1 := ih hn.2
    show bal (e :: l) a + sumB (e :: l) ks = _ + (bal l a + sumB l ks)
    rw [h1]
    show ((if e.to = a then e.amt else 0) - (if e.frm = a then e.amt else 0)) + bal l a + _ = _
    by_cases c1 : e.to = a <;> by_cases c2 : e.frm = a
    · have d1 : e.to ∉ ks := by rw [c1]; exact hn.1
      have d2 : e.frm ∉ ks := by rw [c2]; exact hn.1
      simp [c1, c2, hn.1]
    · have d1 : e.to ∉ ks := by rw [c1]; exact hn.1
      rw [if_pos c1, if_neg c2, if_neg d1, if_pos (show e.to ∈ a :: ks by rw [c1]; exact List.mem_cons_self)]
      by_cases d2 : e.frm ∈ ks
      · rw [if_pos d2, if_pos (List.mem_cons_of_mem _ d2)]; omega
      · rw [if_neg d2, if_neg (by rw [List.mem_cons]; rintro (h | h); exact c2 h; exact d2 h)]; omega
    · have d2 : e.frm ∉ ks := by rw [c2]; exact hn.1
      rw [if_neg c1, if_pos c2, if_neg d2, if_pos (show e.frm ∈ a :: ks by rw [c2]; exact List.mem_cons_self)]
      by_cases d1 : e.to ∈ ks
      · rw [if_pos d1, if_pos (List.mem_cons_of_mem _ d1)]; omega
      · rw [if_neg d1, if_neg (by rw [List.mem_cons]; rintro (h | h); exact c1 h; exact d1 h)]; omega
    · rw [if_neg c1, if_neg c2]
      have f1 : (e.to ∈ a :: ks) ↔ e.to ∈ ks := by rw [List.mem_cons]; exact ⟨fun h => h.resolve_left c1, .inr⟩
      have f2 : (e.frm ∈ a :: ks) ↔ e.frm ∈ ks := by rw [List.mem_cons]; exact ⟨fun h => h.resolve_left c2, .inr⟩
      simp only [f1, f2]
      omega
theorem sumB_bound : ∀ {l : List Ent}, (∀ e ∈ l, rightE e = true) → ∀ ks : List Int, ks.Nodup → -sumA l ≤ sumB l ks ∧ sumB l ks ≤ sumA l
  | [], _, ks, _ => by rw [sumB_nil]; simp [sumA]
  | e :: l, h, ks, hn => by
    have h1 := rightE_iff.1 (h e List.mem_cons_self)
    have h2 := sumB_bound (fun x hx => h x (List.mem_cons_of_mem _ hx)) ks hn
    rw [sumB_cons _ _ _ hn]
    show -(e.amt + sumA l) ≤ _ ∧ _ ≤ e.amt + sumA l
    split <;> split <;> omega
theorem sumB_zero : ∀ {l : List Ent} {ks : List Int}, ks.Nodup → (∀ e ∈ l, e.frm ∈ ks ∧ e.to ∈ ks) → sumB l ks = 0
  | [], ks, _, _ => sumB_nil ks
  | e :: l, ks, hn, h => by
    have h1 := h e List.mem_cons_self
    rw [sumB_cons _ _ _ hn, if_pos h1.2, if_pos h1.1, sumB_zero hn fun x hx => h x (List.mem_cons_of_mem _ hx)]
    omega
theorem sumB_snoc (l : List Ent) (ks : List Int) (a : Int) : sumB l (ks ++ [a]) = sumB l ks + bal l a := by
  induction ks with
  | nil => show bal l a + 0 = 0 + bal l a; omega
  | cons b ks ih =>
    show bal l b + sumB l (ks ++ [a]) = bal l b + sumB l ks + bal l a
    rw [ih]
    omega

/-! ### Posting -/
/-- The place of the first with the number, or the length. -/
def placeE (l : List Ent) (i : Int) : Nat := l.findIdx (fun x => decide (x.id = i))
/-- The error that Post returns. -/
def postE (l : List Ent) (e : Ent) : Int :=
  if (!validB l || !rightE e) = true then 1
  else if placeE l e.id < l.length then (if l.getD (placeE l e.id) e0 = e then 5 else 24)
  else if validB (l ++ [e]) = true then 0 else 6

end Go.Proofs.YtglalejjcfcfkaaDoor

namespace Go.Proofs.YtglalejjcfcfkaaDoor
open Go.Own
set_option maxHeartbeats 1000000

theorem validB_iff {l : List Ent} : validB l = true ↔ l.length ≤ 10000 ∧ OkL l := by
  unfold validB
  rw [Bool.and_eq_true, decide_eq_true_eq, decide_eq_true_eq]
theorem valid_nil : validB [] = true := validB_iff.2 ⟨Nat.zero_le _, okL_nil⟩

/-! ### LedgerSums -/
theorem placeE_lt {l : List Ent} {i : Int} : placeE l i < l.length ↔ ∃ x ∈ l, x.id = i := by
  unfold placeE
  rw [List.findIdx_lt_length]
  simp
theorem post_ok {l : List Ent} {e : Ent} (h : postE l e = 0) : validB l = true ∧ rightE e = true ∧ validB (l ++ [e]) = true := by
  unfold postE at h
  split at h
  · omega
  · rename_i h1
    simp only [Bool.or_eq_true, Bool.not_eq_true', not_or, Bool.not_eq_false] at h1
    split at h
    · split at h <;> omega
    · split at h
      · rename_i h2
        exact ⟨h1.1, h1.2, h2⟩
      · omega
theorem bal_snoc (l : List Ent) (e : Ent) (a : Int) : bal (l ++ [e]) a = bal l a + ((if e.to = a then e.amt else 0) - (if e.frm = a then e.amt else 0)) := by
  rw [bal_append]
  show bal l a + (_ + 0) = _
  omega
theorem sums_plain {l : List Ent} {e : Ent} (h : postE l e = 0) :
    (∀ a, balO (l ++ [e]) a = balO l a + ((if e.to = a then e.amt else 0) - (if e.frm = a then e.amt else 0))) ∧
    (∀ k, -4000000000000000000 ≤ sumB (l ++ [e]) ((accL (l ++ [e])).take k) ∧ sumB (l ++ [e]) ((accL (l ++ [e])).take k) ≤ 4000000000000000000) ∧
    sumB (l ++ [e]) (accL (l ++ [e])) = 0 ∧ (∀ a, -4000000000000000000 ≤ balO l a ∧ balO l a ≤ 4000000000000000000) ∧ (1 ≤ e.amt ∧ e.amt ≤ 1000000000000000) ∧ (∀ a, balO (l ++ [e]) a = bal (l ++ [e]) a) := by
  obtain ⟨h1, h2, h3⟩ := post_ok h
  have o1 := (validB_iff.1 h1).2
  have o3 := (validB_iff.1 h3).2
  have hn : (accL (l ++ [e])).Nodup := (accL_sorted _).imp fun h => by omega
  have s3 := o3.sum
  have s1 := o1.sum
  have hz := sumA_ge o3.right
  have hz1 := sumA_ge o1.right
  refine ⟨fun a => ?_, fun k => ?_, ?_, fun a => ?_, (rightE_iff.1 h2).2.2.2.2.2, fun a => ?_⟩
  · unfold balO
    rw [if_pos h1, if_pos h3, bal_snoc]
  · have := sumB_bound o3.right ((accL (l ++ [e])).take k) (List.Sublist.nodup (List.take_sublist _ _) hn)
    omega
  · refine sumB_zero hn fun x hx => ⟨?_, ?_⟩
    · rw [accL_mem h3]; exact ⟨x, hx, .inl rfl⟩
    · rw [accL_mem h3]; exact ⟨x, hx, .inr rfl⟩
  · unfold balO
    rw [if_pos h1]
    have := bal_bound o1.right a
    omega
  · unfold balO
    rw [if_pos h3]

/-! ### LedgerOnce -/
def sameB (l : List Ent) (x : Ent) : Bool := l.any (fun y => decide (y = x))
def otherB (l : List Ent) (x : Ent) : Bool := l.any (fun y => decide (y.id = x.id) && !decide (y = x))
theorem once_plain {l : List Ent} {x : Ent} (h : validB l = true) :
    decide (postE l x = 1) = !rightE x ∧ (rightE x = true → decide (postE l x = 5) = sameB l x ∧ decide (postE l x = 24) = otherB l x) := by
  have ok := (validB_iff.1 h).2
  unfold postE
  rw [h, Bool.not_true, Bool.false_or]
  cases hr : rightE x with
  | false => exact ⟨rfl, fun h => by cases h⟩
  | true =>
    rw [Bool.not_true, if_neg Bool.noConfusion]
    have uni : ∀ y ∈ l, ∀ z ∈ l, y.id = z.id → y = z := fun y hy z hz e => by
      obtain ⟨i, hi, rfl⟩ := List.getElem_of_mem hy
      obtain ⟨j, hj, rfl⟩ := List.getElem_of_mem hz
      have hp := List.pairwise_iff_getElem.1 ok.nd
      rcases Nat.lt_trichotomy i j with hlt | heq | hgt
      · have := hp i j (by simpa using hi) (by simpa using hj) hlt
        simp at this
        exact absurd e this
      · subst heq; rfl
      · have := hp j i (by simpa using hj) (by simpa using hi) hgt
        simp at this
        exact absurd e.symm this
    by_cases hp : placeE l x.id < l.length
    · rw [if_pos hp]
      have hm := getD_mem (d := e0) hp
      have hid : (l.getD (placeE l x.id) e0).id = x.id := by
        have hx := List.findIdx_getElem (p := fun y : Ent => decide (y.id = x.id)) (xs := l) (w := hp)
        have : l.getD (placeE l x.id) e0 = l[placeE l x.id] := by rw [List.getD_eq_getElem?_getD, List.getElem?_eq_getElem hp]; rfl
        rw [this]
        exact of_decide_eq_true hx
      generalize l.getD (placeE l x.id) e0 = y at *
      by_cases e : y = x
      · rw [if_pos e]
        subst e
        refine ⟨rfl, fun _ => ⟨?_, ?_⟩⟩
        · have : sameB l y = true := List.any_eq_true.2 ⟨y, hm, by simp⟩
          rw [this]; rfl
        · have : otherB l y = false := by
            cases ho : otherB l y with
            | false => rfl
            | true =>
              obtain ⟨z, hz, h2⟩ := List.any_eq_true.1 ho
              simp only [Bool.and_eq_true, Bool.not_eq_true', decide_eq_true_eq, decide_eq_false_iff_not] at h2
              exact absurd (uni z hz y hm h2.1) h2.2
          rw [this]; rfl
      · rw [if_neg e]
        refine ⟨rfl, fun _ => ⟨?_, ?_⟩⟩
        · have : sameB l x = false := by
            cases ho : sameB l x with
            | false => rfl
            | true =>
              obtain ⟨z, hz, h2⟩ := List.any_eq_true.1 ho
              rw [decide_eq_true_eq] at h2
              subst h2
              exact absurd (uni y hm z hz hid) e
          rw [this]; rfl
        · have : otherB l x = true := List.any_eq_true.2 ⟨y, hm, by simp [hid, e]⟩
          rw [this]; rfl
    · rw [if_neg hp]
      have hno : ∀ z ∈ l, z.id ≠ x.id := fun z hz e => hp (placeE_lt.2 ⟨z, hz, e⟩)
      have s1 : sameB l x = false := by
        cases ho : sameB l x with
        | false => rfl
        | true =>
          obtain ⟨z, hz, h2⟩ := List.any_eq_true.1 ho
          rw [decide_eq_true_eq] at h2
          subst h2
          exact absurd rfl (hno z hz)
      have s2 : otherB l x = false := by
        cases ho : otherB l x with
        | false => rfl
        | true =>
          obtain ⟨z, hz, h2⟩ := List.any_eq_true.1 ho
          simp only [Bool.and_eq_true, decide_eq_true_eq] at h2
          exact absurd h2.1 (hno z hz)
      rw [s1, s2]
      split
      · exact ⟨rfl, fun _ => ⟨rfl, rfl⟩⟩
      · exact ⟨rfl, fun _ => ⟨rfl, rfl⟩⟩

/-! ### LedgerTurns -/
theorem valid_perm {a b : List Ent} (h : validB a = true) (p : a.Perm b) : validB b = true := by
  rw [validB_iff] at h ⊢
  exact ⟨by rw [← p.length_eq]; exact h.1, h.2.of_perm p⟩
theorem valid_left {a b : List Ent} (h : validB (a ++ b) = true) : validB a = true ∧ validB b = true := by
  rw [validB_iff] at h
  rw [List.length_append] at h
  exact ⟨validB_iff.2 ⟨by omega, h.2.left⟩, validB_iff.2 ⟨by omega, h.2.rightPart⟩⟩
theorem asc_eq : ∀ {a b : List Int}, a.Pairwise (· < ·) → b.Pairwise (· < ·) → (∀ x, x ∈ a ↔ x ∈ b) → a = b
  | [], [], _, _, _ => rfl
  | [], y :: b, _, _, h => by
    have := (h y).2 List.mem_cons_self
    cases this
  | x :: a, [], _, _, h => by
    have := (h x).1 List.mem_cons_self
    cases this
  | x :: a, y :: b, h1, h2, h => by
    rw [List.pairwise_cons] at h1 h2
    have hxy : x = y := by
      rcases List.mem_cons.1 ((h x).1 List.mem_cons_self) with e | hx
      · exact e
      · rcases List.mem_cons.1 ((h y).2 List.mem_cons_self) with e | hy
        · exact e.symm
        · have := h2.1 x hx
          have := h1.1 y hy
          omega
    subst hxy
    congr 1
    refine asc_eq h1.2 h2.2 fun c => ?_
    constructor
    · intro hc
      rcases List.mem_cons.1 ((h c).1 (List.mem_cons_of_mem _ hc)) with e | h3
      · subst e
        have := h1.1 c hc
        omega
      · exact h3
    · intro hc
      rcases List.mem_cons.1 ((h c).2 (List.mem_cons_of_mem _ hc)) with e | h3
      · subst e
        have := h2.1 c hc
        omega
      · exact h3
theorem turns_plain {l : List Ent} (h : validB l = true) (k : Nat) (a : Int) :
    validB (l.drop k ++ l.take k) = true ∧ balO (l.drop k ++ l.take k) a = balO l a ∧ accL (l.drop k ++ l.take k) = accL l ∧ balO (l.take k) a + balO (l.drop k) a = balO l a ∧ (∀ m : List Ent, -4000000000000000000 ≤ balO m a ∧ balO m a ≤ 4000000000000000000) := by
  have p : l.Perm (l.drop k ++ l.take k) := by
    have := List.perm_append_comm (l₁ := l.take k) (l₂ := l.drop k)
    rwa [List.take_append_drop] at this
  have hv := valid_perm h p
  have hs : validB (l.take k) = true ∧ validB (l.drop k) = true := valid_left (by rw [List.take_append_drop]; exact h)
  refine ⟨hv, ?_, ?_, ?_, fun m => ?_⟩
  · unfold balO
    rw [if_pos hv, if_pos h, bal_perm p]
  · refine asc_eq (accL_sorted _) (accL_sorted _) fun x => ?_
    rw [accL_mem hv, accL_mem h]
    constructor
    · rintro ⟨e, he, h⟩
      exact ⟨e, p.mem_iff.2 he, h⟩
    · rintro ⟨e, he, h⟩
      exact ⟨e, p.mem_iff.1 he, h⟩
  · unfold balO
    rw [if_pos hs.1, if_pos hs.2, if_pos h, ← bal_append, List.take_append_drop]
  · unfold balO
    split
    · rename_i hm
      have o := (validB_iff.1 hm).2
      have := bal_bound o.right a
      have := o.sum
      omega
    · omega

end Go.Proofs.YtglalejjcfcfkaaDoor

/-
  DERIVED: THE SHELF's CONTRACTS AT THIS DUMP, IN PLAIN WORDS (tools/lay-plain.mjs out of 'LgShelf1.lean', which tools/lay-shelf.mjs wrote): THE SAME DECLARATIONS UNDER THE SAME NAMES: 'import', 'namespace', 'open', 'def', 'theorem' AND NOTHING ELSE: no command of the shelf's: FOR A HAND-IN. Each laying: the table of numbers ('.._ren') and one theorem, a field a fact of the dump's own or the kernel's comparison; each contract: ONE APPLICATION.
-/
namespace Go.Proofs.YtglalejjcfcfkaaDoor
open Go.Proofs Go.Shelf
def Tryd.itoaB_ren : Go.Shelf.Ren := ⟨fun | 171 => 55 | 243 => 73 | 246 => 87 | 283 => 92 | 284 => 93 | 285 => 94 | 286 => 95 | 129 => 69 | 317 => 98 | 318 => 99 | 319 => 100 | 320 => 101 | 337 => 102 | 338 => 103 | n => n, fun | 3 => 3 | 9 => 9 | 2 => 2 | 4 => 4 | 171 => 115 | 0 => 0 | 53 => 90 | 37 => 93 | 5 => 5 | 173 => 117 | 212 => 127 | 51 => 88 | 20 => 20 | 213 => 128 | 46 => 72 | 232 => 129 | 233 => 130 | n => n, fun | 17 => 3 | 18 => 4 | 19 => 5 | n => n⟩
theorem Tryd.itoaB : Go.Proofs.LaysM.n171 Tryd.prog Tryd.itoaB_ren := {
  mixed := by kernel_rfl
  f129 := Tryd.func69.trans (congrArg some (by kernel_rfl))
  f171 := Tryd.func55.trans (congrArg some (by kernel_rfl))
  f243 := Tryd.func73.trans (congrArg some (by kernel_rfl))
  f246 := Tryd.func87.trans (congrArg some (by kernel_rfl))
  f283 := Tryd.func92.trans (congrArg some (by kernel_rfl))
  f284 := Tryd.func93.trans (congrArg some (by kernel_rfl))
  f285 := Tryd.func94.trans (congrArg some (by kernel_rfl))
  f286 := Tryd.func95.trans (congrArg some (by kernel_rfl))
  f317 := Tryd.func98.trans (congrArg some (by kernel_rfl))
  f318 := Tryd.func99.trans (congrArg some (by kernel_rfl))
  f319 := Tryd.func100.trans (congrArg some (by kernel_rfl))
  f320 := Tryd.func101.trans (congrArg some (by kernel_rfl))
  f337 := Tryd.func102.trans (congrArg some (by kernel_rfl))
  f338 := Tryd.func103.trans (congrArg some (by kernel_rfl))
  t0 := Tryd.underlying0
  a0 := Tryd.isAgg0
  z0 := Tryd.sizeOf0
  v0 := Tryd.zeroValue0
  t2 := Tryd.underlying2
  a2 := Tryd.isAgg2
  z2 := Tryd.sizeOf2
  v2 := Tryd.zeroValue2
  t3 := Tryd.underlying3
  a3 := Tryd.isAgg3
  z3 := Tryd.sizeOf3
  v3 := Tryd.zeroValue3
  t4 := Tryd.underlying4
  a4 := Tryd.isAgg4
  z4 := Tryd.sizeOf4
  v4 := Tryd.zeroValue4
  t5 := Tryd.underlying5
  a5 := Tryd.isAgg5
  z5 := Tryd.sizeOf5
  v5 := Tryd.zeroValue5
  t9 := Tryd.underlying9
  a9 := Tryd.isAgg9
  z9 := Tryd.sizeOf9
  v9 := Tryd.zeroValue9
  t20 := Tryd.underlying20
  a20 := Tryd.isAgg20
  z20 := Tryd.sizeOf20
  v20 := Tryd.zeroValue20
  t37 := Tryd.underlying93
  a37 := Tryd.isAgg93
  z37 := Tryd.sizeOf93
  v37 := Tryd.zeroValue93
  t46 := Tryd.underlying72
  a46 := Tryd.isAgg72
  z46 := Tryd.sizeOf72
  v46 := Tryd.zeroValue72
  t51 := Tryd.underlying88
  a51 := Tryd.isAgg88
  z51 := Tryd.sizeOf88
  v51 := Tryd.zeroValue88
  t53 := Tryd.underlying90
  a53 := Tryd.isAgg90
  z53 := Tryd.sizeOf90
  v53 := Tryd.zeroValue90
  t171 := Tryd.underlying115
  a171 := Tryd.isAgg115
  z171 := Tryd.sizeOf115
  v171 := Tryd.zeroValue115
  t173 := Tryd.underlying117
  a173 := Tryd.isAgg117
  z173 := Tryd.sizeOf117
  v173 := Tryd.zeroValue117
  t212 := Tryd.underlying127
  a212 := Tryd.isAgg127
  z212 := Tryd.sizeOf127
  v212 := Tryd.zeroValue127
  t213 := Tryd.underlying128
  a213 := Tryd.isAgg128
  z213 := Tryd.sizeOf128
  t232 := Tryd.underlying129
  a232 := Tryd.isAgg129
  z232 := Tryd.sizeOf129
  v232 := Tryd.zeroValue129
  t233 := Tryd.underlying130
  a233 := Tryd.isAgg130
  z233 := Tryd.sizeOf130
  v233 := Tryd.zeroValue130
  g17 := by kernel_rfl
  g18 := by kernel_rfl
  g19 := by kernel_rfl
  i0 := by kernel_rfl
  i2 := by kernel_rfl
  i3 := by kernel_rfl
  i4 := by kernel_rfl
  i5 := by kernel_rfl
  i9 := by kernel_rfl
  i20 := by kernel_rfl
  i37 := by kernel_rfl
  i46 := by kernel_rfl
  i51 := by kernel_rfl
  i53 := by kernel_rfl
  i171 := by kernel_rfl
  i173 := by kernel_rfl
  i212 := by kernel_rfl
  i232 := by kernel_rfl
  i233 := by kernel_rfl
  m17 := by kernel_rfl
  m18 := by kernel_rfl
  m19 := by kernel_rfl }
def Tryd.atoiA_ren : Go.Shelf.Ren := ⟨fun | 172 => 54 | 244 => 71 | 245 => 72 | 247 => 82 | 279 => 83 | 280 => 84 | 281 => 85 | 282 => 86 | 287 => 89 | 316 => 90 | 171 => 55 | 205 => 91 | 321 => 96 | 322 => 97 | 243 => 73 | 246 => 87 | 283 => 92 | 284 => 93 | 285 => 94 | 286 => 95 | 129 => 69 | 317 => 98 | 318 => 99 | 319 => 100 | 320 => 101 | 337 => 102 | 338 => 103 | n => n, fun | 9 => 9 | 3 => 3 | 75 => 75 | 76 => 76 | 4 => 4 | 5 => 5 | 167 => 99 | 37 => 93 | 0 => 0 | 85 => 100 | 2 => 2 | 168 => 102 | 53 => 90 | 175 => 109 | 46 => 72 | 210 => 113 | 127 => 121 | 145 => 124 | 143 => 122 | 21 => 21 | 171 => 115 | 173 => 117 | 212 => 127 | 51 => 88 | 20 => 20 | 213 => 128 | 232 => 129 | 233 => 130 | 80 => 131 | n => n, fun | 15 => 1 | 16 => 2 | 17 => 3 | 18 => 4 | 19 => 5 | n => n⟩
theorem Tryd.atoiA : Go.Proofs.LaysC.n172 Tryd.prog Tryd.atoiA_ren := {
  mixed := by kernel_rfl
  f129 := Tryd.func69.trans (congrArg some (by kernel_rfl))
  f171 := Tryd.func55.trans (congrArg some (by kernel_rfl))
  f172 := Tryd.func54.trans (congrArg some (by kernel_rfl))
  f205 := Tryd.func91.trans (congrArg some (by kernel_rfl))
  f243 := Tryd.func73.trans (congrArg some (by kernel_rfl))
  f244 := Tryd.func71.trans (congrArg some (by kernel_rfl))
  f245 := Tryd.func72.trans (congrArg some (by kernel_rfl))
  f246 := Tryd.func87.trans (congrArg some (by kernel_rfl))
  f247 := Tryd.func82.trans (congrArg some (by kernel_rfl))
  f279 := Tryd.func83.trans (congrArg some (by kernel_rfl))
  f280 := Tryd.func84.trans (congrArg some (by kernel_rfl))
  f281 := Tryd.func85.trans (congrArg some (by kernel_rfl))
  f282 := Tryd.func86.trans (congrArg some (by kernel_rfl))
  f283 := Tryd.func92.trans (congrArg some (by kernel_rfl))
  f284 := Tryd.func93.trans (congrArg some (by kernel_rfl))
  f285 := Tryd.func94.trans (congrArg some (by kernel_rfl))
  f286 := Tryd.func95.trans (congrArg some (by kernel_rfl))
  f287 := Tryd.func89.trans (congrArg some (by kernel_rfl))
  f316 := Tryd.func90.trans (congrArg some (by kernel_rfl))
  f317 := Tryd.func98.trans (congrArg some (by kernel_rfl))
  f318 := Tryd.func99.trans (congrArg some (by kernel_rfl))
  f319 := Tryd.func100.trans (congrArg some (by kernel_rfl))
  f320 := Tryd.func101.trans (congrArg some (by kernel_rfl))
  f321 := Tryd.func96.trans (congrArg some (by kernel_rfl))
  f322 := Tryd.func97.trans (congrArg some (by kernel_rfl))
  f337 := Tryd.func102.trans (congrArg some (by kernel_rfl))
  f338 := Tryd.func103.trans (congrArg some (by kernel_rfl))
  t0 := Tryd.underlying0
  a0 := Tryd.isAgg0
  z0 := Tryd.sizeOf0
  v0 := Tryd.zeroValue0
  t2 := Tryd.underlying2
  a2 := Tryd.isAgg2
  z2 := Tryd.sizeOf2
  v2 := Tryd.zeroValue2
  t3 := Tryd.underlying3
  a3 := Tryd.isAgg3
  z3 := Tryd.sizeOf3
  v3 := Tryd.zeroValue3
  t4 := Tryd.underlying4
  a4 := Tryd.isAgg4
  z4 := Tryd.sizeOf4
  v4 := Tryd.zeroValue4
  t5 := Tryd.underlying5
  a5 := Tryd.isAgg5
  z5 := Tryd.sizeOf5
  v5 := Tryd.zeroValue5
  t9 := Tryd.underlying9
  a9 := Tryd.isAgg9
  z9 := Tryd.sizeOf9
  v9 := Tryd.zeroValue9
  t20 := Tryd.underlying20
  a20 := Tryd.isAgg20
  z20 := Tryd.sizeOf20
  v20 := Tryd.zeroValue20
  t21 := Tryd.underlying21
  a21 := Tryd.isAgg21
  z21 := Tryd.sizeOf21
  v21 := Tryd.zeroValue21
  t37 := Tryd.underlying93
  a37 := Tryd.isAgg93
  z37 := Tryd.sizeOf93
  v37 := Tryd.zeroValue93
  t46 := Tryd.underlying72
  a46 := Tryd.isAgg72
  z46 := Tryd.sizeOf72
  v46 := Tryd.zeroValue72
  t51 := Tryd.underlying88
  a51 := Tryd.isAgg88
  z51 := Tryd.sizeOf88
  v51 := Tryd.zeroValue88
  t53 := Tryd.underlying90
  a53 := Tryd.isAgg90
  z53 := Tryd.sizeOf90
  v53 := Tryd.zeroValue90
  t75 := Tryd.underlying75
  a75 := Tryd.isAgg75
  z75 := Tryd.sizeOf75
  v75 := Tryd.zeroValue75
  t76 := Tryd.underlying76
  a76 := Tryd.isAgg76
  z76 := Tryd.sizeOf76
  v76 := Tryd.zeroValue76
  t85 := Tryd.underlying100
  a85 := Tryd.isAgg100
  z85 := Tryd.sizeOf100
  v85 := Tryd.zeroValue100
  t127 := Tryd.underlying121
  a127 := Tryd.isAgg121
  z127 := Tryd.sizeOf121
  v127 := Tryd.zeroValue121
  t143 := Tryd.underlying122
  a143 := Tryd.isAgg122
  z143 := Tryd.sizeOf122
  v143 := Tryd.zeroValue122
  t145 := Tryd.underlying124
  a145 := Tryd.isAgg124
  z145 := Tryd.sizeOf124
  v145 := Tryd.zeroValue124
  t167 := Tryd.underlying99
  a167 := Tryd.isAgg99
  z167 := Tryd.sizeOf99
  v167 := Tryd.zeroValue99
  t168 := Tryd.underlying102
  a168 := Tryd.isAgg102
  z168 := Tryd.sizeOf102
  v168 := Tryd.zeroValue102
  t171 := Tryd.underlying115
  a171 := Tryd.isAgg115
  z171 := Tryd.sizeOf115
  v171 := Tryd.zeroValue115
  t173 := Tryd.underlying117
  a173 := Tryd.isAgg117
  z173 := Tryd.sizeOf117
  v173 := Tryd.zeroValue117
  t175 := Tryd.underlying109
  a175 := Tryd.isAgg109
  z175 := Tryd.sizeOf109
  v175 := Tryd.zeroValue109
  t210 := Tryd.underlying113
  a210 := Tryd.isAgg113
  z210 := Tryd.sizeOf113
  v210 := Tryd.zeroValue113
  t212 := Tryd.underlying127
  a212 := Tryd.isAgg127
  z212 := Tryd.sizeOf127
  v212 := Tryd.zeroValue127
  t213 := Tryd.underlying128
  a213 := Tryd.isAgg128
  z213 := Tryd.sizeOf128
  t232 := Tryd.underlying129
  a232 := Tryd.isAgg129
  z232 := Tryd.sizeOf129
  v232 := Tryd.zeroValue129
  t233 := Tryd.underlying130
  a233 := Tryd.isAgg130
  z233 := Tryd.sizeOf130
  v233 := Tryd.zeroValue130
  g15 := by kernel_rfl
  g16 := by kernel_rfl
  g17 := by kernel_rfl
  g18 := by kernel_rfl
  g19 := by kernel_rfl
  t80 := Tryd.underlying131
  a80 := Tryd.isAgg131
  z80 := Tryd.sizeOf131
  v80 := Tryd.zeroValue131
  i0 := by kernel_rfl
  i2 := by kernel_rfl
  i3 := by kernel_rfl
  i4 := by kernel_rfl
  i5 := by kernel_rfl
  i9 := by kernel_rfl
  i20 := by kernel_rfl
  i21 := by kernel_rfl
  i37 := by kernel_rfl
  i46 := by kernel_rfl
  i51 := by kernel_rfl
  i53 := by kernel_rfl
  i75 := by kernel_rfl
  i76 := by kernel_rfl
  i80 := by kernel_rfl
  i85 := by kernel_rfl
  i127 := by kernel_rfl
  i143 := by kernel_rfl
  i145 := by kernel_rfl
  i167 := by kernel_rfl
  i168 := by kernel_rfl
  i171 := by kernel_rfl
  i173 := by kernel_rfl
  i175 := by kernel_rfl
  i210 := by kernel_rfl
  i212 := by kernel_rfl
  i232 := by kernel_rfl
  i233 := by kernel_rfl
  m15 := by kernel_rfl
  m16 := by kernel_rfl
  m17 := by kernel_rfl
  m18 := by kernel_rfl
  m19 := by kernel_rfl
  c0 := by kernel_rfl
  c2 := by kernel_rfl
  c3 := by kernel_rfl
  c4 := by kernel_rfl
  c5 := by kernel_rfl
  c9 := by kernel_rfl
  c20 := by kernel_rfl
  c21 := by kernel_rfl
  c37 := by kernel_rfl
  c46 := by kernel_rfl
  c51 := by kernel_rfl
  c53 := by kernel_rfl
  c75 := by kernel_rfl
  c76 := by kernel_rfl
  c80 := by kernel_rfl
  c85 := by kernel_rfl
  c127 := by kernel_rfl
  c143 := by kernel_rfl
  c145 := by kernel_rfl
  c167 := by kernel_rfl
  c168 := by kernel_rfl
  c171 := by kernel_rfl
  c173 := by kernel_rfl
  c175 := by kernel_rfl
  c210 := by kernel_rfl
  c212 := by kernel_rfl
  c213 := by kernel_rfl
  c232 := by kernel_rfl
  c233 := by kernel_rfl }
def Tryd.indexA_ren : Go.Shelf.Ren := ⟨fun | 137 => 52 | 217 => 70 | 266 => 81 | n => n, fun | 9 => 9 | 5 => 5 | 3 => 3 | n => n, fun | n => n⟩
theorem Tryd.indexA : Go.Proofs.Lays.n137 Tryd.prog Tryd.indexA_ren := {
  mixed := by kernel_rfl
  f137 := Tryd.func52.trans (congrArg some (by kernel_rfl))
  f217 := Tryd.func70.trans (congrArg some (by kernel_rfl))
  f266 := Tryd.func81.trans (congrArg some (by kernel_rfl))
  t3 := Tryd.underlying3
  a3 := Tryd.isAgg3
  z3 := Tryd.sizeOf3
  v3 := Tryd.zeroValue3
  t5 := Tryd.underlying5
  a5 := Tryd.isAgg5
  z5 := Tryd.sizeOf5
  v5 := Tryd.zeroValue5
  t9 := Tryd.underlying9
  a9 := Tryd.isAgg9
  z9 := Tryd.sizeOf9
  v9 := Tryd.zeroValue9 }
end Go.Proofs.YtglalejjcfcfkaaDoor

namespace Go.Proofs.YtglalejjcfcfkaaDoor
open Go.Own
def isErr (cs : Array Value) : Prop := ∃ te pe, cs[0]? = some (.iface te pe)
/-- The listed package-level variables that the walks look at. -/
instance : Tabs := ⟨fun g => match g with
  | 1 => some isErr
  | 2 => some isErr
  | 3 => some fun cs => cs = (Lib.pow10Tab.map fun z => Value.int .u64 z).toArray
  | _ => none⟩
/-- What is told of the types. -/
def tab : Tab := [
  (3, { desc := .int .i64, size := 1, bytes := 8, zero := .int .i64 0 }),
  (4, { desc := .bool, size := 1, bytes := 1, zero := .bool false }),
  (5, { desc := .int .u8, size := 1, bytes := 1, zero := .int .u8 0 }),
  (9, { desc := .string, size := 1, bytes := 16, zero := .string ⟨#[]⟩ }),
  (22, { desc := .slice 28, size := 1, bytes := 24, zero := .slice none 0 0 }),
  (24, { desc := .int .i64, size := 1, bytes := 8, zero := .int .i64 0 }),
  (28, { desc := .struct #[{ name := "Id", type := 3, offset := 0, embedded := false, tag := "", pkgPath := "", byteOffset := 0 }, { name := "Day", type := 3, offset := 1, embedded := false, tag := "", pkgPath := "", byteOffset := 8 }, { name := "From", type := 3, offset := 2, embedded := false, tag := "", pkgPath := "", byteOffset := 16 }, { name := "To", type := 3, offset := 3, embedded := false, tag := "", pkgPath := "", byteOffset := 24 }, { name := "Amount", type := 3, offset := 4, embedded := false, tag := "", pkgPath := "", byteOffset := 32 }], size := 5, bytes := 40, zero := .agg #[.int .i64 0, .int .i64 0, .int .i64 0, .int .i64 0, .int .i64 0] }),
  (29, { desc := .slice 3, size := 1, bytes := 24, zero := .slice none 0 0 }),
  (33, { desc := .func #[28] #[4] false, size := 1, bytes := 8, zero := .nilFunc }),
  (48, { desc := .map 3 3, size := 1, bytes := 8, zero := .map none }),
  (50, { desc := .map 3 4, size := 1, bytes := 8, zero := .map none }),
  (54, { desc := .pointer 3, size := 1, bytes := 8, zero := .pointer none }),
  (55, { desc := .slice 54, size := 1, bytes := 24, zero := .slice none 0 0 }),
  (64, { desc := .struct #[{ name := "rest", type := 9, offset := 0, embedded := false, tag := "", pkgPath := "consol/wire", byteOffset := 0 }, { name := "bad", type := 4, offset := 1, embedded := false, tag := "", pkgPath := "consol/wire", byteOffset := 16 }], size := 2, bytes := 24, zero := .agg #[.string ⟨#[]⟩, .bool false] }),
  (67, { desc := .struct #[{ name := "Rest", type := 9, offset := 0, embedded := false, tag := "", pkgPath := "", byteOffset := 0 }, { name := "Bad", type := 4, offset := 1, embedded := false, tag := "", pkgPath := "", byteOffset := 16 }], size := 2, bytes := 24, zero := .agg #[.string ⟨#[]⟩, .bool false] }),
  (93, { desc := .slice 5, size := 1, bytes := 24, zero := .slice none 0 0 }),
  (75, { desc := .interface #[("Error", 131)], size := 1, bytes := 16, zero := .nilIface })]

theorem tabOk : TabOk Tryd.prog tab := tabOk_of ⟨by kernel_rfl, by kernel_rfl, by kernel_rfl, by kernel_rfl, by kernel_rfl, by kernel_rfl, by kernel_rfl, by kernel_rfl, by kernel_rfl, by kernel_rfl, by kernel_rfl, by kernel_rfl, by kernel_rfl, by kernel_rfl, by kernel_rfl, by kernel_rfl, by kernel_rfl, trivial⟩

theorem mixed : Tryd.prog.follows .mixedOrders = true := by kernel_rfl

noncomputable abbrev cx (N : Nat) (keep : List Nat) : Cx := ⟨Tryd.prog, tab, N, keep, 0, false⟩
theorem cxOk (N : Nat) (keep : List Nat) : CxOk (cx N keep) := ⟨tabOk, mixed⟩
noncomputable abbrev cxP (pn N : Nat) (keep : List Nat) : Cx := ⟨Tryd.prog, tab, N, keep, pn, false⟩
noncomputable abbrev cxW (N : Nat) (keep : List Nat) : Cx := ⟨Tryd.prog, tab, N, keep, 0, true⟩
theorem cxWOk (N : Nat) (keep : List Nat) : CxOk (cxW N keep) := ⟨tabOk, mixed⟩
theorem cxPOk (pn N : Nat) (keep : List Nat) : CxOk (cxP pn N keep) := ⟨tabOk, mixed⟩

def encI (n : Int) : AV := .int .i64 n
def encIs (l : List Int) : AV := .sl 1 encI 0 l
def encB (b : Bool) : AV := .bool b
def celE (e : Ent) : List AV := [.int .i64 e.id, .int .i64 e.day, .int .i64 e.frm, .int .i64 e.to, .int .i64 e.amt]
def encE (e : Ent) : AV := .agg [.int .i64 e.id, .int .i64 e.day, .int .i64 e.frm, .int .i64 e.to, .int .i64 e.amt]
def encEs (l : List Ent) : AV := .sl 5 encE e0 l
set_option maxHeartbeats 4000000
set_option maxRecDepth 100000

theorem within_ok (n a b : Int) : APureV Tryd.prog 31 [.int .i64 n, .int .i64 a, .int .i64 b] (.bool (inB n a b)) := by
  refine apure_of (C := cx 15 [0, 1, 2, 6]) (cxOk _ _) Tryd.func31 rfl (by decide) rfl (by exact Nat.le_of_ble_eq_true rfl) (by decide) ?_
  conv => whnf
  rfl

theorem right_ok (e : Ent) : APureV Tryd.prog 13 [encE e] (.bool (rightE e)) := by
  have h1 := within_ok e.id 0 1000000000000000
  have h2 := within_ok e.day 0 200000
  have h3 := within_ok e.frm 0 99999
  have h4 := within_ok e.to 0 99999
  have h5 := within_ok e.amt 1 1000000000000000
  refine apure_of (C := cx 33 [0, 1, 2]) (cxOk _ _) Tryd.func13 rfl (by decide) rfl (by exact Nat.le_of_ble_eq_true rfl) (by decide) ?_
  conv => whnf
  refine .one _ _ _ (fun _ => h1) (by repeat (first | exact .nil | (apply BorL.cons; first | exact lS rfl | exact lR rfl | exact lM rfl rfl | exact lL rfl | exact lX rfl | exact lN | exact lNl | exact lSm rfl | exact lIm rfl | exact lP rfl | exact lQ rfl | exact lB rfl rfl rfl))) (by first | exact .inl rfl | exact .inr (by repeat (first | exact flats_nil | refine flats_cons (by first | exact flat_val _ rfl | exact flat_row (fun _ => rfl) | exact flat_lst (fun _ => rfl)) ?_))) (by first | exact .inl rfl | exact .inr rfl) ?_
  conv => whnf
  refine .one _ _ _ (fun _ => h2) (by repeat (first | exact .nil | (apply BorL.cons; first | exact lS rfl | exact lR rfl | exact lM rfl rfl | exact lL rfl | exact lX rfl | exact lN | exact lNl | exact lSm rfl | exact lIm rfl | exact lP rfl | exact lQ rfl | exact lB rfl rfl rfl))) (by first | exact .inl rfl | exact .inr (by repeat (first | exact flats_nil | refine flats_cons (by first | exact flat_val _ rfl | exact flat_row (fun _ => rfl) | exact flat_lst (fun _ => rfl)) ?_))) (by first | exact .inl rfl | exact .inr rfl) ?_
  conv => whnf
  refine .one _ _ _ (fun _ => h3) (by repeat (first | exact .nil | (apply BorL.cons; first | exact lS rfl | exact lR rfl | exact lM rfl rfl | exact lL rfl | exact lX rfl | exact lN | exact lNl | exact lSm rfl | exact lIm rfl | exact lP rfl | exact lQ rfl | exact lB rfl rfl rfl))) (by first | exact .inl rfl | exact .inr (by repeat (first | exact flats_nil | refine flats_cons (by first | exact flat_val _ rfl | exact flat_row (fun _ => rfl) | exact flat_lst (fun _ => rfl)) ?_))) (by first | exact .inl rfl | exact .inr rfl) ?_
  conv => whnf
  refine .one _ _ _ (fun _ => h4) (by repeat (first | exact .nil | (apply BorL.cons; first | exact lS rfl | exact lR rfl | exact lM rfl rfl | exact lL rfl | exact lX rfl | exact lN | exact lNl | exact lSm rfl | exact lIm rfl | exact lP rfl | exact lQ rfl | exact lB rfl rfl rfl))) (by first | exact .inl rfl | exact .inr (by repeat (first | exact flats_nil | refine flats_cons (by first | exact flat_val _ rfl | exact flat_row (fun _ => rfl) | exact flat_lst (fun _ => rfl)) ?_))) (by first | exact .inl rfl | exact .inr rfl) ?_
  conv => whnf
  refine .one _ _ _ (fun _ => h5) (by repeat (first | exact .nil | (apply BorL.cons; first | exact lS rfl | exact lR rfl | exact lM rfl rfl | exact lL rfl | exact lX rfl | exact lN | exact lNl | exact lSm rfl | exact lIm rfl | exact lP rfl | exact lQ rfl | exact lB rfl rfl rfl))) (by first | exact .inl rfl | exact .inr (by repeat (first | exact flats_nil | refine flats_cons (by first | exact flat_val _ rfl | exact flat_row (fun _ => rfl) | exact flat_lst (fun _ => rfl)) ?_))) (by first | exact .inl rfl | exact .inr rfl) ?_
  conv => whnf
  rfl

theorem ints_ok (a b : List Int) (ha : a.length ≤ 1000000) (hb : b.length ≤ 1000000) : APureV Tryd.prog 14 [encIs a, encIs b] (.bool (decide (a = b))) := by
  refine apure_of (C := cx 26 [0, 1, 4, 5, 10, 14, 25]) (cxOk _ _) Tryd.func14 rfl (by decide) rfl (by exact Nat.le_of_ble_eq_true rfl) (by decide) ?_
  conv => whnf
  refine ⟨fun hc => ?_, fun hc => ?_⟩
  · conv => whnf
    simp only [Bool.not_eq_true', decide_eq_false_iff_not] at hc
    have : ¬ a = b := fun e => hc (by rw [e])
    simp [this]
  simp only [Bool.not_eq_false', decide_eq_true_eq] at hc
  conv => whnf
  refine loop_up (cxOk _ _) a.length (fun k => a.take k = b.take k) (fun k => ⟨[(0, encIs a), (1, encIs b), (5, .int .i64 (k : Nat))], [], 0⟩) (by simp) (wk_of [] rfl ⟨.base (.tree _ _ rfl rfl), .base (.tree _ _ rfl rfl), .base (.tree _ _ rfl rfl), trivial⟩ trivial) ?_
  intro k hk hP
  conv => whnf
  refine ⟨fun hd => ?_, fun hd => ?_⟩
  · simp only [decide_eq_true_eq] at hd
    have hlt : k < a.length := by omega
    have hlt2 : k < b.length := by omega
    conv => whnf
    repeat (first | (refine And.intro ⟨by omega, by omega⟩ ?_; conv => whnf) | (refine And.intro (by omega) (And.intro rfl ?_); conv => whnf) | (refine And.intro rfl ?_; conv => whnf) | (refine And.intro (fun _ => ⟨by omega, by omega⟩) ?_; conv => whnf) | (refine And.intro (fun _ => by omega) (And.intro rfl ?_); conv => whnf) | (refine And.intro ⟨(by first | omega | (simp; omega)), (by first | omega | (simp; omega))⟩ ?_; conv => whnf) | (refine Exists.intro _ (And.intro rfl (And.intro (by first | omega | (simp; omega)) (And.intro ⟨rfl, rfl, rfl, rfl, rfl⟩ ?_))); conv => whnf) | (refine And.intro ⟨rfl, rfl⟩ (And.intro (by first | omega | (simp; omega)) ?_); conv => whnf) | (refine Exists.intro _ (And.intro rfl ?_); conv => whnf) | (refine And.intro (fun _ => ?_) (fun h => absurd h (by decide)); conv => whnf) | (refine And.intro (fun h => absurd h (by decide)) (fun _ => ?_); conv => whnf) | (refine .quiet (by kernel_rfl) ?_; conv => whnf))
    refine ⟨fun he => ?_, fun he => ?_⟩
    · conv => whnf
      simp only [Int.toNat_natCast, Bool.not_eq_true', decide_eq_false_iff_not] at he
      have : ¬ a = b := fun e => he (by rw [e])
      simp [this]
    · conv => whnf
      repeat (first | (refine And.intro ⟨by omega, by omega⟩ ?_; conv => whnf) | (refine And.intro (by omega) (And.intro rfl ?_); conv => whnf) | (refine And.intro rfl ?_; conv => whnf) | (refine And.intro (fun _ => ⟨by omega, by omega⟩) ?_; conv => whnf) | (refine And.intro (fun _ => by omega) (And.intro rfl ?_); conv => whnf) | (refine And.intro ⟨(by first | omega | (simp; omega)), (by first | omega | (simp; omega))⟩ ?_; conv => whnf) | (refine Exists.intro _ (And.intro rfl (And.intro (by first | omega | (simp; omega)) (And.intro ⟨rfl, rfl, rfl, rfl, rfl⟩ ?_))); conv => whnf) | (refine And.intro ⟨rfl, rfl⟩ (And.intro (by first | omega | (simp; omega)) ?_); conv => whnf) | (refine Exists.intro _ (And.intro rfl ?_); conv => whnf) | (refine And.intro (fun _ => ?_) (fun h => absurd h (by decide)); conv => whnf) | (refine And.intro (fun h => absurd h (by decide)) (fun _ => ?_); conv => whnf) | (refine .quiet (by kernel_rfl) ?_; conv => whnf))
      simp only [Int.toNat_natCast, Bool.not_eq_false', decide_eq_true_eq] at he
      refine up hlt ?_ (wk_of [] rfl ⟨.base (.tree _ _ rfl rfl), .base (.tree _ _ rfl rfl), .base (.tree _ _ rfl rfl), trivial⟩ trivial)
      rw [take_getD (d := 0) hlt, take_getD (d := 0) hlt2, hP, he]
  · simp only [decide_eq_false_iff_not] at hd
    rw [List.take_of_length_le (by omega), List.take_of_length_le (by omega)] at hP
    conv => whnf
    simp [hP]

theorem clone_ok (l : List Ent) (hl : l.length ≤ 1000000) : APure Tryd.prog 27 [encEs l] (fun rs => rs = [.new (.row 28 5 encE e0 l)]) := by
  have h : APure Tryd.prog 27 [encEs l] (fun rs => rs = [.new (.row 28 5 encE e0 l)] ∨ l = [] ∧ rs = [.val .nils]) := by
    refine apure_of (C := cx 8 [0, 2, 4]) (cxOk _ _) Tryd.func27 rfl (by decide) rfl (by exact Nat.le_of_ble_eq_true rfl) (by decide) ?_
    conv => whnf
    intro b hb
    conv => whnf
    refine ⟨fun hc => ?_, fun hc => ?_⟩
    · conv => whnf
      exact .inr ⟨hb hc, rfl⟩
    · conv => whnf
      refine And.intro rfl ?_
      conv => whnf
      refine ⟨⟨rfl, rfl⟩, (show (0 + l.length) * 40 ≤ 140737488355328 by omega), ?_⟩
      conv => whnf
      exact .inl rfl
  refine h.le fun rs hrs => ?_
  rcases hrs with rfl | ⟨rfl, rfl⟩
  · exact ⟨_, rfl, rfl, fun j r r' h1 h2 => by
      cases j with
      | zero => simp at h1 h2; subst h1; subst h2; exact .same _
      | succ j => simp at h1⟩
  · exact ⟨_, rfl, rfl, fun j r r' h1 h2 => by
      cases j with
      | zero => simp at h1 h2; subst h1; subst h2; exact .nil _ _ _ _
      | succ j => simp at h1⟩

def seenM (l : List Ent) : List (Int × Bool) := l.foldl (fun m e => mset m e.id true) []
theorem seenM_snoc (l : List Ent) (e : Ent) : seenM (l ++ [e]) = mset (seenM l) e.id true := by
  unfold seenM
  rw [List.foldl_append]
  rfl
theorem seen_get (l : List Ent) (i : Int) : (mget (seenM l) i).getD false = true ↔ ∃ x ∈ l, x.id = i := by
  have go : ∀ (l : List Ent) (m : List (Int × Bool)), (mget (l.foldl (fun m e => mset m e.id true) m) i).getD false = true ↔ (mget m i).getD false = true ∨ ∃ x ∈ l, x.id = i := by
    intro l
    induction l with
    | nil => intro m; simp
    | cons e l ih =>
      intro m
      rw [List.foldl_cons, ih, mget_mset]
      by_cases h : e.id = i
      · rw [if_pos h]
        exact ⟨fun _ => .inr ⟨e, List.mem_cons_self, h⟩, fun _ => .inl rfl⟩
      · rw [if_neg h]
        constructor
        · rintro (h1 | ⟨x, hx, h1⟩)
          · exact .inl h1
          · exact .inr ⟨x, List.mem_cons_of_mem _ hx, h1⟩
        · rintro (h1 | ⟨x, hx, h1⟩)
          · exact .inl h1
          · rcases List.mem_cons.1 hx with e' | hx
            · subst e'; exact absurd h1 h
            · exact .inr ⟨x, hx, h1⟩
  have := go l []
  unfold seenM
  rw [this]
  simp [mget]
theorem seenM_len (l : List Ent) : (seenM l).length ≤ l.length := by
  have go : ∀ (l : List Ent) (m : List (Int × Bool)), (l.foldl (fun m e => mset m e.id true) m).length ≤ m.length + l.length := by
    intro l
    induction l with
    | nil => intro m; simp
    | cons e l ih =>
      intro m
      rw [List.foldl_cons, List.length_cons]
      have h1 := ih (mset m e.id true)
      have h2 := mset_len m e.id true
      omega
  simpa [seenM] using go l []

/-- One entry more. -/
def badE (l : List Ent) (k : Nat) : Bool := (!rightE (l.getD k e0) || (mget (seenM (l.take k)) (l.getD k e0).id).getD false) || decide (4000000000000000000 - sumA (l.take k) < (l.getD k e0).amt)
theorem okL_step {l : List Ent} {k : Nat} (hk : k < l.length) (h : OkL (l.take k)) : (badE l k = false → OkL (l.take (k + 1))) ∧ (badE l k = true → ¬ OkL l) := by
  have hs : OkL (l.take (k + 1)) ↔ badE l k = false := by
    rw [take_getD (d := e0) hk, OkL.snoc]
    unfold badE
    rw [Bool.or_eq_false_iff, Bool.or_eq_false_iff, Bool.not_eq_false', decide_eq_false_iff_not]
    constructor
    · rintro ⟨_, h1, h2, h3⟩
      refine ⟨⟨h1, ?_⟩, by omega⟩
      cases hm : (mget (seenM (l.take k)) (l.getD k e0).id).getD false with
      | false => rfl
      | true =>
        obtain ⟨x, hx, he⟩ := (seen_get _ _).1 hm
        exact absurd he (h2 x hx)
    · rintro ⟨⟨h1, h2⟩, h3⟩
      refine ⟨h, h1, fun x hx he => ?_, by omega⟩
      rw [(seen_get _ _).2 ⟨x, hx, he⟩] at h2
      cases h2
  refine ⟨hs.2, fun hb ho => ?_⟩
  rw [← List.take_append_drop (k + 1) l] at ho
  rw [hs.1 ho.left] at hb
  cases hb

theorem valid_ok (l : List Ent) (hl : l.length ≤ 9223372036854775807) : APureV Tryd.prog 12 [encEs l] (.bool (validB l)) := by
  have hv1 : 10000 < (l.length : Int) → validB l = false := fun h => by
    unfold validB
    rw [decide_eq_false (show ¬ l.length ≤ 10000 by omega)]
    rfl
  have hv2 : ¬ 10000 < (l.length : Int) → (OkL l → validB l = true) ∧ (¬ OkL l → validB l = false) := fun h => by
    unfold validB
    rw [decide_eq_true (show l.length ≤ 10000 by omega)]
    exact ⟨fun h => by rw [decide_eq_true h]; rfl, fun h => by rw [decide_eq_false h]; rfl⟩
  generalize validB l = vb at *
  refine apure_of (C := cx 40 [0, 2, 3, 4, 6, 9, 11, 12, 13, 14, 31]) (cxOk _ _) Tryd.func12 rfl (by decide) rfl (by exact Nat.le_of_ble_eq_true rfl) (by decide) ?_
  conv => whnf
  refine ⟨fun ha => ?_, fun ha => ?_⟩
  · have ha' : decide (10000 < (l.length : Int)) = true := ha
    rw [hv1 (of_decide_eq_true ha')]
    conv => whnf
    rfl
  have ha' : decide (10000 < (l.length : Int)) = false := ha
  obtain ⟨v1, v2⟩ := hv2 (of_decide_eq_false ha')
  simp only [decide_eq_false_iff_not] at ha'
  clear hv1 hv2
  conv => whnf
  repeat (first | (refine And.intro ⟨by omega, by omega⟩ ?_; conv => whnf) | (refine And.intro (by omega) (And.intro rfl ?_); conv => whnf) | (refine And.intro rfl ?_; conv => whnf) | (refine And.intro (fun _ => ⟨by omega, by omega⟩) ?_; conv => whnf) | (refine And.intro (fun _ => by omega) (And.intro rfl ?_); conv => whnf) | (refine And.intro ⟨(by first | omega | (simp; omega)), (by first | omega | (simp; omega))⟩ ?_; conv => whnf) | (refine Exists.intro _ (And.intro rfl (And.intro (by first | omega | (simp; omega)) (And.intro ⟨rfl, rfl, rfl, rfl, rfl⟩ ?_))); conv => whnf) | (refine And.intro ⟨rfl, rfl⟩ (And.intro (by first | omega | (simp; omega)) ?_); conv => whnf) | (refine Exists.intro _ (And.intro rfl ?_); conv => whnf) | (refine And.intro (fun _ => ?_) (fun h => absurd h (by decide)); conv => whnf) | (refine And.intro (fun h => absurd h (by decide)) (fun _ => ?_); conv => whnf) | (refine .quiet (by kernel_rfl) ?_; conv => whnf))
  refine loop_up (cxOk _ _) l.length (fun k => OkL (l.take k)) (fun k => ⟨[(3, .map 0), (4, .int .i64 (4000000000000000000 - sumA (l.take k))), (11, encEs l), (12, .int .i64 l.length), (13, .int .i64 (k : Nat))], [(0, .imap .i64 encB false (seenM (l.take k)))], 1⟩) okL_nil ((wk_of [(0, .id 0)] rfl ⟨.base (.map _ _ rfl), .base (.tree _ _ rfl rfl), .base (.tree _ _ rfl rfl), .base (.tree _ _ rfl rfl), .base (.tree _ _ rfl rfl), trivial⟩ ⟨⟨_, rfl, (by first | exact .imap _ _ _ _ _ _ rfl rfl | exact .newimap _ _ _ _ _ _ _ _ rfl rfl rfl)⟩, trivial⟩)) ?_
  intro k hk hP
  conv => whnf
  refine ⟨fun hc => ?_, fun hc => ?_⟩
  · simp only [decide_eq_true_eq] at hc
    have hlt : k < l.length := by omega
    obtain ⟨b1, b2⟩ := okL_step hlt hP
    have hck : l.getD (k : Int).toNat e0 = l.getD k e0 := by rw [Int.toNat_natCast]
    have hse : seenM (l.take (k + 1)) = mset (seenM (l.take k)) (l.getD k e0).id true := by rw [take_getD (d := e0) hlt, seenM_snoc]
    have hsu : sumA (l.take (k + 1)) = sumA (l.take k) + (l.getD k e0).amt := by
      rw [take_getD (d := e0) hlt, sumA_append]
      simp [sumA]
    have hs0 := sumA_ge hP.right
    have hs1 := hP.sum
    have hlm := seenM_len (l.take k)
    rw [List.length_take] at hlm
    have hr := right_ok (l.getD k e0)
    unfold badE at b1 b2
    generalize l.getD k e0 = e at *
    generalize hM' : seenM (l.take (k + 1)) = M' at *
    generalize hs' : sumA (l.take (k + 1)) = s' at *
    generalize hM : seenM (l.take k) = M at *
    generalize sumA (l.take k) = s at *
    conv => whnf
    repeat (first | (refine And.intro ⟨by omega, by omega⟩ ?_; conv => whnf) | (refine And.intro (by omega) (And.intro rfl ?_); conv => whnf) | (refine And.intro rfl ?_; conv => whnf) | (refine And.intro (fun _ => ⟨by omega, by omega⟩) ?_; conv => whnf) | (refine And.intro (fun _ => by omega) (And.intro rfl ?_); conv => whnf) | (refine And.intro ⟨(by first | omega | (simp; omega)), (by first | omega | (simp; omega))⟩ ?_; conv => whnf) | (refine Exists.intro _ (And.intro rfl (And.intro (by first | omega | (simp; omega)) (And.intro ⟨rfl, rfl, rfl, rfl, rfl⟩ ?_))); conv => whnf) | (refine And.intro ⟨rfl, rfl⟩ (And.intro (by first | omega | (simp; omega)) ?_); conv => whnf) | (refine Exists.intro _ (And.intro rfl ?_); conv => whnf) | (refine And.intro (fun _ => ?_) (fun h => absurd h (by decide)); conv => whnf) | (refine And.intro (fun h => absurd h (by decide)) (fun _ => ?_); conv => whnf) | (refine .eff (by first | exact cxOk _ _ | exact cxPOk _ _ _) ?_; conv => whnf))
    rw [hck]
    refine .one _ _ _ (fun _ => hr) (by repeat (first | exact .nil | (apply BorL.cons; first | exact lS rfl | exact lR rfl | exact lM rfl rfl | exact lL rfl | exact lX rfl | exact lN | exact lNl | exact lSm rfl | exact lIm rfl | exact lP rfl | exact lQ rfl | exact lB rfl rfl rfl))) (by first | exact .inl rfl | exact .inr (by repeat (first | exact flats_nil | refine flats_cons (by first | exact flat_val _ rfl | exact flat_row (fun _ => rfl) | exact flat_lst (fun _ => rfl)) ?_))) (by first | exact .inl rfl | exact .inr rfl) ?_
    conv => whnf
    repeat (first | (refine And.intro ⟨by omega, by omega⟩ ?_; conv => whnf) | (refine And.intro (by omega) (And.intro rfl ?_); conv => whnf) | (refine And.intro rfl ?_; conv => whnf) | (refine And.intro (fun _ => ⟨by omega, by omega⟩) ?_; conv => whnf) | (refine And.intro (fun _ => by omega) (And.intro rfl ?_); conv => whnf) | (refine And.intro ⟨(by first | omega | (simp; omega)), (by first | omega | (simp; omega))⟩ ?_; conv => whnf) | (refine Exists.intro _ (And.intro rfl (And.intro (by first | omega | (simp; omega)) (And.intro ⟨rfl, rfl, rfl, rfl, rfl⟩ ?_))); conv => whnf) | (refine And.intro ⟨rfl, rfl⟩ (And.intro (by first | omega | (simp; omega)) ?_); conv => whnf) | (refine Exists.intro _ (And.intro rfl ?_); conv => whnf) | (refine And.intro (fun _ => ?_) (fun h => absurd h (by decide)); conv => whnf) | (refine And.intro (fun h => absurd h (by decide)) (fun _ => ?_); conv => whnf) | (refine .eff (by first | exact cxOk _ _ | exact cxPOk _ _ _) ?_; conv => whnf))
    refine ⟨fun hd => ?_, fun hd => ?_⟩
    · rw [v2 (b2 hd)]
      conv => whnf
      rfl
    · have hd' : (!rightE e || (mget M e.id).getD false || decide (4000000000000000000 - s < e.amt)) = false := hd
      have hok := b1 hd'
      rw [Bool.or_eq_false_iff, Bool.or_eq_false_iff, Bool.not_eq_false', decide_eq_false_iff_not] at hd'
      have hre := (rightE_iff.1 hd'.1.1).2.2.2.2.2
      conv => whnf
      repeat (first | (refine And.intro ⟨by omega, by omega⟩ ?_; conv => whnf) | (refine And.intro (by omega) (And.intro rfl ?_); conv => whnf) | (refine And.intro rfl ?_; conv => whnf) | (refine And.intro (fun _ => ⟨by omega, by omega⟩) ?_; conv => whnf) | (refine And.intro (fun _ => by omega) (And.intro rfl ?_); conv => whnf) | (refine And.intro ⟨(by first | omega | (simp; omega)), (by first | omega | (simp; omega))⟩ ?_; conv => whnf) | (refine Exists.intro _ (And.intro rfl (And.intro (by first | omega | (simp; omega)) (And.intro ⟨rfl, rfl, rfl, rfl, rfl⟩ ?_))); conv => whnf) | (refine And.intro ⟨rfl, rfl⟩ (And.intro (by first | omega | (simp; omega)) ?_); conv => whnf) | (refine Exists.intro _ (And.intro rfl ?_); conv => whnf) | (refine And.intro (fun _ => ?_) (fun h => absurd h (by decide)); conv => whnf) | (refine And.intro (fun h => absurd h (by decide)) (fun _ => ?_); conv => whnf) | (refine .eff (by first | exact cxOk _ _ | exact cxPOk _ _ _) ?_; conv => whnf))
      refine up hlt hok ((wk_of [(0, .id 0)] rfl ⟨.base (.map _ _ rfl), .base (.tree _ _ (show AV.int .i64 _ = AV.int .i64 _ by congr 1; omega) rfl), .base (.tree _ _ rfl rfl), .base (.tree _ _ rfl rfl), .base (.tree _ _ rfl rfl), trivial⟩ ⟨⟨_, rfl, (by first | exact .imap _ _ _ _ _ _ rfl (hse.symm.trans hM'.symm) | exact .newimap _ _ _ _ _ _ _ _ rfl rfl (hse.symm.trans hM'.symm))⟩, trivial⟩))
  · simp only [decide_eq_false_iff_not] at hc
    rw [List.take_of_length_le (by omega)] at hP
    rw [v1 hP]
    conv => whnf
    rfl

theorem postfn_ok (x e : Ent) : APureV Tryd.prog 26 [encE x, .rop (celE e)] (.bool (decide (x.id = e.id))) := by
  refine apure_of (C := cx 9 [0, 1, 2, 3]) (cxOk _ _) Tryd.func26 rfl (by decide) rfl (by exact Nat.le_of_ble_eq_true rfl) (by decide) ?_
  conv => whnf
  rfl

/-- The place of the first one, or -1. -/
def firstI {T : Type} (p : T → Bool) (l : List T) : Int := if l.findIdx p < l.length then (l.findIdx p : Int) else -1
theorem firstI_at {T : Type} [Inhabited T] {p : T → Bool} {l : List T} {k : Nat} {d : T} (hk : k < l.length) (h : p (l.getD k d) = true) (hP : (l.take k).any p = false) : firstI p l = k := by
  have hg : l.getD k d = l[k] := by rw [List.getD_eq_getElem?_getD, List.getElem?_eq_getElem hk]; rfl
  have : l.findIdx p = k := by
    rw [List.findIdx_eq hk]
    refine ⟨by rw [← hg]; exact h, fun j hj => ?_⟩
    have := List.any_eq_false.1 hP l[j] (by
      rw [List.mem_take_iff_getElem]
      exact ⟨j, by omega, rfl⟩)
    simpa using this
  unfold firstI
  rw [this, if_pos hk]
theorem firstI_none {T : Type} {p : T → Bool} {l : List T} (h : l.any p = false) : firstI p l = -1 := by
  unfold firstI
  rw [if_neg]
  intro hlt
  have := List.findIdx_getElem (w := hlt)
  have h2 := List.any_eq_false.1 h _ (List.getElem_mem hlt)
  exact h2 this
theorem any_take_succ {T : Type} {p : T → Bool} {l : List T} {k : Nat} {d : T} (hk : k < l.length) (hP : (l.take k).any p = false) (h : p (l.getD k d) = false) : (l.take (k + 1)).any p = false := by
  rw [take_getD (d := d) hk, List.any_append, hP]
  simpa using h
theorem index_ok (l : List Ent) (hl : l.length ≤ 9223372036854775807) (n : Nat) (c1 : List AV) (p : Ent → Bool) (hp : ∀ x ∈ l, APureV Tryd.prog n [encE x, .rop c1] (.bool (p x))) :
    APureV Tryd.prog 25 [encEs l, .fn (.func n) [] [.rop c1]] (.int .i64 (firstI p l)) := by
  refine apure_of (C := cx 19 [0, 1, 4, 5, 7, 8, 9, 16]) (cxOk _ _) Tryd.func25 rfl (by decide) rfl (by exact Nat.le_of_ble_eq_true rfl) (by decide) ?_
  conv => whnf
  refine loop_up (cxOk _ _) l.length (fun k => (l.take k).any p = false) (fun k => ⟨[(0, encEs l), (1, .fn (.func n) [] [.rop c1]), (7, .int .i64 l.length), (8, .int .i64 (k : Nat))], [], 0⟩) (by simp) (wk_of [] rfl ⟨.base (.tree _ _ rfl rfl), .fn _ _ _ _ _ (by repeat (first | exact .nil | refine .cons (by first | exact .tree _ _ rfl rfl | exact .ptr _ _ _ rfl | exact .own _ _ rfl) ?_)) (by repeat (first | exact .nil | refine .cons (by first | exact .tree _ _ rfl rfl | exact .ptr _ _ _ rfl | exact .own _ _ rfl) ?_)), .base (.tree _ _ rfl rfl), .base (.tree _ _ rfl rfl), trivial⟩ trivial) ?_
  intro k hk hP
  conv => whnf
  refine ⟨fun hc => ?_, fun hc => ?_⟩
  · simp only [decide_eq_true_eq] at hc
    have hlt : k < l.length := by omega
    conv => whnf
    repeat (first | (refine And.intro ⟨by omega, by omega⟩ ?_; conv => whnf) | (refine And.intro (by omega) (And.intro rfl ?_); conv => whnf) | (refine And.intro rfl ?_; conv => whnf) | (refine And.intro (fun _ => ⟨by omega, by omega⟩) ?_; conv => whnf) | (refine And.intro (fun _ => by omega) (And.intro rfl ?_); conv => whnf) | (refine And.intro ⟨(by first | omega | (simp; omega)), (by first | omega | (simp; omega))⟩ ?_; conv => whnf) | (refine Exists.intro _ (And.intro rfl (And.intro (by first | omega | (simp; omega)) (And.intro ⟨rfl, rfl, rfl, rfl, rfl⟩ ?_))); conv => whnf) | (refine And.intro ⟨rfl, rfl⟩ (And.intro (by first | omega | (simp; omega)) ?_); conv => whnf) | (refine Exists.intro _ (And.intro rfl ?_); conv => whnf) | (refine And.intro (fun _ => ?_) (fun h => absurd h (by decide)); conv => whnf) | (refine And.intro (fun h => absurd h (by decide)) (fun _ => ?_); conv => whnf) | (refine .quiet (by kernel_rfl) ?_; conv => whnf))
    rw [Int.toNat_natCast]
    refine .one _ _ _ (fun _ => hp (l.getD k e0) (getD_mem hlt)) (by repeat (first | exact .nil | (apply BorL.cons; first | exact lS rfl | exact lR rfl | exact lM rfl rfl | exact lL rfl | exact lX rfl | exact lN | exact lNl | exact lSm rfl | exact lIm rfl | exact lP rfl | exact lQ rfl | exact lB rfl rfl rfl))) (by first | exact .inl rfl | exact .inr (by repeat (first | exact flats_nil | refine flats_cons (by first | exact flat_val _ rfl | exact flat_row (fun _ => rfl) | exact flat_lst (fun _ => rfl)) ?_))) (by first | exact .inl rfl | exact .inr rfl) ?_
    conv => whnf
    refine ⟨fun hd => ?_, fun hd => ?_⟩
    · rw [firstI_at hlt hd hP]
      conv => whnf
      rfl
    · conv => whnf
      repeat (first | (refine And.intro ⟨by omega, by omega⟩ ?_; conv => whnf) | (refine And.intro (by omega) (And.intro rfl ?_); conv => whnf) | (refine And.intro rfl ?_; conv => whnf) | (refine And.intro (fun _ => ⟨by omega, by omega⟩) ?_; conv => whnf) | (refine And.intro (fun _ => by omega) (And.intro rfl ?_); conv => whnf) | (refine And.intro ⟨(by first | omega | (simp; omega)), (by first | omega | (simp; omega))⟩ ?_; conv => whnf) | (refine Exists.intro _ (And.intro rfl (And.intro (by first | omega | (simp; omega)) (And.intro ⟨rfl, rfl, rfl, rfl, rfl⟩ ?_))); conv => whnf) | (refine And.intro ⟨rfl, rfl⟩ (And.intro (by first | omega | (simp; omega)) ?_); conv => whnf) | (refine Exists.intro _ (And.intro rfl ?_); conv => whnf) | (refine And.intro (fun _ => ?_) (fun h => absurd h (by decide)); conv => whnf) | (refine And.intro (fun h => absurd h (by decide)) (fun _ => ?_); conv => whnf) | (refine .quiet (by kernel_rfl) ?_; conv => whnf))
      refine up hlt ?_ (wk_of [] rfl ⟨.base (.tree _ _ rfl rfl), .fn _ _ _ _ _ (by repeat (first | exact .nil | refine .cons (by first | exact .tree _ _ rfl rfl | exact .ptr _ _ _ rfl | exact .own _ _ rfl) ?_)) (by repeat (first | exact .nil | refine .cons (by first | exact .tree _ _ rfl rfl | exact .ptr _ _ _ rfl | exact .own _ _ rfl) ?_)), .base (.tree _ _ rfl rfl), .base (.tree _ _ rfl rfl), trivial⟩ trivial)
      exact any_take_succ hlt hP hd
  · simp only [decide_eq_false_iff_not] at hc
    rw [List.take_of_length_le (by omega)] at hP
    rw [firstI_none hP]
    conv => whnf
    rfl

theorem newimap_of [Tabs] {P : Program} {f : FuncId} {args : List AV} {V W : Type} {ev : V → AV} {dv : V} {k : IntKind} {ev' : W → AV} {dv' : W} (h : APure P f args (fun rs => rs = [.new (.smap ev dv [])])) : APure P f args (fun rs => rs = [.new (.imap k ev' dv' [])]) := by
  refine ⟨h.1, fun S w vs hS hT hv => (h.2 S w vs hS hT hv).mono ?_⟩
  rintro en w' ⟨us, rs, S', he, rfl, hL⟩
  refine ⟨us, _, S', he, rfl, ⟨by rw [hL.len]; rfl, fun j u r hu hr => ?_, hL.below, hL.ros, hL.fresh, hL.lt, fun i u b k hu hb hk => ?_⟩⟩
  · match j, hr with
    | 0, hr =>
      simp at hr
      subst hr
      obtain ⟨_, h2, h3⟩ := hL.rel 0 u _ hu rfl
      refine ⟨rfl, h2, fun n => ?_⟩
      obtain ⟨r, en, clock, hm, hr, hl, hb1, _⟩ := h3 n
      exact ⟨r, en, clock, hm, hr, by simpa using hl, hb1, fun j x p _ hp => by simp at hp⟩
  · match i, hb with
    | 0, _ =>
      obtain ⟨a1, a2⟩ := hL.apart 0 u _ k hu rfl hk
      refine ⟨a1, fun j u' b' hu' hb' hk' => ?_⟩
      match j, hb' with
      | 0, _ => rfl

theorem balances_ok (l : List Ent) (hl : l.length ≤ 9223372036854775807) : APure Tryd.prog 30 [encEs l] (fun rs => rs = [.new (.imap .i64 encI 0 (accM l))]) := by
  have hv := valid_ok l hl
  have hvi := @validB_iff l
  unfold accM
  generalize validB l = vb at *
  cases vb with
  | false =>
    rw [if_neg Bool.noConfusion]
    refine newimap_of (ev := fun _ : PUnit => AV.undef) (dv := PUnit.unit) ?_
    refine apure_of (C := cx 33 [0, 2, 3, 5, 9, 11, 12, 13, 14]) (cxOk _ _) Tryd.func30 rfl (by decide) rfl (by exact Nat.le_of_ble_eq_true rfl) (by decide) ?_
    conv => whnf
    refine .one _ _ _ (fun _ => hv) (by repeat (first | exact .nil | (apply BorL.cons; first | exact lS rfl | exact lR rfl | exact lM rfl rfl | exact lL rfl | exact lX rfl | exact lN | exact lNl | exact lSm rfl | exact lIm rfl | exact lP rfl | exact lQ rfl | exact lB rfl rfl rfl))) (by first | exact .inl rfl | exact .inr (by repeat (first | exact flats_nil | refine flats_cons (by first | exact flat_val _ rfl | exact flat_row (fun _ => rfl) | exact flat_lst (fun _ => rfl)) ?_))) (by first | exact .inl rfl | exact .inr rfl) ?_
    conv => whnf
    refine ⟨fun hx => ?_, fun hx => ?_⟩
    · conv => whnf
      rfl
    · cases hx
  | true =>
    obtain ⟨hlen, ok⟩ := hvi.1 rfl
    rw [if_pos rfl]
    refine apure_of (C := cx 33 [0, 2, 3, 5, 9, 11, 12, 13, 14]) (cxOk _ _) Tryd.func30 rfl (by decide) rfl (by exact Nat.le_of_ble_eq_true rfl) (by decide) ?_
    conv => whnf
    refine .one _ _ _ (fun _ => hv) (by repeat (first | exact .nil | (apply BorL.cons; first | exact lS rfl | exact lR rfl | exact lM rfl rfl | exact lL rfl | exact lX rfl | exact lN | exact lNl | exact lSm rfl | exact lIm rfl | exact lP rfl | exact lQ rfl | exact lB rfl rfl rfl))) (by first | exact .inl rfl | exact .inr (by repeat (first | exact flats_nil | refine flats_cons (by first | exact flat_val _ rfl | exact flat_row (fun _ => rfl) | exact flat_lst (fun _ => rfl)) ?_))) (by first | exact .inl rfl | exact .inr rfl) ?_
    conv => whnf
    refine ⟨fun hx => ?_, fun hx => ?_⟩
    · cases hx
    conv => whnf
    repeat (first | (refine And.intro ⟨by omega, by omega⟩ ?_; conv => whnf) | (refine And.intro (by omega) (And.intro rfl ?_); conv => whnf) | (refine And.intro rfl ?_; conv => whnf) | (refine And.intro (fun _ => ⟨by omega, by omega⟩) ?_; conv => whnf) | (refine And.intro (fun _ => by omega) (And.intro rfl ?_); conv => whnf) | (refine And.intro ⟨(by first | omega | (simp; omega)), (by first | omega | (simp; omega))⟩ ?_; conv => whnf) | (refine Exists.intro _ (And.intro rfl (And.intro (by first | omega | (simp; omega)) (And.intro ⟨rfl, rfl, rfl, rfl, rfl⟩ ?_))); conv => whnf) | (refine And.intro ⟨rfl, rfl⟩ (And.intro (by first | omega | (simp; omega)) ?_); conv => whnf) | (refine Exists.intro _ (And.intro rfl ?_); conv => whnf) | (refine And.intro (fun _ => ?_) (fun h => absurd h (by decide)); conv => whnf) | (refine And.intro (fun h => absurd h (by decide)) (fun _ => ?_); conv => whnf) | (refine .quiet (by kernel_rfl) ?_; conv => whnf))
    refine loop_up (cxOk _ _) l.length (fun _ => True) (fun k => ⟨[(3, .map 0), (11, encEs l), (12, .int .i64 l.length), (13, .int .i64 (k : Nat))], [(0, .imap .i64 encI 0 (balM (l.take k)))], 1⟩) trivial ((wk_of [(0, .id 0)] rfl ⟨.base (.map _ _ rfl), .base (.tree _ _ rfl rfl), .base (.tree _ _ rfl rfl), .base (.tree _ _ rfl rfl), trivial⟩ ⟨⟨_, rfl, (by first | exact .imap _ _ _ _ _ _ rfl rfl | exact .newimap _ _ _ _ _ _ _ _ rfl rfl rfl)⟩, trivial⟩)) ?_
    intro k hk _
    conv => whnf
    refine ⟨fun hc => ?_, fun hc => ?_⟩
    · simp only [decide_eq_true_eq] at hc
      have hlt : k < l.length := by omega
      have okt : OkL (l.take k) := by
        have := ok
        rw [← List.take_append_drop k l] at this
        exact this.left
      have hb := fun a => bal_bound okt.right a
      have hbg := fun a => balM_get (l.take k) a
      have hsum := okt.sum
      have hst : balM (l.take (k + 1)) = balStep (balM (l.take k)) (l.getD k e0) := by rw [take_getD (d := e0) hlt, balM_snoc]
      unfold balStep at hst
      have hre := (rightE_iff.1 (ok.right _ (getD_mem (d := e0) hlt)))
      have hck : l.getD (k : Int).toNat e0 = l.getD k e0 := by rw [Int.toNat_natCast]
      have hbl := balM_len (l.take k)
      rw [List.length_take] at hbl
      have hf1 := hb (l.getD k e0).frm
      have hf2 := hb (l.getD k e0).to
      rw [← hbg] at hf1 hf2
      have hne := hre.2.2.2.2.1
      have hmg : mget (mset (balM (l.take k)) (l.getD k e0).frm ((mget (balM (l.take k)) (l.getD k e0).frm).getD 0 - (l.getD k e0).amt)) (l.getD k e0).to = mget (balM (l.take k)) (l.getD k e0).to := by rw [mget_mset, if_neg hne]
      have hml := mset_len (balM (l.take k)) (l.getD k e0).frm ((mget (balM (l.take k)) (l.getD k e0).frm).getD 0 - (l.getD k e0).amt)
      generalize hMn : balM (l.take (k + 1)) = M' at *
      generalize balM (l.take k) = M at *
      generalize sumA (l.take k) = s at *
      generalize l.getD k e0 = e at *
      conv => whnf
      repeat (first | (refine And.intro ⟨by omega, by omega⟩ ?_; conv => whnf) | (refine And.intro (by omega) (And.intro rfl ?_); conv => whnf) | (refine And.intro rfl ?_; conv => whnf) | (refine And.intro (fun _ => ⟨by omega, by omega⟩) ?_; conv => whnf) | (refine And.intro (fun _ => by omega) (And.intro rfl ?_); conv => whnf) | (refine And.intro ⟨(by first | omega | (simp; omega)), (by first | omega | (simp; omega))⟩ ?_; conv => whnf) | (refine Exists.intro _ (And.intro rfl (And.intro (by first | omega | (simp; omega)) (And.intro ⟨rfl, rfl, rfl, rfl, rfl⟩ ?_))); conv => whnf) | (refine And.intro ⟨rfl, rfl⟩ (And.intro (by first | omega | (simp; omega)) ?_); conv => whnf) | (refine Exists.intro _ (And.intro rfl ?_); conv => whnf) | (refine And.intro (fun _ => ?_) (fun h => absurd h (by decide)); conv => whnf) | (refine And.intro (fun h => absurd h (by decide)) (fun _ => ?_); conv => whnf) | (refine .eff (by first | exact cxOk _ _ | exact cxPOk _ _ _) ?_; conv => whnf))
      rw [hck]
      repeat (first | (refine And.intro ⟨by omega, by omega⟩ ?_; conv => whnf) | (refine And.intro (by omega) (And.intro rfl ?_); conv => whnf) | (refine And.intro rfl ?_; conv => whnf) | (refine And.intro (fun _ => ⟨by omega, by omega⟩) ?_; conv => whnf) | (refine And.intro (fun _ => by omega) (And.intro rfl ?_); conv => whnf) | (refine And.intro ⟨(by first | omega | (simp; omega)), (by first | omega | (simp; omega))⟩ ?_; conv => whnf) | (refine Exists.intro _ (And.intro rfl (And.intro (by first | omega | (simp; omega)) (And.intro ⟨rfl, rfl, rfl, rfl, rfl⟩ ?_))); conv => whnf) | (refine And.intro ⟨rfl, rfl⟩ (And.intro (by first | omega | (simp; omega)) ?_); conv => whnf) | (refine Exists.intro _ (And.intro rfl ?_); conv => whnf) | (refine And.intro (fun _ => ?_) (fun h => absurd h (by decide)); conv => whnf) | (refine And.intro (fun h => absurd h (by decide)) (fun _ => ?_); conv => whnf) | (refine .eff (by first | exact cxOk _ _ | exact cxPOk _ _ _) ?_; conv => whnf))
      rw [hmg]
      refine And.intro (And.intro (by omega) (by omega)) ?_
      repeat (first | (refine And.intro ⟨by omega, by omega⟩ ?_; conv => whnf) | (refine And.intro (by omega) (And.intro rfl ?_); conv => whnf) | (refine And.intro rfl ?_; conv => whnf) | (refine And.intro (fun _ => ⟨by omega, by omega⟩) ?_; conv => whnf) | (refine And.intro (fun _ => by omega) (And.intro rfl ?_); conv => whnf) | (refine And.intro ⟨(by first | omega | (simp; omega)), (by first | omega | (simp; omega))⟩ ?_; conv => whnf) | (refine Exists.intro _ (And.intro rfl (And.intro (by first | omega | (simp; omega)) (And.intro ⟨rfl, rfl, rfl, rfl, rfl⟩ ?_))); conv => whnf) | (refine And.intro ⟨rfl, rfl⟩ (And.intro (by first | omega | (simp; omega)) ?_); conv => whnf) | (refine Exists.intro _ (And.intro rfl ?_); conv => whnf) | (refine And.intro (fun _ => ?_) (fun h => absurd h (by decide)); conv => whnf) | (refine And.intro (fun h => absurd h (by decide)) (fun _ => ?_); conv => whnf) | (refine .eff (by first | exact cxOk _ _ | exact cxPOk _ _ _) ?_; conv => whnf))
      refine up hlt trivial ((wk_of [(0, .id 0)] rfl ⟨.base (.map _ _ rfl), .base (.tree _ _ rfl rfl), .base (.tree _ _ rfl rfl), .base (.tree _ _ rfl rfl), trivial⟩ ⟨⟨_, rfl, (by first | exact .imap _ _ _ _ _ _ rfl (by rw [← hmg]; exact hst.symm.trans hMn.symm) | exact .newimap _ _ _ _ _ _ _ _ rfl rfl (by rw [← hmg]; exact hst.symm.trans hMn.symm))⟩, trivial⟩))
    · simp only [decide_eq_false_iff_not] at hc
      rw [List.take_of_length_le (by omega)]
      conv => whnf
      rfl

theorem balance_ok (l : List Ent) (hl : l.length ≤ 9223372036854775807) (a : Int) : APureV Tryd.prog 11 [encEs l, .int .i64 a] (.int .i64 (balO l a)) := by
  have hb := balances_ok l hl
  have hg := accM_get l a
  generalize accM l = M at *
  refine apure_of (C := cx 9 [0, 1, 4]) (cxOk _ _) Tryd.func11 rfl (by decide) rfl (by exact Nat.le_of_ble_eq_true rfl) (by decide) ?_
  conv => whnf
  refine .one _ _ _ (fun _ => hb) (by repeat (first | exact .nil | (apply BorL.cons; first | exact lS rfl | exact lR rfl | exact lM rfl rfl | exact lL rfl | exact lX rfl | exact lN | exact lNl | exact lSm rfl | exact lIm rfl | exact lP rfl | exact lQ rfl | exact lB rfl rfl rfl))) (by first | exact .inl rfl | exact .inr (by repeat (first | exact flats_nil | refine flats_cons (by first | exact flat_val _ rfl | exact flat_row (fun _ => rfl) | exact flat_lst (fun _ => rfl)) ?_))) (by first | exact .inl rfl | exact .inr rfl) ?_
  conv => whnf
  rw [hg]
  repeat (first | (refine And.intro ⟨by omega, by omega⟩ ?_; conv => whnf) | (refine And.intro (by omega) (And.intro rfl ?_); conv => whnf) | (refine And.intro rfl ?_; conv => whnf) | (refine And.intro (fun _ => ⟨by omega, by omega⟩) ?_; conv => whnf) | (refine And.intro (fun _ => by omega) (And.intro rfl ?_); conv => whnf) | (refine And.intro ⟨(by first | omega | (simp; omega)), (by first | omega | (simp; omega))⟩ ?_; conv => whnf) | (refine Exists.intro _ (And.intro rfl (And.intro (by first | omega | (simp; omega)) (And.intro ⟨rfl, rfl, rfl, rfl, rfl⟩ ?_))); conv => whnf) | (refine And.intro ⟨rfl, rfl⟩ (And.intro (by first | omega | (simp; omega)) ?_); conv => whnf) | (refine Exists.intro _ (And.intro rfl ?_); conv => whnf) | (refine And.intro (fun _ => ?_) (fun h => absurd h (by decide)); conv => whnf) | (refine And.intro (fun h => absurd h (by decide)) (fun _ => ?_); conv => whnf) | (refine .quiet (by kernel_rfl) ?_; conv => whnf))
  rfl

theorem placeE_firstI (l : List Ent) (i : Int) : firstI (fun x : Ent => decide (x.id = i)) l = if placeE l i < l.length then (placeE l i : Int) else -1 := rfl
def eqE (a b : Ent) : Bool := decide (a.id = b.id) && (decide (a.day = b.day) && (decide (a.frm = b.frm) && (decide (a.to = b.to) && (decide (a.amt = b.amt) && true))))
theorem eqE_iff {a b : Ent} : eqE a b = true ↔ a = b := by
  cases a; cases b
  simp [eqE]

theorem post_ok' (l : List Ent) (hl : l.length ≤ 1000000) (e : Ent) : APure Tryd.prog 9 [encEs l, encE e] (fun rs => rs = [if postE l e = 0 then .new (.row 28 5 encE e0 (l ++ [e])) else .val .nils, .val (.int .i64 (postE l e))]) := by
  have hv := valid_ok l (by omega)
  have hr := right_ok e
  have hix := index_ok l (by omega) 26 (celE e) (fun x => decide (x.id = e.id)) (fun x _ => postfn_ok x e)
  rw [placeE_firstI] at hix
  have hcl := clone_ok l hl
  have hv2 := valid_ok (l ++ [e]) (by simp; omega)
  have hp1 : (!validB l || !rightE e) = true → postE l e = 1 := fun h => by unfold postE; rw [if_pos h]
  have hp2 : (!validB l || !rightE e) = false → postE l e = if placeE l e.id < l.length then (if l.getD (placeE l e.id) e0 = e then 5 else 24) else if validB (l ++ [e]) = true then 0 else 6 := fun h => by
    unfold postE
    rw [if_neg (by rw [h]; exact Bool.noConfusion)]
  generalize postE l e = pe at *
  generalize validB l = vl at *
  generalize rightE e = re at *
  generalize validB (l ++ [e]) = vn at *
  generalize hpl : placeE l e.id = pl at *
  refine apure_of (C := cx 36 [0, 1, 3, 4, 5, 6, 7, 15, 20, 26, 34]) (cxOk _ _) Tryd.func9 rfl (by decide) rfl (by exact Nat.le_of_ble_eq_true rfl) (by decide) ?_
  conv => whnf
  refine .one _ _ _ (fun _ => hv) (by repeat (first | exact .nil | (apply BorL.cons; first | exact lS rfl | exact lR rfl | exact lM rfl rfl | exact lL rfl | exact lX rfl | exact lN | exact lNl | exact lSm rfl | exact lIm rfl | exact lP rfl | exact lQ rfl | exact lB rfl rfl rfl))) (by first | exact .inl rfl | exact .inr (by repeat (first | exact flats_nil | refine flats_cons (by first | exact flat_val _ rfl | exact flat_row (fun _ => rfl) | exact flat_lst (fun _ => rfl)) ?_))) (by first | exact .inl rfl | exact .inr rfl) ?_
  conv => whnf
  refine .one _ _ _ (fun _ => hr) (by repeat (first | exact .nil | (apply BorL.cons; first | exact lS rfl | exact lR rfl | exact lM rfl rfl | exact lL rfl | exact lX rfl | exact lN | exact lNl | exact lSm rfl | exact lIm rfl | exact lP rfl | exact lQ rfl | exact lB rfl rfl rfl))) (by first | exact .inl rfl | exact .inr (by repeat (first | exact flats_nil | refine flats_cons (by first | exact flat_val _ rfl | exact flat_row (fun _ => rfl) | exact flat_lst (fun _ => rfl)) ?_))) (by first | exact .inl rfl | exact .inr rfl) ?_
  conv => whnf
  repeat (first | (refine And.intro ⟨by omega, by omega⟩ ?_; conv => whnf) | (refine And.intro (by omega) (And.intro rfl ?_); conv => whnf) | (refine And.intro rfl ?_; conv => whnf) | (refine And.intro (fun _ => ⟨by omega, by omega⟩) ?_; conv => whnf) | (refine And.intro (fun _ => by omega) (And.intro rfl ?_); conv => whnf) | (refine And.intro ⟨(by first | omega | (simp; omega)), (by first | omega | (simp; omega))⟩ ?_; conv => whnf) | (refine Exists.intro _ (And.intro rfl (And.intro (by first | omega | (simp; omega)) (And.intro ⟨rfl, rfl, rfl, rfl, rfl⟩ ?_))); conv => whnf) | (refine And.intro ⟨rfl, rfl⟩ (And.intro (by first | omega | (simp; omega)) ?_); conv => whnf) | (refine Exists.intro _ (And.intro rfl ?_); conv => whnf) | (refine And.intro (fun _ => ?_) (fun h => absurd h (by decide)); conv => whnf) | (refine And.intro (fun h => absurd h (by decide)) (fun _ => ?_); conv => whnf) | (refine .eff (by first | exact cxOk _ _ | exact cxPOk _ _ _) ?_; conv => whnf))
  refine ⟨fun h1 => ?_, fun h1 => ?_⟩
  · rw [hp1 h1]
    conv => whnf
    rfl
  have h2 := hp2 h1
  clear hp1 hp2
  conv => whnf
  refine .one _ _ _ (fun _ => hix) (by repeat (first | exact .nil | (apply BorL.cons; first | exact lS rfl | exact lR rfl | exact lM rfl rfl | exact lL rfl | exact lX rfl | exact lN | exact lNl | exact lSm rfl | exact lIm rfl | exact lP rfl | exact lQ rfl | exact lB rfl rfl rfl | exact .fn _ _ _ _ _ _ _ (by repeat (first | exact .nil | (apply BorL.cons; first | exact .base (.same _ rfl) | exact .base (.row _ _ _ _ _ _ rfl) | exact .base (.smap _ _ _ _ rfl) | exact .base (.imap _ _ _ _ _ rfl) | exact .box _ _ _ _ _ _ rfl (by repeat (first | exact .nil | (apply BorL.cons; first | exact .same _ rfl | exact .row _ _ _ _ _ _ rfl | exact .lstrow _ _ _ _ _ _ _ rfl rfl | exact .lst _ _ _ _ rfl | exact .smap _ _ _ _ rfl | exact .imap _ _ _ _ _ rfl))) (by first | exact allOne_spec rfl | simp [AV.one])))) (by repeat (first | exact .nil | (apply BorL.cons; first | exact .base (.same _ rfl) | exact .base (.row _ _ _ _ _ _ rfl) | exact .base (.smap _ _ _ _ rfl) | exact .base (.imap _ _ _ _ _ rfl) | exact .box _ _ _ _ _ _ rfl (by repeat (first | exact .nil | (apply BorL.cons; first | exact .same _ rfl | exact .row _ _ _ _ _ _ rfl | exact .lstrow _ _ _ _ _ _ _ rfl rfl | exact .lst _ _ _ _ rfl | exact .smap _ _ _ _ rfl | exact .imap _ _ _ _ _ rfl))) (by first | exact allOne_spec rfl | simp [AV.one])))) | exact .box _ _ _ _ _ _ rfl (by repeat (first | exact .nil | (apply BorL.cons; first | exact .base (.same _ rfl) | exact .base (.row _ _ _ _ _ _ rfl) | exact .base (.smap _ _ _ _ rfl) | exact .base (.imap _ _ _ _ _ rfl) | exact .box _ _ _ _ _ _ rfl (by repeat (first | exact .nil | (apply BorL.cons; first | exact .same _ rfl | exact .row _ _ _ _ _ _ rfl | exact .lstrow _ _ _ _ _ _ _ rfl rfl | exact .lst _ _ _ _ rfl | exact .smap _ _ _ _ rfl | exact .imap _ _ _ _ _ rfl))) (by first | exact allOne_spec rfl | simp [AV.one])))) (by first | exact allOne_spec rfl | simp [AV.one]) | exact .agg _ _ _ (by repeat (first | exact .nil | (apply BorL.cons; first | exact .base (.same _ rfl) | exact .base (.row _ _ _ _ _ _ rfl) | exact .base (.smap _ _ _ _ rfl) | exact .base (.imap _ _ _ _ _ rfl) | exact .box _ _ _ _ _ _ rfl (by repeat (first | exact .nil | (apply BorL.cons; first | exact .same _ rfl | exact .row _ _ _ _ _ _ rfl | exact .lstrow _ _ _ _ _ _ _ rfl rfl | exact .lst _ _ _ _ rfl | exact .smap _ _ _ _ rfl | exact .imap _ _ _ _ _ rfl))) (by first | exact allOne_spec rfl | simp [AV.one]))))))) (by first | exact .inl rfl | exact .inr (by repeat (first | exact flats_nil | refine flats_cons (by first | exact flat_val _ rfl | exact flat_row (fun _ => rfl) | exact flat_lst (fun _ => rfl)) ?_))) (by first | exact .inl rfl | exact .inr rfl) ?_
  conv => whnf
  repeat (first | (refine And.intro ⟨by omega, by omega⟩ ?_; conv => whnf) | (refine And.intro (by omega) (And.intro rfl ?_); conv => whnf) | (refine And.intro rfl ?_; conv => whnf) | (refine And.intro (fun _ => ⟨by omega, by omega⟩) ?_; conv => whnf) | (refine And.intro (fun _ => by omega) (And.intro rfl ?_); conv => whnf) | (refine And.intro ⟨(by first | omega | (simp; omega)), (by first | omega | (simp; omega))⟩ ?_; conv => whnf) | (refine Exists.intro _ (And.intro rfl (And.intro (by first | omega | (simp; omega)) (And.intro ⟨rfl, rfl, rfl, rfl, rfl⟩ ?_))); conv => whnf) | (refine And.intro ⟨rfl, rfl⟩ (And.intro (by first | omega | (simp; omega)) ?_); conv => whnf) | (refine Exists.intro _ (And.intro rfl ?_); conv => whnf) | (refine And.intro (fun _ => ?_) (fun h => absurd h (by decide)); conv => whnf) | (refine And.intro (fun h => absurd h (by decide)) (fun _ => ?_); conv => whnf) | (refine .eff (by first | exact cxOk _ _ | exact cxPOk _ _ _) ?_; conv => whnf))
  by_cases hlt : pl < l.length
  · rw [if_pos hlt] at h2 ⊢
    refine ⟨fun hx => ?_, fun hx => ?_⟩
    · conv => whnf
      repeat (first | (refine And.intro ⟨by omega, by omega⟩ ?_; conv => whnf) | (refine And.intro (by omega) (And.intro rfl ?_); conv => whnf) | (refine And.intro rfl ?_; conv => whnf) | (refine And.intro (fun _ => ⟨by omega, by omega⟩) ?_; conv => whnf) | (refine And.intro (fun _ => by omega) (And.intro rfl ?_); conv => whnf) | (refine And.intro ⟨(by first | omega | (simp; omega)), (by first | omega | (simp; omega))⟩ ?_; conv => whnf) | (refine Exists.intro _ (And.intro rfl (And.intro (by first | omega | (simp; omega)) (And.intro ⟨rfl, rfl, rfl, rfl, rfl⟩ ?_))); conv => whnf) | (refine And.intro ⟨rfl, rfl⟩ (And.intro (by first | omega | (simp; omega)) ?_); conv => whnf) | (refine Exists.intro _ (And.intro rfl ?_); conv => whnf) | (refine And.intro (fun _ => ?_) (fun h => absurd h (by decide)); conv => whnf) | (refine And.intro (fun h => absurd h (by decide)) (fun _ => ?_); conv => whnf) | (refine .quiet (by kernel_rfl) ?_; conv => whnf))
      have hlp : l.getD (pl : Int).toNat e0 = l.getD pl e0 := by rw [Int.toNat_natCast]
      rw [hlp]
      generalize l.getD pl e0 = y at *
      refine And.intro ⟨by kernel_rfl, by kernel_rfl⟩ ?_
      conv => whnf
      refine ⟨fun hy => ?_, fun hy => ?_⟩
      · have hy' : eqE y e = true := hy
        rw [if_pos (eqE_iff.1 hy')] at h2
        rw [h2]
        conv => whnf
        rfl
      · have hy' : eqE y e = false := hy
        rw [if_neg (fun h => by rw [eqE_iff.2 h] at hy'; cases hy')] at h2
        rw [h2]
        conv => whnf
        rfl
    · exact absurd (of_decide_eq_false hx) (by omega)
  · rw [if_neg hlt] at h2 ⊢
    refine ⟨fun hx => ?_, fun hx => ?_⟩
    · exact absurd (of_decide_eq_true hx) (by decide)
    conv => whnf
    refine .eff (by first | exact cxOk _ _ | exact cxPOk _ _ _) ?_
    conv => whnf
    refine .one _ _ _ (fun _ => hcl) (by repeat (first | exact .nil | (apply BorL.cons; first | exact lS rfl | exact lR rfl | exact lM rfl rfl | exact lL rfl | exact lX rfl | exact lN | exact lNl | exact lSm rfl | exact lIm rfl | exact lP rfl | exact lQ rfl | exact lB rfl rfl rfl))) (by first | exact .inl rfl | exact .inr (by repeat (first | exact flats_nil | refine flats_cons (by first | exact flat_val _ rfl | exact flat_row (fun _ => rfl) | exact flat_lst (fun _ => rfl)) ?_))) (by first | exact .inl rfl | exact .inr rfl) ?_
    conv => whnf
    repeat (first | (refine And.intro ⟨by omega, by omega⟩ ?_; conv => whnf) | (refine And.intro (by omega) (And.intro rfl ?_); conv => whnf) | (refine And.intro rfl ?_; conv => whnf) | (refine And.intro (fun _ => ⟨by omega, by omega⟩) ?_; conv => whnf) | (refine And.intro (fun _ => by omega) (And.intro rfl ?_); conv => whnf) | (refine And.intro ⟨(by first | omega | (simp; omega)), (by first | omega | (simp; omega))⟩ ?_; conv => whnf) | (refine Exists.intro _ (And.intro rfl (And.intro (by first | omega | (simp; omega)) (And.intro ⟨rfl, rfl, rfl, rfl, rfl⟩ ?_))); conv => whnf) | (refine And.intro ⟨rfl, rfl⟩ (And.intro (by first | omega | (simp; omega)) ?_); conv => whnf) | (refine Exists.intro _ (And.intro rfl ?_); conv => whnf) | (refine And.intro (fun _ => ?_) (fun h => absurd h (by decide)); conv => whnf) | (refine And.intro (fun h => absurd h (by decide)) (fun _ => ?_); conv => whnf) | (refine .eff (by first | exact cxOk _ _ | exact cxPOk _ _ _) ?_; conv => whnf))
    refine And.intro ⟨rfl, rfl⟩ (And.intro (show (l.length + 1) * 40 ≤ 140737488355328 by omega) ?_)
    conv => whnf
    refine ⟨e, rfl, ?_⟩
    conv => whnf
    repeat (first | (refine And.intro ⟨by omega, by omega⟩ ?_; conv => whnf) | (refine And.intro (by omega) (And.intro rfl ?_); conv => whnf) | (refine And.intro rfl ?_; conv => whnf) | (refine And.intro (fun _ => ⟨by omega, by omega⟩) ?_; conv => whnf) | (refine And.intro (fun _ => by omega) (And.intro rfl ?_); conv => whnf) | (refine And.intro ⟨(by first | omega | (simp; omega)), (by first | omega | (simp; omega))⟩ ?_; conv => whnf) | (refine Exists.intro _ (And.intro rfl (And.intro (by first | omega | (simp; omega)) (And.intro ⟨rfl, rfl, rfl, rfl, rfl⟩ ?_))); conv => whnf) | (refine And.intro ⟨rfl, rfl⟩ (And.intro (by first | omega | (simp; omega)) ?_); conv => whnf) | (refine Exists.intro _ (And.intro rfl ?_); conv => whnf) | (refine And.intro (fun _ => ?_) (fun h => absurd h (by decide)); conv => whnf) | (refine And.intro (fun h => absurd h (by decide)) (fun _ => ?_); conv => whnf) | (refine .eff (by first | exact cxOk _ _ | exact cxPOk _ _ _) ?_; conv => whnf))
    refine .one _ _ _ (fun _ => hv2) (by repeat (first | exact .nil | (apply BorL.cons; first | exact lS rfl | exact lR rfl | exact lM rfl rfl | exact lL rfl | exact lX rfl | exact lN | exact lNl | exact lSm rfl | exact lIm rfl | exact lP rfl | exact lQ rfl | exact lB rfl rfl rfl))) (by first | exact .inl rfl | exact .inr (by repeat (first | exact flats_nil | refine flats_cons (by first | exact flat_val _ rfl | exact flat_row (fun _ => rfl) | exact flat_lst (fun _ => rfl)) ?_))) (by first | exact .inl rfl | exact .inr rfl) ?_
    conv => whnf
    cases vn with
    | true =>
      rw [if_pos rfl] at h2
      refine ⟨fun hy => ?_, fun hy => ?_⟩
      · cases hy
      rw [h2]
      conv => whnf
      rfl
    | false =>
      rw [if_neg Bool.noConfusion] at h2
      refine ⟨fun hy => ?_, fun hy => ?_⟩
      · rw [h2]
        conv => whnf
        rfl
      · cases hy

end Go.Proofs.YtglalejjcfcfkaaDoor

/-
  DERIVED: THE SHELF's CONTRACTS AT THIS DUMP, IN PLAIN WORDS (tools/lay-plain.mjs out of 'LgShelf0.lean', which tools/lay-shelf.mjs wrote): THE SAME DECLARATIONS UNDER THE SAME NAMES: 'import', 'namespace', 'open', 'def', 'theorem' AND NOTHING ELSE: no command of the shelf's: FOR A HAND-IN. Each laying: the table of numbers ('.._ren') and one theorem, a field a fact of the dump's own or the kernel's comparison; each contract: ONE APPLICATION.
-/
namespace Go.Proofs.YtglalejjcfcfkaaDoor
open Go.Proofs Go.Shelf
def Tryd.keysA_ren : Go.Shelf.Ren := ⟨fun | 7 => 29 | 10 => 44 | n => n, fun | 23 => 48 | 26 => 3 | 3 => 3 | 28 => 46 | 0 => 0 | 27 => 45 | 33 => 62 | 4 => 4 | n => n, fun | n => n⟩
theorem Tryd.keysA : Go.Proofs.SlLaysZI.n7 Tryd.prog Tryd.keysA_ren := {
  mixed := by kernel_rfl
  f7 := ⟨Tryd.f29.name, by decide, Tryd.func29.trans (congrArg some (by kernel_rfl))⟩
  f10 := ⟨Tryd.f44.name, by decide, Tryd.func44.trans (congrArg some (by kernel_rfl))⟩
  t0 := Tryd.underlying0
  a0 := Tryd.isAgg0
  z0 := Tryd.sizeOf0
  v0 := Tryd.zeroValue0
  t4 := Tryd.underlying4
  a4 := Tryd.isAgg4
  z4 := Tryd.sizeOf4
  v4 := Tryd.zeroValue4
  t23 := Tryd.underlying48
  a23 := Tryd.isAgg48
  z23 := Tryd.sizeOf48
  v23 := Tryd.zeroValue48
  t26 := Tryd.underlying3
  a26 := Tryd.isAgg3
  z26 := Tryd.sizeOf3
  v26 := Tryd.zeroValue3
  t27 := Tryd.underlying45
  a27 := Tryd.isAgg45
  z27 := Tryd.sizeOf45
  v27 := Tryd.zeroValue45
  t28 := Tryd.underlying46
  a28 := Tryd.isAgg46
  z28 := Tryd.sizeOf46
  v28 := Tryd.zeroValue46
  t33 := Tryd.underlying62
  a33 := Tryd.isAgg62
  z33 := Tryd.sizeOf62
  v33 := Tryd.zeroValue62 }
def Tryd.sortedA_ren : Go.Shelf.Ren := ⟨fun | 6 => 28 | 8 => 42 | 9 => 43 | 11 => 49 | 13 => 51 | 12 => 50 | 23 => 68 | 24 => 69 | 14 => 59 | 15 => 60 | 16 => 61 | 17 => 62 | 18 => 63 | 19 => 64 | 20 => 65 | 21 => 66 | 22 => 67 | 25 => 75 | 26 => 76 | 27 => 77 | 28 => 78 | 29 => 79 | 30 => 80 | 31 => 88 | n => n, fun | 26 => 3 | 28 => 46 | 24 => 29 | 0 => 0 | 3 => 3 | 37 => 72 | 48 => 88 | 50 => 90 | 4 => 4 | 40 => 80 | 39 => 79 | 45 => 85 | 5 => 5 | 9 => 9 | 51 => 94 | 55 => 54 | 57 => 106 | 58 => 107 | 33 => 62 | n => n, fun | n => n⟩
theorem Tryd.sortedA : Go.Proofs.SlLaysZI.n6 Tryd.prog Tryd.sortedA_ren := {
  mixed := by kernel_rfl
  f6 := ⟨Tryd.f28.name, by decide, Tryd.func28.trans (congrArg some (by kernel_rfl))⟩
  f8 := ⟨Tryd.f42.name, by decide, Tryd.func42.trans (congrArg some (by kernel_rfl))⟩
  f11 := ⟨Tryd.f49.name, by decide, Tryd.func49.trans (congrArg some (by kernel_rfl))⟩
  t0 := Tryd.underlying0
  a0 := Tryd.isAgg0
  z0 := Tryd.sizeOf0
  v0 := Tryd.zeroValue0
  t24 := Tryd.underlying29
  a24 := Tryd.isAgg29
  z24 := Tryd.sizeOf29
  v24 := Tryd.zeroValue29
  t26 := Tryd.underlying3
  a26 := Tryd.isAgg3
  z26 := Tryd.sizeOf3
  v26 := Tryd.zeroValue3
  t28 := Tryd.underlying46
  a28 := Tryd.isAgg46
  z28 := Tryd.sizeOf46
  v28 := Tryd.zeroValue46
  i26 := by kernel_rfl }
def Tryd.sortA_ren : Go.Shelf.Ren := ⟨fun | 5 => 43 | 8 => 51 | 7 => 50 | 19 => 68 | 20 => 69 | 10 => 59 | 11 => 60 | 12 => 61 | 13 => 62 | 14 => 63 | 15 => 64 | 16 => 65 | 17 => 66 | 18 => 67 | 30 => 75 | 31 => 76 | 32 => 77 | 33 => 78 | 34 => 79 | 35 => 80 | 40 => 88 | n => n, fun | 23 => 29 | 25 => 3 | 3 => 3 | 32 => 72 | 22 => 29 | 0 => 0 | 44 => 88 | 46 => 90 | 4 => 4 | 36 => 80 | 35 => 79 | 41 => 85 | 5 => 5 | 9 => 9 | 53 => 94 | 57 => 54 | 63 => 106 | 64 => 107 | n => n, fun | n => n⟩
theorem Tryd.sortA : Go.Proofs.SlLaysM.n5 Tryd.prog Tryd.sortA_ren := {
  mixed := by kernel_rfl
  f5 := ⟨Tryd.f43.name, by decide, Tryd.func43.trans (congrArg some (by kernel_rfl))⟩
  f7 := ⟨Tryd.f50.name, by decide, Tryd.func50.trans (congrArg some (by kernel_rfl))⟩
  f8 := Tryd.func51.trans (congrArg some (by kernel_rfl))
  f10 := ⟨Tryd.f59.name, by decide, Tryd.func59.trans (congrArg some (by kernel_rfl))⟩
  f11 := ⟨Tryd.f60.name, by decide, Tryd.func60.trans (congrArg some (by kernel_rfl))⟩
  f12 := ⟨Tryd.f61.name, by decide, Tryd.func61.trans (congrArg some (by kernel_rfl))⟩
  f13 := ⟨Tryd.f62.name, by decide, Tryd.func62.trans (congrArg some (by kernel_rfl))⟩
  f14 := ⟨Tryd.f63.name, by decide, Tryd.func63.trans (congrArg some (by kernel_rfl))⟩
  f15 := ⟨Tryd.f64.name, by decide, Tryd.func64.trans (congrArg some (by kernel_rfl))⟩
  f16 := ⟨Tryd.f65.name, by decide, Tryd.func65.trans (congrArg some (by kernel_rfl))⟩
  f17 := ⟨Tryd.f66.name, by decide, Tryd.func66.trans (congrArg some (by kernel_rfl))⟩
  f18 := ⟨Tryd.f67.name, by decide, Tryd.func67.trans (congrArg some (by kernel_rfl))⟩
  f19 := Tryd.func68.trans (congrArg some (by kernel_rfl))
  f20 := Tryd.func69.trans (congrArg some (by kernel_rfl))
  f30 := ⟨Tryd.f75.name, by decide, Tryd.func75.trans (congrArg some (by kernel_rfl))⟩
  f31 := Tryd.func76.trans (congrArg some (by kernel_rfl))
  f32 := Tryd.func77.trans (congrArg some (by kernel_rfl))
  f33 := ⟨Tryd.f78.name, by decide, Tryd.func78.trans (congrArg some (by kernel_rfl))⟩
  f34 := ⟨Tryd.f79.name, by decide, Tryd.func79.trans (congrArg some (by kernel_rfl))⟩
  f35 := ⟨Tryd.f80.name, by decide, Tryd.func80.trans (congrArg some (by kernel_rfl))⟩
  f40 := ⟨Tryd.f88.name, by decide, Tryd.func88.trans (congrArg some (by kernel_rfl))⟩
  t0 := Tryd.underlying0
  a0 := Tryd.isAgg0
  z0 := Tryd.sizeOf0
  v0 := Tryd.zeroValue0
  t3 := Tryd.underlying3
  a3 := Tryd.isAgg3
  z3 := Tryd.sizeOf3
  v3 := Tryd.zeroValue3
  t4 := Tryd.underlying4
  a4 := Tryd.isAgg4
  z4 := Tryd.sizeOf4
  v4 := Tryd.zeroValue4
  t5 := Tryd.underlying5
  a5 := Tryd.isAgg5
  z5 := Tryd.sizeOf5
  v5 := Tryd.zeroValue5
  t9 := Tryd.underlying9
  a9 := Tryd.isAgg9
  z9 := Tryd.sizeOf9
  v9 := Tryd.zeroValue9
  t22 := Tryd.underlying29
  a22 := Tryd.isAgg29
  z22 := Tryd.sizeOf29
  v22 := Tryd.zeroValue29
  t23 := Tryd.underlying29
  a23 := Tryd.isAgg29
  z23 := Tryd.sizeOf29
  v23 := Tryd.zeroValue29
  t25 := Tryd.underlying3
  a25 := Tryd.isAgg3
  z25 := Tryd.sizeOf3
  v25 := Tryd.zeroValue3
  t32 := Tryd.underlying72
  a32 := Tryd.isAgg72
  z32 := Tryd.sizeOf72
  v32 := Tryd.zeroValue72
  t35 := Tryd.underlying79
  a35 := Tryd.isAgg79
  z35 := Tryd.sizeOf79
  v35 := Tryd.zeroValue79
  t36 := Tryd.underlying80
  a36 := Tryd.isAgg80
  z36 := Tryd.sizeOf80
  v36 := Tryd.zeroValue80
  t41 := Tryd.underlying85
  a41 := Tryd.isAgg85
  z41 := Tryd.sizeOf85
  v41 := Tryd.zeroValue85
  t44 := Tryd.underlying88
  a44 := Tryd.isAgg88
  z44 := Tryd.sizeOf88
  v44 := Tryd.zeroValue88
  t46 := Tryd.underlying90
  a46 := Tryd.isAgg90
  z46 := Tryd.sizeOf90
  v46 := Tryd.zeroValue90
  t53 := Tryd.underlying94
  a53 := Tryd.isAgg94
  z53 := Tryd.sizeOf94
  v53 := Tryd.zeroValue94
  t57 := Tryd.underlying54
  a57 := Tryd.isAgg54
  z57 := Tryd.sizeOf54
  v57 := Tryd.zeroValue54
  t63 := Tryd.underlying106
  a63 := Tryd.isAgg106
  z63 := Tryd.sizeOf106
  v63 := Tryd.zeroValue106
  t64 := Tryd.underlying107
  a64 := Tryd.isAgg107
  z64 := Tryd.sizeOf107
  v64 := Tryd.zeroValue107 }
def Tryd.itoaA_ren : Go.Shelf.Ren := ⟨fun | 171 => 55 | 243 => 73 | 246 => 87 | 283 => 92 | 284 => 93 | 285 => 94 | 286 => 95 | 129 => 69 | 317 => 98 | 318 => 99 | 319 => 100 | 320 => 101 | 337 => 102 | 338 => 103 | n => n, fun | 3 => 3 | 9 => 9 | 2 => 2 | 4 => 4 | 171 => 115 | 0 => 0 | 53 => 90 | 37 => 93 | 5 => 5 | 173 => 117 | 212 => 127 | 51 => 88 | 20 => 20 | 213 => 128 | 46 => 72 | 232 => 129 | 233 => 130 | n => n, fun | 17 => 3 | 18 => 4 | 19 => 5 | n => n⟩
theorem Tryd.itoaA : Go.Proofs.Lays.n171 Tryd.prog Tryd.itoaA_ren := {
  mixed := by kernel_rfl
  f129 := Tryd.func69.trans (congrArg some (by kernel_rfl))
  f171 := Tryd.func55.trans (congrArg some (by kernel_rfl))
  f243 := Tryd.func73.trans (congrArg some (by kernel_rfl))
  f246 := Tryd.func87.trans (congrArg some (by kernel_rfl))
  f283 := Tryd.func92.trans (congrArg some (by kernel_rfl))
  f284 := Tryd.func93.trans (congrArg some (by kernel_rfl))
  f285 := Tryd.func94.trans (congrArg some (by kernel_rfl))
  f286 := Tryd.func95.trans (congrArg some (by kernel_rfl))
  f317 := Tryd.func98.trans (congrArg some (by kernel_rfl))
  f318 := Tryd.func99.trans (congrArg some (by kernel_rfl))
  f319 := Tryd.func100.trans (congrArg some (by kernel_rfl))
  f320 := Tryd.func101.trans (congrArg some (by kernel_rfl))
  f337 := Tryd.func102.trans (congrArg some (by kernel_rfl))
  f338 := Tryd.func103.trans (congrArg some (by kernel_rfl))
  t0 := Tryd.underlying0
  a0 := Tryd.isAgg0
  z0 := Tryd.sizeOf0
  v0 := Tryd.zeroValue0
  t2 := Tryd.underlying2
  a2 := Tryd.isAgg2
  z2 := Tryd.sizeOf2
  v2 := Tryd.zeroValue2
  t3 := Tryd.underlying3
  a3 := Tryd.isAgg3
  z3 := Tryd.sizeOf3
  v3 := Tryd.zeroValue3
  t4 := Tryd.underlying4
  a4 := Tryd.isAgg4
  z4 := Tryd.sizeOf4
  v4 := Tryd.zeroValue4
  t5 := Tryd.underlying5
  a5 := Tryd.isAgg5
  z5 := Tryd.sizeOf5
  v5 := Tryd.zeroValue5
  t9 := Tryd.underlying9
  a9 := Tryd.isAgg9
  z9 := Tryd.sizeOf9
  v9 := Tryd.zeroValue9
  t20 := Tryd.underlying20
  a20 := Tryd.isAgg20
  z20 := Tryd.sizeOf20
  v20 := Tryd.zeroValue20
  t37 := Tryd.underlying93
  a37 := Tryd.isAgg93
  z37 := Tryd.sizeOf93
  v37 := Tryd.zeroValue93
  t46 := Tryd.underlying72
  a46 := Tryd.isAgg72
  z46 := Tryd.sizeOf72
  v46 := Tryd.zeroValue72
  t51 := Tryd.underlying88
  a51 := Tryd.isAgg88
  z51 := Tryd.sizeOf88
  v51 := Tryd.zeroValue88
  t53 := Tryd.underlying90
  a53 := Tryd.isAgg90
  z53 := Tryd.sizeOf90
  v53 := Tryd.zeroValue90
  t171 := Tryd.underlying115
  a171 := Tryd.isAgg115
  z171 := Tryd.sizeOf115
  v171 := Tryd.zeroValue115
  t173 := Tryd.underlying117
  a173 := Tryd.isAgg117
  z173 := Tryd.sizeOf117
  v173 := Tryd.zeroValue117
  t212 := Tryd.underlying127
  a212 := Tryd.isAgg127
  z212 := Tryd.sizeOf127
  v212 := Tryd.zeroValue127
  t213 := Tryd.underlying128
  a213 := Tryd.isAgg128
  z213 := Tryd.sizeOf128
  t232 := Tryd.underlying129
  a232 := Tryd.isAgg129
  z232 := Tryd.sizeOf129
  v232 := Tryd.zeroValue129
  t233 := Tryd.underlying130
  a233 := Tryd.isAgg130
  z233 := Tryd.sizeOf130
  v233 := Tryd.zeroValue130
  g17 := by kernel_rfl
  g18 := by kernel_rfl
  g19 := by kernel_rfl }
end Go.Proofs.YtglalejjcfcfkaaDoor

namespace Go.Proofs.YtglalejjcfcfkaaDoor
open Go.Own Go.Shelf Go.Proofs Go.RowKit
set_option maxHeartbeats 4000000
set_option maxRecDepth 100000

theorem sorts_c (m : Nat) : AnyZI.SortsIn Tryd.prog Tryd.sortedA_ren Fence.wide m :=
  ⟨fun blk off cap ss W hH hblk hsz => callsIn_wide.2 (AnyM.slices_Sort_int Tryd.sortA blk off cap ss W hH hblk hsz),
   fun p cap W => callsIn_wide.2 (AnyM.slices_Sort_int_none Tryd.sortA p cap W)⟩

theorem keys_c (id : Nat) (H : Heap) (nx : Nat) :
    CallSem Tryd.prog 29 [.map id] H nx [] (fun r => r = ⟨.fn (.func 44) [] [.ptr nx 0], [], [(nx, .cells 48 [.map id])], nx + 1⟩) :=
  keysI_sem (ρ := Tryd.keysA_ren) Tryd.keysA (fn := Tryd.f29) Tryd.func29 rfl (by decide) (.inl ⟨_, rfl⟩) H nx

theorem sorted_c {H : Heap} {nx bid id : Nat} {es : List (Int × Int)} (hbox : lkH H bid = .cells 48 [.map id]) (hid : lkH H id = .imap .i64 encI 0 es) (hwf : ∀ p ∈ es, (Lit.int .i64 p.1).wf = true) (hmax : es.length ≤ 1000000) :
    CallSem Tryd.prog 28 [.fn (.func 44) [] [.ptr bid 0]] H nx [bid, id] (fun r => r = ⟨.own nx, [bid, id], [(nx, .row 3 1 encI 0 (keysI es))], nx + 1⟩) :=
  sortedKeysI_sem (ρ := Tryd.keysA_ren) (ρs := Tryd.sortedA_ren) Tryd.keysA Tryd.sortedA sorts_c (fn6 := Tryd.f28) Tryd.func28 rfl (by decide) (enters_of Tryd.func43 (by kernel_rfl) rfl) (enters_of Tryd.func44 (by kernel_rfl) rfl) rfl (et := 3) rfl (by kernel_rfl) hbox (.inl ⟨_, rfl, rfl, hid⟩) encI 0 (fun _ => rfl) hwf hmax

theorem accM_wf (l : List Ent) : ∀ p ∈ accM l, (Lit.int .i64 p.1).wf = true := by
  intro p hp
  unfold accM at hp
  split at hp
  · rename_i hv
    have ok := (validB_iff.1 hv).2
    obtain ⟨e, he, h⟩ := (balM_key l p.1).1 (List.mem_map.2 ⟨p, hp, rfl⟩)
    have hr := rightE_iff.1 (ok.right e he)
    have e1 : IntKind.i64.min = -9223372036854775808 := by rfl
    have e2 : IntKind.i64.max = 9223372036854775807 := by rfl
    simp only [Lit.wf, e1, e2, Bool.and_eq_true, decide_eq_true_eq]
    omega
  · cases hp
theorem accM_len (l : List Ent) : (accM l).length ≤ 1000000 := by
  unfold accM
  split
  · rename_i hv
    have := (validB_iff.1 hv).1
    have := balM_len l
    omega
  · exact Nat.zero_le _

theorem accounts_ok (l : List Ent) (hl : l.length ≤ 9223372036854775807) : APure Tryd.prog 10 [encEs l] (fun rs => rs = [.new (.row 3 1 encI 0 (accL l))]) := by
  have hb := balances_ok l hl
  have hwf := accM_wf l
  have hmax := accM_len l
  unfold accL
  generalize accM l = M at *
  refine apure_of (C := cx 7 [0, 2]) (cxOk _ _) Tryd.func10 rfl (by decide) rfl (by exact Nat.le_of_ble_eq_true rfl) (by decide) ?_
  conv => whnf
  refine .one _ _ _ (fun _ => hb) (by repeat (first | exact .nil | (apply BorL.cons; first | exact lS rfl | exact lR rfl | exact lM rfl rfl | exact lL rfl | exact lX rfl | exact lN | exact lNl | exact lSm rfl | exact lIm rfl | exact lP rfl | exact lQ rfl | exact lB rfl rfl rfl))) (by first | exact .inl rfl | exact .inr (by repeat (first | exact flats_nil | refine flats_cons (by first | exact flat_val _ rfl | exact flat_row (fun _ => rfl) | exact flat_lst (fun _ => rfl)) ?_))) (by first | exact .inl rfl | exact .inr rfl) ?_
  conv => whnf
  refine .raw _ _ rfl (fun h => by cases h) (keys_c _ _ _) ?_
  rintro r rfl
  refine ⟨Nat.le_succ _, ?_⟩
  conv => whnf
  refine .raw _ _ rfl (fun h => by cases h) (sorted_c (id := 0) (bid := 1) rfl rfl hwf hmax) ?_
  rintro r rfl
  refine ⟨Nat.le_succ _, ?_⟩
  conv => whnf
  rfl

end Go.Proofs.YtglalejjcfcfkaaDoor

namespace Go.Proofs.YtglalejjcfcfkaaDoor
open Go.Own
set_option maxHeartbeats 1000000
set_option maxRecDepth 100000

theorem tab_pow (S : Blocks) (w : World) (h : TabAt S w) : Lib.TabIs Tryd.prog w "internal/strconv.uint64pow10" .u64 Lib.pow10Tab := by
  obtain ⟨_, cs, e, fz, h1, h2⟩ := h 3 _ rfl
  have hg : Tryd.prog.globalNamed "internal/strconv.uint64pow10" = some 3 := by kernel_rfl
  have h2' : cs = (Lib.pow10Tab.map fun z => Value.int .u64 z).toArray := h2
  unfold Lib.TabIs World.var?
  rw [hg]
  show (match w.heap[3]? with | some (.cells cs _ _) => some cs | _ => none) = _
  rw [h1, h2']
theorem tab_err (S : Blocks) (w : World) (h : TabAt S w) (g : Nat) (hg : Tabs.held g = some isErr) : ∃ ev, w.cell? ⟨g, 0, none⟩ = some ev ∧ (ev = .nilIface ∨ ∃ te pe, ev = .iface te pe) := by
  obtain ⟨_, cs, e, fz, h1, te, pe, h2⟩ := h g _ hg
  refine ⟨.iface te pe, ?_, .inr ⟨te, pe, rfl⟩⟩
  rw [Lib.cell_of_heap h1]
  exact h2
theorem itoa_c (n : Int) (h0 : -9223372036854775808 ≤ n) (h1 : n ≤ 9223372036854775807) : APureV Tryd.prog 55 [.int .i64 n] (.str (Lib.itoa n)) :=
  itoa_ok Tryd.itoaB ⟨_, Tryd.func55, rfl, by decide⟩ tab_pow n h0 h1
theorem atoi_c (s : List UInt8) (hs : s.length ≤ 281474976710656) : APure Tryd.prog 54 [.str s] (fun rs => rs = (atoiR s).map .val) :=
  atoi_ok Tryd.atoiA ⟨_, Tryd.func54, rfl, by decide⟩ (fun S w h => ⟨tab_err S w h 1 rfl, tab_err S w h 2 rfl⟩) s hs
theorem index_c (s : List UInt8) (c : Int) : APureV Tryd.prog 52 [.str s, .int .u8 c] (.int .i64 (Lib.indexByte s c.toNat.toUInt8)) :=
  Go.Own.index_ok Tryd.indexA ⟨_, Tryd.func52, rfl, by decide⟩ s c
theorem callSem_congr [Tabs] {P : Program} {f : FuncId} {avs : List AV} {H H' : Heap} {nx : Nat} {t : List Nat} {Rr : Res → Prop} (h : CallSem P f avs H nx t Rr) (he : ∀ id ∈ t, lkH H id = lkH H' id) : CallSem P f avs H' nx t Rr :=
  ⟨h.1, fun m S w H₂ vs hG ht => h.2 m S w H₂ vs hG fun id hid => by rw [ht id hid, he id hid]⟩
def encS (s : List UInt8) : AV := .str s
def in64 (n : Int) : Prop := -9223372036854775808 ≤ n ∧ n ≤ 9223372036854775807
def intS (n : Int) : List UInt8 := Lib.itoa n ++ [59]
def numS (n : Int) : List UInt8 := if n < 0 then [] else intS n
theorem intW_ok (n : Int) (hn : in64 n) : APureV Tryd.prog 47 [.int .i64 n] (.str (intS n)) := by
  have hi := itoa_c n hn.1 hn.2
  have hl := Lib.itoa_length_le n hn.1 hn.2
  refine apure_of (C := cx 6 [0, 2]) (cxOk _ _) Tryd.func47 rfl (by decide) rfl (by exact Nat.le_of_ble_eq_true rfl) (by decide) ?_
  conv => whnf
  refine .one _ _ _ (fun _ => hi) (by repeat (first | exact .nil | (apply BorL.cons; first | exact lS rfl | exact lR rfl | exact lM rfl rfl | exact lL rfl | exact lX rfl | exact lN | exact lNl | exact lSm rfl | exact lIm rfl | exact lP rfl | exact lQ rfl | exact lB rfl rfl rfl))) (by first | exact .inl rfl | exact .inr (by repeat (first | exact flats_nil | refine flats_cons (by first | exact flat_val _ rfl | exact flat_row (fun _ => rfl) | exact flat_lst (fun _ => rfl)) ?_))) (by first | exact .inl rfl | exact .inr rfl) ?_
  conv => whnf
  repeat (first | (refine And.intro ⟨by omega, by omega⟩ ?_; conv => whnf) | (refine And.intro (by omega) (And.intro rfl ?_); conv => whnf) | (refine And.intro rfl ?_; conv => whnf) | (refine And.intro (fun _ => ⟨by omega, by omega⟩) ?_; conv => whnf) | (refine And.intro (fun _ => by omega) (And.intro rfl ?_); conv => whnf) | (refine And.intro ⟨(by first | omega | (simp; omega)), (by first | omega | (simp; omega))⟩ ?_; conv => whnf) | (refine Exists.intro _ (And.intro rfl (And.intro (by first | omega | (simp; omega)) (And.intro ⟨rfl, rfl, rfl, rfl, rfl⟩ ?_))); conv => whnf) | (refine And.intro ⟨rfl, rfl⟩ (And.intro (by first | omega | (simp; omega)) ?_); conv => whnf) | (refine Exists.intro _ (And.intro rfl ?_); conv => whnf) | (refine And.intro (fun _ => ?_) (fun h => absurd h (by decide)); conv => whnf) | (refine And.intro (fun h => absurd h (by decide)) (fun _ => ?_); conv => whnf) | (refine .quiet (by kernel_rfl) ?_; conv => whnf))
  refine And.intro (show (((Lib.itoa n).length + 1 : Nat) : Int) ≤ 9223372036854775807 by omega) ?_
  conv => whnf
  rfl
theorem numW_ok (n : Int) (hn : in64 n) : APureV Tryd.prog 40 [.int .i64 n] (.str (numS n)) := by
  have hi := intW_ok n hn
  refine apure_of (C := cx 7 [0, 2, 4]) (cxOk _ _) Tryd.func40 rfl (by decide) rfl (by exact Nat.le_of_ble_eq_true rfl) (by decide) ?_
  conv => whnf
  refine ⟨fun hc => ?_, fun hc => ?_⟩
  · conv => whnf
    unfold numS
    rw [if_pos (of_decide_eq_true hc)]
    rfl
  · conv => whnf
    refine .one _ _ _ (fun _ => hi) (by repeat (first | exact .nil | (apply BorL.cons; first | exact lS rfl | exact lR rfl | exact lM rfl rfl | exact lL rfl | exact lX rfl | exact lN | exact lNl | exact lSm rfl | exact lIm rfl | exact lP rfl | exact lQ rfl | exact lB rfl rfl rfl))) (by first | exact .inl rfl | exact .inr (by repeat (first | exact flats_nil | refine flats_cons (by first | exact flat_val _ rfl | exact flat_row (fun _ => rfl) | exact flat_lst (fun _ => rfl)) ?_))) (by first | exact .inl rfl | exact .inr rfl) ?_
    conv => whnf
    repeat (first | (refine And.intro ⟨by omega, by omega⟩ ?_; conv => whnf) | (refine And.intro (by omega) (And.intro rfl ?_); conv => whnf) | (refine And.intro rfl ?_; conv => whnf) | (refine And.intro (fun _ => ⟨by omega, by omega⟩) ?_; conv => whnf) | (refine And.intro (fun _ => by omega) (And.intro rfl ?_); conv => whnf) | (refine And.intro ⟨(by first | omega | (simp; omega)), (by first | omega | (simp; omega))⟩ ?_; conv => whnf) | (refine Exists.intro _ (And.intro rfl (And.intro (by first | omega | (simp; omega)) (And.intro ⟨rfl, rfl, rfl, rfl, rfl⟩ ?_))); conv => whnf) | (refine And.intro ⟨rfl, rfl⟩ (And.intro (by first | omega | (simp; omega)) ?_); conv => whnf) | (refine Exists.intro _ (And.intro rfl ?_); conv => whnf) | (refine And.intro (fun _ => ?_) (fun h => absurd h (by decide)); conv => whnf) | (refine And.intro (fun h => absurd h (by decide)) (fun _ => ?_); conv => whnf) | (refine .quiet (by kernel_rfl) ?_; conv => whnf))
    unfold numS
    rw [if_neg (of_decide_eq_false hc)]
    rfl
theorem failW_ok (s : List UInt8) (b : Bool) : AIO Tryd.prog 53 [.ptr 0 0] [.cells 64 [.str s, .bool b]] (fun bs rs => bs = [.cells 64 [.str [], .bool true]] ∧ rs = []) := by
  refine aio_of (C := cxP 1 8 [0]) (cxPOk _ _ _) Tryd.func53 rfl (by decide) rfl (by exact Nat.le_of_ble_eq_true rfl) (by decide) rfl rfl ?_
  conv => whnf
  exact ⟨rfl, rfl⟩
def numR (c : Int) (least : Int) (s : List UInt8) : Option (Int × List UInt8) :=
  let at_ := Lib.indexByte (s.take (min s.length 21)) c.toNat.toUInt8
  if at_ < 0 then none
  else match Lib.atoiAll ((s.take (min s.length 21)).take at_.toNat) with
    | .ok n => if Lib.itoa n = (s.take (min s.length 21)).take at_.toNat ∧ least ≤ n then some (n, s.drop (at_.toNat + 1)) else none
    | _ => none
/-- What is left of a reader. -/
def rd (o : Option (List UInt8)) (b : Bool) : AB :=
  match o with
  | some r => .cells 64 [.str r, .bool b]
  | none => .cells 64 [.str [], .bool true]
theorem numberW_ok (c least : Int) (s : List UInt8) (b : Bool) (hs : s.length ≤ 9223372036854775000) : AIO Tryd.prog 45 [.ptr 0 0, .int .u8 c, .int .i64 least] [.cells 64 [.str s, .bool b]] (fun bs rs => bs = [rd ((numR c least s).map (·.2)) b] ∧ rs = [.val (.int .i64 (((numR c least s).map (·.1)).getD 0))]) := by
  have hm : (min (s.length : Int) 21).toNat = min s.length 21 := by omega
  have hi := index_c (s.take (min (s.length : Int) 21).toNat) c
  have hR : numR c least s = if Lib.indexByte (s.take (min s.length 21)) c.toNat.toUInt8 < 0 then none
      else match Lib.atoiAll ((s.take (min s.length 21)).take (Lib.indexByte (s.take (min s.length 21)) c.toNat.toUInt8).toNat) with
        | .ok n => if Lib.itoa n = (s.take (min s.length 21)).take (Lib.indexByte (s.take (min s.length 21)) c.toNat.toUInt8).toNat ∧ least ≤ n then some (n, s.drop ((Lib.indexByte (s.take (min s.length 21)) c.toNat.toUInt8).toNat + 1)) else none
        | _ => none := rfl
  rw [hm] at hi
  have hml : (s.take (min s.length 21)).length = min s.length 21 := by rw [List.length_take]; omega
  generalize hh : s.take (min s.length 21) = h at *
  generalize ha : Lib.indexByte h c.toNat.toUInt8 = p at *
  have hcut : s.take (min (s.length : Int) 21).toNat = h := by rw [hm, hh]
  refine aio_of (C := cxP 1 64 [0, 1, 2, 6, 7, 8, 9, 10, 26, 50]) (cxPOk _ _ _) Tryd.func45 rfl (by decide) rfl (by exact Nat.le_of_ble_eq_true rfl) (by decide) rfl rfl ?_
  conv => whnf
  refine .quiet (by kernel_rfl) ?_
  conv => whnf
  repeat (first | (refine And.intro ⟨by omega, by omega⟩ ?_; conv => whnf) | (refine And.intro (by omega) (And.intro rfl ?_); conv => whnf) | (refine And.intro rfl ?_; conv => whnf) | (refine And.intro (fun _ => ⟨by omega, by omega⟩) ?_; conv => whnf) | (refine And.intro (fun _ => by omega) (And.intro rfl ?_); conv => whnf) | (refine And.intro ⟨(by first | omega | (simp; omega)), (by first | omega | (simp; omega))⟩ ?_; conv => whnf) | (refine Exists.intro _ (And.intro rfl (And.intro (by first | omega | (simp; omega)) (And.intro ⟨rfl, rfl, rfl, rfl, rfl⟩ ?_))); conv => whnf) | (refine And.intro ⟨rfl, rfl⟩ (And.intro (by first | omega | (simp; omega)) ?_); conv => whnf) | (refine Exists.intro _ (And.intro rfl ?_); conv => whnf) | (refine And.intro (fun _ => ?_) (fun h => absurd h (by decide)); conv => whnf) | (refine And.intro (fun h => absurd h (by decide)) (fun _ => ?_); conv => whnf) | (refine .quiet (by kernel_rfl) ?_; conv => whnf))
  simp only [Option.map_none, Option.map_some, cut]
  rw [hcut]
  refine .one _ _ _ (fun _ => hi) (by repeat (first | exact .nil | (apply BorL.cons; first | exact lS rfl | exact lR rfl | exact lM rfl rfl | exact lL rfl | exact lX rfl | exact lN | exact lNl | exact lSm rfl | exact lIm rfl | exact lP rfl | exact lQ rfl | exact lB rfl rfl rfl))) (by first | exact .inl rfl | exact .inr (by repeat (first | exact flats_nil | refine flats_cons (by first | exact flat_val _ rfl | exact flat_row (fun _ => rfl) | exact flat_lst (fun _ => rfl)) ?_))) (by first | exact .inl rfl | exact .inr rfl) ?_
  conv => whnf
  repeat (first | (refine And.intro ⟨by omega, by omega⟩ ?_; conv => whnf) | (refine And.intro (by omega) (And.intro rfl ?_); conv => whnf) | (refine And.intro rfl ?_; conv => whnf) | (refine And.intro (fun _ => ⟨by omega, by omega⟩) ?_; conv => whnf) | (refine And.intro (fun _ => by omega) (And.intro rfl ?_); conv => whnf) | (refine And.intro ⟨(by first | omega | (simp; omega)), (by first | omega | (simp; omega))⟩ ?_; conv => whnf) | (refine Exists.intro _ (And.intro rfl (And.intro (by first | omega | (simp; omega)) (And.intro ⟨rfl, rfl, rfl, rfl, rfl⟩ ?_))); conv => whnf) | (refine And.intro ⟨rfl, rfl⟩ (And.intro (by first | omega | (simp; omega)) ?_); conv => whnf) | (refine Exists.intro _ (And.intro rfl ?_); conv => whnf) | (refine And.intro (fun _ => ?_) (fun h => absurd h (by decide)); conv => whnf) | (refine And.intro (fun h => absurd h (by decide)) (fun _ => ?_); conv => whnf) | (refine .quiet (by kernel_rfl) ?_; conv => whnf))
  refine ⟨fun hd => ?_, fun hd => ?_⟩
  · rw [if_pos (of_decide_eq_true hd)] at hR
    rw [hR]
    conv => whnf
    refine .raw _ _ rfl (fun h => by cases h) (callio_sem (failW_ok s b) [0] _ rfl rfl ⟨rfl, trivial⟩ (by repeat (first | exact .nil | (apply BorL.cons; first | exact .map _ _ rfl | exact .ptr _ _ _ rfl | exact .own _ _ rfl | exact .fnp _ _ _ _ rfl | (apply BorIO.lend; first | exact lS rfl | exact lR rfl | exact lM rfl rfl | exact lL rfl | exact lX rfl | exact lN | exact lNl | exact lSm rfl | exact lIm rfl | exact lP rfl | exact lQ rfl | exact lB rfl rfl rfl)))) rfl (by first | exact .inl rfl | exact .inr (fun b rs h => by obtain ⟨rfl, rfl⟩ := h; exact ⟨by repeat (first | exact flats_nil | refine flats_cons (by first | exact flat_val _ rfl | exact flat_row (fun _ => rfl) | exact flat_lst (fun _ => rfl)) ?_), by repeat (first | exact flats0 | refine flats1 (by first | exact flatB_row (fun _ => rfl) | exact flatB_lst (fun _ => rfl) | exact flatB_smap (fun _ => rfl) | exact flatB_imap (fun _ => rfl) | exact flatB_cells rfl) ?_)⟩))) ?_
    rintro r ⟨b', rs, ⟨rfl, rfl⟩, rfl⟩
    refine ⟨tn_ge _ _, ?_⟩
    conv => whnf
    exact ⟨rfl, rfl⟩
  · have hp0 : ¬ p < 0 := of_decide_eq_false hd
    rw [if_neg hp0] at hR
    obtain ⟨o, rfl⟩ : ∃ o : Nat, p = (o : Int) := ⟨p.toNat, by omega⟩
    have hol : o < h.length := (List.getElem?_eq_some_iff.1 (Lib.indexByte_some ha).1).1
    rw [Int.toNat_natCast] at hR
    have hat := atoi_c (h.take o) (by rw [List.length_take]; omega)
    have het : (o : Int).toNat = o := Int.toNat_natCast o
    generalize ht : h.take o = t at *
    have hcut2 : h.take (o : Int).toNat = t := by rw [het, ht]
    conv => whnf
    refine And.intro ⟨by omega, by omega, by omega⟩ ?_
    conv => whnf
    simp only [Option.map_none, Option.map_some, cut]
    rw [hcut2]
    unfold atoiR at hat
    rcases hr : Lib.atoiAll t with n | _ | _
    · rw [hr] at hat hR
      obtain ⟨n0, n1⟩ := Lib.atoiAll_bounds hr
      have hit := itoa_c n n0 n1
      refine .one _ _ _ (fun _ => hat) (by repeat (first | exact .nil | (apply BorL.cons; first | exact lS rfl | exact lR rfl | exact lM rfl rfl | exact lL rfl | exact lX rfl | exact lN | exact lNl | exact lSm rfl | exact lIm rfl | exact lP rfl | exact lQ rfl | exact lB rfl rfl rfl))) (by first | exact .inl rfl | exact .inr (by repeat (first | exact flats_nil | refine flats_cons (by first | exact flat_val _ rfl | exact flat_row (fun _ => rfl) | exact flat_lst (fun _ => rfl)) ?_))) (by first | exact .inl rfl | exact .inr rfl) ?_
      conv => whnf
      refine .quiet (by kernel_rfl) ?_
      conv => whnf
      repeat (first | (refine And.intro ⟨by omega, by omega⟩ ?_; conv => whnf) | (refine And.intro (by omega) (And.intro rfl ?_); conv => whnf) | (refine And.intro rfl ?_; conv => whnf) | (refine And.intro (fun _ => ⟨by omega, by omega⟩) ?_; conv => whnf) | (refine And.intro (fun _ => by omega) (And.intro rfl ?_); conv => whnf) | (refine And.intro ⟨(by first | omega | (simp; omega)), (by first | omega | (simp; omega))⟩ ?_; conv => whnf) | (refine Exists.intro _ (And.intro rfl (And.intro (by first | omega | (simp; omega)) (And.intro ⟨rfl, rfl, rfl, rfl, rfl⟩ ?_))); conv => whnf) | (refine And.intro ⟨rfl, rfl⟩ (And.intro (by first | omega | (simp; omega)) ?_); conv => whnf) | (refine Exists.intro _ (And.intro rfl ?_); conv => whnf) | (refine And.intro (fun _ => ?_) (fun h => absurd h (by decide)); conv => whnf) | (refine And.intro (fun h => absurd h (by decide)) (fun _ => ?_); conv => whnf) | (refine .quiet (by kernel_rfl) ?_; conv => whnf))
      refine .mk _ _ _ _ (fun _ => hit) (by repeat (first | exact .nil | (apply BorL.cons; first | exact lS rfl | exact lR rfl | exact lM rfl rfl | exact lL rfl | exact lX rfl | exact lN | exact lNl | exact lSm rfl | exact lIm rfl | exact lP rfl | exact lQ rfl | exact lB rfl rfl rfl))) rfl ?_
      conv => whnf
      repeat (first | (refine And.intro ⟨by omega, by omega⟩ ?_; conv => whnf) | (refine And.intro (by omega) (And.intro rfl ?_); conv => whnf) | (refine And.intro rfl ?_; conv => whnf) | (refine And.intro (fun _ => ⟨by omega, by omega⟩) ?_; conv => whnf) | (refine And.intro (fun _ => by omega) (And.intro rfl ?_); conv => whnf) | (refine And.intro ⟨(by first | omega | (simp; omega)), (by first | omega | (simp; omega))⟩ ?_; conv => whnf) | (refine Exists.intro _ (And.intro rfl (And.intro (by first | omega | (simp; omega)) (And.intro ⟨rfl, rfl, rfl, rfl, rfl⟩ ?_))); conv => whnf) | (refine And.intro ⟨rfl, rfl⟩ (And.intro (by first | omega | (simp; omega)) ?_); conv => whnf) | (refine Exists.intro _ (And.intro rfl ?_); conv => whnf) | (refine And.intro (fun _ => ?_) (fun h => absurd h (by decide)); conv => whnf) | (refine And.intro (fun h => absurd h (by decide)) (fun _ => ?_); conv => whnf) | (refine .quiet (by kernel_rfl) ?_; conv => whnf))
      simp only [Option.map_none, Option.map_some, cut]
      replace hR : numR c least s = if Lib.itoa n = t ∧ least ≤ n then some (n, s.drop (o + 1)) else none := hR
      by_cases hok : Lib.itoa n = t ∧ least ≤ n
      · rw [if_pos hok] at hR
        rw [hR]
        refine ⟨fun hx => ?_, fun hx => ?_⟩
        · simp [hok.1, ht] at hx
          omega
        · conv => whnf
          refine And.intro (by omega) ?_
          conv => whnf
          refine And.intro ⟨by omega, by omega, by omega⟩ ?_
          conv => whnf
          have he1 : ((o : Int) + 1).toNat = o + 1 := by omega
          refine ⟨?_, rfl⟩
          show [AB.cells 64 [.str (s.drop ((o : Int) + 1).toNat), .bool b]] = _
          rw [he1]
          rfl
      · rw [if_neg hok] at hR
        rw [hR]
        refine ⟨fun hx => ?_, fun hx => ?_⟩
        · conv => whnf
          refine .raw _ _ rfl (fun h => by cases h) (callio_sem (failW_ok s b) [0] _ rfl rfl ⟨rfl, trivial⟩ (by repeat (first | exact .nil | (apply BorL.cons; first | exact .map _ _ rfl | exact .ptr _ _ _ rfl | exact .own _ _ rfl | exact .fnp _ _ _ _ rfl | (apply BorIO.lend; first | exact lS rfl | exact lR rfl | exact lM rfl rfl | exact lL rfl | exact lX rfl | exact lN | exact lNl | exact lSm rfl | exact lIm rfl | exact lP rfl | exact lQ rfl | exact lB rfl rfl rfl)))) rfl (by first | exact .inl rfl | exact .inr (fun b rs h => by obtain ⟨rfl, rfl⟩ := h; exact ⟨by repeat (first | exact flats_nil | refine flats_cons (by first | exact flat_val _ rfl | exact flat_row (fun _ => rfl) | exact flat_lst (fun _ => rfl)) ?_), by repeat (first | exact flats0 | refine flats1 (by first | exact flatB_row (fun _ => rfl) | exact flatB_lst (fun _ => rfl) | exact flatB_smap (fun _ => rfl) | exact flatB_imap (fun _ => rfl) | exact flatB_cells rfl) ?_)⟩))) ?_
          rintro r ⟨b', rs, ⟨rfl, rfl⟩, rfl⟩
          refine ⟨tn_ge _ _, ?_⟩
          conv => whnf
          exact ⟨rfl, rfl⟩
        · simp [ht] at hx
          exact (hok ⟨hx.1, by omega⟩).elim
    · rw [hr] at hat hR
      rw [hR]
      have hit := itoa_c 0 (by omega) (by omega)
      refine .one _ _ _ (fun _ => hat) (by repeat (first | exact .nil | (apply BorL.cons; first | exact lS rfl | exact lR rfl | exact lM rfl rfl | exact lL rfl | exact lX rfl | exact lN | exact lNl | exact lSm rfl | exact lIm rfl | exact lP rfl | exact lQ rfl | exact lB rfl rfl rfl))) (by first | exact .inl rfl | exact .inr (by repeat (first | exact flats_nil | refine flats_cons (by first | exact flat_val _ rfl | exact flat_row (fun _ => rfl) | exact flat_lst (fun _ => rfl)) ?_))) (by first | exact .inl rfl | exact .inr rfl) ?_
      conv => whnf
      refine .quiet (by kernel_rfl) ?_
      conv => whnf
      repeat (first | (refine And.intro ⟨by omega, by omega⟩ ?_; conv => whnf) | (refine And.intro (by omega) (And.intro rfl ?_); conv => whnf) | (refine And.intro rfl ?_; conv => whnf) | (refine And.intro (fun _ => ⟨by omega, by omega⟩) ?_; conv => whnf) | (refine And.intro (fun _ => by omega) (And.intro rfl ?_); conv => whnf) | (refine And.intro ⟨(by first | omega | (simp; omega)), (by first | omega | (simp; omega))⟩ ?_; conv => whnf) | (refine Exists.intro _ (And.intro rfl (And.intro (by first | omega | (simp; omega)) (And.intro ⟨rfl, rfl, rfl, rfl, rfl⟩ ?_))); conv => whnf) | (refine And.intro ⟨rfl, rfl⟩ (And.intro (by first | omega | (simp; omega)) ?_); conv => whnf) | (refine Exists.intro _ (And.intro rfl ?_); conv => whnf) | (refine And.intro (fun _ => ?_) (fun h => absurd h (by decide)); conv => whnf) | (refine And.intro (fun h => absurd h (by decide)) (fun _ => ?_); conv => whnf) | (refine .quiet (by kernel_rfl) ?_; conv => whnf))
      refine .mk _ _ _ _ (fun _ => hit) (by repeat (first | exact .nil | (apply BorL.cons; first | exact lS rfl | exact lR rfl | exact lM rfl rfl | exact lL rfl | exact lX rfl | exact lN | exact lNl | exact lSm rfl | exact lIm rfl | exact lP rfl | exact lQ rfl | exact lB rfl rfl rfl))) rfl ?_
      conv => whnf
      repeat (first | (refine And.intro ⟨by omega, by omega⟩ ?_; conv => whnf) | (refine And.intro (by omega) (And.intro rfl ?_); conv => whnf) | (refine And.intro rfl ?_; conv => whnf) | (refine And.intro (fun _ => ⟨by omega, by omega⟩) ?_; conv => whnf) | (refine And.intro (fun _ => by omega) (And.intro rfl ?_); conv => whnf) | (refine And.intro ⟨(by first | omega | (simp; omega)), (by first | omega | (simp; omega))⟩ ?_; conv => whnf) | (refine Exists.intro _ (And.intro rfl (And.intro (by first | omega | (simp; omega)) (And.intro ⟨rfl, rfl, rfl, rfl, rfl⟩ ?_))); conv => whnf) | (refine And.intro ⟨rfl, rfl⟩ (And.intro (by first | omega | (simp; omega)) ?_); conv => whnf) | (refine Exists.intro _ (And.intro rfl ?_); conv => whnf) | (refine And.intro (fun _ => ?_) (fun h => absurd h (by decide)); conv => whnf) | (refine And.intro (fun h => absurd h (by decide)) (fun _ => ?_); conv => whnf) | (refine .quiet (by kernel_rfl) ?_; conv => whnf))
      refine ⟨fun hx => ?_, fun hx => ?_⟩
      · conv => whnf
        refine .raw _ _ rfl (fun h => by cases h) (callio_sem (failW_ok s b) [0] _ rfl rfl ⟨rfl, trivial⟩ (by repeat (first | exact .nil | (apply BorL.cons; first | exact .map _ _ rfl | exact .ptr _ _ _ rfl | exact .own _ _ rfl | exact .fnp _ _ _ _ rfl | (apply BorIO.lend; first | exact lS rfl | exact lR rfl | exact lM rfl rfl | exact lL rfl | exact lX rfl | exact lN | exact lNl | exact lSm rfl | exact lIm rfl | exact lP rfl | exact lQ rfl | exact lB rfl rfl rfl)))) rfl (by first | exact .inl rfl | exact .inr (fun b rs h => by obtain ⟨rfl, rfl⟩ := h; exact ⟨by repeat (first | exact flats_nil | refine flats_cons (by first | exact flat_val _ rfl | exact flat_row (fun _ => rfl) | exact flat_lst (fun _ => rfl)) ?_), by repeat (first | exact flats0 | refine flats1 (by first | exact flatB_row (fun _ => rfl) | exact flatB_lst (fun _ => rfl) | exact flatB_smap (fun _ => rfl) | exact flatB_imap (fun _ => rfl) | exact flatB_cells rfl) ?_)⟩))) ?_
        rintro r ⟨b', rs, ⟨rfl, rfl⟩, rfl⟩
        refine ⟨tn_ge _ _, ?_⟩
        conv => whnf
        exact ⟨rfl, rfl⟩
      · simp at hx
    · rw [hr] at hat hR
      rw [hR]
      have hit := itoa_c (Lib.atoiSat t) (Lib.atoiSat_bounds t).1 (Lib.atoiSat_bounds t).2
      refine .one _ _ _ (fun _ => hat) (by repeat (first | exact .nil | (apply BorL.cons; first | exact lS rfl | exact lR rfl | exact lM rfl rfl | exact lL rfl | exact lX rfl | exact lN | exact lNl | exact lSm rfl | exact lIm rfl | exact lP rfl | exact lQ rfl | exact lB rfl rfl rfl))) (by first | exact .inl rfl | exact .inr (by repeat (first | exact flats_nil | refine flats_cons (by first | exact flat_val _ rfl | exact flat_row (fun _ => rfl) | exact flat_lst (fun _ => rfl)) ?_))) (by first | exact .inl rfl | exact .inr rfl) ?_
      conv => whnf
      refine .quiet (by kernel_rfl) ?_
      conv => whnf
      repeat (first | (refine And.intro ⟨by omega, by omega⟩ ?_; conv => whnf) | (refine And.intro (by omega) (And.intro rfl ?_); conv => whnf) | (refine And.intro rfl ?_; conv => whnf) | (refine And.intro (fun _ => ⟨by omega, by omega⟩) ?_; conv => whnf) | (refine And.intro (fun _ => by omega) (And.intro rfl ?_); conv => whnf) | (refine And.intro ⟨(by first | omega | (simp; omega)), (by first | omega | (simp; omega))⟩ ?_; conv => whnf) | (refine Exists.intro _ (And.intro rfl (And.intro (by first | omega | (simp; omega)) (And.intro ⟨rfl, rfl, rfl, rfl, rfl⟩ ?_))); conv => whnf) | (refine And.intro ⟨rfl, rfl⟩ (And.intro (by first | omega | (simp; omega)) ?_); conv => whnf) | (refine Exists.intro _ (And.intro rfl ?_); conv => whnf) | (refine And.intro (fun _ => ?_) (fun h => absurd h (by decide)); conv => whnf) | (refine And.intro (fun h => absurd h (by decide)) (fun _ => ?_); conv => whnf) | (refine .quiet (by kernel_rfl) ?_; conv => whnf))
      refine .mk _ _ _ _ (fun _ => hit) (by repeat (first | exact .nil | (apply BorL.cons; first | exact lS rfl | exact lR rfl | exact lM rfl rfl | exact lL rfl | exact lX rfl | exact lN | exact lNl | exact lSm rfl | exact lIm rfl | exact lP rfl | exact lQ rfl | exact lB rfl rfl rfl))) rfl ?_
      conv => whnf
      repeat (first | (refine And.intro ⟨by omega, by omega⟩ ?_; conv => whnf) | (refine And.intro (by omega) (And.intro rfl ?_); conv => whnf) | (refine And.intro rfl ?_; conv => whnf) | (refine And.intro (fun _ => ⟨by omega, by omega⟩) ?_; conv => whnf) | (refine And.intro (fun _ => by omega) (And.intro rfl ?_); conv => whnf) | (refine And.intro ⟨(by first | omega | (simp; omega)), (by first | omega | (simp; omega))⟩ ?_; conv => whnf) | (refine Exists.intro _ (And.intro rfl (And.intro (by first | omega | (simp; omega)) (And.intro ⟨rfl, rfl, rfl, rfl, rfl⟩ ?_))); conv => whnf) | (refine And.intro ⟨rfl, rfl⟩ (And.intro (by first | omega | (simp; omega)) ?_); conv => whnf) | (refine Exists.intro _ (And.intro rfl ?_); conv => whnf) | (refine And.intro (fun _ => ?_) (fun h => absurd h (by decide)); conv => whnf) | (refine And.intro (fun h => absurd h (by decide)) (fun _ => ?_); conv => whnf) | (refine .quiet (by kernel_rfl) ?_; conv => whnf))
      refine ⟨fun hx => ?_, fun hx => ?_⟩
      · conv => whnf
        refine .raw _ _ rfl (fun h => by cases h) (callio_sem (failW_ok s b) [0] _ rfl rfl ⟨rfl, trivial⟩ (by repeat (first | exact .nil | (apply BorL.cons; first | exact .map _ _ rfl | exact .ptr _ _ _ rfl | exact .own _ _ rfl | exact .fnp _ _ _ _ rfl | (apply BorIO.lend; first | exact lS rfl | exact lR rfl | exact lM rfl rfl | exact lL rfl | exact lX rfl | exact lN | exact lNl | exact lSm rfl | exact lIm rfl | exact lP rfl | exact lQ rfl | exact lB rfl rfl rfl)))) rfl (by first | exact .inl rfl | exact .inr (fun b rs h => by obtain ⟨rfl, rfl⟩ := h; exact ⟨by repeat (first | exact flats_nil | refine flats_cons (by first | exact flat_val _ rfl | exact flat_row (fun _ => rfl) | exact flat_lst (fun _ => rfl)) ?_), by repeat (first | exact flats0 | refine flats1 (by first | exact flatB_row (fun _ => rfl) | exact flatB_lst (fun _ => rfl) | exact flatB_smap (fun _ => rfl) | exact flatB_imap (fun _ => rfl) | exact flatB_cells rfl) ?_)⟩))) ?_
        rintro r ⟨b', rs, ⟨rfl, rfl⟩, rfl⟩
        refine ⟨tn_ge _ _, ?_⟩
        conv => whnf
        exact ⟨rfl, rfl⟩
      · simp at hx
abbrev rdr (s : List UInt8) (b : Bool) : AB := .cells 64 [.str s, .bool b]
/-- A reader's number, in two ways. -/
theorem number_some {c least : Int} {s r : List UInt8} {n : Int} {b : Bool} (hs : s.length ≤ 9223372036854775000) (h : numR c least s = some (n, r)) : AIO Tryd.prog 45 [.ptr 0 0, .int .u8 c, .int .i64 least] [rdr s b] (fun bs rs => bs = [rdr r b] ∧ rs = [.val (.int .i64 n)]) := by
  have := numberW_ok c least s b hs
  rw [h] at this
  exact this
theorem number_none {c least : Int} {s : List UInt8} {b : Bool} (hs : s.length ≤ 9223372036854775000) (h : numR c least s = none) : AIO Tryd.prog 45 [.ptr 0 0, .int .u8 c, .int .i64 least] [rdr s b] (fun bs rs => bs = [rdr [] true] ∧ rs = [.val (.int .i64 0)]) := by
  have := numberW_ok c least s b hs
  rw [h] at this
  exact this
/-- What a call of a reader gives: the value, and what is left of it. -/
structure RS where
  rest : List UInt8
  bad : Bool
def numQ (c least : Int) (q : RS) : Int × RS :=
  match numR c least q.rest with
  | some (n, r) => (n, ⟨r, q.bad⟩)
  | none => (0, ⟨[], true⟩)
abbrev ro (q : RS) : AB := .cells 64 [.str q.rest, .bool q.bad]
theorem rnum_ok (q : RS) (hs : q.rest.length ≤ 9223372036854775000) : AIO Tryd.prog 33 [.ptr 0 0] [ro q] (fun bs rs => bs = [ro (numQ 59 0 q).2] ∧ rs = [.val (.int .i64 (numQ 59 0 q).1)]) := by
  unfold numQ
  cases h : numR 59 0 q.rest with
  | some x =>
    have hn := number_some (b := q.bad) (r := x.2) (n := x.1) hs h
    refine aio_of (C := cxP 1 5 [0, 2]) (cxPOk _ _ _) Tryd.func33 rfl (by decide) rfl (by exact Nat.le_of_ble_eq_true rfl) (by decide) rfl rfl ?_
    conv => whnf
    refine .raw _ _ rfl (fun h => by cases h) (callio_sem (hn) [0] _ rfl rfl ⟨rfl, trivial⟩ (by repeat (first | exact .nil | (apply BorL.cons; first | exact .map _ _ rfl | exact .ptr _ _ _ rfl | exact .own _ _ rfl | exact .fnp _ _ _ _ rfl | (apply BorIO.lend; first | exact lS rfl | exact lR rfl | exact lM rfl rfl | exact lL rfl | exact lX rfl | exact lN | exact lNl | exact lSm rfl | exact lIm rfl | exact lP rfl | exact lQ rfl | exact lB rfl rfl rfl)))) rfl (by first | exact .inl rfl | exact .inr (fun b rs h => by obtain ⟨rfl, rfl⟩ := h; exact ⟨by repeat (first | exact flats_nil | refine flats_cons (by first | exact flat_val _ rfl | exact flat_row (fun _ => rfl) | exact flat_lst (fun _ => rfl)) ?_), by repeat (first | exact flats0 | refine flats1 (by first | exact flatB_row (fun _ => rfl) | exact flatB_lst (fun _ => rfl) | exact flatB_smap (fun _ => rfl) | exact flatB_imap (fun _ => rfl) | exact flatB_cells rfl) ?_)⟩))) ?_
    rintro r ⟨b', rs, ⟨rfl, rfl⟩, rfl⟩
    refine ⟨tn_ge _ _, ?_⟩
    conv => whnf
    exact ⟨rfl, rfl⟩
  | none =>
    have hn := number_none (b := q.bad) hs h
    refine aio_of (C := cxP 1 5 [0, 2]) (cxPOk _ _ _) Tryd.func33 rfl (by decide) rfl (by exact Nat.le_of_ble_eq_true rfl) (by decide) rfl rfl ?_
    conv => whnf
    refine .raw _ _ rfl (fun h => by cases h) (callio_sem (hn) [0] _ rfl rfl ⟨rfl, trivial⟩ (by repeat (first | exact .nil | (apply BorL.cons; first | exact .map _ _ rfl | exact .ptr _ _ _ rfl | exact .own _ _ rfl | exact .fnp _ _ _ _ rfl | (apply BorIO.lend; first | exact lS rfl | exact lR rfl | exact lM rfl rfl | exact lL rfl | exact lX rfl | exact lN | exact lNl | exact lSm rfl | exact lIm rfl | exact lP rfl | exact lQ rfl | exact lB rfl rfl rfl)))) rfl (by first | exact .inl rfl | exact .inr (fun b rs h => by obtain ⟨rfl, rfl⟩ := h; exact ⟨by repeat (first | exact flats_nil | refine flats_cons (by first | exact flat_val _ rfl | exact flat_row (fun _ => rfl) | exact flat_lst (fun _ => rfl)) ?_), by repeat (first | exact flats0 | refine flats1 (by first | exact flatB_row (fun _ => rfl) | exact flatB_lst (fun _ => rfl) | exact flatB_smap (fun _ => rfl) | exact flatB_imap (fun _ => rfl) | exact flatB_cells rfl) ?_)⟩))) ?_
    rintro r ⟨b', rs, ⟨rfl, rfl⟩, rfl⟩
    refine ⟨tn_ge _ _, ?_⟩
    conv => whnf
    exact ⟨rfl, rfl⟩
theorem numR_some {c least : Int} {s r : List UInt8} {n : Int} (h : numR c least s = some (n, r)) : least ≤ n ∧ r.length ≤ s.length := by
  unfold numR at h
  simp only at h
  split at h
  · cases h
  · split at h
    · split at h
      · rename_i hk
        cases h
        exact ⟨hk.2, by rw [List.length_drop]; omega⟩
      · cases h
    · cases h
theorem num48 (c least : Int) (q : RS) (hs : q.rest.length ≤ 9223372036854775000) : AIO Tryd.prog 45 [.ptr 0 0, .int .u8 c, .int .i64 least] [ro q] (fun bs rs => bs = [ro (numQ c least q).2] ∧ rs = [.val (.int .i64 (numQ c least q).1)]) := by
  unfold numQ
  cases h : numR c least q.rest with
  | some x => exact number_some (b := q.bad) (r := x.2) (n := x.1) hs h
  | none => exact number_none (b := q.bad) hs h
theorem numQ_le (c least : Int) (q : RS) (hl : least ≤ 0) : least ≤ (numQ c least q).1 ∧ (numQ c least q).2.rest.length ≤ q.rest.length := by
  unfold numQ
  cases h : numR c least q.rest with
  | some x => exact numR_some (r := x.2) (n := x.1) h
  | none => exact ⟨hl, Nat.zero_le _⟩
theorem rdone_ok (q : RS) : AIO Tryd.prog 34 [.ptr 0 0] [ro q] (fun bs rs => bs = [ro q] ∧ rs = [.val (.bool (!q.bad && decide (q.rest = [])))]) := by
  refine aio_of (C := cxP 1 15 [0, 2]) (cxPOk _ _ _) Tryd.func34 rfl (by decide) rfl (by exact Nat.le_of_ble_eq_true rfl) (by decide) rfl rfl ?_
  conv => whnf
  exact ⟨rfl, rfl⟩
theorem numR_lt {c least : Int} {s r : List UInt8} {n : Int} (h : numR c least s = some (n, r)) : r.length < s.length := by
  unfold numR at h
  simp only at h
  split at h
  · cases h
  · rename_i hp
    obtain ⟨o, ho⟩ : ∃ o : Nat, Lib.indexByte (s.take (min s.length 21)) c.toNat.toUInt8 = (o : Int) := ⟨_, (Int.toNat_of_nonneg (by omega)).symm⟩
    have hol := (List.getElem?_eq_some_iff.1 (Lib.indexByte_some ho).1).1
    rw [List.length_take] at hol
    split at h
    · split at h
      · cases h
        rw [List.length_drop]
        omega
      · cases h
    · cases h
theorem numQ_lt {c least : Int} {q : RS} (h : (numQ c least q).2.bad = false) : (numQ c least q).2.rest.length < q.rest.length := by
  unfold numQ at h ⊢
  cases hn : numR c least q.rest with
  | none => rw [hn] at h; cases h
  | some x => exact numR_lt (r := x.2) (n := x.1) hn
theorem done_p (s : List UInt8) (b : Bool) : APureV Tryd.prog 34 [.rop [.str s, .bool b]] (.bool (!b && decide (s = []))) := by
  refine apure_of (C := cx 15 [0, 2]) (cxOk _ _) Tryd.func34 rfl (by decide) rfl (by exact Nat.le_of_ble_eq_true rfl) (by decide) ?_
  conv => whnf
  rfl

end Go.Proofs.YtglalejjcfcfkaaDoor

namespace Go.Proofs.YtglalejjcfcfkaaDoor
open Go.Own
set_option maxHeartbeats 1000000
set_option maxRecDepth 100000

theorem nDigits_le : ∀ (k u : Nat), 1 ≤ k → u < 10 ^ k → Lib.nDigits u ≤ k
  | 0, _, h, _ => absurd h (by decide)
  | k + 1, u, _, h => by
    by_cases hu : u < 10
    · rw [Lib.nDigits_small hu]; omega
    · have hk : 1 ≤ k := by
        rcases Nat.eq_zero_or_pos k with rfl | h'
        · rw [Nat.zero_add, Nat.pow_one] at h; omega
        · exact h'
      rw [Lib.nDigits_big hu]
      rw [Nat.pow_succ] at h
      have := nDigits_le k (u / 10) hk (by omega)
      omega
theorem itoa_len (n : Int) (h : in64 n) : (Lib.itoa n).length ≤ 20 := by
  obtain ⟨h0, h1⟩ := h
  by_cases hneg : n < 0
  · obtain ⟨u, rfl⟩ : ∃ u : Nat, n = -(u : Int) := ⟨n.natAbs, by omega⟩
    rw [Lib.itoa_neg u (by omega), List.length_cons, Lib.decDigits_length]
    have := nDigits_le 19 u (by omega) (by omega)
    omega
  · obtain ⟨u, rfl⟩ : ∃ u : Nat, n = u := ⟨n.toNat, by omega⟩
    rw [Lib.itoa_nonneg, Lib.decDigits_length]
    have := nDigits_le 19 u (by omega) (by omega)
    omega
theorem decDigits_rec (u : Nat) : Lib.decDigits u = if u < 10 then [UInt8.ofNat (48 + u)] else Lib.decDigits (u / 10) ++ [UInt8.ofNat (48 + u % 10)] := by
  rw [Lib.decDigits]
  split <;> rfl
theorem dig_nat (d : Nat) (h : d < 10) : (UInt8.ofNat (48 + d)).toNat = 48 + d := by
  rw [UInt8.toNat_ofNat']
  omega
theorem decDigits_mem (u : Nat) : ∀ b ∈ Lib.decDigits u, 48 ≤ b.toNat ∧ b.toNat ≤ 57 := by
  induction u using Nat.strongRecOn with
  | _ u ih =>
    intro b hb
    rw [decDigits_rec] at hb
    split at hb
    · rename_i hu
      simp only [List.mem_cons, List.not_mem_nil, or_false] at hb
      subst hb
      rw [dig_nat u hu]
      omega
    · rename_i hu
      rw [List.mem_append] at hb
      rcases hb with hb | hb
      · exact ih (u / 10) (by omega) b hb
      · simp only [List.mem_cons, List.not_mem_nil, or_false] at hb
        subst hb
        rw [dig_nat _ (Nat.mod_lt _ (by decide))]
        have := Nat.mod_lt u (show 0 < 10 by decide)
        omega
theorem decDigits_ne (u : Nat) : Lib.decDigits u ≠ [] := by
  rw [decDigits_rec]
  split <;> simp
def thenP (e : Lib.NumEnd Nat) (f : Nat → Lib.NumEnd Nat) : Lib.NumEnd Nat :=
  match e with
  | .ok v => f v
  | e => e
theorem parse_append : ∀ (a b : List UInt8) (acc : Nat), Lib.parseUint10 acc (a ++ b) = thenP (Lib.parseUint10 acc a) (fun v => Lib.parseUint10 v b)
  | [], b, acc => rfl
  | c :: a, b, acc => by
    have ih := fun k => parse_append a b k
    rw [List.cons_append]
    by_cases h1 : 48 ≤ c.toNat ∧ c.toNat ≤ 57
    · by_cases h2 : 1844674407370955162 ≤ acc
      · simp only [Lib.parseUint10, if_pos h1, if_pos h2, thenP]
      · by_cases h3 : 18446744073709551616 ≤ acc * 10 + (c.toNat - 48)
        · simp only [Lib.parseUint10, if_pos h1, if_neg h2, if_pos h3, thenP]
        · simp only [Lib.parseUint10, if_pos h1, if_neg h2, if_neg h3]
          exact ih _
    · simp only [Lib.parseUint10, if_neg h1, thenP]
theorem parse_dec (u : Nat) (hu : u < 18446744073709551616) : Lib.parseUint10 0 (Lib.decDigits u) = .ok u := by
  induction u using Nat.strongRecOn with
  | _ u ih =>
    rw [decDigits_rec]
    split
    · rename_i h
      simp only [Lib.parseUint10]
      rw [dig_nat u h, if_pos (by omega), if_neg (by omega), if_neg (by omega)]
      congr 1
      omega
    · rename_i h
      rw [parse_append, ih (u / 10) (by omega) (by omega)]
      simp only [thenP, Lib.parseUint10]
      have := Nat.mod_lt u (show 0 < 10 by decide)
      rw [dig_nat _ this, if_pos (by omega), if_neg (by omega), if_neg (by omega)]
      congr 1
      omega
theorem mag_dec (u : Nat) (hu : u < 18446744073709551616) : Lib.parseMag (Lib.decDigits u) = .ok u := by
  unfold Lib.parseMag
  rw [if_neg (decDigits_ne u), parse_dec u hu]
theorem atoi_itoa (n : Int) (h : in64 n) : Lib.atoiAll (Lib.itoa n) = .ok n := by
  obtain ⟨h0, h1⟩ := h
  by_cases hneg : n < 0
  · obtain ⟨u, rfl⟩ : ∃ u : Nat, n = -(u : Int) := ⟨n.natAbs, by omega⟩
    rw [Lib.itoa_neg u (by omega), Lib.atoiAll_minus, mag_dec u (by omega)]
    show (if 9223372036854775808 < u then Lib.NumEnd.range else Lib.NumEnd.ok (-(u : Int))) = _
    rw [if_neg (by omega)]
  · obtain ⟨u, rfl⟩ : ∃ u : Nat, n = u := ⟨n.toNat, by omega⟩
    rw [Lib.itoa_nonneg]
    have hm := decDigits_mem u
    have hp := mag_dec u (by omega)
    cases hd : Lib.decDigits u with
    | nil => exact absurd hd (decDigits_ne u)
    | cons c r =>
      rw [hd] at hm hp
      have hc := hm c (List.mem_cons_self ..)
      rw [Lib.atoiAll_plain c r (by omega) (by omega), hp]
      show (if 9223372036854775808 ≤ u then Lib.NumEnd.range else Lib.NumEnd.ok (u : Int)) = _
      rw [if_neg (by omega)]
theorem itoa_mem (n : Int) : ∀ b ∈ Lib.itoa n, b.toNat ≤ 57 := by
  intro b hb
  by_cases hneg : n < 0
  · obtain ⟨u, rfl⟩ : ∃ u : Nat, n = -(u : Int) := ⟨n.natAbs, by omega⟩
    rw [Lib.itoa_neg u (by omega), List.mem_cons] at hb
    rcases hb with rfl | hb
    · decide
    · exact (decDigits_mem u b hb).2
  · obtain ⟨u, rfl⟩ : ∃ u : Nat, n = u := ⟨n.toNat, by omega⟩
    rw [Lib.itoa_nonneg] at hb
    exact (decDigits_mem u b hb).2
theorem indexByte_at : ∀ (a : List UInt8) (c : UInt8) (r : List UInt8), c ∉ a → Lib.indexByte (a ++ c :: r) c = (a.length : Int)
  | [], c, r, _ => by
    rw [List.nil_append]
    unfold Lib.indexByte
    rw [if_pos (by simp)]
    rfl
  | b :: a, c, r, h => by
    rw [List.mem_cons, not_or] at h
    rw [List.cons_append]
    unfold Lib.indexByte
    rw [indexByte_at a c r h.2, if_neg (by simp; exact fun h' => h.1 h'.symm), if_neg (by simp)]
    simp
/-- A byte that ends a number. -/
def EndB (c : Int) : Prop := 57 < c.toNat.toUInt8.toNat
abbrev cb (c : Int) : UInt8 := c.toNat.toUInt8
theorem numR_back (c least n : Int) (r : List UInt8) (hn : in64 n) (hl : least ≤ n) (hc : EndB c) : numR c least (Lib.itoa n ++ cb c :: r) = some (n, r) := by
  have hlen := itoa_len n hn
  have hmem : cb c ∉ Lib.itoa n := fun h => by
    have := itoa_mem n _ h
    unfold EndB at hc
    unfold cb at this
    omega
  have htk : (Lib.itoa n ++ cb c :: r).take (min (Lib.itoa n ++ cb c :: r).length 21) = Lib.itoa n ++ cb c :: r.take (min (Lib.itoa n ++ cb c :: r).length 21 - (Lib.itoa n).length - 1) := by
    rw [List.take_append, List.take_of_length_le (by simp; omega)]
    have : min (Lib.itoa n ++ cb c :: r).length 21 - (Lib.itoa n).length = (min (Lib.itoa n ++ cb c :: r).length 21 - (Lib.itoa n).length - 1) + 1 := by
      simp only [List.length_append, List.length_cons]
      omega
    rw [this, List.take_succ_cons]
    rfl
  unfold numR
  simp only
  rw [htk, indexByte_at _ _ _ hmem, if_neg (by omega), Int.toNat_natCast, List.take_append_of_le_length (Nat.le_refl _), List.take_length, atoi_itoa n hn]
  simp only
  rw [if_pos ⟨trivial, hl⟩]
  congr 2
  rw [List.drop_append]
  simp
theorem numR_inv {c least n : Int} {s r : List UInt8} (h : numR c least s = some (n, r)) : s = Lib.itoa n ++ cb c :: r ∧ in64 n ∧ least ≤ n := by
  unfold numR at h
  simp only at h
  split at h
  · cases h
  · rename_i hp
    obtain ⟨o, ho⟩ : ∃ o : Nat, Lib.indexByte (s.take (min s.length 21)) c.toNat.toUInt8 = (o : Int) := ⟨_, (Int.toNat_of_nonneg (by omega)).symm⟩
    have hat := (Lib.indexByte_some ho).1
    rw [ho, Int.toNat_natCast] at h
    split at h
    · rename_i v hv
      split at h
      · rename_i hk
        cases h
        have hol := (List.getElem?_eq_some_iff.1 hat).1
        rw [List.length_take] at hol
        rw [List.getElem?_take] at hat
        rw [if_pos (by omega)] at hat
        rw [List.take_take, show min o (min s.length 21) = o by omega] at hk
        obtain ⟨hlt, hge⟩ := List.getElem?_eq_some_iff.1 hat
        refine ⟨?_, Lib.atoiAll_bounds hv, hk.2⟩
        rw [hk.1]
        have e : s.drop o = c.toNat.toUInt8 :: s.drop (o + 1) := by
          rw [List.drop_eq_getElem_cons hlt, hge]
        show s = s.take o ++ c.toNat.toUInt8 :: s.drop (o + 1)
        rw [← e, List.take_append_drop]
      · cases h
    · cases h
theorem numQ_back (c least n : Int) (r : List UInt8) (b : Bool) (hn : in64 n) (hl : least ≤ n) (hc : EndB c) : numQ c least ⟨Lib.itoa n ++ cb c :: r, b⟩ = (n, ⟨r, b⟩) := by
  unfold numQ
  rw [numR_back c least n r hn hl hc]
theorem numQ_inv {c least : Int} {q : RS} (h : (numQ c least q).2.bad = false) : q.bad = false ∧ q.rest = Lib.itoa (numQ c least q).1 ++ cb c :: (numQ c least q).2.rest ∧ in64 (numQ c least q).1 ∧ least ≤ (numQ c least q).1 := by
  unfold numQ at h ⊢
  cases hn : numR c least q.rest with
  | none => rw [hn] at h; cases h
  | some x =>
    rw [hn] at h
    exact ⟨h, numR_inv (r := x.2) (n := x.1) hn⟩
/-- A reader that has failed has nothing left. -/
def Dead (q : RS) : Prop := q.bad = true → q.rest = []
theorem numQ_dead (c least : Int) (q : RS) (h : Dead q) : Dead (numQ c least q).2 := by
  unfold numQ
  cases hn : numR c least q.rest with
  | none => exact fun _ => rfl
  | some x =>
    intro hb
    rw [h hb] at hn
    have := numR_lt (r := x.2) (n := x.1) hn
    exact absurd this (Nat.not_lt_zero _)
theorem digits_ok (u : Nat) : u ≤ 9223372036854775808 → APureV Tryd.prog 58 [.int .i64 (-(u : Int))] (.str (Lib.decDigits u)) := by
  induction u using Nat.strongRecOn with
  | _ u ih =>
    intro hu
    have hm : (-(u : Int)).tmod 10 = -((u % 10 : Nat) : Int) := by
      rw [Int.neg_tmod, Int.tmod_eq_emod_of_nonneg (by omega)]
      omega
    have hq : (-(u : Int)).tdiv 10 = -((u / 10 : Nat) : Int) := by
      rw [Int.neg_tdiv, Int.tdiv_eq_ediv_of_nonneg (by omega)]
      omega
    have hlt : u % 10 < 10 := Nat.mod_lt _ (by decide)
    have hrec := decDigits_rec u
    have hlen : (Lib.decDigits (u / 10)).length ≤ 20 := by
      rw [Lib.decDigits_length]
      have := nDigits_le 19 (u / 10) (by omega) (by omega)
      omega
    refine apure_of (C := cx 18 [0, 2, 3, 11]) (cxOk _ _) Tryd.func58 rfl (by decide) rfl (by exact Nat.le_of_ble_eq_true rfl) (by decide) ?_
    conv => whnf
    repeat (first | (refine And.intro ⟨by omega, by omega⟩ ?_; conv => whnf) | (refine And.intro (by omega) (And.intro rfl ?_); conv => whnf) | (refine And.intro rfl ?_; conv => whnf) | (refine And.intro (fun _ => ⟨by omega, by omega⟩) ?_; conv => whnf) | (refine And.intro (fun _ => by omega) (And.intro rfl ?_); conv => whnf) | (refine And.intro ⟨(by first | omega | (simp; omega)), (by first | omega | (simp; omega))⟩ ?_; conv => whnf) | (refine Exists.intro _ (And.intro rfl (And.intro (by first | omega | (simp; omega)) (And.intro ⟨rfl, rfl, rfl, rfl, rfl⟩ ?_))); conv => whnf) | (refine And.intro ⟨rfl, rfl⟩ (And.intro (by first | omega | (simp; omega)) ?_); conv => whnf) | (refine Exists.intro _ (And.intro rfl ?_); conv => whnf) | (refine And.intro (fun _ => ?_) (fun h => absurd h (by decide)); conv => whnf) | (refine And.intro (fun h => absurd h (by decide)) (fun _ => ?_); conv => whnf) | (refine .quiet (by kernel_rfl) ?_; conv => whnf))
    refine And.intro (by decide) ?_
    conv => whnf
    rw [hm]
    repeat (first | (refine And.intro ⟨by omega, by omega⟩ ?_; conv => whnf) | (refine And.intro (by omega) (And.intro rfl ?_); conv => whnf) | (refine And.intro rfl ?_; conv => whnf) | (refine And.intro (fun _ => ⟨by omega, by omega⟩) ?_; conv => whnf) | (refine And.intro (fun _ => by omega) (And.intro rfl ?_); conv => whnf) | (refine And.intro ⟨(by first | omega | (simp; omega)), (by first | omega | (simp; omega))⟩ ?_; conv => whnf) | (refine Exists.intro _ (And.intro rfl (And.intro (by first | omega | (simp; omega)) (And.intro ⟨rfl, rfl, rfl, rfl, rfl⟩ ?_))); conv => whnf) | (refine And.intro ⟨rfl, rfl⟩ (And.intro (by first | omega | (simp; omega)) ?_); conv => whnf) | (refine Exists.intro _ (And.intro rfl ?_); conv => whnf) | (refine And.intro (fun _ => ?_) (fun h => absurd h (by decide)); conv => whnf) | (refine And.intro (fun h => absurd h (by decide)) (fun _ => ?_); conv => whnf) | (refine .quiet (by kernel_rfl) ?_; conv => whnf))
    refine ⟨[UInt8.ofNat (48 + u % 10)], ?_, ?_⟩
    · show [AV.int .u8 (IntKind.u8.wrap (48 - -((u % 10 : Nat) : Int)))] = [AV.int .u8 ((UInt8.ofNat (48 + u % 10)).toNat : Int)]
      rw [dig_nat _ hlt, IntWalk.u8_in _ (by omega)]
      congr 2
      omega
    conv => whnf
    refine ⟨fun hc => ?_, fun hc => ?_⟩
    · have hc := of_decide_eq_true hc
      rw [if_pos (by omega)] at hrec
      conv => whnf
      rw [hrec, show u % 10 = u by omega]
      rfl
    · have hc := of_decide_eq_false hc
      rw [if_neg (by omega)] at hrec
      have h1 := ih (u / 10) (by omega) (by omega)
      rw [← hq] at h1
      conv => whnf
      refine And.intro (by decide) ?_
      conv => whnf
      repeat (first | (refine And.intro ⟨by omega, by omega⟩ ?_; conv => whnf) | (refine And.intro (by omega) (And.intro rfl ?_); conv => whnf) | (refine And.intro rfl ?_; conv => whnf) | (refine And.intro (fun _ => ⟨by omega, by omega⟩) ?_; conv => whnf) | (refine And.intro (fun _ => by omega) (And.intro rfl ?_); conv => whnf) | (refine And.intro ⟨(by first | omega | (simp; omega)), (by first | omega | (simp; omega))⟩ ?_; conv => whnf) | (refine Exists.intro _ (And.intro rfl (And.intro (by first | omega | (simp; omega)) (And.intro ⟨rfl, rfl, rfl, rfl, rfl⟩ ?_))); conv => whnf) | (refine And.intro ⟨rfl, rfl⟩ (And.intro (by first | omega | (simp; omega)) ?_); conv => whnf) | (refine Exists.intro _ (And.intro rfl ?_); conv => whnf) | (refine And.intro (fun _ => ?_) (fun h => absurd h (by decide)); conv => whnf) | (refine And.intro (fun h => absurd h (by decide)) (fun _ => ?_); conv => whnf) | (refine .quiet (by kernel_rfl) ?_; conv => whnf))
      refine .one _ _ _ (fun _ => h1) (by repeat (first | exact .nil | (apply BorL.cons; first | exact lS rfl | exact lR rfl | exact lM rfl rfl | exact lL rfl | exact lX rfl | exact lN | exact lNl | exact lSm rfl | exact lIm rfl | exact lP rfl | exact lQ rfl | exact lB rfl rfl rfl))) (by first | exact .inl rfl | exact .inr (by repeat (first | exact flats_nil | refine flats_cons (by first | exact flat_val _ rfl | exact flat_row (fun _ => rfl) | exact flat_lst (fun _ => rfl)) ?_))) (by first | exact .inl rfl | exact .inr rfl) ?_
      conv => whnf
      repeat (first | (refine And.intro ⟨by omega, by omega⟩ ?_; conv => whnf) | (refine And.intro (by omega) (And.intro rfl ?_); conv => whnf) | (refine And.intro rfl ?_; conv => whnf) | (refine And.intro (fun _ => ⟨by omega, by omega⟩) ?_; conv => whnf) | (refine And.intro (fun _ => by omega) (And.intro rfl ?_); conv => whnf) | (refine And.intro ⟨(by first | omega | (simp; omega)), (by first | omega | (simp; omega))⟩ ?_; conv => whnf) | (refine Exists.intro _ (And.intro rfl (And.intro (by first | omega | (simp; omega)) (And.intro ⟨rfl, rfl, rfl, rfl, rfl⟩ ?_))); conv => whnf) | (refine And.intro ⟨rfl, rfl⟩ (And.intro (by first | omega | (simp; omega)) ?_); conv => whnf) | (refine Exists.intro _ (And.intro rfl ?_); conv => whnf) | (refine And.intro (fun _ => ?_) (fun h => absurd h (by decide)); conv => whnf) | (refine And.intro (fun h => absurd h (by decide)) (fun _ => ?_); conv => whnf) | (refine .quiet (by kernel_rfl) ?_; conv => whnf))
      refine And.intro (show (((Lib.decDigits (u / 10)).length + 1 : Nat) : Int) ≤ 9223372036854775807 by omega) ?_
      conv => whnf
      rw [hrec]
      rfl
theorem digits_neg (u : Nat) (h : u ≤ 9223372036854775808) : APureV Tryd.prog 58 [.int .i64 (0 - (u : Int))] (.str (Lib.decDigits u)) := by
  have := digits_ok u h
  rw [show -(u : Int) = 0 - u by omega] at this
  exact this
theorem qint_enc (n : Int) (hn : in64 n) : APureV Tryd.prog 48 [.int .i64 n] (.str (intS n)) := by
  have hl := itoa_len n hn
  obtain ⟨h0, h1⟩ := hn
  unfold intS
  by_cases hneg : n < 0
  · obtain ⟨u, rfl⟩ : ∃ u : Nat, n = -(u : Int) := ⟨n.natAbs, by omega⟩
    rw [Lib.itoa_neg u (by omega)] at hl ⊢
    rw [List.length_cons] at hl
    have hd := digits_ok u (by omega)
    refine apure_of (C := cx 13 [0, 2, 4]) (cxOk _ _) Tryd.func48 rfl (by decide) rfl (by exact Nat.le_of_ble_eq_true rfl) (by decide) ?_
    conv => whnf
    refine ⟨fun hc => ?_, fun hc => ?_⟩
    · conv => whnf
      refine .one _ _ _ (fun _ => hd) (by repeat (first | exact .nil | (apply BorL.cons; first | exact lS rfl | exact lR rfl | exact lM rfl rfl | exact lL rfl | exact lX rfl | exact lN | exact lNl | exact lSm rfl | exact lIm rfl | exact lP rfl | exact lQ rfl | exact lB rfl rfl rfl))) (by first | exact .inl rfl | exact .inr (by repeat (first | exact flats_nil | refine flats_cons (by first | exact flat_val _ rfl | exact flat_row (fun _ => rfl) | exact flat_lst (fun _ => rfl)) ?_))) (by first | exact .inl rfl | exact .inr rfl) ?_
      conv => whnf
      refine And.intro (show ((1 + (Lib.decDigits u).length : Nat) : Int) ≤ 9223372036854775807 by omega) ?_
      conv => whnf
      refine And.intro (show ((((45 :: Lib.decDigits u).length + 1 : Nat)) : Int) ≤ 9223372036854775807 by rw [List.length_cons]; omega) ?_
      conv => whnf
      rfl
    · have := of_decide_eq_false hc
      omega
  · obtain ⟨u, rfl⟩ : ∃ u : Nat, n = u := ⟨n.toNat, by omega⟩
    rw [Lib.itoa_nonneg] at hl ⊢
    have hd := digits_neg u (by omega)
    refine apure_of (C := cx 13 [0, 2, 4]) (cxOk _ _) Tryd.func48 rfl (by decide) rfl (by exact Nat.le_of_ble_eq_true rfl) (by decide) ?_
    conv => whnf
    refine ⟨fun hc => ?_, fun hc => ?_⟩
    · have := of_decide_eq_true hc
      omega
    · conv => whnf
      repeat (first | (refine And.intro ⟨by omega, by omega⟩ ?_; conv => whnf) | (refine And.intro (by omega) (And.intro rfl ?_); conv => whnf) | (refine And.intro rfl ?_; conv => whnf) | (refine And.intro (fun _ => ⟨by omega, by omega⟩) ?_; conv => whnf) | (refine And.intro (fun _ => by omega) (And.intro rfl ?_); conv => whnf) | (refine And.intro ⟨(by first | omega | (simp; omega)), (by first | omega | (simp; omega))⟩ ?_; conv => whnf) | (refine Exists.intro _ (And.intro rfl (And.intro (by first | omega | (simp; omega)) (And.intro ⟨rfl, rfl, rfl, rfl, rfl⟩ ?_))); conv => whnf) | (refine And.intro ⟨rfl, rfl⟩ (And.intro (by first | omega | (simp; omega)) ?_); conv => whnf) | (refine Exists.intro _ (And.intro rfl ?_); conv => whnf) | (refine And.intro (fun _ => ?_) (fun h => absurd h (by decide)); conv => whnf) | (refine And.intro (fun h => absurd h (by decide)) (fun _ => ?_); conv => whnf) | (refine .quiet (by kernel_rfl) ?_; conv => whnf))
      refine .one _ _ _ (fun _ => hd) (by repeat (first | exact .nil | (apply BorL.cons; first | exact lS rfl | exact lR rfl | exact lM rfl rfl | exact lL rfl | exact lX rfl | exact lN | exact lNl | exact lSm rfl | exact lIm rfl | exact lP rfl | exact lQ rfl | exact lB rfl rfl rfl))) (by first | exact .inl rfl | exact .inr (by repeat (first | exact flats_nil | refine flats_cons (by first | exact flat_val _ rfl | exact flat_row (fun _ => rfl) | exact flat_lst (fun _ => rfl)) ?_))) (by first | exact .inl rfl | exact .inr rfl) ?_
      conv => whnf
      refine And.intro (show (((Lib.decDigits u).length + 1 : Nat) : Int) ≤ 9223372036854775807 by omega) ?_
      conv => whnf
      rfl
theorem qnum_enc (n : Int) (hn : in64 n) : APureV Tryd.prog 41 [.int .i64 n] (.str (numS n)) := by
  have hi := qint_enc n hn
  refine apure_of (C := cx 7 [0, 2, 4]) (cxOk _ _) Tryd.func41 rfl (by decide) rfl (by exact Nat.le_of_ble_eq_true rfl) (by decide) ?_
  conv => whnf
  refine ⟨fun hc => ?_, fun hc => ?_⟩
  · conv => whnf
    unfold numS
    rw [if_pos (of_decide_eq_true hc)]
    rfl
  · conv => whnf
    refine .one _ _ _ (fun _ => hi) (by repeat (first | exact .nil | (apply BorL.cons; first | exact lS rfl | exact lR rfl | exact lM rfl rfl | exact lL rfl | exact lX rfl | exact lN | exact lNl | exact lSm rfl | exact lIm rfl | exact lP rfl | exact lQ rfl | exact lB rfl rfl rfl))) (by first | exact .inl rfl | exact .inr (by repeat (first | exact flats_nil | refine flats_cons (by first | exact flat_val _ rfl | exact flat_row (fun _ => rfl) | exact flat_lst (fun _ => rfl)) ?_))) (by first | exact .inl rfl | exact .inr rfl) ?_
    conv => whnf
    repeat (first | (refine And.intro ⟨by omega, by omega⟩ ?_; conv => whnf) | (refine And.intro (by omega) (And.intro rfl ?_); conv => whnf) | (refine And.intro rfl ?_; conv => whnf) | (refine And.intro (fun _ => ⟨by omega, by omega⟩) ?_; conv => whnf) | (refine And.intro (fun _ => by omega) (And.intro rfl ?_); conv => whnf) | (refine And.intro ⟨(by first | omega | (simp; omega)), (by first | omega | (simp; omega))⟩ ?_; conv => whnf) | (refine Exists.intro _ (And.intro rfl (And.intro (by first | omega | (simp; omega)) (And.intro ⟨rfl, rfl, rfl, rfl, rfl⟩ ?_))); conv => whnf) | (refine And.intro ⟨rfl, rfl⟩ (And.intro (by first | omega | (simp; omega)) ?_); conv => whnf) | (refine Exists.intro _ (And.intro rfl ?_); conv => whnf) | (refine And.intro (fun _ => ?_) (fun h => absurd h (by decide)); conv => whnf) | (refine And.intro (fun h => absurd h (by decide)) (fun _ => ?_); conv => whnf) | (refine .quiet (by kernel_rfl) ?_; conv => whnf))
    unfold numS
    rw [if_neg (of_decide_eq_false hc)]
    rfl
def frB (s : List UInt8) : Nat := if (decide (0 < (s.length : Int)) && decide (((s.getD 0 0).toNat : Int) = 45)) = true then 1 else 0
def dgB (s : List UInt8) : List UInt8 := s.drop (frB s)
def bkF (l : List UInt8) : Int := l.foldl (fun n c => IntKind.i64.wrap (10 * n - ((c.toNat : Int) - 48))) 0
def valB (l : List UInt8) : Int := l.foldl (fun n c => 10 * n - ((c.toNat : Int) - 48)) 0
def backV (s : List UInt8) : Int := if frB s = 0 then IntKind.i64.wrap (0 - bkF (dgB s)) else bkF (dgB s)
def BackR (s : List UInt8) (v : Int) (b : Bool) : Prop := (b = true → s = Lib.itoa v ∧ in64 v) ∧ (b = false → ∀ m, in64 m → s ≠ Lib.itoa m)
theorem wrap_in (x : Int) : in64 (IntKind.i64.wrap x) := by
  rw [IntKind.wrap_i64]
  unfold in64
  omega
theorem wrap_id {x : Int} (h : in64 x) : IntKind.i64.wrap x = x := by
  rw [IntKind.wrap_i64]
  unfold in64 at h
  omega
theorem wrap_step (x y d : Int) (h : IntKind.i64.wrap x = IntKind.i64.wrap y) : IntKind.i64.wrap (10 * x - d) = IntKind.i64.wrap (10 * y - d) := by
  simp only [IntKind.wrap_i64] at *
  omega
theorem wrap_wrap (x d : Int) : IntKind.i64.wrap (IntKind.i64.wrap x - d) = IntKind.i64.wrap (x - d) := by
  simp only [IntKind.wrap_i64]
  omega
theorem wrap_idem (x : Int) : IntKind.i64.wrap (IntKind.i64.wrap x) = IntKind.i64.wrap x := by
  simp only [IntKind.wrap_i64]
  omega
theorem bkF_snoc (l : List UInt8) (c : UInt8) : bkF (l ++ [c]) = IntKind.i64.wrap (10 * bkF l - ((c.toNat : Int) - 48)) := by
  unfold bkF
  rw [List.foldl_append]
  rfl
theorem valB_snoc (l : List UInt8) (c : UInt8) : valB (l ++ [c]) = 10 * valB l - ((c.toNat : Int) - 48) := by
  unfold valB
  rw [List.foldl_append]
  rfl
theorem bkF_in (l : List UInt8) : in64 (bkF l) := by
  rcases List.eq_nil_or_concat l with h | ⟨a, c, h⟩
  · subst h; unfold in64 bkF; simp
  · subst h; rw [List.concat_eq_append, bkF_snoc]; exact wrap_in _
theorem bkF_val (l : List UInt8) : bkF l = IntKind.i64.wrap (valB l) := by
  have h : ∀ n : Nat, ∀ l : List UInt8, l.length = n → IntKind.i64.wrap (bkF l) = IntKind.i64.wrap (valB l) := by
    intro n
    induction n with
    | zero => intro l hl; rw [List.length_eq_zero_iff.1 hl]; rfl
    | succ n ih =>
      intro l hl
      rcases List.eq_nil_or_concat l with h | ⟨a, c, h⟩
      · subst h; simp at hl
      · subst h
        rw [List.concat_eq_append] at hl ⊢
        rw [bkF_snoc, valB_snoc, wrap_idem]
        exact wrap_step _ _ _ (ih a (by simp at hl; omega))
  rw [← wrap_id (bkF_in l)]
  exact h _ l rfl
theorem valB_dec (u : Nat) : valB (Lib.decDigits u) = -(u : Int) := by
  induction u using Nat.strongRecOn with
  | _ u ih =>
    rw [decDigits_rec]
    split
    · rename_i h
      unfold valB
      rw [List.foldl_cons, List.foldl_nil, dig_nat u h]
      omega
    · rename_i h
      rw [valB_snoc, ih (u / 10) (by omega), dig_nat _ (Nat.mod_lt _ (by decide))]
      omega
theorem itoa_parts (n : Int) : (n < 0 ∧ frB (Lib.itoa n) = 1 ∧ dgB (Lib.itoa n) = Lib.decDigits n.natAbs) ∨ (0 ≤ n ∧ frB (Lib.itoa n) = 0 ∧ dgB (Lib.itoa n) = Lib.decDigits n.natAbs) := by
  by_cases hneg : n < 0
  · obtain ⟨u, rfl⟩ : ∃ u : Nat, n = -(u : Int) := ⟨n.natAbs, by omega⟩
    have e : frB (Lib.itoa (-(u : Int))) = 1 := by
      rw [Lib.itoa_neg u (by omega)]
      unfold frB
      rw [if_pos (by simp)]
    refine .inl ⟨hneg, e, ?_⟩
    unfold dgB
    rw [e, Lib.itoa_neg u (by omega), show (-(u : Int)).natAbs = u by omega]
    rfl
  · obtain ⟨u, rfl⟩ : ∃ u : Nat, n = u := ⟨n.toNat, by omega⟩
    have e : frB (Lib.itoa (u : Int)) = 0 := by
      rw [Lib.itoa_nonneg]
      have hm := decDigits_mem u
      unfold frB
      cases hd : Lib.decDigits u with
      | nil => exact absurd hd (decDigits_ne u)
      | cons c r =>
        rw [hd] at hm
        have hc := hm c (List.mem_cons_self ..)
        rw [if_neg]
        simp
        omega
    refine .inr ⟨by omega, e, ?_⟩
    unfold dgB
    rw [e, Lib.itoa_nonneg, show ((u : Int)).natAbs = u by omega]
    rfl
theorem backV_itoa (n : Int) (hn : in64 n) : backV (Lib.itoa n) = n := by
  unfold backV
  rcases itoa_parts n with ⟨h, e, hd⟩ | ⟨h, e, hd⟩
  · rw [e, if_neg (by decide), hd, bkF_val, valB_dec, wrap_id] <;> (try unfold in64 at *) <;> omega
  · rw [e, if_pos rfl, hd, bkF_val, valB_dec]
    unfold in64 at hn
    simp only [IntKind.wrap_i64]
    omega
/-- A numeral has digits behind its sign. -/
theorem itoa_dig (n : Int) (hn : in64 n) {s : List UInt8} (h : s = Lib.itoa n) : s.length ≤ 20 ∧ ∀ i, i < (dgB s).length → 48 ≤ ((dgB s).getD i 0).toNat ∧ ((dgB s).getD i 0).toNat ≤ 57 := by
  subst h
  refine ⟨itoa_len n hn, fun i hi => ?_⟩
  have hd : dgB (Lib.itoa n) = Lib.decDigits n.natAbs := by
    rcases itoa_parts n with ⟨_, _, hd⟩ | ⟨_, _, hd⟩ <;> exact hd
  rw [hd] at hi ⊢
  apply decDigits_mem n.natAbs
  rw [List.getD_eq_getElem?_getD, List.getElem?_eq_getElem hi]
  exact List.getElem_mem hi
theorem frB_le (s : List UInt8) : frB s ≤ s.length := by
  unfold frB
  split
  · rename_i h
    rw [Bool.and_eq_true, decide_eq_true_eq] at h
    omega
  · omega
theorem dgB_len (s : List UInt8) : (dgB s).length = s.length - frB s := by
  unfold dgB
  rw [List.length_drop]
theorem dgB_get (s : List UInt8) (k : Nat) : (dgB s).getD k 0 = s.getD (frB s + k) 0 := by
  unfold dgB
  rw [List.getD_eq_getElem?_getD, List.getD_eq_getElem?_getD, List.getElem?_drop]
theorem back_end {s : List UInt8} {v : Int} (hv : v = backV s) : BackR s v (decide (intS v = s ++ [59])) := by
  subst hv
  have h : (intS (backV s) = s ++ [59]) ↔ s = Lib.itoa (backV s) := by
    unfold intS
    constructor
    · intro h
      exact (List.append_inj_left' h rfl).symm
    · intro h
      rw [← h]
  refine ⟨fun hb => ?_, fun hb m hm he => ?_⟩
  · refine ⟨h.1 (of_decide_eq_true hb), ?_⟩
    unfold backV
    split
    · exact wrap_in _
    · exact bkF_in _
  · apply of_decide_eq_false hb
    apply h.2
    rw [he, backV_itoa m hm]
theorem back_bad {s : List UInt8} {k : Nat} (hk : frB s + k < s.length) (h : ¬(48 ≤ (s.getD (frB s + k) 0).toNat ∧ (s.getD (frB s + k) 0).toNat ≤ 57) ∨ 20 < frB s + k) : BackR s 0 false := by
  refine ⟨fun hb => (by cases hb), fun _ m hm he => ?_⟩
  obtain ⟨h1, h2⟩ := itoa_dig m hm he
  have := h2 k (by rw [dgB_len]; omega)
  rw [dgB_get] at this
  rcases h with h | h
  · exact h this
  · omega
theorem back_ok (s : List UInt8) (hs : s.length ≤ 9223372036854775000) : APure Tryd.prog 74 [.str s] (fun rs => ∃ v b, rs = [.val (.int .i64 v), .val (.bool b)] ∧ BackR s v b) := by
  have hf := frB_le s
  have hdl := dgB_len s
  have hbv : backV s = if frB s = 0 then IntKind.i64.wrap (0 - bkF (dgB s)) else bkF (dgB s) := rfl
  have hfd : frB s = if (decide (0 < (s.length : Int)) && decide (((s.getD 0 0).toNat : Int) = 45)) = true then 1 else 0 := rfl
  refine apure_of (C := cxW 54 [0, 2, 3, 4, 5, 6, 14, 19, 35, 45]) (cxWOk _ _) Tryd.func74 rfl (by decide) rfl (by exact Nat.le_of_ble_eq_true rfl) (by decide) ?_
  conv => whnf
  refine And.intro (fun h => ⟨by omega, of_decide_eq_true h⟩) ?_
  conv => whnf
  refine ⟨fun hc => ?_, fun hc => ?_⟩
  · have e : frB s = 1 := by rw [hfd]; exact if_pos hc
    conv => whnf
    refine loop_up (cxWOk _ _) (s.length - frB s) (fun _ => True) (fun k => ⟨[(0, .str s), (4, .int .i64 ((frB s : Nat) : Int)), (5, .int .i64 (bkF ((dgB s).take k))), (6, .int .i64 ((frB s + k : Nat) : Int))], [], 0⟩) trivial ((wk_of [] rfl ⟨.base (.tree _ _ rfl rfl), .base (.tree _ _ (show AV.int .i64 _ = AV.int .i64 _ by rw [e]; rfl) rfl), .base (.tree _ _ rfl rfl), .base (.tree _ _ (show AV.int .i64 _ = AV.int .i64 _ by rw [e]; rfl) rfl), trivial⟩ trivial)) ?_
    intro k hk _
    conv => whnf
    refine ⟨fun hd => ?_, fun hd => ?_⟩
    · have hkl : frB s + k < s.length := by
        have := of_decide_eq_true hd
        omega
      have hek : ((frB s + k : Nat) : Int).toNat = frB s + k := Int.toNat_natCast _
      have htk : (dgB s).take (k + 1) = (dgB s).take k ++ [s.getD (frB s + k) 0] := by
        rw [take_getD (d := 0) (by omega), dgB_get]
      conv => whnf
      repeat (first | (refine And.intro ⟨by omega, by omega⟩ ?_; conv => whnf) | (refine And.intro (by omega) (And.intro rfl ?_); conv => whnf) | (refine And.intro rfl ?_; conv => whnf) | (refine And.intro (fun _ => ⟨by omega, by omega⟩) ?_; conv => whnf) | (refine And.intro (fun _ => by omega) (And.intro rfl ?_); conv => whnf) | (refine And.intro ⟨(by first | omega | (simp; omega)), (by first | omega | (simp; omega))⟩ ?_; conv => whnf) | (refine Exists.intro _ (And.intro rfl (And.intro (by first | omega | (simp; omega)) (And.intro ⟨rfl, rfl, rfl, rfl, rfl⟩ ?_))); conv => whnf) | (refine And.intro ⟨rfl, rfl⟩ (And.intro (by first | omega | (simp; omega)) ?_); conv => whnf) | (refine Exists.intro _ (And.intro rfl ?_); conv => whnf) | (refine And.intro (fun _ => ?_) (fun h => absurd h (by decide)); conv => whnf) | (refine And.intro (fun h => absurd h (by decide)) (fun _ => ?_); conv => whnf) | (refine .quiet (by kernel_rfl) ?_; conv => whnf))
      rw [hek]
      refine ⟨fun hb => ?_, fun hb => ?_⟩
      · conv => whnf
        refine ⟨0, false, rfl, back_bad hkl ?_⟩
        simp only [Bool.or_eq_true, decide_eq_true_eq] at hb
        omega
      · simp only [Bool.or_eq_false_iff, decide_eq_false_iff_not] at hb
        have hu8 : IntKind.u8.wrap (((s.getD (frB s + k) 0).toNat : Int) - 48) = ((s.getD (frB s + k) 0).toNat : Int) - 48 := IntWalk.u8_in _ (by omega)
        conv => whnf
        repeat (first | (refine And.intro ⟨by omega, by omega⟩ ?_; conv => whnf) | (refine And.intro (by omega) (And.intro rfl ?_); conv => whnf) | (refine And.intro rfl ?_; conv => whnf) | (refine And.intro (fun _ => ⟨by omega, by omega⟩) ?_; conv => whnf) | (refine And.intro (fun _ => by omega) (And.intro rfl ?_); conv => whnf) | (refine And.intro ⟨(by first | omega | (simp; omega)), (by first | omega | (simp; omega))⟩ ?_; conv => whnf) | (refine Exists.intro _ (And.intro rfl (And.intro (by first | omega | (simp; omega)) (And.intro ⟨rfl, rfl, rfl, rfl, rfl⟩ ?_))); conv => whnf) | (refine And.intro ⟨rfl, rfl⟩ (And.intro (by first | omega | (simp; omega)) ?_); conv => whnf) | (refine Exists.intro _ (And.intro rfl ?_); conv => whnf) | (refine And.intro (fun _ => ?_) (fun h => absurd h (by decide)); conv => whnf) | (refine And.intro (fun h => absurd h (by decide)) (fun _ => ?_); conv => whnf) | (refine .quiet (by kernel_rfl) ?_; conv => whnf))
        rw [hek, hu8]
        refine And.intro ⟨by omega, by omega⟩ ?_
        conv => whnf
        repeat (first | (refine And.intro ⟨by omega, by omega⟩ ?_; conv => whnf) | (refine And.intro (by omega) (And.intro rfl ?_); conv => whnf) | (refine And.intro rfl ?_; conv => whnf) | (refine And.intro (fun _ => ⟨by omega, by omega⟩) ?_; conv => whnf) | (refine And.intro (fun _ => by omega) (And.intro rfl ?_); conv => whnf) | (refine And.intro ⟨(by first | omega | (simp; omega)), (by first | omega | (simp; omega))⟩ ?_; conv => whnf) | (refine Exists.intro _ (And.intro rfl (And.intro (by first | omega | (simp; omega)) (And.intro ⟨rfl, rfl, rfl, rfl, rfl⟩ ?_))); conv => whnf) | (refine And.intro ⟨rfl, rfl⟩ (And.intro (by first | omega | (simp; omega)) ?_); conv => whnf) | (refine Exists.intro _ (And.intro rfl ?_); conv => whnf) | (refine And.intro (fun _ => ?_) (fun h => absurd h (by decide)); conv => whnf) | (refine And.intro (fun h => absurd h (by decide)) (fun _ => ?_); conv => whnf) | (refine .quiet (by kernel_rfl) ?_; conv => whnf))
        refine up (by omega) trivial ((wk_of [] rfl ⟨.base (.tree _ _ rfl rfl), .base (.tree _ _ rfl rfl), .base (.tree _ _ (show AV.int .i64 _ = AV.int .i64 _ by rw [htk, bkF_snoc, wrap_wrap]) rfl), .base (.tree _ _ (show AV.int .i64 _ = AV.int .i64 _ by rw [wrap_id (by unfold in64; omega)]; congr 1) rfl), trivial⟩ trivial))
    · have hkl : frB s + k = s.length := by
        have := of_decide_eq_false hd
        omega
      have htk : (dgB s).take k = dgB s := List.take_of_length_le (by omega)
      rw [htk]
      conv => whnf
      refine ⟨fun h0 => ?_, fun h0 => ?_⟩
      · have h0 := of_decide_eq_true h0
        rw [if_pos (by omega)] at hbv
        have hbi : in64 (backV s) := by rw [hbv]; exact wrap_in _
        have hi := qint_enc (backV s) hbi
        have hil := itoa_len (backV s) hbi
        conv => whnf
        rw [← hbv]
        refine .one _ _ _ (fun _ => hi) (by repeat (first | exact .nil | (apply BorL.cons; first | exact lS rfl | exact lR rfl | exact lM rfl rfl | exact lL rfl | exact lX rfl | exact lN | exact lNl | exact lSm rfl | exact lIm rfl | exact lP rfl | exact lQ rfl | exact lB rfl rfl rfl))) (by first | exact .inl rfl | exact .inr (by repeat (first | exact flats_nil | refine flats_cons (by first | exact flat_val _ rfl | exact flat_row (fun _ => rfl) | exact flat_lst (fun _ => rfl)) ?_))) (by first | exact .inl rfl | exact .inr rfl) ?_
        conv => whnf
        refine And.intro (show ((s.length + 1 : Nat) : Int) ≤ 9223372036854775807 by omega) ?_
        conv => whnf
        exact ⟨_, _, rfl, back_end rfl⟩
      · have h0 := of_decide_eq_false h0
        rw [if_neg (by omega)] at hbv
        have hbi : in64 (backV s) := by rw [hbv]; exact bkF_in _
        have hi := qint_enc (backV s) hbi
        conv => whnf
        rw [← hbv]
        refine .one _ _ _ (fun _ => hi) (by repeat (first | exact .nil | (apply BorL.cons; first | exact lS rfl | exact lR rfl | exact lM rfl rfl | exact lL rfl | exact lX rfl | exact lN | exact lNl | exact lSm rfl | exact lIm rfl | exact lP rfl | exact lQ rfl | exact lB rfl rfl rfl))) (by first | exact .inl rfl | exact .inr (by repeat (first | exact flats_nil | refine flats_cons (by first | exact flat_val _ rfl | exact flat_row (fun _ => rfl) | exact flat_lst (fun _ => rfl)) ?_))) (by first | exact .inl rfl | exact .inr rfl) ?_
        conv => whnf
        refine And.intro (show ((s.length + 1 : Nat) : Int) ≤ 9223372036854775807 by omega) ?_
        conv => whnf
        exact ⟨_, _, rfl, back_end rfl⟩
  · have e : frB s = 0 := by rw [hfd]; exact if_neg (fun h => (by have := hc.symm.trans h; cases this))
    conv => whnf
    refine loop_up (cxWOk _ _) (s.length - frB s) (fun _ => True) (fun k => ⟨[(0, .str s), (4, .int .i64 ((frB s : Nat) : Int)), (5, .int .i64 (bkF ((dgB s).take k))), (6, .int .i64 ((frB s + k : Nat) : Int))], [], 0⟩) trivial ((wk_of [] rfl ⟨.base (.tree _ _ rfl rfl), .base (.tree _ _ (show AV.int .i64 _ = AV.int .i64 _ by rw [e]; rfl) rfl), .base (.tree _ _ rfl rfl), .base (.tree _ _ (show AV.int .i64 _ = AV.int .i64 _ by rw [e]; rfl) rfl), trivial⟩ trivial)) ?_
    intro k hk _
    conv => whnf
    refine ⟨fun hd => ?_, fun hd => ?_⟩
    · have hkl : frB s + k < s.length := by
        have := of_decide_eq_true hd
        omega
      have hek : ((frB s + k : Nat) : Int).toNat = frB s + k := Int.toNat_natCast _
      have htk : (dgB s).take (k + 1) = (dgB s).take k ++ [s.getD (frB s + k) 0] := by
        rw [take_getD (d := 0) (by omega), dgB_get]
      conv => whnf
      repeat (first | (refine And.intro ⟨by omega, by omega⟩ ?_; conv => whnf) | (refine And.intro (by omega) (And.intro rfl ?_); conv => whnf) | (refine And.intro rfl ?_; conv => whnf) | (refine And.intro (fun _ => ⟨by omega, by omega⟩) ?_; conv => whnf) | (refine And.intro (fun _ => by omega) (And.intro rfl ?_); conv => whnf) | (refine And.intro ⟨(by first | omega | (simp; omega)), (by first | omega | (simp; omega))⟩ ?_; conv => whnf) | (refine Exists.intro _ (And.intro rfl (And.intro (by first | omega | (simp; omega)) (And.intro ⟨rfl, rfl, rfl, rfl, rfl⟩ ?_))); conv => whnf) | (refine And.intro ⟨rfl, rfl⟩ (And.intro (by first | omega | (simp; omega)) ?_); conv => whnf) | (refine Exists.intro _ (And.intro rfl ?_); conv => whnf) | (refine And.intro (fun _ => ?_) (fun h => absurd h (by decide)); conv => whnf) | (refine And.intro (fun h => absurd h (by decide)) (fun _ => ?_); conv => whnf) | (refine .quiet (by kernel_rfl) ?_; conv => whnf))
      rw [hek]
      refine ⟨fun hb => ?_, fun hb => ?_⟩
      · conv => whnf
        refine ⟨0, false, rfl, back_bad hkl ?_⟩
        simp only [Bool.or_eq_true, decide_eq_true_eq] at hb
        omega
      · simp only [Bool.or_eq_false_iff, decide_eq_false_iff_not] at hb
        have hu8 : IntKind.u8.wrap (((s.getD (frB s + k) 0).toNat : Int) - 48) = ((s.getD (frB s + k) 0).toNat : Int) - 48 := IntWalk.u8_in _ (by omega)
        conv => whnf
        repeat (first | (refine And.intro ⟨by omega, by omega⟩ ?_; conv => whnf) | (refine And.intro (by omega) (And.intro rfl ?_); conv => whnf) | (refine And.intro rfl ?_; conv => whnf) | (refine And.intro (fun _ => ⟨by omega, by omega⟩) ?_; conv => whnf) | (refine And.intro (fun _ => by omega) (And.intro rfl ?_); conv => whnf) | (refine And.intro ⟨(by first | omega | (simp; omega)), (by first | omega | (simp; omega))⟩ ?_; conv => whnf) | (refine Exists.intro _ (And.intro rfl (And.intro (by first | omega | (simp; omega)) (And.intro ⟨rfl, rfl, rfl, rfl, rfl⟩ ?_))); conv => whnf) | (refine And.intro ⟨rfl, rfl⟩ (And.intro (by first | omega | (simp; omega)) ?_); conv => whnf) | (refine Exists.intro _ (And.intro rfl ?_); conv => whnf) | (refine And.intro (fun _ => ?_) (fun h => absurd h (by decide)); conv => whnf) | (refine And.intro (fun h => absurd h (by decide)) (fun _ => ?_); conv => whnf) | (refine .quiet (by kernel_rfl) ?_; conv => whnf))
        rw [hek, hu8]
        refine And.intro ⟨by omega, by omega⟩ ?_
        conv => whnf
        repeat (first | (refine And.intro ⟨by omega, by omega⟩ ?_; conv => whnf) | (refine And.intro (by omega) (And.intro rfl ?_); conv => whnf) | (refine And.intro rfl ?_; conv => whnf) | (refine And.intro (fun _ => ⟨by omega, by omega⟩) ?_; conv => whnf) | (refine And.intro (fun _ => by omega) (And.intro rfl ?_); conv => whnf) | (refine And.intro ⟨(by first | omega | (simp; omega)), (by first | omega | (simp; omega))⟩ ?_; conv => whnf) | (refine Exists.intro _ (And.intro rfl (And.intro (by first | omega | (simp; omega)) (And.intro ⟨rfl, rfl, rfl, rfl, rfl⟩ ?_))); conv => whnf) | (refine And.intro ⟨rfl, rfl⟩ (And.intro (by first | omega | (simp; omega)) ?_); conv => whnf) | (refine Exists.intro _ (And.intro rfl ?_); conv => whnf) | (refine And.intro (fun _ => ?_) (fun h => absurd h (by decide)); conv => whnf) | (refine And.intro (fun h => absurd h (by decide)) (fun _ => ?_); conv => whnf) | (refine .quiet (by kernel_rfl) ?_; conv => whnf))
        refine up (by omega) trivial ((wk_of [] rfl ⟨.base (.tree _ _ rfl rfl), .base (.tree _ _ rfl rfl), .base (.tree _ _ (show AV.int .i64 _ = AV.int .i64 _ by rw [htk, bkF_snoc, wrap_wrap]) rfl), .base (.tree _ _ (show AV.int .i64 _ = AV.int .i64 _ by rw [wrap_id (by unfold in64; omega)]; congr 1) rfl), trivial⟩ trivial))
    · have hkl : frB s + k = s.length := by
        have := of_decide_eq_false hd
        omega
      have htk : (dgB s).take k = dgB s := List.take_of_length_le (by omega)
      rw [htk]
      conv => whnf
      refine ⟨fun h0 => ?_, fun h0 => ?_⟩
      · have h0 := of_decide_eq_true h0
        rw [if_pos (by omega)] at hbv
        have hbi : in64 (backV s) := by rw [hbv]; exact wrap_in _
        have hi := qint_enc (backV s) hbi
        have hil := itoa_len (backV s) hbi
        conv => whnf
        rw [← hbv]
        refine .one _ _ _ (fun _ => hi) (by repeat (first | exact .nil | (apply BorL.cons; first | exact lS rfl | exact lR rfl | exact lM rfl rfl | exact lL rfl | exact lX rfl | exact lN | exact lNl | exact lSm rfl | exact lIm rfl | exact lP rfl | exact lQ rfl | exact lB rfl rfl rfl))) (by first | exact .inl rfl | exact .inr (by repeat (first | exact flats_nil | refine flats_cons (by first | exact flat_val _ rfl | exact flat_row (fun _ => rfl) | exact flat_lst (fun _ => rfl)) ?_))) (by first | exact .inl rfl | exact .inr rfl) ?_
        conv => whnf
        refine And.intro (show ((s.length + 1 : Nat) : Int) ≤ 9223372036854775807 by omega) ?_
        conv => whnf
        exact ⟨_, _, rfl, back_end rfl⟩
      · have h0 := of_decide_eq_false h0
        rw [if_neg (by omega)] at hbv
        have hbi : in64 (backV s) := by rw [hbv]; exact bkF_in _
        have hi := qint_enc (backV s) hbi
        conv => whnf
        rw [← hbv]
        refine .one _ _ _ (fun _ => hi) (by repeat (first | exact .nil | (apply BorL.cons; first | exact lS rfl | exact lR rfl | exact lM rfl rfl | exact lL rfl | exact lX rfl | exact lN | exact lNl | exact lSm rfl | exact lIm rfl | exact lP rfl | exact lQ rfl | exact lB rfl rfl rfl))) (by first | exact .inl rfl | exact .inr (by repeat (first | exact flats_nil | refine flats_cons (by first | exact flat_val _ rfl | exact flat_row (fun _ => rfl) | exact flat_lst (fun _ => rfl)) ?_))) (by first | exact .inl rfl | exact .inr rfl) ?_
        conv => whnf
        refine And.intro (show ((s.length + 1 : Nat) : Int) ≤ 9223372036854775807 by omega) ?_
        conv => whnf
        exact ⟨_, _, rfl, back_end rfl⟩
abbrev mn : Int := -9223372036854775808
theorem at_end {n : Int} {c : UInt8} {s r : List UInt8} (h : s = Lib.itoa n ++ c :: r) : (Lib.itoa n).length < s.length ∧ s.getD (Lib.itoa n).length 0 = c ∧ s.take (Lib.itoa n).length = Lib.itoa n := by
  subst h
  refine ⟨by simp, by simp, by simp⟩
theorem at_in {n : Int} {c : UInt8} {s r : List UInt8} (h : s = Lib.itoa n ++ c :: r) {k : Nat} (hk : k < (Lib.itoa n).length) : (s.getD k 0).toNat ≤ 57 := by
  subst h
  apply itoa_mem n
  rw [List.getD_eq_getElem?_getD, List.getElem?_append_left hk, List.getElem?_eq_getElem hk]
  exact List.getElem_mem hk
theorem ahead_no {c : Int} {s : List UInt8} (h : ∀ i, i < s.length → i < 21 → s.getD i 0 ≠ cb c) : numR c mn s = none := by
  cases hn : numR c mn s with
  | none => rfl
  | some x =>
    obtain ⟨h1, h2, _⟩ := numR_inv (n := x.1) (r := x.2) hn
    obtain ⟨h3, h4, _⟩ := at_end h1
    have := itoa_len x.1 h2
    exact absurd h4 (h _ h3 (by omega))
theorem ahead_bad {c : Int} {s : List UInt8} {k : Nat} (hc : EndB c) (h : ∀ i, i < k → s.getD i 0 ≠ cb c) (he : s.getD k 0 = cb c) (hb : ∀ m, in64 m → s.take k ≠ Lib.itoa m) : numR c mn s = none := by
  cases hn : numR c mn s with
  | none => rfl
  | some x =>
    obtain ⟨h1, h2, _⟩ := numR_inv (n := x.1) (r := x.2) hn
    obtain ⟨h3, h4, h5⟩ := at_end h1
    by_cases hlt : k < (Lib.itoa x.1).length
    · have := at_in h1 hlt
      rw [he] at this
      unfold EndB at hc
      unfold cb at this
      omega
    · by_cases hgt : (Lib.itoa x.1).length < k
      · exact absurd h4 (h _ hgt)
      · have : k = (Lib.itoa x.1).length := by omega
        subst this
        exact absurd h5 (hb _ h2)
theorem ahead_good {c : Int} {s : List UInt8} {k : Nat} {v : Int} (hc : EndB c) (hk : k < s.length) (he : s.getD k 0 = cb c) (hv : s.take k = Lib.itoa v) (hi : in64 v) : numR c mn s = some (v, s.drop (k + 1)) := by
  have e : s = Lib.itoa v ++ cb c :: s.drop (k + 1) := by
    rw [← hv]
    have e2 : s.drop k = cb c :: s.drop (k + 1) := by
      rw [List.drop_eq_getElem_cons hk, ← he, List.getD_eq_getElem?_getD, List.getElem?_eq_getElem hk]
      rfl
    rw [← e2, List.take_append_drop]
  have := numR_back c mn v (s.drop (k + 1)) hi hi.1 hc
  rw [← e] at this
  exact this
theorem numR_zero {c : Int} (s : List UInt8) (hc : EndB c) : numR c 0 s = (numR c mn s).bind (fun x => if x.1 < 0 then none else some x) := by
  have h0 : ∀ x : Int × List UInt8, numR c 0 s = some x → numR c mn s = some x ∧ 0 ≤ x.1 := fun x hx => by
    obtain ⟨h1, h2, h3⟩ := numR_inv (n := x.1) (r := x.2) hx
    have := numR_back c mn x.1 x.2 h2 h2.1 hc
    rw [← h1] at this
    exact ⟨this, h3⟩
  cases hn : numR c mn s with
  | none =>
    cases h : numR c 0 s with
    | none => rfl
    | some x => rw [(h0 x h).1] at hn; cases hn
  | some y =>
    show _ = if y.1 < 0 then none else some y
    by_cases hy : y.1 < 0
    · rw [if_pos hy]
      cases h : numR c 0 s with
      | none => rfl
      | some x =>
        obtain ⟨h1, h2⟩ := h0 x h
        rw [h1] at hn
        cases hn
        omega
    · rw [if_neg hy]
      obtain ⟨h1, h2, h3⟩ := numR_inv (n := y.1) (r := y.2) hn
      have := numR_back c 0 y.1 y.2 h2 (by omega) hc
      rw [← h1] at this
      exact this
theorem numQ_zero {c : Int} (q : RS) (hc : EndB c) : numQ c 0 q = if (numQ c mn q).1 < 0 then (0, ⟨[], true⟩) else numQ c mn q := by
  unfold numQ
  rw [numR_zero q.rest hc]
  cases hn : numR c mn q.rest with
  | none => rfl
  | some x =>
    show (match (if x.1 < 0 then none else some x) with | some (n, r) => (n, RS.mk r q.bad) | none => (0, ⟨[], true⟩)) = if x.1 < 0 then (0, ⟨[], true⟩) else (x.1, ⟨x.2, q.bad⟩)
    split
    · rename_i h; split at h
      · cases h
      · cases h; rw [if_neg (by assumption)]
    · rename_i h; split at h
      · rw [if_pos (by assumption)]
      · cases h
abbrev qo (q : RS) : AB := .cells 67 [.str q.rest, .bool q.bad]
theorem numQ_none {c least : Int} {s : List UInt8} (b : Bool) (h : numR c least s = none) : numQ c least ⟨s, b⟩ = (0, ⟨[], true⟩) := by
  unfold numQ
  rw [h]
theorem numQ_some {c least n : Int} {s r : List UInt8} (b : Bool) (h : numR c least s = some (n, r)) : numQ c least ⟨s, b⟩ = (n, ⟨r, b⟩) := by
  unfold numQ
  rw [h]
theorem qopen_ok (s : List UInt8) : APure Tryd.prog 35 [.str s] (fun rs => rs = [.new (.cells 67 [.str s, .bool false])]) := by
  refine apure_of (C := cx 6 [0, 2]) (cxOk _ _) Tryd.func35 rfl (by decide) rfl (by exact Nat.le_of_ble_eq_true rfl) (by decide) ?_
  conv => whnf
  rfl
theorem qfail_ok (s : List UInt8) (b : Bool) : AIO Tryd.prog 57 [.ptr 0 0] [.cells 67 [.str s, .bool b]] (fun bs rs => bs = [.cells 67 [.str [], .bool true]] ∧ rs = [.val (.int .i64 0)]) := by
  refine aio_of (C := cxP 1 9 [0, 2]) (cxPOk _ _ _) Tryd.func57 rfl (by decide) rfl (by exact Nat.le_of_ble_eq_true rfl) (by decide) rfl rfl ?_
  conv => whnf
  exact ⟨rfl, rfl⟩
theorem qdone_ok (s : List UInt8) (b : Bool) : APureV Tryd.prog 37 [.rop [.str s, .bool b]] (.bool (!b && decide (s = []))) := by
  refine apure_of (C := cx 15 [0, 2]) (cxOk _ _) Tryd.func37 rfl (by decide) rfl (by exact Nat.le_of_ble_eq_true rfl) (by decide) ?_
  conv => whnf
  rfl
theorem ahead_ok (c : Int) (hc : 0 ≤ c ∧ c ≤ 255) (he : EndB c) (q : RS) (hs : q.rest.length ≤ 9223372036854775000) : AIO Tryd.prog 56 [.ptr 0 0, .int .u8 c] [qo q] (fun bs rs => bs = [qo (numQ c mn q).2] ∧ rs = [.val (.int .i64 (numQ c mn q).1)]) := by
  obtain ⟨s, b⟩ := q
  replace hs : s.length ≤ 9223372036854775000 := hs
  have hcb : ((cb c).toNat : Int) = c := by
    unfold cb
    rw [Nat.toUInt8_eq, UInt8.toNat_ofNat']
    omega
  have hce : ∀ x : UInt8, (x.toNat : Int) = c ↔ x = cb c := fun x => by
    constructor
    · intro h
      exact UInt8.toNat_inj.1 (by omega)
    · intro h
      rw [h, hcb]
  refine aio_of (C := cxP 1 75 [0, 1, 4, 5, 6, 7, 28, 37, 47, 61]) (cxPOk _ _ _) Tryd.func56 rfl (by decide) rfl (by exact Nat.le_of_ble_eq_true rfl) (by decide) rfl rfl ?_
  conv => whnf
  refine loop_up (cxPOk _ _ _) 21 (fun k => k ≤ s.length ∧ ∀ i, i < k → s.getD i 0 ≠ cb c) (fun k => ⟨[(0, .ptr 0 0), (1, .int .u8 c), (5, .int .i64 (k : Nat))], [(0, .cells 67 [.str s, .bool b])], 1⟩) ⟨Nat.zero_le _, fun i hi => absurd hi (Nat.not_lt_zero _)⟩ ((wk_of [(0, .id 0)] rfl ⟨.base (.ptr _ _ _ rfl), .base (.tree _ _ rfl rfl), .base (.tree _ _ rfl rfl), trivial⟩ ⟨⟨_, rfl, .cells _ _ _ _ rfl (by repeat (first | exact .nil | refine .cons (by first | exact .base (.tree _ _ rfl rfl) | exact .base (.own _ _ rfl) | exact .base (.ptr _ _ _ rfl) | exact .base (.map _ _ rfl) | exact .base (.nilown _ rfl)) ?_)) rfl⟩, trivial⟩)) ?_
  intro k hk hP
  obtain ⟨hk1, hP⟩ := hP
  have hek : (k : Int).toNat = k := Int.toNat_natCast k
  conv => whnf
  refine And.intro (fun h => ⟨by omega, ?_⟩) ?_
  · have h' : (decide ((k : Int) < (s.length : Int)) && decide ((k : Int) < 21)) = true := h
    rw [Bool.and_eq_true, decide_eq_true_eq] at h'
    exact h'.1
  conv => whnf
  rw [hek]
  refine ⟨fun hd => ?_, fun hd => ?_⟩
  · simp only [Bool.and_eq_true, decide_eq_true_eq, Bool.not_eq_true', decide_eq_false_iff_not, hce] at hd
    conv => whnf
    repeat (first | (refine And.intro ⟨by omega, by omega⟩ ?_; conv => whnf) | (refine And.intro (by omega) (And.intro rfl ?_); conv => whnf) | (refine And.intro rfl ?_; conv => whnf) | (refine And.intro (fun _ => ⟨by omega, by omega⟩) ?_; conv => whnf) | (refine And.intro (fun _ => by omega) (And.intro rfl ?_); conv => whnf) | (refine And.intro ⟨(by first | omega | (simp; omega)), (by first | omega | (simp; omega))⟩ ?_; conv => whnf) | (refine Exists.intro _ (And.intro rfl (And.intro (by first | omega | (simp; omega)) (And.intro ⟨rfl, rfl, rfl, rfl, rfl⟩ ?_))); conv => whnf) | (refine And.intro ⟨rfl, rfl⟩ (And.intro (by first | omega | (simp; omega)) ?_); conv => whnf) | (refine Exists.intro _ (And.intro rfl ?_); conv => whnf) | (refine And.intro (fun _ => ?_) (fun h => absurd h (by decide)); conv => whnf) | (refine And.intro (fun h => absurd h (by decide)) (fun _ => ?_); conv => whnf) | (refine .quiet (by kernel_rfl) ?_; conv => whnf))
    refine up (by omega) ⟨by omega, fun i hi => ?_⟩ ((wk_of [(0, .id 0)] rfl ⟨.base (.ptr _ _ _ rfl), .base (.tree _ _ rfl rfl), .base (.tree _ _ rfl rfl), trivial⟩ ⟨⟨_, rfl, .cells _ _ _ _ rfl (by repeat (first | exact .nil | refine .cons (by first | exact .base (.tree _ _ rfl rfl) | exact .base (.own _ _ rfl) | exact .base (.ptr _ _ _ rfl) | exact .base (.map _ _ rfl) | exact .base (.nilown _ rfl)) ?_)) rfl⟩, trivial⟩))
    by_cases h : i = k
    · rw [h]; exact hd.2
    · exact hP i (by omega)
  · conv => whnf
    refine ⟨fun h1 => ?_, fun h1 => ?_⟩
    · have h1 := of_decide_eq_true h1
      have hn : numR c mn s = none := ahead_no (fun i h2 h3 => hP i (by omega))
      conv => whnf
      refine .raw _ _ rfl (fun h => by cases h) (callio_sem (qfail_ok s b) [0] _ rfl rfl ⟨rfl, trivial⟩ (by repeat (first | exact .nil | (apply BorL.cons; first | exact .map _ _ rfl | exact .ptr _ _ _ rfl | exact .own _ _ rfl | exact .fnp _ _ _ _ rfl | (apply BorIO.lend; first | exact lS rfl | exact lR rfl | exact lM rfl rfl | exact lL rfl | exact lX rfl | exact lN | exact lNl | exact lSm rfl | exact lIm rfl | exact lP rfl | exact lQ rfl | exact lB rfl rfl rfl)))) rfl (by first | exact .inl rfl | exact .inr (fun b rs h => by obtain ⟨rfl, rfl⟩ := h; exact ⟨by repeat (first | exact flats_nil | refine flats_cons (by first | exact flat_val _ rfl | exact flat_row (fun _ => rfl) | exact flat_lst (fun _ => rfl)) ?_), by repeat (first | exact flats0 | refine flats1 (by first | exact flatB_row (fun _ => rfl) | exact flatB_lst (fun _ => rfl) | exact flatB_smap (fun _ => rfl) | exact flatB_imap (fun _ => rfl) | exact flatB_cells rfl) ?_)⟩))) ?_
      rintro w ⟨b', rs, ⟨rfl, rfl⟩, rfl⟩
      refine ⟨tn_ge _ _, ?_⟩
      conv => whnf
      rw [numQ_none b hn]
      exact ⟨rfl, rfl⟩
    · have h1 := of_decide_eq_false h1
      conv => whnf
      repeat (first | (refine And.intro ⟨by omega, by omega⟩ ?_; conv => whnf) | (refine And.intro (by omega) (And.intro rfl ?_); conv => whnf) | (refine And.intro rfl ?_; conv => whnf) | (refine And.intro (fun _ => ⟨by omega, by omega⟩) ?_; conv => whnf) | (refine And.intro (fun _ => by omega) (And.intro rfl ?_); conv => whnf) | (refine And.intro ⟨(by first | omega | (simp; omega)), (by first | omega | (simp; omega))⟩ ?_; conv => whnf) | (refine Exists.intro _ (And.intro rfl (And.intro (by first | omega | (simp; omega)) (And.intro ⟨rfl, rfl, rfl, rfl, rfl⟩ ?_))); conv => whnf) | (refine And.intro ⟨rfl, rfl⟩ (And.intro (by first | omega | (simp; omega)) ?_); conv => whnf) | (refine Exists.intro _ (And.intro rfl ?_); conv => whnf) | (refine And.intro (fun _ => ?_) (fun h => absurd h (by decide)); conv => whnf) | (refine And.intro (fun h => absurd h (by decide)) (fun _ => ?_); conv => whnf) | (refine .quiet (by kernel_rfl) ?_; conv => whnf))
      rw [hek]
      refine ⟨fun h2 => ?_, fun h2 => ?_⟩
      · simp only [Bool.not_eq_true', decide_eq_false_iff_not] at h2
        simp only [Bool.and_eq_false_iff, Bool.not_eq_false', decide_eq_true_eq, decide_eq_false_iff_not] at hd
        have hn : numR c mn s = none := ahead_no (fun i h3 h4 => hP i (by omega))
        conv => whnf
        refine .raw _ _ rfl (fun h => by cases h) (callio_sem (qfail_ok s b) [0] _ rfl rfl ⟨rfl, trivial⟩ (by repeat (first | exact .nil | (apply BorL.cons; first | exact .map _ _ rfl | exact .ptr _ _ _ rfl | exact .own _ _ rfl | exact .fnp _ _ _ _ rfl | (apply BorIO.lend; first | exact lS rfl | exact lR rfl | exact lM rfl rfl | exact lL rfl | exact lX rfl | exact lN | exact lNl | exact lSm rfl | exact lIm rfl | exact lP rfl | exact lQ rfl | exact lB rfl rfl rfl)))) rfl (by first | exact .inl rfl | exact .inr (fun b rs h => by obtain ⟨rfl, rfl⟩ := h; exact ⟨by repeat (first | exact flats_nil | refine flats_cons (by first | exact flat_val _ rfl | exact flat_row (fun _ => rfl) | exact flat_lst (fun _ => rfl)) ?_), by repeat (first | exact flats0 | refine flats1 (by first | exact flatB_row (fun _ => rfl) | exact flatB_lst (fun _ => rfl) | exact flatB_smap (fun _ => rfl) | exact flatB_imap (fun _ => rfl) | exact flatB_cells rfl) ?_)⟩))) ?_
        rintro w ⟨b', rs, ⟨rfl, rfl⟩, rfl⟩
        refine ⟨tn_ge _ _, ?_⟩
        conv => whnf
        rw [numQ_none b hn]
        exact ⟨rfl, rfl⟩
      · have h2 : s.getD k 0 = cb c := by
          simp only [Bool.not_eq_false', decide_eq_true_eq] at h2
          exact (hce _).1 h2
        have hb := back_ok (s.take k) (by rw [List.length_take]; omega)
        conv => whnf
        repeat (first | (refine And.intro ⟨by omega, by omega⟩ ?_; conv => whnf) | (refine And.intro (by omega) (And.intro rfl ?_); conv => whnf) | (refine And.intro rfl ?_; conv => whnf) | (refine And.intro (fun _ => ⟨by omega, by omega⟩) ?_; conv => whnf) | (refine And.intro (fun _ => by omega) (And.intro rfl ?_); conv => whnf) | (refine And.intro ⟨(by first | omega | (simp; omega)), (by first | omega | (simp; omega))⟩ ?_; conv => whnf) | (refine Exists.intro _ (And.intro rfl (And.intro (by first | omega | (simp; omega)) (And.intro ⟨rfl, rfl, rfl, rfl, rfl⟩ ?_))); conv => whnf) | (refine And.intro ⟨rfl, rfl⟩ (And.intro (by first | omega | (simp; omega)) ?_); conv => whnf) | (refine Exists.intro _ (And.intro rfl ?_); conv => whnf) | (refine And.intro (fun _ => ?_) (fun h => absurd h (by decide)); conv => whnf) | (refine And.intro (fun h => absurd h (by decide)) (fun _ => ?_); conv => whnf) | (refine .quiet (by kernel_rfl) ?_; conv => whnf))
        simp only [Option.map_none, Option.map_some, cut]
        rw [hek]
        refine .any _ _ _ ⟨rfl, rfl⟩ (hb) (by repeat (first | exact .nil | (apply BorL.cons; first | exact lS rfl | exact lR rfl | exact lM rfl rfl | exact lL rfl | exact lX rfl | exact lN | exact lNl | exact lSm rfl | exact lIm rfl | exact lP rfl | exact lQ rfl | exact lB rfl rfl rfl))) (by first | exact .inl rfl | exact .inr (by repeat (first | exact flats_nil | refine flats_cons (by first | exact flat_val _ rfl | exact flat_row (fun _ => rfl) | exact flat_lst (fun _ => rfl)) ?_))) ?_
        rintro rs ⟨v, b', rfl, hB⟩
        conv => whnf
        refine ⟨fun h3 => ?_, fun h3 => ?_⟩
        · have hn : numR c mn s = none := ahead_bad he hP h2 (hB.2 (by simpa using h3))
          conv => whnf
          refine .raw _ _ rfl (fun h => by cases h) (callio_sem (qfail_ok s b) [0] _ rfl rfl ⟨rfl, trivial⟩ (by repeat (first | exact .nil | (apply BorL.cons; first | exact .map _ _ rfl | exact .ptr _ _ _ rfl | exact .own _ _ rfl | exact .fnp _ _ _ _ rfl | (apply BorIO.lend; first | exact lS rfl | exact lR rfl | exact lM rfl rfl | exact lL rfl | exact lX rfl | exact lN | exact lNl | exact lSm rfl | exact lIm rfl | exact lP rfl | exact lQ rfl | exact lB rfl rfl rfl)))) rfl (by first | exact .inl rfl | exact .inr (fun b rs h => by obtain ⟨rfl, rfl⟩ := h; exact ⟨by repeat (first | exact flats_nil | refine flats_cons (by first | exact flat_val _ rfl | exact flat_row (fun _ => rfl) | exact flat_lst (fun _ => rfl)) ?_), by repeat (first | exact flats0 | refine flats1 (by first | exact flatB_row (fun _ => rfl) | exact flatB_lst (fun _ => rfl) | exact flatB_smap (fun _ => rfl) | exact flatB_imap (fun _ => rfl) | exact flatB_cells rfl) ?_)⟩))) ?_
          rintro w ⟨b', rs, ⟨rfl, rfl⟩, rfl⟩
          refine ⟨tn_ge _ _, ?_⟩
          conv => whnf
          rw [numQ_none b hn]
          exact ⟨rfl, rfl⟩
        · obtain ⟨hv, hi⟩ := hB.1 (by simpa using h3)
          have hn := ahead_good he (by omega) h2 hv hi
          conv => whnf
          repeat (first | (refine And.intro ⟨by omega, by omega⟩ ?_; conv => whnf) | (refine And.intro (by omega) (And.intro rfl ?_); conv => whnf) | (refine And.intro rfl ?_; conv => whnf) | (refine And.intro (fun _ => ⟨by omega, by omega⟩) ?_; conv => whnf) | (refine And.intro (fun _ => by omega) (And.intro rfl ?_); conv => whnf) | (refine And.intro ⟨(by first | omega | (simp; omega)), (by first | omega | (simp; omega))⟩ ?_; conv => whnf) | (refine Exists.intro _ (And.intro rfl (And.intro (by first | omega | (simp; omega)) (And.intro ⟨rfl, rfl, rfl, rfl, rfl⟩ ?_))); conv => whnf) | (refine And.intro ⟨rfl, rfl⟩ (And.intro (by first | omega | (simp; omega)) ?_); conv => whnf) | (refine Exists.intro _ (And.intro rfl ?_); conv => whnf) | (refine And.intro (fun _ => ?_) (fun h => absurd h (by decide)); conv => whnf) | (refine And.intro (fun h => absurd h (by decide)) (fun _ => ?_); conv => whnf) | (refine .quiet (by kernel_rfl) ?_; conv => whnf))
          rw [numQ_some b hn]
          have he1 : ((k : Int) + 1).toNat = k + 1 := by omega
          refine ⟨?_, rfl⟩
          show [AB.cells 67 [.str (s.drop ((k : Int) + 1).toNat), .bool b]] = _
          rw [he1]
theorem qnumber_ok (c : Int) (hc : 0 ≤ c ∧ c ≤ 255) (he : EndB c) (q : RS) (hs : q.rest.length ≤ 9223372036854775000) : AIO Tryd.prog 46 [.ptr 0 0, .int .u8 c] [qo q] (fun bs rs => bs = [qo (numQ c 0 q).2] ∧ rs = [.val (.int .i64 (numQ c 0 q).1)]) := by
  have ha := ahead_ok c hc he q hs
  have hz := numQ_zero q he
  generalize numQ c mn q = x at *
  obtain ⟨n, r, b⟩ := x
  refine aio_of (C := cxP 1 14 [0, 1, 4, 5, 10]) (cxPOk _ _ _) Tryd.func46 rfl (by decide) rfl (by exact Nat.le_of_ble_eq_true rfl) (by decide) rfl rfl ?_
  conv => whnf
  refine .raw _ _ rfl (fun h => by cases h) (callio_sem (ha) [0] _ rfl rfl ⟨rfl, trivial⟩ (by repeat (first | exact .nil | (apply BorL.cons; first | exact .map _ _ rfl | exact .ptr _ _ _ rfl | exact .own _ _ rfl | exact .fnp _ _ _ _ rfl | (apply BorIO.lend; first | exact lS rfl | exact lR rfl | exact lM rfl rfl | exact lL rfl | exact lX rfl | exact lN | exact lNl | exact lSm rfl | exact lIm rfl | exact lP rfl | exact lQ rfl | exact lB rfl rfl rfl)))) rfl (by first | exact .inl rfl | exact .inr (fun b rs h => by obtain ⟨rfl, rfl⟩ := h; exact ⟨by repeat (first | exact flats_nil | refine flats_cons (by first | exact flat_val _ rfl | exact flat_row (fun _ => rfl) | exact flat_lst (fun _ => rfl)) ?_), by repeat (first | exact flats0 | refine flats1 (by first | exact flatB_row (fun _ => rfl) | exact flatB_lst (fun _ => rfl) | exact flatB_smap (fun _ => rfl) | exact flatB_imap (fun _ => rfl) | exact flatB_cells rfl) ?_)⟩))) ?_
  rintro w ⟨b', rs, ⟨rfl, rfl⟩, rfl⟩
  refine ⟨tn_ge _ _, ?_⟩
  conv => whnf
  refine ⟨fun hn => ?_, fun hn => ?_⟩
  · have hn : n < 0 := of_decide_eq_true hn
    conv => whnf
    refine .raw _ _ rfl (fun h => by cases h) (callio_sem (qfail_ok r b) [0] _ rfl rfl ⟨rfl, trivial⟩ (by repeat (first | exact .nil | (apply BorL.cons; first | exact .map _ _ rfl | exact .ptr _ _ _ rfl | exact .own _ _ rfl | exact .fnp _ _ _ _ rfl | (apply BorIO.lend; first | exact lS rfl | exact lR rfl | exact lM rfl rfl | exact lL rfl | exact lX rfl | exact lN | exact lNl | exact lSm rfl | exact lIm rfl | exact lP rfl | exact lQ rfl | exact lB rfl rfl rfl)))) rfl (by first | exact .inl rfl | exact .inr (fun b rs h => by obtain ⟨rfl, rfl⟩ := h; exact ⟨by repeat (first | exact flats_nil | refine flats_cons (by first | exact flat_val _ rfl | exact flat_row (fun _ => rfl) | exact flat_lst (fun _ => rfl)) ?_), by repeat (first | exact flats0 | refine flats1 (by first | exact flatB_row (fun _ => rfl) | exact flatB_lst (fun _ => rfl) | exact flatB_smap (fun _ => rfl) | exact flatB_imap (fun _ => rfl) | exact flatB_cells rfl) ?_)⟩))) ?_
    rintro w ⟨b', rs, ⟨rfl, rfl⟩, rfl⟩
    refine ⟨tn_ge _ _, ?_⟩
    conv => whnf
    rw [hz, if_pos hn]
    exact ⟨rfl, rfl⟩
  · have hn : ¬ n < 0 := of_decide_eq_false hn
    conv => whnf
    rw [hz, if_neg hn]
    exact ⟨rfl, rfl⟩
theorem qnum_ok (q : RS) (hs : q.rest.length ≤ 9223372036854775000) : AIO Tryd.prog 36 [.ptr 0 0] [qo q] (fun bs rs => bs = [qo (numQ 59 0 q).2] ∧ rs = [.val (.int .i64 (numQ 59 0 q).1)]) := by
  have ha := qnumber_ok 59 (by decide) (by unfold EndB; decide) q hs
  generalize numQ 59 0 q = x at *
  refine aio_of (C := cxP 1 5 [0, 2]) (cxPOk _ _ _) Tryd.func36 rfl (by decide) rfl (by exact Nat.le_of_ble_eq_true rfl) (by decide) rfl rfl ?_
  conv => whnf
  refine .raw _ _ rfl (fun h => by cases h) (callio_sem (ha) [0] _ rfl rfl ⟨rfl, trivial⟩ (by repeat (first | exact .nil | (apply BorL.cons; first | exact .map _ _ rfl | exact .ptr _ _ _ rfl | exact .own _ _ rfl | exact .fnp _ _ _ _ rfl | (apply BorIO.lend; first | exact lS rfl | exact lR rfl | exact lM rfl rfl | exact lL rfl | exact lX rfl | exact lN | exact lNl | exact lSm rfl | exact lIm rfl | exact lP rfl | exact lQ rfl | exact lB rfl rfl rfl)))) rfl (by first | exact .inl rfl | exact .inr (fun b rs h => by obtain ⟨rfl, rfl⟩ := h; exact ⟨by repeat (first | exact flats_nil | refine flats_cons (by first | exact flat_val _ rfl | exact flat_row (fun _ => rfl) | exact flat_lst (fun _ => rfl)) ?_), by repeat (first | exact flats0 | refine flats1 (by first | exact flatB_row (fun _ => rfl) | exact flatB_lst (fun _ => rfl) | exact flatB_smap (fun _ => rfl) | exact flatB_imap (fun _ => rfl) | exact flatB_cells rfl) ?_)⟩))) ?_
  rintro w ⟨b', rs, ⟨rfl, rfl⟩, rfl⟩
  refine ⟨tn_ge _ _, ?_⟩
  conv => whnf
  exact ⟨rfl, rfl⟩

end Go.Proofs.YtglalejjcfcfkaaDoor

namespace Go.Proofs.YtglalejjcfcfkaaDoor
open Go.Own
set_option maxHeartbeats 4000000
set_option maxRecDepth 100000

def textE (e : Ent) : List UInt8 := ((((numS e.id ++ numS e.day) ++ numS e.frm) ++ numS e.to) ++ numS e.amt)
/-- The text of an entry. -/
def textQ (e : Ent) : List UInt8 := if rightE e = true then textE e else []
def five (e : Ent) : List Int := [e.id, e.day, e.frm, e.to, e.amt]
def accT (K : List Int) (k : Nat) : List UInt8 := (K.take k).foldl (fun s n => s ++ numS n) []
theorem numS_len (n : Int) (h : in64 n) : (numS n).length ≤ 21 := by
  have := itoa_len n h
  unfold numS intS
  split
  · exact Nat.zero_le _
  · rw [List.length_append, List.length_singleton]
    omega
theorem five_in {e : Ent} (h : rightE e = true) : ∀ n ∈ five e, in64 n ∧ 0 ≤ n := by
  have hr := rightE_iff.1 h
  intro n hn
  unfold five at hn
  unfold in64
  simp only [List.mem_cons, List.not_mem_nil, or_false] at hn
  rcases hn with rfl | rfl | rfl | rfl | rfl <;> omega
theorem accT_succ {K : List Int} {k : Nat} (hk : k < K.length) : accT K (k + 1) = accT K k ++ numS (K.getD k 0) := by
  unfold accT
  rw [take_getD (d := 0) hk, List.foldl_append]
  rfl
theorem text_ok (e : Ent) : APureV Tryd.prog 23 [encE e] (.str (textQ e)) := by
  have hre := right_ok e
  unfold textQ
  cases hr : rightE e with
  | false =>
    rw [hr] at hre
    refine apure_of (C := cx 31 [0, 1, 2, 3, 5, 8, 19, 20, 21, 22]) (cxOk _ _) Tryd.func23 rfl (by decide) rfl (by exact Nat.le_of_ble_eq_true rfl) (by decide) ?_
    conv => whnf
    refine .one _ _ _ (fun _ => hre) (by repeat (first | exact .nil | (apply BorL.cons; first | exact lS rfl | exact lR rfl | exact lM rfl rfl | exact lL rfl | exact lX rfl | exact lN | exact lNl | exact lSm rfl | exact lIm rfl | exact lP rfl | exact lQ rfl | exact lB rfl rfl rfl))) (by first | exact .inl rfl | exact .inr (by repeat (first | exact flats_nil | refine flats_cons (by first | exact flat_val _ rfl | exact flat_row (fun _ => rfl) | exact flat_lst (fun _ => rfl)) ?_))) (by first | exact .inl rfl | exact .inr rfl) ?_
    conv => whnf
    refine ⟨fun hx => ?_, fun hx => ?_⟩
    · conv => whnf
      rfl
    · cases hx
  | true =>
    rw [hr] at hre
    rw [if_pos rfl]
    have ht : textE e = accT (five e) 5 := by
      unfold accT five textE
      simp
    rw [ht]
    have hin := five_in hr
    have hlen : (five e).length = 5 := rfl
    have h5 : five e = [e.id, e.day, e.frm, e.to, e.amt] := rfl
    have hal : ∀ k, k ≤ 5 → (accT (five e) k).length ≤ 21 * k := by
      intro k
      induction k with
      | zero => intro _; exact Nat.le_refl _
      | succ k ih =>
        intro hk
        have h1 := ih (by omega)
        rw [accT_succ (by omega), List.length_append]
        have := numS_len _ (hin _ (getD_mem (d := 0) (show k < (five e).length by omega))).1
        omega
    refine apure_of (C := cx 31 [0, 1, 2, 3, 5, 8, 19, 20, 21, 22]) (cxOk _ _) Tryd.func23 rfl (by decide) rfl (by exact Nat.le_of_ble_eq_true rfl) (by decide) ?_
    conv => whnf
    refine .one _ _ _ (fun _ => hre) (by repeat (first | exact .nil | (apply BorL.cons; first | exact lS rfl | exact lR rfl | exact lM rfl rfl | exact lL rfl | exact lX rfl | exact lN | exact lNl | exact lSm rfl | exact lIm rfl | exact lP rfl | exact lQ rfl | exact lB rfl rfl rfl))) (by first | exact .inl rfl | exact .inr (by repeat (first | exact flats_nil | refine flats_cons (by first | exact flat_val _ rfl | exact flat_row (fun _ => rfl) | exact flat_lst (fun _ => rfl)) ?_))) (by first | exact .inl rfl | exact .inr rfl) ?_
    conv => whnf
    refine ⟨fun hx => ?_, fun hx => ?_⟩
    · cases hx
    conv => whnf
    repeat (first | (refine And.intro ⟨by omega, by omega⟩ ?_; conv => whnf) | (refine And.intro (by omega) (And.intro rfl ?_); conv => whnf) | (refine And.intro rfl ?_; conv => whnf) | (refine And.intro (fun _ => ⟨by omega, by omega⟩) ?_; conv => whnf) | (refine And.intro (fun _ => by omega) (And.intro rfl ?_); conv => whnf) | (refine And.intro ⟨(by first | omega | (simp; omega)), (by first | omega | (simp; omega))⟩ ?_; conv => whnf) | (refine Exists.intro _ (And.intro rfl (And.intro (by first | omega | (simp; omega)) (And.intro ⟨rfl, rfl, rfl, rfl, rfl⟩ ?_))); conv => whnf) | (refine And.intro ⟨rfl, rfl⟩ (And.intro (by first | omega | (simp; omega)) ?_); conv => whnf) | (refine Exists.intro _ (And.intro rfl ?_); conv => whnf) | (refine And.intro (fun _ => ?_) (fun h => absurd h (by decide)); conv => whnf) | (refine And.intro (fun h => absurd h (by decide)) (fun _ => ?_); conv => whnf) | (refine .eff (by first | exact cxOk _ _ | exact cxPOk _ _ _) ?_; conv => whnf))
    refine loop_up (cxOk _ _) 5 (fun _ => True) (fun k => ⟨[(3, .str (accT (five e) k)), (19, .own 0), (20, .int .i64 5), (21, .int .i64 (k : Nat))], [(0, .row 3 1 encI 0 (five e))], 1⟩) trivial ((wk_of [(0, .id 1)] rfl ⟨.base (.tree _ _ rfl rfl), (by first | exact .base (.own _ _ rfl) | exact .base (.nilown _ rfl) | exact .base (.trunc _ _ _ rfl)), .base (.tree _ _ rfl rfl), .base (.tree _ _ rfl rfl), trivial⟩ ⟨⟨_, rfl, (by first | exact .row _ _ _ _ _ _ _ rfl rfl | exact .lstrow _ _ _ _ _ _ _ rfl rfl | exact .nilrow _ _ _ _ _ rfl | exact .truncrow _ _ _ _ _ _ _ _ rfl (by omega) rfl)⟩, trivial⟩)) ?_
    intro k hk _
    conv => whnf
    refine ⟨fun hc => ?_, fun hc => ?_⟩
    · simp only [decide_eq_true_eq] at hc
      have hlt : k < 5 := by omega
      have hn := numW_ok _ (hin _ (getD_mem (d := 0) (show k < (five e).length by omega))).1
      have hkk : (five e).getD (k : Int).toNat 0 = (five e).getD k 0 := by rw [Int.toNat_natCast]
      have hak := accT_succ (K := five e) (k := k) (by omega)
      have hl1 := hal k (by omega)
      have hl2 := hal (k + 1) (by omega)
      rw [hak, List.length_append] at hl2
      generalize hT' : accT (five e) (k + 1) = T' at *
      generalize accT (five e) k = T at *
      conv => whnf
      repeat (first | (refine And.intro ⟨by omega, by omega⟩ ?_; conv => whnf) | (refine And.intro (by omega) (And.intro rfl ?_); conv => whnf) | (refine And.intro rfl ?_; conv => whnf) | (refine And.intro (fun _ => ⟨by omega, by omega⟩) ?_; conv => whnf) | (refine And.intro (fun _ => by omega) (And.intro rfl ?_); conv => whnf) | (refine And.intro ⟨(by first | omega | (simp; omega)), (by first | omega | (simp; omega))⟩ ?_; conv => whnf) | (refine Exists.intro _ (And.intro rfl (And.intro (by first | omega | (simp; omega)) (And.intro ⟨rfl, rfl, rfl, rfl, rfl⟩ ?_))); conv => whnf) | (refine And.intro ⟨rfl, rfl⟩ (And.intro (by first | omega | (simp; omega)) ?_); conv => whnf) | (refine Exists.intro _ (And.intro rfl ?_); conv => whnf) | (refine And.intro (fun _ => ?_) (fun h => absurd h (by decide)); conv => whnf) | (refine And.intro (fun h => absurd h (by decide)) (fun _ => ?_); conv => whnf) | (refine .eff (by first | exact cxOk _ _ | exact cxPOk _ _ _) ?_; conv => whnf))
      rw [hkk]
      refine .one _ _ _ (fun _ => hn) (by repeat (first | exact .nil | (apply BorL.cons; first | exact lS rfl | exact lR rfl | exact lM rfl rfl | exact lL rfl | exact lX rfl | exact lN | exact lNl | exact lSm rfl | exact lIm rfl | exact lP rfl | exact lQ rfl | exact lB rfl rfl rfl))) (by first | exact .inl rfl | exact .inr (by repeat (first | exact flats_nil | refine flats_cons (by first | exact flat_val _ rfl | exact flat_row (fun _ => rfl) | exact flat_lst (fun _ => rfl)) ?_))) (by first | exact .inl rfl | exact .inr rfl) ?_
      conv => whnf
      refine And.intro (show ((T.length + (numS ((five e).getD k 0)).length : Nat) : Int) ≤ 9223372036854775807 by omega) ?_
      repeat (first | (refine And.intro ⟨by omega, by omega⟩ ?_; conv => whnf) | (refine And.intro (by omega) (And.intro rfl ?_); conv => whnf) | (refine And.intro rfl ?_; conv => whnf) | (refine And.intro (fun _ => ⟨by omega, by omega⟩) ?_; conv => whnf) | (refine And.intro (fun _ => by omega) (And.intro rfl ?_); conv => whnf) | (refine And.intro ⟨(by first | omega | (simp; omega)), (by first | omega | (simp; omega))⟩ ?_; conv => whnf) | (refine Exists.intro _ (And.intro rfl (And.intro (by first | omega | (simp; omega)) (And.intro ⟨rfl, rfl, rfl, rfl, rfl⟩ ?_))); conv => whnf) | (refine And.intro ⟨rfl, rfl⟩ (And.intro (by first | omega | (simp; omega)) ?_); conv => whnf) | (refine Exists.intro _ (And.intro rfl ?_); conv => whnf) | (refine And.intro (fun _ => ?_) (fun h => absurd h (by decide)); conv => whnf) | (refine And.intro (fun h => absurd h (by decide)) (fun _ => ?_); conv => whnf) | (refine .eff (by first | exact cxOk _ _ | exact cxPOk _ _ _) ?_; conv => whnf))
      refine up hlt trivial ((wk_of [(0, .id 0)] rfl ⟨.base (.tree _ _ (show AV.str _ = AV.str _ by congr 1; exact hak.symm.trans hT'.symm) rfl), (by first | exact .base (.own _ _ rfl) | exact .base (.nilown _ rfl) | exact .base (.trunc _ _ _ rfl)), .base (.tree _ _ rfl rfl), .base (.tree _ _ rfl rfl), trivial⟩ ⟨⟨_, rfl, (by first | exact .row _ _ _ _ _ _ _ rfl rfl | exact .lstrow _ _ _ _ _ _ _ rfl rfl | exact .nilrow _ _ _ _ _ rfl | exact .truncrow _ _ _ _ _ _ _ _ rfl (by omega) rfl)⟩, trivial⟩))
    · simp only [decide_eq_false_iff_not] at hc
      have : k = 5 := by omega
      subst this
      conv => whnf
      rfl

end Go.Proofs.YtglalejjcfcfkaaDoor

namespace Go.Proofs.YtglalejjcfcfkaaDoor
open Go.Own
set_option maxHeartbeats 4000000
set_option maxRecDepth 100000

/-! ### Reading an entry -/
def sQ (s : List UInt8) : Nat → RS
  | 0 => ⟨s, false⟩
  | k + 1 => (numQ 59 0 (sQ s k)).2
def vQ (s : List UInt8) (k : Nat) : Int := (numQ 59 0 (sQ s k)).1
def doneB (q : RS) : Bool := !q.bad && decide (q.rest = [])
def entQ (s : List UInt8) : Ent := ⟨vQ s 0, vQ s 1, vQ s 2, vQ s 3, vQ s 4⟩
def readB (s : List UInt8) : Bool := doneB (sQ s 5) && rightE (entQ s)
/-- What is read of a text: the entry, and the error. -/
def readE (s : List UInt8) : Ent := if readB s = true then entQ s else e0
def readC (s : List UInt8) : Int := if readB s = true then 0 else 2
/-- What was read before step k. -/
def upTo (v : Nat → Int) (k i : Nat) : Int :=
  match Nat.blt i k with
  | true => v i
  | false => 0
theorem sQ_rest (s : List UInt8) : ∀ k, (sQ s k).rest.length ≤ s.length
  | 0 => Nat.le_refl _
  | k + 1 => Nat.le_trans (numQ_le 59 0 (sQ s k) (Int.le_refl _)).2 (sQ_rest s k)
theorem wopen_ok (s : List UInt8) : APure Tryd.prog 32 [.str s] (fun rs => rs = [.new (.cells 64 [.str s, .bool false])]) := by
  refine apure_of (C := cx 6 [0, 2]) (cxOk _ _) Tryd.func32 rfl (by decide) rfl (by exact Nat.le_of_ble_eq_true rfl) (by decide) ?_
  conv => whnf
  rfl
theorem read_ok (s : List UInt8) (hs : s.length ≤ 9223372036854775000) : APure Tryd.prog 16 [.str s] (fun rs => rs = [.val (encE (readE s)), .val (.int .i64 (readC s))]) := by
  have ho := wopen_ok s
  have hle := sQ_rest s
  have hv : ∀ k, vQ s k = (numQ 59 0 (sQ s k)).1 := fun _ => rfl
  have hn : ∀ k, sQ s (k + 1) = (numQ 59 0 (sQ s k)).2 := fun _ => rfl
  have h0 : sQ s 0 = ⟨s, false⟩ := rfl
  have he : entQ s = ⟨vQ s 0, vQ s 1, vQ s 2, vQ s 3, vQ s 4⟩ := rfl
  have hd := done_p (sQ s 5).rest (sQ s 5).bad
  have hr := right_ok (entQ s)
  have hb : readB s = (doneB (sQ s 5) && rightE (entQ s)) := rfl
  unfold readE readC
  rw [hb]
  generalize rightE (entQ s) = R at *
  rw [he] at hr ⊢
  unfold doneB
  generalize vQ s = V at *
  generalize sQ s = Q at *
  refine apure_of (C := cx 36 [0, 2, 3, 4, 5, 7, 15, 16, 17, 18, 33]) (cxOk _ _) Tryd.func16 rfl (by decide) rfl (by exact Nat.le_of_ble_eq_true rfl) (by decide) ?_
  conv => whnf
  refine .one _ _ _ (fun _ => ho) (by repeat (first | exact .nil | (apply BorL.cons; first | exact lS rfl | exact lR rfl | exact lM rfl rfl | exact lL rfl | exact lX rfl | exact lN | exact lNl | exact lSm rfl | exact lIm rfl | exact lP rfl | exact lQ rfl | exact lB rfl rfl rfl))) (by first | exact .inl rfl | exact .inr (by repeat (first | exact flats_nil | refine flats_cons (by first | exact flat_val _ rfl | exact flat_row (fun _ => rfl) | exact flat_lst (fun _ => rfl)) ?_))) (by first | exact .inl rfl | exact .inr rfl) ?_
  conv => whnf
  repeat (first | (refine And.intro ⟨by omega, by omega⟩ ?_; conv => whnf) | (refine And.intro (by omega) (And.intro rfl ?_); conv => whnf) | (refine And.intro rfl ?_; conv => whnf) | (refine And.intro (fun _ => ⟨by omega, by omega⟩) ?_; conv => whnf) | (refine And.intro (fun _ => by omega) (And.intro rfl ?_); conv => whnf) | (refine And.intro ⟨(by first | omega | (simp; omega)), (by first | omega | (simp; omega))⟩ ?_; conv => whnf) | (refine Exists.intro _ (And.intro rfl (And.intro (by first | omega | (simp; omega)) (And.intro ⟨rfl, rfl, rfl, rfl, rfl⟩ ?_))); conv => whnf) | (refine And.intro ⟨rfl, rfl⟩ (And.intro (by first | omega | (simp; omega)) ?_); conv => whnf) | (refine Exists.intro _ (And.intro rfl ?_); conv => whnf) | (refine And.intro (fun _ => ?_) (fun h => absurd h (by decide)); conv => whnf) | (refine And.intro (fun h => absurd h (by decide)) (fun _ => ?_); conv => whnf) | (refine .quiet (by kernel_rfl) ?_; conv => whnf))
  refine loop_up (cxOk _ _) 5 (fun _ => True) (fun k => ⟨[(0, .str s), (2, .ptr 0 0), (4, .ptr 1 0), (5, .ptr 2 0), (15, .csl 3 5), (16, .int .i64 5), (17, .int .i64 ((k : Nat) : Int))], [(0, .cells 28 [.int .i64 0, .int .i64 0, .int .i64 0, .int .i64 0, .int .i64 0]), (1, .cells 64 [.str (Q k).rest, .bool (Q k).bad]), (2, .cells 28 [.int .i64 (upTo V k 0), .int .i64 (upTo V k 1), .int .i64 (upTo V k 2), .int .i64 (upTo V k 3), .int .i64 (upTo V k 4)]), (3, .cells 54 [.ptr 2 0, .ptr 2 1, .ptr 2 2, .ptr 2 3, .ptr 2 4])], 4⟩) trivial (by
    rw [h0]
    exact (wk_of [(0, .id 0), (1, .id 1), (2, .id 2), (3, .id 3)] rfl ⟨.base (.tree _ _ rfl rfl), .base (.ptr _ _ _ rfl), .base (.ptr _ _ _ rfl), .base (.ptr _ _ _ rfl), .base (.csl _ _ _ rfl), .base (.tree _ _ rfl rfl), .base (.tree _ _ rfl rfl), trivial⟩ ⟨⟨_, rfl, .cells _ _ _ _ rfl (by repeat (first | exact .nil | refine .cons (by first | exact .base (.tree _ _ rfl rfl) | exact .base (.own _ _ rfl) | exact .base (.ptr _ _ _ rfl) | exact .base (.map _ _ rfl) | exact .base (.nilown _ rfl)) ?_)) rfl⟩, ⟨_, rfl, .cells _ _ _ _ rfl (by repeat (first | exact .nil | refine .cons (by first | exact .base (.tree _ _ rfl rfl) | exact .base (.own _ _ rfl) | exact .base (.ptr _ _ _ rfl) | exact .base (.map _ _ rfl) | exact .base (.nilown _ rfl)) ?_)) rfl⟩, ⟨_, rfl, .cells _ _ _ _ rfl (by repeat (first | exact .nil | refine .cons (by first | exact .base (.tree _ _ rfl rfl) | exact .base (.own _ _ rfl) | exact .base (.ptr _ _ _ rfl) | exact .base (.map _ _ rfl) | exact .base (.nilown _ rfl)) ?_)) rfl⟩, ⟨_, rfl, .cells _ _ _ _ rfl (by repeat (first | exact .nil | refine .cons (by first | exact .base (.tree _ _ rfl rfl) | exact .base (.own _ _ rfl) | exact .base (.ptr _ _ _ rfl) | exact .base (.map _ _ rfl) | exact .base (.nilown _ rfl)) ?_)) rfl⟩, trivial⟩)) ?_
  intro k hk _
  conv => whnf
  refine ⟨fun hc => ?_, fun hc => ?_⟩
  · simp only [decide_eq_true_eq] at hc
    have hlt : k < 5 := by omega
    have hk5 : k = 0 ∨ k = 1 ∨ k = 2 ∨ k = 3 ∨ k = 4 := by omega
    rcases hk5 with rfl | rfl | rfl | rfl | rfl
    · have hnum := rnum_ok (Q 0) (by have := hle 0; omega)
      rw [← hv, ← hn] at hnum
      conv => whnf
      repeat (first | (refine And.intro ⟨by omega, by omega⟩ ?_; conv => whnf) | (refine And.intro (by omega) (And.intro rfl ?_); conv => whnf) | (refine And.intro rfl ?_; conv => whnf) | (refine And.intro (fun _ => ⟨by omega, by omega⟩) ?_; conv => whnf) | (refine And.intro (fun _ => by omega) (And.intro rfl ?_); conv => whnf) | (refine And.intro ⟨(by first | omega | (simp; omega)), (by first | omega | (simp; omega))⟩ ?_; conv => whnf) | (refine Exists.intro _ (And.intro rfl (And.intro (by first | omega | (simp; omega)) (And.intro ⟨rfl, rfl, rfl, rfl, rfl⟩ ?_))); conv => whnf) | (refine And.intro ⟨rfl, rfl⟩ (And.intro (by first | omega | (simp; omega)) ?_); conv => whnf) | (refine Exists.intro _ (And.intro rfl ?_); conv => whnf) | (refine And.intro (fun _ => ?_) (fun h => absurd h (by decide)); conv => whnf) | (refine And.intro (fun h => absurd h (by decide)) (fun _ => ?_); conv => whnf) | (refine .quiet (by kernel_rfl) ?_; conv => whnf))
      refine .raw _ _ rfl (fun h => by cases h) (callio_sem (hnum) [1] _ rfl rfl ⟨rfl, trivial⟩ (by repeat (first | exact .nil | (apply BorL.cons; first | exact .map _ _ rfl | exact .ptr _ _ _ rfl | exact .own _ _ rfl | exact .fnp _ _ _ _ rfl | (apply BorIO.lend; first | exact lS rfl | exact lR rfl | exact lM rfl rfl | exact lL rfl | exact lX rfl | exact lN | exact lNl | exact lSm rfl | exact lIm rfl | exact lP rfl | exact lQ rfl | exact lB rfl rfl rfl)))) rfl (by first | exact .inl rfl | exact .inr (fun b rs h => by obtain ⟨rfl, rfl⟩ := h; exact ⟨by repeat (first | exact flats_nil | refine flats_cons (by first | exact flat_val _ rfl | exact flat_row (fun _ => rfl) | exact flat_lst (fun _ => rfl)) ?_), by repeat (first | exact flats0 | refine flats1 (by first | exact flatB_row (fun _ => rfl) | exact flatB_lst (fun _ => rfl) | exact flatB_smap (fun _ => rfl) | exact flatB_imap (fun _ => rfl) | exact flatB_cells rfl) ?_)⟩))) ?_
      rintro w ⟨b', rs, ⟨rfl, rfl⟩, rfl⟩
      refine ⟨tn_ge _ _, ?_⟩
      conv => whnf
      repeat (first | (refine And.intro ⟨by omega, by omega⟩ ?_; conv => whnf) | (refine And.intro (by omega) (And.intro rfl ?_); conv => whnf) | (refine And.intro rfl ?_; conv => whnf) | (refine And.intro (fun _ => ⟨by omega, by omega⟩) ?_; conv => whnf) | (refine And.intro (fun _ => by omega) (And.intro rfl ?_); conv => whnf) | (refine And.intro ⟨(by first | omega | (simp; omega)), (by first | omega | (simp; omega))⟩ ?_; conv => whnf) | (refine Exists.intro _ (And.intro rfl (And.intro (by first | omega | (simp; omega)) (And.intro ⟨rfl, rfl, rfl, rfl, rfl⟩ ?_))); conv => whnf) | (refine And.intro ⟨rfl, rfl⟩ (And.intro (by first | omega | (simp; omega)) ?_); conv => whnf) | (refine Exists.intro _ (And.intro rfl ?_); conv => whnf) | (refine And.intro (fun _ => ?_) (fun h => absurd h (by decide)); conv => whnf) | (refine And.intro (fun h => absurd h (by decide)) (fun _ => ?_); conv => whnf) | (refine .quiet (by kernel_rfl) ?_; conv => whnf))
      refine up (by decide) trivial ((wk_of [(0, .id 0), (1, .id 1), (2, .id 2), (3, .id 3)] rfl ⟨.base (.tree _ _ rfl rfl), .base (.ptr _ _ _ rfl), .base (.ptr _ _ _ rfl), .base (.ptr _ _ _ rfl), .base (.csl _ _ _ rfl), .base (.tree _ _ rfl rfl), .base (.tree _ _ rfl rfl), trivial⟩ ⟨⟨_, rfl, .cells _ _ _ _ rfl (by repeat (first | exact .nil | refine .cons (by first | exact .base (.tree _ _ rfl rfl) | exact .base (.own _ _ rfl) | exact .base (.ptr _ _ _ rfl) | exact .base (.map _ _ rfl) | exact .base (.nilown _ rfl)) ?_)) rfl⟩, ⟨_, rfl, .cells _ _ _ _ rfl (by repeat (first | exact .nil | refine .cons (by first | exact .base (.tree _ _ rfl rfl) | exact .base (.own _ _ rfl) | exact .base (.ptr _ _ _ rfl) | exact .base (.map _ _ rfl) | exact .base (.nilown _ rfl)) ?_)) rfl⟩, ⟨_, rfl, .cells _ _ _ _ rfl (by repeat (first | exact .nil | refine .cons (by first | exact .base (.tree _ _ rfl rfl) | exact .base (.own _ _ rfl) | exact .base (.ptr _ _ _ rfl) | exact .base (.map _ _ rfl) | exact .base (.nilown _ rfl)) ?_)) rfl⟩, ⟨_, rfl, .cells _ _ _ _ rfl (by repeat (first | exact .nil | refine .cons (by first | exact .base (.tree _ _ rfl rfl) | exact .base (.own _ _ rfl) | exact .base (.ptr _ _ _ rfl) | exact .base (.map _ _ rfl) | exact .base (.nilown _ rfl)) ?_)) rfl⟩, trivial⟩))
    · have hnum := rnum_ok (Q 1) (by have := hle 1; omega)
      rw [← hv, ← hn] at hnum
      conv => whnf
      repeat (first | (refine And.intro ⟨by omega, by omega⟩ ?_; conv => whnf) | (refine And.intro (by omega) (And.intro rfl ?_); conv => whnf) | (refine And.intro rfl ?_; conv => whnf) | (refine And.intro (fun _ => ⟨by omega, by omega⟩) ?_; conv => whnf) | (refine And.intro (fun _ => by omega) (And.intro rfl ?_); conv => whnf) | (refine And.intro ⟨(by first | omega | (simp; omega)), (by first | omega | (simp; omega))⟩ ?_; conv => whnf) | (refine Exists.intro _ (And.intro rfl (And.intro (by first | omega | (simp; omega)) (And.intro ⟨rfl, rfl, rfl, rfl, rfl⟩ ?_))); conv => whnf) | (refine And.intro ⟨rfl, rfl⟩ (And.intro (by first | omega | (simp; omega)) ?_); conv => whnf) | (refine Exists.intro _ (And.intro rfl ?_); conv => whnf) | (refine And.intro (fun _ => ?_) (fun h => absurd h (by decide)); conv => whnf) | (refine And.intro (fun h => absurd h (by decide)) (fun _ => ?_); conv => whnf) | (refine .quiet (by kernel_rfl) ?_; conv => whnf))
      refine .raw _ _ rfl (fun h => by cases h) (callio_sem (hnum) [1] _ rfl rfl ⟨rfl, trivial⟩ (by repeat (first | exact .nil | (apply BorL.cons; first | exact .map _ _ rfl | exact .ptr _ _ _ rfl | exact .own _ _ rfl | exact .fnp _ _ _ _ rfl | (apply BorIO.lend; first | exact lS rfl | exact lR rfl | exact lM rfl rfl | exact lL rfl | exact lX rfl | exact lN | exact lNl | exact lSm rfl | exact lIm rfl | exact lP rfl | exact lQ rfl | exact lB rfl rfl rfl)))) rfl (by first | exact .inl rfl | exact .inr (fun b rs h => by obtain ⟨rfl, rfl⟩ := h; exact ⟨by repeat (first | exact flats_nil | refine flats_cons (by first | exact flat_val _ rfl | exact flat_row (fun _ => rfl) | exact flat_lst (fun _ => rfl)) ?_), by repeat (first | exact flats0 | refine flats1 (by first | exact flatB_row (fun _ => rfl) | exact flatB_lst (fun _ => rfl) | exact flatB_smap (fun _ => rfl) | exact flatB_imap (fun _ => rfl) | exact flatB_cells rfl) ?_)⟩))) ?_
      rintro w ⟨b', rs, ⟨rfl, rfl⟩, rfl⟩
      refine ⟨tn_ge _ _, ?_⟩
      conv => whnf
      repeat (first | (refine And.intro ⟨by omega, by omega⟩ ?_; conv => whnf) | (refine And.intro (by omega) (And.intro rfl ?_); conv => whnf) | (refine And.intro rfl ?_; conv => whnf) | (refine And.intro (fun _ => ⟨by omega, by omega⟩) ?_; conv => whnf) | (refine And.intro (fun _ => by omega) (And.intro rfl ?_); conv => whnf) | (refine And.intro ⟨(by first | omega | (simp; omega)), (by first | omega | (simp; omega))⟩ ?_; conv => whnf) | (refine Exists.intro _ (And.intro rfl (And.intro (by first | omega | (simp; omega)) (And.intro ⟨rfl, rfl, rfl, rfl, rfl⟩ ?_))); conv => whnf) | (refine And.intro ⟨rfl, rfl⟩ (And.intro (by first | omega | (simp; omega)) ?_); conv => whnf) | (refine Exists.intro _ (And.intro rfl ?_); conv => whnf) | (refine And.intro (fun _ => ?_) (fun h => absurd h (by decide)); conv => whnf) | (refine And.intro (fun h => absurd h (by decide)) (fun _ => ?_); conv => whnf) | (refine .quiet (by kernel_rfl) ?_; conv => whnf))
      refine up (by decide) trivial ((wk_of [(0, .id 0), (1, .id 1), (2, .id 2), (3, .id 3)] rfl ⟨.base (.tree _ _ rfl rfl), .base (.ptr _ _ _ rfl), .base (.ptr _ _ _ rfl), .base (.ptr _ _ _ rfl), .base (.csl _ _ _ rfl), .base (.tree _ _ rfl rfl), .base (.tree _ _ rfl rfl), trivial⟩ ⟨⟨_, rfl, .cells _ _ _ _ rfl (by repeat (first | exact .nil | refine .cons (by first | exact .base (.tree _ _ rfl rfl) | exact .base (.own _ _ rfl) | exact .base (.ptr _ _ _ rfl) | exact .base (.map _ _ rfl) | exact .base (.nilown _ rfl)) ?_)) rfl⟩, ⟨_, rfl, .cells _ _ _ _ rfl (by repeat (first | exact .nil | refine .cons (by first | exact .base (.tree _ _ rfl rfl) | exact .base (.own _ _ rfl) | exact .base (.ptr _ _ _ rfl) | exact .base (.map _ _ rfl) | exact .base (.nilown _ rfl)) ?_)) rfl⟩, ⟨_, rfl, .cells _ _ _ _ rfl (by repeat (first | exact .nil | refine .cons (by first | exact .base (.tree _ _ rfl rfl) | exact .base (.own _ _ rfl) | exact .base (.ptr _ _ _ rfl) | exact .base (.map _ _ rfl) | exact .base (.nilown _ rfl)) ?_)) rfl⟩, ⟨_, rfl, .cells _ _ _ _ rfl (by repeat (first | exact .nil | refine .cons (by first | exact .base (.tree _ _ rfl rfl) | exact .base (.own _ _ rfl) | exact .base (.ptr _ _ _ rfl) | exact .base (.map _ _ rfl) | exact .base (.nilown _ rfl)) ?_)) rfl⟩, trivial⟩))
    · have hnum := rnum_ok (Q 2) (by have := hle 2; omega)
      rw [← hv, ← hn] at hnum
      conv => whnf
      repeat (first | (refine And.intro ⟨by omega, by omega⟩ ?_; conv => whnf) | (refine And.intro (by omega) (And.intro rfl ?_); conv => whnf) | (refine And.intro rfl ?_; conv => whnf) | (refine And.intro (fun _ => ⟨by omega, by omega⟩) ?_; conv => whnf) | (refine And.intro (fun _ => by omega) (And.intro rfl ?_); conv => whnf) | (refine And.intro ⟨(by first | omega | (simp; omega)), (by first | omega | (simp; omega))⟩ ?_; conv => whnf) | (refine Exists.intro _ (And.intro rfl (And.intro (by first | omega | (simp; omega)) (And.intro ⟨rfl, rfl, rfl, rfl, rfl⟩ ?_))); conv => whnf) | (refine And.intro ⟨rfl, rfl⟩ (And.intro (by first | omega | (simp; omega)) ?_); conv => whnf) | (refine Exists.intro _ (And.intro rfl ?_); conv => whnf) | (refine And.intro (fun _ => ?_) (fun h => absurd h (by decide)); conv => whnf) | (refine And.intro (fun h => absurd h (by decide)) (fun _ => ?_); conv => whnf) | (refine .quiet (by kernel_rfl) ?_; conv => whnf))
      refine .raw _ _ rfl (fun h => by cases h) (callio_sem (hnum) [1] _ rfl rfl ⟨rfl, trivial⟩ (by repeat (first | exact .nil | (apply BorL.cons; first | exact .map _ _ rfl | exact .ptr _ _ _ rfl | exact .own _ _ rfl | exact .fnp _ _ _ _ rfl | (apply BorIO.lend; first | exact lS rfl | exact lR rfl | exact lM rfl rfl | exact lL rfl | exact lX rfl | exact lN | exact lNl | exact lSm rfl | exact lIm rfl | exact lP rfl | exact lQ rfl | exact lB rfl rfl rfl)))) rfl (by first | exact .inl rfl | exact .inr (fun b rs h => by obtain ⟨rfl, rfl⟩ := h; exact ⟨by repeat (first | exact flats_nil | refine flats_cons (by first | exact flat_val _ rfl | exact flat_row (fun _ => rfl) | exact flat_lst (fun _ => rfl)) ?_), by repeat (first | exact flats0 | refine flats1 (by first | exact flatB_row (fun _ => rfl) | exact flatB_lst (fun _ => rfl) | exact flatB_smap (fun _ => rfl) | exact flatB_imap (fun _ => rfl) | exact flatB_cells rfl) ?_)⟩))) ?_
      rintro w ⟨b', rs, ⟨rfl, rfl⟩, rfl⟩
      refine ⟨tn_ge _ _, ?_⟩
      conv => whnf
      repeat (first | (refine And.intro ⟨by omega, by omega⟩ ?_; conv => whnf) | (refine And.intro (by omega) (And.intro rfl ?_); conv => whnf) | (refine And.intro rfl ?_; conv => whnf) | (refine And.intro (fun _ => ⟨by omega, by omega⟩) ?_; conv => whnf) | (refine And.intro (fun _ => by omega) (And.intro rfl ?_); conv => whnf) | (refine And.intro ⟨(by first | omega | (simp; omega)), (by first | omega | (simp; omega))⟩ ?_; conv => whnf) | (refine Exists.intro _ (And.intro rfl (And.intro (by first | omega | (simp; omega)) (And.intro ⟨rfl, rfl, rfl, rfl, rfl⟩ ?_))); conv => whnf) | (refine And.intro ⟨rfl, rfl⟩ (And.intro (by first | omega | (simp; omega)) ?_); conv => whnf) | (refine Exists.intro _ (And.intro rfl ?_); conv => whnf) | (refine And.intro (fun _ => ?_) (fun h => absurd h (by decide)); conv => whnf) | (refine And.intro (fun h => absurd h (by decide)) (fun _ => ?_); conv => whnf) | (refine .quiet (by kernel_rfl) ?_; conv => whnf))
      refine up (by decide) trivial ((wk_of [(0, .id 0), (1, .id 1), (2, .id 2), (3, .id 3)] rfl ⟨.base (.tree _ _ rfl rfl), .base (.ptr _ _ _ rfl), .base (.ptr _ _ _ rfl), .base (.ptr _ _ _ rfl), .base (.csl _ _ _ rfl), .base (.tree _ _ rfl rfl), .base (.tree _ _ rfl rfl), trivial⟩ ⟨⟨_, rfl, .cells _ _ _ _ rfl (by repeat (first | exact .nil | refine .cons (by first | exact .base (.tree _ _ rfl rfl) | exact .base (.own _ _ rfl) | exact .base (.ptr _ _ _ rfl) | exact .base (.map _ _ rfl) | exact .base (.nilown _ rfl)) ?_)) rfl⟩, ⟨_, rfl, .cells _ _ _ _ rfl (by repeat (first | exact .nil | refine .cons (by first | exact .base (.tree _ _ rfl rfl) | exact .base (.own _ _ rfl) | exact .base (.ptr _ _ _ rfl) | exact .base (.map _ _ rfl) | exact .base (.nilown _ rfl)) ?_)) rfl⟩, ⟨_, rfl, .cells _ _ _ _ rfl (by repeat (first | exact .nil | refine .cons (by first | exact .base (.tree _ _ rfl rfl) | exact .base (.own _ _ rfl) | exact .base (.ptr _ _ _ rfl) | exact .base (.map _ _ rfl) | exact .base (.nilown _ rfl)) ?_)) rfl⟩, ⟨_, rfl, .cells _ _ _ _ rfl (by repeat (first | exact .nil | refine .cons (by first | exact .base (.tree _ _ rfl rfl) | exact .base (.own _ _ rfl) | exact .base (.ptr _ _ _ rfl) | exact .base (.map _ _ rfl) | exact .base (.nilown _ rfl)) ?_)) rfl⟩, trivial⟩))
    · have hnum := rnum_ok (Q 3) (by have := hle 3; omega)
      rw [← hv, ← hn] at hnum
      conv => whnf
      repeat (first | (refine And.intro ⟨by omega, by omega⟩ ?_; conv => whnf) | (refine And.intro (by omega) (And.intro rfl ?_); conv => whnf) | (refine And.intro rfl ?_; conv => whnf) | (refine And.intro (fun _ => ⟨by omega, by omega⟩) ?_; conv => whnf) | (refine And.intro (fun _ => by omega) (And.intro rfl ?_); conv => whnf) | (refine And.intro ⟨(by first | omega | (simp; omega)), (by first | omega | (simp; omega))⟩ ?_; conv => whnf) | (refine Exists.intro _ (And.intro rfl (And.intro (by first | omega | (simp; omega)) (And.intro ⟨rfl, rfl, rfl, rfl, rfl⟩ ?_))); conv => whnf) | (refine And.intro ⟨rfl, rfl⟩ (And.intro (by first | omega | (simp; omega)) ?_); conv => whnf) | (refine Exists.intro _ (And.intro rfl ?_); conv => whnf) | (refine And.intro (fun _ => ?_) (fun h => absurd h (by decide)); conv => whnf) | (refine And.intro (fun h => absurd h (by decide)) (fun _ => ?_); conv => whnf) | (refine .quiet (by kernel_rfl) ?_; conv => whnf))
      refine .raw _ _ rfl (fun h => by cases h) (callio_sem (hnum) [1] _ rfl rfl ⟨rfl, trivial⟩ (by repeat (first | exact .nil | (apply BorL.cons; first | exact .map _ _ rfl | exact .ptr _ _ _ rfl | exact .own _ _ rfl | exact .fnp _ _ _ _ rfl | (apply BorIO.lend; first | exact lS rfl | exact lR rfl | exact lM rfl rfl | exact lL rfl | exact lX rfl | exact lN | exact lNl | exact lSm rfl | exact lIm rfl | exact lP rfl | exact lQ rfl | exact lB rfl rfl rfl)))) rfl (by first | exact .inl rfl | exact .inr (fun b rs h => by obtain ⟨rfl, rfl⟩ := h; exact ⟨by repeat (first | exact flats_nil | refine flats_cons (by first | exact flat_val _ rfl | exact flat_row (fun _ => rfl) | exact flat_lst (fun _ => rfl)) ?_), by repeat (first | exact flats0 | refine flats1 (by first | exact flatB_row (fun _ => rfl) | exact flatB_lst (fun _ => rfl) | exact flatB_smap (fun _ => rfl) | exact flatB_imap (fun _ => rfl) | exact flatB_cells rfl) ?_)⟩))) ?_
      rintro w ⟨b', rs, ⟨rfl, rfl⟩, rfl⟩
      refine ⟨tn_ge _ _, ?_⟩
      conv => whnf
      repeat (first | (refine And.intro ⟨by omega, by omega⟩ ?_; conv => whnf) | (refine And.intro (by omega) (And.intro rfl ?_); conv => whnf) | (refine And.intro rfl ?_; conv => whnf) | (refine And.intro (fun _ => ⟨by omega, by omega⟩) ?_; conv => whnf) | (refine And.intro (fun _ => by omega) (And.intro rfl ?_); conv => whnf) | (refine And.intro ⟨(by first | omega | (simp; omega)), (by first | omega | (simp; omega))⟩ ?_; conv => whnf) | (refine Exists.intro _ (And.intro rfl (And.intro (by first | omega | (simp; omega)) (And.intro ⟨rfl, rfl, rfl, rfl, rfl⟩ ?_))); conv => whnf) | (refine And.intro ⟨rfl, rfl⟩ (And.intro (by first | omega | (simp; omega)) ?_); conv => whnf) | (refine Exists.intro _ (And.intro rfl ?_); conv => whnf) | (refine And.intro (fun _ => ?_) (fun h => absurd h (by decide)); conv => whnf) | (refine And.intro (fun h => absurd h (by decide)) (fun _ => ?_); conv => whnf) | (refine .quiet (by kernel_rfl) ?_; conv => whnf))
      refine up (by decide) trivial ((wk_of [(0, .id 0), (1, .id 1), (2, .id 2), (3, .id 3)] rfl ⟨.base (.tree _ _ rfl rfl), .base (.ptr _ _ _ rfl), .base (.ptr _ _ _ rfl), .base (.ptr _ _ _ rfl), .base (.csl _ _ _ rfl), .base (.tree _ _ rfl rfl), .base (.tree _ _ rfl rfl), trivial⟩ ⟨⟨_, rfl, .cells _ _ _ _ rfl (by repeat (first | exact .nil | refine .cons (by first | exact .base (.tree _ _ rfl rfl) | exact .base (.own _ _ rfl) | exact .base (.ptr _ _ _ rfl) | exact .base (.map _ _ rfl) | exact .base (.nilown _ rfl)) ?_)) rfl⟩, ⟨_, rfl, .cells _ _ _ _ rfl (by repeat (first | exact .nil | refine .cons (by first | exact .base (.tree _ _ rfl rfl) | exact .base (.own _ _ rfl) | exact .base (.ptr _ _ _ rfl) | exact .base (.map _ _ rfl) | exact .base (.nilown _ rfl)) ?_)) rfl⟩, ⟨_, rfl, .cells _ _ _ _ rfl (by repeat (first | exact .nil | refine .cons (by first | exact .base (.tree _ _ rfl rfl) | exact .base (.own _ _ rfl) | exact .base (.ptr _ _ _ rfl) | exact .base (.map _ _ rfl) | exact .base (.nilown _ rfl)) ?_)) rfl⟩, ⟨_, rfl, .cells _ _ _ _ rfl (by repeat (first | exact .nil | refine .cons (by first | exact .base (.tree _ _ rfl rfl) | exact .base (.own _ _ rfl) | exact .base (.ptr _ _ _ rfl) | exact .base (.map _ _ rfl) | exact .base (.nilown _ rfl)) ?_)) rfl⟩, trivial⟩))
    · have hnum := rnum_ok (Q 4) (by have := hle 4; omega)
      rw [← hv, ← hn] at hnum
      conv => whnf
      repeat (first | (refine And.intro ⟨by omega, by omega⟩ ?_; conv => whnf) | (refine And.intro (by omega) (And.intro rfl ?_); conv => whnf) | (refine And.intro rfl ?_; conv => whnf) | (refine And.intro (fun _ => ⟨by omega, by omega⟩) ?_; conv => whnf) | (refine And.intro (fun _ => by omega) (And.intro rfl ?_); conv => whnf) | (refine And.intro ⟨(by first | omega | (simp; omega)), (by first | omega | (simp; omega))⟩ ?_; conv => whnf) | (refine Exists.intro _ (And.intro rfl (And.intro (by first | omega | (simp; omega)) (And.intro ⟨rfl, rfl, rfl, rfl, rfl⟩ ?_))); conv => whnf) | (refine And.intro ⟨rfl, rfl⟩ (And.intro (by first | omega | (simp; omega)) ?_); conv => whnf) | (refine Exists.intro _ (And.intro rfl ?_); conv => whnf) | (refine And.intro (fun _ => ?_) (fun h => absurd h (by decide)); conv => whnf) | (refine And.intro (fun h => absurd h (by decide)) (fun _ => ?_); conv => whnf) | (refine .quiet (by kernel_rfl) ?_; conv => whnf))
      refine .raw _ _ rfl (fun h => by cases h) (callio_sem (hnum) [1] _ rfl rfl ⟨rfl, trivial⟩ (by repeat (first | exact .nil | (apply BorL.cons; first | exact .map _ _ rfl | exact .ptr _ _ _ rfl | exact .own _ _ rfl | exact .fnp _ _ _ _ rfl | (apply BorIO.lend; first | exact lS rfl | exact lR rfl | exact lM rfl rfl | exact lL rfl | exact lX rfl | exact lN | exact lNl | exact lSm rfl | exact lIm rfl | exact lP rfl | exact lQ rfl | exact lB rfl rfl rfl)))) rfl (by first | exact .inl rfl | exact .inr (fun b rs h => by obtain ⟨rfl, rfl⟩ := h; exact ⟨by repeat (first | exact flats_nil | refine flats_cons (by first | exact flat_val _ rfl | exact flat_row (fun _ => rfl) | exact flat_lst (fun _ => rfl)) ?_), by repeat (first | exact flats0 | refine flats1 (by first | exact flatB_row (fun _ => rfl) | exact flatB_lst (fun _ => rfl) | exact flatB_smap (fun _ => rfl) | exact flatB_imap (fun _ => rfl) | exact flatB_cells rfl) ?_)⟩))) ?_
      rintro w ⟨b', rs, ⟨rfl, rfl⟩, rfl⟩
      refine ⟨tn_ge _ _, ?_⟩
      conv => whnf
      repeat (first | (refine And.intro ⟨by omega, by omega⟩ ?_; conv => whnf) | (refine And.intro (by omega) (And.intro rfl ?_); conv => whnf) | (refine And.intro rfl ?_; conv => whnf) | (refine And.intro (fun _ => ⟨by omega, by omega⟩) ?_; conv => whnf) | (refine And.intro (fun _ => by omega) (And.intro rfl ?_); conv => whnf) | (refine And.intro ⟨(by first | omega | (simp; omega)), (by first | omega | (simp; omega))⟩ ?_; conv => whnf) | (refine Exists.intro _ (And.intro rfl (And.intro (by first | omega | (simp; omega)) (And.intro ⟨rfl, rfl, rfl, rfl, rfl⟩ ?_))); conv => whnf) | (refine And.intro ⟨rfl, rfl⟩ (And.intro (by first | omega | (simp; omega)) ?_); conv => whnf) | (refine Exists.intro _ (And.intro rfl ?_); conv => whnf) | (refine And.intro (fun _ => ?_) (fun h => absurd h (by decide)); conv => whnf) | (refine And.intro (fun h => absurd h (by decide)) (fun _ => ?_); conv => whnf) | (refine .quiet (by kernel_rfl) ?_; conv => whnf))
      refine up (by decide) trivial ((wk_of [(0, .id 0), (1, .id 1), (2, .id 2), (3, .id 3)] rfl ⟨.base (.tree _ _ rfl rfl), .base (.ptr _ _ _ rfl), .base (.ptr _ _ _ rfl), .base (.ptr _ _ _ rfl), .base (.csl _ _ _ rfl), .base (.tree _ _ rfl rfl), .base (.tree _ _ rfl rfl), trivial⟩ ⟨⟨_, rfl, .cells _ _ _ _ rfl (by repeat (first | exact .nil | refine .cons (by first | exact .base (.tree _ _ rfl rfl) | exact .base (.own _ _ rfl) | exact .base (.ptr _ _ _ rfl) | exact .base (.map _ _ rfl) | exact .base (.nilown _ rfl)) ?_)) rfl⟩, ⟨_, rfl, .cells _ _ _ _ rfl (by repeat (first | exact .nil | refine .cons (by first | exact .base (.tree _ _ rfl rfl) | exact .base (.own _ _ rfl) | exact .base (.ptr _ _ _ rfl) | exact .base (.map _ _ rfl) | exact .base (.nilown _ rfl)) ?_)) rfl⟩, ⟨_, rfl, .cells _ _ _ _ rfl (by repeat (first | exact .nil | refine .cons (by first | exact .base (.tree _ _ rfl rfl) | exact .base (.own _ _ rfl) | exact .base (.ptr _ _ _ rfl) | exact .base (.map _ _ rfl) | exact .base (.nilown _ rfl)) ?_)) rfl⟩, ⟨_, rfl, .cells _ _ _ _ rfl (by repeat (first | exact .nil | refine .cons (by first | exact .base (.tree _ _ rfl rfl) | exact .base (.own _ _ rfl) | exact .base (.ptr _ _ _ rfl) | exact .base (.map _ _ rfl) | exact .base (.nilown _ rfl)) ?_)) rfl⟩, trivial⟩))
  · simp only [decide_eq_false_iff_not] at hc
    have : k = 5 := by omega
    subst this
    conv => whnf
    refine .one _ _ _ (fun _ => hd) (by repeat (first | exact .nil | (apply BorL.cons; first | exact lS rfl | exact lR rfl | exact lM rfl rfl | exact lL rfl | exact lX rfl | exact lN | exact lNl | exact lSm rfl | exact lIm rfl | exact lP rfl | exact lQ rfl | exact lB rfl rfl rfl))) (by first | exact .inl rfl | exact .inr (by repeat (first | exact flats_nil | refine flats_cons (by first | exact flat_val _ rfl | exact flat_row (fun _ => rfl) | exact flat_lst (fun _ => rfl)) ?_))) (by first | exact .inl rfl | exact .inr rfl) ?_
    conv => whnf
    repeat (first | (refine And.intro ⟨by omega, by omega⟩ ?_; conv => whnf) | (refine And.intro (by omega) (And.intro rfl ?_); conv => whnf) | (refine And.intro rfl ?_; conv => whnf) | (refine And.intro (fun _ => ⟨by omega, by omega⟩) ?_; conv => whnf) | (refine And.intro (fun _ => by omega) (And.intro rfl ?_); conv => whnf) | (refine And.intro ⟨(by first | omega | (simp; omega)), (by first | omega | (simp; omega))⟩ ?_; conv => whnf) | (refine Exists.intro _ (And.intro rfl (And.intro (by first | omega | (simp; omega)) (And.intro ⟨rfl, rfl, rfl, rfl, rfl⟩ ?_))); conv => whnf) | (refine And.intro ⟨rfl, rfl⟩ (And.intro (by first | omega | (simp; omega)) ?_); conv => whnf) | (refine Exists.intro _ (And.intro rfl ?_); conv => whnf) | (refine And.intro (fun _ => ?_) (fun h => absurd h (by decide)); conv => whnf) | (refine And.intro (fun h => absurd h (by decide)) (fun _ => ?_); conv => whnf) | (refine .quiet (by kernel_rfl) ?_; conv => whnf))
    refine .one _ _ _ (fun _ => hr) (by repeat (first | exact .nil | (apply BorL.cons; first | exact lS rfl | exact lR rfl | exact lM rfl rfl | exact lL rfl | exact lX rfl | exact lN | exact lNl | exact lSm rfl | exact lIm rfl | exact lP rfl | exact lQ rfl | exact lB rfl rfl rfl))) (by first | exact .inl rfl | exact .inr (by repeat (first | exact flats_nil | refine flats_cons (by first | exact flat_val _ rfl | exact flat_row (fun _ => rfl) | exact flat_lst (fun _ => rfl)) ?_))) (by first | exact .inl rfl | exact .inr rfl) ?_
    conv => whnf
    repeat (first | (refine And.intro ⟨by omega, by omega⟩ ?_; conv => whnf) | (refine And.intro (by omega) (And.intro rfl ?_); conv => whnf) | (refine And.intro rfl ?_; conv => whnf) | (refine And.intro (fun _ => ⟨by omega, by omega⟩) ?_; conv => whnf) | (refine And.intro (fun _ => by omega) (And.intro rfl ?_); conv => whnf) | (refine And.intro ⟨(by first | omega | (simp; omega)), (by first | omega | (simp; omega))⟩ ?_; conv => whnf) | (refine Exists.intro _ (And.intro rfl (And.intro (by first | omega | (simp; omega)) (And.intro ⟨rfl, rfl, rfl, rfl, rfl⟩ ?_))); conv => whnf) | (refine And.intro ⟨rfl, rfl⟩ (And.intro (by first | omega | (simp; omega)) ?_); conv => whnf) | (refine Exists.intro _ (And.intro rfl ?_); conv => whnf) | (refine And.intro (fun _ => ?_) (fun h => absurd h (by decide)); conv => whnf) | (refine And.intro (fun h => absurd h (by decide)) (fun _ => ?_); conv => whnf) | (refine .quiet (by kernel_rfl) ?_; conv => whnf))
    refine ⟨fun hx => ?_, fun hx => ?_⟩
    · conv => whnf
      generalize (!(Q 5).bad && decide ((Q 5).rest = [])) = D at *
      cases D <;> cases R <;> first | rfl | exact absurd hx (by decide)
    · conv => whnf
      generalize (!(Q 5).bad && decide ((Q 5).rest = [])) = D at *
      cases D <;> cases R <;> first | rfl | exact absurd hx (by decide)

/-! ### The reference reads it so too -/
theorem inz_ok (n a b : Int) : APureV Tryd.prog 38 [.int .i64 n, .int .i64 a, .int .i64 b] (.bool (inB n a b)) := by
  refine apure_of (C := cx 15 [0, 1, 2, 6]) (cxOk _ _) Tryd.func38 rfl (by decide) rfl (by exact Nat.le_of_ble_eq_true rfl) (by decide) ?_
  conv => whnf
  rfl
theorem qright_ok (e : Ent) : APureV Tryd.prog 19 [encE e] (.bool (rightE e)) := by
  have h1 := inz_ok e.id 0 1000000000000000
  have h2 := inz_ok e.day 0 200000
  have h3 := inz_ok e.frm 0 99999
  have h4 := inz_ok e.to 0 99999
  have h5 := inz_ok e.amt 1 1000000000000000
  refine apure_of (C := cx 33 [0, 1, 2]) (cxOk _ _) Tryd.func19 rfl (by decide) rfl (by exact Nat.le_of_ble_eq_true rfl) (by decide) ?_
  conv => whnf
  refine .one _ _ _ (fun _ => h1) (by repeat (first | exact .nil | (apply BorL.cons; first | exact lS rfl | exact lR rfl | exact lM rfl rfl | exact lL rfl | exact lX rfl | exact lN | exact lNl | exact lSm rfl | exact lIm rfl | exact lP rfl | exact lQ rfl | exact lB rfl rfl rfl))) (by first | exact .inl rfl | exact .inr (by repeat (first | exact flats_nil | refine flats_cons (by first | exact flat_val _ rfl | exact flat_row (fun _ => rfl) | exact flat_lst (fun _ => rfl)) ?_))) (by first | exact .inl rfl | exact .inr rfl) ?_
  conv => whnf
  refine .one _ _ _ (fun _ => h2) (by repeat (first | exact .nil | (apply BorL.cons; first | exact lS rfl | exact lR rfl | exact lM rfl rfl | exact lL rfl | exact lX rfl | exact lN | exact lNl | exact lSm rfl | exact lIm rfl | exact lP rfl | exact lQ rfl | exact lB rfl rfl rfl))) (by first | exact .inl rfl | exact .inr (by repeat (first | exact flats_nil | refine flats_cons (by first | exact flat_val _ rfl | exact flat_row (fun _ => rfl) | exact flat_lst (fun _ => rfl)) ?_))) (by first | exact .inl rfl | exact .inr rfl) ?_
  conv => whnf
  refine .one _ _ _ (fun _ => h3) (by repeat (first | exact .nil | (apply BorL.cons; first | exact lS rfl | exact lR rfl | exact lM rfl rfl | exact lL rfl | exact lX rfl | exact lN | exact lNl | exact lSm rfl | exact lIm rfl | exact lP rfl | exact lQ rfl | exact lB rfl rfl rfl))) (by first | exact .inl rfl | exact .inr (by repeat (first | exact flats_nil | refine flats_cons (by first | exact flat_val _ rfl | exact flat_row (fun _ => rfl) | exact flat_lst (fun _ => rfl)) ?_))) (by first | exact .inl rfl | exact .inr rfl) ?_
  conv => whnf
  refine .one _ _ _ (fun _ => h4) (by repeat (first | exact .nil | (apply BorL.cons; first | exact lS rfl | exact lR rfl | exact lM rfl rfl | exact lL rfl | exact lX rfl | exact lN | exact lNl | exact lSm rfl | exact lIm rfl | exact lP rfl | exact lQ rfl | exact lB rfl rfl rfl))) (by first | exact .inl rfl | exact .inr (by repeat (first | exact flats_nil | refine flats_cons (by first | exact flat_val _ rfl | exact flat_row (fun _ => rfl) | exact flat_lst (fun _ => rfl)) ?_))) (by first | exact .inl rfl | exact .inr rfl) ?_
  conv => whnf
  refine .one _ _ _ (fun _ => h5) (by repeat (first | exact .nil | (apply BorL.cons; first | exact lS rfl | exact lR rfl | exact lM rfl rfl | exact lL rfl | exact lX rfl | exact lN | exact lNl | exact lSm rfl | exact lIm rfl | exact lP rfl | exact lQ rfl | exact lB rfl rfl rfl))) (by first | exact .inl rfl | exact .inr (by repeat (first | exact flats_nil | refine flats_cons (by first | exact flat_val _ rfl | exact flat_row (fun _ => rfl) | exact flat_lst (fun _ => rfl)) ?_))) (by first | exact .inl rfl | exact .inr rfl) ?_
  conv => whnf
  rfl
theorem qread_ok (s : List UInt8) (hs : s.length ≤ 9223372036854775000) : APure Tryd.prog 17 [.str s] (fun rs => rs = [.val (encE (readE s)), .val (.int .i64 (readC s))]) := by
  have ho := qopen_ok s
  have hle := sQ_rest s
  have hv : ∀ k, vQ s k = (numQ 59 0 (sQ s k)).1 := fun _ => rfl
  have hn : ∀ k, sQ s (k + 1) = (numQ 59 0 (sQ s k)).2 := fun _ => rfl
  have h0 : sQ s 0 = ⟨s, false⟩ := rfl
  have he : entQ s = ⟨vQ s 0, vQ s 1, vQ s 2, vQ s 3, vQ s 4⟩ := rfl
  have hd := qdone_ok (sQ s 5).rest (sQ s 5).bad
  have hr := qright_ok (entQ s)
  have hb : readB s = (doneB (sQ s 5) && rightE (entQ s)) := rfl
  unfold readE readC
  rw [hb]
  generalize rightE (entQ s) = R at *
  rw [he] at hr ⊢
  unfold doneB
  generalize vQ s = V at *
  generalize sQ s = Q at *
  have n0 := qnum_ok (Q 0) (by have := hle 0; omega)
  have n1 := qnum_ok (Q 1) (by have := hle 1; omega)
  have n2 := qnum_ok (Q 2) (by have := hle 2; omega)
  have n3 := qnum_ok (Q 3) (by have := hle 3; omega)
  have n4 := qnum_ok (Q 4) (by have := hle 4; omega)
  rw [← hv, ← hn] at n0 n1 n2 n3 n4
  rw [h0] at n0
  refine apure_of (C := cx 29 [0, 2, 3, 4, 5, 26]) (cxOk _ _) Tryd.func17 rfl (by decide) rfl (by exact Nat.le_of_ble_eq_true rfl) (by decide) ?_
  conv => whnf
  refine .one _ _ _ (fun _ => ho) (by repeat (first | exact .nil | (apply BorL.cons; first | exact lS rfl | exact lR rfl | exact lM rfl rfl | exact lL rfl | exact lX rfl | exact lN | exact lNl | exact lSm rfl | exact lIm rfl | exact lP rfl | exact lQ rfl | exact lB rfl rfl rfl))) (by first | exact .inl rfl | exact .inr (by repeat (first | exact flats_nil | refine flats_cons (by first | exact flat_val _ rfl | exact flat_row (fun _ => rfl) | exact flat_lst (fun _ => rfl)) ?_))) (by first | exact .inl rfl | exact .inr rfl) ?_
  conv => whnf
  repeat (first | (refine And.intro ⟨by omega, by omega⟩ ?_; conv => whnf) | (refine And.intro (by omega) (And.intro rfl ?_); conv => whnf) | (refine And.intro rfl ?_; conv => whnf) | (refine And.intro (fun _ => ⟨by omega, by omega⟩) ?_; conv => whnf) | (refine And.intro (fun _ => by omega) (And.intro rfl ?_); conv => whnf) | (refine And.intro ⟨(by first | omega | (simp; omega)), (by first | omega | (simp; omega))⟩ ?_; conv => whnf) | (refine Exists.intro _ (And.intro rfl (And.intro (by first | omega | (simp; omega)) (And.intro ⟨rfl, rfl, rfl, rfl, rfl⟩ ?_))); conv => whnf) | (refine And.intro ⟨rfl, rfl⟩ (And.intro (by first | omega | (simp; omega)) ?_); conv => whnf) | (refine Exists.intro _ (And.intro rfl ?_); conv => whnf) | (refine And.intro (fun _ => ?_) (fun h => absurd h (by decide)); conv => whnf) | (refine And.intro (fun h => absurd h (by decide)) (fun _ => ?_); conv => whnf) | (refine .quiet (by kernel_rfl) ?_; conv => whnf))
  refine .raw _ _ rfl (fun h => by cases h) (callio_sem (n0) [1] _ rfl rfl ⟨rfl, trivial⟩ (by repeat (first | exact .nil | (apply BorL.cons; first | exact .map _ _ rfl | exact .ptr _ _ _ rfl | exact .own _ _ rfl | exact .fnp _ _ _ _ rfl | (apply BorIO.lend; first | exact lS rfl | exact lR rfl | exact lM rfl rfl | exact lL rfl | exact lX rfl | exact lN | exact lNl | exact lSm rfl | exact lIm rfl | exact lP rfl | exact lQ rfl | exact lB rfl rfl rfl)))) rfl (by first | exact .inl rfl | exact .inr (fun b rs h => by obtain ⟨rfl, rfl⟩ := h; exact ⟨by repeat (first | exact flats_nil | refine flats_cons (by first | exact flat_val _ rfl | exact flat_row (fun _ => rfl) | exact flat_lst (fun _ => rfl)) ?_), by repeat (first | exact flats0 | refine flats1 (by first | exact flatB_row (fun _ => rfl) | exact flatB_lst (fun _ => rfl) | exact flatB_smap (fun _ => rfl) | exact flatB_imap (fun _ => rfl) | exact flatB_cells rfl) ?_)⟩))) ?_
  rintro w ⟨b', rs, ⟨rfl, rfl⟩, rfl⟩
  refine ⟨tn_ge _ _, ?_⟩
  conv => whnf
  refine .raw _ _ rfl (fun h => by cases h) (callio_sem (n1) [1] _ rfl rfl ⟨rfl, trivial⟩ (by repeat (first | exact .nil | (apply BorL.cons; first | exact .map _ _ rfl | exact .ptr _ _ _ rfl | exact .own _ _ rfl | exact .fnp _ _ _ _ rfl | (apply BorIO.lend; first | exact lS rfl | exact lR rfl | exact lM rfl rfl | exact lL rfl | exact lX rfl | exact lN | exact lNl | exact lSm rfl | exact lIm rfl | exact lP rfl | exact lQ rfl | exact lB rfl rfl rfl)))) rfl (by first | exact .inl rfl | exact .inr (fun b rs h => by obtain ⟨rfl, rfl⟩ := h; exact ⟨by repeat (first | exact flats_nil | refine flats_cons (by first | exact flat_val _ rfl | exact flat_row (fun _ => rfl) | exact flat_lst (fun _ => rfl)) ?_), by repeat (first | exact flats0 | refine flats1 (by first | exact flatB_row (fun _ => rfl) | exact flatB_lst (fun _ => rfl) | exact flatB_smap (fun _ => rfl) | exact flatB_imap (fun _ => rfl) | exact flatB_cells rfl) ?_)⟩))) ?_
  rintro w ⟨b', rs, ⟨rfl, rfl⟩, rfl⟩
  refine ⟨tn_ge _ _, ?_⟩
  conv => whnf
  refine .raw _ _ rfl (fun h => by cases h) (callio_sem (n2) [1] _ rfl rfl ⟨rfl, trivial⟩ (by repeat (first | exact .nil | (apply BorL.cons; first | exact .map _ _ rfl | exact .ptr _ _ _ rfl | exact .own _ _ rfl | exact .fnp _ _ _ _ rfl | (apply BorIO.lend; first | exact lS rfl | exact lR rfl | exact lM rfl rfl | exact lL rfl | exact lX rfl | exact lN | exact lNl | exact lSm rfl | exact lIm rfl | exact lP rfl | exact lQ rfl | exact lB rfl rfl rfl)))) rfl (by first | exact .inl rfl | exact .inr (fun b rs h => by obtain ⟨rfl, rfl⟩ := h; exact ⟨by repeat (first | exact flats_nil | refine flats_cons (by first | exact flat_val _ rfl | exact flat_row (fun _ => rfl) | exact flat_lst (fun _ => rfl)) ?_), by repeat (first | exact flats0 | refine flats1 (by first | exact flatB_row (fun _ => rfl) | exact flatB_lst (fun _ => rfl) | exact flatB_smap (fun _ => rfl) | exact flatB_imap (fun _ => rfl) | exact flatB_cells rfl) ?_)⟩))) ?_
  rintro w ⟨b', rs, ⟨rfl, rfl⟩, rfl⟩
  refine ⟨tn_ge _ _, ?_⟩
  conv => whnf
  refine .raw _ _ rfl (fun h => by cases h) (callio_sem (n3) [1] _ rfl rfl ⟨rfl, trivial⟩ (by repeat (first | exact .nil | (apply BorL.cons; first | exact .map _ _ rfl | exact .ptr _ _ _ rfl | exact .own _ _ rfl | exact .fnp _ _ _ _ rfl | (apply BorIO.lend; first | exact lS rfl | exact lR rfl | exact lM rfl rfl | exact lL rfl | exact lX rfl | exact lN | exact lNl | exact lSm rfl | exact lIm rfl | exact lP rfl | exact lQ rfl | exact lB rfl rfl rfl)))) rfl (by first | exact .inl rfl | exact .inr (fun b rs h => by obtain ⟨rfl, rfl⟩ := h; exact ⟨by repeat (first | exact flats_nil | refine flats_cons (by first | exact flat_val _ rfl | exact flat_row (fun _ => rfl) | exact flat_lst (fun _ => rfl)) ?_), by repeat (first | exact flats0 | refine flats1 (by first | exact flatB_row (fun _ => rfl) | exact flatB_lst (fun _ => rfl) | exact flatB_smap (fun _ => rfl) | exact flatB_imap (fun _ => rfl) | exact flatB_cells rfl) ?_)⟩))) ?_
  rintro w ⟨b', rs, ⟨rfl, rfl⟩, rfl⟩
  refine ⟨tn_ge _ _, ?_⟩
  conv => whnf
  refine .raw _ _ rfl (fun h => by cases h) (callio_sem (n4) [1] _ rfl rfl ⟨rfl, trivial⟩ (by repeat (first | exact .nil | (apply BorL.cons; first | exact .map _ _ rfl | exact .ptr _ _ _ rfl | exact .own _ _ rfl | exact .fnp _ _ _ _ rfl | (apply BorIO.lend; first | exact lS rfl | exact lR rfl | exact lM rfl rfl | exact lL rfl | exact lX rfl | exact lN | exact lNl | exact lSm rfl | exact lIm rfl | exact lP rfl | exact lQ rfl | exact lB rfl rfl rfl)))) rfl (by first | exact .inl rfl | exact .inr (fun b rs h => by obtain ⟨rfl, rfl⟩ := h; exact ⟨by repeat (first | exact flats_nil | refine flats_cons (by first | exact flat_val _ rfl | exact flat_row (fun _ => rfl) | exact flat_lst (fun _ => rfl)) ?_), by repeat (first | exact flats0 | refine flats1 (by first | exact flatB_row (fun _ => rfl) | exact flatB_lst (fun _ => rfl) | exact flatB_smap (fun _ => rfl) | exact flatB_imap (fun _ => rfl) | exact flatB_cells rfl) ?_)⟩))) ?_
  rintro w ⟨b', rs, ⟨rfl, rfl⟩, rfl⟩
  refine ⟨tn_ge _ _, ?_⟩
  conv => whnf
  repeat (first | (refine And.intro ⟨by omega, by omega⟩ ?_; conv => whnf) | (refine And.intro (by omega) (And.intro rfl ?_); conv => whnf) | (refine And.intro rfl ?_; conv => whnf) | (refine And.intro (fun _ => ⟨by omega, by omega⟩) ?_; conv => whnf) | (refine And.intro (fun _ => by omega) (And.intro rfl ?_); conv => whnf) | (refine And.intro ⟨(by first | omega | (simp; omega)), (by first | omega | (simp; omega))⟩ ?_; conv => whnf) | (refine Exists.intro _ (And.intro rfl (And.intro (by first | omega | (simp; omega)) (And.intro ⟨rfl, rfl, rfl, rfl, rfl⟩ ?_))); conv => whnf) | (refine And.intro ⟨rfl, rfl⟩ (And.intro (by first | omega | (simp; omega)) ?_); conv => whnf) | (refine Exists.intro _ (And.intro rfl ?_); conv => whnf) | (refine And.intro (fun _ => ?_) (fun h => absurd h (by decide)); conv => whnf) | (refine And.intro (fun h => absurd h (by decide)) (fun _ => ?_); conv => whnf) | (refine .quiet (by kernel_rfl) ?_; conv => whnf))
  refine .one _ _ _ (fun _ => hd) (by repeat (first | exact .nil | (apply BorL.cons; first | exact lS rfl | exact lR rfl | exact lM rfl rfl | exact lL rfl | exact lX rfl | exact lN | exact lNl | exact lSm rfl | exact lIm rfl | exact lP rfl | exact lQ rfl | exact lB rfl rfl rfl))) (by first | exact .inl rfl | exact .inr (by repeat (first | exact flats_nil | refine flats_cons (by first | exact flat_val _ rfl | exact flat_row (fun _ => rfl) | exact flat_lst (fun _ => rfl)) ?_))) (by first | exact .inl rfl | exact .inr rfl) ?_
  conv => whnf
  repeat (first | (refine And.intro ⟨by omega, by omega⟩ ?_; conv => whnf) | (refine And.intro (by omega) (And.intro rfl ?_); conv => whnf) | (refine And.intro rfl ?_; conv => whnf) | (refine And.intro (fun _ => ⟨by omega, by omega⟩) ?_; conv => whnf) | (refine And.intro (fun _ => by omega) (And.intro rfl ?_); conv => whnf) | (refine And.intro ⟨(by first | omega | (simp; omega)), (by first | omega | (simp; omega))⟩ ?_; conv => whnf) | (refine Exists.intro _ (And.intro rfl (And.intro (by first | omega | (simp; omega)) (And.intro ⟨rfl, rfl, rfl, rfl, rfl⟩ ?_))); conv => whnf) | (refine And.intro ⟨rfl, rfl⟩ (And.intro (by first | omega | (simp; omega)) ?_); conv => whnf) | (refine Exists.intro _ (And.intro rfl ?_); conv => whnf) | (refine And.intro (fun _ => ?_) (fun h => absurd h (by decide)); conv => whnf) | (refine And.intro (fun h => absurd h (by decide)) (fun _ => ?_); conv => whnf) | (refine .quiet (by kernel_rfl) ?_; conv => whnf))
  refine .one _ _ _ (fun _ => hr) (by repeat (first | exact .nil | (apply BorL.cons; first | exact lS rfl | exact lR rfl | exact lM rfl rfl | exact lL rfl | exact lX rfl | exact lN | exact lNl | exact lSm rfl | exact lIm rfl | exact lP rfl | exact lQ rfl | exact lB rfl rfl rfl))) (by first | exact .inl rfl | exact .inr (by repeat (first | exact flats_nil | refine flats_cons (by first | exact flat_val _ rfl | exact flat_row (fun _ => rfl) | exact flat_lst (fun _ => rfl)) ?_))) (by first | exact .inl rfl | exact .inr rfl) ?_
  conv => whnf
  repeat (first | (refine And.intro ⟨by omega, by omega⟩ ?_; conv => whnf) | (refine And.intro (by omega) (And.intro rfl ?_); conv => whnf) | (refine And.intro rfl ?_; conv => whnf) | (refine And.intro (fun _ => ⟨by omega, by omega⟩) ?_; conv => whnf) | (refine And.intro (fun _ => by omega) (And.intro rfl ?_); conv => whnf) | (refine And.intro ⟨(by first | omega | (simp; omega)), (by first | omega | (simp; omega))⟩ ?_; conv => whnf) | (refine Exists.intro _ (And.intro rfl (And.intro (by first | omega | (simp; omega)) (And.intro ⟨rfl, rfl, rfl, rfl, rfl⟩ ?_))); conv => whnf) | (refine And.intro ⟨rfl, rfl⟩ (And.intro (by first | omega | (simp; omega)) ?_); conv => whnf) | (refine Exists.intro _ (And.intro rfl ?_); conv => whnf) | (refine And.intro (fun _ => ?_) (fun h => absurd h (by decide)); conv => whnf) | (refine And.intro (fun h => absurd h (by decide)) (fun _ => ?_); conv => whnf) | (refine .quiet (by kernel_rfl) ?_; conv => whnf))
  refine ⟨fun hx => ?_, fun hx => ?_⟩
  · conv => whnf
    generalize (!(Q 5).bad && decide ((Q 5).rest = [])) = D at *
    cases D <;> cases R <;> first | rfl | exact absurd hx (by decide)
  · conv => whnf
    generalize (!(Q 5).bad && decide ((Q 5).rest = [])) = D at *
    cases D <;> cases R <;> first | rfl | exact absurd hx (by decide)
theorem qtext_ok (e : Ent) : APureV Tryd.prog 24 [encE e] (.str (textQ e)) := by
  have hre := qright_ok e
  unfold textQ
  cases hr : rightE e with
  | false =>
    rw [hr] at hre
    refine apure_of (C := cx 25 [0, 1, 2, 5]) (cxOk _ _) Tryd.func24 rfl (by decide) rfl (by exact Nat.le_of_ble_eq_true rfl) (by decide) ?_
    conv => whnf
    refine .one _ _ _ (fun _ => hre) (by repeat (first | exact .nil | (apply BorL.cons; first | exact lS rfl | exact lR rfl | exact lM rfl rfl | exact lL rfl | exact lX rfl | exact lN | exact lNl | exact lSm rfl | exact lIm rfl | exact lP rfl | exact lQ rfl | exact lB rfl rfl rfl))) (by first | exact .inl rfl | exact .inr (by repeat (first | exact flats_nil | refine flats_cons (by first | exact flat_val _ rfl | exact flat_row (fun _ => rfl) | exact flat_lst (fun _ => rfl)) ?_))) (by first | exact .inl rfl | exact .inr rfl) ?_
    conv => whnf
    refine ⟨fun hx => ?_, fun hx => ?_⟩
    · conv => whnf
      rfl
    · cases hx
  | true =>
    rw [hr] at hre
    rw [if_pos rfl]
    have hin := five_in hr
    unfold five at hin
    have i1 := (hin e.id (by simp)).1
    have i2 := (hin e.day (by simp)).1
    have i3 := (hin e.frm (by simp)).1
    have i4 := (hin e.to (by simp)).1
    have i5 := (hin e.amt (by simp)).1
    have l1 := numS_len _ i1
    have l2 := numS_len _ i2
    have l3 := numS_len _ i3
    have l4 := numS_len _ i4
    have l5 := numS_len _ i5
    have n1 := qnum_enc e.id i1
    have n2 := qnum_enc e.day i2
    have n3 := qnum_enc e.frm i3
    have n4 := qnum_enc e.to i4
    have n5 := qnum_enc e.amt i5
    unfold textE
    generalize numS e.id = s1 at *
    generalize numS e.day = s2 at *
    generalize numS e.frm = s3 at *
    generalize numS e.to = s4 at *
    generalize numS e.amt = s5 at *
    refine apure_of (C := cx 25 [0, 1, 2, 5]) (cxOk _ _) Tryd.func24 rfl (by decide) rfl (by exact Nat.le_of_ble_eq_true rfl) (by decide) ?_
    conv => whnf
    refine .one _ _ _ (fun _ => hre) (by repeat (first | exact .nil | (apply BorL.cons; first | exact lS rfl | exact lR rfl | exact lM rfl rfl | exact lL rfl | exact lX rfl | exact lN | exact lNl | exact lSm rfl | exact lIm rfl | exact lP rfl | exact lQ rfl | exact lB rfl rfl rfl))) (by first | exact .inl rfl | exact .inr (by repeat (first | exact flats_nil | refine flats_cons (by first | exact flat_val _ rfl | exact flat_row (fun _ => rfl) | exact flat_lst (fun _ => rfl)) ?_))) (by first | exact .inl rfl | exact .inr rfl) ?_
    conv => whnf
    refine ⟨fun hx => ?_, fun hx => ?_⟩
    · cases hx
    conv => whnf
    repeat (first | (refine And.intro ⟨by omega, by omega⟩ ?_; conv => whnf) | (refine And.intro (by omega) (And.intro rfl ?_); conv => whnf) | (refine And.intro rfl ?_; conv => whnf) | (refine And.intro (fun _ => ⟨by omega, by omega⟩) ?_; conv => whnf) | (refine And.intro (fun _ => by omega) (And.intro rfl ?_); conv => whnf) | (refine And.intro ⟨(by first | omega | (simp; omega)), (by first | omega | (simp; omega))⟩ ?_; conv => whnf) | (refine Exists.intro _ (And.intro rfl (And.intro (by first | omega | (simp; omega)) (And.intro ⟨rfl, rfl, rfl, rfl, rfl⟩ ?_))); conv => whnf) | (refine And.intro ⟨rfl, rfl⟩ (And.intro (by first | omega | (simp; omega)) ?_); conv => whnf) | (refine Exists.intro _ (And.intro rfl ?_); conv => whnf) | (refine And.intro (fun _ => ?_) (fun h => absurd h (by decide)); conv => whnf) | (refine And.intro (fun h => absurd h (by decide)) (fun _ => ?_); conv => whnf) | (refine .quiet (by kernel_rfl) ?_; conv => whnf))
    refine .mk _ _ _ _ (fun _ => n1) (by repeat (first | exact .nil | (apply BorL.cons; first | exact lS rfl | exact lR rfl | exact lM rfl rfl | exact lL rfl | exact lX rfl | exact lN | exact lNl | exact lSm rfl | exact lIm rfl | exact lP rfl | exact lQ rfl | exact lB rfl rfl rfl))) rfl ?_
    conv => whnf
    repeat (first | (refine And.intro ⟨by omega, by omega⟩ ?_; conv => whnf) | (refine And.intro (by omega) (And.intro rfl ?_); conv => whnf) | (refine And.intro rfl ?_; conv => whnf) | (refine And.intro (fun _ => ⟨by omega, by omega⟩) ?_; conv => whnf) | (refine And.intro (fun _ => by omega) (And.intro rfl ?_); conv => whnf) | (refine And.intro ⟨(by first | omega | (simp; omega)), (by first | omega | (simp; omega))⟩ ?_; conv => whnf) | (refine Exists.intro _ (And.intro rfl (And.intro (by first | omega | (simp; omega)) (And.intro ⟨rfl, rfl, rfl, rfl, rfl⟩ ?_))); conv => whnf) | (refine And.intro ⟨rfl, rfl⟩ (And.intro (by first | omega | (simp; omega)) ?_); conv => whnf) | (refine Exists.intro _ (And.intro rfl ?_); conv => whnf) | (refine And.intro (fun _ => ?_) (fun h => absurd h (by decide)); conv => whnf) | (refine And.intro (fun h => absurd h (by decide)) (fun _ => ?_); conv => whnf) | (refine .quiet (by kernel_rfl) ?_; conv => whnf))
    refine .mk _ _ _ _ (fun _ => n2) (by repeat (first | exact .nil | (apply BorL.cons; first | exact lS rfl | exact lR rfl | exact lM rfl rfl | exact lL rfl | exact lX rfl | exact lN | exact lNl | exact lSm rfl | exact lIm rfl | exact lP rfl | exact lQ rfl | exact lB rfl rfl rfl))) rfl ?_
    conv => whnf
    refine And.intro (show ((s1.length + s2.length : Nat) : Int) ≤ 9223372036854775807 by omega) ?_
    conv => whnf
    repeat (first | (refine And.intro ⟨by omega, by omega⟩ ?_; conv => whnf) | (refine And.intro (by omega) (And.intro rfl ?_); conv => whnf) | (refine And.intro rfl ?_; conv => whnf) | (refine And.intro (fun _ => ⟨by omega, by omega⟩) ?_; conv => whnf) | (refine And.intro (fun _ => by omega) (And.intro rfl ?_); conv => whnf) | (refine And.intro ⟨(by first | omega | (simp; omega)), (by first | omega | (simp; omega))⟩ ?_; conv => whnf) | (refine Exists.intro _ (And.intro rfl (And.intro (by first | omega | (simp; omega)) (And.intro ⟨rfl, rfl, rfl, rfl, rfl⟩ ?_))); conv => whnf) | (refine And.intro ⟨rfl, rfl⟩ (And.intro (by first | omega | (simp; omega)) ?_); conv => whnf) | (refine Exists.intro _ (And.intro rfl ?_); conv => whnf) | (refine And.intro (fun _ => ?_) (fun h => absurd h (by decide)); conv => whnf) | (refine And.intro (fun h => absurd h (by decide)) (fun _ => ?_); conv => whnf) | (refine .quiet (by kernel_rfl) ?_; conv => whnf))
    refine .mk _ _ _ _ (fun _ => n3) (by repeat (first | exact .nil | (apply BorL.cons; first | exact lS rfl | exact lR rfl | exact lM rfl rfl | exact lL rfl | exact lX rfl | exact lN | exact lNl | exact lSm rfl | exact lIm rfl | exact lP rfl | exact lQ rfl | exact lB rfl rfl rfl))) rfl ?_
    conv => whnf
    refine And.intro (show (((s1 ++ s2).length + s3.length : Nat) : Int) ≤ 9223372036854775807 by rw [List.length_append]; omega) ?_
    conv => whnf
    repeat (first | (refine And.intro ⟨by omega, by omega⟩ ?_; conv => whnf) | (refine And.intro (by omega) (And.intro rfl ?_); conv => whnf) | (refine And.intro rfl ?_; conv => whnf) | (refine And.intro (fun _ => ⟨by omega, by omega⟩) ?_; conv => whnf) | (refine And.intro (fun _ => by omega) (And.intro rfl ?_); conv => whnf) | (refine And.intro ⟨(by first | omega | (simp; omega)), (by first | omega | (simp; omega))⟩ ?_; conv => whnf) | (refine Exists.intro _ (And.intro rfl (And.intro (by first | omega | (simp; omega)) (And.intro ⟨rfl, rfl, rfl, rfl, rfl⟩ ?_))); conv => whnf) | (refine And.intro ⟨rfl, rfl⟩ (And.intro (by first | omega | (simp; omega)) ?_); conv => whnf) | (refine Exists.intro _ (And.intro rfl ?_); conv => whnf) | (refine And.intro (fun _ => ?_) (fun h => absurd h (by decide)); conv => whnf) | (refine And.intro (fun h => absurd h (by decide)) (fun _ => ?_); conv => whnf) | (refine .quiet (by kernel_rfl) ?_; conv => whnf))
    refine .mk _ _ _ _ (fun _ => n4) (by repeat (first | exact .nil | (apply BorL.cons; first | exact lS rfl | exact lR rfl | exact lM rfl rfl | exact lL rfl | exact lX rfl | exact lN | exact lNl | exact lSm rfl | exact lIm rfl | exact lP rfl | exact lQ rfl | exact lB rfl rfl rfl))) rfl ?_
    conv => whnf
    refine And.intro (show ((((s1 ++ s2) ++ s3).length + s4.length : Nat) : Int) ≤ 9223372036854775807 by rw [List.length_append, List.length_append]; omega) ?_
    conv => whnf
    repeat (first | (refine And.intro ⟨by omega, by omega⟩ ?_; conv => whnf) | (refine And.intro (by omega) (And.intro rfl ?_); conv => whnf) | (refine And.intro rfl ?_; conv => whnf) | (refine And.intro (fun _ => ⟨by omega, by omega⟩) ?_; conv => whnf) | (refine And.intro (fun _ => by omega) (And.intro rfl ?_); conv => whnf) | (refine And.intro ⟨(by first | omega | (simp; omega)), (by first | omega | (simp; omega))⟩ ?_; conv => whnf) | (refine Exists.intro _ (And.intro rfl (And.intro (by first | omega | (simp; omega)) (And.intro ⟨rfl, rfl, rfl, rfl, rfl⟩ ?_))); conv => whnf) | (refine And.intro ⟨rfl, rfl⟩ (And.intro (by first | omega | (simp; omega)) ?_); conv => whnf) | (refine Exists.intro _ (And.intro rfl ?_); conv => whnf) | (refine And.intro (fun _ => ?_) (fun h => absurd h (by decide)); conv => whnf) | (refine And.intro (fun h => absurd h (by decide)) (fun _ => ?_); conv => whnf) | (refine .quiet (by kernel_rfl) ?_; conv => whnf))
    refine .mk _ _ _ _ (fun _ => n5) (by repeat (first | exact .nil | (apply BorL.cons; first | exact lS rfl | exact lR rfl | exact lM rfl rfl | exact lL rfl | exact lX rfl | exact lN | exact lNl | exact lSm rfl | exact lIm rfl | exact lP rfl | exact lQ rfl | exact lB rfl rfl rfl))) rfl ?_
    conv => whnf
    refine And.intro (show (((((s1 ++ s2) ++ s3) ++ s4).length + s5.length : Nat) : Int) ≤ 9223372036854775807 by rw [List.length_append, List.length_append, List.length_append]; omega) ?_
    conv => whnf
    repeat (first | (refine And.intro ⟨by omega, by omega⟩ ?_; conv => whnf) | (refine And.intro (by omega) (And.intro rfl ?_); conv => whnf) | (refine And.intro rfl ?_; conv => whnf) | (refine And.intro (fun _ => ⟨by omega, by omega⟩) ?_; conv => whnf) | (refine And.intro (fun _ => by omega) (And.intro rfl ?_); conv => whnf) | (refine And.intro ⟨(by first | omega | (simp; omega)), (by first | omega | (simp; omega))⟩ ?_; conv => whnf) | (refine Exists.intro _ (And.intro rfl (And.intro (by first | omega | (simp; omega)) (And.intro ⟨rfl, rfl, rfl, rfl, rfl⟩ ?_))); conv => whnf) | (refine And.intro ⟨rfl, rfl⟩ (And.intro (by first | omega | (simp; omega)) ?_); conv => whnf) | (refine Exists.intro _ (And.intro rfl ?_); conv => whnf) | (refine And.intro (fun _ => ?_) (fun h => absurd h (by decide)); conv => whnf) | (refine And.intro (fun h => absurd h (by decide)) (fun _ => ?_); conv => whnf) | (refine .quiet (by kernel_rfl) ?_; conv => whnf))
    rfl

end Go.Proofs.YtglalejjcfcfkaaDoor
