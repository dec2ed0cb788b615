import Derived.Test.YtjlnaogechkjdaaGreatDoorLc
import Derived.Test.YtjlnaogechkjdaaGreatDoorProg
import Derived.KernelRfl
import Derived.Shelf.SlIterI.Nil
import Derived.Shelf.SortM.Plain
import Derived.Shelf.SortM.SortNone
import Derived.Shelf.Strconv.Itoa3
import Derived.Shelf.Strconv.AtoiAll
import Derived.Shelf.Small.Wraps
import Derived.Shelf.Small.Strs
import Derived.Ground.GgzProg
import Derived.Ground.SlgmProg
import Derived.Ground.NamesProg
import Derived.Lib.IndexLaws
import Derived.Lib.ItoaLen
import Derived.Lib.AtoiAllCases

namespace Go.Proofs.YtjlnaogechkjdaaGreatDoor
open Go.Own
set_option maxHeartbeats 1000000

/-! ### The ledger in plain words -/
structure Ent where
  id : Int
  day : Int
  frm : Int
  to : Int
  amt : Int
deriving DecidableEq
def e0 : Ent := ⟨0, 0, 0, 0, 0⟩
instance : Inhabited Ent := ⟨e0⟩

def inB (n a b : Int) : Bool := decide (a ≤ n) && decide (n ≤ b)
def rightE (e : Ent) : Bool := ((((inB e.id 0 1000000000000000 && inB e.day 0 200000) && inB e.frm 0 99999) && inB e.to 0 99999) && !decide (e.frm = e.to)) && inB e.amt 1 1000000000000000
theorem rightE_iff {e : Ent} : rightE e = true ↔ (0 ≤ e.id ∧ e.id ≤ 1000000000000000) ∧ (0 ≤ e.day ∧ e.day ≤ 200000) ∧ (0 ≤ e.frm ∧ e.frm ≤ 99999) ∧ (0 ≤ e.to ∧ e.to ≤ 99999) ∧ e.frm ≠ e.to ∧ (1 ≤ e.amt ∧ e.amt ≤ 1000000000000000) := by
  unfold rightE inB
  simp only [Bool.and_eq_true, Bool.not_eq_true', decide_eq_true_eq, decide_eq_false_iff_not, and_assoc]

def sumA : List Ent → Int
  | [] => 0
  | e :: l => e.amt + sumA l
theorem sumA_append : ∀ (a b : List Ent), sumA (a ++ b) = sumA a + sumA b
  | [], b => by simp [sumA]
  | e :: a, b => by
    show e.amt + sumA (a ++ b) = e.amt + sumA a + sumA b
    rw [sumA_append a b]
    omega
theorem sumA_ge : ∀ {l : List Ent}, (∀ e ∈ l, rightE e = true) → (l.length : Int) ≤ sumA l
  | [], _ => by simp [sumA]
  | e :: l, h => by
    have h1 := (rightE_iff.1 (h e List.mem_cons_self)).2.2.2.2.2
    have h2 := sumA_ge fun x hx => h x (List.mem_cons_of_mem _ hx)
    show ((l.length + 1 : Nat) : Int) ≤ e.amt + sumA l
    omega

/-- The entries are right, their numbers differ, and their amounts are together not too great. -/
structure OkL (l : List Ent) : Prop where
  right : ∀ e ∈ l, rightE e = true
  nd : (l.map (·.id)).Nodup
  sum : sumA l ≤ 4000000000000000000
instance (l : List Ent) : Decidable (OkL l) := decidable_of_iff ((∀ e ∈ l, rightE e = true) ∧ (l.map (·.id)).Nodup ∧ sumA l ≤ 4000000000000000000) ⟨fun h => ⟨h.1, h.2.1, h.2.2⟩, fun h => ⟨h.1, h.2, h.3⟩⟩
def validB (l : List Ent) : Bool := decide (l.length ≤ 10000) && decide (OkL l)
theorem okL_nil : OkL [] := ⟨fun e h => (by cases h), List.nodup_nil, by decide⟩
theorem OkL.left {a b : List Ent} (h : OkL (a ++ b)) : OkL a := by
  refine ⟨fun e he => h.right e (List.mem_append_left _ he), ?_, ?_⟩
  · have := h.nd
    rw [List.map_append] at this
    exact (List.nodup_append.1 this).1
  · have h1 := h.sum
    rw [sumA_append] at h1
    have := sumA_ge fun e he => h.right e (List.mem_append_right _ he)
    omega
theorem OkL.of_perm {a b : List Ent} (h : OkL a) (p : a.Perm b) : OkL b := by
  have hs : sumA a = sumA b := by
    clear h
    induction p with
    | nil => rfl
    | cons x _ ih => show x.amt + _ = x.amt + _; rw [ih]
    | swap x y l => show y.amt + (x.amt + _) = x.amt + (y.amt + _); omega
    | trans _ _ h1 h2 => rw [h1, h2]
  exact ⟨fun e he => h.right e (p.mem_iff.2 he), ((p.map _).nodup_iff).1 h.nd, by rw [← hs]; exact h.sum⟩
theorem OkL.rightPart {a b : List Ent} (h : OkL (a ++ b)) : OkL b := (h.of_perm List.perm_append_comm).left
theorem OkL.snoc {a : List Ent} {e : Ent} : OkL (a ++ [e]) ↔ OkL a ∧ rightE e = true ∧ (∀ x ∈ a, x.id ≠ e.id) ∧ e.amt ≤ 4000000000000000000 - sumA a := by
  constructor
  · intro h
    refine ⟨h.left, h.right e (by simp), fun x hx he => ?_, ?_⟩
    · have := h.nd
      rw [List.map_append] at this
      have := (List.nodup_append.1 this).2.2 x.id (List.mem_map.2 ⟨x, hx, rfl⟩) e.id (by simp)
      exact this he
    · have := h.sum
      rw [sumA_append] at this
      simp only [sumA] at this
      omega
  · rintro ⟨h, h1, h2, h3⟩
    refine ⟨fun x hx => ?_, ?_, ?_⟩
    · rcases List.mem_append.1 hx with hx | hx
      · exact h.right x hx
      · rw [List.mem_singleton] at hx
        rw [hx]; exact h1
    · rw [List.map_append]
      refine List.nodup_append.2 ⟨h.nd, by simp, fun x hx y hy => ?_⟩
      obtain ⟨z, hz, rfl⟩ := List.mem_map.1 hx
      simp at hy
      subst hy
      exact h2 z hz
    · rw [sumA_append]
      simp only [sumA]
      omega

/-! ### Balances -/
def bal : List Ent → Int → Int
  | [], _ => 0
  | e :: l, a => ((if e.to = a then e.amt else 0) - (if e.frm = a then e.amt else 0)) + bal l a
theorem bal_perm {x y : List Ent} (p : x.Perm y) (a : Int) : bal x a = bal y a := by
  induction p with
  | nil => rfl
  | cons e _ ih => show _ + _ = _ + _; rw [ih]
  | swap u v l => show _ + (_ + _) = _ + (_ + _); omega
  | trans _ _ h1 h2 => rw [h1, h2]
theorem bal_bound : ∀ {l : List Ent}, (∀ e ∈ l, rightE e = true) → ∀ a, -sumA l ≤ bal l a ∧ bal l a ≤ sumA l
  | [], _, a => by simp [bal, sumA]
  | e :: l, h, a => by
    have h1 := rightE_iff.1 (h e List.mem_cons_self)
    have h2 := bal_bound (fun x hx => h x (List.mem_cons_of_mem _ hx)) a
    show -(e.amt + sumA l) ≤ _ + bal l a ∧ _ + bal l a ≤ e.amt + sumA l
    split <;> split <;> omega

def Mp := List (Int × Int)
def balStep (m : List (Int × Int)) (e : Ent) : List (Int × Int) :=
  mset (mset m e.frm ((mget m e.frm).getD 0 - e.amt)) e.to ((mget (mset m e.frm ((mget m e.frm).getD 0 - e.amt)) e.to).getD 0 + e.amt)
def balM (l : List Ent) : List (Int × Int) := l.foldl balStep []

theorem mget_mset {K V : Type} [DecidableEq K] (m : List (K × V)) (k k' : K) (x : V) : mget (mset m k x) k' = if k = k' then some x else mget m k' := by
  induction m with
  | nil => simp [mset, mget]
  | cons p m ih =>
    obtain ⟨a, b⟩ := p
    by_cases h : a = k
    · subst h
      by_cases h2 : a = k' <;> simp [mset, mget, h2]
    · by_cases h2 : a = k'
      · subst h2
        have h3 : ¬ k = a := fun e => h e.symm
        simp [mset, mget, h, h3]
      · simp [mset, mget, h, h2, ih]
theorem mset_key {K V : Type} [DecidableEq K] : ∀ {m : List (K × V)} {k : K} {x : V} {s : K}, s ∈ (mset m k x).map (·.1) ↔ s = k ∨ s ∈ m.map (·.1)
  | [], k, x, s => by simp [mset]
  | (a, v) :: m, k, x, s => by
    have ih := @mset_key K V _ m k x s
    unfold mset
    split
    · rename_i h
      subst h
      simp
    · rw [List.map_cons, List.mem_cons, ih, List.map_cons, List.mem_cons]
      constructor
      · rintro (h | h | h)
        · exact .inr (.inl h)
        · exact .inl h
        · exact .inr (.inr h)
      · rintro (h | h | h)
        · exact .inr (.inl h)
        · exact .inl h
        · exact .inr (.inr h)
theorem balM_snoc (l : List Ent) (e : Ent) : balM (l ++ [e]) = balStep (balM l) e := by
  unfold balM
  rw [List.foldl_append]
  rfl
theorem balStep_get (m : List (Int × Int)) (e : Ent) (a : Int) : (mget (balStep m e) a).getD 0 = (mget m a).getD 0 + ((if e.to = a then e.amt else 0) - (if e.frm = a then e.amt else 0)) := by
  unfold balStep
  simp only [mget_mset]
  by_cases h1 : e.to = a <;> by_cases h2 : e.frm = a
  · subst h1
    rw [if_pos rfl, if_pos h2, if_pos rfl, if_pos h2]
    simp [h2]
  · subst h1
    rw [if_pos rfl, if_neg h2, if_pos rfl, if_neg h2]
    simp
  · rw [if_neg h1, if_pos h2, if_neg h1, if_pos h2, h2]
    simp
    omega
  · rw [if_neg h1, if_neg h2, if_neg h1, if_neg h2]
    simp
theorem balM_get (l : List Ent) (a : Int) : (mget (balM l) a).getD 0 = bal l a := by
  have go : ∀ (l : List Ent) (m : List (Int × Int)), (mget (l.foldl balStep m) a).getD 0 = (mget m a).getD 0 + bal l a := by
    intro l
    induction l with
    | nil => intro m; simp [bal]
    | cons e l ih =>
      intro m
      rw [List.foldl_cons, ih, balStep_get]
      show _ = _ + (_ + bal l a)
      omega
  have := go l []
  unfold balM
  rw [this]
  simp [mget]
theorem balM_key (l : List Ent) (a : Int) : a ∈ (balM l).map (·.1) ↔ ∃ e ∈ l, e.frm = a ∨ e.to = a := by
  have go : ∀ (l : List Ent) (m : List (Int × Int)), a ∈ (l.foldl balStep m).map (·.1) ↔ a ∈ m.map (·.1) ∨ ∃ e ∈ l, e.frm = a ∨ e.to = a := by
    intro l
    induction l with
    | nil => intro m; simp
    | cons e l ih =>
      intro m
      rw [List.foldl_cons, ih]
      unfold balStep
      rw [mset_key, mset_key]
      constructor
      · rintro ((h | h | h) | ⟨x, hx, h⟩)
        · exact .inr ⟨e, List.mem_cons_self, .inr h.symm⟩
        · exact .inr ⟨e, List.mem_cons_self, .inl h.symm⟩
        · exact .inl h
        · exact .inr ⟨x, List.mem_cons_of_mem _ hx, h⟩
      · rintro (h | ⟨x, hx, h⟩)
        · exact .inl (.inr (.inr h))
        · rcases List.mem_cons.1 hx with e' | hx
          · subst e'
            rcases h with h | h
            · exact .inl (.inr (.inl h.symm))
            · exact .inl (.inl h.symm)
          · exact .inr ⟨x, hx, h⟩
  have := go l []
  unfold balM
  rw [this]
  simp
theorem mset_len {V : Type} : ∀ (m : List (Int × V)) (k : Int) (x : V), (mset m k x).length ≤ m.length + 1
  | [], _, _ => Nat.le_refl _
  | (a, v) :: m, k, x => by
    unfold mset
    split
    · simp
    · have := mset_len m k x
      simp
      omega
theorem balM_len (l : List Ent) : (balM l).length ≤ 2 * l.length := by
  have go : ∀ (l : List Ent) (m : List (Int × Int)), (l.foldl balStep m).length ≤ m.length + 2 * l.length := by
    intro l
    induction l with
    | nil => intro m; simp
    | cons e l ih =>
      intro m
      rw [List.foldl_cons]
      have h1 := ih (balStep m e)
      have h2 : (balStep m e).length ≤ m.length + 2 := by
        unfold balStep
        have a1 := mset_len (mset m e.frm ((mget m e.frm).getD 0 - e.amt)) e.to ((mget (mset m e.frm ((mget m e.frm).getD 0 - e.amt)) e.to).getD 0 + e.amt)
        have a2 := mset_len m e.frm ((mget m e.frm).getD 0 - e.amt)
        omega
      rw [List.length_cons]
      omega
  have := go l []
  simpa [balM] using this

def balO (l : List Ent) (a : Int) : Int := if validB l = true then bal l a else 0
def accM (l : List Ent) : List (Int × Int) := if validB l = true then balM l else []
def accL (l : List Ent) : List Int := keysI (accM l)
theorem accM_get (l : List Ent) (a : Int) : (mget (accM l) a).getD 0 = balO l a := by
  unfold accM balO
  split
  · exact balM_get l a
  · rfl
theorem keysI_len {V : Type} (es : List (Int × V)) : (keysI es).length = es.length := by
  unfold keysI
  rw [List.length_mergeSort, List.length_map]
theorem accL_len (l : List Ent) : (accL l).length ≤ 2 * l.length := by
  unfold accL
  rw [keysI_len]
  unfold accM
  split
  · exact balM_len l
  · exact Nat.zero_le _

/-- The sum of the balances of some accounts. -/
def sumB (l : List Ent) (ks : List Int) : Int := (ks.map (bal l)).foldr (· + ·) 0
/-! ### Posting -/
/-- The place of the first with the number, or the length. -/
def placeE (l : List Ent) (i : Int) : Nat := l.findIdx (fun x => decide (x.id = i))
/-- The error that Post returns. -/
def postE (l : List Ent) (e : Ent) : Int :=
  if (!validB l || !rightE e) = true then 1
  else if placeE l e.id < l.length then (if l.getD (placeE l e.id) e0 = e then 5 else 24)
  else if validB (l ++ [e]) = true then 0 else 6

end Go.Proofs.YtjlnaogechkjdaaGreatDoor


namespace Go.Proofs.YtjlnaogechkjdaaGreatDoor
open Go.Own
set_option maxHeartbeats 1000000

theorem validB_iff {l : List Ent} : validB l = true ↔ l.length ≤ 10000 ∧ OkL l := by
  unfold validB
  rw [Bool.and_eq_true, decide_eq_true_eq, decide_eq_true_eq]
/-! ### LedgerSums -/
theorem placeE_lt {l : List Ent} {i : Int} : placeE l i < l.length ↔ ∃ x ∈ l, x.id = i := by
  unfold placeE
  rw [List.findIdx_lt_length]
  simp
/-! ### LedgerOnce -/
def sameB (l : List Ent) (x : Ent) : Bool := l.any (fun y => decide (y = x))
def otherB (l : List Ent) (x : Ent) : Bool := l.any (fun y => decide (y.id = x.id) && !decide (y = x))
/-! ### LedgerTurns -/
theorem valid_left {a b : List Ent} (h : validB (a ++ b) = true) : validB a = true ∧ validB b = true := by
  rw [validB_iff] at h
  rw [List.length_append] at h
  exact ⟨validB_iff.2 ⟨by omega, h.2.left⟩, validB_iff.2 ⟨by omega, h.2.rightPart⟩⟩
end Go.Proofs.YtjlnaogechkjdaaGreatDoor


namespace Go.Proofs.YtjlnaogechkjdaaGreatDoor
open Go.Own
def isErr (cs : Array Value) : Prop := ∃ te pe, cs[0]? = some (.iface te pe)
/-- The listed package-level variables that the walks look at. -/
instance : Tabs := ⟨fun g => match g with
  | 2 => some isErr
  | 3 => some isErr
  | 0 => some fun cs => cs = (Lib.pow10Tab.map fun z => Value.int .u64 z).toArray
  | _ => none⟩
/-- What is told of the types. -/
def tab : Tab := [
  (3, { desc := .int .i64, size := 1, bytes := 8, zero := .int .i64 0 }),
  (4, { desc := .bool, size := 1, bytes := 1, zero := .bool false }),
  (5, { desc := .int .u8, size := 1, bytes := 1, zero := .int .u8 0 }),
  (9, { desc := .string, size := 1, bytes := 16, zero := .string ⟨#[]⟩ }),
  (22, { desc := .slice 33, size := 1, bytes := 24, zero := .slice none 0 0 }),
  (23, { desc := .slice 41, size := 1, bytes := 24, zero := .slice none 0 0 }),
  (26, { desc := .int .i64, size := 1, bytes := 8, zero := .int .i64 0 }),
  (33, { desc := .struct #[{ name := "Id", type := 3, offset := 0, embedded := false, tag := "", pkgPath := "", byteOffset := 0 }, { name := "Day", type := 3, offset := 1, embedded := false, tag := "", pkgPath := "", byteOffset := 8 }, { name := "From", type := 3, offset := 2, embedded := false, tag := "", pkgPath := "", byteOffset := 16 }, { name := "To", type := 3, offset := 3, embedded := false, tag := "", pkgPath := "", byteOffset := 24 }, { name := "Amount", type := 3, offset := 4, embedded := false, tag := "", pkgPath := "", byteOffset := 32 }], size := 5, bytes := 40, zero := .agg #[.int .i64 0, .int .i64 0, .int .i64 0, .int .i64 0, .int .i64 0] }),
  (34, { desc := .slice 3, size := 1, bytes := 24, zero := .slice none 0 0 }),
  (41, { desc := .struct #[{ name := "From", type := 3, offset := 0, embedded := false, tag := "", pkgPath := "", byteOffset := 0 }, { name := "To", type := 3, offset := 1, embedded := false, tag := "", pkgPath := "", byteOffset := 8 }, { name := "Seq", type := 3, offset := 2, embedded := false, tag := "", pkgPath := "", byteOffset := 16 }, { name := "Entry", type := 3, offset := 3, embedded := false, tag := "", pkgPath := "", byteOffset := 24 }], size := 4, bytes := 32, zero := .agg #[.int .i64 0, .int .i64 0, .int .i64 0, .int .i64 0] }),
  (42, { desc := .pointer 73, size := 1, bytes := 8, zero := .pointer none }),
  (45, { desc := .struct #[{ name := "Key", type := 3, offset := 0, embedded := false, tag := "", pkgPath := "", byteOffset := 0 }, { name := "Text", type := 9, offset := 1, embedded := false, tag := "", pkgPath := "", byteOffset := 8 }, { name := "Mark", type := 3, offset := 2, embedded := false, tag := "", pkgPath := "", byteOffset := 24 }], size := 3, bytes := 32, zero := .agg #[.int .i64 0, .string ⟨#[]⟩, .int .i64 0] }),
  (49, { desc := .array 2 22, size := 2, bytes := 48, zero := .agg #[.slice none 0 0, .slice none 0 0] }),
  (50, { desc := .map 3 4, size := 1, bytes := 8, zero := .map none }),
  (51, { desc := .array 2 50, size := 2, bytes := 16, zero := .agg #[.map none, .map none] }),
  (55, { desc := .map 3 33, size := 1, bytes := 8, zero := .map none }),
  (57, { desc := .array 2 55, size := 2, bytes := 16, zero := .agg #[.map none, .map none] }),
  (60, { desc := .func #[33, 33] #[3] false, size := 1, bytes := 8, zero := .nilFunc }),
  (66, { desc := .func #[74] #[] false, size := 1, bytes := 8, zero := .nilFunc }),
  (68, { desc := .map 3 3, size := 1, bytes := 8, zero := .map none }),
  (70, { desc := .map 76 3, size := 1, bytes := 8, zero := .map none }),
  (71, { desc := .slice 76, size := 1, bytes := 24, zero := .slice none 0 0 }),
  (73, { desc := .struct #[{ name := "entries", type := 71, offset := 0, embedded := false, tag := "", pkgPath := "consol/seal", byteOffset := 0 }, { name := "marks", type := 70, offset := 1, embedded := false, tag := "", pkgPath := "consol/seal", byteOffset := 24 }], size := 2, bytes := 32, zero := .agg #[.slice none 0 0, .map none] }),
  (74, { desc := .func #[3] #[4] false, size := 1, bytes := 8, zero := .nilFunc }),
  (76, { desc := .struct #[{ name := "Key", type := 3, offset := 0, embedded := false, tag := "", pkgPath := "", byteOffset := 0 }, { name := "Text", type := 9, offset := 1, embedded := false, tag := "", pkgPath := "", byteOffset := 8 }], size := 2, bytes := 24, zero := .agg #[.int .i64 0, .string ⟨#[]⟩] }),
  (78, { desc := .func #[33] #[4] false, size := 1, bytes := 8, zero := .nilFunc }),
  (90, { desc := .pointer 3, size := 1, bytes := 8, zero := .pointer none }),
  (91, { desc := .slice 90, size := 1, bytes := 24, zero := .slice none 0 0 }),
  (98, { desc := .int .u64, size := 1, bytes := 8, zero := .int .u64 0 }),
  (100, { desc := .struct #[{ name := "rest", type := 9, offset := 0, embedded := false, tag := "", pkgPath := "consol/wire", byteOffset := 0 }, { name := "bad", type := 4, offset := 1, embedded := false, tag := "", pkgPath := "consol/wire", byteOffset := 16 }], size := 2, bytes := 24, zero := .agg #[.string ⟨#[]⟩, .bool false] }),
  (131, { desc := .slice 5, size := 1, bytes := 24, zero := .slice none 0 0 }),
  (116, { desc := .interface #[("Error", 158)], size := 1, bytes := 16, zero := .nilIface })]

theorem tabOk : TabOk Tryz.prog tab := tabOk_of ⟨by kernel_rfl, by kernel_rfl, by kernel_rfl, by kernel_rfl, by kernel_rfl, by kernel_rfl, by kernel_rfl, by kernel_rfl, by kernel_rfl, by kernel_rfl, by kernel_rfl, by kernel_rfl, by kernel_rfl, by kernel_rfl, by kernel_rfl, by kernel_rfl, by kernel_rfl, by kernel_rfl, by kernel_rfl, by kernel_rfl, by kernel_rfl, by kernel_rfl, by kernel_rfl, by kernel_rfl, by kernel_rfl, by kernel_rfl, by kernel_rfl, by kernel_rfl, by kernel_rfl, by kernel_rfl, by kernel_rfl, by kernel_rfl, trivial⟩

theorem mixed : Tryz.prog.follows .mixedOrders = true := by kernel_rfl

noncomputable abbrev cx (N : Nat) (keep : List Nat) : Cx := ⟨Tryz.prog, tab, N, keep, 0, false⟩
theorem cxOk (N : Nat) (keep : List Nat) : CxOk (cx N keep) := ⟨tabOk, mixed⟩
noncomputable abbrev cxP (pn N : Nat) (keep : List Nat) : Cx := ⟨Tryz.prog, tab, N, keep, pn, false⟩
theorem cxPOk (pn N : Nat) (keep : List Nat) : CxOk (cxP pn N keep) := ⟨tabOk, mixed⟩
noncomputable abbrev cxW (N : Nat) (keep : List Nat) : Cx := ⟨Tryz.prog, tab, N, keep, 0, true⟩
def encI (n : Int) : AV := .int .i64 n
def encIs (l : List Int) : AV := .sl 1 encI 0 l
def encB (b : Bool) : AV := .bool b
def celE (e : Ent) : List AV := [.int .i64 e.id, .int .i64 e.day, .int .i64 e.frm, .int .i64 e.to, .int .i64 e.amt]
def encE (e : Ent) : AV := .agg [.int .i64 e.id, .int .i64 e.day, .int .i64 e.frm, .int .i64 e.to, .int .i64 e.amt]
def encEs (l : List Ent) : AV := .sl 5 encE e0 l

/-- A message. -/
structure Msg where
  frm : Int
  to : Int
  seq : Int
  entry : Int
deriving DecidableEq
def m0 : Msg := ⟨0, 0, 0, 0⟩
instance : Inhabited Msg := ⟨m0⟩
def encM (m : Msg) : AV := .agg [.int .i64 m.frm, .int .i64 m.to, .int .i64 m.seq, .int .i64 m.entry]
def encMs (l : List Msg) : AV := .sl 4 encM m0 l
set_option maxHeartbeats 4000000
set_option maxRecDepth 100000

def cmpI (a b : Int) : Int := if a < b then -1 else if b < a then 1 else 0
theorem nan_ok (a : Int) : APureV Tryz.prog 33 [.int .i64 a] (.bool false) := by
  refine apure_of (C := cx 6 [0, 2]) (cxOk _ _) Tryz.func33 rfl (by decide) rfl (by exact Nat.le_of_ble_eq_true rfl) (by decide) ?_
  conv => whnf
  simp
theorem cmpI_ok (a b : Int) : APureV Tryz.prog 21 [.int .i64 a, .int .i64 b] (.int .i64 (cmpI a b)) := by
  have h1 := nan_ok a
  have h2 := nan_ok b
  refine apure_of (C := cx 20 [0, 1, 4, 5, 6, 11, 12, 13, 16, 19]) (cxOk _ _) Tryz.func21 rfl (by decide) rfl (by exact Nat.le_of_ble_eq_true rfl) (by decide) ?_
  conv => whnf
  refine .one _ _ _ (fun _ => h1) (by repeat (first | exact .nil | (apply BorL.cons; first | exact lS rfl | exact lR rfl | exact lM rfl rfl | exact lL rfl | exact lX rfl | exact lN | exact lNl | exact lSm rfl | exact lIm rfl | exact lGm rfl | exact lP rfl | exact lQ rfl | exact lB rfl rfl rfl))) (by first | exact .inl rfl | exact .inr (by repeat (first | exact flats_nil | refine flats_cons (by first | exact flat_val _ rfl | exact flat_row (fun _ => rfl) | exact flat_lst (fun _ => rfl)) ?_))) (by first | exact .inr rfl | exact .inl rfl) ?_
  conv => whnf
  refine .one _ _ _ (fun _ => h2) (by repeat (first | exact .nil | (apply BorL.cons; first | exact lS rfl | exact lR rfl | exact lM rfl rfl | exact lL rfl | exact lX rfl | exact lN | exact lNl | exact lSm rfl | exact lIm rfl | exact lGm rfl | exact lP rfl | exact lQ rfl | exact lB rfl rfl rfl))) (by first | exact .inl rfl | exact .inr (by repeat (first | exact flats_nil | refine flats_cons (by first | exact flat_val _ rfl | exact flat_row (fun _ => rfl) | exact flat_lst (fun _ => rfl)) ?_))) (by first | exact .inr rfl | exact .inl rfl) ?_
  conv => whnf
  refine ⟨fun h => (by cases h), fun _ => ?_⟩
  conv => whnf
  refine ⟨fun h => (by cases h), fun _ => ?_⟩
  conv => whnf
  unfold cmpI
  refine ⟨fun h => ?_, fun h => ?_⟩
  · simp only [decide_eq_true_eq] at h
    conv => whnf
    rw [if_pos h]
    rfl
  · simp only [decide_eq_false_iff_not] at h
    rw [if_neg h]
    conv => whnf
    refine ⟨fun hb => ?_, fun hb => ?_⟩
    · simp only [gt_iff_lt, decide_eq_true_eq] at hb
      conv => whnf
      rw [if_pos hb]
      rfl
    · simp only [gt_iff_lt, decide_eq_false_iff_not] at hb
      rw [if_neg hb]
      conv => whnf
      rfl
/-- How two entries are compared. -/
theorem byId_ok (x y : Ent) : APureV Tryz.prog 20 [encE x, encE y] (.int .i64 (cmpI x.id y.id)) := by
  refine apure_of (C := cx 10 [0, 1, 2, 3, 4]) (cxOk _ _) Tryz.func20 rfl (by decide) rfl (by exact Nat.le_of_ble_eq_true rfl) (by decide) ?_
  conv => whnf
  refine .one _ _ _ (fun _ => cmpI_ok x.id y.id) (by repeat (first | exact .nil | (apply BorL.cons; first | exact lS rfl | exact lR rfl | exact lM rfl rfl | exact lL rfl | exact lX rfl | exact lN | exact lNl | exact lSm rfl | exact lIm rfl | exact lGm rfl | exact lP rfl | exact lQ rfl | exact lB rfl rfl rfl))) (by first | exact .inl rfl | exact .inr (by repeat (first | exact flats_nil | refine flats_cons (by first | exact flat_val _ rfl | exact flat_row (fun _ => rfl) | exact flat_lst (fun _ => rfl)) ?_))) (by first | exact .inr rfl | exact .inl rfl) ?_
  conv => whnf
  rfl

end Go.Proofs.YtjlnaogechkjdaaGreatDoor


namespace Go.Proofs.YtjlnaogechkjdaaGreatDoor
open Go.Own
set_option maxHeartbeats 4000000
set_option maxRecDepth 100000

theorem within_ok (n a b : Int) : APureV Tryz.prog 41 [.int .i64 n, .int .i64 a, .int .i64 b] (.bool (inB n a b)) := by
  refine apure_of (C := cx 15 [0, 1, 2, 6]) (cxOk _ _) Tryz.func41 rfl (by decide) rfl (by exact Nat.le_of_ble_eq_true rfl) (by decide) ?_
  conv => whnf
  rfl
theorem right_ok (e : Ent) : APureV Tryz.prog 29 [encE e] (.bool (rightE e)) := by
  have h1 := within_ok e.id 0 1000000000000000
  have h2 := within_ok e.day 0 200000
  have h3 := within_ok e.frm 0 99999
  have h4 := within_ok e.to 0 99999
  have h5 := within_ok e.amt 1 1000000000000000
  refine apure_of (C := cx 33 [0, 1, 2]) (cxOk _ _) Tryz.func29 rfl (by decide) rfl (by exact Nat.le_of_ble_eq_true rfl) (by decide) ?_
  conv => whnf
  refine .one _ _ _ (fun _ => h1) (by repeat (first | exact .nil | (apply BorL.cons; first | exact lS rfl | exact lR rfl | exact lM rfl rfl | exact lL rfl | exact lX rfl | exact lN | exact lNl | exact lSm rfl | exact lIm rfl | exact lGm rfl | exact lP rfl | exact lQ rfl | exact lB rfl rfl rfl))) (by first | exact .inl rfl | exact .inr (by repeat (first | exact flats_nil | refine flats_cons (by first | exact flat_val _ rfl | exact flat_row (fun _ => rfl) | exact flat_lst (fun _ => rfl)) ?_))) (by first | exact .inr rfl | exact .inl rfl) ?_
  conv => whnf
  refine .one _ _ _ (fun _ => h2) (by repeat (first | exact .nil | (apply BorL.cons; first | exact lS rfl | exact lR rfl | exact lM rfl rfl | exact lL rfl | exact lX rfl | exact lN | exact lNl | exact lSm rfl | exact lIm rfl | exact lGm rfl | exact lP rfl | exact lQ rfl | exact lB rfl rfl rfl))) (by first | exact .inl rfl | exact .inr (by repeat (first | exact flats_nil | refine flats_cons (by first | exact flat_val _ rfl | exact flat_row (fun _ => rfl) | exact flat_lst (fun _ => rfl)) ?_))) (by first | exact .inr rfl | exact .inl rfl) ?_
  conv => whnf
  refine .one _ _ _ (fun _ => h3) (by repeat (first | exact .nil | (apply BorL.cons; first | exact lS rfl | exact lR rfl | exact lM rfl rfl | exact lL rfl | exact lX rfl | exact lN | exact lNl | exact lSm rfl | exact lIm rfl | exact lGm rfl | exact lP rfl | exact lQ rfl | exact lB rfl rfl rfl))) (by first | exact .inl rfl | exact .inr (by repeat (first | exact flats_nil | refine flats_cons (by first | exact flat_val _ rfl | exact flat_row (fun _ => rfl) | exact flat_lst (fun _ => rfl)) ?_))) (by first | exact .inr rfl | exact .inl rfl) ?_
  conv => whnf
  refine .one _ _ _ (fun _ => h4) (by repeat (first | exact .nil | (apply BorL.cons; first | exact lS rfl | exact lR rfl | exact lM rfl rfl | exact lL rfl | exact lX rfl | exact lN | exact lNl | exact lSm rfl | exact lIm rfl | exact lGm rfl | exact lP rfl | exact lQ rfl | exact lB rfl rfl rfl))) (by first | exact .inl rfl | exact .inr (by repeat (first | exact flats_nil | refine flats_cons (by first | exact flat_val _ rfl | exact flat_row (fun _ => rfl) | exact flat_lst (fun _ => rfl)) ?_))) (by first | exact .inr rfl | exact .inl rfl) ?_
  conv => whnf
  refine .one _ _ _ (fun _ => h5) (by repeat (first | exact .nil | (apply BorL.cons; first | exact lS rfl | exact lR rfl | exact lM rfl rfl | exact lL rfl | exact lX rfl | exact lN | exact lNl | exact lSm rfl | exact lIm rfl | exact lGm rfl | exact lP rfl | exact lQ rfl | exact lB rfl rfl rfl))) (by first | exact .inl rfl | exact .inr (by repeat (first | exact flats_nil | refine flats_cons (by first | exact flat_val _ rfl | exact flat_row (fun _ => rfl) | exact flat_lst (fun _ => rfl)) ?_))) (by first | exact .inr rfl | exact .inl rfl) ?_
  conv => whnf
  rfl
theorem clone_ok (l : List Ent) (hl : l.length ≤ 1000000) : APure Tryz.prog 37 [encEs l] (fun rs => rs = [.new (.row 33 5 encE e0 l)]) := by
  have h : APure Tryz.prog 37 [encEs l] (fun rs => rs = [.new (.row 33 5 encE e0 l)] ∨ l = [] ∧ rs = [.val .nils]) := by
    refine apure_of (C := cx 8 [0, 2, 4]) (cxOk _ _) Tryz.func37 rfl (by decide) rfl (by exact Nat.le_of_ble_eq_true rfl) (by decide) ?_
    conv => whnf
    intro b hb
    conv => whnf
    refine ⟨fun hc => ?_, fun hc => ?_⟩
    · conv => whnf
      exact .inr ⟨hb hc, rfl⟩
    · conv => whnf
      refine And.intro rfl ?_
      conv => whnf
      refine ⟨⟨rfl, rfl⟩, (show (0 + l.length) * 40 ≤ 140737488355328 by omega), ?_⟩
      conv => whnf
      exact .inl rfl
  refine h.le fun rs hrs => ?_
  rcases hrs with rfl | ⟨rfl, rfl⟩
  · exact ⟨_, rfl, rfl, fun j r r' h1 h2 => by
      cases j with
      | zero => simp at h1 h2; subst h1; subst h2; exact .same _
      | succ j => simp at h1⟩
  · exact ⟨_, rfl, rfl, fun j r r' h1 h2 => by
      cases j with
      | zero => simp at h1 h2; subst h1; subst h2; exact .nil _ _ _ _
      | succ j => simp at h1⟩
def seenM (l : List Ent) : List (Int × Bool) := l.foldl (fun m e => mset m e.id true) []
theorem seenM_snoc (l : List Ent) (e : Ent) : seenM (l ++ [e]) = mset (seenM l) e.id true := by
  unfold seenM
  rw [List.foldl_append]
  rfl
theorem seen_get (l : List Ent) (i : Int) : (mget (seenM l) i).getD false = true ↔ ∃ x ∈ l, x.id = i := by
  have go : ∀ (l : List Ent) (m : List (Int × Bool)), (mget (l.foldl (fun m e => mset m e.id true) m) i).getD false = true ↔ (mget m i).getD false = true ∨ ∃ x ∈ l, x.id = i := by
    intro l
    induction l with
    | nil => intro m; simp
    | cons e l ih =>
      intro m
      rw [List.foldl_cons, ih, mget_mset]
      by_cases h : e.id = i
      · rw [if_pos h]
        exact ⟨fun _ => .inr ⟨e, List.mem_cons_self, h⟩, fun _ => .inl rfl⟩
      · rw [if_neg h]
        constructor
        · rintro (h1 | ⟨x, hx, h1⟩)
          · exact .inl h1
          · exact .inr ⟨x, List.mem_cons_of_mem _ hx, h1⟩
        · rintro (h1 | ⟨x, hx, h1⟩)
          · exact .inl h1
          · rcases List.mem_cons.1 hx with e' | hx
            · subst e'; exact absurd h1 h
            · exact .inr ⟨x, hx, h1⟩
  have := go l []
  unfold seenM
  rw [this]
  simp [mget]
theorem seenM_len (l : List Ent) : (seenM l).length ≤ l.length := by
  have go : ∀ (l : List Ent) (m : List (Int × Bool)), (l.foldl (fun m e => mset m e.id true) m).length ≤ m.length + l.length := by
    intro l
    induction l with
    | nil => intro m; simp
    | cons e l ih =>
      intro m
      rw [List.foldl_cons, List.length_cons]
      have h1 := ih (mset m e.id true)
      have h2 := mset_len m e.id true
      omega
  simpa [seenM] using go l []
/-- One entry more. -/
def badE (l : List Ent) (k : Nat) : Bool := (!rightE (l.getD k e0) || (mget (seenM (l.take k)) (l.getD k e0).id).getD false) || decide (4000000000000000000 - sumA (l.take k) < (l.getD k e0).amt)
theorem okL_step {l : List Ent} {k : Nat} (hk : k < l.length) (h : OkL (l.take k)) : (badE l k = false → OkL (l.take (k + 1))) ∧ (badE l k = true → ¬ OkL l) := by
  have hs : OkL (l.take (k + 1)) ↔ badE l k = false := by
    rw [take_getD (d := e0) hk, OkL.snoc]
    unfold badE
    rw [Bool.or_eq_false_iff, Bool.or_eq_false_iff, Bool.not_eq_false', decide_eq_false_iff_not]
    constructor
    · rintro ⟨_, h1, h2, h3⟩
      refine ⟨⟨h1, ?_⟩, by omega⟩
      cases hm : (mget (seenM (l.take k)) (l.getD k e0).id).getD false with
      | false => rfl
      | true =>
        obtain ⟨x, hx, he⟩ := (seen_get _ _).1 hm
        exact absurd he (h2 x hx)
    · rintro ⟨⟨h1, h2⟩, h3⟩
      refine ⟨h, h1, fun x hx he => ?_, by omega⟩
      rw [(seen_get _ _).2 ⟨x, hx, he⟩] at h2
      cases h2
  refine ⟨hs.2, fun hb ho => ?_⟩
  rw [← List.take_append_drop (k + 1) l] at ho
  rw [hs.1 ho.left] at hb
  cases hb
theorem valid_ok (l : List Ent) (hl : l.length ≤ 9223372036854775807) : APureV Tryz.prog 18 [encEs l] (.bool (validB l)) := by
  have hv1 : 10000 < (l.length : Int) → validB l = false := fun h => by
    unfold validB
    rw [decide_eq_false (show ¬ l.length ≤ 10000 by omega)]
    rfl
  have hv2 : ¬ 10000 < (l.length : Int) → (OkL l → validB l = true) ∧ (¬ OkL l → validB l = false) := fun h => by
    unfold validB
    rw [decide_eq_true (show l.length ≤ 10000 by omega)]
    exact ⟨fun h => by rw [decide_eq_true h]; rfl, fun h => by rw [decide_eq_false h]; rfl⟩
  generalize validB l = vb at *
  refine apure_of (C := cx 40 [0, 2, 3, 4, 6, 9, 11, 12, 13, 14, 31]) (cxOk _ _) Tryz.func18 rfl (by decide) rfl (by exact Nat.le_of_ble_eq_true rfl) (by decide) ?_
  conv => whnf
  refine ⟨fun ha => ?_, fun ha => ?_⟩
  · have ha' : decide (10000 < (l.length : Int)) = true := ha
    rw [hv1 (of_decide_eq_true ha')]
    conv => whnf
    rfl
  have ha' : decide (10000 < (l.length : Int)) = false := ha
  obtain ⟨v1, v2⟩ := hv2 (of_decide_eq_false ha')
  simp only [decide_eq_false_iff_not] at ha'
  clear hv1 hv2
  conv => whnf
  refine loop_up (cxOk _ _) l.length (fun k => OkL (l.take k)) (fun k => ⟨[(3, .map 0), (4, .int .i64 (4000000000000000000 - sumA (l.take k))), (11, encEs l), (12, .int .i64 l.length), (13, .int .i64 (k : Nat))], [(0, .imap .i64 encB false (seenM (l.take k)))], 1⟩) okL_nil ((wk_of [(0, .id 0)] rfl ⟨.base (.map _ _ rfl), .base (.tree _ _ rfl rfl), .base (.tree _ _ rfl rfl), .base (.tree _ _ rfl rfl), .base (.tree _ _ rfl rfl), trivial⟩ ⟨⟨_, rfl, (by first | exact .imap _ _ _ _ _ _ rfl rfl | exact .newimap _ _ _ _ _ _ _ _ rfl rfl rfl)⟩, trivial⟩)) ?_
  intro k hk hP
  conv => whnf
  refine ⟨fun hc => ?_, fun hc => ?_⟩
  · simp only [decide_eq_true_eq] at hc
    have hlt : k < l.length := by omega
    obtain ⟨b1, b2⟩ := okL_step hlt hP
    have hck : l.getD (k : Int).toNat e0 = l.getD k e0 := by rw [Int.toNat_natCast]
    have hse : seenM (l.take (k + 1)) = mset (seenM (l.take k)) (l.getD k e0).id true := by rw [take_getD (d := e0) hlt, seenM_snoc]
    have hsu : sumA (l.take (k + 1)) = sumA (l.take k) + (l.getD k e0).amt := by
      rw [take_getD (d := e0) hlt, sumA_append]
      simp [sumA]
    have hs0 := sumA_ge hP.right
    have hs1 := hP.sum
    have hlm := seenM_len (l.take k)
    rw [List.length_take] at hlm
    have hr := right_ok (l.getD k e0)
    unfold badE at b1 b2
    generalize l.getD k e0 = e at *
    generalize hM' : seenM (l.take (k + 1)) = M' at *
    generalize hs' : sumA (l.take (k + 1)) = s' at *
    generalize hM : seenM (l.take k) = M at *
    generalize sumA (l.take k) = s at *
    conv => whnf
    refine And.intro ⟨by omega, by omega⟩ ?_; conv => whnf
    refine And.intro rfl ?_; conv => whnf
    rw [hck]
    refine .one _ _ _ (fun _ => hr) (by repeat (first | exact .nil | (apply BorL.cons; first | exact lS rfl | exact lR rfl | exact lM rfl rfl | exact lL rfl | exact lX rfl | exact lN | exact lNl | exact lSm rfl | exact lIm rfl | exact lGm rfl | exact lP rfl | exact lQ rfl | exact lB rfl rfl rfl))) (by first | exact .inl rfl | exact .inr (by repeat (first | exact flats_nil | refine flats_cons (by first | exact flat_val _ rfl | exact flat_row (fun _ => rfl) | exact flat_lst (fun _ => rfl)) ?_))) (by first | exact .inr rfl | exact .inl rfl) ?_
    conv => whnf
    refine And.intro rfl ?_; conv => whnf
    refine ⟨fun hd => ?_, fun hd => ?_⟩
    · rw [v2 (b2 hd)]
      conv => whnf
      rfl
    · have hd' : (!rightE e || (mget M e.id).getD false || decide (4000000000000000000 - s < e.amt)) = false := hd
      have hok := b1 hd'
      rw [Bool.or_eq_false_iff, Bool.or_eq_false_iff, Bool.not_eq_false', decide_eq_false_iff_not] at hd'
      have hre := (rightE_iff.1 hd'.1.1).2.2.2.2.2
      conv => whnf
      refine Exists.intro _ (And.intro rfl ?_); conv => whnf
      refine And.intro ⟨by omega, by omega⟩ ?_; conv => whnf
      refine And.intro ⟨by omega, by omega⟩ ?_; conv => whnf
      refine up hlt hok ((wk_of [(0, .id 0)] rfl ⟨.base (.map _ _ rfl), .base (.tree _ _ (show AV.int .i64 _ = AV.int .i64 _ by congr 1; omega) rfl), .base (.tree _ _ rfl rfl), .base (.tree _ _ rfl rfl), .base (.tree _ _ rfl rfl), trivial⟩ ⟨⟨_, rfl, (by first | exact .imap _ _ _ _ _ _ rfl (hse.symm.trans hM'.symm) | exact .newimap _ _ _ _ _ _ _ _ rfl rfl (hse.symm.trans hM'.symm))⟩, trivial⟩))
  · simp only [decide_eq_false_iff_not] at hc
    rw [List.take_of_length_le (by omega)] at hP
    rw [v1 hP]
    conv => whnf
    rfl
theorem postfn_ok (x e : Ent) : APureV Tryz.prog 36 [encE x, .rop (celE e)] (.bool (decide (x.id = e.id))) := by
  refine apure_of (C := cx 9 [0, 1, 2, 3]) (cxOk _ _) Tryz.func36 rfl (by decide) rfl (by exact Nat.le_of_ble_eq_true rfl) (by decide) ?_
  conv => whnf
  rfl
/-- The place of the first one, or -1. -/
def firstI {T : Type} (p : T → Bool) (l : List T) : Int := if l.findIdx p < l.length then (l.findIdx p : Int) else -1
theorem firstI_at {T : Type} [Inhabited T] {p : T → Bool} {l : List T} {k : Nat} {d : T} (hk : k < l.length) (h : p (l.getD k d) = true) (hP : (l.take k).any p = false) : firstI p l = k := by
  have hg : l.getD k d = l[k] := by rw [List.getD_eq_getElem?_getD, List.getElem?_eq_getElem hk]; rfl
  have : l.findIdx p = k := by
    rw [List.findIdx_eq hk]
    refine ⟨by rw [← hg]; exact h, fun j hj => ?_⟩
    have := List.any_eq_false.1 hP l[j] (by
      rw [List.mem_take_iff_getElem]
      exact ⟨j, by omega, rfl⟩)
    simpa using this
  unfold firstI
  rw [this, if_pos hk]
theorem firstI_none {T : Type} {p : T → Bool} {l : List T} (h : l.any p = false) : firstI p l = -1 := by
  unfold firstI
  rw [if_neg]
  intro hlt
  have := List.findIdx_getElem (w := hlt)
  have h2 := List.any_eq_false.1 h _ (List.getElem_mem hlt)
  exact h2 this
theorem any_take_succ {T : Type} {p : T → Bool} {l : List T} {k : Nat} {d : T} (hk : k < l.length) (hP : (l.take k).any p = false) (h : p (l.getD k d) = false) : (l.take (k + 1)).any p = false := by
  rw [take_getD (d := d) hk, List.any_append, hP]
  simpa using h
theorem index_ok (l : List Ent) (hl : l.length ≤ 9223372036854775807) (n : Nat) (c1 : List AV) (p : Ent → Bool) (hp : ∀ x ∈ l, APureV Tryz.prog n [encE x, .rop c1] (.bool (p x))) :
    APureV Tryz.prog 35 [encEs l, .fn (.func n) [] [.rop c1]] (.int .i64 (firstI p l)) := by
  refine apure_of (C := cx 19 [0, 1, 4, 5, 7, 8, 9, 16]) (cxOk _ _) Tryz.func35 rfl (by decide) rfl (by exact Nat.le_of_ble_eq_true rfl) (by decide) ?_
  conv => whnf
  refine loop_up (cxOk _ _) l.length (fun k => (l.take k).any p = false) (fun k => ⟨[(0, encEs l), (1, .fn (.func n) [] [.rop c1]), (7, .int .i64 l.length), (8, .int .i64 (k : Nat))], [], 0⟩) (by simp) (wk_of [] rfl ⟨.base (.tree _ _ rfl rfl), .fn _ _ _ _ _ (by repeat (first | exact .nil | refine .cons (by first | exact .tree _ _ rfl rfl | exact .ptr _ _ _ rfl | exact .own _ _ rfl) ?_)) (by repeat (first | exact .nil | refine .cons (by first | exact .tree _ _ rfl rfl | exact .ptr _ _ _ rfl | exact .own _ _ rfl) ?_)), .base (.tree _ _ rfl rfl), .base (.tree _ _ rfl rfl), trivial⟩ trivial) ?_
  intro k hk hP
  conv => whnf
  refine ⟨fun hc => ?_, fun hc => ?_⟩
  · simp only [decide_eq_true_eq] at hc
    have hlt : k < l.length := by omega
    conv => whnf
    refine And.intro ⟨by omega, by omega⟩ ?_; conv => whnf
    refine And.intro rfl ?_; conv => whnf
    rw [Int.toNat_natCast]
    refine .one _ _ _ (fun _ => hp (l.getD k e0) (getD_mem hlt)) (by repeat (first | exact .nil | (apply BorL.cons; first | exact lS rfl | exact lR rfl | exact lM rfl rfl | exact lL rfl | exact lX rfl | exact lN | exact lNl | exact lSm rfl | exact lIm rfl | exact lGm rfl | exact lP rfl | exact lQ rfl | exact lB rfl rfl rfl))) (by first | exact .inl rfl | exact .inr (by repeat (first | exact flats_nil | refine flats_cons (by first | exact flat_val _ rfl | exact flat_row (fun _ => rfl) | exact flat_lst (fun _ => rfl)) ?_))) (by first | exact .inr rfl | exact .inl rfl) ?_
    conv => whnf
    refine ⟨fun hd => ?_, fun hd => ?_⟩
    · rw [firstI_at hlt hd hP]
      conv => whnf
      rfl
    · conv => whnf
      refine And.intro ⟨by omega, by omega⟩ ?_; conv => whnf
      refine up hlt ?_ (wk_of [] rfl ⟨.base (.tree _ _ rfl rfl), .fn _ _ _ _ _ (by repeat (first | exact .nil | refine .cons (by first | exact .tree _ _ rfl rfl | exact .ptr _ _ _ rfl | exact .own _ _ rfl) ?_)) (by repeat (first | exact .nil | refine .cons (by first | exact .tree _ _ rfl rfl | exact .ptr _ _ _ rfl | exact .own _ _ rfl) ?_)), .base (.tree _ _ rfl rfl), .base (.tree _ _ rfl rfl), trivial⟩ trivial)
      exact any_take_succ hlt hP hd
  · simp only [decide_eq_false_iff_not] at hc
    rw [List.take_of_length_le (by omega)] at hP
    rw [firstI_none hP]
    conv => whnf
    rfl
theorem placeE_firstI (l : List Ent) (i : Int) : firstI (fun x : Ent => decide (x.id = i)) l = if placeE l i < l.length then (placeE l i : Int) else -1 := rfl
def eqE (a b : Ent) : Bool := decide (a.id = b.id) && (decide (a.day = b.day) && (decide (a.frm = b.frm) && (decide (a.to = b.to) && (decide (a.amt = b.amt) && true))))
theorem eqE_iff {a b : Ent} : eqE a b = true ↔ a = b := by
  cases a; cases b
  simp [eqE]
theorem post_ok' (l : List Ent) (hl : l.length ≤ 1000000) (e : Ent) : APure Tryz.prog 24 [encEs l, encE e] (fun rs => rs = [if postE l e = 0 then .new (.row 33 5 encE e0 (l ++ [e])) else .val .nils, .val (.int .i64 (postE l e))]) := by
  have hv := valid_ok l (by omega)
  have hr := right_ok e
  have hix := index_ok l (by omega) 36 (celE e) (fun x => decide (x.id = e.id)) (fun x _ => postfn_ok x e)
  rw [placeE_firstI] at hix
  have hcl := clone_ok l hl
  have hv2 := valid_ok (l ++ [e]) (by simp; omega)
  have hp1 : (!validB l || !rightE e) = true → postE l e = 1 := fun h => by unfold postE; rw [if_pos h]
  have hp2 : (!validB l || !rightE e) = false → postE l e = if placeE l e.id < l.length then (if l.getD (placeE l e.id) e0 = e then 5 else 24) else if validB (l ++ [e]) = true then 0 else 6 := fun h => by
    unfold postE
    rw [if_neg (by rw [h]; exact Bool.noConfusion)]
  generalize postE l e = pe at *
  generalize validB l = vl at *
  generalize rightE e = re at *
  generalize validB (l ++ [e]) = vn at *
  generalize hpl : placeE l e.id = pl at *
  refine apure_of (C := cx 36 [0, 1, 3, 4, 5, 6, 7, 15, 20, 26, 34]) (cxOk _ _) Tryz.func24 rfl (by decide) rfl (by exact Nat.le_of_ble_eq_true rfl) (by decide) ?_
  conv => whnf
  refine .one _ _ _ (fun _ => hv) (by repeat (first | exact .nil | (apply BorL.cons; first | exact lS rfl | exact lR rfl | exact lM rfl rfl | exact lL rfl | exact lX rfl | exact lN | exact lNl | exact lSm rfl | exact lIm rfl | exact lGm rfl | exact lP rfl | exact lQ rfl | exact lB rfl rfl rfl))) (by first | exact .inl rfl | exact .inr (by repeat (first | exact flats_nil | refine flats_cons (by first | exact flat_val _ rfl | exact flat_row (fun _ => rfl) | exact flat_lst (fun _ => rfl)) ?_))) (by first | exact .inr rfl | exact .inl rfl) ?_
  conv => whnf
  refine .one _ _ _ (fun _ => hr) (by repeat (first | exact .nil | (apply BorL.cons; first | exact lS rfl | exact lR rfl | exact lM rfl rfl | exact lL rfl | exact lX rfl | exact lN | exact lNl | exact lSm rfl | exact lIm rfl | exact lGm rfl | exact lP rfl | exact lQ rfl | exact lB rfl rfl rfl))) (by first | exact .inl rfl | exact .inr (by repeat (first | exact flats_nil | refine flats_cons (by first | exact flat_val _ rfl | exact flat_row (fun _ => rfl) | exact flat_lst (fun _ => rfl)) ?_))) (by first | exact .inr rfl | exact .inl rfl) ?_
  conv => whnf
  refine ⟨fun h1 => ?_, fun h1 => ?_⟩
  · rw [hp1 h1]
    conv => whnf
    rfl
  have h2 := hp2 h1
  clear hp1 hp2
  conv => whnf
  refine .one _ _ _ (fun _ => hix) (by repeat (first | exact .nil | (apply BorL.cons; first | exact lS rfl | exact lR rfl | exact lM rfl rfl | exact lL rfl | exact lX rfl | exact lN | exact lNl | exact lSm rfl | exact lIm rfl | exact lGm rfl | exact lP rfl | exact lQ rfl | exact lB rfl rfl rfl | exact .fn _ _ _ _ _ _ _ (by repeat (first | exact .nil | (apply BorL.cons; first | exact .base (.same _ rfl) | exact .base (.row _ _ _ _ _ _ rfl) | exact .base (.smap _ _ _ _ rfl) | exact .base (.imap _ _ _ _ _ rfl) | exact .base (.gmap _ _ _ _ _ rfl) | exact .box _ _ _ _ _ _ rfl (by repeat (first | exact .nil | (apply BorL.cons; first | exact .same _ rfl | exact .row _ _ _ _ _ _ rfl | exact .lstrow _ _ _ _ _ _ _ rfl rfl | exact .lst _ _ _ _ rfl | exact .smap _ _ _ _ rfl | exact .imap _ _ _ _ _ rfl | exact .gmap _ _ _ _ _ rfl))) (by first | exact allOne_spec rfl | simp [AV.one])))) (by repeat (first | exact .nil | (apply BorL.cons; first | exact .base (.same _ rfl) | exact .base (.row _ _ _ _ _ _ rfl) | exact .base (.smap _ _ _ _ rfl) | exact .base (.imap _ _ _ _ _ rfl) | exact .base (.gmap _ _ _ _ _ rfl) | exact .box _ _ _ _ _ _ rfl (by repeat (first | exact .nil | (apply BorL.cons; first | exact .same _ rfl | exact .row _ _ _ _ _ _ rfl | exact .lstrow _ _ _ _ _ _ _ rfl rfl | exact .lst _ _ _ _ rfl | exact .smap _ _ _ _ rfl | exact .imap _ _ _ _ _ rfl | exact .gmap _ _ _ _ _ rfl))) (by first | exact allOne_spec rfl | simp [AV.one])))) | exact .box _ _ _ _ _ _ rfl (by repeat (first | exact .nil | (apply BorL.cons; first | exact .base (.same _ rfl) | exact .base (.row _ _ _ _ _ _ rfl) | exact .base (.smap _ _ _ _ rfl) | exact .base (.imap _ _ _ _ _ rfl) | exact .base (.gmap _ _ _ _ _ rfl) | exact .box _ _ _ _ _ _ rfl (by repeat (first | exact .nil | (apply BorL.cons; first | exact .same _ rfl | exact .row _ _ _ _ _ _ rfl | exact .lstrow _ _ _ _ _ _ _ rfl rfl | exact .lst _ _ _ _ rfl | exact .smap _ _ _ _ rfl | exact .imap _ _ _ _ _ rfl | exact .gmap _ _ _ _ _ rfl))) (by first | exact allOne_spec rfl | simp [AV.one])))) (by first | exact allOne_spec rfl | simp [AV.one]) | exact .agg _ _ _ (by repeat (first | exact .nil | (apply BorL.cons; first | exact .base (.same _ rfl) | exact .base (.row _ _ _ _ _ _ rfl) | exact .base (.smap _ _ _ _ rfl) | exact .base (.imap _ _ _ _ _ rfl) | exact .base (.gmap _ _ _ _ _ rfl) | exact .box _ _ _ _ _ _ rfl (by repeat (first | exact .nil | (apply BorL.cons; first | exact .same _ rfl | exact .row _ _ _ _ _ _ rfl | exact .lstrow _ _ _ _ _ _ _ rfl rfl | exact .lst _ _ _ _ rfl | exact .smap _ _ _ _ rfl | exact .imap _ _ _ _ _ rfl | exact .gmap _ _ _ _ _ rfl))) (by first | exact allOne_spec rfl | simp [AV.one]))))))) (by first | exact .inl rfl | exact .inr (by repeat (first | exact flats_nil | refine flats_cons (by first | exact flat_val _ rfl | exact flat_row (fun _ => rfl) | exact flat_lst (fun _ => rfl)) ?_))) (by first | exact .inr rfl | exact .inl rfl) ?_
  conv => whnf
  by_cases hlt : pl < l.length
  · rw [if_pos hlt] at h2 ⊢
    refine ⟨fun hx => ?_, fun hx => ?_⟩
    · conv => whnf
      refine .quiet (by kernel_rfl) ?_; conv => whnf
      refine And.intro ⟨by omega, by omega⟩ ?_; conv => whnf
      refine And.intro rfl ?_; conv => whnf
      have hlp : l.getD (pl : Int).toNat e0 = l.getD pl e0 := by rw [Int.toNat_natCast]
      rw [hlp]
      generalize l.getD pl e0 = y at *
      refine And.intro ⟨by kernel_rfl, by kernel_rfl⟩ ?_
      conv => whnf
      refine ⟨fun hy => ?_, fun hy => ?_⟩
      · have hy' : eqE y e = true := hy
        rw [if_pos (eqE_iff.1 hy')] at h2
        rw [h2]
        conv => whnf
        rfl
      · have hy' : eqE y e = false := hy
        rw [if_neg (fun h => by rw [eqE_iff.2 h] at hy'; cases hy')] at h2
        rw [h2]
        conv => whnf
        rfl
    · exact absurd (of_decide_eq_false hx) (by omega)
  · rw [if_neg hlt] at h2 ⊢
    refine ⟨fun hx => ?_, fun hx => ?_⟩
    · exact absurd (of_decide_eq_true hx) (by decide)
    conv => whnf
    refine .eff (by first | exact cxOk _ _ | exact cxPOk _ _ _) ?_
    conv => whnf
    refine .one _ _ _ (fun _ => hcl) (by repeat (first | exact .nil | (apply BorL.cons; first | exact lS rfl | exact lR rfl | exact lM rfl rfl | exact lL rfl | exact lX rfl | exact lN | exact lNl | exact lSm rfl | exact lIm rfl | exact lGm rfl | exact lP rfl | exact lQ rfl | exact lB rfl rfl rfl))) (by first | exact .inl rfl | exact .inr (by repeat (first | exact flats_nil | refine flats_cons (by first | exact flat_val _ rfl | exact flat_row (fun _ => rfl) | exact flat_lst (fun _ => rfl)) ?_))) (by first | exact .inr rfl | exact .inl rfl) ?_
    conv => whnf
    refine And.intro rfl ?_; conv => whnf
    refine And.intro ⟨rfl, rfl⟩ (And.intro (show (l.length + 1) * 40 ≤ 140737488355328 by omega) ?_)
    conv => whnf
    refine ⟨e, rfl, ?_⟩
    conv => whnf
    refine And.intro rfl ?_; conv => whnf
    refine .one _ _ _ (fun _ => hv2) (by repeat (first | exact .nil | (apply BorL.cons; first | exact lS rfl | exact lR rfl | exact lM rfl rfl | exact lL rfl | exact lX rfl | exact lN | exact lNl | exact lSm rfl | exact lIm rfl | exact lGm rfl | exact lP rfl | exact lQ rfl | exact lB rfl rfl rfl))) (by first | exact .inl rfl | exact .inr (by repeat (first | exact flats_nil | refine flats_cons (by first | exact flat_val _ rfl | exact flat_row (fun _ => rfl) | exact flat_lst (fun _ => rfl)) ?_))) (by first | exact .inr rfl | exact .inl rfl) ?_
    conv => whnf
    cases vn with
    | true =>
      rw [if_pos rfl] at h2
      refine ⟨fun hy => ?_, fun hy => ?_⟩
      · cases hy
      rw [h2]
      conv => whnf
      rfl
    | false =>
      rw [if_neg Bool.noConfusion] at h2
      refine ⟨fun hy => ?_, fun hy => ?_⟩
      · rw [h2]
        conv => whnf
        rfl
      · cases hy

end Go.Proofs.YtjlnaogechkjdaaGreatDoor

/-
  DERIVED: THE SHELF's CONTRACTS AT THIS DUMP, IN PLAIN WORDS (tools/lay-plain.mjs out of 'ZyShelf0.lean', which tools/lay-shelf.mjs wrote): THE SAME DECLARATIONS UNDER THE SAME NAMES: 'import', 'namespace', 'open', 'def', 'theorem' AND NOTHING ELSE: no command of the shelf's: FOR A HAND-IN. Each laying: the table of numbers ('.._ren') and one theorem, a field a fact of the dump's own or the kernel's comparison; each contract: ONE APPLICATION.
-/
namespace Go.Proofs.YtjlnaogechkjdaaGreatDoor
open Go.Shelf Go.Proofs
def Tryz.itoaB_ren : Go.Shelf.Ren := ⟨fun | 171 => 51 | 243 => 65 | 246 => 75 | 283 => 80 | 284 => 81 | 285 => 82 | 286 => 83 | 129 => 64 | 317 => 90 | 318 => 91 | 319 => 92 | 320 => 93 | 337 => 97 | 338 => 98 | n => n, fun | 3 => 3 | 9 => 9 | 2 => 2 | 4 => 4 | 171 => 129 | 0 => 0 | 53 => 113 | 37 => 131 | 5 => 5 | 173 => 132 | 212 => 142 | 51 => 111 | 20 => 20 | 213 => 143 | 46 => 98 | 232 => 156 | 233 => 157 | n => n, fun | 17 => 0 | 18 => 4 | 19 => 5 | n => n⟩
theorem Tryz.itoaB : Go.Proofs.LaysM.n171 Tryz.prog Tryz.itoaB_ren := {
  mixed := by kernel_rfl
  f129 := Tryz.func64.trans (congrArg some (by kernel_rfl))
  f171 := Tryz.func51.trans (congrArg some (by kernel_rfl))
  f243 := Tryz.func65.trans (congrArg some (by kernel_rfl))
  f246 := Tryz.func75.trans (congrArg some (by kernel_rfl))
  f283 := Tryz.func80.trans (congrArg some (by kernel_rfl))
  f284 := Tryz.func81.trans (congrArg some (by kernel_rfl))
  f285 := Tryz.func82.trans (congrArg some (by kernel_rfl))
  f286 := Tryz.func83.trans (congrArg some (by kernel_rfl))
  f317 := Tryz.func90.trans (congrArg some (by kernel_rfl))
  f318 := Tryz.func91.trans (congrArg some (by kernel_rfl))
  f319 := Tryz.func92.trans (congrArg some (by kernel_rfl))
  f320 := Tryz.func93.trans (congrArg some (by kernel_rfl))
  f337 := Tryz.func97.trans (congrArg some (by kernel_rfl))
  f338 := Tryz.func98.trans (congrArg some (by kernel_rfl))
  t0 := Tryz.underlying0
  a0 := Tryz.isAgg0
  z0 := Tryz.sizeOf0
  v0 := Tryz.zeroValue0
  t2 := Tryz.underlying2
  a2 := Tryz.isAgg2
  z2 := Tryz.sizeOf2
  v2 := Tryz.zeroValue2
  t3 := Tryz.underlying3
  a3 := Tryz.isAgg3
  z3 := Tryz.sizeOf3
  v3 := Tryz.zeroValue3
  t4 := Tryz.underlying4
  a4 := Tryz.isAgg4
  z4 := Tryz.sizeOf4
  v4 := Tryz.zeroValue4
  t5 := Tryz.underlying5
  a5 := Tryz.isAgg5
  z5 := Tryz.sizeOf5
  v5 := Tryz.zeroValue5
  t9 := Tryz.underlying9
  a9 := Tryz.isAgg9
  z9 := Tryz.sizeOf9
  v9 := Tryz.zeroValue9
  t20 := Tryz.underlying20
  a20 := Tryz.isAgg20
  z20 := Tryz.sizeOf20
  v20 := Tryz.zeroValue20
  t37 := Tryz.underlying131
  a37 := Tryz.isAgg131
  z37 := Tryz.sizeOf131
  v37 := Tryz.zeroValue131
  t46 := Tryz.underlying98
  a46 := Tryz.isAgg98
  z46 := Tryz.sizeOf98
  v46 := Tryz.zeroValue98
  t51 := Tryz.underlying111
  a51 := Tryz.isAgg111
  z51 := Tryz.sizeOf111
  v51 := Tryz.zeroValue111
  t53 := Tryz.underlying113
  a53 := Tryz.isAgg113
  z53 := Tryz.sizeOf113
  v53 := Tryz.zeroValue113
  t171 := Tryz.underlying129
  a171 := Tryz.isAgg129
  z171 := Tryz.sizeOf129
  v171 := Tryz.zeroValue129
  t173 := Tryz.underlying132
  a173 := Tryz.isAgg132
  z173 := Tryz.sizeOf132
  v173 := Tryz.zeroValue132
  t212 := Tryz.underlying142
  a212 := Tryz.isAgg142
  z212 := Tryz.sizeOf142
  v212 := Tryz.zeroValue142
  t213 := Tryz.underlying143
  a213 := Tryz.isAgg143
  z213 := Tryz.sizeOf143
  t232 := Tryz.underlying156
  a232 := Tryz.isAgg156
  z232 := Tryz.sizeOf156
  v232 := Tryz.zeroValue156
  t233 := Tryz.underlying157
  a233 := Tryz.isAgg157
  z233 := Tryz.sizeOf157
  v233 := Tryz.zeroValue157
  g17 := by kernel_rfl
  g18 := by kernel_rfl
  g19 := by kernel_rfl
  i0 := by kernel_rfl
  i2 := by kernel_rfl
  i3 := by kernel_rfl
  i4 := by kernel_rfl
  i5 := by kernel_rfl
  i9 := by kernel_rfl
  i20 := by kernel_rfl
  i37 := by kernel_rfl
  i46 := by kernel_rfl
  i51 := by kernel_rfl
  i53 := by kernel_rfl
  i171 := by kernel_rfl
  i173 := by kernel_rfl
  i212 := by kernel_rfl
  i232 := by kernel_rfl
  i233 := by kernel_rfl
  m17 := by kernel_rfl
  m18 := by kernel_rfl
  m19 := by kernel_rfl }
def Tryz.atoiA_ren : Go.Shelf.Ren := ⟨fun | 172 => 68 | 244 => 77 | 245 => 78 | 247 => 85 | 279 => 86 | 280 => 87 | 281 => 88 | 282 => 89 | 287 => 94 | 316 => 95 | 171 => 51 | 205 => 96 | 321 => 99 | 322 => 100 | 243 => 65 | 246 => 75 | 283 => 80 | 284 => 81 | 285 => 82 | 286 => 83 | 129 => 64 | 317 => 90 | 318 => 91 | 319 => 92 | 320 => 93 | 337 => 97 | 338 => 98 | n => n, fun | 9 => 9 | 3 => 3 | 75 => 116 | 76 => 117 | 4 => 4 | 5 => 5 | 167 => 134 | 37 => 131 | 0 => 0 | 85 => 135 | 2 => 2 | 168 => 137 | 53 => 113 | 175 => 144 | 46 => 98 | 210 => 148 | 127 => 152 | 145 => 155 | 143 => 153 | 21 => 21 | 171 => 129 | 173 => 132 | 212 => 142 | 51 => 111 | 20 => 20 | 213 => 143 | 232 => 156 | 233 => 157 | 80 => 158 | n => n, fun | 15 => 2 | 16 => 3 | 17 => 0 | 18 => 4 | 19 => 5 | n => n⟩
theorem Tryz.atoiA : Go.Proofs.LaysC.n172 Tryz.prog Tryz.atoiA_ren := {
  mixed := by kernel_rfl
  f129 := Tryz.func64.trans (congrArg some (by kernel_rfl))
  f171 := Tryz.func51.trans (congrArg some (by kernel_rfl))
  f172 := Tryz.func68.trans (congrArg some (by kernel_rfl))
  f205 := Tryz.func96.trans (congrArg some (by kernel_rfl))
  f243 := Tryz.func65.trans (congrArg some (by kernel_rfl))
  f244 := Tryz.func77.trans (congrArg some (by kernel_rfl))
  f245 := Tryz.func78.trans (congrArg some (by kernel_rfl))
  f246 := Tryz.func75.trans (congrArg some (by kernel_rfl))
  f247 := Tryz.func85.trans (congrArg some (by kernel_rfl))
  f279 := Tryz.func86.trans (congrArg some (by kernel_rfl))
  f280 := Tryz.func87.trans (congrArg some (by kernel_rfl))
  f281 := Tryz.func88.trans (congrArg some (by kernel_rfl))
  f282 := Tryz.func89.trans (congrArg some (by kernel_rfl))
  f283 := Tryz.func80.trans (congrArg some (by kernel_rfl))
  f284 := Tryz.func81.trans (congrArg some (by kernel_rfl))
  f285 := Tryz.func82.trans (congrArg some (by kernel_rfl))
  f286 := Tryz.func83.trans (congrArg some (by kernel_rfl))
  f287 := Tryz.func94.trans (congrArg some (by kernel_rfl))
  f316 := Tryz.func95.trans (congrArg some (by kernel_rfl))
  f317 := Tryz.func90.trans (congrArg some (by kernel_rfl))
  f318 := Tryz.func91.trans (congrArg some (by kernel_rfl))
  f319 := Tryz.func92.trans (congrArg some (by kernel_rfl))
  f320 := Tryz.func93.trans (congrArg some (by kernel_rfl))
  f321 := Tryz.func99.trans (congrArg some (by kernel_rfl))
  f322 := Tryz.func100.trans (congrArg some (by kernel_rfl))
  f337 := Tryz.func97.trans (congrArg some (by kernel_rfl))
  f338 := Tryz.func98.trans (congrArg some (by kernel_rfl))
  t0 := Tryz.underlying0
  a0 := Tryz.isAgg0
  z0 := Tryz.sizeOf0
  v0 := Tryz.zeroValue0
  t2 := Tryz.underlying2
  a2 := Tryz.isAgg2
  z2 := Tryz.sizeOf2
  v2 := Tryz.zeroValue2
  t3 := Tryz.underlying3
  a3 := Tryz.isAgg3
  z3 := Tryz.sizeOf3
  v3 := Tryz.zeroValue3
  t4 := Tryz.underlying4
  a4 := Tryz.isAgg4
  z4 := Tryz.sizeOf4
  v4 := Tryz.zeroValue4
  t5 := Tryz.underlying5
  a5 := Tryz.isAgg5
  z5 := Tryz.sizeOf5
  v5 := Tryz.zeroValue5
  t9 := Tryz.underlying9
  a9 := Tryz.isAgg9
  z9 := Tryz.sizeOf9
  v9 := Tryz.zeroValue9
  t20 := Tryz.underlying20
  a20 := Tryz.isAgg20
  z20 := Tryz.sizeOf20
  v20 := Tryz.zeroValue20
  t21 := Tryz.underlying21
  a21 := Tryz.isAgg21
  z21 := Tryz.sizeOf21
  v21 := Tryz.zeroValue21
  t37 := Tryz.underlying131
  a37 := Tryz.isAgg131
  z37 := Tryz.sizeOf131
  v37 := Tryz.zeroValue131
  t46 := Tryz.underlying98
  a46 := Tryz.isAgg98
  z46 := Tryz.sizeOf98
  v46 := Tryz.zeroValue98
  t51 := Tryz.underlying111
  a51 := Tryz.isAgg111
  z51 := Tryz.sizeOf111
  v51 := Tryz.zeroValue111
  t53 := Tryz.underlying113
  a53 := Tryz.isAgg113
  z53 := Tryz.sizeOf113
  v53 := Tryz.zeroValue113
  t75 := Tryz.underlying116
  a75 := Tryz.isAgg116
  z75 := Tryz.sizeOf116
  v75 := Tryz.zeroValue116
  t76 := Tryz.underlying117
  a76 := Tryz.isAgg117
  z76 := Tryz.sizeOf117
  v76 := Tryz.zeroValue117
  t85 := Tryz.underlying135
  a85 := Tryz.isAgg135
  z85 := Tryz.sizeOf135
  v85 := Tryz.zeroValue135
  t127 := Tryz.underlying152
  a127 := Tryz.isAgg152
  z127 := Tryz.sizeOf152
  v127 := Tryz.zeroValue152
  t143 := Tryz.underlying153
  a143 := Tryz.isAgg153
  z143 := Tryz.sizeOf153
  v143 := Tryz.zeroValue153
  t145 := Tryz.underlying155
  a145 := Tryz.isAgg155
  z145 := Tryz.sizeOf155
  v145 := Tryz.zeroValue155
  t167 := Tryz.underlying134
  a167 := Tryz.isAgg134
  z167 := Tryz.sizeOf134
  v167 := Tryz.zeroValue134
  t168 := Tryz.underlying137
  a168 := Tryz.isAgg137
  z168 := Tryz.sizeOf137
  v168 := Tryz.zeroValue137
  t171 := Tryz.underlying129
  a171 := Tryz.isAgg129
  z171 := Tryz.sizeOf129
  v171 := Tryz.zeroValue129
  t173 := Tryz.underlying132
  a173 := Tryz.isAgg132
  z173 := Tryz.sizeOf132
  v173 := Tryz.zeroValue132
  t175 := Tryz.underlying144
  a175 := Tryz.isAgg144
  z175 := Tryz.sizeOf144
  v175 := Tryz.zeroValue144
  t210 := Tryz.underlying148
  a210 := Tryz.isAgg148
  z210 := Tryz.sizeOf148
  v210 := Tryz.zeroValue148
  t212 := Tryz.underlying142
  a212 := Tryz.isAgg142
  z212 := Tryz.sizeOf142
  v212 := Tryz.zeroValue142
  t213 := Tryz.underlying143
  a213 := Tryz.isAgg143
  z213 := Tryz.sizeOf143
  t232 := Tryz.underlying156
  a232 := Tryz.isAgg156
  z232 := Tryz.sizeOf156
  v232 := Tryz.zeroValue156
  t233 := Tryz.underlying157
  a233 := Tryz.isAgg157
  z233 := Tryz.sizeOf157
  v233 := Tryz.zeroValue157
  g15 := by kernel_rfl
  g16 := by kernel_rfl
  g17 := by kernel_rfl
  g18 := by kernel_rfl
  g19 := by kernel_rfl
  t80 := Tryz.underlying158
  a80 := Tryz.isAgg158
  z80 := Tryz.sizeOf158
  v80 := Tryz.zeroValue158
  i0 := by kernel_rfl
  i2 := by kernel_rfl
  i3 := by kernel_rfl
  i4 := by kernel_rfl
  i5 := by kernel_rfl
  i9 := by kernel_rfl
  i20 := by kernel_rfl
  i21 := by kernel_rfl
  i37 := by kernel_rfl
  i46 := by kernel_rfl
  i51 := by kernel_rfl
  i53 := by kernel_rfl
  i75 := by kernel_rfl
  i76 := by kernel_rfl
  i80 := by kernel_rfl
  i85 := by kernel_rfl
  i127 := by kernel_rfl
  i143 := by kernel_rfl
  i145 := by kernel_rfl
  i167 := by kernel_rfl
  i168 := by kernel_rfl
  i171 := by kernel_rfl
  i173 := by kernel_rfl
  i175 := by kernel_rfl
  i210 := by kernel_rfl
  i212 := by kernel_rfl
  i232 := by kernel_rfl
  i233 := by kernel_rfl
  m15 := by kernel_rfl
  m16 := by kernel_rfl
  m17 := by kernel_rfl
  m18 := by kernel_rfl
  m19 := by kernel_rfl
  c0 := by kernel_rfl
  c2 := by kernel_rfl
  c3 := by kernel_rfl
  c4 := by kernel_rfl
  c5 := by kernel_rfl
  c9 := by kernel_rfl
  c20 := by kernel_rfl
  c21 := by kernel_rfl
  c37 := by kernel_rfl
  c46 := by kernel_rfl
  c51 := by kernel_rfl
  c53 := by kernel_rfl
  c75 := by kernel_rfl
  c76 := by kernel_rfl
  c80 := by kernel_rfl
  c85 := by kernel_rfl
  c127 := by kernel_rfl
  c143 := by kernel_rfl
  c145 := by kernel_rfl
  c167 := by kernel_rfl
  c168 := by kernel_rfl
  c171 := by kernel_rfl
  c173 := by kernel_rfl
  c175 := by kernel_rfl
  c210 := by kernel_rfl
  c212 := by kernel_rfl
  c213 := by kernel_rfl
  c232 := by kernel_rfl
  c233 := by kernel_rfl }
def Tryz.indexA_ren : Go.Shelf.Ren := ⟨fun | 137 => 66 | 217 => 76 | 266 => 84 | n => n, fun | 9 => 9 | 5 => 5 | 3 => 3 | n => n, fun | n => n⟩
theorem Tryz.indexA : Go.Proofs.Lays.n137 Tryz.prog Tryz.indexA_ren := {
  mixed := by kernel_rfl
  f137 := Tryz.func66.trans (congrArg some (by kernel_rfl))
  f217 := Tryz.func76.trans (congrArg some (by kernel_rfl))
  f266 := Tryz.func84.trans (congrArg some (by kernel_rfl))
  t3 := Tryz.underlying3
  a3 := Tryz.isAgg3
  z3 := Tryz.sizeOf3
  v3 := Tryz.zeroValue3
  t5 := Tryz.underlying5
  a5 := Tryz.isAgg5
  z5 := Tryz.sizeOf5
  v5 := Tryz.zeroValue5
  t9 := Tryz.underlying9
  a9 := Tryz.isAgg9
  z9 := Tryz.sizeOf9
  v9 := Tryz.zeroValue9 }
def Tryz.keysA_ren : Go.Shelf.Ren := ⟨fun | 7 => 26 | 10 => 40 | n => n, fun | 23 => 68 | 26 => 3 | 3 => 3 | 28 => 66 | 0 => 0 | 27 => 65 | 33 => 74 | 4 => 4 | n => n, fun | n => n⟩
theorem Tryz.keysA : Go.Proofs.SlLaysZI.n7 Tryz.prog Tryz.keysA_ren := {
  mixed := by kernel_rfl
  f7 := ⟨Tryz.f26.name, by decide, Tryz.func26.trans (congrArg some (by kernel_rfl))⟩
  f10 := ⟨Tryz.f40.name, by decide, Tryz.func40.trans (congrArg some (by kernel_rfl))⟩
  t0 := Tryz.underlying0
  a0 := Tryz.isAgg0
  z0 := Tryz.sizeOf0
  v0 := Tryz.zeroValue0
  t4 := Tryz.underlying4
  a4 := Tryz.isAgg4
  z4 := Tryz.sizeOf4
  v4 := Tryz.zeroValue4
  t23 := Tryz.underlying68
  a23 := Tryz.isAgg68
  z23 := Tryz.sizeOf68
  v23 := Tryz.zeroValue68
  t26 := Tryz.underlying3
  a26 := Tryz.isAgg3
  z26 := Tryz.sizeOf3
  v26 := Tryz.zeroValue3
  t27 := Tryz.underlying65
  a27 := Tryz.isAgg65
  z27 := Tryz.sizeOf65
  v27 := Tryz.zeroValue65
  t28 := Tryz.underlying66
  a28 := Tryz.isAgg66
  z28 := Tryz.sizeOf66
  v28 := Tryz.zeroValue66
  t33 := Tryz.underlying74
  a33 := Tryz.isAgg74
  z33 := Tryz.sizeOf74
  v33 := Tryz.zeroValue74 }
def Tryz.sortedA_ren : Go.Shelf.Ren := ⟨fun | 6 => 25 | 8 => 38 | 9 => 39 | 11 => 48 | 13 => 50 | 12 => 49 | 23 => 63 | 24 => 64 | 14 => 54 | 15 => 55 | 16 => 56 | 17 => 57 | 18 => 58 | 19 => 59 | 20 => 60 | 21 => 61 | 22 => 62 | 25 => 70 | 26 => 71 | 27 => 72 | 28 => 73 | 29 => 74 | 30 => 33 | 31 => 79 | n => n, fun | 26 => 3 | 28 => 66 | 24 => 34 | 0 => 0 | 3 => 3 | 37 => 98 | 48 => 111 | 50 => 113 | 4 => 4 | 40 => 104 | 39 => 103 | 45 => 77 | 5 => 5 | 9 => 9 | 51 => 119 | 55 => 90 | 57 => 126 | 58 => 127 | 33 => 74 | n => n, fun | n => n⟩
theorem Tryz.sortedA : Go.Proofs.SlLaysZI.n6 Tryz.prog Tryz.sortedA_ren := {
  mixed := by kernel_rfl
  f6 := ⟨Tryz.f25.name, by decide, Tryz.func25.trans (congrArg some (by kernel_rfl))⟩
  f8 := ⟨Tryz.f38.name, by decide, Tryz.func38.trans (congrArg some (by kernel_rfl))⟩
  f11 := ⟨Tryz.f48.name, by decide, Tryz.func48.trans (congrArg some (by kernel_rfl))⟩
  t0 := Tryz.underlying0
  a0 := Tryz.isAgg0
  z0 := Tryz.sizeOf0
  v0 := Tryz.zeroValue0
  t24 := Tryz.underlying34
  a24 := Tryz.isAgg34
  z24 := Tryz.sizeOf34
  v24 := Tryz.zeroValue34
  t26 := Tryz.underlying3
  a26 := Tryz.isAgg3
  z26 := Tryz.sizeOf3
  v26 := Tryz.zeroValue3
  t28 := Tryz.underlying66
  a28 := Tryz.isAgg66
  z28 := Tryz.sizeOf66
  v28 := Tryz.zeroValue66
  i26 := by kernel_rfl }
def Tryz.sortA_ren : Go.Shelf.Ren := ⟨fun | 5 => 39 | 8 => 50 | 7 => 49 | 19 => 63 | 20 => 64 | 10 => 54 | 11 => 55 | 12 => 56 | 13 => 57 | 14 => 58 | 15 => 59 | 16 => 60 | 17 => 61 | 18 => 62 | 30 => 70 | 31 => 71 | 32 => 72 | 33 => 73 | 34 => 74 | 35 => 33 | 40 => 79 | n => n, fun | 23 => 34 | 25 => 3 | 3 => 3 | 32 => 98 | 22 => 34 | 0 => 0 | 44 => 111 | 46 => 113 | 4 => 4 | 36 => 104 | 35 => 103 | 41 => 77 | 5 => 5 | 9 => 9 | 53 => 119 | 57 => 90 | 63 => 126 | 64 => 127 | n => n, fun | n => n⟩
theorem Tryz.sortA : Go.Proofs.SlLaysM.n5 Tryz.prog Tryz.sortA_ren := {
  mixed := by kernel_rfl
  f5 := ⟨Tryz.f39.name, by decide, Tryz.func39.trans (congrArg some (by kernel_rfl))⟩
  f7 := ⟨Tryz.f49.name, by decide, Tryz.func49.trans (congrArg some (by kernel_rfl))⟩
  f8 := Tryz.func50.trans (congrArg some (by kernel_rfl))
  f10 := ⟨Tryz.f54.name, by decide, Tryz.func54.trans (congrArg some (by kernel_rfl))⟩
  f11 := ⟨Tryz.f55.name, by decide, Tryz.func55.trans (congrArg some (by kernel_rfl))⟩
  f12 := ⟨Tryz.f56.name, by decide, Tryz.func56.trans (congrArg some (by kernel_rfl))⟩
  f13 := ⟨Tryz.f57.name, by decide, Tryz.func57.trans (congrArg some (by kernel_rfl))⟩
  f14 := ⟨Tryz.f58.name, by decide, Tryz.func58.trans (congrArg some (by kernel_rfl))⟩
  f15 := ⟨Tryz.f59.name, by decide, Tryz.func59.trans (congrArg some (by kernel_rfl))⟩
  f16 := ⟨Tryz.f60.name, by decide, Tryz.func60.trans (congrArg some (by kernel_rfl))⟩
  f17 := ⟨Tryz.f61.name, by decide, Tryz.func61.trans (congrArg some (by kernel_rfl))⟩
  f18 := ⟨Tryz.f62.name, by decide, Tryz.func62.trans (congrArg some (by kernel_rfl))⟩
  f19 := Tryz.func63.trans (congrArg some (by kernel_rfl))
  f20 := Tryz.func64.trans (congrArg some (by kernel_rfl))
  f30 := ⟨Tryz.f70.name, by decide, Tryz.func70.trans (congrArg some (by kernel_rfl))⟩
  f31 := Tryz.func71.trans (congrArg some (by kernel_rfl))
  f32 := Tryz.func72.trans (congrArg some (by kernel_rfl))
  f33 := ⟨Tryz.f73.name, by decide, Tryz.func73.trans (congrArg some (by kernel_rfl))⟩
  f34 := ⟨Tryz.f74.name, by decide, Tryz.func74.trans (congrArg some (by kernel_rfl))⟩
  f35 := ⟨Tryz.f33.name, by decide, Tryz.func33.trans (congrArg some (by kernel_rfl))⟩
  f40 := ⟨Tryz.f79.name, by decide, Tryz.func79.trans (congrArg some (by kernel_rfl))⟩
  t0 := Tryz.underlying0
  a0 := Tryz.isAgg0
  z0 := Tryz.sizeOf0
  v0 := Tryz.zeroValue0
  t3 := Tryz.underlying3
  a3 := Tryz.isAgg3
  z3 := Tryz.sizeOf3
  v3 := Tryz.zeroValue3
  t4 := Tryz.underlying4
  a4 := Tryz.isAgg4
  z4 := Tryz.sizeOf4
  v4 := Tryz.zeroValue4
  t5 := Tryz.underlying5
  a5 := Tryz.isAgg5
  z5 := Tryz.sizeOf5
  v5 := Tryz.zeroValue5
  t9 := Tryz.underlying9
  a9 := Tryz.isAgg9
  z9 := Tryz.sizeOf9
  v9 := Tryz.zeroValue9
  t22 := Tryz.underlying34
  a22 := Tryz.isAgg34
  z22 := Tryz.sizeOf34
  v22 := Tryz.zeroValue34
  t23 := Tryz.underlying34
  a23 := Tryz.isAgg34
  z23 := Tryz.sizeOf34
  v23 := Tryz.zeroValue34
  t25 := Tryz.underlying3
  a25 := Tryz.isAgg3
  z25 := Tryz.sizeOf3
  v25 := Tryz.zeroValue3
  t32 := Tryz.underlying98
  a32 := Tryz.isAgg98
  z32 := Tryz.sizeOf98
  v32 := Tryz.zeroValue98
  t35 := Tryz.underlying103
  a35 := Tryz.isAgg103
  z35 := Tryz.sizeOf103
  v35 := Tryz.zeroValue103
  t36 := Tryz.underlying104
  a36 := Tryz.isAgg104
  z36 := Tryz.sizeOf104
  v36 := Tryz.zeroValue104
  t41 := Tryz.underlying77
  a41 := Tryz.isAgg77
  z41 := Tryz.sizeOf77
  v41 := Tryz.zeroValue77
  t44 := Tryz.underlying111
  a44 := Tryz.isAgg111
  z44 := Tryz.sizeOf111
  v44 := Tryz.zeroValue111
  t46 := Tryz.underlying113
  a46 := Tryz.isAgg113
  z46 := Tryz.sizeOf113
  v46 := Tryz.zeroValue113
  t53 := Tryz.underlying119
  a53 := Tryz.isAgg119
  z53 := Tryz.sizeOf119
  v53 := Tryz.zeroValue119
  t57 := Tryz.underlying90
  a57 := Tryz.isAgg90
  z57 := Tryz.sizeOf90
  v57 := Tryz.zeroValue90
  t63 := Tryz.underlying126
  a63 := Tryz.isAgg126
  z63 := Tryz.sizeOf126
  v63 := Tryz.zeroValue126
  t64 := Tryz.underlying127
  a64 := Tryz.isAgg127
  z64 := Tryz.sizeOf127
  v64 := Tryz.zeroValue127 }
end Go.Proofs.YtjlnaogechkjdaaGreatDoor


namespace Go.Proofs.YtjlnaogechkjdaaGreatDoor
open Go.Own
set_option maxHeartbeats 4000000
set_option maxRecDepth 100000

theorem tab_pow (S : Blocks) (w : World) (h : TabAt S w) : Lib.TabIs Tryz.prog w "internal/strconv.uint64pow10" .u64 Lib.pow10Tab := by
  obtain ⟨_, cs, e, fz, h1, h2⟩ := h 0 _ rfl
  have hg : Tryz.prog.globalNamed "internal/strconv.uint64pow10" = some 0 := by kernel_rfl
  have h2' : cs = (Lib.pow10Tab.map fun z => Value.int .u64 z).toArray := h2
  unfold Lib.TabIs World.var?
  rw [hg]
  show (match w.heap[0]? with | some (.cells cs _ _) => some cs | _ => none) = _
  rw [h1, h2']
theorem tab_err (S : Blocks) (w : World) (h : TabAt S w) (g : Nat) (hg : Tabs.held g = some isErr) : ∃ ev, w.cell? ⟨g, 0, none⟩ = some ev ∧ (ev = .nilIface ∨ ∃ te pe, ev = .iface te pe) := by
  obtain ⟨_, cs, e, fz, h1, te, pe, h2⟩ := h g _ hg
  refine ⟨.iface te pe, ?_, .inr ⟨te, pe, rfl⟩⟩
  rw [Lib.cell_of_heap h1]
  exact h2
theorem itoa_c (n : Int) (h0 : -9223372036854775808 ≤ n) (h1 : n ≤ 9223372036854775807) : APureV Tryz.prog 51 [.int .i64 n] (.str (Lib.itoa n)) :=
  itoa_ok Tryz.itoaB ⟨_, Tryz.func51, rfl, by decide⟩ tab_pow n h0 h1
theorem atoi_c (s : List UInt8) (hs : s.length ≤ 281474976710656) : APure Tryz.prog 68 [.str s] (fun rs => rs = (atoiR s).map .val) :=
  atoi_ok Tryz.atoiA ⟨_, Tryz.func68, rfl, by decide⟩ (fun S w h => ⟨tab_err S w h 2 rfl, tab_err S w h 3 rfl⟩) s hs
theorem index_c (s : List UInt8) (c : Int) : APureV Tryz.prog 66 [.str s, .int .u8 c] (.int .i64 (Lib.indexByte s c.toNat.toUInt8)) :=
  Go.Own.index_ok Tryz.indexA ⟨_, Tryz.func66, rfl, by decide⟩ s c
def encS (s : List UInt8) : AV := .str s
def in64 (n : Int) : Prop := -9223372036854775808 ≤ n ∧ n ≤ 9223372036854775807
def intS (n : Int) : List UInt8 := Lib.itoa n ++ [59]
def numS (n : Int) : List UInt8 := if n < 0 then [] else intS n
theorem intW_ok (n : Int) (hn : in64 n) : APureV Tryz.prog 42 [.int .i64 n] (.str (intS n)) := by
  have hi := itoa_c n hn.1 hn.2
  have hl := Lib.itoa_length_le n hn.1 hn.2
  refine apure_of (C := cx 6 [0, 2]) (cxOk _ _) Tryz.func42 rfl (by decide) rfl (by exact Nat.le_of_ble_eq_true rfl) (by decide) ?_
  conv => whnf
  refine .one _ _ _ (fun _ => hi) (by repeat (first | exact .nil | (apply BorL.cons; first | exact lS rfl | exact lR rfl | exact lM rfl rfl | exact lL rfl | exact lX rfl | exact lN | exact lNl | exact lSm rfl | exact lIm rfl | exact lGm rfl | exact lP rfl | exact lQ rfl | exact lB rfl rfl rfl))) (by first | exact .inl rfl | exact .inr (by repeat (first | exact flats_nil | refine flats_cons (by first | exact flat_val _ rfl | exact flat_row (fun _ => rfl) | exact flat_lst (fun _ => rfl)) ?_))) (by first | exact .inr rfl | exact .inl rfl) ?_
  conv => whnf
  refine And.intro (show (((Lib.itoa n).length + 1 : Nat) : Int) ≤ 9223372036854775807 by omega) ?_
  conv => whnf
  rfl
theorem numW_ok (n : Int) (hn : in64 n) : APureV Tryz.prog 30 [.int .i64 n] (.str (numS n)) := by
  have hi := intW_ok n hn
  refine apure_of (C := cx 7 [0, 2, 4]) (cxOk _ _) Tryz.func30 rfl (by decide) rfl (by exact Nat.le_of_ble_eq_true rfl) (by decide) ?_
  conv => whnf
  refine ⟨fun hc => ?_, fun hc => ?_⟩
  · conv => whnf
    unfold numS
    rw [if_pos (of_decide_eq_true hc)]
    rfl
  · conv => whnf
    refine .one _ _ _ (fun _ => hi) (by repeat (first | exact .nil | (apply BorL.cons; first | exact lS rfl | exact lR rfl | exact lM rfl rfl | exact lL rfl | exact lX rfl | exact lN | exact lNl | exact lSm rfl | exact lIm rfl | exact lGm rfl | exact lP rfl | exact lQ rfl | exact lB rfl rfl rfl))) (by first | exact .inl rfl | exact .inr (by repeat (first | exact flats_nil | refine flats_cons (by first | exact flat_val _ rfl | exact flat_row (fun _ => rfl) | exact flat_lst (fun _ => rfl)) ?_))) (by first | exact .inr rfl | exact .inl rfl) ?_
    conv => whnf
    unfold numS
    rw [if_neg (of_decide_eq_false hc)]
    rfl
theorem failW_ok (s : List UInt8) (b : Bool) : AIO Tryz.prog 67 [.ptr 0 0] [.cells 100 [.str s, .bool b]] (fun bs rs => bs = [.cells 100 [.str [], .bool true]] ∧ rs = []) := by
  refine aio_of (C := cxP 1 8 [0]) (cxPOk _ _ _) Tryz.func67 rfl (by decide) rfl (by exact Nat.le_of_ble_eq_true rfl) (by decide) rfl rfl ?_
  conv => whnf
  exact ⟨rfl, rfl⟩
def numR (c : Int) (least : Int) (s : List UInt8) : Option (Int × List UInt8) :=
  let at_ := Lib.indexByte (s.take (min s.length 21)) c.toNat.toUInt8
  if at_ < 0 then none
  else match Lib.atoiAll ((s.take (min s.length 21)).take at_.toNat) with
    | .ok n => if Lib.itoa n = (s.take (min s.length 21)).take at_.toNat ∧ least ≤ n then some (n, s.drop (at_.toNat + 1)) else none
    | _ => none
/-- What is left of a reader. -/
def rd (o : Option (List UInt8)) (b : Bool) : AB :=
  match o with
  | some r => .cells 100 [.str r, .bool b]
  | none => .cells 100 [.str [], .bool true]
theorem numberW_ok (c least : Int) (s : List UInt8) (b : Bool) (hs : s.length ≤ 9223372036854775000) : AIO Tryz.prog 52 [.ptr 0 0, .int .u8 c, .int .i64 least] [.cells 100 [.str s, .bool b]] (fun bs rs => bs = [rd ((numR c least s).map (·.2)) b] ∧ rs = [.val (.int .i64 (((numR c least s).map (·.1)).getD 0))]) := by
  have hm : (min (s.length : Int) 21).toNat = min s.length 21 := by omega
  have hi := index_c (s.take (min (s.length : Int) 21).toNat) c
  have hR : numR c least s = if Lib.indexByte (s.take (min s.length 21)) c.toNat.toUInt8 < 0 then none
      else match Lib.atoiAll ((s.take (min s.length 21)).take (Lib.indexByte (s.take (min s.length 21)) c.toNat.toUInt8).toNat) with
        | .ok n => if Lib.itoa n = (s.take (min s.length 21)).take (Lib.indexByte (s.take (min s.length 21)) c.toNat.toUInt8).toNat ∧ least ≤ n then some (n, s.drop ((Lib.indexByte (s.take (min s.length 21)) c.toNat.toUInt8).toNat + 1)) else none
        | _ => none := rfl
  rw [hm] at hi
  have hml : (s.take (min s.length 21)).length = min s.length 21 := by rw [List.length_take]; omega
  generalize hh : s.take (min s.length 21) = h at *
  generalize ha : Lib.indexByte h c.toNat.toUInt8 = p at *
  have hcut : s.take (min (s.length : Int) 21).toNat = h := by rw [hm, hh]
  refine aio_of (C := cxP 1 64 [0, 1, 2, 6, 7, 8, 9, 10, 26, 50]) (cxPOk _ _ _) Tryz.func52 rfl (by decide) rfl (by exact Nat.le_of_ble_eq_true rfl) (by decide) rfl rfl ?_
  conv => whnf
  refine .quiet (by kernel_rfl) ?_
  conv => whnf
  refine And.intro ⟨by omega, by omega⟩ ?_; conv => whnf
  simp only [Option.map_none, Option.map_some, cut]
  rw [hcut]
  refine .one _ _ _ (fun _ => hi) (by repeat (first | exact .nil | (apply BorL.cons; first | exact lS rfl | exact lR rfl | exact lM rfl rfl | exact lL rfl | exact lX rfl | exact lN | exact lNl | exact lSm rfl | exact lIm rfl | exact lGm rfl | exact lP rfl | exact lQ rfl | exact lB rfl rfl rfl))) (by first | exact .inl rfl | exact .inr (by repeat (first | exact flats_nil | refine flats_cons (by first | exact flat_val _ rfl | exact flat_row (fun _ => rfl) | exact flat_lst (fun _ => rfl)) ?_))) (by first | exact .inr rfl | exact .inl rfl) ?_
  conv => whnf
  refine ⟨fun hd => ?_, fun hd => ?_⟩
  · rw [if_pos (of_decide_eq_true hd)] at hR
    rw [hR]
    conv => whnf
    refine .raw _ _ rfl (fun h => by cases h) (callio_sem (failW_ok s b) [0] _ rfl rfl ⟨rfl, trivial⟩ (by repeat (first | exact .nil | (apply BorL.cons; first | exact .map _ _ rfl | exact .ptr _ _ _ rfl | exact .own _ _ rfl | exact .fnp _ _ _ _ rfl | (apply BorIO.lend; first | exact lS rfl | exact lR rfl | exact lM rfl rfl | exact lL rfl | exact lX rfl | exact lN | exact lNl | exact lSm rfl | exact lIm rfl | exact lGm rfl | exact lP rfl | exact lQ rfl | exact lB rfl rfl rfl)))) rfl (by first | exact .inl rfl | exact .inr (fun b rs h => by first | obtain ⟨rfl, rfl⟩ := h | obtain ⟨_, _, _, rfl, rfl⟩ := h; exact ⟨by repeat (first | exact flats_nil | refine flats_cons (by first | exact flat_val _ rfl | exact flat_row (fun _ => rfl) | exact flat_lst (fun _ => rfl)) ?_), by repeat (first | exact flats0 | refine flats1 (by first | exact flatB_row (fun _ => rfl) | exact flatB_lst (fun _ => rfl) | exact flatB_smap (fun _ => rfl) | exact flatB_imap (fun _ => rfl) | exact flatB_cells rfl) ?_)⟩))) ?_
    rintro r ⟨b', rs, ⟨rfl, rfl⟩, rfl⟩
    refine ⟨tn_ge _ _, ?_⟩
    conv => whnf
    exact ⟨rfl, rfl⟩
  · have hp0 : ¬ p < 0 := of_decide_eq_false hd
    rw [if_neg hp0] at hR
    obtain ⟨o, rfl⟩ : ∃ o : Nat, p = (o : Int) := ⟨p.toNat, by omega⟩
    have hol : o < h.length := (List.getElem?_eq_some_iff.1 (Lib.indexByte_some ha).1).1
    rw [Int.toNat_natCast] at hR
    have hat := atoi_c (h.take o) (by rw [List.length_take]; omega)
    have het : (o : Int).toNat = o := Int.toNat_natCast o
    generalize ht : h.take o = t at *
    have hcut2 : h.take (o : Int).toNat = t := by rw [het, ht]
    conv => whnf
    refine And.intro ⟨by omega, by omega, by omega⟩ ?_
    conv => whnf
    simp only [Option.map_none, Option.map_some, cut]
    rw [hcut2]
    unfold atoiR at hat
    rcases hr : Lib.atoiAll t with n | _ | _
    · rw [hr] at hat hR
      obtain ⟨n0, n1⟩ := Lib.atoiAll_bounds hr
      have hit := itoa_c n n0 n1
      refine .one _ _ _ (fun _ => hat) (by repeat (first | exact .nil | (apply BorL.cons; first | exact lS rfl | exact lR rfl | exact lM rfl rfl | exact lL rfl | exact lX rfl | exact lN | exact lNl | exact lSm rfl | exact lIm rfl | exact lGm rfl | exact lP rfl | exact lQ rfl | exact lB rfl rfl rfl))) (by first | exact .inl rfl | exact .inr (by repeat (first | exact flats_nil | refine flats_cons (by first | exact flat_val _ rfl | exact flat_row (fun _ => rfl) | exact flat_lst (fun _ => rfl)) ?_))) (by first | exact .inr rfl | exact .inl rfl) ?_
      conv => whnf
      refine .quiet (by kernel_rfl) ?_
      conv => whnf
      refine .mk _ _ _ _ (fun _ => hit) (by repeat (first | exact .nil | (apply BorL.cons; first | exact lS rfl | exact lR rfl | exact lM rfl rfl | exact lL rfl | exact lX rfl | exact lN | exact lNl | exact lSm rfl | exact lIm rfl | exact lGm rfl | exact lP rfl | exact lQ rfl | exact lB rfl rfl rfl))) rfl ?_
      conv => whnf
      refine And.intro (fun _ => ⟨by omega, by omega⟩) ?_; conv => whnf
      simp only [Option.map_none, Option.map_some, cut]
      replace hR : numR c least s = if Lib.itoa n = t ∧ least ≤ n then some (n, s.drop (o + 1)) else none := hR
      by_cases hok : Lib.itoa n = t ∧ least ≤ n
      · rw [if_pos hok] at hR
        rw [hR]
        refine ⟨fun hx => ?_, fun hx => ?_⟩
        · simp [hok.1, ht] at hx
          omega
        · conv => whnf
          refine And.intro (by omega) ?_
          conv => whnf
          refine And.intro ⟨by omega, by omega, by omega⟩ ?_
          conv => whnf
          have he1 : ((o : Int) + 1).toNat = o + 1 := by omega
          refine ⟨?_, rfl⟩
          show [AB.cells 100 [.str (s.drop ((o : Int) + 1).toNat), .bool b]] = _
          rw [he1]
          rfl
      · rw [if_neg hok] at hR
        rw [hR]
        refine ⟨fun hx => ?_, fun hx => ?_⟩
        · conv => whnf
          refine .raw _ _ rfl (fun h => by cases h) (callio_sem (failW_ok s b) [0] _ rfl rfl ⟨rfl, trivial⟩ (by repeat (first | exact .nil | (apply BorL.cons; first | exact .map _ _ rfl | exact .ptr _ _ _ rfl | exact .own _ _ rfl | exact .fnp _ _ _ _ rfl | (apply BorIO.lend; first | exact lS rfl | exact lR rfl | exact lM rfl rfl | exact lL rfl | exact lX rfl | exact lN | exact lNl | exact lSm rfl | exact lIm rfl | exact lGm rfl | exact lP rfl | exact lQ rfl | exact lB rfl rfl rfl)))) rfl (by first | exact .inl rfl | exact .inr (fun b rs h => by first | obtain ⟨rfl, rfl⟩ := h | obtain ⟨_, _, _, rfl, rfl⟩ := h; exact ⟨by repeat (first | exact flats_nil | refine flats_cons (by first | exact flat_val _ rfl | exact flat_row (fun _ => rfl) | exact flat_lst (fun _ => rfl)) ?_), by repeat (first | exact flats0 | refine flats1 (by first | exact flatB_row (fun _ => rfl) | exact flatB_lst (fun _ => rfl) | exact flatB_smap (fun _ => rfl) | exact flatB_imap (fun _ => rfl) | exact flatB_cells rfl) ?_)⟩))) ?_
          rintro r ⟨b', rs, ⟨rfl, rfl⟩, rfl⟩
          refine ⟨tn_ge _ _, ?_⟩
          conv => whnf
          exact ⟨rfl, rfl⟩
        · simp [ht] at hx
          exact (hok ⟨hx.1, by omega⟩).elim
    · rw [hr] at hat hR
      rw [hR]
      have hit := itoa_c 0 (by omega) (by omega)
      refine .one _ _ _ (fun _ => hat) (by repeat (first | exact .nil | (apply BorL.cons; first | exact lS rfl | exact lR rfl | exact lM rfl rfl | exact lL rfl | exact lX rfl | exact lN | exact lNl | exact lSm rfl | exact lIm rfl | exact lGm rfl | exact lP rfl | exact lQ rfl | exact lB rfl rfl rfl))) (by first | exact .inl rfl | exact .inr (by repeat (first | exact flats_nil | refine flats_cons (by first | exact flat_val _ rfl | exact flat_row (fun _ => rfl) | exact flat_lst (fun _ => rfl)) ?_))) (by first | exact .inr rfl | exact .inl rfl) ?_
      conv => whnf
      refine .quiet (by kernel_rfl) ?_
      conv => whnf
      refine .mk _ _ _ _ (fun _ => hit) (by repeat (first | exact .nil | (apply BorL.cons; first | exact lS rfl | exact lR rfl | exact lM rfl rfl | exact lL rfl | exact lX rfl | exact lN | exact lNl | exact lSm rfl | exact lIm rfl | exact lGm rfl | exact lP rfl | exact lQ rfl | exact lB rfl rfl rfl))) rfl ?_
      conv => whnf
      refine And.intro (fun _ => ⟨by omega, by omega⟩) ?_; conv => whnf
      refine ⟨fun hx => ?_, fun hx => ?_⟩
      · conv => whnf
        refine .raw _ _ rfl (fun h => by cases h) (callio_sem (failW_ok s b) [0] _ rfl rfl ⟨rfl, trivial⟩ (by repeat (first | exact .nil | (apply BorL.cons; first | exact .map _ _ rfl | exact .ptr _ _ _ rfl | exact .own _ _ rfl | exact .fnp _ _ _ _ rfl | (apply BorIO.lend; first | exact lS rfl | exact lR rfl | exact lM rfl rfl | exact lL rfl | exact lX rfl | exact lN | exact lNl | exact lSm rfl | exact lIm rfl | exact lGm rfl | exact lP rfl | exact lQ rfl | exact lB rfl rfl rfl)))) rfl (by first | exact .inl rfl | exact .inr (fun b rs h => by first | obtain ⟨rfl, rfl⟩ := h | obtain ⟨_, _, _, rfl, rfl⟩ := h; exact ⟨by repeat (first | exact flats_nil | refine flats_cons (by first | exact flat_val _ rfl | exact flat_row (fun _ => rfl) | exact flat_lst (fun _ => rfl)) ?_), by repeat (first | exact flats0 | refine flats1 (by first | exact flatB_row (fun _ => rfl) | exact flatB_lst (fun _ => rfl) | exact flatB_smap (fun _ => rfl) | exact flatB_imap (fun _ => rfl) | exact flatB_cells rfl) ?_)⟩))) ?_
        rintro r ⟨b', rs, ⟨rfl, rfl⟩, rfl⟩
        refine ⟨tn_ge _ _, ?_⟩
        conv => whnf
        exact ⟨rfl, rfl⟩
      · simp at hx
    · rw [hr] at hat hR
      rw [hR]
      have hit := itoa_c (Lib.atoiSat t) (Lib.atoiSat_bounds t).1 (Lib.atoiSat_bounds t).2
      refine .one _ _ _ (fun _ => hat) (by repeat (first | exact .nil | (apply BorL.cons; first | exact lS rfl | exact lR rfl | exact lM rfl rfl | exact lL rfl | exact lX rfl | exact lN | exact lNl | exact lSm rfl | exact lIm rfl | exact lGm rfl | exact lP rfl | exact lQ rfl | exact lB rfl rfl rfl))) (by first | exact .inl rfl | exact .inr (by repeat (first | exact flats_nil | refine flats_cons (by first | exact flat_val _ rfl | exact flat_row (fun _ => rfl) | exact flat_lst (fun _ => rfl)) ?_))) (by first | exact .inr rfl | exact .inl rfl) ?_
      conv => whnf
      refine .quiet (by kernel_rfl) ?_
      conv => whnf
      refine .mk _ _ _ _ (fun _ => hit) (by repeat (first | exact .nil | (apply BorL.cons; first | exact lS rfl | exact lR rfl | exact lM rfl rfl | exact lL rfl | exact lX rfl | exact lN | exact lNl | exact lSm rfl | exact lIm rfl | exact lGm rfl | exact lP rfl | exact lQ rfl | exact lB rfl rfl rfl))) rfl ?_
      conv => whnf
      refine And.intro (fun _ => ⟨by omega, by omega⟩) ?_; conv => whnf
      refine ⟨fun hx => ?_, fun hx => ?_⟩
      · conv => whnf
        refine .raw _ _ rfl (fun h => by cases h) (callio_sem (failW_ok s b) [0] _ rfl rfl ⟨rfl, trivial⟩ (by repeat (first | exact .nil | (apply BorL.cons; first | exact .map _ _ rfl | exact .ptr _ _ _ rfl | exact .own _ _ rfl | exact .fnp _ _ _ _ rfl | (apply BorIO.lend; first | exact lS rfl | exact lR rfl | exact lM rfl rfl | exact lL rfl | exact lX rfl | exact lN | exact lNl | exact lSm rfl | exact lIm rfl | exact lGm rfl | exact lP rfl | exact lQ rfl | exact lB rfl rfl rfl)))) rfl (by first | exact .inl rfl | exact .inr (fun b rs h => by first | obtain ⟨rfl, rfl⟩ := h | obtain ⟨_, _, _, rfl, rfl⟩ := h; exact ⟨by repeat (first | exact flats_nil | refine flats_cons (by first | exact flat_val _ rfl | exact flat_row (fun _ => rfl) | exact flat_lst (fun _ => rfl)) ?_), by repeat (first | exact flats0 | refine flats1 (by first | exact flatB_row (fun _ => rfl) | exact flatB_lst (fun _ => rfl) | exact flatB_smap (fun _ => rfl) | exact flatB_imap (fun _ => rfl) | exact flatB_cells rfl) ?_)⟩))) ?_
        rintro r ⟨b', rs, ⟨rfl, rfl⟩, rfl⟩
        refine ⟨tn_ge _ _, ?_⟩
        conv => whnf
        exact ⟨rfl, rfl⟩
      · simp at hx
abbrev rdr (s : List UInt8) (b : Bool) : AB := .cells 100 [.str s, .bool b]
/-- A reader's number, in two ways. -/
theorem number_some {c least : Int} {s r : List UInt8} {n : Int} {b : Bool} (hs : s.length ≤ 9223372036854775000) (h : numR c least s = some (n, r)) : AIO Tryz.prog 52 [.ptr 0 0, .int .u8 c, .int .i64 least] [rdr s b] (fun bs rs => bs = [rdr r b] ∧ rs = [.val (.int .i64 n)]) := by
  have := numberW_ok c least s b hs
  rw [h] at this
  exact this
theorem number_none {c least : Int} {s : List UInt8} {b : Bool} (hs : s.length ≤ 9223372036854775000) (h : numR c least s = none) : AIO Tryz.prog 52 [.ptr 0 0, .int .u8 c, .int .i64 least] [rdr s b] (fun bs rs => bs = [rdr [] true] ∧ rs = [.val (.int .i64 0)]) := by
  have := numberW_ok c least s b hs
  rw [h] at this
  exact this
/-- What a call of a reader gives: the value, and what is left of it. -/
structure RS where
  rest : List UInt8
  bad : Bool
def numQ (c least : Int) (q : RS) : Int × RS :=
  match numR c least q.rest with
  | some (n, r) => (n, ⟨r, q.bad⟩)
  | none => (0, ⟨[], true⟩)
abbrev ro (q : RS) : AB := .cells 100 [.str q.rest, .bool q.bad]
theorem rnum_ok (q : RS) (hs : q.rest.length ≤ 9223372036854775000) : AIO Tryz.prog 44 [.ptr 0 0] [ro q] (fun bs rs => bs = [ro (numQ 59 0 q).2] ∧ rs = [.val (.int .i64 (numQ 59 0 q).1)]) := by
  unfold numQ
  cases h : numR 59 0 q.rest with
  | some x =>
    have hn := number_some (b := q.bad) (r := x.2) (n := x.1) hs h
    refine aio_of (C := cxP 1 5 [0, 2]) (cxPOk _ _ _) Tryz.func44 rfl (by decide) rfl (by exact Nat.le_of_ble_eq_true rfl) (by decide) rfl rfl ?_
    conv => whnf
    refine .raw _ _ rfl (fun h => by cases h) (callio_sem (hn) [0] _ rfl rfl ⟨rfl, trivial⟩ (by repeat (first | exact .nil | (apply BorL.cons; first | exact .map _ _ rfl | exact .ptr _ _ _ rfl | exact .own _ _ rfl | exact .fnp _ _ _ _ rfl | (apply BorIO.lend; first | exact lS rfl | exact lR rfl | exact lM rfl rfl | exact lL rfl | exact lX rfl | exact lN | exact lNl | exact lSm rfl | exact lIm rfl | exact lGm rfl | exact lP rfl | exact lQ rfl | exact lB rfl rfl rfl)))) rfl (by first | exact .inl rfl | exact .inr (fun b rs h => by first | obtain ⟨rfl, rfl⟩ := h | obtain ⟨_, _, _, rfl, rfl⟩ := h; exact ⟨by repeat (first | exact flats_nil | refine flats_cons (by first | exact flat_val _ rfl | exact flat_row (fun _ => rfl) | exact flat_lst (fun _ => rfl)) ?_), by repeat (first | exact flats0 | refine flats1 (by first | exact flatB_row (fun _ => rfl) | exact flatB_lst (fun _ => rfl) | exact flatB_smap (fun _ => rfl) | exact flatB_imap (fun _ => rfl) | exact flatB_cells rfl) ?_)⟩))) ?_
    rintro r ⟨b', rs, ⟨rfl, rfl⟩, rfl⟩
    refine ⟨tn_ge _ _, ?_⟩
    conv => whnf
    exact ⟨rfl, rfl⟩
  | none =>
    have hn := number_none (b := q.bad) hs h
    refine aio_of (C := cxP 1 5 [0, 2]) (cxPOk _ _ _) Tryz.func44 rfl (by decide) rfl (by exact Nat.le_of_ble_eq_true rfl) (by decide) rfl rfl ?_
    conv => whnf
    refine .raw _ _ rfl (fun h => by cases h) (callio_sem (hn) [0] _ rfl rfl ⟨rfl, trivial⟩ (by repeat (first | exact .nil | (apply BorL.cons; first | exact .map _ _ rfl | exact .ptr _ _ _ rfl | exact .own _ _ rfl | exact .fnp _ _ _ _ rfl | (apply BorIO.lend; first | exact lS rfl | exact lR rfl | exact lM rfl rfl | exact lL rfl | exact lX rfl | exact lN | exact lNl | exact lSm rfl | exact lIm rfl | exact lGm rfl | exact lP rfl | exact lQ rfl | exact lB rfl rfl rfl)))) rfl (by first | exact .inl rfl | exact .inr (fun b rs h => by first | obtain ⟨rfl, rfl⟩ := h | obtain ⟨_, _, _, rfl, rfl⟩ := h; exact ⟨by repeat (first | exact flats_nil | refine flats_cons (by first | exact flat_val _ rfl | exact flat_row (fun _ => rfl) | exact flat_lst (fun _ => rfl)) ?_), by repeat (first | exact flats0 | refine flats1 (by first | exact flatB_row (fun _ => rfl) | exact flatB_lst (fun _ => rfl) | exact flatB_smap (fun _ => rfl) | exact flatB_imap (fun _ => rfl) | exact flatB_cells rfl) ?_)⟩))) ?_
    rintro r ⟨b', rs, ⟨rfl, rfl⟩, rfl⟩
    refine ⟨tn_ge _ _, ?_⟩
    conv => whnf
    exact ⟨rfl, rfl⟩
theorem numR_some {c least : Int} {s r : List UInt8} {n : Int} (h : numR c least s = some (n, r)) : least ≤ n ∧ r.length ≤ s.length := by
  unfold numR at h
  simp only at h
  split at h
  · cases h
  · split at h
    · split at h
      · rename_i hk
        cases h
        exact ⟨hk.2, by rw [List.length_drop]; omega⟩
      · cases h
    · cases h
theorem numQ_le (c least : Int) (q : RS) (hl : least ≤ 0) : least ≤ (numQ c least q).1 ∧ (numQ c least q).2.rest.length ≤ q.rest.length := by
  unfold numQ
  cases h : numR c least q.rest with
  | some x => exact numR_some (r := x.2) (n := x.1) h
  | none => exact ⟨hl, Nat.zero_le _⟩
theorem done_p (s : List UInt8) (b : Bool) : APureV Tryz.prog 45 [.rop [.str s, .bool b]] (.bool (!b && decide (s = []))) := by
  refine apure_of (C := cx 15 [0, 2]) (cxOk _ _) Tryz.func45 rfl (by decide) rfl (by exact Nat.le_of_ble_eq_true rfl) (by decide) ?_
  conv => whnf
  rfl

end Go.Proofs.YtjlnaogechkjdaaGreatDoor


namespace Go.Proofs.YtjlnaogechkjdaaGreatDoor
open Go.Own
set_option maxHeartbeats 4000000
set_option maxRecDepth 100000

theorem nDigits_le : ∀ (k u : Nat), 1 ≤ k → u < 10 ^ k → Lib.nDigits u ≤ k
  | 0, _, h, _ => absurd h (by decide)
  | k + 1, u, _, h => by
    by_cases hu : u < 10
    · rw [Lib.nDigits_small hu]; omega
    · have hk : 1 ≤ k := by
        rcases Nat.eq_zero_or_pos k with rfl | h'
        · rw [Nat.zero_add, Nat.pow_one] at h; omega
        · exact h'
      rw [Lib.nDigits_big hu]
      rw [Nat.pow_succ] at h
      have := nDigits_le k (u / 10) hk (by omega)
      omega
theorem itoa_len (n : Int) (h : in64 n) : (Lib.itoa n).length ≤ 20 := by
  obtain ⟨h0, h1⟩ := h
  by_cases hneg : n < 0
  · obtain ⟨u, rfl⟩ : ∃ u : Nat, n = -(u : Int) := ⟨n.natAbs, by omega⟩
    rw [Lib.itoa_neg u (by omega), List.length_cons, Lib.decDigits_length]
    have := nDigits_le 19 u (by omega) (by omega)
    omega
  · obtain ⟨u, rfl⟩ : ∃ u : Nat, n = u := ⟨n.toNat, by omega⟩
    rw [Lib.itoa_nonneg, Lib.decDigits_length]
    have := nDigits_le 19 u (by omega) (by omega)
    omega
theorem decDigits_rec (u : Nat) : Lib.decDigits u = if u < 10 then [UInt8.ofNat (48 + u)] else Lib.decDigits (u / 10) ++ [UInt8.ofNat (48 + u % 10)] := by
  rw [Lib.decDigits]
  split <;> rfl
theorem dig_nat (d : Nat) (h : d < 10) : (UInt8.ofNat (48 + d)).toNat = 48 + d := by
  rw [UInt8.toNat_ofNat']
  omega
theorem decDigits_mem (u : Nat) : ∀ b ∈ Lib.decDigits u, 48 ≤ b.toNat ∧ b.toNat ≤ 57 := by
  induction u using Nat.strongRecOn with
  | _ u ih =>
    intro b hb
    rw [decDigits_rec] at hb
    split at hb
    · rename_i hu
      simp only [List.mem_cons, List.not_mem_nil, or_false] at hb
      subst hb
      rw [dig_nat u hu]
      omega
    · rename_i hu
      rw [List.mem_append] at hb
      rcases hb with hb | hb
      · exact ih (u / 10) (by omega) b hb
      · simp only [List.mem_cons, List.not_mem_nil, or_false] at hb
        subst hb
        rw [dig_nat _ (Nat.mod_lt _ (by decide))]
        have := Nat.mod_lt u (show 0 < 10 by decide)
        omega
theorem decDigits_ne (u : Nat) : Lib.decDigits u ≠ [] := by
  rw [decDigits_rec]
  split <;> simp
def thenP (e : Lib.NumEnd Nat) (f : Nat → Lib.NumEnd Nat) : Lib.NumEnd Nat :=
  match e with
  | .ok v => f v
  | e => e
theorem parse_append : ∀ (a b : List UInt8) (acc : Nat), Lib.parseUint10 acc (a ++ b) = thenP (Lib.parseUint10 acc a) (fun v => Lib.parseUint10 v b)
  | [], b, acc => rfl
  | c :: a, b, acc => by
    have ih := fun k => parse_append a b k
    rw [List.cons_append]
    by_cases h1 : 48 ≤ c.toNat ∧ c.toNat ≤ 57
    · by_cases h2 : 1844674407370955162 ≤ acc
      · simp only [Lib.parseUint10, if_pos h1, if_pos h2, thenP]
      · by_cases h3 : 18446744073709551616 ≤ acc * 10 + (c.toNat - 48)
        · simp only [Lib.parseUint10, if_pos h1, if_neg h2, if_pos h3, thenP]
        · simp only [Lib.parseUint10, if_pos h1, if_neg h2, if_neg h3]
          exact ih _
    · simp only [Lib.parseUint10, if_neg h1, thenP]
theorem parse_dec (u : Nat) (hu : u < 18446744073709551616) : Lib.parseUint10 0 (Lib.decDigits u) = .ok u := by
  induction u using Nat.strongRecOn with
  | _ u ih =>
    rw [decDigits_rec]
    split
    · rename_i h
      simp only [Lib.parseUint10]
      rw [dig_nat u h, if_pos (by omega), if_neg (by omega), if_neg (by omega)]
      congr 1
      omega
    · rename_i h
      rw [parse_append, ih (u / 10) (by omega) (by omega)]
      simp only [thenP, Lib.parseUint10]
      have := Nat.mod_lt u (show 0 < 10 by decide)
      rw [dig_nat _ this, if_pos (by omega), if_neg (by omega), if_neg (by omega)]
      congr 1
      omega
theorem mag_dec (u : Nat) (hu : u < 18446744073709551616) : Lib.parseMag (Lib.decDigits u) = .ok u := by
  unfold Lib.parseMag
  rw [if_neg (decDigits_ne u), parse_dec u hu]
theorem atoi_itoa (n : Int) (h : in64 n) : Lib.atoiAll (Lib.itoa n) = .ok n := by
  obtain ⟨h0, h1⟩ := h
  by_cases hneg : n < 0
  · obtain ⟨u, rfl⟩ : ∃ u : Nat, n = -(u : Int) := ⟨n.natAbs, by omega⟩
    rw [Lib.itoa_neg u (by omega), Lib.atoiAll_minus, mag_dec u (by omega)]
    show (if 9223372036854775808 < u then Lib.NumEnd.range else Lib.NumEnd.ok (-(u : Int))) = _
    rw [if_neg (by omega)]
  · obtain ⟨u, rfl⟩ : ∃ u : Nat, n = u := ⟨n.toNat, by omega⟩
    rw [Lib.itoa_nonneg]
    have hm := decDigits_mem u
    have hp := mag_dec u (by omega)
    cases hd : Lib.decDigits u with
    | nil => exact absurd hd (decDigits_ne u)
    | cons c r =>
      rw [hd] at hm hp
      have hc := hm c (List.mem_cons_self ..)
      rw [Lib.atoiAll_plain c r (by omega) (by omega), hp]
      show (if 9223372036854775808 ≤ u then Lib.NumEnd.range else Lib.NumEnd.ok (u : Int)) = _
      rw [if_neg (by omega)]
theorem itoa_mem (n : Int) : ∀ b ∈ Lib.itoa n, b.toNat ≤ 57 := by
  intro b hb
  by_cases hneg : n < 0
  · obtain ⟨u, rfl⟩ : ∃ u : Nat, n = -(u : Int) := ⟨n.natAbs, by omega⟩
    rw [Lib.itoa_neg u (by omega), List.mem_cons] at hb
    rcases hb with rfl | hb
    · decide
    · exact (decDigits_mem u b hb).2
  · obtain ⟨u, rfl⟩ : ∃ u : Nat, n = u := ⟨n.toNat, by omega⟩
    rw [Lib.itoa_nonneg] at hb
    exact (decDigits_mem u b hb).2
theorem indexByte_at : ∀ (a : List UInt8) (c : UInt8) (r : List UInt8), c ∉ a → Lib.indexByte (a ++ c :: r) c = (a.length : Int)
  | [], c, r, _ => by
    rw [List.nil_append]
    unfold Lib.indexByte
    rw [if_pos (by simp)]
    rfl
  | b :: a, c, r, h => by
    rw [List.mem_cons, not_or] at h
    rw [List.cons_append]
    unfold Lib.indexByte
    rw [indexByte_at a c r h.2, if_neg (by simp; exact fun h' => h.1 h'.symm), if_neg (by simp)]
    simp
/-- A byte that ends a number. -/
def EndB (c : Int) : Prop := 57 < c.toNat.toUInt8.toNat
abbrev cb (c : Int) : UInt8 := c.toNat.toUInt8
theorem numR_back (c least n : Int) (r : List UInt8) (hn : in64 n) (hl : least ≤ n) (hc : EndB c) : numR c least (Lib.itoa n ++ cb c :: r) = some (n, r) := by
  have hlen := itoa_len n hn
  have hmem : cb c ∉ Lib.itoa n := fun h => by
    have := itoa_mem n _ h
    unfold EndB at hc
    unfold cb at this
    omega
  have htk : (Lib.itoa n ++ cb c :: r).take (min (Lib.itoa n ++ cb c :: r).length 21) = Lib.itoa n ++ cb c :: r.take (min (Lib.itoa n ++ cb c :: r).length 21 - (Lib.itoa n).length - 1) := by
    rw [List.take_append, List.take_of_length_le (by simp; omega)]
    have : min (Lib.itoa n ++ cb c :: r).length 21 - (Lib.itoa n).length = (min (Lib.itoa n ++ cb c :: r).length 21 - (Lib.itoa n).length - 1) + 1 := by
      simp only [List.length_append, List.length_cons]
      omega
    rw [this, List.take_succ_cons]
    rfl
  unfold numR
  simp only
  rw [htk, indexByte_at _ _ _ hmem, if_neg (by omega), Int.toNat_natCast, List.take_append_of_le_length (Nat.le_refl _), List.take_length, atoi_itoa n hn]
  simp only
  rw [if_pos ⟨trivial, hl⟩]
  congr 2
  rw [List.drop_append]
  simp
theorem numQ_back (c least n : Int) (r : List UInt8) (b : Bool) (hn : in64 n) (hl : least ≤ n) (hc : EndB c) : numQ c least ⟨Lib.itoa n ++ cb c :: r, b⟩ = (n, ⟨r, b⟩) := by
  unfold numQ
  rw [numR_back c least n r hn hl hc]
/-- A reader that has failed has nothing left. -/
def Dead (q : RS) : Prop := q.bad = true → q.rest = []
def frB (s : List UInt8) : Nat := if (decide (0 < (s.length : Int)) && decide (((s.getD 0 0).toNat : Int) = 45)) = true then 1 else 0
def dgB (s : List UInt8) : List UInt8 := s.drop (frB s)
def bkF (l : List UInt8) : Int := l.foldl (fun n c => IntKind.i64.wrap (10 * n - ((c.toNat : Int) - 48))) 0
def valB (l : List UInt8) : Int := l.foldl (fun n c => 10 * n - ((c.toNat : Int) - 48)) 0
def backV (s : List UInt8) : Int := if frB s = 0 then IntKind.i64.wrap (0 - bkF (dgB s)) else bkF (dgB s)
def BackR (s : List UInt8) (v : Int) (b : Bool) : Prop := (b = true → s = Lib.itoa v ∧ in64 v) ∧ (b = false → ∀ m, in64 m → s ≠ Lib.itoa m)
abbrev mn : Int := -9223372036854775808
abbrev qo (q : RS) : AB := .cells 108 [.str q.rest, .bool q.bad]
end Go.Proofs.YtjlnaogechkjdaaGreatDoor


namespace Go.Proofs.YtjlnaogechkjdaaGreatDoor
open Go.Own
set_option maxHeartbeats 4000000
set_option maxRecDepth 100000

def textE (e : Ent) : List UInt8 := ((((numS e.id ++ numS e.day) ++ numS e.frm) ++ numS e.to) ++ numS e.amt)
/-- The text of an entry. -/
def textQ (e : Ent) : List UInt8 := if rightE e = true then textE e else []
def five (e : Ent) : List Int := [e.id, e.day, e.frm, e.to, e.amt]
def accT (K : List Int) (k : Nat) : List UInt8 := (K.take k).foldl (fun s n => s ++ numS n) []
theorem numS_len (n : Int) (h : in64 n) : (numS n).length ≤ 21 := by
  have := itoa_len n h
  unfold numS intS
  split
  · exact Nat.zero_le _
  · rw [List.length_append, List.length_singleton]
    omega
theorem five_in {e : Ent} (h : rightE e = true) : ∀ n ∈ five e, in64 n ∧ 0 ≤ n := by
  have hr := rightE_iff.1 h
  intro n hn
  unfold five at hn
  unfold in64
  simp only [List.mem_cons, List.not_mem_nil, or_false] at hn
  rcases hn with rfl | rfl | rfl | rfl | rfl <;> omega
theorem accT_succ {K : List Int} {k : Nat} (hk : k < K.length) : accT K (k + 1) = accT K k ++ numS (K.getD k 0) := by
  unfold accT
  rw [take_getD (d := 0) hk, List.foldl_append]
  rfl
theorem text_ok (e : Ent) : APureV Tryz.prog 15 [encE e] (.str (textQ e)) := by
  have hre := right_ok e
  unfold textQ
  cases hr : rightE e with
  | false =>
    rw [hr] at hre
    refine apure_of (C := cx 31 [0, 1, 2, 3, 5, 8, 19, 20, 21, 22]) (cxOk _ _) Tryz.func15 rfl (by decide) rfl (by exact Nat.le_of_ble_eq_true rfl) (by decide) ?_
    conv => whnf
    refine .one _ _ _ (fun _ => hre) (by repeat (first | exact .nil | (apply BorL.cons; first | exact lS rfl | exact lR rfl | exact lM rfl rfl | exact lL rfl | exact lX rfl | exact lN | exact lNl | exact lSm rfl | exact lIm rfl | exact lGm rfl | exact lP rfl | exact lQ rfl | exact lB rfl rfl rfl))) (by first | exact .inl rfl | exact .inr (by repeat (first | exact flats_nil | refine flats_cons (by first | exact flat_val _ rfl | exact flat_row (fun _ => rfl) | exact flat_lst (fun _ => rfl)) ?_))) (by first | exact .inr rfl | exact .inl rfl) ?_
    conv => whnf
    refine ⟨fun hx => ?_, fun hx => ?_⟩
    · conv => whnf
      rfl
    · cases hx
  | true =>
    rw [hr] at hre
    rw [if_pos rfl]
    have ht : textE e = accT (five e) 5 := by
      unfold accT five textE
      simp
    rw [ht]
    have hin := five_in hr
    have hlen : (five e).length = 5 := rfl
    have h5 : five e = [e.id, e.day, e.frm, e.to, e.amt] := rfl
    have hal : ∀ k, k ≤ 5 → (accT (five e) k).length ≤ 21 * k := by
      intro k
      induction k with
      | zero => intro _; exact Nat.le_refl _
      | succ k ih =>
        intro hk
        have h1 := ih (by omega)
        rw [accT_succ (by omega), List.length_append]
        have := numS_len _ (hin _ (getD_mem (d := 0) (show k < (five e).length by omega))).1
        omega
    refine apure_of (C := cx 31 [0, 1, 2, 3, 5, 8, 19, 20, 21, 22]) (cxOk _ _) Tryz.func15 rfl (by decide) rfl (by exact Nat.le_of_ble_eq_true rfl) (by decide) ?_
    conv => whnf
    refine .one _ _ _ (fun _ => hre) (by repeat (first | exact .nil | (apply BorL.cons; first | exact lS rfl | exact lR rfl | exact lM rfl rfl | exact lL rfl | exact lX rfl | exact lN | exact lNl | exact lSm rfl | exact lIm rfl | exact lGm rfl | exact lP rfl | exact lQ rfl | exact lB rfl rfl rfl))) (by first | exact .inl rfl | exact .inr (by repeat (first | exact flats_nil | refine flats_cons (by first | exact flat_val _ rfl | exact flat_row (fun _ => rfl) | exact flat_lst (fun _ => rfl)) ?_))) (by first | exact .inr rfl | exact .inl rfl) ?_
    conv => whnf
    refine ⟨fun hx => ?_, fun hx => ?_⟩
    · cases hx
    conv => whnf
    refine loop_up (cxOk _ _) 5 (fun _ => True) (fun k => ⟨[(3, .str (accT (five e) k)), (19, .own 0), (20, .int .i64 5), (21, .int .i64 (k : Nat))], [(0, .row 3 1 encI 0 (five e))], 1⟩) trivial ((wk_of [(0, .id 1)] rfl ⟨.base (.tree _ _ rfl rfl), (by first | exact .base (.own _ _ rfl) | exact .base (.nilown _ rfl) | exact .base (.trunc _ _ _ rfl)), .base (.tree _ _ rfl rfl), .base (.tree _ _ rfl rfl), trivial⟩ ⟨⟨_, rfl, (by first | exact .row _ _ _ _ _ _ _ rfl rfl | exact .lstrow _ _ _ _ _ _ _ rfl rfl | exact .nilrow _ _ _ _ _ rfl | exact .truncrow _ _ _ _ _ _ _ _ rfl (by omega) rfl)⟩, trivial⟩)) ?_
    intro k hk _
    conv => whnf
    refine ⟨fun hc => ?_, fun hc => ?_⟩
    · simp only [decide_eq_true_eq] at hc
      have hlt : k < 5 := by omega
      have hn := numW_ok _ (hin _ (getD_mem (d := 0) (show k < (five e).length by omega))).1
      have hkk : (five e).getD (k : Int).toNat 0 = (five e).getD k 0 := by rw [Int.toNat_natCast]
      have hak := accT_succ (K := five e) (k := k) (by omega)
      have hl1 := hal k (by omega)
      have hl2 := hal (k + 1) (by omega)
      rw [hak, List.length_append] at hl2
      generalize hT' : accT (five e) (k + 1) = T' at *
      generalize accT (five e) k = T at *
      conv => whnf
      refine And.intro ⟨by omega, by omega⟩ ?_; conv => whnf
      refine And.intro (by omega) (And.intro rfl ?_); conv => whnf
      rw [hkk]
      refine .one _ _ _ (fun _ => hn) (by repeat (first | exact .nil | (apply BorL.cons; first | exact lS rfl | exact lR rfl | exact lM rfl rfl | exact lL rfl | exact lX rfl | exact lN | exact lNl | exact lSm rfl | exact lIm rfl | exact lGm rfl | exact lP rfl | exact lQ rfl | exact lB rfl rfl rfl))) (by first | exact .inl rfl | exact .inr (by repeat (first | exact flats_nil | refine flats_cons (by first | exact flat_val _ rfl | exact flat_row (fun _ => rfl) | exact flat_lst (fun _ => rfl)) ?_))) (by first | exact .inr rfl | exact .inl rfl) ?_
      conv => whnf
      refine And.intro (show ((T.length + (numS ((five e).getD k 0)).length : Nat) : Int) ≤ 9223372036854775807 by omega) ?_
      refine And.intro ⟨by omega, by omega⟩ ?_; conv => whnf
      refine up hlt trivial ((wk_of [(0, .id 0)] rfl ⟨.base (.tree _ _ (show AV.str _ = AV.str _ by congr 1; exact hak.symm.trans hT'.symm) rfl), (by first | exact .base (.own _ _ rfl) | exact .base (.nilown _ rfl) | exact .base (.trunc _ _ _ rfl)), .base (.tree _ _ rfl rfl), .base (.tree _ _ rfl rfl), trivial⟩ ⟨⟨_, rfl, (by first | exact .row _ _ _ _ _ _ _ rfl rfl | exact .lstrow _ _ _ _ _ _ _ rfl rfl | exact .nilrow _ _ _ _ _ rfl | exact .truncrow _ _ _ _ _ _ _ _ rfl (by omega) rfl)⟩, trivial⟩))
    · simp only [decide_eq_false_iff_not] at hc
      have : k = 5 := by omega
      subst this
      conv => whnf
      rfl

end Go.Proofs.YtjlnaogechkjdaaGreatDoor


namespace Go.Proofs.YtjlnaogechkjdaaGreatDoor
open Go.Own
set_option maxHeartbeats 4000000
set_option maxRecDepth 100000

def sQ (s : List UInt8) : Nat → RS
  | 0 => ⟨s, false⟩
  | k + 1 => (numQ 59 0 (sQ s k)).2
def vQ (s : List UInt8) (k : Nat) : Int := (numQ 59 0 (sQ s k)).1
def doneB (q : RS) : Bool := !q.bad && decide (q.rest = [])
def entQ (s : List UInt8) : Ent := ⟨vQ s 0, vQ s 1, vQ s 2, vQ s 3, vQ s 4⟩
def readB (s : List UInt8) : Bool := doneB (sQ s 5) && rightE (entQ s)
/-- What is read of a text: the entry, and the error. -/
def readE (s : List UInt8) : Ent := if readB s = true then entQ s else e0
def readC (s : List UInt8) : Int := if readB s = true then 0 else 2
/-- What was read before step k. -/
def upTo (v : Nat → Int) (k i : Nat) : Int :=
  match Nat.blt i k with
  | true => v i
  | false => 0
theorem sQ_rest (s : List UInt8) : ∀ k, (sQ s k).rest.length ≤ s.length
  | 0 => Nat.le_refl _
  | k + 1 => Nat.le_trans (numQ_le 59 0 (sQ s k) (Int.le_refl _)).2 (sQ_rest s k)
theorem wopen_ok (s : List UInt8) : APure Tryz.prog 43 [.str s] (fun rs => rs = [.new (.cells 100 [.str s, .bool false])]) := by
  refine apure_of (C := cx 6 [0, 2]) (cxOk _ _) Tryz.func43 rfl (by decide) rfl (by exact Nat.le_of_ble_eq_true rfl) (by decide) ?_
  conv => whnf
  rfl
theorem read_ok (s : List UInt8) (hs : s.length ≤ 9223372036854775000) : APure Tryz.prog 31 [.str s] (fun rs => rs = [.val (encE (readE s)), .val (.int .i64 (readC s))]) := by
  have ho := wopen_ok s
  have hle := sQ_rest s
  have hv : ∀ k, vQ s k = (numQ 59 0 (sQ s k)).1 := fun _ => rfl
  have hn : ∀ k, sQ s (k + 1) = (numQ 59 0 (sQ s k)).2 := fun _ => rfl
  have h0 : sQ s 0 = ⟨s, false⟩ := rfl
  have he : entQ s = ⟨vQ s 0, vQ s 1, vQ s 2, vQ s 3, vQ s 4⟩ := rfl
  have hd := done_p (sQ s 5).rest (sQ s 5).bad
  have hr := right_ok (entQ s)
  have hb : readB s = (doneB (sQ s 5) && rightE (entQ s)) := rfl
  unfold readE readC
  rw [hb]
  generalize rightE (entQ s) = R at *
  rw [he] at hr ⊢
  unfold doneB
  generalize vQ s = V at *
  generalize sQ s = Q at *
  refine apure_of (C := cx 36 [0, 2, 3, 4, 5, 7, 15, 16, 17, 18, 33]) (cxOk _ _) Tryz.func31 rfl (by decide) rfl (by exact Nat.le_of_ble_eq_true rfl) (by decide) ?_
  conv => whnf
  refine .one _ _ _ (fun _ => ho) (by repeat (first | exact .nil | (apply BorL.cons; first | exact lS rfl | exact lR rfl | exact lM rfl rfl | exact lL rfl | exact lX rfl | exact lN | exact lNl | exact lSm rfl | exact lIm rfl | exact lGm rfl | exact lP rfl | exact lQ rfl | exact lB rfl rfl rfl))) (by first | exact .inl rfl | exact .inr (by repeat (first | exact flats_nil | refine flats_cons (by first | exact flat_val _ rfl | exact flat_row (fun _ => rfl) | exact flat_lst (fun _ => rfl)) ?_))) (by first | exact .inr rfl | exact .inl rfl) ?_
  conv => whnf
  refine loop_up (cxOk _ _) 5 (fun _ => True) (fun k => ⟨[(0, .str s), (2, .ptr 0 0), (4, .ptr 1 0), (5, .ptr 2 0), (15, .csl 3 5), (16, .int .i64 5), (17, .int .i64 ((k : Nat) : Int))], [(0, .cells 33 [.int .i64 0, .int .i64 0, .int .i64 0, .int .i64 0, .int .i64 0]), (1, .cells 100 [.str (Q k).rest, .bool (Q k).bad]), (2, .cells 33 [.int .i64 (upTo V k 0), .int .i64 (upTo V k 1), .int .i64 (upTo V k 2), .int .i64 (upTo V k 3), .int .i64 (upTo V k 4)]), (3, .cells 90 [.ptr 2 0, .ptr 2 1, .ptr 2 2, .ptr 2 3, .ptr 2 4])], 4⟩) trivial (by
    rw [h0]
    exact (wk_of [(0, .id 0), (1, .id 1), (2, .id 2), (3, .id 3)] rfl ⟨.base (.tree _ _ rfl rfl), .base (.ptr _ _ _ rfl), .base (.ptr _ _ _ rfl), .base (.ptr _ _ _ rfl), .base (.csl _ _ _ rfl), .base (.tree _ _ rfl rfl), .base (.tree _ _ rfl rfl), trivial⟩ ⟨⟨_, rfl, .cells _ _ _ _ rfl (by repeat (first | exact .nil | refine .cons (by first | exact .base (.tree _ _ rfl rfl) | exact .base (.own _ _ rfl) | exact .base (.ptr _ _ _ rfl) | exact .base (.map _ _ rfl) | exact .base (.nilown _ rfl) | exact .fn _ _ _ _ _ .nil (by repeat (first | exact .nil | refine .cons (by exact .ptr _ _ _ rfl) ?_))) ?_)) rfl⟩, ⟨_, rfl, .cells _ _ _ _ rfl (by repeat (first | exact .nil | refine .cons (by first | exact .base (.tree _ _ rfl rfl) | exact .base (.own _ _ rfl) | exact .base (.ptr _ _ _ rfl) | exact .base (.map _ _ rfl) | exact .base (.nilown _ rfl) | exact .fn _ _ _ _ _ .nil (by repeat (first | exact .nil | refine .cons (by exact .ptr _ _ _ rfl) ?_))) ?_)) rfl⟩, ⟨_, rfl, .cells _ _ _ _ rfl (by repeat (first | exact .nil | refine .cons (by first | exact .base (.tree _ _ rfl rfl) | exact .base (.own _ _ rfl) | exact .base (.ptr _ _ _ rfl) | exact .base (.map _ _ rfl) | exact .base (.nilown _ rfl) | exact .fn _ _ _ _ _ .nil (by repeat (first | exact .nil | refine .cons (by exact .ptr _ _ _ rfl) ?_))) ?_)) rfl⟩, ⟨_, rfl, .cells _ _ _ _ rfl (by repeat (first | exact .nil | refine .cons (by first | exact .base (.tree _ _ rfl rfl) | exact .base (.own _ _ rfl) | exact .base (.ptr _ _ _ rfl) | exact .base (.map _ _ rfl) | exact .base (.nilown _ rfl) | exact .fn _ _ _ _ _ .nil (by repeat (first | exact .nil | refine .cons (by exact .ptr _ _ _ rfl) ?_))) ?_)) rfl⟩, trivial⟩)) ?_
  intro k hk _
  conv => whnf
  refine ⟨fun hc => ?_, fun hc => ?_⟩
  · simp only [decide_eq_true_eq] at hc
    have hlt : k < 5 := by omega
    have hk5 : k = 0 ∨ k = 1 ∨ k = 2 ∨ k = 3 ∨ k = 4 := by omega
    rcases hk5 with rfl | rfl | rfl | rfl | rfl
    · have hnum := rnum_ok (Q 0) (by have := hle 0; omega)
      rw [← hv, ← hn] at hnum
      conv => whnf
      refine And.intro ⟨by omega, by omega⟩ ?_; conv => whnf
      refine .raw _ _ rfl (fun h => by cases h) (callio_sem (hnum) [1] _ rfl rfl ⟨rfl, trivial⟩ (by repeat (first | exact .nil | (apply BorL.cons; first | exact .map _ _ rfl | exact .ptr _ _ _ rfl | exact .own _ _ rfl | exact .fnp _ _ _ _ rfl | (apply BorIO.lend; first | exact lS rfl | exact lR rfl | exact lM rfl rfl | exact lL rfl | exact lX rfl | exact lN | exact lNl | exact lSm rfl | exact lIm rfl | exact lGm rfl | exact lP rfl | exact lQ rfl | exact lB rfl rfl rfl)))) rfl (by first | exact .inl rfl | exact .inr (fun b rs h => by first | obtain ⟨rfl, rfl⟩ := h | obtain ⟨_, _, _, rfl, rfl⟩ := h; exact ⟨by repeat (first | exact flats_nil | refine flats_cons (by first | exact flat_val _ rfl | exact flat_row (fun _ => rfl) | exact flat_lst (fun _ => rfl)) ?_), by repeat (first | exact flats0 | refine flats1 (by first | exact flatB_row (fun _ => rfl) | exact flatB_lst (fun _ => rfl) | exact flatB_smap (fun _ => rfl) | exact flatB_imap (fun _ => rfl) | exact flatB_cells rfl) ?_)⟩))) ?_
      rintro w ⟨b', rs, ⟨rfl, rfl⟩, rfl⟩
      refine ⟨tn_ge _ _, ?_⟩
      conv => whnf
      refine And.intro ⟨by omega, by omega⟩ ?_; conv => whnf
      refine up (by decide) trivial ((wk_of [(0, .id 0), (1, .id 1), (2, .id 2), (3, .id 3)] rfl ⟨.base (.tree _ _ rfl rfl), .base (.ptr _ _ _ rfl), .base (.ptr _ _ _ rfl), .base (.ptr _ _ _ rfl), .base (.csl _ _ _ rfl), .base (.tree _ _ rfl rfl), .base (.tree _ _ rfl rfl), trivial⟩ ⟨⟨_, rfl, .cells _ _ _ _ rfl (by repeat (first | exact .nil | refine .cons (by first | exact .base (.tree _ _ rfl rfl) | exact .base (.own _ _ rfl) | exact .base (.ptr _ _ _ rfl) | exact .base (.map _ _ rfl) | exact .base (.nilown _ rfl) | exact .fn _ _ _ _ _ .nil (by repeat (first | exact .nil | refine .cons (by exact .ptr _ _ _ rfl) ?_))) ?_)) rfl⟩, ⟨_, rfl, .cells _ _ _ _ rfl (by repeat (first | exact .nil | refine .cons (by first | exact .base (.tree _ _ rfl rfl) | exact .base (.own _ _ rfl) | exact .base (.ptr _ _ _ rfl) | exact .base (.map _ _ rfl) | exact .base (.nilown _ rfl) | exact .fn _ _ _ _ _ .nil (by repeat (first | exact .nil | refine .cons (by exact .ptr _ _ _ rfl) ?_))) ?_)) rfl⟩, ⟨_, rfl, .cells _ _ _ _ rfl (by repeat (first | exact .nil | refine .cons (by first | exact .base (.tree _ _ rfl rfl) | exact .base (.own _ _ rfl) | exact .base (.ptr _ _ _ rfl) | exact .base (.map _ _ rfl) | exact .base (.nilown _ rfl) | exact .fn _ _ _ _ _ .nil (by repeat (first | exact .nil | refine .cons (by exact .ptr _ _ _ rfl) ?_))) ?_)) rfl⟩, ⟨_, rfl, .cells _ _ _ _ rfl (by repeat (first | exact .nil | refine .cons (by first | exact .base (.tree _ _ rfl rfl) | exact .base (.own _ _ rfl) | exact .base (.ptr _ _ _ rfl) | exact .base (.map _ _ rfl) | exact .base (.nilown _ rfl) | exact .fn _ _ _ _ _ .nil (by repeat (first | exact .nil | refine .cons (by exact .ptr _ _ _ rfl) ?_))) ?_)) rfl⟩, trivial⟩))
    · have hnum := rnum_ok (Q 1) (by have := hle 1; omega)
      rw [← hv, ← hn] at hnum
      conv => whnf
      refine And.intro ⟨by omega, by omega⟩ ?_; conv => whnf
      refine .raw _ _ rfl (fun h => by cases h) (callio_sem (hnum) [1] _ rfl rfl ⟨rfl, trivial⟩ (by repeat (first | exact .nil | (apply BorL.cons; first | exact .map _ _ rfl | exact .ptr _ _ _ rfl | exact .own _ _ rfl | exact .fnp _ _ _ _ rfl | (apply BorIO.lend; first | exact lS rfl | exact lR rfl | exact lM rfl rfl | exact lL rfl | exact lX rfl | exact lN | exact lNl | exact lSm rfl | exact lIm rfl | exact lGm rfl | exact lP rfl | exact lQ rfl | exact lB rfl rfl rfl)))) rfl (by first | exact .inl rfl | exact .inr (fun b rs h => by first | obtain ⟨rfl, rfl⟩ := h | obtain ⟨_, _, _, rfl, rfl⟩ := h; exact ⟨by repeat (first | exact flats_nil | refine flats_cons (by first | exact flat_val _ rfl | exact flat_row (fun _ => rfl) | exact flat_lst (fun _ => rfl)) ?_), by repeat (first | exact flats0 | refine flats1 (by first | exact flatB_row (fun _ => rfl) | exact flatB_lst (fun _ => rfl) | exact flatB_smap (fun _ => rfl) | exact flatB_imap (fun _ => rfl) | exact flatB_cells rfl) ?_)⟩))) ?_
      rintro w ⟨b', rs, ⟨rfl, rfl⟩, rfl⟩
      refine ⟨tn_ge _ _, ?_⟩
      conv => whnf
      refine And.intro ⟨by omega, by omega⟩ ?_; conv => whnf
      refine up (by decide) trivial ((wk_of [(0, .id 0), (1, .id 1), (2, .id 2), (3, .id 3)] rfl ⟨.base (.tree _ _ rfl rfl), .base (.ptr _ _ _ rfl), .base (.ptr _ _ _ rfl), .base (.ptr _ _ _ rfl), .base (.csl _ _ _ rfl), .base (.tree _ _ rfl rfl), .base (.tree _ _ rfl rfl), trivial⟩ ⟨⟨_, rfl, .cells _ _ _ _ rfl (by repeat (first | exact .nil | refine .cons (by first | exact .base (.tree _ _ rfl rfl) | exact .base (.own _ _ rfl) | exact .base (.ptr _ _ _ rfl) | exact .base (.map _ _ rfl) | exact .base (.nilown _ rfl) | exact .fn _ _ _ _ _ .nil (by repeat (first | exact .nil | refine .cons (by exact .ptr _ _ _ rfl) ?_))) ?_)) rfl⟩, ⟨_, rfl, .cells _ _ _ _ rfl (by repeat (first | exact .nil | refine .cons (by first | exact .base (.tree _ _ rfl rfl) | exact .base (.own _ _ rfl) | exact .base (.ptr _ _ _ rfl) | exact .base (.map _ _ rfl) | exact .base (.nilown _ rfl) | exact .fn _ _ _ _ _ .nil (by repeat (first | exact .nil | refine .cons (by exact .ptr _ _ _ rfl) ?_))) ?_)) rfl⟩, ⟨_, rfl, .cells _ _ _ _ rfl (by repeat (first | exact .nil | refine .cons (by first | exact .base (.tree _ _ rfl rfl) | exact .base (.own _ _ rfl) | exact .base (.ptr _ _ _ rfl) | exact .base (.map _ _ rfl) | exact .base (.nilown _ rfl) | exact .fn _ _ _ _ _ .nil (by repeat (first | exact .nil | refine .cons (by exact .ptr _ _ _ rfl) ?_))) ?_)) rfl⟩, ⟨_, rfl, .cells _ _ _ _ rfl (by repeat (first | exact .nil | refine .cons (by first | exact .base (.tree _ _ rfl rfl) | exact .base (.own _ _ rfl) | exact .base (.ptr _ _ _ rfl) | exact .base (.map _ _ rfl) | exact .base (.nilown _ rfl) | exact .fn _ _ _ _ _ .nil (by repeat (first | exact .nil | refine .cons (by exact .ptr _ _ _ rfl) ?_))) ?_)) rfl⟩, trivial⟩))
    · have hnum := rnum_ok (Q 2) (by have := hle 2; omega)
      rw [← hv, ← hn] at hnum
      conv => whnf
      refine And.intro ⟨by omega, by omega⟩ ?_; conv => whnf
      refine .raw _ _ rfl (fun h => by cases h) (callio_sem (hnum) [1] _ rfl rfl ⟨rfl, trivial⟩ (by repeat (first | exact .nil | (apply BorL.cons; first | exact .map _ _ rfl | exact .ptr _ _ _ rfl | exact .own _ _ rfl | exact .fnp _ _ _ _ rfl | (apply BorIO.lend; first | exact lS rfl | exact lR rfl | exact lM rfl rfl | exact lL rfl | exact lX rfl | exact lN | exact lNl | exact lSm rfl | exact lIm rfl | exact lGm rfl | exact lP rfl | exact lQ rfl | exact lB rfl rfl rfl)))) rfl (by first | exact .inl rfl | exact .inr (fun b rs h => by first | obtain ⟨rfl, rfl⟩ := h | obtain ⟨_, _, _, rfl, rfl⟩ := h; exact ⟨by repeat (first | exact flats_nil | refine flats_cons (by first | exact flat_val _ rfl | exact flat_row (fun _ => rfl) | exact flat_lst (fun _ => rfl)) ?_), by repeat (first | exact flats0 | refine flats1 (by first | exact flatB_row (fun _ => rfl) | exact flatB_lst (fun _ => rfl) | exact flatB_smap (fun _ => rfl) | exact flatB_imap (fun _ => rfl) | exact flatB_cells rfl) ?_)⟩))) ?_
      rintro w ⟨b', rs, ⟨rfl, rfl⟩, rfl⟩
      refine ⟨tn_ge _ _, ?_⟩
      conv => whnf
      refine And.intro ⟨by omega, by omega⟩ ?_; conv => whnf
      refine up (by decide) trivial ((wk_of [(0, .id 0), (1, .id 1), (2, .id 2), (3, .id 3)] rfl ⟨.base (.tree _ _ rfl rfl), .base (.ptr _ _ _ rfl), .base (.ptr _ _ _ rfl), .base (.ptr _ _ _ rfl), .base (.csl _ _ _ rfl), .base (.tree _ _ rfl rfl), .base (.tree _ _ rfl rfl), trivial⟩ ⟨⟨_, rfl, .cells _ _ _ _ rfl (by repeat (first | exact .nil | refine .cons (by first | exact .base (.tree _ _ rfl rfl) | exact .base (.own _ _ rfl) | exact .base (.ptr _ _ _ rfl) | exact .base (.map _ _ rfl) | exact .base (.nilown _ rfl) | exact .fn _ _ _ _ _ .nil (by repeat (first | exact .nil | refine .cons (by exact .ptr _ _ _ rfl) ?_))) ?_)) rfl⟩, ⟨_, rfl, .cells _ _ _ _ rfl (by repeat (first | exact .nil | refine .cons (by first | exact .base (.tree _ _ rfl rfl) | exact .base (.own _ _ rfl) | exact .base (.ptr _ _ _ rfl) | exact .base (.map _ _ rfl) | exact .base (.nilown _ rfl) | exact .fn _ _ _ _ _ .nil (by repeat (first | exact .nil | refine .cons (by exact .ptr _ _ _ rfl) ?_))) ?_)) rfl⟩, ⟨_, rfl, .cells _ _ _ _ rfl (by repeat (first | exact .nil | refine .cons (by first | exact .base (.tree _ _ rfl rfl) | exact .base (.own _ _ rfl) | exact .base (.ptr _ _ _ rfl) | exact .base (.map _ _ rfl) | exact .base (.nilown _ rfl) | exact .fn _ _ _ _ _ .nil (by repeat (first | exact .nil | refine .cons (by exact .ptr _ _ _ rfl) ?_))) ?_)) rfl⟩, ⟨_, rfl, .cells _ _ _ _ rfl (by repeat (first | exact .nil | refine .cons (by first | exact .base (.tree _ _ rfl rfl) | exact .base (.own _ _ rfl) | exact .base (.ptr _ _ _ rfl) | exact .base (.map _ _ rfl) | exact .base (.nilown _ rfl) | exact .fn _ _ _ _ _ .nil (by repeat (first | exact .nil | refine .cons (by exact .ptr _ _ _ rfl) ?_))) ?_)) rfl⟩, trivial⟩))
    · have hnum := rnum_ok (Q 3) (by have := hle 3; omega)
      rw [← hv, ← hn] at hnum
      conv => whnf
      refine And.intro ⟨by omega, by omega⟩ ?_; conv => whnf
      refine .raw _ _ rfl (fun h => by cases h) (callio_sem (hnum) [1] _ rfl rfl ⟨rfl, trivial⟩ (by repeat (first | exact .nil | (apply BorL.cons; first | exact .map _ _ rfl | exact .ptr _ _ _ rfl | exact .own _ _ rfl | exact .fnp _ _ _ _ rfl | (apply BorIO.lend; first | exact lS rfl | exact lR rfl | exact lM rfl rfl | exact lL rfl | exact lX rfl | exact lN | exact lNl | exact lSm rfl | exact lIm rfl | exact lGm rfl | exact lP rfl | exact lQ rfl | exact lB rfl rfl rfl)))) rfl (by first | exact .inl rfl | exact .inr (fun b rs h => by first | obtain ⟨rfl, rfl⟩ := h | obtain ⟨_, _, _, rfl, rfl⟩ := h; exact ⟨by repeat (first | exact flats_nil | refine flats_cons (by first | exact flat_val _ rfl | exact flat_row (fun _ => rfl) | exact flat_lst (fun _ => rfl)) ?_), by repeat (first | exact flats0 | refine flats1 (by first | exact flatB_row (fun _ => rfl) | exact flatB_lst (fun _ => rfl) | exact flatB_smap (fun _ => rfl) | exact flatB_imap (fun _ => rfl) | exact flatB_cells rfl) ?_)⟩))) ?_
      rintro w ⟨b', rs, ⟨rfl, rfl⟩, rfl⟩
      refine ⟨tn_ge _ _, ?_⟩
      conv => whnf
      refine And.intro ⟨by omega, by omega⟩ ?_; conv => whnf
      refine up (by decide) trivial ((wk_of [(0, .id 0), (1, .id 1), (2, .id 2), (3, .id 3)] rfl ⟨.base (.tree _ _ rfl rfl), .base (.ptr _ _ _ rfl), .base (.ptr _ _ _ rfl), .base (.ptr _ _ _ rfl), .base (.csl _ _ _ rfl), .base (.tree _ _ rfl rfl), .base (.tree _ _ rfl rfl), trivial⟩ ⟨⟨_, rfl, .cells _ _ _ _ rfl (by repeat (first | exact .nil | refine .cons (by first | exact .base (.tree _ _ rfl rfl) | exact .base (.own _ _ rfl) | exact .base (.ptr _ _ _ rfl) | exact .base (.map _ _ rfl) | exact .base (.nilown _ rfl) | exact .fn _ _ _ _ _ .nil (by repeat (first | exact .nil | refine .cons (by exact .ptr _ _ _ rfl) ?_))) ?_)) rfl⟩, ⟨_, rfl, .cells _ _ _ _ rfl (by repeat (first | exact .nil | refine .cons (by first | exact .base (.tree _ _ rfl rfl) | exact .base (.own _ _ rfl) | exact .base (.ptr _ _ _ rfl) | exact .base (.map _ _ rfl) | exact .base (.nilown _ rfl) | exact .fn _ _ _ _ _ .nil (by repeat (first | exact .nil | refine .cons (by exact .ptr _ _ _ rfl) ?_))) ?_)) rfl⟩, ⟨_, rfl, .cells _ _ _ _ rfl (by repeat (first | exact .nil | refine .cons (by first | exact .base (.tree _ _ rfl rfl) | exact .base (.own _ _ rfl) | exact .base (.ptr _ _ _ rfl) | exact .base (.map _ _ rfl) | exact .base (.nilown _ rfl) | exact .fn _ _ _ _ _ .nil (by repeat (first | exact .nil | refine .cons (by exact .ptr _ _ _ rfl) ?_))) ?_)) rfl⟩, ⟨_, rfl, .cells _ _ _ _ rfl (by repeat (first | exact .nil | refine .cons (by first | exact .base (.tree _ _ rfl rfl) | exact .base (.own _ _ rfl) | exact .base (.ptr _ _ _ rfl) | exact .base (.map _ _ rfl) | exact .base (.nilown _ rfl) | exact .fn _ _ _ _ _ .nil (by repeat (first | exact .nil | refine .cons (by exact .ptr _ _ _ rfl) ?_))) ?_)) rfl⟩, trivial⟩))
    · have hnum := rnum_ok (Q 4) (by have := hle 4; omega)
      rw [← hv, ← hn] at hnum
      conv => whnf
      refine And.intro ⟨by omega, by omega⟩ ?_; conv => whnf
      refine .raw _ _ rfl (fun h => by cases h) (callio_sem (hnum) [1] _ rfl rfl ⟨rfl, trivial⟩ (by repeat (first | exact .nil | (apply BorL.cons; first | exact .map _ _ rfl | exact .ptr _ _ _ rfl | exact .own _ _ rfl | exact .fnp _ _ _ _ rfl | (apply BorIO.lend; first | exact lS rfl | exact lR rfl | exact lM rfl rfl | exact lL rfl | exact lX rfl | exact lN | exact lNl | exact lSm rfl | exact lIm rfl | exact lGm rfl | exact lP rfl | exact lQ rfl | exact lB rfl rfl rfl)))) rfl (by first | exact .inl rfl | exact .inr (fun b rs h => by first | obtain ⟨rfl, rfl⟩ := h | obtain ⟨_, _, _, rfl, rfl⟩ := h; exact ⟨by repeat (first | exact flats_nil | refine flats_cons (by first | exact flat_val _ rfl | exact flat_row (fun _ => rfl) | exact flat_lst (fun _ => rfl)) ?_), by repeat (first | exact flats0 | refine flats1 (by first | exact flatB_row (fun _ => rfl) | exact flatB_lst (fun _ => rfl) | exact flatB_smap (fun _ => rfl) | exact flatB_imap (fun _ => rfl) | exact flatB_cells rfl) ?_)⟩))) ?_
      rintro w ⟨b', rs, ⟨rfl, rfl⟩, rfl⟩
      refine ⟨tn_ge _ _, ?_⟩
      conv => whnf
      refine And.intro ⟨by omega, by omega⟩ ?_; conv => whnf
      refine up (by decide) trivial ((wk_of [(0, .id 0), (1, .id 1), (2, .id 2), (3, .id 3)] rfl ⟨.base (.tree _ _ rfl rfl), .base (.ptr _ _ _ rfl), .base (.ptr _ _ _ rfl), .base (.ptr _ _ _ rfl), .base (.csl _ _ _ rfl), .base (.tree _ _ rfl rfl), .base (.tree _ _ rfl rfl), trivial⟩ ⟨⟨_, rfl, .cells _ _ _ _ rfl (by repeat (first | exact .nil | refine .cons (by first | exact .base (.tree _ _ rfl rfl) | exact .base (.own _ _ rfl) | exact .base (.ptr _ _ _ rfl) | exact .base (.map _ _ rfl) | exact .base (.nilown _ rfl) | exact .fn _ _ _ _ _ .nil (by repeat (first | exact .nil | refine .cons (by exact .ptr _ _ _ rfl) ?_))) ?_)) rfl⟩, ⟨_, rfl, .cells _ _ _ _ rfl (by repeat (first | exact .nil | refine .cons (by first | exact .base (.tree _ _ rfl rfl) | exact .base (.own _ _ rfl) | exact .base (.ptr _ _ _ rfl) | exact .base (.map _ _ rfl) | exact .base (.nilown _ rfl) | exact .fn _ _ _ _ _ .nil (by repeat (first | exact .nil | refine .cons (by exact .ptr _ _ _ rfl) ?_))) ?_)) rfl⟩, ⟨_, rfl, .cells _ _ _ _ rfl (by repeat (first | exact .nil | refine .cons (by first | exact .base (.tree _ _ rfl rfl) | exact .base (.own _ _ rfl) | exact .base (.ptr _ _ _ rfl) | exact .base (.map _ _ rfl) | exact .base (.nilown _ rfl) | exact .fn _ _ _ _ _ .nil (by repeat (first | exact .nil | refine .cons (by exact .ptr _ _ _ rfl) ?_))) ?_)) rfl⟩, ⟨_, rfl, .cells _ _ _ _ rfl (by repeat (first | exact .nil | refine .cons (by first | exact .base (.tree _ _ rfl rfl) | exact .base (.own _ _ rfl) | exact .base (.ptr _ _ _ rfl) | exact .base (.map _ _ rfl) | exact .base (.nilown _ rfl) | exact .fn _ _ _ _ _ .nil (by repeat (first | exact .nil | refine .cons (by exact .ptr _ _ _ rfl) ?_))) ?_)) rfl⟩, trivial⟩))
  · simp only [decide_eq_false_iff_not] at hc
    have : k = 5 := by omega
    subst this
    conv => whnf
    refine .one _ _ _ (fun _ => hd) (by repeat (first | exact .nil | (apply BorL.cons; first | exact lS rfl | exact lR rfl | exact lM rfl rfl | exact lL rfl | exact lX rfl | exact lN | exact lNl | exact lSm rfl | exact lIm rfl | exact lGm rfl | exact lP rfl | exact lQ rfl | exact lB rfl rfl rfl))) (by first | exact .inl rfl | exact .inr (by repeat (first | exact flats_nil | refine flats_cons (by first | exact flat_val _ rfl | exact flat_row (fun _ => rfl) | exact flat_lst (fun _ => rfl)) ?_))) (by first | exact .inr rfl | exact .inl rfl) ?_
    conv => whnf
    refine .one _ _ _ (fun _ => hr) (by repeat (first | exact .nil | (apply BorL.cons; first | exact lS rfl | exact lR rfl | exact lM rfl rfl | exact lL rfl | exact lX rfl | exact lN | exact lNl | exact lSm rfl | exact lIm rfl | exact lGm rfl | exact lP rfl | exact lQ rfl | exact lB rfl rfl rfl))) (by first | exact .inl rfl | exact .inr (by repeat (first | exact flats_nil | refine flats_cons (by first | exact flat_val _ rfl | exact flat_row (fun _ => rfl) | exact flat_lst (fun _ => rfl)) ?_))) (by first | exact .inr rfl | exact .inl rfl) ?_
    conv => whnf
    refine ⟨fun hx => ?_, fun hx => ?_⟩
    · conv => whnf
      generalize (!(Q 5).bad && decide ((Q 5).rest = [])) = D at *
      cases D <;> cases R <;> first | rfl | exact absurd hx (by decide)
    · conv => whnf
      generalize (!(Q 5).bad && decide ((Q 5).rest = [])) = D at *
      cases D <;> cases R <;> first | rfl | exact absurd hx (by decide)
end Go.Proofs.YtjlnaogechkjdaaGreatDoor


namespace Go.Proofs.YtjlnaogechkjdaaGreatDoor
open Go.Own
set_option maxHeartbeats 4000000
set_option maxRecDepth 100000

theorem numS_back {n : Int} {r : List UInt8} {b : Bool} (h : in64 n) (h0 : 0 ≤ n) : numQ 59 0 ⟨numS n ++ r, b⟩ = (n, ⟨r, b⟩) := by
  unfold numS intS
  rw [if_neg (by omega), List.append_assoc]
  exact numQ_back 59 0 n r b h h0 (by unfold EndB; decide)
theorem textE_right (e : Ent) : textE e = numS e.id ++ (numS e.day ++ (numS e.frm ++ (numS e.to ++ (numS e.amt ++ [])))) := by
  unfold textE
  simp only [List.append_assoc, List.append_nil]
theorem read_back {x : Ent} (h : rightE x = true) : readB (textE x) = true ∧ entQ (textE x) = x := by
  have hin := five_in h
  unfold five at hin
  have i1 := hin x.id (by simp)
  have i2 := hin x.day (by simp)
  have i3 := hin x.frm (by simp)
  have i4 := hin x.to (by simp)
  have i5 := hin x.amt (by simp)
  have s0 : sQ (textE x) 0 = ⟨numS x.id ++ (numS x.day ++ (numS x.frm ++ (numS x.to ++ (numS x.amt ++ [])))), false⟩ := by
    show RS.mk (textE x) false = _
    rw [textE_right]
  have n0 := (congrArg (numQ 59 0) s0).trans (numS_back (b := false) i1.1 i1.2)
  have s1 := (show sQ (textE x) 1 = (numQ 59 0 (sQ (textE x) 0)).2 from rfl).trans (congrArg Prod.snd n0)
  have n1 := (congrArg (numQ 59 0) s1).trans (numS_back (b := false) i2.1 i2.2)
  have s2 := (show sQ (textE x) 2 = (numQ 59 0 (sQ (textE x) 1)).2 from rfl).trans (congrArg Prod.snd n1)
  have n2 := (congrArg (numQ 59 0) s2).trans (numS_back (b := false) i3.1 i3.2)
  have s3 := (show sQ (textE x) 3 = (numQ 59 0 (sQ (textE x) 2)).2 from rfl).trans (congrArg Prod.snd n2)
  have n3 := (congrArg (numQ 59 0) s3).trans (numS_back (b := false) i4.1 i4.2)
  have s4 := (show sQ (textE x) 4 = (numQ 59 0 (sQ (textE x) 3)).2 from rfl).trans (congrArg Prod.snd n3)
  have n4 := (congrArg (numQ 59 0) s4).trans (numS_back (b := false) i5.1 i5.2)
  have s5 := (show sQ (textE x) 5 = (numQ 59 0 (sQ (textE x) 4)).2 from rfl).trans (congrArg Prod.snd n4)
  have he : entQ (textE x) = x := by
    unfold entQ vQ
    rw [n0, n1, n2, n3, n4]
  refine ⟨?_, he⟩
  unfold readB
  rw [he, h, s5]
  rfl
theorem textQ_len (x : Ent) : (textQ x).length ≤ 105 := by
  unfold textQ
  split
  · rename_i h
    have hin := five_in h
    unfold five at hin
    have l1 := numS_len _ (hin x.id (by simp)).1
    have l2 := numS_len _ (hin x.day (by simp)).1
    have l3 := numS_len _ (hin x.frm (by simp)).1
    have l4 := numS_len _ (hin x.to (by simp)).1
    have l5 := numS_len _ (hin x.amt (by simp)).1
    unfold textE
    simp only [List.length_append]
    omega
  · exact Nat.zero_le _
theorem same_ok (a b : List Ent) (ha : a.length ≤ 1000000) (hb : b.length ≤ 1000000) : APureV Tryz.prog 12 [encEs a, encEs b] (.bool (decide (a = b))) := by
  refine apure_of (C := cx 26 [0, 1, 4, 5, 10, 14, 25]) (cxOk _ _) Tryz.func12 rfl (by decide) rfl (by exact Nat.le_of_ble_eq_true rfl) (by decide) ?_
  conv => whnf
  refine ⟨fun hc => ?_, fun hc => ?_⟩
  · conv => whnf
    simp only [Bool.not_eq_true', decide_eq_false_iff_not] at hc
    have : ¬ a = b := fun e => hc (by rw [e])
    simp [this]
  simp only [Bool.not_eq_false', decide_eq_true_eq] at hc
  conv => whnf
  refine loop_up (cxOk _ _) a.length (fun k => a.take k = b.take k) (fun k => ⟨[(0, encEs a), (1, encEs b), (5, .int .i64 (k : Nat))], [], 0⟩) (by simp) (wk_of [] rfl ⟨.base (.tree _ _ rfl rfl), .base (.tree _ _ rfl rfl), .base (.tree _ _ rfl rfl), trivial⟩ trivial) ?_
  intro k hk hP
  have hek : (k : Int).toNat = k := Int.toNat_natCast k
  conv => whnf
  refine ⟨fun hd => ?_, fun hd => ?_⟩
  · simp only [decide_eq_true_eq] at hd
    have hlt : k < a.length := by omega
    have hlt2 : k < b.length := by omega
    conv => whnf
    refine .quiet (by kernel_rfl) ?_; conv => whnf
    refine And.intro ⟨by omega, by omega⟩ ?_; conv => whnf
    refine And.intro rfl ?_; conv => whnf
    refine And.intro ⟨by omega, by omega⟩ ?_; conv => whnf
    refine And.intro rfl ?_; conv => whnf
    rw [hek]
    refine And.intro ⟨by kernel_rfl, by kernel_rfl⟩ ?_
    conv => whnf
    refine ⟨fun he => ?_, fun he => ?_⟩
    · have he' : (!eqE (a.getD k e0) (b.getD k e0)) = true := he
      conv => whnf
      have : ¬ a = b := fun e => (by
        subst e
        rw [Bool.not_eq_true'] at he'
        rw [eqE_iff.2 rfl] at he'
        cases he')
      simp [this]
    · have he' : (!eqE (a.getD k e0) (b.getD k e0)) = false := he
      rw [Bool.not_eq_false', eqE_iff] at he'
      conv => whnf
      refine And.intro ⟨by omega, by omega⟩ ?_; conv => whnf
      refine up hlt (by rw [take_getD (d := e0) hlt, take_getD (d := e0) hlt2, hP, he']) (wk_of [] rfl ⟨.base (.tree _ _ rfl rfl), .base (.tree _ _ rfl rfl), .base (.tree _ _ rfl rfl), trivial⟩ trivial)
  · simp only [decide_eq_false_iff_not] at hd
    conv => whnf
    rw [List.take_of_length_le (by omega), List.take_of_length_le (by omega)] at hP
    rw [decide_eq_true hP]
    rfl

end Go.Proofs.YtjlnaogechkjdaaGreatDoor


namespace Go.Proofs.YtjlnaogechkjdaaGreatDoor
open Go.Own
set_option maxHeartbeats 4000000
set_option maxRecDepth 100000

/-! ### Ledgers compared: what is found and carried -/
def foundM (l : List Ent) : List (Int × Ent) := l.foldl (fun m e => mset m e.id e) []
theorem foundM_snoc (l : List Ent) (e : Ent) : foundM (l ++ [e]) = mset (foundM l) e.id e := by
  unfold foundM
  rw [List.foldl_append]
  rfl
theorem found_ok (l : List Ent) (hl : l.length ≤ 9223372036854775807) : APure Tryz.prog 19 [encEs l] (fun rs => rs = [.new (.imap .i64 encE e0 (foundM l))]) := by
  refine apure_of (C := cx 19 [0, 2, 3, 5, 7, 8, 9, 10]) (cxOk _ _) Tryz.func19 rfl (by decide) rfl (by exact Nat.le_of_ble_eq_true rfl) (by decide) ?_
  conv => whnf
  refine loop_up (cxOk _ _) l.length (fun _ => True) (fun k => ⟨[(3, .map 0), (7, encEs l), (8, .int .i64 l.length), (9, .int .i64 (k : Nat))], [(0, .imap .i64 encE e0 (foundM (l.take k)))], 1⟩) trivial ((wk_of [(0, .id 0)] rfl ⟨.base (.map _ _ rfl), .base (.tree _ _ rfl rfl), .base (.tree _ _ rfl rfl), .base (.tree _ _ rfl rfl), trivial⟩ ⟨⟨_, rfl, (by first | exact .imap _ _ _ _ _ _ rfl rfl | exact .newimap _ _ _ _ _ _ _ _ rfl rfl rfl)⟩, trivial⟩)) ?_
  intro k hk _
  conv => whnf
  refine ⟨fun hc => ?_, fun hc => ?_⟩
  · simp only [decide_eq_true_eq] at hc
    have hlt : k < l.length := by omega
    have hck : l.getD (k : Int).toNat e0 = l.getD k e0 := by rw [Int.toNat_natCast]
    have hse : foundM (l.take (k + 1)) = mset (foundM (l.take k)) (l.getD k e0).id (l.getD k e0) := by rw [take_getD (d := e0) hlt, foundM_snoc]
    conv => whnf
    refine And.intro ⟨by omega, by omega⟩ ?_; conv => whnf
    refine And.intro rfl ?_; conv => whnf
    refine Exists.intro _ (And.intro rfl ?_); conv => whnf
    refine And.intro ⟨by omega, by omega⟩ ?_; conv => whnf
    rw [hck]
    refine up hlt trivial ((wk_of [(0, .id 0)] rfl ⟨.base (.map _ _ rfl), .base (.tree _ _ rfl rfl), .base (.tree _ _ rfl rfl), .base (.tree _ _ rfl rfl), trivial⟩ ⟨⟨_, rfl, (by first | exact .imap _ _ _ _ _ _ rfl hse.symm | exact .newimap _ _ _ _ _ _ _ _ rfl rfl hse.symm)⟩, trivial⟩))
  · simp only [decide_eq_false_iff_not] at hc
    obtain rfl : k = l.length := by omega
    rw [List.take_of_length_le (Nat.le_refl _)]
    conv => whnf
    rfl

def msgB (a b : List Ent) (m : Msg) : Bool := ((decide (m.frm = 0 ∧ m.to = 1) || decide (m.frm = 1 ∧ m.to = 0)) && (decide (0 ≤ m.seq) && decide (0 ≤ m.entry))) && decide (m.entry < (if m.frm = 0 then a.length else b.length : Nat))
def entOf (a b : List Ent) (m : Msg) : Ent := (if m.frm = 0 then a else b).getD m.entry.toNat e0
/-- The Ids that messages to a ledger carry. -/
def wayM (a b : List Ent) (to : Int) (l : List Msg) : List (Int × Bool) := l.foldl (fun w m => if m.to = to then mset w (entOf a b m).id true else w) []
theorem wayM_snoc (a b : List Ent) (to : Int) (l : List Msg) (m : Msg) : wayM a b to (l ++ [m]) = if m.to = to then mset (wayM a b to l) (entOf a b m).id true else wayM a b to l := by
  unfold wayM
  rw [List.foldl_append]
  rfl
theorem carried_ok (a b : List Ent) (fl : List Msg) (ha : a.length ≤ 9223372036854775807) (hb : b.length ≤ 9223372036854775807) (hl : fl.length ≤ 9223372036854775807) :
    APure Tryz.prog 17 [.agg [encEs a, encEs b], encMs fl] (fun rs => (fl.all (msgB a b) = true ∧ rs = [.val (.agg [.rimap .i64 encB false (wayM a b 0 fl), .rimap .i64 encB false (wayM a b 1 fl)]), .val (.bool true)]) ∨ (fl.all (msgB a b) = false ∧ ∃ m0 m1, rs = [.val (.agg [.rimap .i64 encB false m0, .rimap .i64 encB false m1]), .val (.bool false)])) := by
  refine apure_ofw (C := cx 70 [0, 1, 2, 4, 5, 6, 8, 12, 13, 14, 15, 53]) (cxOk _ _) Tryz.func17 rfl (by decide) rfl (by exact Nat.le_of_ble_eq_true rfl) (by decide) ?_
  conv => whnf
  refine loop_up (cxOk _ _) fl.length (fun k => (fl.take k).all (msgB a b) = true) (fun k => ⟨[(2, .ptr 0 0), (4, .ptr 1 0), (5, .bool false), (6, .ptr 4 0), (12, encMs fl), (13, .int .i64 fl.length), (14, .int .i64 (k : Nat))], [(0, .cells 49 [encEs a, encEs b]), (1, .cells 51 [.nilm, .nilm]), (2, .imap .i64 encB false (wayM a b 0 (fl.take k))), (3, .imap .i64 encB false (wayM a b 1 (fl.take k))), (4, .cells 51 [.map 2, .map 3])], 5⟩) (by simp) ((wk_of [(0, .id 0), (1, .id 1), (2, .id 2), (3, .id 3), (4, .id 4)] rfl ⟨.base (.ptr _ _ _ rfl), .base (.ptr _ _ _ rfl), .base (.tree _ _ rfl rfl), .base (.ptr _ _ _ rfl), .base (.tree _ _ rfl rfl), .base (.tree _ _ rfl rfl), .base (.tree _ _ rfl rfl), trivial⟩ ⟨⟨_, rfl, .cells _ _ _ _ rfl (by repeat (first | exact .nil | refine .cons (by first | exact .base (.tree _ _ rfl rfl) | exact .base (.own _ _ rfl) | exact .base (.ptr _ _ _ rfl) | exact .base (.map _ _ rfl) | exact .base (.nilown _ rfl) | exact .fn _ _ _ _ _ .nil (by repeat (first | exact .nil | refine .cons (by exact .ptr _ _ _ rfl) ?_))) ?_)) rfl⟩, ⟨_, rfl, .cells _ _ _ _ rfl (by repeat (first | exact .nil | refine .cons (by first | exact .base (.tree _ _ rfl rfl) | exact .base (.own _ _ rfl) | exact .base (.ptr _ _ _ rfl) | exact .base (.map _ _ rfl) | exact .base (.nilown _ rfl) | exact .fn _ _ _ _ _ .nil (by repeat (first | exact .nil | refine .cons (by exact .ptr _ _ _ rfl) ?_))) ?_)) rfl⟩, ⟨_, rfl, (by first | exact .imap _ _ _ _ _ _ rfl rfl | exact .newimap _ _ _ _ _ _ _ _ rfl rfl rfl)⟩, ⟨_, rfl, (by first | exact .imap _ _ _ _ _ _ rfl rfl | exact .newimap _ _ _ _ _ _ _ _ rfl rfl rfl)⟩, ⟨_, rfl, .cells _ _ _ _ rfl (by repeat (first | exact .nil | refine .cons (by first | exact .base (.tree _ _ rfl rfl) | exact .base (.own _ _ rfl) | exact .base (.ptr _ _ _ rfl) | exact .base (.map _ _ rfl) | exact .base (.nilown _ rfl) | exact .fn _ _ _ _ _ .nil (by repeat (first | exact .nil | refine .cons (by exact .ptr _ _ _ rfl) ?_))) ?_)) rfl⟩, trivial⟩)) ?_
  intro k hk hP
  conv => whnf
  refine ⟨fun hc => ?_, fun hc => ?_⟩
  · simp only [decide_eq_true_eq] at hc
    have hlt : k < fl.length := by omega
    have hck : fl.getD (k : Int).toNat m0 = fl.getD k m0 := by rw [Int.toNat_natCast]
    have bad : msgB a b (fl.getD k m0) = false → fl.all (msgB a b) = false := fun h => by
      rw [List.all_eq_false]
      exact ⟨_, getD_mem hlt, by rw [h]; exact Bool.noConfusion⟩
    have good : msgB a b (fl.getD k m0) = true → (fl.take (k + 1)).all (msgB a b) = true := fun h => by
      rw [take_getD (d := m0) hlt, List.all_append, hP, List.all_cons, h]
      rfl
    have w0 := wayM_snoc a b 0 (fl.take k) (fl.getD k m0)
    have w1 := wayM_snoc a b 1 (fl.take k) (fl.getD k m0)
    rw [← take_getD (d := m0) hlt] at w0 w1
    generalize hv0 : wayM a b 0 (fl.take (k + 1)) = v0 at *
    generalize hv1 : wayM a b 1 (fl.take (k + 1)) = v1 at *
    generalize wayM a b 0 (fl.take k) = u0 at *
    generalize wayM a b 1 (fl.take k) = u1 at *
    generalize hm : fl.getD k m0 = m at *
    obtain ⟨f, to, q, en⟩ := m
    by_cases hf : f = 0
    · subst hf
      conv => whnf
      refine And.intro ⟨by omega, by omega⟩ ?_; conv => whnf
      refine And.intro rfl ?_; conv => whnf
      refine .quiet (by kernel_rfl) ?_; conv => whnf
      rw [hck]
      rw [show (decide ((⟨0, to, q, en⟩ : Msg).frm < 0) || decide (1 < (⟨0, to, q, en⟩ : Msg).frm)) = false from rfl]
      refine ⟨fun _ => ⟨(show (-9223372036854775808 : Int) ≤ 1 - 0 by decide), (show (1 : Int) - 0 ≤ 9223372036854775807 by decide)⟩, ?_⟩
      conv => whnf
      refine ⟨fun _ => ⟨(show (0 : Int) ≤ 0 by decide), (show (0 : Int) < 2 by decide)⟩, ?_⟩
      conv => whnf
      refine ⟨fun hd => ?_, fun hd => ?_⟩
      · have hbd : msgB a b ⟨0, to, q, en⟩ = false := by
          simp only [Bool.false_or, Bool.or_eq_true, Bool.not_eq_true', decide_eq_false_iff_not, decide_eq_true_eq] at hd
          unfold msgB
          simp only [Bool.and_eq_false_iff, Bool.or_eq_false_iff, decide_eq_false_iff_not]
          simp only [if_true, eq_false (show ¬ (1 : Int) = 0 by decide), if_false]
          omega
        conv => whnf
        refine ⟨_, wk_frz [2, 3], ?_⟩
        exact .inr ⟨bad hbd, _, _, rfl⟩
      · simp only [Bool.false_or, Bool.or_eq_false_iff, Bool.not_eq_false', decide_eq_false_iff_not, decide_eq_true_eq] at hd
        obtain ⟨⟨⟨d1, d2⟩, d3⟩, d4⟩ := hd
        obtain rfl : to = 1 := by omega
        have hgd : msgB a b ⟨0, 1, q, en⟩ = true := by
          unfold msgB
          have g3 : en < (a.length : Int) := by omega
          simp
          omega
        conv => whnf
        refine .eff (by first | exact cxOk _ _ | exact cxPOk _ _ _) ?_; conv => whnf
        refine ⟨⟨(show (0 : Int) ≤ 1 by decide), (show (1 : Int) < 2 by decide)⟩, ?_⟩
        conv => whnf
        refine ⟨⟨(show (0 : Int) ≤ 0 by decide), (show (0 : Int) < 2 by decide)⟩, ?_⟩
        conv => whnf
        refine And.intro ⟨(by first | omega | (simp; omega)), (by first | omega | (simp; omega))⟩ ?_; conv => whnf
        refine And.intro rfl ?_; conv => whnf
        refine Exists.intro _ (And.intro rfl ?_); conv => whnf
        refine And.intro rfl ?_; conv => whnf
        refine And.intro ⟨by omega, by omega⟩ ?_; conv => whnf
        refine up hlt (good hgd) ((wk_of [(0, .id 0), (1, .id 1), (2, .id 2), (3, .id 3), (4, .id 4)] rfl ⟨.base (.ptr _ _ _ rfl), .base (.ptr _ _ _ rfl), .base (.tree _ _ rfl rfl), .base (.ptr _ _ _ rfl), .base (.tree _ _ rfl rfl), .base (.tree _ _ rfl rfl), .base (.tree _ _ rfl rfl), trivial⟩ ⟨⟨_, rfl, .cells _ _ _ _ rfl (by repeat (first | exact .nil | refine .cons (by first | exact .base (.tree _ _ rfl rfl) | exact .base (.own _ _ rfl) | exact .base (.ptr _ _ _ rfl) | exact .base (.map _ _ rfl) | exact .base (.nilown _ rfl) | exact .fn _ _ _ _ _ .nil (by repeat (first | exact .nil | refine .cons (by exact .ptr _ _ _ rfl) ?_))) ?_)) rfl⟩, ⟨_, rfl, .cells _ _ _ _ rfl (by repeat (first | exact .nil | refine .cons (by first | exact .base (.tree _ _ rfl rfl) | exact .base (.own _ _ rfl) | exact .base (.ptr _ _ _ rfl) | exact .base (.map _ _ rfl) | exact .base (.nilown _ rfl) | exact .fn _ _ _ _ _ .nil (by repeat (first | exact .nil | refine .cons (by exact .ptr _ _ _ rfl) ?_))) ?_)) rfl⟩, ⟨_, rfl, (by first | exact .imap _ _ _ _ _ _ rfl (show u0 = wayM a b 0 (fl.take (k + 1)) by rw [hv0, w0, if_neg (show ¬ (1 : Int) = 0 by decide)]) | exact .newimap _ _ _ _ _ _ _ _ rfl rfl (show u0 = wayM a b 0 (fl.take (k + 1)) by rw [hv0, w0, if_neg (show ¬ (1 : Int) = 0 by decide)]))⟩, ⟨_, rfl, (by first | exact .imap _ _ _ _ _ _ rfl (show mset u1 _ true = wayM a b 1 (fl.take (k + 1)) by rw [hv1, w1, if_pos rfl]; rfl) | exact .newimap _ _ _ _ _ _ _ _ rfl rfl (show mset u1 _ true = wayM a b 1 (fl.take (k + 1)) by rw [hv1, w1, if_pos rfl]; rfl))⟩, ⟨_, rfl, .cells _ _ _ _ rfl (by repeat (first | exact .nil | refine .cons (by first | exact .base (.tree _ _ rfl rfl) | exact .base (.own _ _ rfl) | exact .base (.ptr _ _ _ rfl) | exact .base (.map _ _ rfl) | exact .base (.nilown _ rfl) | exact .fn _ _ _ _ _ .nil (by repeat (first | exact .nil | refine .cons (by exact .ptr _ _ _ rfl) ?_))) ?_)) rfl⟩, trivial⟩))
    by_cases hf1 : f = 1
    · subst hf1
      conv => whnf
      refine And.intro ⟨by omega, by omega⟩ ?_; conv => whnf
      refine And.intro rfl ?_; conv => whnf
      refine .quiet (by kernel_rfl) ?_; conv => whnf
      rw [hck]
      rw [show (decide ((⟨1, to, q, en⟩ : Msg).frm < 0) || decide (1 < (⟨1, to, q, en⟩ : Msg).frm)) = false from rfl]
      refine ⟨fun _ => ⟨(show (-9223372036854775808 : Int) ≤ 1 - 1 by decide), (show (1 : Int) - 1 ≤ 9223372036854775807 by decide)⟩, ?_⟩
      conv => whnf
      refine ⟨fun _ => ⟨(show (0 : Int) ≤ 1 by decide), (show (1 : Int) < 2 by decide)⟩, ?_⟩
      conv => whnf
      refine ⟨fun hd => ?_, fun hd => ?_⟩
      · have hbd : msgB a b ⟨1, to, q, en⟩ = false := by
          simp only [Bool.false_or, Bool.or_eq_true, Bool.not_eq_true', decide_eq_false_iff_not, decide_eq_true_eq] at hd
          unfold msgB
          simp only [Bool.and_eq_false_iff, Bool.or_eq_false_iff, decide_eq_false_iff_not]
          rw [show (if (1 : Int) = 0 then a.length else b.length) = b.length from rfl]
          omega
        conv => whnf
        refine ⟨_, wk_frz [2, 3], ?_⟩
        exact .inr ⟨bad hbd, _, _, rfl⟩
      · simp only [Bool.false_or, Bool.or_eq_false_iff, Bool.not_eq_false', decide_eq_false_iff_not, decide_eq_true_eq] at hd
        obtain ⟨⟨⟨d1, d2⟩, d3⟩, d4⟩ := hd
        obtain rfl : to = 0 := by omega
        have hgd : msgB a b ⟨1, 0, q, en⟩ = true := by
          unfold msgB
          have g3 : en < (b.length : Int) := by omega
          simp
          omega
        conv => whnf
        refine .eff (by first | exact cxOk _ _ | exact cxPOk _ _ _) ?_; conv => whnf
        refine ⟨⟨(show (0 : Int) ≤ 0 by decide), (show (0 : Int) < 2 by decide)⟩, ?_⟩
        conv => whnf
        refine ⟨⟨(show (0 : Int) ≤ 1 by decide), (show (1 : Int) < 2 by decide)⟩, ?_⟩
        conv => whnf
        refine And.intro ⟨(by first | omega | (simp; omega)), (by first | omega | (simp; omega))⟩ ?_; conv => whnf
        refine And.intro rfl ?_; conv => whnf
        refine Exists.intro _ (And.intro rfl ?_); conv => whnf
        refine And.intro rfl ?_; conv => whnf
        refine And.intro ⟨by omega, by omega⟩ ?_; conv => whnf
        refine up hlt (good hgd) ((wk_of [(0, .id 0), (1, .id 1), (2, .id 2), (3, .id 3), (4, .id 4)] rfl ⟨.base (.ptr _ _ _ rfl), .base (.ptr _ _ _ rfl), .base (.tree _ _ rfl rfl), .base (.ptr _ _ _ rfl), .base (.tree _ _ rfl rfl), .base (.tree _ _ rfl rfl), .base (.tree _ _ rfl rfl), trivial⟩ ⟨⟨_, rfl, .cells _ _ _ _ rfl (by repeat (first | exact .nil | refine .cons (by first | exact .base (.tree _ _ rfl rfl) | exact .base (.own _ _ rfl) | exact .base (.ptr _ _ _ rfl) | exact .base (.map _ _ rfl) | exact .base (.nilown _ rfl) | exact .fn _ _ _ _ _ .nil (by repeat (first | exact .nil | refine .cons (by exact .ptr _ _ _ rfl) ?_))) ?_)) rfl⟩, ⟨_, rfl, .cells _ _ _ _ rfl (by repeat (first | exact .nil | refine .cons (by first | exact .base (.tree _ _ rfl rfl) | exact .base (.own _ _ rfl) | exact .base (.ptr _ _ _ rfl) | exact .base (.map _ _ rfl) | exact .base (.nilown _ rfl) | exact .fn _ _ _ _ _ .nil (by repeat (first | exact .nil | refine .cons (by exact .ptr _ _ _ rfl) ?_))) ?_)) rfl⟩, ⟨_, rfl, (by first | exact .imap _ _ _ _ _ _ rfl (show mset u0 _ true = wayM a b 0 (fl.take (k + 1)) by rw [hv0, w0, if_pos rfl]; rfl) | exact .newimap _ _ _ _ _ _ _ _ rfl rfl (show mset u0 _ true = wayM a b 0 (fl.take (k + 1)) by rw [hv0, w0, if_pos rfl]; rfl))⟩, ⟨_, rfl, (by first | exact .imap _ _ _ _ _ _ rfl (show u1 = wayM a b 1 (fl.take (k + 1)) by rw [hv1, w1, if_neg (show ¬ (0 : Int) = 1 by decide)]) | exact .newimap _ _ _ _ _ _ _ _ rfl rfl (show u1 = wayM a b 1 (fl.take (k + 1)) by rw [hv1, w1, if_neg (show ¬ (0 : Int) = 1 by decide)]))⟩, ⟨_, rfl, .cells _ _ _ _ rfl (by repeat (first | exact .nil | refine .cons (by first | exact .base (.tree _ _ rfl rfl) | exact .base (.own _ _ rfl) | exact .base (.ptr _ _ _ rfl) | exact .base (.map _ _ rfl) | exact .base (.nilown _ rfl) | exact .fn _ _ _ _ _ .nil (by repeat (first | exact .nil | refine .cons (by exact .ptr _ _ _ rfl) ?_))) ?_)) rfl⟩, trivial⟩))
    have hbd : msgB a b ⟨f, to, q, en⟩ = false := by
      unfold msgB
      simp only [eq_false hf, eq_false hf1, false_and, decide_false, Bool.or_self, Bool.false_and]
    have hg : (decide ((⟨f, to, q, en⟩ : Msg).frm < 0) || decide (1 < (⟨f, to, q, en⟩ : Msg).frm)) = true := by
      rw [Bool.or_eq_true, decide_eq_true_eq, decide_eq_true_eq]
      show f < 0 ∨ 1 < f
      omega
    conv => whnf
    refine And.intro ⟨by omega, by omega⟩ ?_; conv => whnf
    refine And.intro rfl ?_; conv => whnf
    refine .quiet (by kernel_rfl) ?_; conv => whnf
    rw [hck]
    rw [hg]
    refine ⟨fun h => absurd h (by decide), ?_⟩
    conv => whnf
    refine ⟨fun h => Bool.noConfusion (show false = true from h), ?_⟩
    generalize Int.toNat (Msg.frm ⟨f, to, q, en⟩) = z
    have hz : z = 0 ∨ z = 1 ∨ 2 ≤ z := by omega
    rcases hz with rfl | rfl | hz
    · conv => whnf
      refine ⟨fun _ => ?_, fun h => by simp at h⟩
      conv => whnf
      refine ⟨_, wk_frz [2, 3], ?_⟩
      exact .inr ⟨bad hbd, _, _, rfl⟩
    · conv => whnf
      refine ⟨fun _ => ?_, fun h => by simp at h⟩
      conv => whnf
      refine ⟨_, wk_frz [2, 3], ?_⟩
      exact .inr ⟨bad hbd, _, _, rfl⟩
    · conv => whnf
      rw [dropL_eq, List.drop_eq_nil_of_le (show 2 ≤ 0 + z * 1 by omega)]
      conv => whnf
      refine And.intro rfl ⟨.nils, ?_⟩
      conv => whnf
      refine ⟨fun _ => ?_, fun h => by simp at h⟩
      conv => whnf
      refine ⟨_, wk_frz [2, 3], ?_⟩
      exact .inr ⟨bad hbd, _, _, rfl⟩
  · simp only [decide_eq_false_iff_not] at hc
    obtain rfl : k = fl.length := by omega
    rw [List.take_of_length_le (Nat.le_refl _)] at hP
    rw [List.take_of_length_le (Nat.le_refl _)]
    conv => whnf
    refine ⟨_, wk_frz [2, 3], ?_⟩
    exact .inl ⟨hP, rfl⟩

end Go.Proofs.YtjlnaogechkjdaaGreatDoor


namespace Go.Proofs.YtjlnaogechkjdaaGreatDoor
open Go.Own
set_option maxHeartbeats 1000000

/-! ### Sorted, and in the old order among equals -/
def Asc (l : List Ent) : Prop := l.Pairwise (fun x y => x.id ≤ y.id)
def atId (k : Int) (l : List Ent) : List Ent := l.filter (fun x => decide (x.id = k))
def Stb (a b : List Ent) : Prop := ∀ k, atId k b = atId k a
theorem atId_app (k : Int) (a b : List Ent) : atId k (a ++ b) = atId k a ++ atId k b := List.filter_append ..
theorem Stb.refl (a : List Ent) : Stb a a := fun _ => rfl
theorem Stb.trans {a b c : List Ent} (h : Stb a b) (g : Stb b c) : Stb a c := fun k => (g k).trans (h k)
theorem Stb.app {a b c d : List Ent} (h : Stb a b) (g : Stb c d) : Stb (a ++ c) (b ++ d) := fun k => by
  rw [atId_app, atId_app, h k, g k]
theorem Stb.perm {a b : List Ent} (h : Stb a b) : a.Perm b := by
  rw [List.perm_iff_count]
  intro x
  have h1 : ∀ l : List Ent, l.count x = (atId x.id l).count x := fun l => by
    unfold atId
    rw [List.count_filter (by simp)]
  rw [h1 a, h1 b, h x.id]
theorem Stb.len {a b : List Ent} (h : Stb a b) : b.length = a.length := h.perm.length_eq.symm
theorem Stb.mem {a b : List Ent} (h : Stb a b) {x : Ent} : x ∈ b ↔ x ∈ a := h.perm.mem_iff.symm
theorem atId_none {k : Int} {l : List Ent} (h : ∀ x ∈ l, x.id ≠ k) : atId k l = [] := by
  unfold atId
  rw [List.filter_eq_nil_iff]
  intro x hx
  simpa using h x hx
/-- Two parts change places, if no Id is in both. -/
theorem Stb.swap {a b : List Ent} (h : ∀ x ∈ a, ∀ y ∈ b, x.id ≠ y.id) : Stb (a ++ b) (b ++ a) := fun k => by
  rw [atId_app, atId_app]
  by_cases hk : ∃ x ∈ a, x.id = k
  · obtain ⟨x, hx, e⟩ := hk
    rw [atId_none (l := b) fun y hy e' => h x hx y hy (e.trans e'.symm)]
    simp
  · rw [atId_none (l := a) fun x hx e => hk ⟨x, hx, e⟩]
    simp
theorem Stb.swap_lt {a b : List Ent} (h : ∀ x ∈ a, ∀ y ∈ b, y.id < x.id) : Stb (a ++ b) (b ++ a) :=
  .swap fun x hx y hy e => by have := h x hx y hy; omega
theorem Asc.app {a b : List Ent} (h : Asc a) (g : Asc b) (hab : ∀ x ∈ a, ∀ y ∈ b, x.id ≤ y.id) : Asc (a ++ b) := List.pairwise_append.2 ⟨h, g, hab⟩
theorem Asc.left {a b : List Ent} (h : Asc (a ++ b)) : Asc a := (List.pairwise_append.1 h).1
theorem Asc.right {a b : List Ent} (h : Asc (a ++ b)) : Asc b := (List.pairwise_append.1 h).2.1
theorem Asc.cross {a b : List Ent} (h : Asc (a ++ b)) : ∀ x ∈ a, ∀ y ∈ b, x.id ≤ y.id := (List.pairwise_append.1 h).2.2
theorem asc_nil : Asc [] := List.Pairwise.nil
theorem asc_one (x : Ent) : Asc [x] := List.pairwise_singleton ..
/-- There is only one. -/
theorem sorted_one : ∀ {a b : List Ent}, Asc a → Asc b → Stb a b → a = b
  | [], b, _, _, h => (List.eq_nil_of_length_eq_zero (by rw [h.len]; rfl)).symm
  | x :: a, [], _, _, h => by have := h.len; simp at this
  | x :: a, y :: b, ha, hb, h => by
    have hx : ∀ z ∈ a, x.id ≤ z.id := fun z hz => (List.pairwise_cons.1 ha).1 z hz
    have hy : ∀ z ∈ b, y.id ≤ z.id := fun z hz => (List.pairwise_cons.1 hb).1 z hz
    have h1 : x.id ≤ y.id := by
      rcases List.mem_cons.1 (h.mem.1 (List.mem_cons_self (a := y) (l := b))) with e | e
      · rw [e]; exact Int.le_refl _
      · exact hx y e
    have h2 : y.id ≤ x.id := by
      rcases List.mem_cons.1 (h.mem.2 (List.mem_cons_self (a := x) (l := a))) with e | e
      · rw [e]; exact Int.le_refl _
      · exact hy x e
    have hid : y.id = x.id := by omega
    have hk := h x.id
    have e1 : atId x.id (y :: b) = y :: atId x.id b := by unfold atId; rw [List.filter_cons_of_pos (by simp [hid])]
    have e2 : atId x.id (x :: a) = x :: atId x.id a := by unfold atId; rw [List.filter_cons_of_pos (by simp)]
    rw [e1, e2] at hk
    have hxy : y = x := (List.cons.inj hk).1
    subst hxy
    congr 1
    refine sorted_one (List.pairwise_cons.1 ha).2 (List.pairwise_cons.1 hb).2 fun k => ?_
    have := h k
    unfold atId at this ⊢
    by_cases e : y.id = k
    · rw [List.filter_cons_of_pos (by simp [e]), List.filter_cons_of_pos (by simp [e])] at this
      exact (List.cons.inj this).2
    · rw [List.filter_cons_of_neg (by simp [e]), List.filter_cons_of_neg (by simp [e])] at this
      exact this

end Go.Proofs.YtjlnaogechkjdaaGreatDoor


namespace Go.Proofs.YtjlnaogechkjdaaGreatDoor
open Go.Own
set_option maxHeartbeats 4000000
set_option maxRecDepth 100000

theorem get_at (A : List Ent) (x : Ent) (C : List Ent) {n : Nat} (h : n = A.length) : (A ++ x :: C).getD n e0 = x := by
  subst h
  simp
theorem set_at (A : List Ent) (x y : Ent) (C : List Ent) {n : Nat} (h : n = A.length) : (A ++ x :: C).set n y = A ++ y :: C := by
  subst h
  simp
theorem drop_getD' {l : List Ent} {k : Nat} (h : k < l.length) : l.drop k = l.getD k e0 :: l.drop (k + 1) := by
  rw [List.drop_eq_getElem_cons h]
  simp [List.getD, h]
theorem two_set (A B C : List Ent) (x y : Ent) {i j : Nat} (hi : i = A.length) (hj : j = A.length + 1 + B.length) :
    (((A ++ x :: (B ++ y :: C)).set i ((A ++ x :: (B ++ y :: C)).getD j e0)).set j ((A ++ x :: (B ++ y :: C)).getD i e0)) = A ++ y :: (B ++ x :: C) := by
  have e : ∀ z : Ent, A ++ z :: (B ++ y :: C) = (A ++ z :: B) ++ y :: C := fun z => by simp
  rw [get_at A x _ hi, e, get_at (A ++ x :: B) y C (by simp; omega), ← e, set_at A x y _ hi, e, set_at (A ++ y :: B) y x C (by simp; omega)]
  simp
/-- After k swaps. -/
def swL (P X M Y Q : List Ent) (k : Nat) : List Ent := (P ++ Y.take k) ++ (X.drop k ++ ((M ++ X.take k) ++ (Y.drop k ++ Q)))
theorem swL_at (P X M Y Q : List Ent) {k : Nat} (hk : k < X.length) (hl : X.length = Y.length) :
    swL P X M Y Q k = (P ++ Y.take k) ++ X.getD k e0 :: ((X.drop (k + 1) ++ (M ++ X.take k)) ++ Y.getD k e0 :: (Y.drop (k + 1) ++ Q)) := by
  unfold swL
  rw [drop_getD' (l := X) hk, drop_getD' (l := Y) (hl ▸ hk)]
  simp
theorem swL_succ (P X M Y Q : List Ent) {k : Nat} (hk : k < X.length) (hl : X.length = Y.length) :
    swL P X M Y Q (k + 1) = (P ++ Y.take k) ++ Y.getD k e0 :: ((X.drop (k + 1) ++ (M ++ X.take k)) ++ X.getD k e0 :: (Y.drop (k + 1) ++ Q)) := by
  unfold swL
  rw [take_getD (l := Y) (d := e0) (hl ▸ hk), take_getD (l := X) (d := e0) hk]
  simp
theorem swL_len (P X M Y Q : List Ent) (k : Nat) (hl : X.length = Y.length) : (swL P X M Y Q k).length = P.length + X.length + M.length + Y.length + Q.length := by
  unfold swL
  simp only [List.length_append, List.length_take, List.length_drop]
  omega

theorem swL_step (P X M Y Q : List Ent) {k i j : Nat} (hk : k < X.length) (hl : X.length = Y.length) (hi : i = P.length + k) (hj : j = P.length + X.length + M.length + k) :
    (((swL P X M Y Q k).set i ((swL P X M Y Q k).getD j e0)).set j ((swL P X M Y Q k).getD i e0)) = swL P X M Y Q (k + 1) := by
  rw [swL_at P X M Y Q hk hl, swL_succ P X M Y Q hk hl]
  refine two_set _ _ _ _ _ ?_ ?_
  · rw [List.length_append, List.length_take]; omega
  · simp only [List.length_append, List.length_take, List.length_drop]; omega

theorem swap_ok (P X M Y Q : List Ent) (hl : X.length = Y.length) (hb : P.length + X.length + M.length + Y.length + Q.length ≤ 1000000) :
    AIO Tryz.prog 69 [.own 0, .int .i64 (P.length : Nat), .int .i64 ((P.length + X.length + M.length : Nat) : Int), .int .i64 (X.length : Nat), .fn (.func 20) [] []] [.row 33 5 encE e0 (swL P X M Y Q 0)] (fun bs rs => bs = [.row 33 5 encE e0 (swL P X M Y Q X.length)] ∧ rs = []) := by
  refine aio_of (C := cxP 1 38 [0, 1, 2, 3, 10, 13]) (cxPOk _ _ _) Tryz.func69 rfl (by decide) rfl (by exact Nat.le_of_ble_eq_true rfl) (by decide) rfl rfl ?_
  conv => whnf
  refine loop_up (cxPOk _ _ _) X.length (fun _ => True) (fun k => ⟨[(0, .own 0), (1, .int .i64 (P.length : Nat)), (2, .int .i64 ((P.length + X.length + M.length : Nat) : Int)), (3, .int .i64 (X.length : Nat)), (10, .int .i64 (k : Nat))], [(0, .row 33 5 encE e0 (swL P X M Y Q k))], 1⟩) trivial ((wk_of [(0, .id 0)] rfl ⟨(by first | exact .base (.own _ _ rfl) | exact .base (.nilown _ rfl) | exact .base (.trunc _ _ _ rfl)), .base (.tree _ _ rfl rfl), .base (.tree _ _ rfl rfl), .base (.tree _ _ rfl rfl), .base (.tree _ _ rfl rfl), trivial⟩ ⟨⟨_, rfl, (by first | exact .row _ _ _ _ _ _ _ rfl rfl | exact .lstrow _ _ _ _ _ _ _ rfl rfl | exact .nilrow _ _ _ _ _ rfl | exact .truncrow _ _ _ _ _ _ _ _ rfl (by omega) rfl)⟩, trivial⟩)) ?_
  intro k hk _
  have hlen := swL_len P X M Y Q k hl
  conv => whnf
  refine ⟨fun hc => ?_, fun hc => ?_⟩
  · simp only [decide_eq_true_eq] at hc
    have hlt : k < X.length := by omega
    conv => whnf
    refine .eff (by first | exact cxOk _ _ | exact cxPOk _ _ _) ?_; conv => whnf
    refine And.intro ⟨by omega, by omega⟩ ?_; conv => whnf
    refine And.intro ⟨by omega, by omega⟩ ?_; conv => whnf
    refine And.intro ⟨by omega, by omega⟩ ?_; conv => whnf
    refine And.intro ⟨by omega, by omega⟩ ?_; conv => whnf
    refine And.intro (by omega) (And.intro rfl ?_); conv => whnf
    refine And.intro ⟨by omega, by omega⟩ ?_; conv => whnf
    refine And.intro ⟨by omega, by omega⟩ ?_; conv => whnf
    refine And.intro (by omega) (And.intro rfl ?_); conv => whnf
    refine And.intro ⟨by omega, by omega⟩ ?_; conv => whnf
    refine Exists.intro _ (And.intro rfl (And.intro (by first | omega | (simp; omega)) (And.intro ⟨rfl, rfl, rfl, rfl, rfl⟩ ?_))); conv => whnf
    refine And.intro ⟨(by first | omega | (simp; omega)), (by first | omega | (simp; omega))⟩ ?_; conv => whnf
    refine Exists.intro _ (And.intro rfl (And.intro (by first | omega | (simp; omega)) (And.intro ⟨rfl, rfl, rfl, rfl, rfl⟩ ?_))); conv => whnf
    refine And.intro rfl ?_; conv => whnf
    refine And.intro ⟨by omega, by omega⟩ ?_; conv => whnf
    refine up hlt trivial ((wk_of [(0, .id 0)] rfl ⟨(by first | exact .base (.own _ _ rfl) | exact .base (.nilown _ rfl) | exact .base (.trunc _ _ _ rfl)), .base (.tree _ _ rfl rfl), .base (.tree _ _ rfl rfl), .base (.tree _ _ rfl rfl), .base (.tree _ _ rfl rfl), trivial⟩ ⟨⟨_, rfl, (by first | exact .row _ _ _ _ _ _ _ rfl (swL_step P X M Y Q hlt hl (by omega) (by omega)) | exact .lstrow _ _ _ _ _ _ _ rfl (swL_step P X M Y Q hlt hl (by omega) (by omega)) | exact .nilrow _ _ _ _ _ (swL_step P X M Y Q hlt hl (by omega) (by omega)) | exact .truncrow _ _ _ _ _ _ _ _ rfl (by omega) (swL_step P X M Y Q hlt hl (by omega) (by omega)))⟩, trivial⟩))
  · simp only [decide_eq_false_iff_not] at hc
    obtain rfl : k = X.length := by omega
    conv => whnf
    exact ⟨rfl, rfl⟩

end Go.Proofs.YtjlnaogechkjdaaGreatDoor


namespace Go.Proofs.YtjlnaogechkjdaaGreatDoor
open Go.Own
set_option maxHeartbeats 4000000
set_option maxRecDepth 100000

theorem swap_at (P X M Y Q : List Ent) (hl : X.length = Y.length) (hb : P.length + X.length + M.length + Y.length + Q.length ≤ 1000000) {a b n : Int} {xs : List Ent}
    (ha : a = (P.length : Nat)) (hb' : b = ((P.length + X.length + M.length : Nat) : Int)) (hn : n = (X.length : Nat)) (hx : xs = P ++ (X ++ (M ++ (Y ++ Q)))) :
    AIO Tryz.prog 69 [.own 0, .int .i64 a, .int .i64 b, .int .i64 n, .fn (.func 20) [] []] [.row 33 5 encE e0 xs] (fun bs rs => bs = [.row 33 5 encE e0 (P ++ (Y ++ (M ++ (X ++ Q))))] ∧ rs = []) := by
  subst ha hb' hn hx
  have h := swap_ok P X M Y Q hl hb
  have e1 : swL P X M Y Q 0 = P ++ (X ++ (M ++ (Y ++ Q))) := by simp [swL]
  have e2 : swL P X M Y Q X.length = P ++ (Y ++ (M ++ (X ++ Q))) := by
    unfold swL
    rw [List.take_of_length_le (by omega), List.drop_of_length_le (Nat.le_refl _), List.take_of_length_le (Nat.le_refl _), List.drop_of_length_le (by omega)]
    simp
  rw [e1, e2] at h
  exact h

/-- What is left to do when two parts change places. -/
structure Rot where
  pre : List Ent
  x : List Ent
  y : List Ent
  post : List Ent
def Rot.row (s : Rot) : List Ent := s.pre ++ (s.x ++ (s.y ++ s.post))
structure RotI (m n : Nat) (R : List Ent) (s : Rot) : Prop where
  mid : s.pre.length + s.x.length = m
  all : s.pre.length + s.x.length + s.y.length + s.post.length = n
  hx : 0 < s.x.length
  hy : 0 < s.y.length
  goal : s.pre ++ (s.y ++ (s.x ++ s.post)) = R
theorem RotI.left {m n : Nat} {R : List Ent} {s : Rot} (h : RotI m n R s) (hl : s.y.length < s.x.length) :
    RotI m n R ⟨s.pre ++ s.y, s.x.drop s.y.length, s.x.take s.y.length, s.post⟩ ∧ s.pre ++ (s.y ++ (s.x.drop s.y.length ++ (s.x.take s.y.length ++ s.post))) = Rot.row ⟨s.pre ++ s.y, s.x.drop s.y.length, s.x.take s.y.length, s.post⟩ := by
  have e := List.take_append_drop s.y.length s.x
  obtain ⟨h1, h2, h3, h4, h5⟩ := h
  refine ⟨⟨?_, ?_, ?_, ?_, ?_⟩, ?_⟩
  · simp only [List.length_append, List.length_drop]; omega
  · simp only [List.length_append, List.length_drop, List.length_take]; omega
  · simp only [List.length_drop]; omega
  · simp only [List.length_take]; omega
  · rw [← h5]
    show (s.pre ++ s.y) ++ (s.x.take _ ++ (s.x.drop _ ++ s.post)) = _
    rw [← List.append_assoc (List.take _ _), e, List.append_assoc]
  · simp [Rot.row]
theorem RotI.right {m n : Nat} {R : List Ent} {s : Rot} (h : RotI m n R s) (hl : s.x.length < s.y.length) :
    RotI m n R ⟨s.pre, s.y.drop (s.y.length - s.x.length), s.y.take (s.y.length - s.x.length), s.x ++ s.post⟩ ∧ s.pre ++ (s.y.drop (s.y.length - s.x.length) ++ (s.y.take (s.y.length - s.x.length) ++ (s.x ++ s.post))) = Rot.row ⟨s.pre, s.y.drop (s.y.length - s.x.length), s.y.take (s.y.length - s.x.length), s.x ++ s.post⟩ := by
  have e := List.take_append_drop (s.y.length - s.x.length) s.y
  obtain ⟨h1, h2, h3, h4, h5⟩ := h
  refine ⟨⟨?_, ?_, ?_, ?_, ?_⟩, ?_⟩
  · simp only [List.length_drop]; omega
  · simp only [List.length_append, List.length_drop, List.length_take]; omega
  · simp only [List.length_drop]; omega
  · simp only [List.length_take]; omega
  · rw [← h5]
    show s.pre ++ (s.y.take _ ++ (s.y.drop _ ++ (s.x ++ s.post))) = _
    rw [← List.append_assoc (List.take _ _), e]
  · simp [Rot.row]

theorem rot_ok (P A B Q : List Ent) (hA : 0 < A.length) (hB : 0 < B.length) (hb : P.length + A.length + B.length + Q.length ≤ 1000000) {a m b : Int} {xs : List Ent}
    (ha : a = (P.length : Nat)) (hm : m = ((P.length + A.length : Nat) : Int)) (hb' : b = ((P.length + A.length + B.length : Nat) : Int)) (hx : xs = P ++ (A ++ (B ++ Q))) :
    AIO Tryz.prog 53 [.own 0, .int .i64 a, .int .i64 m, .int .i64 b, .fn (.func 20) [] []] [.row 33 5 encE e0 xs] (fun bs rs => bs = [.row 33 5 encE e0 (P ++ (B ++ (A ++ Q)))] ∧ rs = []) := by
  subst ha hm hb' hx
  refine aio_of (C := cxP 1 58 [0, 1, 2, 3, 4, 10, 11, 20, 23]) (cxPOk _ _ _) Tryz.func53 rfl (by decide) rfl (by exact Nat.le_of_ble_eq_true rfl) (by decide) rfl rfl ?_
  conv => whnf
  refine And.intro ⟨by omega, by omega⟩ ?_; conv => whnf
  refine And.intro ⟨by omega, by omega⟩ ?_; conv => whnf
  refine loop_inv (cxPOk _ _ _) (σ := Rot) (RotI (P.length + A.length) (P.length + A.length + B.length + Q.length) (P ++ (B ++ (A ++ Q)))) (fun s => s.x.length + s.y.length) (fun s => ⟨[(0, .own 0), (1, .int .i64 (P.length : Nat)), (2, .int .i64 ((P.length + A.length : Nat) : Int)), (3, .int .i64 ((P.length + A.length + B.length : Nat) : Int)), (4, .fn (.func 20) [] []), (10, .int .i64 ((s.x.length : Nat) : Int)), (11, .int .i64 ((s.y.length : Nat) : Int))], [(0, .row 33 5 encE e0 (Rot.row s))], 1⟩) ⟨P, A, B, Q⟩ ⟨rfl, rfl, hA, hB, rfl⟩ ((wk_of [(0, .id 0)] rfl ⟨(by first | exact .base (.own _ _ rfl) | exact .base (.nilown _ rfl) | exact .base (.trunc _ _ _ rfl)), .base (.tree _ _ rfl rfl), .base (.tree _ _ rfl rfl), .base (.tree _ _ rfl rfl), .fn _ _ _ _ _ (by repeat (first | exact .nil | refine .cons (by first | exact .tree _ _ rfl rfl | exact .ptr _ _ _ rfl | exact .own _ _ rfl) ?_)) (by repeat (first | exact .nil | refine .cons (by first | exact .tree _ _ rfl rfl | exact .ptr _ _ _ rfl | exact .own _ _ rfl) ?_)), .base (.tree _ _ (show AV.int .i64 _ = AV.int .i64 ((A.length : Nat) : Int) by congr 1; omega) rfl), .base (.tree _ _ (show AV.int .i64 _ = AV.int .i64 ((B.length : Nat) : Int) by congr 1; omega) rfl), trivial⟩ ⟨⟨_, rfl, (by first | exact .row _ _ _ _ _ _ _ rfl rfl | exact .lstrow _ _ _ _ _ _ _ rfl rfl | exact .nilrow _ _ _ _ _ rfl | exact .truncrow _ _ _ _ _ _ _ _ rfl (by omega) rfl)⟩, trivial⟩)) ?_
  intro s hs
  have h1 := hs.mid
  have h2 := hs.all
  have h3 := hs.hx
  have h4 := hs.hy
  conv => whnf
  refine ⟨fun hc => ?_, fun hc => ?_⟩
  · simp only [Bool.not_eq_true', decide_eq_false_iff_not] at hc
    conv => whnf
    refine ⟨fun hd => ?_, fun hd => ?_⟩
    · simp only [gt_iff_lt, decide_eq_true_eq] at hd
      obtain ⟨g1, g2⟩ := hs.left (by omega)
      conv => whnf
      refine And.intro ⟨by omega, by omega⟩ ?_; conv => whnf
      have hcall := swap_at s.pre (s.x.take s.y.length) (s.x.drop s.y.length) s.y s.post (a := ((P.length + A.length : Nat) : Int) - ((s.x.length : Nat) : Int)) (b := ((P.length + A.length : Nat) : Int)) (n := ((s.y.length : Nat) : Int)) (xs := Rot.row s) (by rw [List.length_take]; omega) (by simp only [List.length_take, List.length_drop]; omega) (by omega) (by simp only [List.length_take, List.length_drop]; omega) (by rw [List.length_take]; omega) (by rw [Rot.row]; congr 1; rw [← List.append_assoc (List.take _ _), List.take_append_drop])
      refine .raw _ _ rfl (fun h => by cases h) (callio_sem (hcall) [0] _ rfl rfl ⟨rfl, trivial⟩ (by repeat (first | exact .nil | (apply BorL.cons; first | exact .map _ _ rfl | exact .ptr _ _ _ rfl | exact .own _ _ rfl | exact .fnp _ _ _ _ rfl | (apply BorIO.lend; first | exact lS rfl | exact lR rfl | exact lM rfl rfl | exact lL rfl | exact lX rfl | exact lN | exact lNl | exact lSm rfl | exact lIm rfl | exact lGm rfl | exact lP rfl | exact lQ rfl | exact lB rfl rfl rfl)))) rfl (by first | exact .inl rfl | exact .inr (fun b rs h => by first | obtain ⟨rfl, rfl⟩ := h | obtain ⟨_, _, _, rfl, rfl⟩ := h; exact ⟨by repeat (first | exact flats_nil | refine flats_cons (by first | exact flat_val _ rfl | exact flat_row (fun _ => rfl) | exact flat_lst (fun _ => rfl)) ?_), by repeat (first | exact flats0 | refine flats1 (by first | exact flatB_row (fun _ => rfl) | exact flatB_lst (fun _ => rfl) | exact flatB_smap (fun _ => rfl) | exact flatB_imap (fun _ => rfl) | exact flatB_cells rfl) ?_)⟩))) ?_
      rintro r ⟨b, rs, ⟨rfl, rfl⟩, rfl⟩
      refine ⟨tn_ge _ _, ?_⟩
      conv => whnf
      refine And.intro ⟨by omega, by omega⟩ ?_; conv => whnf
      refine ⟨_, g1, (show (s.x.drop s.y.length).length + (s.x.take s.y.length).length < s.x.length + s.y.length by simp only [List.length_take, List.length_drop]; omega), (wk_of [(0, .id 0)] rfl ⟨(by first | exact .base (.own _ _ rfl) | exact .base (.nilown _ rfl) | exact .base (.trunc _ _ _ rfl)), .base (.tree _ _ rfl rfl), .base (.tree _ _ rfl rfl), .base (.tree _ _ rfl rfl), .fn _ _ _ _ _ (by repeat (first | exact .nil | refine .cons (by first | exact .tree _ _ rfl rfl | exact .ptr _ _ _ rfl | exact .own _ _ rfl) ?_)) (by repeat (first | exact .nil | refine .cons (by first | exact .tree _ _ rfl rfl | exact .ptr _ _ _ rfl | exact .own _ _ rfl) ?_)), .base (.tree _ _ (show AV.int .i64 _ = AV.int .i64 (((s.x.drop s.y.length).length : Nat) : Int) by congr 1; rw [List.length_drop]; omega) rfl), .base (.tree _ _ (show AV.int .i64 _ = AV.int .i64 (((s.x.take s.y.length).length : Nat) : Int) by congr 1; rw [List.length_take]; omega) rfl), trivial⟩ ⟨⟨_, rfl, (by first | exact .row _ _ _ _ _ _ _ rfl g2 | exact .lstrow _ _ _ _ _ _ _ rfl g2 | exact .nilrow _ _ _ _ _ g2 | exact .truncrow _ _ _ _ _ _ _ _ rfl (by omega) g2)⟩, trivial⟩)⟩
    · simp only [gt_iff_lt, decide_eq_false_iff_not] at hd
      obtain ⟨g1, g2⟩ := hs.right (by omega)
      conv => whnf
      refine And.intro ⟨by omega, by omega⟩ ?_; conv => whnf
      refine And.intro ⟨by omega, by omega⟩ ?_; conv => whnf
      refine And.intro ⟨by omega, by omega⟩ ?_; conv => whnf
      have hcall := swap_at s.pre s.x (s.y.take (s.y.length - s.x.length)) (s.y.drop (s.y.length - s.x.length)) s.post (a := ((P.length + A.length : Nat) : Int) - ((s.x.length : Nat) : Int)) (b := ((P.length + A.length : Nat) : Int) + ((s.y.length : Nat) : Int) - ((s.x.length : Nat) : Int)) (n := ((s.x.length : Nat) : Int)) (xs := Rot.row s) (by rw [List.length_drop]; omega) (by simp only [List.length_take, List.length_drop]; omega) (by omega) (by simp only [List.length_take]; omega) (by omega) (by rw [Rot.row]; congr 2; rw [← List.append_assoc (List.take _ _), List.take_append_drop])
      refine .raw _ _ rfl (fun h => by cases h) (callio_sem (hcall) [0] _ rfl rfl ⟨rfl, trivial⟩ (by repeat (first | exact .nil | (apply BorL.cons; first | exact .map _ _ rfl | exact .ptr _ _ _ rfl | exact .own _ _ rfl | exact .fnp _ _ _ _ rfl | (apply BorIO.lend; first | exact lS rfl | exact lR rfl | exact lM rfl rfl | exact lL rfl | exact lX rfl | exact lN | exact lNl | exact lSm rfl | exact lIm rfl | exact lGm rfl | exact lP rfl | exact lQ rfl | exact lB rfl rfl rfl)))) rfl (by first | exact .inl rfl | exact .inr (fun b rs h => by first | obtain ⟨rfl, rfl⟩ := h | obtain ⟨_, _, _, rfl, rfl⟩ := h; exact ⟨by repeat (first | exact flats_nil | refine flats_cons (by first | exact flat_val _ rfl | exact flat_row (fun _ => rfl) | exact flat_lst (fun _ => rfl)) ?_), by repeat (first | exact flats0 | refine flats1 (by first | exact flatB_row (fun _ => rfl) | exact flatB_lst (fun _ => rfl) | exact flatB_smap (fun _ => rfl) | exact flatB_imap (fun _ => rfl) | exact flatB_cells rfl) ?_)⟩))) ?_
      rintro r ⟨b, rs, ⟨rfl, rfl⟩, rfl⟩
      refine ⟨tn_ge _ _, ?_⟩
      conv => whnf
      refine And.intro ⟨by omega, by omega⟩ ?_; conv => whnf
      refine ⟨_, g1, (show (s.y.drop (s.y.length - s.x.length)).length + (s.y.take (s.y.length - s.x.length)).length < s.x.length + s.y.length by simp only [List.length_take, List.length_drop]; omega), (wk_of [(0, .id 0)] rfl ⟨(by first | exact .base (.own _ _ rfl) | exact .base (.nilown _ rfl) | exact .base (.trunc _ _ _ rfl)), .base (.tree _ _ rfl rfl), .base (.tree _ _ rfl rfl), .base (.tree _ _ rfl rfl), .fn _ _ _ _ _ (by repeat (first | exact .nil | refine .cons (by first | exact .tree _ _ rfl rfl | exact .ptr _ _ _ rfl | exact .own _ _ rfl) ?_)) (by repeat (first | exact .nil | refine .cons (by first | exact .tree _ _ rfl rfl | exact .ptr _ _ _ rfl | exact .own _ _ rfl) ?_)), .base (.tree _ _ (show AV.int .i64 _ = AV.int .i64 (((s.y.drop (s.y.length - s.x.length)).length : Nat) : Int) by congr 1; rw [List.length_drop]; omega) rfl), .base (.tree _ _ (show AV.int .i64 _ = AV.int .i64 (((s.y.take (s.y.length - s.x.length)).length : Nat) : Int) by congr 1; rw [List.length_take]; omega) rfl), trivial⟩ ⟨⟨_, rfl, (by first | exact .row _ _ _ _ _ _ _ rfl g2 | exact .lstrow _ _ _ _ _ _ _ rfl g2 | exact .nilrow _ _ _ _ _ g2 | exact .truncrow _ _ _ _ _ _ _ _ rfl (by omega) g2)⟩, trivial⟩)⟩
  · simp only [Bool.not_eq_false', decide_eq_true_eq] at hc
    conv => whnf
    refine And.intro ⟨by omega, by omega⟩ ?_; conv => whnf
    have hcall := swap_at s.pre s.x [] s.y s.post (a := ((P.length + A.length : Nat) : Int) - ((s.x.length : Nat) : Int)) (b := ((P.length + A.length : Nat) : Int)) (n := ((s.x.length : Nat) : Int)) (xs := Rot.row s) (by omega) (by simp only [List.length_nil]; omega) (by omega) (by simp only [List.length_nil]; omega) (by omega) rfl
    refine .raw _ _ rfl (fun h => by cases h) (callio_sem (hcall) [0] _ rfl rfl ⟨rfl, trivial⟩ (by repeat (first | exact .nil | (apply BorL.cons; first | exact .map _ _ rfl | exact .ptr _ _ _ rfl | exact .own _ _ rfl | exact .fnp _ _ _ _ rfl | (apply BorIO.lend; first | exact lS rfl | exact lR rfl | exact lM rfl rfl | exact lL rfl | exact lX rfl | exact lN | exact lNl | exact lSm rfl | exact lIm rfl | exact lGm rfl | exact lP rfl | exact lQ rfl | exact lB rfl rfl rfl)))) rfl (by first | exact .inl rfl | exact .inr (fun b rs h => by first | obtain ⟨rfl, rfl⟩ := h | obtain ⟨_, _, _, rfl, rfl⟩ := h; exact ⟨by repeat (first | exact flats_nil | refine flats_cons (by first | exact flat_val _ rfl | exact flat_row (fun _ => rfl) | exact flat_lst (fun _ => rfl)) ?_), by repeat (first | exact flats0 | refine flats1 (by first | exact flatB_row (fun _ => rfl) | exact flatB_lst (fun _ => rfl) | exact flatB_smap (fun _ => rfl) | exact flatB_imap (fun _ => rfl) | exact flatB_cells rfl) ?_)⟩))) ?_
    rintro r ⟨b, rs, ⟨rfl, rfl⟩, rfl⟩
    refine ⟨tn_ge _ _, ?_⟩
    conv => whnf
    refine ⟨?_, rfl⟩
    rw [List.nil_append, hs.goal]
    rfl

end Go.Proofs.YtjlnaogechkjdaaGreatDoor


namespace Go.Proofs.YtjlnaogechkjdaaGreatDoor
open Go.Own
set_option maxHeartbeats 4000000
set_option maxRecDepth 100000

theorem cmpI_lt {a b : Int} : cmpI a b < 0 ↔ a < b := by
  unfold cmpI
  split
  · simp_all
  · split <;> omega

theorem getD_right {α : Type} (a b : List α) (d : α) {n : Nat} (h : a.length ≤ n) : (a ++ b).getD n d = b.getD (n - a.length) d := by
  rw [List.getD_eq_getElem?_getD, List.getElem?_append_right h, ← List.getD_eq_getElem?_getD]
theorem getD_left {α : Type} (a b : List α) (d : α) {n : Nat} (h : n < a.length) : (a ++ b).getD n d = a.getD n d := by
  rw [List.getD_eq_getElem?_getD, List.getElem?_append_left h, ← List.getD_eq_getElem?_getD]
theorem asc_get {B : List Ent} (s : Asc B) {i j : Nat} (h : i ≤ j) (hj : j < B.length) : (B.getD i e0).id ≤ (B.getD j e0).id := by
  rcases Nat.lt_or_ge i j with h' | h'
  · have := List.pairwise_iff_getElem.1 s i j (by omega) hj h'
    simpa [List.getD_eq_getElem?_getD, hj, (by omega : i < B.length)] using this
  · have : i = j := by omega
    rw [this]; exact Int.le_refl _
theorem mem_take {B : List Ent} {i : Nat} {y : Ent} (h : y ∈ B.take i) : ∃ k, k < i ∧ k < B.length ∧ y = B.getD k e0 := by
  obtain ⟨k, hk, e⟩ := List.getElem_of_mem h
  rw [List.length_take] at hk
  refine ⟨k, by omega, by omega, ?_⟩
  rw [List.getElem_take] at e
  rw [← e]
  simp [List.getD_eq_getElem?_getD, (by omega : k < B.length)]
theorem mem_drop {B : List Ent} {i : Nat} {y : Ent} (h : y ∈ B.drop i) : ∃ k, i ≤ k ∧ k < B.length ∧ y = B.getD k e0 := by
  obtain ⟨k, hk, e⟩ := List.getElem_of_mem h
  rw [List.length_drop] at hk
  refine ⟨i + k, by omega, by omega, ?_⟩
  rw [List.getElem_drop] at e
  rw [← e]
  simp [List.getD_eq_getElem?_getD, (by omega : i + k < B.length)]
theorem take_lt {B : List Ent} (s : Asc B) {i : Nat} (hi : i ≤ B.length) {v : Int} (h : i = 0 ∨ (B.getD (i - 1) e0).id < v) : ∀ y ∈ B.take i, y.id < v := fun y hy => by
  obtain ⟨k, h1, h2, rfl⟩ := mem_take hy
  have := asc_get s (i := k) (j := i - 1) (by omega) (by omega)
  rcases h with h | h <;> omega
theorem take_le {B : List Ent} (s : Asc B) {i : Nat} (hi : i ≤ B.length) {v : Int} (h : i = 0 ∨ (B.getD (i - 1) e0).id ≤ v) : ∀ y ∈ B.take i, y.id ≤ v := fun y hy => by
  obtain ⟨k, h1, h2, rfl⟩ := mem_take hy
  have := asc_get s (i := k) (j := i - 1) (by omega) (by omega)
  rcases h with h | h <;> omega
theorem drop_lt {B : List Ent} (s : Asc B) {i : Nat} {v : Int} (h : B.length ≤ i ∨ v < (B.getD i e0).id) : ∀ y ∈ B.drop i, v < y.id := fun y hy => by
  obtain ⟨k, h1, h2, rfl⟩ := mem_drop hy
  have := asc_get s (i := i) (j := k) h1 h2
  rcases h with h | h <;> omega
theorem drop_le {B : List Ent} (s : Asc B) {i : Nat} {v : Int} (h : B.length ≤ i ∨ v ≤ (B.getD i e0).id) : ∀ y ∈ B.drop i, v ≤ y.id := fun y hy => by
  obtain ⟨k, h1, h2, rfl⟩ := mem_drop hy
  have := asc_get s (i := i) (j := k) h1 h2
  rcases h with h | h <;> omega
/-- One is put in at its place. -/
theorem put_in {B : List Ent} (s : Asc B) {x : Ent} {i : Nat} (h1 : ∀ y ∈ B.take i, y.id ≤ x.id) (h2 : ∀ y ∈ B.drop i, x.id ≤ y.id) : Asc (B.take i ++ ([x] ++ B.drop i)) := by
  have s' := s
  rw [← List.take_append_drop i B] at s'
  refine s'.left.app ((asc_one x).app s'.right fun a ha y hy => ?_) fun a ha y hy => ?_
  · rw [List.mem_singleton] at ha; subst ha; exact h2 y hy
  · rcases List.mem_append.1 hy with hy | hy
    · rw [List.mem_singleton] at hy; subst hy; exact h1 a ha
    · exact s'.cross a ha y hy
theorem put_stb1 {B : List Ent} {x : Ent} {i : Nat} (h1 : ∀ y ∈ B.take i, y.id < x.id) : Stb ([x] ++ B) (B.take i ++ ([x] ++ B.drop i)) := by
  have e : [x] ++ B = ([x] ++ B.take i) ++ B.drop i := by rw [List.append_assoc, List.take_append_drop]
  rw [e, ← List.append_assoc]
  refine Stb.app (Stb.swap_lt fun a ha y hy => ?_) (Stb.refl _)
  rw [List.mem_singleton] at ha; subst ha; exact h1 y hy
theorem put_stb2 {A : List Ent} {x : Ent} {i : Nat} (h1 : ∀ y ∈ A.drop i, x.id < y.id) : Stb (A ++ [x]) (A.take i ++ ([x] ++ A.drop i)) := by
  have e : A ++ [x] = A.take i ++ (A.drop i ++ [x]) := by rw [← List.append_assoc, List.take_append_drop]
  rw [e]
  refine Stb.app (Stb.refl _) (Stb.swap_lt fun a ha y hy => ?_)
  rw [List.mem_singleton] at hy; subst hy; exact h1 a ha
theorem mid_nat {u v : Nat} (h : u + v ≤ 1000000000) : (IntKind.u64.wrap ((u : Int) + (v : Int))).fdiv (2 ^ min (Int.toNat 1) IntKind.u64.bits) = (((u + v) / 2 : Nat) : Int) := by
  have e1 : IntKind.u64.wrap ((u : Int) + (v : Int)) = (u : Int) + (v : Int) := by
    show ((u : Int) + (v : Int)) % 18446744073709551616 = _
    omega
  have e2 : (2 : Int) ^ min (Int.toNat 1) IntKind.u64.bits = 2 := by rfl
  rw [e1, e2, Int.fdiv_eq_ediv_of_nonneg _ (by decide)]
  omega
theorem in_left (P A B Q : List Ent) {n i : Nat} (h : n = P.length + i) (hi : i < A.length) : (P ++ (A ++ (B ++ Q))).getD n e0 = A.getD i e0 := by
  subst h
  rw [getD_right _ _ _ (by omega), Nat.add_sub_cancel_left, getD_left _ _ _ hi]
theorem in_right (P A B Q : List Ent) {n i : Nat} (h : n = P.length + A.length + i) (hi : i < B.length) : (P ++ (A ++ (B ++ Q))).getD n e0 = B.getD i e0 := by
  subst h
  rw [getD_right _ _ _ (by omega), getD_right _ _ _ (by omega), getD_left _ _ _ (by omega)]
  congr 1
  omega

/-- One element on its way. -/
def shR (P B : List Ent) (x : Ent) (Q : List Ent) (k : Nat) : List Ent := P ++ (B.take k ++ ([x] ++ (B.drop k ++ Q)))
theorem shR_len (P B : List Ent) (x : Ent) (Q : List Ent) (k : Nat) : (shR P B x Q k).length = P.length + 1 + B.length + Q.length := by
  unfold shR
  simp only [List.length_append, List.length_take, List.length_drop, List.length_singleton]
  omega
theorem shR_at (P B : List Ent) (x : Ent) (Q : List Ent) {k : Nat} (hk : k < B.length) : shR P B x Q k = (P ++ B.take k) ++ x :: ([] ++ B.getD k e0 :: (B.drop (k + 1) ++ Q)) := by
  unfold shR
  rw [drop_getD' hk]
  simp
theorem shR_succ (P B : List Ent) (x : Ent) (Q : List Ent) {k : Nat} (hk : k < B.length) : shR P B x Q (k + 1) = (P ++ B.take k) ++ B.getD k e0 :: ([] ++ x :: (B.drop (k + 1) ++ Q)) := by
  unfold shR
  rw [take_getD (d := e0) hk]
  simp
theorem shR_step (P B : List Ent) (x : Ent) (Q : List Ent) {k i j : Nat} (hk : k < B.length) (hi : i = P.length + k) (hj : j = P.length + k + 1) :
    (((shR P B x Q k).set i ((shR P B x Q k).getD j e0)).set j ((shR P B x Q k).getD i e0)) = shR P B x Q (k + 1) := by
  rw [shR_at P B x Q hk, shR_succ P B x Q hk]
  refine two_set _ _ _ _ _ ?_ ?_
  · rw [List.length_append, List.length_take]; omega
  · simp only [List.length_append, List.length_take, List.length_nil]; omega
theorem shR_back (P B : List Ent) (x : Ent) (Q : List Ent) {k i j : Nat} (hk : k < B.length) (hi : i = P.length + k) (hj : j = P.length + k + 1) :
    (((shR P B x Q (k + 1)).set j ((shR P B x Q (k + 1)).getD i e0)).set i ((shR P B x Q (k + 1)).getD j e0)) = shR P B x Q k := by
  rw [shR_at P B x Q hk, shR_succ P B x Q hk, List.set_comm _ _ (by omega)]
  refine two_set _ _ _ _ _ ?_ ?_
  · rw [List.length_append, List.length_take]; omega
  · simp only [List.length_append, List.length_take, List.length_nil]; omega

theorem mergeA_ok (P : List Ent) (x : Ent) (B Q : List Ent) (hB : 0 < B.length) (sB : Asc B) (hb : P.length + 1 + B.length + Q.length ≤ 1000000) {a m b : Int} {xs : List Ent}
    (ha : a = (P.length : Nat)) (hm : m = ((P.length + 1 : Nat) : Int)) (hb' : b = ((P.length + 1 + B.length : Nat) : Int)) (hx : xs = P ++ ([x] ++ (B ++ Q))) :
    AIO Tryz.prog 47 [.own 0, .int .i64 a, .int .i64 m, .int .i64 b, .fn (.func 20) [] []] [.row 33 5 encE e0 xs] (fun bs rs => ∃ M, Asc M ∧ Stb ([x] ++ B) M ∧ bs = [.row 33 5 encE e0 (P ++ (M ++ Q))] ∧ rs = []) := by
  subst ha hm hb' hx
  have hlen : (P ++ ([x] ++ (B ++ Q))).length = P.length + 1 + B.length + Q.length := by simp only [List.length_append, List.length_singleton]; omega
  refine aio_of (C := cxP 1 220 [0, 1, 2, 3, 4, 10, 11, 12, 13, 14, 15, 16, 17, 18, 19, 20, 21, 22, 23, 24, 28, 33, 50, 58, 80, 85, 103, 110, 140, 151, 171, 185, 199, 213]) (cxPOk _ _ _) Tryz.func47 rfl (by decide) rfl (by exact Nat.le_of_ble_eq_true rfl) (by decide) rfl rfl ?_
  conv => whnf
  refine And.intro ⟨by omega, by omega⟩ ?_; conv => whnf
  refine ⟨fun hc => ?_, fun hc => ?_⟩
  · conv => whnf
    refine loop_inv (cxPOk _ _ _) (σ := Nat × Nat) (fun s => s.1 ≤ s.2 ∧ s.2 ≤ B.length ∧ (s.1 = 0 ∨ (B.getD (s.1 - 1) e0).id < x.id) ∧ (B.length ≤ s.2 ∨ x.id ≤ (B.getD s.2 e0).id)) (fun s => s.2 - s.1) (fun s => ⟨[(0, .own 0), (1, .int .i64 (P.length : Nat)), (2, .int .i64 ((P.length + 1 : Nat) : Int)), (3, .int .i64 ((P.length + 1 + B.length : Nat) : Int)), (4, .fn (.func 20) [] []), (10, .int .i64 ((P.length + 1 + (s.1) : Nat) : Int)), (11, .int .i64 ((P.length + 1 + (s.2) : Nat) : Int))], [(0, .row 33 5 encE e0 (P ++ ([x] ++ (B ++ Q))))], 1⟩) (0, B.length) ⟨Nat.zero_le _, Nat.le_refl _, .inl rfl, .inl (Nat.le_refl _)⟩ ((wk_of [(0, .id 0)] rfl ⟨(by first | exact .base (.own _ _ rfl) | exact .base (.nilown _ rfl) | exact .base (.trunc _ _ _ rfl)), .base (.tree _ _ rfl rfl), .base (.tree _ _ rfl rfl), .base (.tree _ _ rfl rfl), .fn _ _ _ _ _ (by repeat (first | exact .nil | refine .cons (by first | exact .tree _ _ rfl rfl | exact .ptr _ _ _ rfl | exact .own _ _ rfl) ?_)) (by repeat (first | exact .nil | refine .cons (by first | exact .tree _ _ rfl rfl | exact .ptr _ _ _ rfl | exact .own _ _ rfl) ?_)), .base (.tree _ _ rfl rfl), .base (.tree _ _ rfl rfl), trivial⟩ ⟨⟨_, rfl, (by first | exact .row _ _ _ _ _ _ _ rfl rfl | exact .lstrow _ _ _ _ _ _ _ rfl rfl | exact .nilrow _ _ _ _ _ rfl | exact .truncrow _ _ _ _ _ _ _ _ rfl (by omega) rfl)⟩, trivial⟩)) ?_
    rintro ⟨i, j⟩ ⟨h1, h2, h3, h4⟩
    dsimp only at h1 h2 h3 h4
    change evCode _ _ ⟨[(0, .own 0), (1, .int .i64 (P.length : Nat)), (2, .int .i64 ((P.length + 1 : Nat) : Int)), (3, .int .i64 ((P.length + 1 + B.length : Nat) : Int)), (4, .fn (.func 20) [] []), (10, .int .i64 ((P.length + 1 + i : Nat) : Int)), (11, .int .i64 ((P.length + 1 + j : Nat) : Int))], [(0, .row 33 5 encE e0 (P ++ ([x] ++ (B ++ Q))))], 1⟩ _
    conv => whnf
    refine ⟨fun hd => ?_, fun hd => ?_⟩
    · simp only [decide_eq_true_eq] at hd
      conv => whnf
      refine And.intro ⟨by omega, by omega⟩ ?_; conv => whnf
      refine And.intro (by decide) ?_
      conv => whnf
      rw [mid_nat (u := P.length + 1 + i) (v := P.length + 1 + j) (by omega)]
      have hm1 : ((P.length + 1 + i) + (P.length + 1 + j)) / 2 = P.length + 1 + (i + j) / 2 := by omega
      rw [hm1]
      generalize hh : (i + j) / 2 = h at *
      have hh1 : i ≤ h ∧ h < j := by omega
      refine And.intro ⟨by omega, by omega⟩ ?_
      conv => whnf
      refine .quiet (by kernel_rfl) ?_; conv => whnf
      refine And.intro ⟨by omega, by omega⟩ ?_; conv => whnf
      refine And.intro (by omega) (And.intro rfl ?_); conv => whnf
      refine And.intro ⟨by omega, by omega⟩ ?_; conv => whnf
      refine And.intro (by omega) (And.intro rfl ?_); conv => whnf
      rw [show (P ++ ([x] ++ (B ++ Q))).getD (((P.length + 1 + h : Nat) : Int)).toNat e0 = B.getD h e0 from in_right P [x] B Q (by rw [Int.toNat_natCast]; rfl) (by omega)]
      rw [show (P ++ ([x] ++ (B ++ Q))).getD ((P.length : Nat) : Int).toNat e0 = x from in_left P [x] B Q (i := 0) (by rw [Int.toNat_natCast]; rfl) (by simp)]
      refine .mk _ _ _ _ (fun _ => byId_ok (B.getD h e0) x) (by repeat (first | exact .nil | (apply BorL.cons; first | exact lS rfl | exact lR rfl | exact lM rfl rfl | exact lL rfl | exact lX rfl | exact lN | exact lNl | exact lSm rfl | exact lIm rfl | exact lGm rfl | exact lP rfl | exact lQ rfl | exact lB rfl rfl rfl))) rfl ?_
      conv => whnf
      refine ⟨fun he => ?_, fun he => ?_⟩
      · simp only [decide_eq_true_eq, cmpI_lt] at he
        conv => whnf
        refine And.intro ⟨by omega, by omega⟩ ?_; conv => whnf
        refine ⟨(h + 1, j), ⟨by show h + 1 ≤ j; omega, h2, .inr he, h4⟩, (show j - (h + 1) < j - i by omega), (wk_of [(0, .id 0)] rfl ⟨(by first | exact .base (.own _ _ rfl) | exact .base (.nilown _ rfl) | exact .base (.trunc _ _ _ rfl)), .base (.tree _ _ rfl rfl), .base (.tree _ _ rfl rfl), .base (.tree _ _ rfl rfl), .fn _ _ _ _ _ (by repeat (first | exact .nil | refine .cons (by first | exact .tree _ _ rfl rfl | exact .ptr _ _ _ rfl | exact .own _ _ rfl) ?_)) (by repeat (first | exact .nil | refine .cons (by first | exact .tree _ _ rfl rfl | exact .ptr _ _ _ rfl | exact .own _ _ rfl) ?_)), .base (.tree _ _ rfl rfl), .base (.tree _ _ rfl rfl), trivial⟩ ⟨⟨_, rfl, (by first | exact .row _ _ _ _ _ _ _ rfl rfl | exact .lstrow _ _ _ _ _ _ _ rfl rfl | exact .nilrow _ _ _ _ _ rfl | exact .truncrow _ _ _ _ _ _ _ _ rfl (by omega) rfl)⟩, trivial⟩)⟩
      · simp only [decide_eq_false_iff_not, cmpI_lt] at he
        conv => whnf
        refine ⟨(i, h), ⟨hh1.1, by show h ≤ B.length; omega, h3, .inr (by show x.id ≤ (B.getD h e0).id; omega)⟩, (show h - i < j - i by omega), (wk_of [(0, .id 0)] rfl ⟨(by first | exact .base (.own _ _ rfl) | exact .base (.nilown _ rfl) | exact .base (.trunc _ _ _ rfl)), .base (.tree _ _ rfl rfl), .base (.tree _ _ rfl rfl), .base (.tree _ _ rfl rfl), .fn _ _ _ _ _ (by repeat (first | exact .nil | refine .cons (by first | exact .tree _ _ rfl rfl | exact .ptr _ _ _ rfl | exact .own _ _ rfl) ?_)) (by repeat (first | exact .nil | refine .cons (by first | exact .tree _ _ rfl rfl | exact .ptr _ _ _ rfl | exact .own _ _ rfl) ?_)), .base (.tree _ _ rfl rfl), .base (.tree _ _ rfl rfl), trivial⟩ ⟨⟨_, rfl, (by first | exact .row _ _ _ _ _ _ _ rfl rfl | exact .lstrow _ _ _ _ _ _ _ rfl rfl | exact .nilrow _ _ _ _ _ rfl | exact .truncrow _ _ _ _ _ _ _ _ rfl (by omega) rfl)⟩, trivial⟩)⟩
    · simp only [decide_eq_false_iff_not] at hd
      obtain rfl : i = j := by omega
      have g1 := take_lt sB h2 h3
      have g2 := drop_le sB h4
      conv => whnf
      refine loop_up (cxPOk _ _ _) i (fun _ => True) (fun k => ⟨[(0, .own 0), (1, .int .i64 (P.length : Nat)), (2, .int .i64 ((P.length + 1 : Nat) : Int)), (3, .int .i64 ((P.length + 1 + B.length : Nat) : Int)), (4, .fn (.func 20) [] []), (10, .int .i64 ((P.length + 1 + i : Nat) : Int)), (13, .int .i64 ((P.length + k : Nat) : Int))], [(0, .row 33 5 encE e0 (shR P B x Q k))], 1⟩) trivial ((wk_of [(0, .id 0)] rfl ⟨(by first | exact .base (.own _ _ rfl) | exact .base (.nilown _ rfl) | exact .base (.trunc _ _ _ rfl)), .base (.tree _ _ rfl rfl), .base (.tree _ _ rfl rfl), .base (.tree _ _ rfl rfl), .fn _ _ _ _ _ (by repeat (first | exact .nil | refine .cons (by first | exact .tree _ _ rfl rfl | exact .ptr _ _ _ rfl | exact .own _ _ rfl) ?_)) (by repeat (first | exact .nil | refine .cons (by first | exact .tree _ _ rfl rfl | exact .ptr _ _ _ rfl | exact .own _ _ rfl) ?_)), .base (.tree _ _ rfl rfl), .base (.tree _ _ rfl rfl), trivial⟩ ⟨⟨_, rfl, (by first | exact .row _ _ _ _ _ _ _ rfl (show P ++ ([x] ++ (B ++ Q)) = shR P B x Q 0 by simp [shR]) | exact .lstrow _ _ _ _ _ _ _ rfl (show P ++ ([x] ++ (B ++ Q)) = shR P B x Q 0 by simp [shR]) | exact .nilrow _ _ _ _ _ (show P ++ ([x] ++ (B ++ Q)) = shR P B x Q 0 by simp [shR]) | exact .truncrow _ _ _ _ _ _ _ _ rfl (by omega) (show P ++ ([x] ++ (B ++ Q)) = shR P B x Q 0 by simp [shR]))⟩, trivial⟩)) ?_
      intro k hk _
      have hlen2 := shR_len P B x Q k
      conv => whnf
      refine And.intro ⟨by omega, by omega⟩ ?_; conv => whnf
      refine ⟨fun hf => ?_, fun hf => ?_⟩
      · simp only [decide_eq_true_eq] at hf
        have hlt : k < i := by omega
        conv => whnf
        refine .eff (by first | exact cxOk _ _ | exact cxPOk _ _ _) ?_; conv => whnf
        refine And.intro ⟨by omega, by omega⟩ ?_; conv => whnf
        refine And.intro ⟨by omega, by omega⟩ ?_; conv => whnf
        refine And.intro ⟨by omega, by omega⟩ ?_; conv => whnf
        refine And.intro (by omega) (And.intro rfl ?_); conv => whnf
        refine And.intro ⟨by omega, by omega⟩ ?_; conv => whnf
        refine And.intro (by omega) (And.intro rfl ?_); conv => whnf
        refine And.intro ⟨by omega, by omega⟩ ?_; conv => whnf
        refine Exists.intro _ (And.intro rfl (And.intro (by first | omega | (simp; omega)) (And.intro ⟨rfl, rfl, rfl, rfl, rfl⟩ ?_))); conv => whnf
        refine And.intro ⟨(by first | omega | (simp; omega)), (by first | omega | (simp; omega))⟩ ?_; conv => whnf
        refine Exists.intro _ (And.intro rfl (And.intro (by first | omega | (simp; omega)) (And.intro ⟨rfl, rfl, rfl, rfl, rfl⟩ ?_))); conv => whnf
        refine And.intro rfl ?_; conv => whnf
        refine And.intro ⟨by omega, by omega⟩ ?_; conv => whnf
        refine up hlt trivial ((wk_of [(0, .id 0)] rfl ⟨(by first | exact .base (.own _ _ rfl) | exact .base (.nilown _ rfl) | exact .base (.trunc _ _ _ rfl)), .base (.tree _ _ rfl rfl), .base (.tree _ _ rfl rfl), .base (.tree _ _ rfl rfl), .fn _ _ _ _ _ (by repeat (first | exact .nil | refine .cons (by first | exact .tree _ _ rfl rfl | exact .ptr _ _ _ rfl | exact .own _ _ rfl) ?_)) (by repeat (first | exact .nil | refine .cons (by first | exact .tree _ _ rfl rfl | exact .ptr _ _ _ rfl | exact .own _ _ rfl) ?_)), .base (.tree _ _ rfl rfl), .base (.tree _ _ rfl rfl), trivial⟩ ⟨⟨_, rfl, (by first | exact .row _ _ _ _ _ _ _ rfl (shR_step P B x Q (by omega) (by omega) (by omega)) | exact .lstrow _ _ _ _ _ _ _ rfl (shR_step P B x Q (by omega) (by omega) (by omega)) | exact .nilrow _ _ _ _ _ (shR_step P B x Q (by omega) (by omega) (by omega)) | exact .truncrow _ _ _ _ _ _ _ _ rfl (by omega) (shR_step P B x Q (by omega) (by omega) (by omega)))⟩, trivial⟩))
      · simp only [decide_eq_false_iff_not] at hf
        obtain rfl : k = i := by omega
        conv => whnf
        refine ⟨_, put_in sB (fun y hy => Int.le_of_lt (g1 y hy)) g2, put_stb1 g1, ?_, rfl⟩
        simp only [shR, List.append_assoc]
        rfl
  · simp only [decide_eq_false_iff_not] at hc
    omega

end Go.Proofs.YtjlnaogechkjdaaGreatDoor


namespace Go.Proofs.YtjlnaogechkjdaaGreatDoor
open Go.Own
set_option maxHeartbeats 4000000
set_option maxRecDepth 100000

theorem mergeB_ok (P A : List Ent) (y : Ent) (Q : List Ent) (hA : 1 < A.length) (sA : Asc A) (hb : P.length + A.length + 1 + Q.length ≤ 1000000) {a m b : Int} {xs : List Ent}
    (ha : a = (P.length : Nat)) (hm : m = ((P.length + A.length : Nat) : Int)) (hb' : b = ((P.length + A.length + 1 : Nat) : Int)) (hx : xs = P ++ (A ++ ([y] ++ Q))) :
    AIO Tryz.prog 47 [.own 0, .int .i64 a, .int .i64 m, .int .i64 b, .fn (.func 20) [] []] [.row 33 5 encE e0 xs] (fun bs rs => ∃ M, Asc M ∧ Stb (A ++ [y]) M ∧ bs = [.row 33 5 encE e0 (P ++ (M ++ Q))] ∧ rs = []) := by
  subst ha hm hb' hx
  have hlen : (P ++ (A ++ ([y] ++ Q))).length = P.length + A.length + 1 + Q.length := by simp only [List.length_append, List.length_singleton]; omega
  refine aio_of (C := cxP 1 220 [0, 1, 2, 3, 4, 10, 11, 12, 13, 14, 15, 16, 17, 18, 19, 20, 21, 22, 23, 24, 28, 33, 50, 58, 80, 85, 103, 110, 140, 151, 171, 185, 199, 213]) (cxPOk _ _ _) Tryz.func47 rfl (by decide) rfl (by exact Nat.le_of_ble_eq_true rfl) (by decide) rfl rfl ?_
  conv => whnf
  refine And.intro ⟨by omega, by omega⟩ ?_; conv => whnf
  refine ⟨fun hc => ?_, fun hc => ?_⟩
  · simp only [decide_eq_true_eq] at hc
    omega
  · conv => whnf
    refine And.intro ⟨by omega, by omega⟩ ?_; conv => whnf
    refine ⟨fun hc2 => ?_, fun hc2 => ?_⟩
    · conv => whnf
      refine loop_inv (cxPOk _ _ _) (σ := Nat × Nat) (fun s => s.1 ≤ s.2 ∧ s.2 ≤ A.length ∧ (s.1 = 0 ∨ (A.getD (s.1 - 1) e0).id ≤ y.id) ∧ (A.length ≤ s.2 ∨ y.id < (A.getD s.2 e0).id)) (fun s => s.2 - s.1) (fun s => ⟨[(0, .own 0), (1, .int .i64 (P.length : Nat)), (2, .int .i64 ((P.length + A.length : Nat) : Int)), (3, .int .i64 ((P.length + A.length + 1 : Nat) : Int)), (4, .fn (.func 20) [] []), (14, .int .i64 ((P.length + (s.1) : Nat) : Int)), (15, .int .i64 ((P.length + (s.2) : Nat) : Int))], [(0, .row 33 5 encE e0 (P ++ (A ++ ([y] ++ Q))))], 1⟩) (0, A.length) ⟨Nat.zero_le _, Nat.le_refl _, .inl rfl, .inl (Nat.le_refl _)⟩ ((wk_of [(0, .id 0)] rfl ⟨(by first | exact .base (.own _ _ rfl) | exact .base (.nilown _ rfl) | exact .base (.trunc _ _ _ rfl)), .base (.tree _ _ rfl rfl), .base (.tree _ _ rfl rfl), .base (.tree _ _ rfl rfl), .fn _ _ _ _ _ (by repeat (first | exact .nil | refine .cons (by first | exact .tree _ _ rfl rfl | exact .ptr _ _ _ rfl | exact .own _ _ rfl) ?_)) (by repeat (first | exact .nil | refine .cons (by first | exact .tree _ _ rfl rfl | exact .ptr _ _ _ rfl | exact .own _ _ rfl) ?_)), .base (.tree _ _ rfl rfl), .base (.tree _ _ rfl rfl), trivial⟩ ⟨⟨_, rfl, (by first | exact .row _ _ _ _ _ _ _ rfl rfl | exact .lstrow _ _ _ _ _ _ _ rfl rfl | exact .nilrow _ _ _ _ _ rfl | exact .truncrow _ _ _ _ _ _ _ _ rfl (by omega) rfl)⟩, trivial⟩)) ?_
      rintro ⟨i, j⟩ ⟨h1, h2, h3, h4⟩
      dsimp only at h1 h2 h3 h4
      change evCode _ _ ⟨[(0, .own 0), (1, .int .i64 (P.length : Nat)), (2, .int .i64 ((P.length + A.length : Nat) : Int)), (3, .int .i64 ((P.length + A.length + 1 : Nat) : Int)), (4, .fn (.func 20) [] []), (14, .int .i64 ((P.length + i : Nat) : Int)), (15, .int .i64 ((P.length + j : Nat) : Int))], [(0, .row 33 5 encE e0 (P ++ (A ++ ([y] ++ Q))))], 1⟩ _
      conv => whnf
      refine ⟨fun hd => ?_, fun hd => ?_⟩
      · simp only [decide_eq_true_eq] at hd
        conv => whnf
        refine And.intro ⟨by omega, by omega⟩ ?_; conv => whnf
        refine And.intro (by decide) ?_
        conv => whnf
        rw [mid_nat (u := P.length + i) (v := P.length + j) (by omega)]
        have hm1 : ((P.length + i) + (P.length + j)) / 2 = P.length + (i + j) / 2 := by omega
        rw [hm1]
        generalize hh : (i + j) / 2 = h at *
        have hh1 : i ≤ h ∧ h < j := by omega
        refine And.intro ⟨by omega, by omega⟩ ?_
        conv => whnf
        refine .quiet (by kernel_rfl) ?_; conv => whnf
        refine And.intro ⟨by omega, by omega⟩ ?_; conv => whnf
        refine And.intro (by omega) (And.intro rfl ?_); conv => whnf
        refine And.intro ⟨by omega, by omega⟩ ?_; conv => whnf
        refine And.intro (by omega) (And.intro rfl ?_); conv => whnf
        rw [show (P ++ (A ++ ([y] ++ Q))).getD (((P.length + A.length : Nat) : Int)).toNat e0 = y from in_right P A [y] Q (i := 0) (by rw [Int.toNat_natCast]; rfl) (by simp)]
        rw [show (P ++ (A ++ ([y] ++ Q))).getD ((P.length + h : Nat) : Int).toNat e0 = A.getD h e0 from in_left P A [y] Q (by rw [Int.toNat_natCast]) (by omega)]
        refine .mk _ _ _ _ (fun _ => byId_ok y (A.getD h e0)) (by repeat (first | exact .nil | (apply BorL.cons; first | exact lS rfl | exact lR rfl | exact lM rfl rfl | exact lL rfl | exact lX rfl | exact lN | exact lNl | exact lSm rfl | exact lIm rfl | exact lGm rfl | exact lP rfl | exact lQ rfl | exact lB rfl rfl rfl))) rfl ?_
        conv => whnf
        refine ⟨fun he => ?_, fun he => ?_⟩
        · simp only [Bool.not_eq_true', decide_eq_false_iff_not, cmpI_lt] at he
          conv => whnf
          refine And.intro ⟨by omega, by omega⟩ ?_; conv => whnf
          refine ⟨(h + 1, j), ⟨by show h + 1 ≤ j; omega, h2, .inr (by show (A.getD h e0).id ≤ y.id; omega), h4⟩, (show j - (h + 1) < j - i by omega), (wk_of [(0, .id 0)] rfl ⟨(by first | exact .base (.own _ _ rfl) | exact .base (.nilown _ rfl) | exact .base (.trunc _ _ _ rfl)), .base (.tree _ _ rfl rfl), .base (.tree _ _ rfl rfl), .base (.tree _ _ rfl rfl), .fn _ _ _ _ _ (by repeat (first | exact .nil | refine .cons (by first | exact .tree _ _ rfl rfl | exact .ptr _ _ _ rfl | exact .own _ _ rfl) ?_)) (by repeat (first | exact .nil | refine .cons (by first | exact .tree _ _ rfl rfl | exact .ptr _ _ _ rfl | exact .own _ _ rfl) ?_)), .base (.tree _ _ rfl rfl), .base (.tree _ _ rfl rfl), trivial⟩ ⟨⟨_, rfl, (by first | exact .row _ _ _ _ _ _ _ rfl rfl | exact .lstrow _ _ _ _ _ _ _ rfl rfl | exact .nilrow _ _ _ _ _ rfl | exact .truncrow _ _ _ _ _ _ _ _ rfl (by omega) rfl)⟩, trivial⟩)⟩
        · simp only [Bool.not_eq_false', decide_eq_true_eq, cmpI_lt] at he
          conv => whnf
          refine ⟨(i, h), ⟨hh1.1, by show h ≤ A.length; omega, h3, .inr he⟩, (show h - i < j - i by omega), (wk_of [(0, .id 0)] rfl ⟨(by first | exact .base (.own _ _ rfl) | exact .base (.nilown _ rfl) | exact .base (.trunc _ _ _ rfl)), .base (.tree _ _ rfl rfl), .base (.tree _ _ rfl rfl), .base (.tree _ _ rfl rfl), .fn _ _ _ _ _ (by repeat (first | exact .nil | refine .cons (by first | exact .tree _ _ rfl rfl | exact .ptr _ _ _ rfl | exact .own _ _ rfl) ?_)) (by repeat (first | exact .nil | refine .cons (by first | exact .tree _ _ rfl rfl | exact .ptr _ _ _ rfl | exact .own _ _ rfl) ?_)), .base (.tree _ _ rfl rfl), .base (.tree _ _ rfl rfl), trivial⟩ ⟨⟨_, rfl, (by first | exact .row _ _ _ _ _ _ _ rfl rfl | exact .lstrow _ _ _ _ _ _ _ rfl rfl | exact .nilrow _ _ _ _ _ rfl | exact .truncrow _ _ _ _ _ _ _ _ rfl (by omega) rfl)⟩, trivial⟩)⟩
      · simp only [decide_eq_false_iff_not] at hd
        obtain rfl : i = j := by omega
        have g1 := take_le sA h2 h3
        have g2 := drop_lt sA h4
        conv => whnf
        refine loop_up (cxPOk _ _ _) (A.length - i) (fun _ => True) (fun k => ⟨[(0, .own 0), (1, .int .i64 (P.length : Nat)), (2, .int .i64 ((P.length + A.length : Nat) : Int)), (3, .int .i64 ((P.length + A.length + 1 : Nat) : Int)), (4, .fn (.func 20) [] []), (14, .int .i64 ((P.length + i : Nat) : Int)), (17, .int .i64 ((P.length + (A.length - k) : Nat) : Int))], [(0, .row 33 5 encE e0 (shR P A y Q (A.length - k)))], 1⟩) trivial ((wk_of [(0, .id 0)] rfl ⟨(by first | exact .base (.own _ _ rfl) | exact .base (.nilown _ rfl) | exact .base (.trunc _ _ _ rfl)), .base (.tree _ _ rfl rfl), .base (.tree _ _ rfl rfl), .base (.tree _ _ rfl rfl), .fn _ _ _ _ _ (by repeat (first | exact .nil | refine .cons (by first | exact .tree _ _ rfl rfl | exact .ptr _ _ _ rfl | exact .own _ _ rfl) ?_)) (by repeat (first | exact .nil | refine .cons (by first | exact .tree _ _ rfl rfl | exact .ptr _ _ _ rfl | exact .own _ _ rfl) ?_)), .base (.tree _ _ rfl rfl), .base (.tree _ _ rfl rfl), trivial⟩ ⟨⟨_, rfl, (by first | exact .row _ _ _ _ _ _ _ rfl (show P ++ (A ++ ([y] ++ Q)) = shR P A y Q (A.length - 0) by simp [shR]) | exact .lstrow _ _ _ _ _ _ _ rfl (show P ++ (A ++ ([y] ++ Q)) = shR P A y Q (A.length - 0) by simp [shR]) | exact .nilrow _ _ _ _ _ (show P ++ (A ++ ([y] ++ Q)) = shR P A y Q (A.length - 0) by simp [shR]) | exact .truncrow _ _ _ _ _ _ _ _ rfl (by omega) (show P ++ (A ++ ([y] ++ Q)) = shR P A y Q (A.length - 0) by simp [shR]))⟩, trivial⟩)) ?_
        intro k hk _
        obtain ⟨t, ht, hkt⟩ : ∃ t, A.length - k = t ∧ k = A.length - t := ⟨_, rfl, by omega⟩
        rw [ht]
        have hlen2 := shR_len P A y Q t
        conv => whnf
        refine ⟨fun hf => ?_, fun hf => ?_⟩
        · simp only [gt_iff_lt, decide_eq_true_eq] at hf
          have hlt : k < A.length - i := by omega
          obtain ⟨t', rfl⟩ : ∃ t', t = t' + 1 := ⟨t - 1, by omega⟩
          conv => whnf
          refine .eff (by first | exact cxOk _ _ | exact cxPOk _ _ _) ?_; conv => whnf
          refine And.intro ⟨by omega, by omega⟩ ?_; conv => whnf
          refine And.intro ⟨by omega, by omega⟩ ?_; conv => whnf
          refine And.intro ⟨by omega, by omega⟩ ?_; conv => whnf
          refine And.intro (by omega) (And.intro rfl ?_); conv => whnf
          refine And.intro ⟨by omega, by omega⟩ ?_; conv => whnf
          refine And.intro (by omega) (And.intro rfl ?_); conv => whnf
          refine And.intro ⟨by omega, by omega⟩ ?_; conv => whnf
          refine Exists.intro _ (And.intro rfl (And.intro (by first | omega | (simp; omega)) (And.intro ⟨rfl, rfl, rfl, rfl, rfl⟩ ?_))); conv => whnf
          refine And.intro ⟨(by first | omega | (simp; omega)), (by first | omega | (simp; omega))⟩ ?_; conv => whnf
          refine Exists.intro _ (And.intro rfl (And.intro (by first | omega | (simp; omega)) (And.intro ⟨rfl, rfl, rfl, rfl, rfl⟩ ?_))); conv => whnf
          refine And.intro rfl ?_; conv => whnf
          refine And.intro ⟨by omega, by omega⟩ ?_; conv => whnf
          refine up hlt trivial ((wk_of [(0, .id 0)] rfl ⟨(by first | exact .base (.own _ _ rfl) | exact .base (.nilown _ rfl) | exact .base (.trunc _ _ _ rfl)), .base (.tree _ _ rfl rfl), .base (.tree _ _ rfl rfl), .base (.tree _ _ rfl rfl), .fn _ _ _ _ _ (by repeat (first | exact .nil | refine .cons (by first | exact .tree _ _ rfl rfl | exact .ptr _ _ _ rfl | exact .own _ _ rfl) ?_)) (by repeat (first | exact .nil | refine .cons (by first | exact .tree _ _ rfl rfl | exact .ptr _ _ _ rfl | exact .own _ _ rfl) ?_)), .base (.tree _ _ rfl rfl), .base (.tree _ _ (show AV.int .i64 _ = AV.int .i64 ((P.length + (A.length - (k + 1)) : Nat) : Int) by congr 1; omega) rfl), trivial⟩ ⟨⟨_, rfl, (by first | exact .row _ _ _ _ _ _ _ rfl (by rw [show A.length - (k + 1) = t' by omega]; exact shR_back P A y Q (by omega) (by omega) (by omega)) | exact .lstrow _ _ _ _ _ _ _ rfl (by rw [show A.length - (k + 1) = t' by omega]; exact shR_back P A y Q (by omega) (by omega) (by omega)) | exact .nilrow _ _ _ _ _ (by rw [show A.length - (k + 1) = t' by omega]; exact shR_back P A y Q (by omega) (by omega) (by omega)) | exact .truncrow _ _ _ _ _ _ _ _ rfl (by omega) (by rw [show A.length - (k + 1) = t' by omega]; exact shR_back P A y Q (by omega) (by omega) (by omega)))⟩, trivial⟩))
        · simp only [gt_iff_lt, decide_eq_false_iff_not] at hf
          obtain rfl : t = i := by omega
          conv => whnf
          refine ⟨_, put_in sA g1 (fun z hz => Int.le_of_lt (g2 z hz)), put_stb2 g2, ?_, rfl⟩
          simp only [shR, List.append_assoc]
          rfl
    · simp only [decide_eq_false_iff_not] at hc2
      omega

end Go.Proofs.YtjlnaogechkjdaaGreatDoor


namespace Go.Proofs.YtjlnaogechkjdaaGreatDoor
open Go.Own
set_option maxHeartbeats 16000000
set_option maxRecDepth 100000

theorem merge_fin {A1 A2 B1 B2 M1 M2 : List Ent} (sA : Asc (A1 ++ A2)) (sB : Asc (B1 ++ B2)) (hx : ∀ x ∈ A2, ∀ y ∈ B1, y.id < x.id) (hy : ∀ x ∈ A1, ∀ y ∈ B2, x.id ≤ y.id)
    (s1 : Asc M1) (t1 : Stb (A1 ++ B1) M1) (s2 : Asc M2) (t2 : Stb (A2 ++ B2) M2) : Asc (M1 ++ M2) ∧ Stb ((A1 ++ A2) ++ (B1 ++ B2)) (M1 ++ M2) := by
  refine ⟨s1.app s2 fun x hx1 y hy1 => ?_, ?_⟩
  · rcases List.mem_append.1 (t1.mem.1 hx1) with h1 | h1 <;> rcases List.mem_append.1 (t2.mem.1 hy1) with h2 | h2
    · exact sA.cross x h1 y h2
    · exact hy x h1 y h2
    · exact Int.le_of_lt (hx y h2 x h1)
    · exact sB.cross x h1 y h2
  · have e1 : (A1 ++ A2) ++ (B1 ++ B2) = A1 ++ ((A2 ++ B1) ++ B2) := by simp
    have e2 : Stb (A1 ++ ((A2 ++ B1) ++ B2)) (A1 ++ ((B1 ++ A2) ++ B2)) := (Stb.refl _).app ((Stb.swap_lt hx).app (Stb.refl _))
    have e3 : A1 ++ ((B1 ++ A2) ++ B2) = (A1 ++ B1) ++ (A2 ++ B2) := by simp
    rw [e1]
    refine e2.trans ?_
    rw [e3]
    exact t1.app t2
theorem cross1 {A B : List Ent} (sA : Asc A) (sB : Asc B) {u h : Nat} (hh : u < A.length → u < h → (B.getD (h - 1 - u) e0).id < (A.getD u e0).id) (hB : h - u ≤ B.length) : ∀ x ∈ A.drop u, ∀ y ∈ B.take (h - u), y.id < x.id := fun x hx y hy => by
  obtain ⟨k, h1, h2, rfl⟩ := mem_drop hx
  obtain ⟨l, h3, h4, rfl⟩ := mem_take hy
  have g1 := asc_get sA (i := u) (j := k) h1 h2
  have g2 := asc_get sB (i := l) (j := h - 1 - u) (by omega) (by omega)
  have g3 := hh (by omega) (by omega)
  omega
theorem cross2 {A B : List Ent} (sA : Asc A) (sB : Asc B) {u h : Nat} (hh : 0 < u → h - u < B.length → (A.getD (u - 1) e0).id ≤ (B.getD (h - u) e0).id) (hA : u ≤ A.length) : ∀ x ∈ A.take u, ∀ y ∈ B.drop (h - u), x.id ≤ y.id := fun x hx y hy => by
  obtain ⟨k, h1, h2, rfl⟩ := mem_take hx
  obtain ⟨l, h3, h4, rfl⟩ := mem_drop hy
  have g1 := asc_get sA (i := k) (j := u - 1) (by omega) (by omega)
  have g2 := asc_get sB (i := h - u) (j := l) (by omega) (by omega)
  have g3 := hh (by omega) (by omega)
  omega

def MergeAt (n : Nat) : Prop := ∀ (P A B Q : List Ent), A.length + B.length = n → 0 < A.length → 0 < B.length → Asc A → Asc B → P.length + A.length + B.length + Q.length ≤ 1000000 → ∀ {a m b : Int} {xs : List Ent},
    a = (P.length : Nat) → m = ((P.length + A.length : Nat) : Int) → b = ((P.length + A.length + B.length : Nat) : Int) → xs = P ++ (A ++ (B ++ Q)) →
    AIO Tryz.prog 47 [.own 0, .int .i64 a, .int .i64 m, .int .i64 b, .fn (.func 20) [] []] [.row 33 5 encE e0 xs] (fun bs rs => ∃ M, Asc M ∧ Stb (A ++ B) M ∧ bs = [.row 33 5 encE e0 (P ++ (M ++ Q))] ∧ rs = [])

theorem merge_step (n : Nat) (ih : ∀ k, k < n → MergeAt k) : MergeAt n := by
  intro P A B Q hn hA hB sA sB hb a m b xs ha hm hb' hx
  by_cases hA1 : A.length = 1
  · match A, hA1 with
    | [x], _ => exact mergeA_ok P x B Q hB sB (by simpa using hb) ha (by simpa using hm) (by simpa using hb') hx
  by_cases hB1 : B.length = 1
  · match B, hB1 with
    | [y], _ => exact mergeB_ok P A y Q (by omega) sA (by simpa using hb) ha hm (by simpa using hb') hx
  subst ha hm hb' hx
  have hlen : (P ++ (A ++ (B ++ Q))).length = P.length + A.length + B.length + Q.length := by simp only [List.length_append]; omega
  refine aio_of (C := cxP 1 220 [0, 1, 2, 3, 4, 10, 11, 12, 13, 14, 15, 16, 17, 18, 19, 20, 21, 22, 23, 24, 28, 33, 50, 58, 80, 85, 103, 110, 140, 151, 171, 185, 199, 213]) (cxPOk _ _ _) Tryz.func47 rfl (by decide) rfl (by exact Nat.le_of_ble_eq_true rfl) (by decide) rfl rfl ?_
  conv => whnf
  refine And.intro ⟨by omega, by omega⟩ ?_; conv => whnf
  refine ⟨fun hc => ?_, fun hc => ?_⟩
  · simp only [decide_eq_true_eq] at hc
    omega
  conv => whnf
  refine And.intro ⟨by omega, by omega⟩ ?_; conv => whnf
  refine ⟨fun hc2 => ?_, fun hc2 => ?_⟩
  · simp only [decide_eq_true_eq] at hc2
    omega
  conv => whnf
  refine And.intro ⟨by omega, by omega⟩ ?_; conv => whnf
  refine And.intro (by decide) ?_
  conv => whnf
  rw [mid_nat (u := P.length) (v := P.length + A.length + B.length) (by omega)]
  have hm1 : (P.length + (P.length + A.length + B.length)) / 2 = P.length + (A.length + B.length) / 2 := by omega
  rw [hm1]
  generalize hh : (A.length + B.length) / 2 = h at *
  refine And.intro ⟨by omega, by omega⟩ ?_
  conv => whnf
  refine And.intro ⟨by omega, by omega⟩ ?_; conv => whnf
  refine ⟨fun hd => ?_, fun hd => ?_⟩
  · simp only [decide_eq_true_eq] at hd
    obtain ⟨u0, v0, hU⟩ : ∃ u0 v0, B.length + u0 = h ∧ v0 = h ∧ h < A.length := ⟨h - B.length, h, by omega, rfl, by omega⟩
    conv => whnf
    refine And.intro ⟨by omega, by omega⟩ ?_; conv => whnf
    refine And.intro ⟨by omega, by omega⟩ ?_; conv => whnf
    refine loop_inv (cxPOk _ _ _) (σ := Nat × Nat) (fun s => u0 ≤ s.1 ∧ s.1 ≤ s.2 ∧ s.2 ≤ v0 ∧ (s.1 = u0 ∨ (A.getD (s.1 - 1) e0).id ≤ (B.getD (h - s.1) e0).id) ∧ (s.2 = v0 ∨ (B.getD (h - 1 - s.2) e0).id < (A.getD s.2 e0).id)) (fun s => s.2 - s.1) (fun s => ⟨[(0, .own 0), (1, .int .i64 (P.length : Nat)), (2, .int .i64 ((P.length + A.length : Nat) : Int)), (3, .int .i64 ((P.length + A.length + B.length : Nat) : Int)), (4, .fn (.func 20) [] []), (18, .int .i64 ((P.length + h : Nat) : Int)), (19, .int .i64 (((P.length + h : Nat) : Int) + ((P.length + A.length : Nat) : Int))), (20, .int .i64 ((P.length + (s.1) : Nat) : Int)), (21, .int .i64 ((P.length + (s.2) : Nat) : Int)), (22, .int .i64 (((P.length + h : Nat) : Int) + ((P.length + A.length : Nat) : Int) - 1))], [(0, .row 33 5 encE e0 (P ++ (A ++ (B ++ Q))))], 1⟩) (u0, v0) ⟨Nat.le_refl _, by show u0 ≤ v0; omega, Nat.le_refl _, .inl rfl, .inl rfl⟩ ((wk_of [(0, .id 0)] rfl ⟨(by first | exact .base (.own _ _ rfl) | exact .base (.nilown _ rfl) | exact .base (.trunc _ _ _ rfl)), .base (.tree _ _ rfl rfl), .base (.tree _ _ rfl rfl), .base (.tree _ _ rfl rfl), .fn _ _ _ _ _ (by repeat (first | exact .nil | refine .cons (by first | exact .tree _ _ rfl rfl | exact .ptr _ _ _ rfl | exact .own _ _ rfl) ?_)) (by repeat (first | exact .nil | refine .cons (by first | exact .tree _ _ rfl rfl | exact .ptr _ _ _ rfl | exact .own _ _ rfl) ?_)), .base (.tree _ _ rfl rfl), .base (.tree _ _ rfl rfl), .base (.tree _ _ (show AV.int .i64 _ = AV.int .i64 ((P.length + u0 : Nat) : Int) by congr 1; omega) rfl), .base (.tree _ _ (show AV.int .i64 _ = AV.int .i64 ((P.length + v0 : Nat) : Int) by congr 1; omega) rfl), .base (.tree _ _ rfl rfl), trivial⟩ ⟨⟨_, rfl, (by first | exact .row _ _ _ _ _ _ _ rfl rfl | exact .lstrow _ _ _ _ _ _ _ rfl rfl | exact .nilrow _ _ _ _ _ rfl | exact .truncrow _ _ _ _ _ _ _ _ rfl (by omega) rfl)⟩, trivial⟩)) ?_
    rintro ⟨u, v⟩ ⟨h1, h2, h3, h4, h5⟩
    dsimp only at h1 h2 h3 h4 h5
    change evCode _ _ ⟨[(0, .own 0), (1, .int .i64 (P.length : Nat)), (2, .int .i64 ((P.length + A.length : Nat) : Int)), (3, .int .i64 ((P.length + A.length + B.length : Nat) : Int)), (4, .fn (.func 20) [] []), (18, .int .i64 ((P.length + h : Nat) : Int)), (19, .int .i64 (((P.length + h : Nat) : Int) + ((P.length + A.length : Nat) : Int))), (20, .int .i64 ((P.length + u : Nat) : Int)), (21, .int .i64 ((P.length + v : Nat) : Int)), (22, .int .i64 (((P.length + h : Nat) : Int) + ((P.length + A.length : Nat) : Int) - 1))], [(0, .row 33 5 encE e0 (P ++ (A ++ (B ++ Q))))], 1⟩ _
    conv => whnf
    refine ⟨fun hf => ?_, fun hf => ?_⟩
    · simp only [decide_eq_true_eq] at hf
      conv => whnf
      refine And.intro ⟨by omega, by omega⟩ ?_; conv => whnf
      refine And.intro (by decide) ?_
      conv => whnf
      rw [mid_nat (u := P.length + u) (v := P.length + v) (by omega)]
      have hm2 : ((P.length + u) + (P.length + v)) / 2 = P.length + (u + v) / 2 := by omega
      rw [hm2]
      generalize hcc : (u + v) / 2 = c at *
      have hc1 : u ≤ c ∧ c < v := by omega
      refine And.intro ⟨by omega, by omega⟩ ?_
      conv => whnf
      refine .quiet (by kernel_rfl) ?_; conv => whnf
      refine And.intro ⟨by omega, by omega⟩ ?_; conv => whnf
      refine And.intro ⟨by omega, by omega⟩ ?_; conv => whnf
      refine And.intro (by omega) (And.intro rfl ?_); conv => whnf
      refine And.intro ⟨by omega, by omega⟩ ?_; conv => whnf
      refine And.intro (by omega) (And.intro rfl ?_); conv => whnf
      rw [show (P ++ (A ++ (B ++ Q))).getD (((P.length + h : Nat) : Int) + ((P.length + A.length : Nat) : Int) - 1 - ((P.length + c : Nat) : Int)).toNat e0 = B.getD (h - 1 - c) e0 from in_right P A B Q (by omega) (by omega)]
      rw [show (P ++ (A ++ (B ++ Q))).getD ((P.length + c : Nat) : Int).toNat e0 = A.getD c e0 from in_left P A B Q (by rw [Int.toNat_natCast]) (by omega)]
      refine .mk _ _ _ _ (fun _ => byId_ok (B.getD (h - 1 - c) e0) (A.getD c e0)) (by repeat (first | exact .nil | (apply BorL.cons; first | exact lS rfl | exact lR rfl | exact lM rfl rfl | exact lL rfl | exact lX rfl | exact lN | exact lNl | exact lSm rfl | exact lIm rfl | exact lGm rfl | exact lP rfl | exact lQ rfl | exact lB rfl rfl rfl))) rfl ?_
      conv => whnf
      refine ⟨fun he => ?_, fun he => ?_⟩
      · simp only [Bool.not_eq_true', decide_eq_false_iff_not, cmpI_lt] at he
        conv => whnf
        refine And.intro ⟨by omega, by omega⟩ ?_; conv => whnf
        refine ⟨(c + 1, v), ⟨by show u0 ≤ c + 1; omega, by show c + 1 ≤ v; omega, h3, .inr (by show (A.getD c e0).id ≤ (B.getD (h - (c + 1)) e0).id; rw [show h - (c + 1) = h - 1 - c by omega]; omega), h5⟩, (show v - (c + 1) < v - u by omega), (wk_of [(0, .id 0)] rfl ⟨(by first | exact .base (.own _ _ rfl) | exact .base (.nilown _ rfl) | exact .base (.trunc _ _ _ rfl)), .base (.tree _ _ rfl rfl), .base (.tree _ _ rfl rfl), .base (.tree _ _ rfl rfl), .fn _ _ _ _ _ (by repeat (first | exact .nil | refine .cons (by first | exact .tree _ _ rfl rfl | exact .ptr _ _ _ rfl | exact .own _ _ rfl) ?_)) (by repeat (first | exact .nil | refine .cons (by first | exact .tree _ _ rfl rfl | exact .ptr _ _ _ rfl | exact .own _ _ rfl) ?_)), .base (.tree _ _ rfl rfl), .base (.tree _ _ rfl rfl), .base (.tree _ _ rfl rfl), .base (.tree _ _ rfl rfl), .base (.tree _ _ rfl rfl), trivial⟩ ⟨⟨_, rfl, (by first | exact .row _ _ _ _ _ _ _ rfl rfl | exact .lstrow _ _ _ _ _ _ _ rfl rfl | exact .nilrow _ _ _ _ _ rfl | exact .truncrow _ _ _ _ _ _ _ _ rfl (by omega) rfl)⟩, trivial⟩)⟩
      · simp only [Bool.not_eq_false', decide_eq_true_eq, cmpI_lt] at he
        conv => whnf
        refine ⟨(u, c), ⟨h1, hc1.1, by show c ≤ v0; omega, h4, .inr he⟩, (show c - u < v - u by omega), (wk_of [(0, .id 0)] rfl ⟨(by first | exact .base (.own _ _ rfl) | exact .base (.nilown _ rfl) | exact .base (.trunc _ _ _ rfl)), .base (.tree _ _ rfl rfl), .base (.tree _ _ rfl rfl), .base (.tree _ _ rfl rfl), .fn _ _ _ _ _ (by repeat (first | exact .nil | refine .cons (by first | exact .tree _ _ rfl rfl | exact .ptr _ _ _ rfl | exact .own _ _ rfl) ?_)) (by repeat (first | exact .nil | refine .cons (by first | exact .tree _ _ rfl rfl | exact .ptr _ _ _ rfl | exact .own _ _ rfl) ?_)), .base (.tree _ _ rfl rfl), .base (.tree _ _ rfl rfl), .base (.tree _ _ rfl rfl), .base (.tree _ _ rfl rfl), .base (.tree _ _ rfl rfl), trivial⟩ ⟨⟨_, rfl, (by first | exact .row _ _ _ _ _ _ _ rfl rfl | exact .lstrow _ _ _ _ _ _ _ rfl rfl | exact .nilrow _ _ _ _ _ rfl | exact .truncrow _ _ _ _ _ _ _ _ rfl (by omega) rfl)⟩, trivial⟩)⟩
    · simp only [decide_eq_false_iff_not] at hf
      obtain rfl : u = v := by omega
      obtain ⟨hu1, hu2, hu3⟩ : u ≤ A.length ∧ u ≤ h ∧ h - u ≤ B.length := by omega
      have cx1 := cross1 sA sB (u := u) (h := h) (fun x y => h5.elim (fun e => absurd e (by omega)) id) hu3
      have cx2 := cross2 sA sB (u := u) (h := h) (fun x y => h4.elim (fun e => absurd e (by omega)) id) hu1
      have eA := List.take_append_drop u A
      have eB := List.take_append_drop (h - u) B
      have lA1 : (A.take u).length = u := by rw [List.length_take]; omega
      have lA2 : (A.drop u).length = A.length - u := List.length_drop
      have lB1 : (B.take (h - u)).length = h - u := by rw [List.length_take]; omega
      have lB2 : (B.drop (h - u)).length = B.length - (h - u) := List.length_drop
      have sA1 : Asc (A.take u) := Asc.left (b := A.drop u) (by rw [eA]; exact sA)
      have sA2 : Asc (A.drop u) := Asc.right (a := A.take u) (by rw [eA]; exact sA)
      have sB1 : Asc (B.take (h - u)) := Asc.left (b := B.drop (h - u)) (by rw [eB]; exact sB)
      have sB2 : Asc (B.drop (h - u)) := Asc.right (a := B.take (h - u)) (by rw [eB]; exact sB)
      generalize A.take u = A1 at *
      generalize A.drop u = A2 at *
      generalize B.take (h - u) = B1 at *
      generalize B.drop (h - u) = B2 at *
      have eR : P ++ (A ++ (B ++ Q)) = (P ++ A1) ++ (A2 ++ (B1 ++ (B2 ++ Q))) := by
        rw [← eA, ← eB]
        simp
      conv => whnf
      refine And.intro ⟨by omega, by omega⟩ ?_; conv => whnf
      refine ⟨fun q1 => ?_, fun q1 => ?_⟩
      · simp only [decide_eq_true_eq, Bool.and_eq_true] at q1
        have hcall1 := rot_ok (P ++ A1) A2 B1 (B2 ++ Q) (by omega) (by omega) (by simp only [List.length_append]; omega) (a := ((P.length + u : Nat) : Int)) (m := ((P.length + A.length : Nat) : Int)) (b := ((P.length + h : Nat) : Int) + ((P.length + A.length : Nat) : Int) - ((P.length + u : Nat) : Int)) (xs := P ++ (A ++ (B ++ Q))) (by simp only [List.length_append]; omega) (by simp only [List.length_append]; omega) (by simp only [List.length_append]; omega) eR
        conv => whnf
        refine .raw _ _ rfl (fun h => by cases h) (callio_sem (hcall1) [0] _ rfl rfl ⟨rfl, trivial⟩ (by repeat (first | exact .nil | (apply BorL.cons; first | exact .map _ _ rfl | exact .ptr _ _ _ rfl | exact .own _ _ rfl | exact .fnp _ _ _ _ rfl | (apply BorIO.lend; first | exact lS rfl | exact lR rfl | exact lM rfl rfl | exact lL rfl | exact lX rfl | exact lN | exact lNl | exact lSm rfl | exact lIm rfl | exact lGm rfl | exact lP rfl | exact lQ rfl | exact lB rfl rfl rfl)))) rfl (by first | exact .inl rfl | exact .inr (fun b rs h => by first | obtain ⟨rfl, rfl⟩ := h | obtain ⟨_, _, _, rfl, rfl⟩ := h; exact ⟨by repeat (first | exact flats_nil | refine flats_cons (by first | exact flat_val _ rfl | exact flat_row (fun _ => rfl) | exact flat_lst (fun _ => rfl)) ?_), by repeat (first | exact flats0 | refine flats1 (by first | exact flatB_row (fun _ => rfl) | exact flatB_lst (fun _ => rfl) | exact flatB_smap (fun _ => rfl) | exact flatB_imap (fun _ => rfl) | exact flatB_cells rfl) ?_)⟩))) ?_
        rintro r ⟨b, rs, ⟨rfl, rfl⟩, rfl⟩
        refine ⟨tn_ge _ _, ?_⟩
        conv => whnf
        refine ⟨fun q2 => ?_, fun q2 => ?_⟩
        · simp only [decide_eq_true_eq, Bool.and_eq_true] at q2
          have hcall2 := ih (A1.length + B1.length) (by omega) P A1 B1 (A2 ++ (B2 ++ Q)) rfl (by omega) (by omega) sA1 sB1 (by simp only [List.length_append]; omega) (a := ((P.length : Nat) : Int)) (m := ((P.length + u : Nat) : Int)) (b := ((P.length + h : Nat) : Int)) (xs := (P ++ A1) ++ (B1 ++ (A2 ++ (B2 ++ Q)))) (by omega) (by omega) (by omega) (by simp)
          conv => whnf
          refine .raw _ _ rfl (fun h => by cases h) (callio_sem (hcall2) [0] _ rfl rfl ⟨rfl, trivial⟩ (by repeat (first | exact .nil | (apply BorL.cons; first | exact .map _ _ rfl | exact .ptr _ _ _ rfl | exact .own _ _ rfl | exact .fnp _ _ _ _ rfl | (apply BorIO.lend; first | exact lS rfl | exact lR rfl | exact lM rfl rfl | exact lL rfl | exact lX rfl | exact lN | exact lNl | exact lSm rfl | exact lIm rfl | exact lGm rfl | exact lP rfl | exact lQ rfl | exact lB rfl rfl rfl)))) rfl (by first | exact .inl rfl | exact .inr (fun b rs h => by first | obtain ⟨rfl, rfl⟩ := h | obtain ⟨_, _, _, rfl, rfl⟩ := h; exact ⟨by repeat (first | exact flats_nil | refine flats_cons (by first | exact flat_val _ rfl | exact flat_row (fun _ => rfl) | exact flat_lst (fun _ => rfl)) ?_), by repeat (first | exact flats0 | refine flats1 (by first | exact flatB_row (fun _ => rfl) | exact flatB_lst (fun _ => rfl) | exact flatB_smap (fun _ => rfl) | exact flatB_imap (fun _ => rfl) | exact flatB_cells rfl) ?_)⟩))) ?_
          rintro r ⟨b, rs, ⟨M1, s1, t1, rfl, rfl⟩, rfl⟩
          have lM := t1.len
          rw [List.length_append] at lM
          refine ⟨tn_ge _ _, ?_⟩
          conv => whnf
          refine ⟨fun q3 => ?_, fun q3 => ?_⟩
          · simp only [decide_eq_true_eq, Bool.and_eq_true] at q3
            have hcall3 := ih (A2.length + B2.length) (by omega) (P ++ M1) A2 B2 Q rfl (by omega) (by omega) sA2 sB2 (by simp only [List.length_append]; omega) (a := ((P.length + h : Nat) : Int)) (m := ((P.length + h : Nat) : Int) + ((P.length + A.length : Nat) : Int) - ((P.length + u : Nat) : Int)) (b := ((P.length + A.length + B.length : Nat) : Int)) (xs := P ++ (M1 ++ (A2 ++ (B2 ++ Q)))) (by simp only [List.length_append]; omega) (by simp only [List.length_append]; omega) (by simp only [List.length_append]; omega) (by simp)
            conv => whnf
            refine .raw _ _ rfl (fun h => by cases h) (callio_sem (hcall3) [0] _ rfl rfl ⟨rfl, trivial⟩ (by repeat (first | exact .nil | (apply BorL.cons; first | exact .map _ _ rfl | exact .ptr _ _ _ rfl | exact .own _ _ rfl | exact .fnp _ _ _ _ rfl | (apply BorIO.lend; first | exact lS rfl | exact lR rfl | exact lM rfl rfl | exact lL rfl | exact lX rfl | exact lN | exact lNl | exact lSm rfl | exact lIm rfl | exact lGm rfl | exact lP rfl | exact lQ rfl | exact lB rfl rfl rfl)))) rfl (by first | exact .inl rfl | exact .inr (fun b rs h => by first | obtain ⟨rfl, rfl⟩ := h | obtain ⟨_, _, _, rfl, rfl⟩ := h; exact ⟨by repeat (first | exact flats_nil | refine flats_cons (by first | exact flat_val _ rfl | exact flat_row (fun _ => rfl) | exact flat_lst (fun _ => rfl)) ?_), by repeat (first | exact flats0 | refine flats1 (by first | exact flatB_row (fun _ => rfl) | exact flatB_lst (fun _ => rfl) | exact flatB_smap (fun _ => rfl) | exact flatB_imap (fun _ => rfl) | exact flatB_cells rfl) ?_)⟩))) ?_
            rintro r ⟨b, rs, ⟨M2, s2, t2, rfl, rfl⟩, rfl⟩
            refine ⟨tn_ge _ _, ?_⟩
            conv => whnf
            obtain ⟨f1, f2⟩ := merge_fin (by rw [eA]; exact sA) (by rw [eB]; exact sB) cx1 cx2 s1 t1 s2 t2
            rw [eA, eB] at f2
            refine ⟨_, f1, f2, ?_, rfl⟩
            simp only [List.append_assoc]
            rfl
          · simp only [decide_eq_false_iff_not, Bool.and_eq_false_iff, decide_eq_true_eq] at q3
            have s2 : Asc (A2 ++ B2) := by
              by_cases hz : A2.length = 0
              · rw [List.eq_nil_of_length_eq_zero hz]; exact sB2
              · rw [List.eq_nil_of_length_eq_zero (show B2.length = 0 by omega), List.append_nil]; exact sA2
            conv => whnf
            obtain ⟨f1, f2⟩ := merge_fin (by rw [eA]; exact sA) (by rw [eB]; exact sB) cx1 cx2 s1 t1 s2 (Stb.refl _)
            rw [eA, eB] at f2
            refine ⟨_, f1, f2, ?_, rfl⟩
            simp only [List.append_assoc]
            rfl
        · simp only [decide_eq_false_iff_not, Bool.and_eq_false_iff, decide_eq_true_eq] at q2
          obtain ⟨M1, s1, t1, eM⟩ : ∃ M1, Asc M1 ∧ Stb (A1 ++ B1) M1 ∧ (P ++ A1) ++ (B1 ++ (A2 ++ (B2 ++ Q))) = P ++ (M1 ++ (A2 ++ (B2 ++ Q))) := by
            refine ⟨A1 ++ B1, ?_, Stb.refl _, by simp⟩
            by_cases hz : A1.length = 0
            · rw [List.eq_nil_of_length_eq_zero hz]; exact sB1
            · rw [List.eq_nil_of_length_eq_zero (show B1.length = 0 by omega), List.append_nil]; exact sA1
          have lM := t1.len
          rw [List.length_append] at lM
          rw [eM]
          conv => whnf
          refine ⟨fun q3 => ?_, fun q3 => ?_⟩
          · simp only [decide_eq_true_eq, Bool.and_eq_true] at q3
            have hcall3 := ih (A2.length + B2.length) (by omega) (P ++ M1) A2 B2 Q rfl (by omega) (by omega) sA2 sB2 (by simp only [List.length_append]; omega) (a := ((P.length + h : Nat) : Int)) (m := ((P.length + h : Nat) : Int) + ((P.length + A.length : Nat) : Int) - ((P.length + u : Nat) : Int)) (b := ((P.length + A.length + B.length : Nat) : Int)) (xs := P ++ (M1 ++ (A2 ++ (B2 ++ Q)))) (by simp only [List.length_append]; omega) (by simp only [List.length_append]; omega) (by simp only [List.length_append]; omega) (by simp)
            conv => whnf
            refine .raw _ _ rfl (fun h => by cases h) (callio_sem (hcall3) [0] _ rfl rfl ⟨rfl, trivial⟩ (by repeat (first | exact .nil | (apply BorL.cons; first | exact .map _ _ rfl | exact .ptr _ _ _ rfl | exact .own _ _ rfl | exact .fnp _ _ _ _ rfl | (apply BorIO.lend; first | exact lS rfl | exact lR rfl | exact lM rfl rfl | exact lL rfl | exact lX rfl | exact lN | exact lNl | exact lSm rfl | exact lIm rfl | exact lGm rfl | exact lP rfl | exact lQ rfl | exact lB rfl rfl rfl)))) rfl (by first | exact .inl rfl | exact .inr (fun b rs h => by first | obtain ⟨rfl, rfl⟩ := h | obtain ⟨_, _, _, rfl, rfl⟩ := h; exact ⟨by repeat (first | exact flats_nil | refine flats_cons (by first | exact flat_val _ rfl | exact flat_row (fun _ => rfl) | exact flat_lst (fun _ => rfl)) ?_), by repeat (first | exact flats0 | refine flats1 (by first | exact flatB_row (fun _ => rfl) | exact flatB_lst (fun _ => rfl) | exact flatB_smap (fun _ => rfl) | exact flatB_imap (fun _ => rfl) | exact flatB_cells rfl) ?_)⟩))) ?_
            rintro r ⟨b, rs, ⟨M2, s2, t2, rfl, rfl⟩, rfl⟩
            refine ⟨tn_ge _ _, ?_⟩
            conv => whnf
            obtain ⟨f1, f2⟩ := merge_fin (by rw [eA]; exact sA) (by rw [eB]; exact sB) cx1 cx2 s1 t1 s2 t2
            rw [eA, eB] at f2
            refine ⟨_, f1, f2, ?_, rfl⟩
            simp only [List.append_assoc]
            rfl
          · simp only [decide_eq_false_iff_not, Bool.and_eq_false_iff, decide_eq_true_eq] at q3
            have s2 : Asc (A2 ++ B2) := by
              by_cases hz : A2.length = 0
              · rw [List.eq_nil_of_length_eq_zero hz]; exact sB2
              · rw [List.eq_nil_of_length_eq_zero (show B2.length = 0 by omega), List.append_nil]; exact sA2
            conv => whnf
            obtain ⟨f1, f2⟩ := merge_fin (by rw [eA]; exact sA) (by rw [eB]; exact sB) cx1 cx2 s1 t1 s2 (Stb.refl _)
            rw [eA, eB] at f2
            refine ⟨_, f1, f2, ?_, rfl⟩
            simp only [List.append_assoc]
            rfl
      · simp only [decide_eq_false_iff_not, Bool.and_eq_false_iff, decide_eq_true_eq] at q1
        have eR2 : P ++ (A ++ (B ++ Q)) = (P ++ A1) ++ (B1 ++ (A2 ++ (B2 ++ Q))) := by
          rw [eR]
          by_cases hz : A2.length = 0
          · rw [List.eq_nil_of_length_eq_zero hz, List.nil_append, List.nil_append]
          · rw [List.eq_nil_of_length_eq_zero (show B1.length = 0 by omega), List.nil_append, List.nil_append]
        rw [eR2]
        conv => whnf
        refine ⟨fun q2 => ?_, fun q2 => ?_⟩
        · simp only [decide_eq_true_eq, Bool.and_eq_true] at q2
          have hcall2 := ih (A1.length + B1.length) (by omega) P A1 B1 (A2 ++ (B2 ++ Q)) rfl (by omega) (by omega) sA1 sB1 (by simp only [List.length_append]; omega) (a := ((P.length : Nat) : Int)) (m := ((P.length + u : Nat) : Int)) (b := ((P.length + h : Nat) : Int)) (xs := (P ++ A1) ++ (B1 ++ (A2 ++ (B2 ++ Q)))) (by omega) (by omega) (by omega) (by simp)
          conv => whnf
          refine .raw _ _ rfl (fun h => by cases h) (callio_sem (hcall2) [0] _ rfl rfl ⟨rfl, trivial⟩ (by repeat (first | exact .nil | (apply BorL.cons; first | exact .map _ _ rfl | exact .ptr _ _ _ rfl | exact .own _ _ rfl | exact .fnp _ _ _ _ rfl | (apply BorIO.lend; first | exact lS rfl | exact lR rfl | exact lM rfl rfl | exact lL rfl | exact lX rfl | exact lN | exact lNl | exact lSm rfl | exact lIm rfl | exact lGm rfl | exact lP rfl | exact lQ rfl | exact lB rfl rfl rfl)))) rfl (by first | exact .inl rfl | exact .inr (fun b rs h => by first | obtain ⟨rfl, rfl⟩ := h | obtain ⟨_, _, _, rfl, rfl⟩ := h; exact ⟨by repeat (first | exact flats_nil | refine flats_cons (by first | exact flat_val _ rfl | exact flat_row (fun _ => rfl) | exact flat_lst (fun _ => rfl)) ?_), by repeat (first | exact flats0 | refine flats1 (by first | exact flatB_row (fun _ => rfl) | exact flatB_lst (fun _ => rfl) | exact flatB_smap (fun _ => rfl) | exact flatB_imap (fun _ => rfl) | exact flatB_cells rfl) ?_)⟩))) ?_
          rintro r ⟨b, rs, ⟨M1, s1, t1, rfl, rfl⟩, rfl⟩
          have lM := t1.len
          rw [List.length_append] at lM
          refine ⟨tn_ge _ _, ?_⟩
          conv => whnf
          refine ⟨fun q3 => ?_, fun q3 => ?_⟩
          · simp only [decide_eq_true_eq, Bool.and_eq_true] at q3
            have hcall3 := ih (A2.length + B2.length) (by omega) (P ++ M1) A2 B2 Q rfl (by omega) (by omega) sA2 sB2 (by simp only [List.length_append]; omega) (a := ((P.length + h : Nat) : Int)) (m := ((P.length + h : Nat) : Int) + ((P.length + A.length : Nat) : Int) - ((P.length + u : Nat) : Int)) (b := ((P.length + A.length + B.length : Nat) : Int)) (xs := P ++ (M1 ++ (A2 ++ (B2 ++ Q)))) (by simp only [List.length_append]; omega) (by simp only [List.length_append]; omega) (by simp only [List.length_append]; omega) (by simp)
            conv => whnf
            refine .raw _ _ rfl (fun h => by cases h) (callio_sem (hcall3) [0] _ rfl rfl ⟨rfl, trivial⟩ (by repeat (first | exact .nil | (apply BorL.cons; first | exact .map _ _ rfl | exact .ptr _ _ _ rfl | exact .own _ _ rfl | exact .fnp _ _ _ _ rfl | (apply BorIO.lend; first | exact lS rfl | exact lR rfl | exact lM rfl rfl | exact lL rfl | exact lX rfl | exact lN | exact lNl | exact lSm rfl | exact lIm rfl | exact lGm rfl | exact lP rfl | exact lQ rfl | exact lB rfl rfl rfl)))) rfl (by first | exact .inl rfl | exact .inr (fun b rs h => by first | obtain ⟨rfl, rfl⟩ := h | obtain ⟨_, _, _, rfl, rfl⟩ := h; exact ⟨by repeat (first | exact flats_nil | refine flats_cons (by first | exact flat_val _ rfl | exact flat_row (fun _ => rfl) | exact flat_lst (fun _ => rfl)) ?_), by repeat (first | exact flats0 | refine flats1 (by first | exact flatB_row (fun _ => rfl) | exact flatB_lst (fun _ => rfl) | exact flatB_smap (fun _ => rfl) | exact flatB_imap (fun _ => rfl) | exact flatB_cells rfl) ?_)⟩))) ?_
            rintro r ⟨b, rs, ⟨M2, s2, t2, rfl, rfl⟩, rfl⟩
            refine ⟨tn_ge _ _, ?_⟩
            conv => whnf
            obtain ⟨f1, f2⟩ := merge_fin (by rw [eA]; exact sA) (by rw [eB]; exact sB) cx1 cx2 s1 t1 s2 t2
            rw [eA, eB] at f2
            refine ⟨_, f1, f2, ?_, rfl⟩
            simp only [List.append_assoc]
            rfl
          · simp only [decide_eq_false_iff_not, Bool.and_eq_false_iff, decide_eq_true_eq] at q3
            have s2 : Asc (A2 ++ B2) := by
              by_cases hz : A2.length = 0
              · rw [List.eq_nil_of_length_eq_zero hz]; exact sB2
              · rw [List.eq_nil_of_length_eq_zero (show B2.length = 0 by omega), List.append_nil]; exact sA2
            conv => whnf
            obtain ⟨f1, f2⟩ := merge_fin (by rw [eA]; exact sA) (by rw [eB]; exact sB) cx1 cx2 s1 t1 s2 (Stb.refl _)
            rw [eA, eB] at f2
            refine ⟨_, f1, f2, ?_, rfl⟩
            simp only [List.append_assoc]
            rfl
        · simp only [decide_eq_false_iff_not, Bool.and_eq_false_iff, decide_eq_true_eq] at q2
          obtain ⟨M1, s1, t1, eM⟩ : ∃ M1, Asc M1 ∧ Stb (A1 ++ B1) M1 ∧ (P ++ A1) ++ (B1 ++ (A2 ++ (B2 ++ Q))) = P ++ (M1 ++ (A2 ++ (B2 ++ Q))) := by
            refine ⟨A1 ++ B1, ?_, Stb.refl _, by simp⟩
            by_cases hz : A1.length = 0
            · rw [List.eq_nil_of_length_eq_zero hz]; exact sB1
            · rw [List.eq_nil_of_length_eq_zero (show B1.length = 0 by omega), List.append_nil]; exact sA1
          have lM := t1.len
          rw [List.length_append] at lM
          rw [eM]
          conv => whnf
          refine ⟨fun q3 => ?_, fun q3 => ?_⟩
          · simp only [decide_eq_true_eq, Bool.and_eq_true] at q3
            have hcall3 := ih (A2.length + B2.length) (by omega) (P ++ M1) A2 B2 Q rfl (by omega) (by omega) sA2 sB2 (by simp only [List.length_append]; omega) (a := ((P.length + h : Nat) : Int)) (m := ((P.length + h : Nat) : Int) + ((P.length + A.length : Nat) : Int) - ((P.length + u : Nat) : Int)) (b := ((P.length + A.length + B.length : Nat) : Int)) (xs := P ++ (M1 ++ (A2 ++ (B2 ++ Q)))) (by simp only [List.length_append]; omega) (by simp only [List.length_append]; omega) (by simp only [List.length_append]; omega) (by simp)
            conv => whnf
            refine .raw _ _ rfl (fun h => by cases h) (callio_sem (hcall3) [0] _ rfl rfl ⟨rfl, trivial⟩ (by repeat (first | exact .nil | (apply BorL.cons; first | exact .map _ _ rfl | exact .ptr _ _ _ rfl | exact .own _ _ rfl | exact .fnp _ _ _ _ rfl | (apply BorIO.lend; first | exact lS rfl | exact lR rfl | exact lM rfl rfl | exact lL rfl | exact lX rfl | exact lN | exact lNl | exact lSm rfl | exact lIm rfl | exact lGm rfl | exact lP rfl | exact lQ rfl | exact lB rfl rfl rfl)))) rfl (by first | exact .inl rfl | exact .inr (fun b rs h => by first | obtain ⟨rfl, rfl⟩ := h | obtain ⟨_, _, _, rfl, rfl⟩ := h; exact ⟨by repeat (first | exact flats_nil | refine flats_cons (by first | exact flat_val _ rfl | exact flat_row (fun _ => rfl) | exact flat_lst (fun _ => rfl)) ?_), by repeat (first | exact flats0 | refine flats1 (by first | exact flatB_row (fun _ => rfl) | exact flatB_lst (fun _ => rfl) | exact flatB_smap (fun _ => rfl) | exact flatB_imap (fun _ => rfl) | exact flatB_cells rfl) ?_)⟩))) ?_
            rintro r ⟨b, rs, ⟨M2, s2, t2, rfl, rfl⟩, rfl⟩
            refine ⟨tn_ge _ _, ?_⟩
            conv => whnf
            obtain ⟨f1, f2⟩ := merge_fin (by rw [eA]; exact sA) (by rw [eB]; exact sB) cx1 cx2 s1 t1 s2 t2
            rw [eA, eB] at f2
            refine ⟨_, f1, f2, ?_, rfl⟩
            simp only [List.append_assoc]
            rfl
          · simp only [decide_eq_false_iff_not, Bool.and_eq_false_iff, decide_eq_true_eq] at q3
            have s2 : Asc (A2 ++ B2) := by
              by_cases hz : A2.length = 0
              · rw [List.eq_nil_of_length_eq_zero hz]; exact sB2
              · rw [List.eq_nil_of_length_eq_zero (show B2.length = 0 by omega), List.append_nil]; exact sA2
            conv => whnf
            obtain ⟨f1, f2⟩ := merge_fin (by rw [eA]; exact sA) (by rw [eB]; exact sB) cx1 cx2 s1 t1 s2 (Stb.refl _)
            rw [eA, eB] at f2
            refine ⟨_, f1, f2, ?_, rfl⟩
            simp only [List.append_assoc]
            rfl
  · simp only [decide_eq_false_iff_not] at hd
    obtain ⟨u0, v0, hU⟩ : ∃ u0 v0, u0 = 0 ∧ v0 = A.length ∧ A.length ≤ h ∧ h ≤ B.length := ⟨0, A.length, rfl, rfl, by omega, by omega⟩
    conv => whnf
    refine And.intro ⟨by omega, by omega⟩ ?_; conv => whnf
    refine loop_inv (cxPOk _ _ _) (σ := Nat × Nat) (fun s => u0 ≤ s.1 ∧ s.1 ≤ s.2 ∧ s.2 ≤ v0 ∧ (s.1 = u0 ∨ (A.getD (s.1 - 1) e0).id ≤ (B.getD (h - s.1) e0).id) ∧ (s.2 = v0 ∨ (B.getD (h - 1 - s.2) e0).id < (A.getD s.2 e0).id)) (fun s => s.2 - s.1) (fun s => ⟨[(0, .own 0), (1, .int .i64 (P.length : Nat)), (2, .int .i64 ((P.length + A.length : Nat) : Int)), (3, .int .i64 ((P.length + A.length + B.length : Nat) : Int)), (4, .fn (.func 20) [] []), (18, .int .i64 ((P.length + h : Nat) : Int)), (19, .int .i64 (((P.length + h : Nat) : Int) + ((P.length + A.length : Nat) : Int))), (20, .int .i64 ((P.length + (s.1) : Nat) : Int)), (21, .int .i64 ((P.length + (s.2) : Nat) : Int)), (22, .int .i64 (((P.length + h : Nat) : Int) + ((P.length + A.length : Nat) : Int) - 1))], [(0, .row 33 5 encE e0 (P ++ (A ++ (B ++ Q))))], 1⟩) (u0, v0) ⟨Nat.le_refl _, by show u0 ≤ v0; omega, Nat.le_refl _, .inl rfl, .inl rfl⟩ ((wk_of [(0, .id 0)] rfl ⟨(by first | exact .base (.own _ _ rfl) | exact .base (.nilown _ rfl) | exact .base (.trunc _ _ _ rfl)), .base (.tree _ _ rfl rfl), .base (.tree _ _ rfl rfl), .base (.tree _ _ rfl rfl), .fn _ _ _ _ _ (by repeat (first | exact .nil | refine .cons (by first | exact .tree _ _ rfl rfl | exact .ptr _ _ _ rfl | exact .own _ _ rfl) ?_)) (by repeat (first | exact .nil | refine .cons (by first | exact .tree _ _ rfl rfl | exact .ptr _ _ _ rfl | exact .own _ _ rfl) ?_)), .base (.tree _ _ rfl rfl), .base (.tree _ _ rfl rfl), .base (.tree _ _ (show AV.int .i64 _ = AV.int .i64 ((P.length + u0 : Nat) : Int) by congr 1; omega) rfl), .base (.tree _ _ (show AV.int .i64 _ = AV.int .i64 ((P.length + v0 : Nat) : Int) by congr 1; omega) rfl), .base (.tree _ _ rfl rfl), trivial⟩ ⟨⟨_, rfl, (by first | exact .row _ _ _ _ _ _ _ rfl rfl | exact .lstrow _ _ _ _ _ _ _ rfl rfl | exact .nilrow _ _ _ _ _ rfl | exact .truncrow _ _ _ _ _ _ _ _ rfl (by omega) rfl)⟩, trivial⟩)) ?_
    rintro ⟨u, v⟩ ⟨h1, h2, h3, h4, h5⟩
    dsimp only at h1 h2 h3 h4 h5
    change evCode _ _ ⟨[(0, .own 0), (1, .int .i64 (P.length : Nat)), (2, .int .i64 ((P.length + A.length : Nat) : Int)), (3, .int .i64 ((P.length + A.length + B.length : Nat) : Int)), (4, .fn (.func 20) [] []), (18, .int .i64 ((P.length + h : Nat) : Int)), (19, .int .i64 (((P.length + h : Nat) : Int) + ((P.length + A.length : Nat) : Int))), (20, .int .i64 ((P.length + u : Nat) : Int)), (21, .int .i64 ((P.length + v : Nat) : Int)), (22, .int .i64 (((P.length + h : Nat) : Int) + ((P.length + A.length : Nat) : Int) - 1))], [(0, .row 33 5 encE e0 (P ++ (A ++ (B ++ Q))))], 1⟩ _
    conv => whnf
    refine ⟨fun hf => ?_, fun hf => ?_⟩
    · simp only [decide_eq_true_eq] at hf
      conv => whnf
      refine And.intro ⟨by omega, by omega⟩ ?_; conv => whnf
      refine And.intro (by decide) ?_
      conv => whnf
      rw [mid_nat (u := P.length + u) (v := P.length + v) (by omega)]
      have hm2 : ((P.length + u) + (P.length + v)) / 2 = P.length + (u + v) / 2 := by omega
      rw [hm2]
      generalize hcc : (u + v) / 2 = c at *
      have hc1 : u ≤ c ∧ c < v := by omega
      refine And.intro ⟨by omega, by omega⟩ ?_
      conv => whnf
      refine .quiet (by kernel_rfl) ?_; conv => whnf
      refine And.intro ⟨by omega, by omega⟩ ?_; conv => whnf
      refine And.intro ⟨by omega, by omega⟩ ?_; conv => whnf
      refine And.intro (by omega) (And.intro rfl ?_); conv => whnf
      refine And.intro ⟨by omega, by omega⟩ ?_; conv => whnf
      refine And.intro (by omega) (And.intro rfl ?_); conv => whnf
      rw [show (P ++ (A ++ (B ++ Q))).getD (((P.length + h : Nat) : Int) + ((P.length + A.length : Nat) : Int) - 1 - ((P.length + c : Nat) : Int)).toNat e0 = B.getD (h - 1 - c) e0 from in_right P A B Q (by omega) (by omega)]
      rw [show (P ++ (A ++ (B ++ Q))).getD ((P.length + c : Nat) : Int).toNat e0 = A.getD c e0 from in_left P A B Q (by rw [Int.toNat_natCast]) (by omega)]
      refine .mk _ _ _ _ (fun _ => byId_ok (B.getD (h - 1 - c) e0) (A.getD c e0)) (by repeat (first | exact .nil | (apply BorL.cons; first | exact lS rfl | exact lR rfl | exact lM rfl rfl | exact lL rfl | exact lX rfl | exact lN | exact lNl | exact lSm rfl | exact lIm rfl | exact lGm rfl | exact lP rfl | exact lQ rfl | exact lB rfl rfl rfl))) rfl ?_
      conv => whnf
      refine ⟨fun he => ?_, fun he => ?_⟩
      · simp only [Bool.not_eq_true', decide_eq_false_iff_not, cmpI_lt] at he
        conv => whnf
        refine And.intro ⟨by omega, by omega⟩ ?_; conv => whnf
        refine ⟨(c + 1, v), ⟨by show u0 ≤ c + 1; omega, by show c + 1 ≤ v; omega, h3, .inr (by show (A.getD c e0).id ≤ (B.getD (h - (c + 1)) e0).id; rw [show h - (c + 1) = h - 1 - c by omega]; omega), h5⟩, (show v - (c + 1) < v - u by omega), (wk_of [(0, .id 0)] rfl ⟨(by first | exact .base (.own _ _ rfl) | exact .base (.nilown _ rfl) | exact .base (.trunc _ _ _ rfl)), .base (.tree _ _ rfl rfl), .base (.tree _ _ rfl rfl), .base (.tree _ _ rfl rfl), .fn _ _ _ _ _ (by repeat (first | exact .nil | refine .cons (by first | exact .tree _ _ rfl rfl | exact .ptr _ _ _ rfl | exact .own _ _ rfl) ?_)) (by repeat (first | exact .nil | refine .cons (by first | exact .tree _ _ rfl rfl | exact .ptr _ _ _ rfl | exact .own _ _ rfl) ?_)), .base (.tree _ _ rfl rfl), .base (.tree _ _ rfl rfl), .base (.tree _ _ rfl rfl), .base (.tree _ _ rfl rfl), .base (.tree _ _ rfl rfl), trivial⟩ ⟨⟨_, rfl, (by first | exact .row _ _ _ _ _ _ _ rfl rfl | exact .lstrow _ _ _ _ _ _ _ rfl rfl | exact .nilrow _ _ _ _ _ rfl | exact .truncrow _ _ _ _ _ _ _ _ rfl (by omega) rfl)⟩, trivial⟩)⟩
      · simp only [Bool.not_eq_false', decide_eq_true_eq, cmpI_lt] at he
        conv => whnf
        refine ⟨(u, c), ⟨h1, hc1.1, by show c ≤ v0; omega, h4, .inr he⟩, (show c - u < v - u by omega), (wk_of [(0, .id 0)] rfl ⟨(by first | exact .base (.own _ _ rfl) | exact .base (.nilown _ rfl) | exact .base (.trunc _ _ _ rfl)), .base (.tree _ _ rfl rfl), .base (.tree _ _ rfl rfl), .base (.tree _ _ rfl rfl), .fn _ _ _ _ _ (by repeat (first | exact .nil | refine .cons (by first | exact .tree _ _ rfl rfl | exact .ptr _ _ _ rfl | exact .own _ _ rfl) ?_)) (by repeat (first | exact .nil | refine .cons (by first | exact .tree _ _ rfl rfl | exact .ptr _ _ _ rfl | exact .own _ _ rfl) ?_)), .base (.tree _ _ rfl rfl), .base (.tree _ _ rfl rfl), .base (.tree _ _ rfl rfl), .base (.tree _ _ rfl rfl), .base (.tree _ _ rfl rfl), trivial⟩ ⟨⟨_, rfl, (by first | exact .row _ _ _ _ _ _ _ rfl rfl | exact .lstrow _ _ _ _ _ _ _ rfl rfl | exact .nilrow _ _ _ _ _ rfl | exact .truncrow _ _ _ _ _ _ _ _ rfl (by omega) rfl)⟩, trivial⟩)⟩
    · simp only [decide_eq_false_iff_not] at hf
      obtain rfl : u = v := by omega
      obtain ⟨hu1, hu2, hu3⟩ : u ≤ A.length ∧ u ≤ h ∧ h - u ≤ B.length := by omega
      have cx1 := cross1 sA sB (u := u) (h := h) (fun x y => h5.elim (fun e => absurd e (by omega)) id) hu3
      have cx2 := cross2 sA sB (u := u) (h := h) (fun x y => h4.elim (fun e => absurd e (by omega)) id) hu1
      have eA := List.take_append_drop u A
      have eB := List.take_append_drop (h - u) B
      have lA1 : (A.take u).length = u := by rw [List.length_take]; omega
      have lA2 : (A.drop u).length = A.length - u := List.length_drop
      have lB1 : (B.take (h - u)).length = h - u := by rw [List.length_take]; omega
      have lB2 : (B.drop (h - u)).length = B.length - (h - u) := List.length_drop
      have sA1 : Asc (A.take u) := Asc.left (b := A.drop u) (by rw [eA]; exact sA)
      have sA2 : Asc (A.drop u) := Asc.right (a := A.take u) (by rw [eA]; exact sA)
      have sB1 : Asc (B.take (h - u)) := Asc.left (b := B.drop (h - u)) (by rw [eB]; exact sB)
      have sB2 : Asc (B.drop (h - u)) := Asc.right (a := B.take (h - u)) (by rw [eB]; exact sB)
      generalize A.take u = A1 at *
      generalize A.drop u = A2 at *
      generalize B.take (h - u) = B1 at *
      generalize B.drop (h - u) = B2 at *
      have eR : P ++ (A ++ (B ++ Q)) = (P ++ A1) ++ (A2 ++ (B1 ++ (B2 ++ Q))) := by
        rw [← eA, ← eB]
        simp
      conv => whnf
      refine And.intro ⟨by omega, by omega⟩ ?_; conv => whnf
      refine ⟨fun q1 => ?_, fun q1 => ?_⟩
      · simp only [decide_eq_true_eq, Bool.and_eq_true] at q1
        have hcall1 := rot_ok (P ++ A1) A2 B1 (B2 ++ Q) (by omega) (by omega) (by simp only [List.length_append]; omega) (a := ((P.length + u : Nat) : Int)) (m := ((P.length + A.length : Nat) : Int)) (b := ((P.length + h : Nat) : Int) + ((P.length + A.length : Nat) : Int) - ((P.length + u : Nat) : Int)) (xs := P ++ (A ++ (B ++ Q))) (by simp only [List.length_append]; omega) (by simp only [List.length_append]; omega) (by simp only [List.length_append]; omega) eR
        conv => whnf
        refine .raw _ _ rfl (fun h => by cases h) (callio_sem (hcall1) [0] _ rfl rfl ⟨rfl, trivial⟩ (by repeat (first | exact .nil | (apply BorL.cons; first | exact .map _ _ rfl | exact .ptr _ _ _ rfl | exact .own _ _ rfl | exact .fnp _ _ _ _ rfl | (apply BorIO.lend; first | exact lS rfl | exact lR rfl | exact lM rfl rfl | exact lL rfl | exact lX rfl | exact lN | exact lNl | exact lSm rfl | exact lIm rfl | exact lGm rfl | exact lP rfl | exact lQ rfl | exact lB rfl rfl rfl)))) rfl (by first | exact .inl rfl | exact .inr (fun b rs h => by first | obtain ⟨rfl, rfl⟩ := h | obtain ⟨_, _, _, rfl, rfl⟩ := h; exact ⟨by repeat (first | exact flats_nil | refine flats_cons (by first | exact flat_val _ rfl | exact flat_row (fun _ => rfl) | exact flat_lst (fun _ => rfl)) ?_), by repeat (first | exact flats0 | refine flats1 (by first | exact flatB_row (fun _ => rfl) | exact flatB_lst (fun _ => rfl) | exact flatB_smap (fun _ => rfl) | exact flatB_imap (fun _ => rfl) | exact flatB_cells rfl) ?_)⟩))) ?_
        rintro r ⟨b, rs, ⟨rfl, rfl⟩, rfl⟩
        refine ⟨tn_ge _ _, ?_⟩
        conv => whnf
        refine ⟨fun q2 => ?_, fun q2 => ?_⟩
        · simp only [decide_eq_true_eq, Bool.and_eq_true] at q2
          have hcall2 := ih (A1.length + B1.length) (by omega) P A1 B1 (A2 ++ (B2 ++ Q)) rfl (by omega) (by omega) sA1 sB1 (by simp only [List.length_append]; omega) (a := ((P.length : Nat) : Int)) (m := ((P.length + u : Nat) : Int)) (b := ((P.length + h : Nat) : Int)) (xs := (P ++ A1) ++ (B1 ++ (A2 ++ (B2 ++ Q)))) (by omega) (by omega) (by omega) (by simp)
          conv => whnf
          refine .raw _ _ rfl (fun h => by cases h) (callio_sem (hcall2) [0] _ rfl rfl ⟨rfl, trivial⟩ (by repeat (first | exact .nil | (apply BorL.cons; first | exact .map _ _ rfl | exact .ptr _ _ _ rfl | exact .own _ _ rfl | exact .fnp _ _ _ _ rfl | (apply BorIO.lend; first | exact lS rfl | exact lR rfl | exact lM rfl rfl | exact lL rfl | exact lX rfl | exact lN | exact lNl | exact lSm rfl | exact lIm rfl | exact lGm rfl | exact lP rfl | exact lQ rfl | exact lB rfl rfl rfl)))) rfl (by first | exact .inl rfl | exact .inr (fun b rs h => by first | obtain ⟨rfl, rfl⟩ := h | obtain ⟨_, _, _, rfl, rfl⟩ := h; exact ⟨by repeat (first | exact flats_nil | refine flats_cons (by first | exact flat_val _ rfl | exact flat_row (fun _ => rfl) | exact flat_lst (fun _ => rfl)) ?_), by repeat (first | exact flats0 | refine flats1 (by first | exact flatB_row (fun _ => rfl) | exact flatB_lst (fun _ => rfl) | exact flatB_smap (fun _ => rfl) | exact flatB_imap (fun _ => rfl) | exact flatB_cells rfl) ?_)⟩))) ?_
          rintro r ⟨b, rs, ⟨M1, s1, t1, rfl, rfl⟩, rfl⟩
          have lM := t1.len
          rw [List.length_append] at lM
          refine ⟨tn_ge _ _, ?_⟩
          conv => whnf
          refine ⟨fun q3 => ?_, fun q3 => ?_⟩
          · simp only [decide_eq_true_eq, Bool.and_eq_true] at q3
            have hcall3 := ih (A2.length + B2.length) (by omega) (P ++ M1) A2 B2 Q rfl (by omega) (by omega) sA2 sB2 (by simp only [List.length_append]; omega) (a := ((P.length + h : Nat) : Int)) (m := ((P.length + h : Nat) : Int) + ((P.length + A.length : Nat) : Int) - ((P.length + u : Nat) : Int)) (b := ((P.length + A.length + B.length : Nat) : Int)) (xs := P ++ (M1 ++ (A2 ++ (B2 ++ Q)))) (by simp only [List.length_append]; omega) (by simp only [List.length_append]; omega) (by simp only [List.length_append]; omega) (by simp)
            conv => whnf
            refine .raw _ _ rfl (fun h => by cases h) (callio_sem (hcall3) [0] _ rfl rfl ⟨rfl, trivial⟩ (by repeat (first | exact .nil | (apply BorL.cons; first | exact .map _ _ rfl | exact .ptr _ _ _ rfl | exact .own _ _ rfl | exact .fnp _ _ _ _ rfl | (apply BorIO.lend; first | exact lS rfl | exact lR rfl | exact lM rfl rfl | exact lL rfl | exact lX rfl | exact lN | exact lNl | exact lSm rfl | exact lIm rfl | exact lGm rfl | exact lP rfl | exact lQ rfl | exact lB rfl rfl rfl)))) rfl (by first | exact .inl rfl | exact .inr (fun b rs h => by first | obtain ⟨rfl, rfl⟩ := h | obtain ⟨_, _, _, rfl, rfl⟩ := h; exact ⟨by repeat (first | exact flats_nil | refine flats_cons (by first | exact flat_val _ rfl | exact flat_row (fun _ => rfl) | exact flat_lst (fun _ => rfl)) ?_), by repeat (first | exact flats0 | refine flats1 (by first | exact flatB_row (fun _ => rfl) | exact flatB_lst (fun _ => rfl) | exact flatB_smap (fun _ => rfl) | exact flatB_imap (fun _ => rfl) | exact flatB_cells rfl) ?_)⟩))) ?_
            rintro r ⟨b, rs, ⟨M2, s2, t2, rfl, rfl⟩, rfl⟩
            refine ⟨tn_ge _ _, ?_⟩
            conv => whnf
            obtain ⟨f1, f2⟩ := merge_fin (by rw [eA]; exact sA) (by rw [eB]; exact sB) cx1 cx2 s1 t1 s2 t2
            rw [eA, eB] at f2
            refine ⟨_, f1, f2, ?_, rfl⟩
            simp only [List.append_assoc]
            rfl
          · simp only [decide_eq_false_iff_not, Bool.and_eq_false_iff, decide_eq_true_eq] at q3
            have s2 : Asc (A2 ++ B2) := by
              by_cases hz : A2.length = 0
              · rw [List.eq_nil_of_length_eq_zero hz]; exact sB2
              · rw [List.eq_nil_of_length_eq_zero (show B2.length = 0 by omega), List.append_nil]; exact sA2
            conv => whnf
            obtain ⟨f1, f2⟩ := merge_fin (by rw [eA]; exact sA) (by rw [eB]; exact sB) cx1 cx2 s1 t1 s2 (Stb.refl _)
            rw [eA, eB] at f2
            refine ⟨_, f1, f2, ?_, rfl⟩
            simp only [List.append_assoc]
            rfl
        · simp only [decide_eq_false_iff_not, Bool.and_eq_false_iff, decide_eq_true_eq] at q2
          obtain ⟨M1, s1, t1, eM⟩ : ∃ M1, Asc M1 ∧ Stb (A1 ++ B1) M1 ∧ (P ++ A1) ++ (B1 ++ (A2 ++ (B2 ++ Q))) = P ++ (M1 ++ (A2 ++ (B2 ++ Q))) := by
            refine ⟨A1 ++ B1, ?_, Stb.refl _, by simp⟩
            by_cases hz : A1.length = 0
            · rw [List.eq_nil_of_length_eq_zero hz]; exact sB1
            · rw [List.eq_nil_of_length_eq_zero (show B1.length = 0 by omega), List.append_nil]; exact sA1
          have lM := t1.len
          rw [List.length_append] at lM
          rw [eM]
          conv => whnf
          refine ⟨fun q3 => ?_, fun q3 => ?_⟩
          · simp only [decide_eq_true_eq, Bool.and_eq_true] at q3
            have hcall3 := ih (A2.length + B2.length) (by omega) (P ++ M1) A2 B2 Q rfl (by omega) (by omega) sA2 sB2 (by simp only [List.length_append]; omega) (a := ((P.length + h : Nat) : Int)) (m := ((P.length + h : Nat) : Int) + ((P.length + A.length : Nat) : Int) - ((P.length + u : Nat) : Int)) (b := ((P.length + A.length + B.length : Nat) : Int)) (xs := P ++ (M1 ++ (A2 ++ (B2 ++ Q)))) (by simp only [List.length_append]; omega) (by simp only [List.length_append]; omega) (by simp only [List.length_append]; omega) (by simp)
            conv => whnf
            refine .raw _ _ rfl (fun h => by cases h) (callio_sem (hcall3) [0] _ rfl rfl ⟨rfl, trivial⟩ (by repeat (first | exact .nil | (apply BorL.cons; first | exact .map _ _ rfl | exact .ptr _ _ _ rfl | exact .own _ _ rfl | exact .fnp _ _ _ _ rfl | (apply BorIO.lend; first | exact lS rfl | exact lR rfl | exact lM rfl rfl | exact lL rfl | exact lX rfl | exact lN | exact lNl | exact lSm rfl | exact lIm rfl | exact lGm rfl | exact lP rfl | exact lQ rfl | exact lB rfl rfl rfl)))) rfl (by first | exact .inl rfl | exact .inr (fun b rs h => by first | obtain ⟨rfl, rfl⟩ := h | obtain ⟨_, _, _, rfl, rfl⟩ := h; exact ⟨by repeat (first | exact flats_nil | refine flats_cons (by first | exact flat_val _ rfl | exact flat_row (fun _ => rfl) | exact flat_lst (fun _ => rfl)) ?_), by repeat (first | exact flats0 | refine flats1 (by first | exact flatB_row (fun _ => rfl) | exact flatB_lst (fun _ => rfl) | exact flatB_smap (fun _ => rfl) | exact flatB_imap (fun _ => rfl) | exact flatB_cells rfl) ?_)⟩))) ?_
            rintro r ⟨b, rs, ⟨M2, s2, t2, rfl, rfl⟩, rfl⟩
            refine ⟨tn_ge _ _, ?_⟩
            conv => whnf
            obtain ⟨f1, f2⟩ := merge_fin (by rw [eA]; exact sA) (by rw [eB]; exact sB) cx1 cx2 s1 t1 s2 t2
            rw [eA, eB] at f2
            refine ⟨_, f1, f2, ?_, rfl⟩
            simp only [List.append_assoc]
            rfl
          · simp only [decide_eq_false_iff_not, Bool.and_eq_false_iff, decide_eq_true_eq] at q3
            have s2 : Asc (A2 ++ B2) := by
              by_cases hz : A2.length = 0
              · rw [List.eq_nil_of_length_eq_zero hz]; exact sB2
              · rw [List.eq_nil_of_length_eq_zero (show B2.length = 0 by omega), List.append_nil]; exact sA2
            conv => whnf
            obtain ⟨f1, f2⟩ := merge_fin (by rw [eA]; exact sA) (by rw [eB]; exact sB) cx1 cx2 s1 t1 s2 (Stb.refl _)
            rw [eA, eB] at f2
            refine ⟨_, f1, f2, ?_, rfl⟩
            simp only [List.append_assoc]
            rfl
      · simp only [decide_eq_false_iff_not, Bool.and_eq_false_iff, decide_eq_true_eq] at q1
        have eR2 : P ++ (A ++ (B ++ Q)) = (P ++ A1) ++ (B1 ++ (A2 ++ (B2 ++ Q))) := by
          rw [eR]
          by_cases hz : A2.length = 0
          · rw [List.eq_nil_of_length_eq_zero hz, List.nil_append, List.nil_append]
          · rw [List.eq_nil_of_length_eq_zero (show B1.length = 0 by omega), List.nil_append, List.nil_append]
        rw [eR2]
        conv => whnf
        refine ⟨fun q2 => ?_, fun q2 => ?_⟩
        · simp only [decide_eq_true_eq, Bool.and_eq_true] at q2
          have hcall2 := ih (A1.length + B1.length) (by omega) P A1 B1 (A2 ++ (B2 ++ Q)) rfl (by omega) (by omega) sA1 sB1 (by simp only [List.length_append]; omega) (a := ((P.length : Nat) : Int)) (m := ((P.length + u : Nat) : Int)) (b := ((P.length + h : Nat) : Int)) (xs := (P ++ A1) ++ (B1 ++ (A2 ++ (B2 ++ Q)))) (by omega) (by omega) (by omega) (by simp)
          conv => whnf
          refine .raw _ _ rfl (fun h => by cases h) (callio_sem (hcall2) [0] _ rfl rfl ⟨rfl, trivial⟩ (by repeat (first | exact .nil | (apply BorL.cons; first | exact .map _ _ rfl | exact .ptr _ _ _ rfl | exact .own _ _ rfl | exact .fnp _ _ _ _ rfl | (apply BorIO.lend; first | exact lS rfl | exact lR rfl | exact lM rfl rfl | exact lL rfl | exact lX rfl | exact lN | exact lNl | exact lSm rfl | exact lIm rfl | exact lGm rfl | exact lP rfl | exact lQ rfl | exact lB rfl rfl rfl)))) rfl (by first | exact .inl rfl | exact .inr (fun b rs h => by first | obtain ⟨rfl, rfl⟩ := h | obtain ⟨_, _, _, rfl, rfl⟩ := h; exact ⟨by repeat (first | exact flats_nil | refine flats_cons (by first | exact flat_val _ rfl | exact flat_row (fun _ => rfl) | exact flat_lst (fun _ => rfl)) ?_), by repeat (first | exact flats0 | refine flats1 (by first | exact flatB_row (fun _ => rfl) | exact flatB_lst (fun _ => rfl) | exact flatB_smap (fun _ => rfl) | exact flatB_imap (fun _ => rfl) | exact flatB_cells rfl) ?_)⟩))) ?_
          rintro r ⟨b, rs, ⟨M1, s1, t1, rfl, rfl⟩, rfl⟩
          have lM := t1.len
          rw [List.length_append] at lM
          refine ⟨tn_ge _ _, ?_⟩
          conv => whnf
          refine ⟨fun q3 => ?_, fun q3 => ?_⟩
          · simp only [decide_eq_true_eq, Bool.and_eq_true] at q3
            have hcall3 := ih (A2.length + B2.length) (by omega) (P ++ M1) A2 B2 Q rfl (by omega) (by omega) sA2 sB2 (by simp only [List.length_append]; omega) (a := ((P.length + h : Nat) : Int)) (m := ((P.length + h : Nat) : Int) + ((P.length + A.length : Nat) : Int) - ((P.length + u : Nat) : Int)) (b := ((P.length + A.length + B.length : Nat) : Int)) (xs := P ++ (M1 ++ (A2 ++ (B2 ++ Q)))) (by simp only [List.length_append]; omega) (by simp only [List.length_append]; omega) (by simp only [List.length_append]; omega) (by simp)
            conv => whnf
            refine .raw _ _ rfl (fun h => by cases h) (callio_sem (hcall3) [0] _ rfl rfl ⟨rfl, trivial⟩ (by repeat (first | exact .nil | (apply BorL.cons; first | exact .map _ _ rfl | exact .ptr _ _ _ rfl | exact .own _ _ rfl | exact .fnp _ _ _ _ rfl | (apply BorIO.lend; first | exact lS rfl | exact lR rfl | exact lM rfl rfl | exact lL rfl | exact lX rfl | exact lN | exact lNl | exact lSm rfl | exact lIm rfl | exact lGm rfl | exact lP rfl | exact lQ rfl | exact lB rfl rfl rfl)))) rfl (by first | exact .inl rfl | exact .inr (fun b rs h => by first | obtain ⟨rfl, rfl⟩ := h | obtain ⟨_, _, _, rfl, rfl⟩ := h; exact ⟨by repeat (first | exact flats_nil | refine flats_cons (by first | exact flat_val _ rfl | exact flat_row (fun _ => rfl) | exact flat_lst (fun _ => rfl)) ?_), by repeat (first | exact flats0 | refine flats1 (by first | exact flatB_row (fun _ => rfl) | exact flatB_lst (fun _ => rfl) | exact flatB_smap (fun _ => rfl) | exact flatB_imap (fun _ => rfl) | exact flatB_cells rfl) ?_)⟩))) ?_
            rintro r ⟨b, rs, ⟨M2, s2, t2, rfl, rfl⟩, rfl⟩
            refine ⟨tn_ge _ _, ?_⟩
            conv => whnf
            obtain ⟨f1, f2⟩ := merge_fin (by rw [eA]; exact sA) (by rw [eB]; exact sB) cx1 cx2 s1 t1 s2 t2
            rw [eA, eB] at f2
            refine ⟨_, f1, f2, ?_, rfl⟩
            simp only [List.append_assoc]
            rfl
          · simp only [decide_eq_false_iff_not, Bool.and_eq_false_iff, decide_eq_true_eq] at q3
            have s2 : Asc (A2 ++ B2) := by
              by_cases hz : A2.length = 0
              · rw [List.eq_nil_of_length_eq_zero hz]; exact sB2
              · rw [List.eq_nil_of_length_eq_zero (show B2.length = 0 by omega), List.append_nil]; exact sA2
            conv => whnf
            obtain ⟨f1, f2⟩ := merge_fin (by rw [eA]; exact sA) (by rw [eB]; exact sB) cx1 cx2 s1 t1 s2 (Stb.refl _)
            rw [eA, eB] at f2
            refine ⟨_, f1, f2, ?_, rfl⟩
            simp only [List.append_assoc]
            rfl
        · simp only [decide_eq_false_iff_not, Bool.and_eq_false_iff, decide_eq_true_eq] at q2
          obtain ⟨M1, s1, t1, eM⟩ : ∃ M1, Asc M1 ∧ Stb (A1 ++ B1) M1 ∧ (P ++ A1) ++ (B1 ++ (A2 ++ (B2 ++ Q))) = P ++ (M1 ++ (A2 ++ (B2 ++ Q))) := by
            refine ⟨A1 ++ B1, ?_, Stb.refl _, by simp⟩
            by_cases hz : A1.length = 0
            · rw [List.eq_nil_of_length_eq_zero hz]; exact sB1
            · rw [List.eq_nil_of_length_eq_zero (show B1.length = 0 by omega), List.append_nil]; exact sA1
          have lM := t1.len
          rw [List.length_append] at lM
          rw [eM]
          conv => whnf
          refine ⟨fun q3 => ?_, fun q3 => ?_⟩
          · simp only [decide_eq_true_eq, Bool.and_eq_true] at q3
            have hcall3 := ih (A2.length + B2.length) (by omega) (P ++ M1) A2 B2 Q rfl (by omega) (by omega) sA2 sB2 (by simp only [List.length_append]; omega) (a := ((P.length + h : Nat) : Int)) (m := ((P.length + h : Nat) : Int) + ((P.length + A.length : Nat) : Int) - ((P.length + u : Nat) : Int)) (b := ((P.length + A.length + B.length : Nat) : Int)) (xs := P ++ (M1 ++ (A2 ++ (B2 ++ Q)))) (by simp only [List.length_append]; omega) (by simp only [List.length_append]; omega) (by simp only [List.length_append]; omega) (by simp)
            conv => whnf
            refine .raw _ _ rfl (fun h => by cases h) (callio_sem (hcall3) [0] _ rfl rfl ⟨rfl, trivial⟩ (by repeat (first | exact .nil | (apply BorL.cons; first | exact .map _ _ rfl | exact .ptr _ _ _ rfl | exact .own _ _ rfl | exact .fnp _ _ _ _ rfl | (apply BorIO.lend; first | exact lS rfl | exact lR rfl | exact lM rfl rfl | exact lL rfl | exact lX rfl | exact lN | exact lNl | exact lSm rfl | exact lIm rfl | exact lGm rfl | exact lP rfl | exact lQ rfl | exact lB rfl rfl rfl)))) rfl (by first | exact .inl rfl | exact .inr (fun b rs h => by first | obtain ⟨rfl, rfl⟩ := h | obtain ⟨_, _, _, rfl, rfl⟩ := h; exact ⟨by repeat (first | exact flats_nil | refine flats_cons (by first | exact flat_val _ rfl | exact flat_row (fun _ => rfl) | exact flat_lst (fun _ => rfl)) ?_), by repeat (first | exact flats0 | refine flats1 (by first | exact flatB_row (fun _ => rfl) | exact flatB_lst (fun _ => rfl) | exact flatB_smap (fun _ => rfl) | exact flatB_imap (fun _ => rfl) | exact flatB_cells rfl) ?_)⟩))) ?_
            rintro r ⟨b, rs, ⟨M2, s2, t2, rfl, rfl⟩, rfl⟩
            refine ⟨tn_ge _ _, ?_⟩
            conv => whnf
            obtain ⟨f1, f2⟩ := merge_fin (by rw [eA]; exact sA) (by rw [eB]; exact sB) cx1 cx2 s1 t1 s2 t2
            rw [eA, eB] at f2
            refine ⟨_, f1, f2, ?_, rfl⟩
            simp only [List.append_assoc]
            rfl
          · simp only [decide_eq_false_iff_not, Bool.and_eq_false_iff, decide_eq_true_eq] at q3
            have s2 : Asc (A2 ++ B2) := by
              by_cases hz : A2.length = 0
              · rw [List.eq_nil_of_length_eq_zero hz]; exact sB2
              · rw [List.eq_nil_of_length_eq_zero (show B2.length = 0 by omega), List.append_nil]; exact sA2
            conv => whnf
            obtain ⟨f1, f2⟩ := merge_fin (by rw [eA]; exact sA) (by rw [eB]; exact sB) cx1 cx2 s1 t1 s2 (Stb.refl _)
            rw [eA, eB] at f2
            refine ⟨_, f1, f2, ?_, rfl⟩
            simp only [List.append_assoc]
            rfl

end Go.Proofs.YtjlnaogechkjdaaGreatDoor


namespace Go.Proofs.YtjlnaogechkjdaaGreatDoor
open Go.Own
set_option maxHeartbeats 4000000
set_option maxRecDepth 100000

theorem merge_ok (n : Nat) : MergeAt n := by
  induction n using Nat.strongRecOn with
  | _ n ih => exact merge_step n ih

theorem shR_get (P S : List Ent) (x : Ent) (Q : List Ent) {t n : Nat} (ht : t ≤ S.length) (hn : n = P.length + t) : (shR P S x Q t).getD n e0 = x := by
  unfold shR
  have : P ++ (S.take t ++ ([x] ++ (S.drop t ++ Q))) = (P ++ S.take t) ++ x :: (S.drop t ++ Q) := by simp
  rw [this]
  refine get_at _ _ _ ?_
  rw [List.length_append, List.length_take]
  omega
theorem shR_prev (P S : List Ent) (x : Ent) (Q : List Ent) {t n : Nat} (ht : t + 1 ≤ S.length) (hn : n = P.length + t) : (shR P S x Q (t + 1)).getD n e0 = S.getD t e0 := by
  rw [shR_succ P S x Q (by omega)]
  refine get_at _ _ _ ?_
  rw [List.length_append, List.length_take]
  omega

theorem shR_open (P S A Q : List Ent) {k : Nat} (hk : k < A.length) (hs : S.length = k) : P ++ (S ++ (A.drop k ++ Q)) = shR P S (A.getD k e0) (A.drop (k + 1) ++ Q) k := by
  rw [drop_getD' hk]
  unfold shR
  rw [List.take_of_length_le (l := S) (by omega), List.drop_of_length_le (l := S) (by omega)]
  simp

theorem shR_close (P S : List Ent) (x : Ent) (Q : List Ent) (t : Nat) : shR P S x Q t = P ++ ((S.take t ++ ([x] ++ S.drop t)) ++ Q) := by
  unfold shR
  simp

theorem insert_ok (P A Q : List Ent) (hA : 0 < A.length) (hb : P.length + A.length + Q.length ≤ 1000000) {a b : Int} {xs : List Ent}
    (ha : a = (P.length : Nat)) (hb' : b = ((P.length + A.length : Nat) : Int)) (hx : xs = P ++ (A ++ Q)) :
    AIO Tryz.prog 46 [.own 0, .int .i64 a, .int .i64 b, .fn (.func 20) [] []] [.row 33 5 encE e0 xs] (fun bs rs => ∃ M, Asc M ∧ Stb A M ∧ bs = [.row 33 5 encE e0 (P ++ (M ++ Q))] ∧ rs = []) := by
  subst ha hb' hx
  refine aio_of (C := cxP 1 53 [0, 1, 2, 3, 8, 9, 14, 34]) (cxPOk _ _ _) Tryz.func46 rfl (by decide) rfl (by exact Nat.le_of_ble_eq_true rfl) (by decide) rfl rfl ?_
  conv => whnf
  refine And.intro ⟨by omega, by omega⟩ ?_; conv => whnf
  refine loop_inv (cxPOk _ _ _) (σ := Nat × List Ent) (fun s => 1 ≤ s.1 ∧ s.1 ≤ A.length ∧ Asc s.2 ∧ Stb (A.take s.1) s.2) (fun s => A.length - s.1) (fun s => ⟨[(0, .own 0), (1, .int .i64 (P.length : Nat)), (2, .int .i64 ((P.length + A.length : Nat) : Int)), (3, .fn (.func 20) [] []), (8, .int .i64 ((P.length + (s.1) : Nat) : Int))], [(0, .row 33 5 encE e0 (P ++ ((s.2) ++ (A.drop (s.1) ++ Q))))], 1⟩) (1, A.take 1) ⟨Nat.le_refl _, hA, (by match A, hA with | x :: l, _ => exact asc_one x), Stb.refl _⟩ ((wk_of [(0, .id 0)] rfl ⟨(by first | exact .base (.own _ _ rfl) | exact .base (.nilown _ rfl) | exact .base (.trunc _ _ _ rfl)), .base (.tree _ _ rfl rfl), .base (.tree _ _ rfl rfl), .fn _ _ _ _ _ (by repeat (first | exact .nil | refine .cons (by first | exact .tree _ _ rfl rfl | exact .ptr _ _ _ rfl | exact .own _ _ rfl) ?_)) (by repeat (first | exact .nil | refine .cons (by first | exact .tree _ _ rfl rfl | exact .ptr _ _ _ rfl | exact .own _ _ rfl) ?_)), .base (.tree _ _ rfl rfl), trivial⟩ ⟨⟨_, rfl, (by first | exact .row _ _ _ _ _ _ _ rfl (show P ++ (A ++ Q) = P ++ (A.take 1 ++ (A.drop 1 ++ Q)) by rw [← List.append_assoc (A.take 1), List.take_append_drop]) | exact .lstrow _ _ _ _ _ _ _ rfl (show P ++ (A ++ Q) = P ++ (A.take 1 ++ (A.drop 1 ++ Q)) by rw [← List.append_assoc (A.take 1), List.take_append_drop]) | exact .nilrow _ _ _ _ _ (show P ++ (A ++ Q) = P ++ (A.take 1 ++ (A.drop 1 ++ Q)) by rw [← List.append_assoc (A.take 1), List.take_append_drop]) | exact .truncrow _ _ _ _ _ _ _ _ rfl (by omega) (show P ++ (A ++ Q) = P ++ (A.take 1 ++ (A.drop 1 ++ Q)) by rw [← List.append_assoc (A.take 1), List.take_append_drop]))⟩, trivial⟩)) ?_
  rintro ⟨k, s⟩ ⟨h1, h2, h3, h4⟩
  dsimp only at h1 h2 h3 h4
  change evCode _ _ ⟨[(0, .own 0), (1, .int .i64 (P.length : Nat)), (2, .int .i64 ((P.length + A.length : Nat) : Int)), (3, .fn (.func 20) [] []), (8, .int .i64 ((P.length + k : Nat) : Int))], [(0, .row 33 5 encE e0 (P ++ (s ++ (A.drop k ++ Q))))], 1⟩ _
  have hsl := h4.len
  rw [List.length_take, Nat.min_eq_left h2] at hsl
  conv => whnf
  refine ⟨fun hc => ?_, fun hc => ?_⟩
  · simp only [decide_eq_true_eq] at hc
    have hlt : k < A.length := by omega
    conv => whnf
    refine loop_inv (cxPOk _ _ _) (σ := Nat) (fun t => t ≤ k ∧ (s.length ≤ t ∨ (A.getD k e0).id < (s.getD t e0).id)) (fun t => t) (fun t => ⟨[(0, .own 0), (1, .int .i64 (P.length : Nat)), (2, .int .i64 ((P.length + A.length : Nat) : Int)), (3, .fn (.func 20) [] []), (8, .int .i64 ((P.length + k : Nat) : Int)), (9, .int .i64 ((P.length + t : Nat) : Int))], [(0, .row 33 5 encE e0 (shR P s (A.getD k e0) (A.drop (k + 1) ++ Q) t))], 1⟩) k ⟨Nat.le_refl _, .inl (by omega)⟩ ((wk_of [(0, .id 0)] rfl ⟨(by first | exact .base (.own _ _ rfl) | exact .base (.nilown _ rfl) | exact .base (.trunc _ _ _ rfl)), .base (.tree _ _ rfl rfl), .base (.tree _ _ rfl rfl), .fn _ _ _ _ _ (by repeat (first | exact .nil | refine .cons (by first | exact .tree _ _ rfl rfl | exact .ptr _ _ _ rfl | exact .own _ _ rfl) ?_)) (by repeat (first | exact .nil | refine .cons (by first | exact .tree _ _ rfl rfl | exact .ptr _ _ _ rfl | exact .own _ _ rfl) ?_)), .base (.tree _ _ rfl rfl), .base (.tree _ _ rfl rfl), trivial⟩ ⟨⟨_, rfl, (by first | exact .row _ _ _ _ _ _ _ rfl (shR_open P s A Q hlt hsl) | exact .lstrow _ _ _ _ _ _ _ rfl (shR_open P s A Q hlt hsl) | exact .nilrow _ _ _ _ _ (shR_open P s A Q hlt hsl) | exact .truncrow _ _ _ _ _ _ _ _ rfl (by omega) (shR_open P s A Q hlt hsl))⟩, trivial⟩)) ?_
    rintro t ⟨g1, g2⟩
    have hlen := shR_len P s (A.getD k e0) (A.drop (k + 1) ++ Q) t
    rw [List.length_append, List.length_drop] at hlen
    have done : ∀ {t : Nat}, t ≤ k → (s.length ≤ t ∨ (A.getD k e0).id < (s.getD t e0).id) → (t = 0 ∨ (s.getD (t - 1) e0).id ≤ (A.getD k e0).id) → Asc (s.take t ++ ([A.getD k e0] ++ s.drop t)) ∧ Stb (A.take (k + 1)) (s.take t ++ ([A.getD k e0] ++ s.drop t)) := by
      intro t q1 q2 q3
      have r1 := take_le h3 (i := t) (by omega) q3
      have r2 := drop_lt h3 q2
      refine ⟨put_in h3 r1 fun y hy => Int.le_of_lt (r2 y hy), ?_⟩
      rw [take_getD (d := e0) hlt]
      exact (h4.app (Stb.refl _)).trans (put_stb2 r2)
    conv => whnf
    rcases Nat.eq_zero_or_pos t with hz | hz
    · subst hz
      rw [show (P.length + 0 : Nat) = P.length from rfl]
      refine .quiet (by kernel_rfl) ?_
      conv => whnf
      rw [show decide ((P.length : Int) < (P.length : Int)) = false by simp]
      conv => whnf
      refine And.intro (fun _ => ⟨by omega, by omega⟩) ?_; conv => whnf
      refine And.intro (by omega) (And.intro rfl ?_); conv => whnf
      refine And.intro (fun _ => ⟨by omega, by omega⟩) ?_; conv => whnf
      refine ⟨fun h => absurd h (by decide), ?_⟩
      conv => whnf
      refine And.intro (by omega) (And.intro rfl ?_); conv => whnf
      refine .mk _ _ _ _ (fun _ => byId_ok ((shR P s (A.getD k e0) (A.drop (k + 1) ++ Q) 0).getD (P.length : Int).toNat e0) ((shR P s (A.getD k e0) (A.drop (k + 1) ++ Q) 0).getD ((P.length : Int) - 1).toNat e0)) (by repeat (first | exact .nil | (apply BorL.cons; first | exact lS rfl | exact lR rfl | exact lM rfl rfl | exact lL rfl | exact lX rfl | exact lN | exact lNl | exact lSm rfl | exact lIm rfl | exact lGm rfl | exact lP rfl | exact lQ rfl | exact lB rfl rfl rfl))) rfl ?_
      conv => whnf
      refine ⟨fun he => ?_, fun he => ?_⟩
      · rw [Bool.false_and] at he
        cases he
      · obtain ⟨d1, d2⟩ := done (t := 0) g1 g2 (.inl rfl)
        conv => whnf
        refine And.intro ⟨by omega, by omega⟩ ?_; conv => whnf
        refine ⟨(k + 1, s.take 0 ++ ([A.getD k e0] ++ s.drop 0)), ⟨by show 1 ≤ k + 1; omega, by show k + 1 ≤ A.length; omega, d1, d2⟩, (show A.length - (k + 1) < A.length - k by omega), (wk_of [(0, .id 0)] rfl ⟨(by first | exact .base (.own _ _ rfl) | exact .base (.nilown _ rfl) | exact .base (.trunc _ _ _ rfl)), .base (.tree _ _ rfl rfl), .base (.tree _ _ rfl rfl), .fn _ _ _ _ _ (by repeat (first | exact .nil | refine .cons (by first | exact .tree _ _ rfl rfl | exact .ptr _ _ _ rfl | exact .own _ _ rfl) ?_)) (by repeat (first | exact .nil | refine .cons (by first | exact .tree _ _ rfl rfl | exact .ptr _ _ _ rfl | exact .own _ _ rfl) ?_)), .base (.tree _ _ rfl rfl), trivial⟩ ⟨⟨_, rfl, (by first | exact .row _ _ _ _ _ _ _ rfl (shR_close P s _ _ 0) | exact .lstrow _ _ _ _ _ _ _ rfl (shR_close P s _ _ 0) | exact .nilrow _ _ _ _ _ (shR_close P s _ _ 0) | exact .truncrow _ _ _ _ _ _ _ _ rfl (by omega) (shR_close P s _ _ 0))⟩, trivial⟩)⟩
    · obtain ⟨t', rfl⟩ : ∃ t', t = t' + 1 := ⟨t - 1, by omega⟩
      refine .quiet (by kernel_rfl) ?_
      conv => whnf
      rw [show decide (((P.length : Nat) : Int) < ((P.length + (t' + 1) : Nat) : Int)) = true by rw [decide_eq_true_eq]; omega]
      conv => whnf
      refine And.intro (fun _ => ⟨by omega, by omega⟩) ?_; conv => whnf
      refine And.intro (by omega) (And.intro rfl ?_); conv => whnf
      refine And.intro (fun _ => ⟨by omega, by omega⟩) ?_; conv => whnf
      refine And.intro (fun _ => ⟨by omega, by omega⟩) ?_; conv => whnf
      refine And.intro (by omega) (And.intro rfl ?_); conv => whnf
      rw [shR_get P s (A.getD k e0) _ (t := t' + 1) (by omega) (by omega), shR_prev P s (A.getD k e0) _ (t := t') (by omega) (by omega)]
      refine .mk _ _ _ _ (fun _ => byId_ok (A.getD k e0) (s.getD t' e0)) (by repeat (first | exact .nil | (apply BorL.cons; first | exact lS rfl | exact lR rfl | exact lM rfl rfl | exact lL rfl | exact lX rfl | exact lN | exact lNl | exact lSm rfl | exact lIm rfl | exact lGm rfl | exact lP rfl | exact lQ rfl | exact lB rfl rfl rfl))) rfl ?_
      conv => whnf
      rw [Bool.true_and]
      refine ⟨fun he => ?_, fun he => ?_⟩
      · simp only [decide_eq_true_eq, cmpI_lt] at he
        conv => whnf
        refine .eff (by first | exact cxOk _ _ | exact cxPOk _ _ _) ?_; conv => whnf
        refine And.intro ⟨by omega, by omega⟩ ?_; conv => whnf
        refine And.intro ⟨by omega, by omega⟩ ?_; conv => whnf
        refine And.intro ⟨by omega, by omega⟩ ?_; conv => whnf
        refine And.intro (by omega) (And.intro rfl ?_); conv => whnf
        refine And.intro ⟨by omega, by omega⟩ ?_; conv => whnf
        refine And.intro (by omega) (And.intro rfl ?_); conv => whnf
        refine And.intro ⟨by omega, by omega⟩ ?_; conv => whnf
        refine Exists.intro _ (And.intro rfl (And.intro (by first | omega | (simp; omega)) (And.intro ⟨rfl, rfl, rfl, rfl, rfl⟩ ?_))); conv => whnf
        rw [List.length_set]
        refine And.intro ⟨by omega, by omega⟩ ?_; conv => whnf
        refine Exists.intro _ (And.intro rfl ?_); conv => whnf
        rw [List.length_set]
        refine And.intro (by omega) (And.intro ⟨rfl, rfl, rfl, rfl, rfl⟩ ?_)
        conv => whnf
        refine And.intro rfl ?_; conv => whnf
        refine And.intro ⟨by omega, by omega⟩ ?_; conv => whnf
        refine ⟨t', ⟨by omega, .inr he⟩, (show t' < t' + 1 by omega), (wk_of [(0, .id 0)] rfl ⟨(by first | exact .base (.own _ _ rfl) | exact .base (.nilown _ rfl) | exact .base (.trunc _ _ _ rfl)), .base (.tree _ _ rfl rfl), .base (.tree _ _ rfl rfl), .fn _ _ _ _ _ (by repeat (first | exact .nil | refine .cons (by first | exact .tree _ _ rfl rfl | exact .ptr _ _ _ rfl | exact .own _ _ rfl) ?_)) (by repeat (first | exact .nil | refine .cons (by first | exact .tree _ _ rfl rfl | exact .ptr _ _ _ rfl | exact .own _ _ rfl) ?_)), .base (.tree _ _ rfl rfl), .base (.tree _ _ (show AV.int .i64 _ = AV.int .i64 ((P.length + t' : Nat) : Int) by congr 1; omega) rfl), trivial⟩ ⟨⟨_, rfl, (by first | exact .row _ _ _ _ _ _ _ rfl (shR_back P s _ _ (by omega) (by omega) (by omega)) | exact .lstrow _ _ _ _ _ _ _ rfl (shR_back P s _ _ (by omega) (by omega) (by omega)) | exact .nilrow _ _ _ _ _ (shR_back P s _ _ (by omega) (by omega) (by omega)) | exact .truncrow _ _ _ _ _ _ _ _ rfl (by omega) (shR_back P s _ _ (by omega) (by omega) (by omega)))⟩, trivial⟩)⟩
      · simp only [decide_eq_false_iff_not, cmpI_lt] at he
        obtain ⟨d1, d2⟩ := done (t := t' + 1) g1 g2 (.inr (by show (s.getD t' e0).id ≤ (A.getD k e0).id; omega))
        conv => whnf
        refine And.intro ⟨by omega, by omega⟩ ?_; conv => whnf
        refine ⟨(k + 1, s.take (t' + 1) ++ ([A.getD k e0] ++ s.drop (t' + 1))), ⟨by show 1 ≤ k + 1; omega, by show k + 1 ≤ A.length; omega, d1, d2⟩, (show A.length - (k + 1) < A.length - k by omega), (wk_of [(0, .id 0)] rfl ⟨(by first | exact .base (.own _ _ rfl) | exact .base (.nilown _ rfl) | exact .base (.trunc _ _ _ rfl)), .base (.tree _ _ rfl rfl), .base (.tree _ _ rfl rfl), .fn _ _ _ _ _ (by repeat (first | exact .nil | refine .cons (by first | exact .tree _ _ rfl rfl | exact .ptr _ _ _ rfl | exact .own _ _ rfl) ?_)) (by repeat (first | exact .nil | refine .cons (by first | exact .tree _ _ rfl rfl | exact .ptr _ _ _ rfl | exact .own _ _ rfl) ?_)), .base (.tree _ _ rfl rfl), trivial⟩ ⟨⟨_, rfl, (by first | exact .row _ _ _ _ _ _ _ rfl (shR_close P s _ _ (t' + 1)) | exact .lstrow _ _ _ _ _ _ _ rfl (shR_close P s _ _ (t' + 1)) | exact .nilrow _ _ _ _ _ (shR_close P s _ _ (t' + 1)) | exact .truncrow _ _ _ _ _ _ _ _ rfl (by omega) (shR_close P s _ _ (t' + 1)))⟩, trivial⟩)⟩
  · simp only [decide_eq_false_iff_not] at hc
    obtain rfl : k = A.length := by omega
    rw [List.take_of_length_le (Nat.le_refl _)] at h4
    conv => whnf
    refine ⟨s, h3, h4, ?_, rfl⟩
    rw [List.drop_of_length_le (Nat.le_refl _), List.nil_append]
    rfl

end Go.Proofs.YtjlnaogechkjdaaGreatDoor
