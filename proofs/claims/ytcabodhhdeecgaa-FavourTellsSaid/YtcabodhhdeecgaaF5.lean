import Derived.Test.YtcabodhhdeecgaaF3
import Derived.Test.YtcabodhhdeecgaaF4
namespace Go.Proofs.Ytcabodhhdeecgaa
open Go.Own Go.Proofs.Fav
set_option maxHeartbeats 2000000
set_option maxRecDepth 100000

theorem sort_c {H : Heap} {nx id : Nat} {xs : List Int} (hid : lkH H id = .row 3 1 encI 0 xs) (hmax : xs.length ≤ 1000000) : CallSem Try.prog 18 [.own id] H nx [id] (fun r => r = ⟨.tup [], [id], [(id, .row 3 1 encI 0 (xs.mergeSort leZ))], nx⟩) :=
  sortI_sem (ρ := Try.sortA_ren) Try.sortA ⟨Try.f18, Try.func18, rfl, by decide⟩ (fun _ => rfl) hid hmax
theorem compact_c {H : Heap} {nx id : Nat} {xs : List Int} (hid : lkH H id = .row 3 1 encI 0 xs) (hmax : xs.length ≤ 1000000) : CallSem Try.prog 19 [.own id] H nx [id] (fun r => r = ⟨.pre id (Go.Lib.compact xs).length, [id], [(id, .row 3 1 encI 0 (Go.Lib.compact xs ++ List.replicate (xs.length - (Go.Lib.compact xs).length) 0))], nx⟩) :=
  compactI_sem (ρ := Try.compactA_ren) Try.compactA ⟨Try.f19, Try.func19, rfl, by decide⟩ (fun _ => rfl) hid hmax

/-! ### Names -/

theorem mget_mset {K V : Type} [DecidableEq K] (m : List (K × V)) (k k' : K) (x : V) : mget (mset m k x) k' = if k = k' then some x else mget m k' := by
  induction m with
  | nil => simp [mset, mget]
  | cons p m ih =>
    obtain ⟨a, b⟩ := p
    by_cases h : a = k
    · subst h
      by_cases h2 : a = k' <;> simp [mset, mget, h2]
    · by_cases h2 : a = k'
      · subst h2
        have h3 : ¬ k = a := fun e => h e.symm
        simp [mset, mget, h, h3]
      · simp [mset, mget, h, h2, ih]

def idxM (l : List J) : Nat → List (List UInt8 × Int)
  | 0 => []
  | k + 1 => mset (idxM l k) (l.getD k j0).name (k : Int)
def dupF (l : List J) : Nat → Bool
  | 0 => false
  | k + 1 => dupF l k || (mget (idxM l k) (l.getD k j0).name).isSome

theorem idx_some {l : List J} : ∀ {n : Nat} {s : List UInt8} {v : Int}, mget (idxM l n) s = some v → ∃ k, k < n ∧ v = (k : Int) ∧ (l.getD k j0).name = s
  | 0, s, v, h => by simp [idxM, mget] at h
  | n + 1, s, v, h => by
    unfold idxM at h
    rw [mget_mset] at h
    split at h
    · rename_i e
      cases h
      exact ⟨n, by omega, rfl, e⟩
    · obtain ⟨k, h1, h2⟩ := idx_some h
      exact ⟨k, by omega, h2⟩
theorem idx_none {l : List J} : ∀ {n : Nat} {s : List UInt8}, mget (idxM l n) s = none → ∀ k, k < n → (l.getD k j0).name ≠ s
  | 0, s, _, k, hk => by omega
  | n + 1, s, h, k, hk => by
    unfold idxM at h
    rw [mget_mset] at h
    split at h
    · cases h
    · rename_i e
      by_cases e2 : k = n
      · subst e2; exact e
      · exact idx_none h k (by omega)

/-- No name comes twice. -/
def Once (l : List J) : Prop := ∀ i, i < l.length → ∀ k, k < i → (l.getD i j0).name ≠ (l.getD k j0).name
instance (l : List J) : Decidable (Once l) := inferInstanceAs (Decidable (∀ i, i < l.length → ∀ k, k < i → (l.getD i j0).name ≠ (l.getD k j0).name))
theorem dupF_false {l : List J} : ∀ {n : Nat}, dupF l n = false ↔ ∀ i, i < n → ∀ k, k < i → (l.getD i j0).name ≠ (l.getD k j0).name
  | 0 => by simp [dupF]
  | n + 1 => by
    unfold dupF
    rw [Bool.or_eq_false_iff, dupF_false (n := n)]
    constructor
    · rintro ⟨h1, h2⟩ i hi k hk
      by_cases e : i = n
      · subst e
        intro e2
        cases hm : mget (idxM l i) (l.getD i j0).name with
        | none => exact idx_none hm k hk e2.symm
        | some v => rw [hm] at h2; cases h2
      · exact h1 i (by omega) k hk
    · intro h
      refine ⟨fun i hi => h i (by omega), ?_⟩
      cases hm : mget (idxM l n) (l.getD n j0).name with
      | none => rfl
      | some v =>
        obtain ⟨k, h1, _, h3⟩ := idx_some hm
        exact (h n (by omega) k h1 h3.symm).elim

/-- Every name that is favoured is there. -/
def Known (l : List J) : Prop := ∀ i, i < l.length → ∀ n, n < (l.getD i j0).fav.length → ∃ k, k < l.length ∧ (l.getD k j0).name = (l.getD i j0).fav.getD n []
theorem known_iff {l : List J} : Known l ↔ ∀ x ∈ l, ∀ s ∈ x.fav, ∃ y ∈ l, y.name = s := by
  constructor
  · intro h x hx s hs
    obtain ⟨i, hi, rfl⟩ := List.getElem_of_mem hx
    obtain ⟨n, hn, rfl⟩ := List.getElem_of_mem hs
    have e : l.getD i j0 = l[i] := by rw [List.getD_eq_getElem?_getD, List.getElem?_eq_getElem hi]; rfl
    obtain ⟨k, hk, h2⟩ := h i hi n (by rw [e]; exact hn)
    refine ⟨l.getD k j0, fgetD_mem hk, ?_⟩
    rw [h2, e, List.getD_eq_getElem?_getD, List.getElem?_eq_getElem hn]
    rfl
  · intro h i hi n hn
    obtain ⟨y, hy, e⟩ := h _ (fgetD_mem (d := j0) hi) _ (fgetD_mem (d := []) hn)
    obtain ⟨k, hk, rfl⟩ := List.getElem_of_mem hy
    refine ⟨k, hk, ?_⟩
    rw [← e, List.getD_eq_getElem?_getD, List.getElem?_eq_getElem hk]
    rfl
instance (l : List J) : Decidable (Known l) := decidable_of_iff _ known_iff.symm

/-- The error. -/
def errE (l : List J) (days : List Int) : Int := if Right l days then if Once l then if Known l then 0 else 11 else 5 else 1

/-- The numbers that an issue's favours name. -/
def rawTo (l : List J) (i m : Nat) : List Int := ((l.getD i j0).fav.take m).map fun s => (mget (idxM l l.length) s).getD 0
def nextTo (l : List J) (n : Nat) : List (List Int) := (List.range n).map fun i => sc (rawTo l i (l.getD i j0).fav.length)
def nextL (l : List J) : List (List Int) := (List.range l.length).map fun i => cs (nxt l i)

theorem nextTo_succ (l : List J) (n : Nat) : nextTo l (n + 1) = nextTo l n ++ [sc (rawTo l n (l.getD n j0).fav.length)] := by
  unfold nextTo; rw [List.range_succ, List.map_append]; rfl

theorem cs_asc {c : List Nat} (h : c.Pairwise (· < ·)) : (cs c).Pairwise (· < ·) := by
  unfold cs
  rw [List.pairwise_map]
  exact h.imp fun h => Int.ofNat_lt.2 h

theorem next_eq {l : List J} (ho : Once l) (hk : Known l) : nextTo l l.length = nextL l := by
  unfold nextTo nextL
  refine List.map_congr_left fun i hi => ?_
  rw [List.mem_range] at hi
  refine ascI_eq (sc_asc _) (cs_asc (nxt_sorted l i)) fun x => ?_
  rw [sc_mem]
  unfold rawTo cs
  rw [List.take_of_length_le (Nat.le_refl _), List.mem_map, List.mem_map]
  have uniq : ∀ a b, a < l.length → b < l.length → (l.getD a j0).name = (l.getD b j0).name → a = b := fun a b ha hb e => by
    rcases Nat.lt_trichotomy a b with h | h | h
    · exact (ho b hb a h e.symm).elim
    · exact h
    · exact (ho a ha b h e).elim
  constructor
  · rintro ⟨s, hs, rfl⟩
    obtain ⟨n, hn, rfl⟩ := List.getElem_of_mem hs
    obtain ⟨k, hk1, hk2⟩ := hk i hi n hn
    have e : (l.getD i j0).fav.getD n [] = (l.getD i j0).fav[n] := by rw [List.getD_eq_getElem?_getD, List.getElem?_eq_getElem hn]; rfl
    rw [e] at hk2
    cases hm : mget (idxM l l.length) ((l.getD i j0).fav[n]) with
    | none => exact (idx_none hm k hk1 hk2).elim
    | some v =>
      obtain ⟨k', g1, rfl, g3⟩ := idx_some hm
      refine ⟨k', mem_nxt.2 ⟨g1, fv_of.2 ?_⟩, rfl⟩
      rw [g3]; exact hs
  · rintro ⟨k, hk, rfl⟩
    obtain ⟨h1, h2⟩ := mem_nxt.1 hk
    refine ⟨(l.getD k j0).name, fv_of.1 h2, ?_⟩
    cases hm : mget (idxM l l.length) ((l.getD k j0).name) with
    | none => exact (idx_none hm k h1 rfl).elim
    | some v =>
      obtain ⟨k', g1, rfl, g3⟩ := idx_some hm
      have := uniq k' k g1 h1 g3
      subst this
      rfl

theorem right_of {l : List J} {days : List Int} (h : Right l days) {k : Nat} (hk : k < l.length) : (0 ≤ days.getD k 0 ∧ days.getD k 0 ≤ 200000) ∧ (l.getD k j0).ncov ≤ 20 ∧ (l.getD k j0).fav.length ≤ 20 := by
  have := h.each k hk
  unfold badJ at this
  simp only [Bool.or_eq_false_iff, decide_eq_false_iff_not] at this
  omega

def encG (l : List J) (days : List Int) : List AV := [.sl 1 encIs [] (nextL l), encIs days]

theorem made_ok (l : List J) (days : List Int) (hl1 : l.length ≤ 9223372036854775807) : APure Try.prog 16 [encJs l, encIs days] (fun rs => rs = if errE l days = 0 then [.new (.cells 69 (encG l days)), .val (.int .i64 0)] else [.val .nilp, .val (.int .i64 (errE l days))]) := by
  refine apure_ofw (C := cx 123 [0, 1, 4, 5, 6, 7, 8, 9, 11, 12, 14, 15, 17, 18, 19, 29, 31, 32, 33, 34, 61, 78, 82, 83, 84, 85, 89, 90, 91, 92, 102]) (cxOk _ _) Try.func16 rfl (by decide) rfl (by exact Nat.le_of_ble_eq_true rfl) (by decide) ?_
  conv => whnf
  refine ⟨fun hc => ?_, fun hc => ?_⟩
  · conv => whnf
    have hr : ¬ Right l days := by
      rintro ⟨g1, g2, g3⟩
      have hc' : (decide (400 < (l.length : Int)) || !decide ((l.length : Int) = (days.length : Int))) = true := hc
      simp at hc'
      omega
    have he : errE l days = 1 := by unfold errE; rw [if_neg hr]
    refine ⟨_, Wk.refl _, ?_⟩
    conv => whnf
    rw [he]
    rfl
  have hc' : (decide (400 < (l.length : Int)) || !decide ((l.length : Int) = (days.length : Int))) = false := hc
  simp only [Bool.or_eq_false_iff, decide_eq_false_iff_not, Bool.not_eq_false', decide_eq_true_eq] at hc'
  have hlen : days.length = l.length := by omega
  conv => whnf
  repeat (first | (refine And.intro ⟨by omega, by omega⟩ ?_; conv => whnf) | (refine And.intro (by omega) (And.intro rfl ?_); conv => whnf) | (refine And.intro rfl ?_; conv => whnf) | (refine And.intro (fun _ => ⟨by omega, by omega⟩) ?_; conv => whnf) | (refine And.intro (fun _ => by omega) (And.intro rfl ?_); conv => whnf) | (refine And.intro ⟨(by first | omega | (simp; omega)), (by first | omega | (simp; omega))⟩ ?_; conv => whnf) | (refine Exists.intro _ (And.intro rfl (And.intro (by first | omega | (simp; omega)) (And.intro ⟨rfl, rfl, rfl, rfl, rfl⟩ ?_))); conv => whnf) | (refine And.intro ⟨rfl, rfl⟩ (And.intro (by first | omega | (simp; omega)) ?_); conv => whnf) | (refine Exists.intro _ (And.intro rfl ?_); conv => whnf) | (refine And.intro (fun _ => ?_) (fun h => absurd h (by decide)); conv => whnf) | (refine And.intro (fun h => absurd h (by decide)) (fun _ => ?_); conv => whnf) | (refine .quiet (by kernel_rfl) ?_; conv => whnf))
  refine loop_up (cxOk _ _) l.length (fun k => ∀ j, j < k → badJ (l.getD j j0) (days.getD j 0) = false) (fun k => ⟨[(0, encJs l), (1, encIs days), (6, .map 0), (7, .bool (dupF l k)), (31, encJs l), (32, .int .i64 l.length), (33, .int .i64 (k : Nat))], [(0, .smap encI 0 (idxM l k))], 1⟩) (by intro j hj; omega) ((wk_of [(0, .id 0)] rfl ⟨.base (.tree _ _ rfl rfl), .base (.tree _ _ rfl rfl), .base (.map _ _ rfl), .base (.tree _ _ rfl rfl), .base (.tree _ _ rfl rfl), .base (.tree _ _ rfl rfl), .base (.tree _ _ rfl rfl), trivial⟩ ⟨⟨_, rfl, (by first | exact .smap _ _ _ _ _ rfl rfl | exact .newsmap _ _ _ _ _ _ _ rfl rfl rfl)⟩, trivial⟩)) ?_
  intro k hk hP
  conv => whnf
  refine ⟨fun hd => ?_, fun hd => ?_⟩
  · simp only [decide_eq_true_eq] at hd
    have hlt : k < l.length := by omega
    have e1 : l.getD (k : Int).toNat j0 = l.getD k j0 := by rw [Int.toNat_natCast]
    have e2 : days.getD (k : Int).toNat 0 = days.getD k 0 := by rw [Int.toNat_natCast]
    have hi1 : idxM l (k + 1) = mset (idxM l k) (l.getD k j0).name (k : Int) := rfl
    have hd1 : dupF l (k + 1) = (dupF l k || (mget (idxM l k) (l.getD k j0).name).isSome) := rfl
    generalize hM : idxM l k = M at *
    generalize hF : dupF l k = F at *
    generalize hM' : idxM l (k + 1) = M' at *
    generalize hF' : dupF l (k + 1) = F' at *
    generalize hx : l.getD k j0 = x at *
    generalize hdd : days.getD k 0 = d at *
    conv => whnf
    repeat (first | (refine And.intro ⟨by omega, by omega⟩ ?_; conv => whnf) | (refine And.intro (by omega) (And.intro rfl ?_); conv => whnf) | (refine And.intro rfl ?_; conv => whnf) | (refine And.intro (fun _ => ⟨by omega, by omega⟩) ?_; conv => whnf) | (refine And.intro (fun _ => by omega) (And.intro rfl ?_); conv => whnf) | (refine And.intro ⟨(by first | omega | (simp; omega)), (by first | omega | (simp; omega))⟩ ?_; conv => whnf) | (refine Exists.intro _ (And.intro rfl (And.intro (by first | omega | (simp; omega)) (And.intro ⟨rfl, rfl, rfl, rfl, rfl⟩ ?_))); conv => whnf) | (refine And.intro ⟨rfl, rfl⟩ (And.intro (by first | omega | (simp; omega)) ?_); conv => whnf) | (refine Exists.intro _ (And.intro rfl ?_); conv => whnf) | (refine And.intro (fun _ => ?_) (fun h => absurd h (by decide)); conv => whnf) | (refine And.intro (fun h => absurd h (by decide)) (fun _ => ?_); conv => whnf) | (refine .eff (by first | exact cxOk _ _ | exact cxPOk _ _ _) ?_; conv => whnf))
    rw [e2, e1]
    rw [List.length_replicate]
    refine ⟨fun he => ?_, fun he => ?_⟩
    · have he' : badJ x d = true := he
      have hr : ¬ Right l days := by
        rintro ⟨g1, g2, g3⟩
        have := g3 k hlt
        rw [hx, hdd, he'] at this
        cases this
      have hE : errE l days = 1 := by unfold errE; rw [if_neg hr]
      conv => whnf
      refine ⟨_, Wk.refl _, ?_⟩
      conv => whnf
      rw [hE]
      rfl
    · have he' : badJ x d = false := he
      conv => whnf
      repeat (first | (refine And.intro ⟨by omega, by omega⟩ ?_; conv => whnf) | (refine And.intro (by omega) (And.intro rfl ?_); conv => whnf) | (refine And.intro rfl ?_; conv => whnf) | (refine And.intro (fun _ => ⟨by omega, by omega⟩) ?_; conv => whnf) | (refine And.intro (fun _ => by omega) (And.intro rfl ?_); conv => whnf) | (refine And.intro ⟨(by first | omega | (simp; omega)), (by first | omega | (simp; omega))⟩ ?_; conv => whnf) | (refine Exists.intro _ (And.intro rfl (And.intro (by first | omega | (simp; omega)) (And.intro ⟨rfl, rfl, rfl, rfl, rfl⟩ ?_))); conv => whnf) | (refine And.intro ⟨rfl, rfl⟩ (And.intro (by first | omega | (simp; omega)) ?_); conv => whnf) | (refine Exists.intro _ (And.intro rfl ?_); conv => whnf) | (refine And.intro (fun _ => ?_) (fun h => absurd h (by decide)); conv => whnf) | (refine And.intro (fun h => absurd h (by decide)) (fun _ => ?_); conv => whnf) | (refine .eff (by first | exact cxOk _ _ | exact cxPOk _ _ _) ?_; conv => whnf))
      refine up hlt (fun j hj => ?_) ((wk_of [(0, .id 0)] rfl ⟨.base (.tree _ _ rfl rfl), .base (.tree _ _ rfl rfl), .base (.map _ _ rfl), .base (.tree _ _ (show AV.bool _ = AV.bool _ by rw [hF', hd1]) rfl), .base (.tree _ _ rfl rfl), .base (.tree _ _ rfl rfl), .base (.tree _ _ rfl rfl), trivial⟩ ⟨⟨_, rfl, (by first | exact .smap _ _ _ _ _ rfl (hi1.symm.trans hM'.symm) | exact .newsmap _ _ _ _ _ _ _ rfl rfl (hi1.symm.trans hM'.symm))⟩, trivial⟩))
      by_cases e : j = k
      · subst e; rw [hx, hdd]; exact he'
      · exact hP j (by omega)
  · simp only [decide_eq_false_iff_not] at hd
    obtain rfl : k = l.length := by omega
    have hR : Right l days := ⟨by omega, hlen, hP⟩
    have hdf := @dupF_false l l.length
    conv => whnf
    refine ⟨fun hdup => ?_, fun hdup => ?_⟩
    · conv => whnf
      refine ⟨_, Wk.refl _, ?_⟩
      conv => whnf
      have hE : errE l days = 5 := by
        unfold errE
        rw [if_pos hR, if_neg (fun h => by rw [hdf.2 h] at hdup; cases hdup)]
      rw [hE]
      rfl
    · have hO : Once l := hdf.1 hdup
      have hRf := fun k (hk : k < l.length) => right_of hR hk
      have hNs := nextTo_succ l
      have hraw : ∀ i m, rawTo l i m = ((l.getD i j0).fav.take m).map fun s => (mget (idxM l l.length) s).getD 0 := fun _ _ => rfl
      have hnone := fun {s : List UInt8} (h : mget (idxM l l.length) s = none) => idx_none h
      have hsome := fun {s : List UInt8} {v : Int} (h : mget (idxM l l.length) s = some v) => idx_some h
      clear hdf
      generalize hM : idxM l l.length = M at *
      generalize dupF l l.length = F at *
      conv => whnf
      repeat (first | (refine And.intro ⟨by omega, by omega⟩ ?_; conv => whnf) | (refine And.intro (by omega) (And.intro rfl ?_); conv => whnf) | (refine And.intro rfl ?_; conv => whnf) | (refine And.intro (fun _ => ⟨by omega, by omega⟩) ?_; conv => whnf) | (refine And.intro (fun _ => by omega) (And.intro rfl ?_); conv => whnf) | (refine And.intro ⟨(by first | omega | (simp; omega)), (by first | omega | (simp; omega))⟩ ?_; conv => whnf) | (refine Exists.intro _ (And.intro rfl (And.intro (by first | omega | (simp; omega)) (And.intro ⟨rfl, rfl, rfl, rfl, rfl⟩ ?_))); conv => whnf) | (refine And.intro ⟨rfl, rfl⟩ (And.intro (by first | omega | (simp; omega)) ?_); conv => whnf) | (refine Exists.intro _ (And.intro rfl ?_); conv => whnf) | (refine And.intro (fun _ => ?_) (fun h => absurd h (by decide)); conv => whnf) | (refine And.intro (fun h => absurd h (by decide)) (fun _ => ?_); conv => whnf) | (refine .quiet (by kernel_rfl) ?_; conv => whnf))
      have hM8 : ∀ m, (rawTo l 0 m).length ≤ m := fun m => by rw [hraw, List.length_map, List.length_take]; omega
      refine loop_up (cxOk _ _) l.length (fun i => ∀ j, j < i → ∀ n, n < (l.getD j j0).fav.length → ∃ k, k < l.length ∧ (l.getD k j0).name = (l.getD j j0).fav.getD n []) (fun i => ⟨[(0, encJs l), (1, encIs days), (6, .map 0), (12, .ptr 1 0), (82, encJs l), (83, .int .i64 l.length), (84, .int .i64 (i : Nat))], [(0, .smap encI 0 M), (1, .cells 69 [.own 2, encIs days]), (2, .row 23 1 encIs [] (nextTo l i))], 3⟩) (by intro j hj; omega) ((wk_of [(0, .id 0), (1, .id 1), (2, .nil)] rfl ⟨.base (.tree _ _ rfl rfl), .base (.tree _ _ rfl rfl), .base (.map _ _ rfl), .base (.ptr _ _ _ rfl), .base (.tree _ _ rfl rfl), .base (.tree _ _ rfl rfl), .base (.tree _ _ rfl rfl), trivial⟩ ⟨⟨_, rfl, (by first | exact .smap _ _ _ _ _ rfl rfl | exact .newsmap _ _ _ _ _ _ _ rfl rfl rfl)⟩, ⟨_, rfl, .cells _ _ _ _ rfl (by repeat (first | exact .nil | refine .cons (by first | exact .base (.tree _ _ rfl rfl) | exact .base (.own _ _ rfl) | exact .base (.ptr _ _ _ rfl) | exact .base (.map _ _ rfl) | exact .base (.nilown _ rfl)) ?_)) rfl⟩, ⟨_, rfl, (by first | exact .row _ _ _ _ _ _ _ rfl rfl | exact .lstrow _ _ _ _ _ _ _ rfl rfl | exact .nilrow _ _ _ _ _ rfl | exact .truncrow _ _ _ _ _ _ _ _ rfl (by omega) rfl)⟩, trivial⟩)) ?_
      intro i hi hP2
      conv => whnf
      refine ⟨fun hd2 => ?_, fun hd2 => ?_⟩
      · simp only [decide_eq_true_eq] at hd2
        have hlt : i < l.length := by omega
        have e1 : l.getD (i : Int).toNat j0 = l.getD i j0 := by rw [Int.toNat_natCast]
        have hNi := hNs i
        have hRi := hRf i hlt
        have hraw' := hraw i
        have hnl : (nextTo l i).length = i := by unfold nextTo; simp
        generalize hx : l.getD i j0 = x at *
        generalize hN : nextTo l i = N at *
        generalize hN' : nextTo l (i + 1) = N' at *
        generalize hW : rawTo l i = Wr at *
        have hr0 : Wr 0 = [] := by rw [hraw']; simp
        have hrs : ∀ m, m < x.fav.length → Wr (m + 1) = Wr m ++ [(mget M (x.fav.getD m [])).getD 0] := fun m hm => by
          rw [hraw', hraw', take_getD (d := []) hm, List.map_append]; rfl
        have hrl : ∀ m, (Wr m).length ≤ m := fun m => by rw [hraw', List.length_map, List.length_take]; omega
        conv => whnf
        repeat (first | (refine And.intro ⟨by omega, by omega⟩ ?_; conv => whnf) | (refine And.intro (by omega) (And.intro rfl ?_); conv => whnf) | (refine And.intro rfl ?_; conv => whnf) | (refine And.intro (fun _ => ⟨by omega, by omega⟩) ?_; conv => whnf) | (refine And.intro (fun _ => by omega) (And.intro rfl ?_); conv => whnf) | (refine And.intro ⟨(by first | omega | (simp; omega)), (by first | omega | (simp; omega))⟩ ?_; conv => whnf) | (refine Exists.intro _ (And.intro rfl (And.intro (by first | omega | (simp; omega)) (And.intro ⟨rfl, rfl, rfl, rfl, rfl⟩ ?_))); conv => whnf) | (refine And.intro ⟨rfl, rfl⟩ (And.intro (by first | omega | (simp; omega)) ?_); conv => whnf) | (refine Exists.intro _ (And.intro rfl ?_); conv => whnf) | (refine And.intro (fun _ => ?_) (fun h => absurd h (by decide)); conv => whnf) | (refine And.intro (fun h => absurd h (by decide)) (fun _ => ?_); conv => whnf) | (refine .eff (by first | exact cxOk _ _ | exact cxPOk _ _ _) ?_; conv => whnf))
        rw [e1]
        conv => whnf
        repeat (first | (refine And.intro ⟨by omega, by omega⟩ ?_; conv => whnf) | (refine And.intro (by omega) (And.intro rfl ?_); conv => whnf) | (refine And.intro rfl ?_; conv => whnf) | (refine And.intro (fun _ => ⟨by omega, by omega⟩) ?_; conv => whnf) | (refine And.intro (fun _ => by omega) (And.intro rfl ?_); conv => whnf) | (refine And.intro ⟨(by first | omega | (simp; omega)), (by first | omega | (simp; omega))⟩ ?_; conv => whnf) | (refine Exists.intro _ (And.intro rfl (And.intro (by first | omega | (simp; omega)) (And.intro ⟨rfl, rfl, rfl, rfl, rfl⟩ ?_))); conv => whnf) | (refine And.intro ⟨rfl, rfl⟩ (And.intro (by first | omega | (simp; omega)) ?_); conv => whnf) | (refine Exists.intro _ (And.intro rfl ?_); conv => whnf) | (refine And.intro (fun _ => ?_) (fun h => absurd h (by decide)); conv => whnf) | (refine And.intro (fun h => absurd h (by decide)) (fun _ => ?_); conv => whnf) | (refine .eff (by first | exact cxOk _ _ | exact cxPOk _ _ _) ?_; conv => whnf))
        refine loop_up (cxOk _ _) x.fav.length (fun m => ∀ n, n < m → ∃ k, k < l.length ∧ (l.getD k j0).name = x.fav.getD n []) (fun m => ⟨[(0, encJs l), (1, encIs days), (6, .map 0), (12, .ptr 1 0), (15, .own 3), (82, encJs l), (83, .int .i64 l.length), (84, .int .i64 (i : Nat)), (89, .sl 1 encS [] x.fav), (90, .int .i64 x.fav.length), (91, .int .i64 (m : Nat))], [(0, .smap encI 0 M), (1, .cells 69 [.own 2, encIs days]), (2, .row 23 1 encIs [] N), (3, .row 3 1 encI 0 (Wr m))], 4⟩) (by intro j hj; omega) (by rw [hr0]; exact (wk_of [(0, .id 0), (1, .id 1), (2, .id 2), (3, .nil)] rfl ⟨.base (.tree _ _ rfl rfl), .base (.tree _ _ rfl rfl), .base (.map _ _ rfl), .base (.ptr _ _ _ rfl), (by first | exact .base (.own _ _ rfl) | exact .base (.nilown _ rfl) | exact .base (.trunc _ _ _ rfl)), .base (.tree _ _ rfl rfl), .base (.tree _ _ rfl rfl), .base (.tree _ _ rfl rfl), .base (.tree _ _ rfl rfl), .base (.tree _ _ rfl rfl), .base (.tree _ _ rfl rfl), trivial⟩ ⟨⟨_, rfl, (by first | exact .smap _ _ _ _ _ rfl rfl | exact .newsmap _ _ _ _ _ _ _ rfl rfl rfl)⟩, ⟨_, rfl, .cells _ _ _ _ rfl (by repeat (first | exact .nil | refine .cons (by first | exact .base (.tree _ _ rfl rfl) | exact .base (.own _ _ rfl) | exact .base (.ptr _ _ _ rfl) | exact .base (.map _ _ rfl) | exact .base (.nilown _ rfl)) ?_)) rfl⟩, ⟨_, rfl, (by first | exact .row _ _ _ _ _ _ _ rfl rfl | exact .lstrow _ _ _ _ _ _ _ rfl rfl | exact .nilrow _ _ _ _ _ rfl | exact .truncrow _ _ _ _ _ _ _ _ rfl (by omega) rfl)⟩, ⟨_, rfl, (by first | exact .row _ _ _ _ _ _ _ rfl rfl | exact .lstrow _ _ _ _ _ _ _ rfl rfl | exact .nilrow _ _ _ _ _ rfl | exact .truncrow _ _ _ _ _ _ _ _ rfl (by omega) rfl)⟩, trivial⟩)) ?_
        intro m hm hP3
        conv => whnf
        refine ⟨fun hd3 => ?_, fun hd3 => ?_⟩
        · simp only [decide_eq_true_eq] at hd3
          have hlm : m < x.fav.length := by omega
          have e3 : x.fav.getD (m : Int).toNat [] = x.fav.getD m [] := by rw [Int.toNat_natCast]
          have hrm := hrs m hlm
          have hlw := hrl m
          generalize hs : x.fav.getD m [] = s at *
          conv => whnf
          repeat (first | (refine And.intro ⟨by omega, by omega⟩ ?_; conv => whnf) | (refine And.intro (by omega) (And.intro rfl ?_); conv => whnf) | (refine And.intro rfl ?_; conv => whnf) | (refine And.intro (fun _ => ⟨by omega, by omega⟩) ?_; conv => whnf) | (refine And.intro (fun _ => by omega) (And.intro rfl ?_); conv => whnf) | (refine And.intro ⟨(by first | omega | (simp; omega)), (by first | omega | (simp; omega))⟩ ?_; conv => whnf) | (refine Exists.intro _ (And.intro rfl (And.intro (by first | omega | (simp; omega)) (And.intro ⟨rfl, rfl, rfl, rfl, rfl⟩ ?_))); conv => whnf) | (refine And.intro ⟨rfl, rfl⟩ (And.intro (by first | omega | (simp; omega)) ?_); conv => whnf) | (refine Exists.intro _ (And.intro rfl ?_); conv => whnf) | (refine And.intro (fun _ => ?_) (fun h => absurd h (by decide)); conv => whnf) | (refine And.intro (fun h => absurd h (by decide)) (fun _ => ?_); conv => whnf) | (refine .quiet (by kernel_rfl) ?_; conv => whnf))
          rw [e3]
          cases hg : mget M s with
          | none =>
            have hK : ¬ Known l := by
              intro h
              obtain ⟨k, h1, h2⟩ := h i hlt m (by rw [hx]; exact hlm)
              rw [hx, hs] at h2
              exact hnone hg k h1 h2
            have hE : errE l days = 11 := by unfold errE; rw [if_pos hR, if_pos hO, if_neg hK]
            conv => whnf
            repeat (first | (refine And.intro ⟨by omega, by omega⟩ ?_; conv => whnf) | (refine And.intro (by omega) (And.intro rfl ?_); conv => whnf) | (refine And.intro rfl ?_; conv => whnf) | (refine And.intro (fun _ => ⟨by omega, by omega⟩) ?_; conv => whnf) | (refine And.intro (fun _ => by omega) (And.intro rfl ?_); conv => whnf) | (refine And.intro ⟨(by first | omega | (simp; omega)), (by first | omega | (simp; omega))⟩ ?_; conv => whnf) | (refine Exists.intro _ (And.intro rfl (And.intro (by first | omega | (simp; omega)) (And.intro ⟨rfl, rfl, rfl, rfl, rfl⟩ ?_))); conv => whnf) | (refine And.intro ⟨rfl, rfl⟩ (And.intro (by first | omega | (simp; omega)) ?_); conv => whnf) | (refine Exists.intro _ (And.intro rfl ?_); conv => whnf) | (refine And.intro (fun _ => ?_) (fun h => absurd h (by decide)); conv => whnf) | (refine And.intro (fun h => absurd h (by decide)) (fun _ => ?_); conv => whnf) | (refine .quiet (by kernel_rfl) ?_; conv => whnf))
            refine ⟨_, Wk.refl _, ?_⟩
            conv => whnf
            rw [hE]
            rfl
          | some v =>
            rw [hg] at hrm
            conv => whnf
            repeat (first | (refine And.intro ⟨by omega, by omega⟩ ?_; conv => whnf) | (refine And.intro (by omega) (And.intro rfl ?_); conv => whnf) | (refine And.intro rfl ?_; conv => whnf) | (refine And.intro (fun _ => ⟨by omega, by omega⟩) ?_; conv => whnf) | (refine And.intro (fun _ => by omega) (And.intro rfl ?_); conv => whnf) | (refine And.intro ⟨(by first | omega | (simp; omega)), (by first | omega | (simp; omega))⟩ ?_; conv => whnf) | (refine Exists.intro _ (And.intro rfl (And.intro (by first | omega | (simp; omega)) (And.intro ⟨rfl, rfl, rfl, rfl, rfl⟩ ?_))); conv => whnf) | (refine And.intro ⟨rfl, rfl⟩ (And.intro (by first | omega | (simp; omega)) ?_); conv => whnf) | (refine Exists.intro _ (And.intro rfl ?_); conv => whnf) | (refine And.intro (fun _ => ?_) (fun h => absurd h (by decide)); conv => whnf) | (refine And.intro (fun h => absurd h (by decide)) (fun _ => ?_); conv => whnf) | (refine .quiet (by kernel_rfl) ?_; conv => whnf))
            refine ⟨fun he5 => ?_, fun he5 => ?_⟩
            · cases he5
            conv => whnf
            repeat (first | (refine And.intro ⟨by omega, by omega⟩ ?_; conv => whnf) | (refine And.intro (by omega) (And.intro rfl ?_); conv => whnf) | (refine And.intro rfl ?_; conv => whnf) | (refine And.intro (fun _ => ⟨by omega, by omega⟩) ?_; conv => whnf) | (refine And.intro (fun _ => by omega) (And.intro rfl ?_); conv => whnf) | (refine And.intro ⟨(by first | omega | (simp; omega)), (by first | omega | (simp; omega))⟩ ?_; conv => whnf) | (refine Exists.intro _ (And.intro rfl (And.intro (by first | omega | (simp; omega)) (And.intro ⟨rfl, rfl, rfl, rfl, rfl⟩ ?_))); conv => whnf) | (refine And.intro ⟨rfl, rfl⟩ (And.intro (by first | omega | (simp; omega)) ?_); conv => whnf) | (refine Exists.intro _ (And.intro rfl ?_); conv => whnf) | (refine And.intro (fun _ => ?_) (fun h => absurd h (by decide)); conv => whnf) | (refine And.intro (fun h => absurd h (by decide)) (fun _ => ?_); conv => whnf) | (refine .quiet (by kernel_rfl) ?_; conv => whnf))
            refine And.intro ⟨rfl, rfl⟩ (And.intro (show ((Wr m).length + 1) * 8 ≤ 140737488355328 by omega) ?_)
            conv => whnf
            refine ⟨v, rfl, ?_⟩
            conv => whnf
            repeat (first | (refine And.intro ⟨by omega, by omega⟩ ?_; conv => whnf) | (refine And.intro (by omega) (And.intro rfl ?_); conv => whnf) | (refine And.intro rfl ?_; conv => whnf) | (refine And.intro (fun _ => ⟨by omega, by omega⟩) ?_; conv => whnf) | (refine And.intro (fun _ => by omega) (And.intro rfl ?_); conv => whnf) | (refine And.intro ⟨(by first | omega | (simp; omega)), (by first | omega | (simp; omega))⟩ ?_; conv => whnf) | (refine Exists.intro _ (And.intro rfl (And.intro (by first | omega | (simp; omega)) (And.intro ⟨rfl, rfl, rfl, rfl, rfl⟩ ?_))); conv => whnf) | (refine And.intro ⟨rfl, rfl⟩ (And.intro (by first | omega | (simp; omega)) ?_); conv => whnf) | (refine Exists.intro _ (And.intro rfl ?_); conv => whnf) | (refine And.intro (fun _ => ?_) (fun h => absurd h (by decide)); conv => whnf) | (refine And.intro (fun h => absurd h (by decide)) (fun _ => ?_); conv => whnf) | (refine .quiet (by kernel_rfl) ?_; conv => whnf))

            refine up hlm (fun n hn => ?_) ((wk_of [(0, .id 0), (1, .id 1), (2, .id 2), (3, .id 5)] rfl ⟨.base (.tree _ _ rfl rfl), .base (.tree _ _ rfl rfl), .base (.map _ _ rfl), .base (.ptr _ _ _ rfl), (by first | exact .base (.own _ _ rfl) | exact .base (.nilown _ rfl) | exact .base (.trunc _ _ _ rfl)), .base (.tree _ _ rfl rfl), .base (.tree _ _ rfl rfl), .base (.tree _ _ rfl rfl), .base (.tree _ _ rfl rfl), .base (.tree _ _ rfl rfl), .base (.tree _ _ rfl rfl), trivial⟩ ⟨⟨_, rfl, (by first | exact .smap _ _ _ _ _ rfl rfl | exact .newsmap _ _ _ _ _ _ _ rfl rfl rfl)⟩, ⟨_, rfl, .cells _ _ _ _ rfl (by repeat (first | exact .nil | refine .cons (by first | exact .base (.tree _ _ rfl rfl) | exact .base (.own _ _ rfl) | exact .base (.ptr _ _ _ rfl) | exact .base (.map _ _ rfl) | exact .base (.nilown _ rfl)) ?_)) rfl⟩, ⟨_, rfl, (by first | exact .row _ _ _ _ _ _ _ rfl rfl | exact .lstrow _ _ _ _ _ _ _ rfl rfl | exact .nilrow _ _ _ _ _ rfl | exact .truncrow _ _ _ _ _ _ _ _ rfl (by omega) rfl)⟩, ⟨_, rfl, (by first | exact .row _ _ _ _ _ _ _ rfl (hrm.symm) | exact .lstrow _ _ _ _ _ _ _ rfl (hrm.symm) | exact .nilrow _ _ _ _ _ (hrm.symm) | exact .truncrow _ _ _ _ _ _ _ _ rfl (by omega) (hrm.symm))⟩, trivial⟩))
            by_cases e : n = m
            · subst e
              obtain ⟨k, h1, _, h3⟩ := hsome hg
              exact ⟨k, h1, by rw [h3, hs]⟩
            · exact hP3 n (by omega)
        · simp only [decide_eq_false_iff_not] at hd3
          obtain rfl : m = x.fav.length := by omega
          have hlw := hrl x.fav.length
          have hsc : sc (Wr x.fav.length) = Go.Lib.compact ((Wr x.fav.length).mergeSort leZ) := rfl
          have hMl : ((Wr x.fav.length).mergeSort leZ).length ≤ 20 := by rw [List.length_mergeSort]; omega
          have hCl := compact_len ((Wr x.fav.length).mergeSort leZ)
          conv => whnf
          refine .raw _ _ rfl (fun h => by cases h) (sort_c rfl (by omega)) ?_
          rintro r rfl
          refine ⟨Nat.le_refl _, ?_⟩
          conv => whnf
          repeat (first | (refine And.intro ⟨by omega, by omega⟩ ?_; conv => whnf) | (refine And.intro (by omega) (And.intro rfl ?_); conv => whnf) | (refine And.intro rfl ?_; conv => whnf) | (refine And.intro (fun _ => ⟨by omega, by omega⟩) ?_; conv => whnf) | (refine And.intro (fun _ => by omega) (And.intro rfl ?_); conv => whnf) | (refine And.intro ⟨(by first | omega | (simp; omega)), (by first | omega | (simp; omega))⟩ ?_; conv => whnf) | (refine Exists.intro _ (And.intro rfl (And.intro (by first | omega | (simp; omega)) (And.intro ⟨rfl, rfl, rfl, rfl, rfl⟩ ?_))); conv => whnf) | (refine And.intro ⟨rfl, rfl⟩ (And.intro (by first | omega | (simp; omega)) ?_); conv => whnf) | (refine Exists.intro _ (And.intro rfl ?_); conv => whnf) | (refine And.intro (fun _ => ?_) (fun h => absurd h (by decide)); conv => whnf) | (refine And.intro (fun h => absurd h (by decide)) (fun _ => ?_); conv => whnf) | (refine .eff (by first | exact cxOk _ _ | exact cxPOk _ _ _) ?_; conv => whnf))
          refine .raw [3] _ rfl (fun _ => ⟨⟨_, [3], _, _⟩, fun r' => Iff.rfl, rfl⟩) (compact_c (xs := (Wr x.fav.length).mergeSort leZ) rfl (by omega)) ?_
          rintro r rfl
          refine ⟨Nat.le_refl _, ?_⟩
          conv => whnf
          repeat (first | (refine And.intro ⟨by omega, by omega⟩ ?_; conv => whnf) | (refine And.intro (by omega) (And.intro rfl ?_); conv => whnf) | (refine And.intro rfl ?_; conv => whnf) | (refine And.intro (fun _ => ⟨by omega, by omega⟩) ?_; conv => whnf) | (refine And.intro (fun _ => by omega) (And.intro rfl ?_); conv => whnf) | (refine And.intro ⟨(by first | omega | (simp; omega)), (by first | omega | (simp; omega))⟩ ?_; conv => whnf) | (refine Exists.intro _ (And.intro rfl (And.intro (by first | omega | (simp; omega)) (And.intro ⟨rfl, rfl, rfl, rfl, rfl⟩ ?_))); conv => whnf) | (refine And.intro ⟨rfl, rfl⟩ (And.intro (by first | omega | (simp; omega)) ?_); conv => whnf) | (refine Exists.intro _ (And.intro rfl ?_); conv => whnf) | (refine And.intro (fun _ => ?_) (fun h => absurd h (by decide)); conv => whnf) | (refine And.intro (fun h => absurd h (by decide)) (fun _ => ?_); conv => whnf) | (refine .quiet (by kernel_rfl) ?_; conv => whnf))
          refine ⟨⟨rfl, rfl⟩, (show (N.length + 1) * 24 ≤ 140737488355328 by omega), ?_⟩
          conv => whnf
          refine ⟨sc (Wr x.fav.length), (by
            show AV.sl 1 encI 0 _ = AV.sl 1 encI 0 (List.take _ (_ ++ _))
            rw [List.take_left]
            rfl), ?_⟩
          conv => whnf
          repeat (first | (refine And.intro ⟨by omega, by omega⟩ ?_; conv => whnf) | (refine And.intro (by omega) (And.intro rfl ?_); conv => whnf) | (refine And.intro rfl ?_; conv => whnf) | (refine And.intro (fun _ => ⟨by omega, by omega⟩) ?_; conv => whnf) | (refine And.intro (fun _ => by omega) (And.intro rfl ?_); conv => whnf) | (refine And.intro ⟨(by first | omega | (simp; omega)), (by first | omega | (simp; omega))⟩ ?_; conv => whnf) | (refine Exists.intro _ (And.intro rfl (And.intro (by first | omega | (simp; omega)) (And.intro ⟨rfl, rfl, rfl, rfl, rfl⟩ ?_))); conv => whnf) | (refine And.intro ⟨rfl, rfl⟩ (And.intro (by first | omega | (simp; omega)) ?_); conv => whnf) | (refine Exists.intro _ (And.intro rfl ?_); conv => whnf) | (refine And.intro (fun _ => ?_) (fun h => absurd h (by decide)); conv => whnf) | (refine And.intro (fun h => absurd h (by decide)) (fun _ => ?_); conv => whnf) | (refine .quiet (by kernel_rfl) ?_; conv => whnf))
          refine ⟨by kernel_rfl, ?_⟩
          conv => whnf
          refine And.intro ⟨by omega, by omega⟩ ?_
          conv => whnf
          refine up hlt (fun j hj => ?_) ((wk_of [(0, .id 0), (1, .id 1), (2, .id 5)] rfl ⟨.base (.tree _ _ rfl rfl), .base (.tree _ _ rfl rfl), .base (.map _ _ rfl), .base (.ptr _ _ _ rfl), .base (.tree _ _ rfl rfl), .base (.tree _ _ rfl rfl), .base (.tree _ _ rfl rfl), trivial⟩ ⟨⟨_, rfl, (by first | exact .smap _ _ _ _ _ rfl rfl | exact .newsmap _ _ _ _ _ _ _ rfl rfl rfl)⟩, ⟨_, rfl, .cells _ _ _ _ rfl (by repeat (first | exact .nil | refine .cons (by first | exact .base (.tree _ _ rfl rfl) | exact .base (.own _ _ rfl) | exact .base (.ptr _ _ _ rfl) | exact .base (.map _ _ rfl) | exact .base (.nilown _ rfl)) ?_)) rfl⟩, ⟨_, rfl, (by first | exact .row _ _ _ _ _ _ _ rfl (hNi.symm.trans hN'.symm) | exact .lstrow _ _ _ _ _ _ _ rfl (hNi.symm.trans hN'.symm) | exact .nilrow _ _ _ _ _ (hNi.symm.trans hN'.symm) | exact .truncrow _ _ _ _ _ _ _ _ rfl (by omega) (hNi.symm.trans hN'.symm))⟩, trivial⟩))
          by_cases e : j = i
          · subst e; rw [hx]; exact hP3
          · exact hP2 j (by omega)
      · simp only [decide_eq_false_iff_not] at hd2
        obtain rfl : i = l.length := by omega
        have hK : Known l := hP2
        have hE : errE l days = 0 := by unfold errE; rw [if_pos hR, if_pos hO, if_pos hK]
        rw [next_eq hO hK]
        conv => whnf
        refine ⟨_, wk_frz [2], ?_⟩
        conv => whnf
        rw [hE]
        rfl

end Go.Proofs.Ytcabodhhdeecgaa
