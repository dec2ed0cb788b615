/-
  Favour, the plain law: one more favour; a later text; none at all; one day for all.
-/
import Derived.Test.YtcabodhhdeecgaaF5
namespace Go.Proofs.Ytcabodhhdeecgaa
open Go.Own Go.Proofs.Fav

theorem getD_setJ (l : List J) (i j : Nat) (v : J) : (l.set i v).getD j j0 = if i = j ∧ i < l.length then v else l.getD j j0 := by
  rw [List.getD_eq_getElem?_getD, List.getElem?_set]
  by_cases e : i = j
  · subst e
    by_cases h : i < l.length
    · simp [h]
    · simp [h, List.getD_eq_getElem?_getD]
  · rw [if_neg e, if_neg (fun h => e h.1), List.getD_eq_getElem?_getD]
theorem getD_setI (l : List Int) (i j : Nat) (v : Int) : (l.set i v).getD j 0 = if i = j ∧ i < l.length then v else l.getD j 0 := by
  rw [List.getD_eq_getElem?_getD, List.getElem?_set]
  by_cases e : i = j
  · subst e
    by_cases h : i < l.length
    · simp [h]
    · simp [h, List.getD_eq_getElem?_getD]
  · rw [if_neg e, if_neg (fun h => e h.1), List.getD_eq_getElem?_getD]

theorem heldTo_le {l l' : List J} {B B' : Nat → List Nat × Int} (hc : ∀ k, (l.getD k j0).ncov = (l'.getD k j0).ncov) : ∀ n, (∀ k, k < n → (B k).1 ≠ [] → (B' k).1 ≠ []) → (heldTo l B n).length ≤ (heldTo l' B' n).length
  | 0, _ => by simp [heldTo]
  | n + 1, h => by
    rw [heldTo_succ, heldTo_succ, List.length_append, List.length_append, heldK_len, heldK_len, hc n]
    have := heldTo_le (l := l) (l' := l') hc n fun k hk => h k (by omega)
    have h2 := h n (by omega)
    split
    · split <;> omega
    · rename_i h3
      rw [if_neg (h2 h3)]
      omega

theorem getDs_snoc (a : List (List UInt8)) (s : List UInt8) (n : Nat) : (a ++ [s]).getD n [] = if n < a.length then a.getD n [] else if n = a.length then s else [] := by
  rw [List.getD_eq_getElem?_getD, List.getD_eq_getElem?_getD]
  by_cases h : n < a.length
  · rw [if_pos h, List.getElem?_append_left h]
  · rw [if_neg h, List.getElem?_append_right (by omega)]
    by_cases e : n = a.length
    · rw [if_pos e, e, Nat.sub_self]; rfl
    · rw [if_neg e, List.getElem?_eq_none (by simp; omega)]; rfl

/-- Names and covenants are the same; a further favour at most. -/
structure Wider (l l' : List J) : Prop where
  len : l'.length = l.length
  name : ∀ k, (l'.getD k j0).name = (l.getD k j0).name
  cov : ∀ k, (l'.getD k j0).ncov = (l.getD k j0).ncov
  fav : ∀ k s, s ∈ (l.getD k j0).fav → s ∈ (l'.getD k j0).fav

theorem Wider.ch {l l' : List J} (h : Wider l l') {days : List Int} {most : Int} {i k : Nat} {c : List Nat} (hc : Ch l days most i k c) : Ch l' days most i k c := by
  have hv : ∀ {k}, inV l days most k → inV l' days most k := fun hv => ⟨by rw [h.len]; exact hv.1, hv.2⟩
  induction hc with
  | one h1 => exact .one (hv h1)
  | snoc _ ha hk ih => exact .snoc ih (fv_of.2 (by rw [h.name]; exact h.fav _ _ (fv_of.1 ha))) (hv hk)

def addFav (x : J) (s : List UInt8) : J := ⟨x.name, x.ncov, x.fav ++ [s]⟩
def moreL (l : List J) (i k : Nat) : List J := l.set i (addFav (l.getD i j0) (l.getD k j0).name)
theorem more_get (l : List J) (i k j : Nat) : (moreL l i k).getD j j0 = if i = j ∧ i < l.length then addFav (l.getD i j0) (l.getD k j0).name else l.getD j j0 := getD_setJ _ _ _ _
theorem more_wider (l : List J) (i k : Nat) : Wider l (moreL l i k) := by
  refine ⟨by unfold moreL; simp, fun j => ?_, fun j => ?_, fun j s hs => ?_⟩
  · rw [more_get]
    split
    · rename_i h; rw [← h.1]; rfl
    · rfl
  · rw [more_get]
    split
    · rename_i h; rw [← h.1]; rfl
    · rfl
  · rw [more_get]
    split
    · rename_i h
      rw [← h.1] at hs
      exact List.mem_append.2 (.inl hs)
    · exact hs

theorem more_err {l : List J} {days : List Int} (h : errE l days = 0) {i k : Nat} (hi : i < l.length) (hk : k < l.length) (h6 : (l.getD i j0).fav.length ≤ 6) : errE (moreL l i k) days = 0 := by
  have hw := more_wider l i k
  unfold errE at h
  split at h
  · rename_i h1
    split at h
    · rename_i h2
      split at h
      · rename_i h3
        have e1 : Right (moreL l i k) days := by
          refine ⟨by rw [hw.len]; exact h1.len, by rw [hw.len]; exact h1.same, fun j hj => ?_⟩
          rw [hw.len] at hj
          have hb := h1.each j hj
          rw [more_get]
          split
          · rename_i hij
            obtain ⟨rfl, _⟩ := hij
            unfold badJ at hb ⊢
            simp only [Bool.or_eq_false_iff, decide_eq_false_iff_not] at hb ⊢
            refine ⟨hb.1, ?_⟩
            unfold addFav
            simp only [List.length_append, List.length_singleton]
            omega
          · exact hb
        have e2 : Once (moreL l i k) := by
          intro a ha b hb
          rw [hw.name, hw.name]
          exact h2 a (by rw [hw.len] at ha; exact ha) b hb
        have e3 : Known (moreL l i k) := by
          intro a ha n hn
          rw [hw.len] at ha ⊢
          rw [more_get] at hn ⊢
          split at hn
          · rename_i hia
            rw [if_pos hia]
            unfold addFav at hn ⊢
            simp only [List.length_append, List.length_singleton] at hn
            by_cases e : n < (l.getD i j0).fav.length
            · obtain ⟨q, g1, g2⟩ := h3 i hi n e
              refine ⟨q, g1, ?_⟩
              rw [hw.name, g2, getDs_snoc, if_pos e]
            · refine ⟨k, hk, ?_⟩
              rw [hw.name, getDs_snoc, if_neg e, if_pos (by omega)]
          · rename_i hia
            rw [if_neg hia]
            obtain ⟨q, g1, g2⟩ := h3 a ha n hn
            exact ⟨q, g1, by rw [hw.name]; exact g2⟩
        unfold errE
        rw [if_pos e1, if_pos e2, if_pos e3]
      · omega
    · omega
  · omega

/-- What the one text holds, the wider one holds, not later. -/
theorem wider_S {l l' : List J} (h : Wider l l') {days st : List Int} (hs : Stp l days st) {i k : Nat} (hi : i < l.length) (hS : (S l days st i k).1 ≠ []) : (S l' days st i k).1 ≠ [] ∧ (S l' days st i k).2 ≤ (S l days st i k).2 :=
  S_of ⟨hs.asc, hs.mem, by rw [h.len]; exact hs.len⟩ (h.ch (S_some hs hi hS).2.1)

/-- Days that are not earlier. -/
theorem late_S {l : List J} {days days' st st' : List Int} (hs : Stp l days st) (hs' : Stp l days' st') (hle : ∀ k, k < l.length → days.getD k 0 ≤ days'.getD k 0) {i k : Nat} (hi : i < l.length) :
    ((S l days' st' i k).1 ≠ [] ↔ (S l days st i k).1 ≠ []) ∧ ((S l days st i k).1 ≠ [] → (S l days st i k).2 ≤ (S l days' st' i k).2) := by
  have hback : (S l days' st' i k).1 ≠ [] → (S l days st i k).1 ≠ [] ∧ (S l days st i k).2 ≤ (S l days' st' i k).2 := fun h => by
    have hc := (S_some hs' hi h).2.1
    exact S_of hs (hc.mono fun x _ hx => ⟨hx.1, Int.le_trans (hle x hx.1) hx.2⟩)
  have hforth : (S l days st i k).1 ≠ [] → (S l days' st' i k).1 ≠ [] := fun h => by
    have hc := (S_some hs hi h).2.1
    -- a day by which all of them are there
    have hall : ∃ M : Int, ∀ x, x < l.length → days'.getD x 0 ≤ M := by
      have : ∀ n, ∃ M : Int, ∀ x, x < n → days'.getD x 0 ≤ M := by
        intro n
        induction n with
        | zero => exact ⟨0, fun x hx => by omega⟩
        | succ n ih =>
          obtain ⟨M, hM⟩ := ih
          refine ⟨max M (days'.getD n 0), fun x hx => ?_⟩
          by_cases e : x = n
          · subst e; exact Int.le_max_right _ _
          · exact Int.le_trans (hM x (by omega)) (Int.le_max_left _ _)
      exact this l.length
    obtain ⟨M, hM⟩ := hall
    exact (S_of hs' (hc.mono (most' := M) fun x _ hx => ⟨hx.1, hM x hx.1⟩)).1
  exact ⟨⟨fun h => (hback h).1, hforth⟩, fun h => (hback (hforth h)).2⟩

def lateD (days : List Int) (k : Nat) (by_ : Int) : List Int := days.set k (min (days.getD k 0 + by_) 200000)
theorem late_get (days : List Int) (k : Nat) (b : Int) (j : Nat) : (lateD days k b).getD j 0 = if k = j ∧ k < days.length then min (days.getD k 0 + b) 200000 else days.getD j 0 := getD_setI _ _ _ _

theorem err_days {l : List J} {days days' : List Int} (h : errE l days = 0) (hl : days'.length = l.length) (hd : ∀ k, k < l.length → 0 ≤ days'.getD k 0 ∧ days'.getD k 0 ≤ 200000) : errE l days' = 0 := by
  unfold errE at h
  split at h
  · rename_i h1
    have e1 : Right l days' := by
      refine ⟨h1.len, hl, fun j hj => ?_⟩
      have hb := h1.each j hj
      have := hd j hj
      unfold badJ at hb ⊢
      simp only [Bool.or_eq_false_iff, decide_eq_false_iff_not] at hb ⊢
      omega
    unfold errE
    rw [if_pos e1]
    exact h
  · omega

theorem late_ok {l : List J} {days : List Int} (hR : Right l days) {k : Nat} {b : Int} (hb : 0 ≤ b) : (lateD days k b).length = l.length ∧ (∀ j, j < l.length → 0 ≤ (lateD days k b).getD j 0 ∧ (lateD days k b).getD j 0 ≤ 200000) ∧ ∀ j, j < l.length → days.getD j 0 ≤ (lateD days k b).getD j 0 := by
  refine ⟨by unfold lateD; rw [List.length_set]; exact hR.same, fun j hj => ?_, fun j hj => ?_⟩
  · have := (right_of hR hj).1
    rw [late_get]
    split
    · rename_i h
      rw [h.1]
      omega
    · exact this
  · have := (right_of hR hj).1
    rw [late_get]
    split
    · rename_i h
      rw [h.1]
      omega
    · exact Int.le_refl _

/-! ### Without favours; on one day -/

def bareL (l : List J) : List J := l.map fun x => ⟨x.name, x.ncov, []⟩
theorem bare_get (l : List J) (k : Nat) : (bareL l).getD k j0 = ⟨(l.getD k j0).name, (l.getD k j0).ncov, []⟩ := by
  unfold bareL
  rw [List.getD_eq_getElem?_getD, List.getElem?_map, List.getD_eq_getElem?_getD]
  cases l[k]? <;> rfl
theorem bare_len (l : List J) : (bareL l).length = l.length := by unfold bareL; simp
theorem bare_err {l : List J} {days : List Int} (h : errE l days = 0) : errE (bareL l) days = 0 := by
  unfold errE at h
  split at h
  · rename_i h1
    split at h
    · rename_i h2
      have e1 : Right (bareL l) days := by
        refine ⟨by rw [bare_len]; exact h1.len, by rw [bare_len]; exact h1.same, fun j hj => ?_⟩
        rw [bare_len] at hj
        have hb := h1.each j hj
        rw [bare_get]
        unfold badJ at hb ⊢
        simp only [Bool.or_eq_false_iff, decide_eq_false_iff_not] at hb ⊢
        refine ⟨hb.1, ?_⟩
        simp
      have e2 : Once (bareL l) := by
        intro a ha b hb
        rw [bare_get, bare_get]
        exact h2 a (by rw [bare_len] at ha; exact ha) b hb
      have e3 : Known (bareL l) := by
        intro a ha n hn
        rw [bare_get] at hn
        simp at hn
      unfold errE
      rw [if_pos e1, if_pos e2, if_pos e3]
    · omega
  · omega

theorem bare_S {l : List J} {days st : List Int} (hs : Stp (bareL l) days st) {i k : Nat} (hi : i < l.length) : ((S (bareL l) days st i k).1 ≠ [] ↔ k = i) ∧ S (bareL l) days st i i = ([i], days.getD i 0) := by
  have hi' : i < (bareL l).length := by rw [bare_len]; exact hi
  have key : ∀ k, (S (bareL l) days st i k).1 ≠ [] → (S (bareL l) days st i k).1 = [i] ∧ i = k := fun k h => by
    rcases S_split hs hi' h with h1 | ⟨n, c', _, _, hf, _⟩
    · exact h1
    · have := fv_of.1 hf
      rw [bare_get l i] at this
      simp at this
  obtain ⟨h1, h2⟩ := dayOf_own hs hi'
  refine ⟨⟨fun h => (key k h).2.symm, fun e => by rw [e]; exact h1⟩, ?_⟩
  rw [dayOf_eq h1] at h2
  exact Prod.ext (key i h1).1 h2

theorem bare_held {l : List J} {days st : List Int} (hs : Stp (bareL l) days st) {i : Nat} (hi : i < l.length) : held (bareL l) days st i = (List.range (l.getD i j0).ncov).map fun c => ⟨i, c, days.getD i 0, [i]⟩ := by
  have key : ∀ n, n ≤ (bareL l).length → heldTo (bareL l) (S (bareL l) days st i) n = if i < n then (List.range (l.getD i j0).ncov).map fun c => ⟨i, c, days.getD i 0, [i]⟩ else [] := by
    intro n
    induction n with
    | zero => intro _; simp [heldTo]
    | succ n ih =>
      intro hn
      rw [heldTo_succ, ih (by omega)]
      unfold heldK
      by_cases e : n = i
      · subst e
        rw [if_neg (Nat.lt_irrefl _), if_neg ((bare_S (k := n) hs hi).1.2 rfl), (bare_S (k := n) hs hi).2, if_pos (Nat.lt_succ_self _), bare_get]
        rfl
      · have : (S (bareL l) days st i n).1 = [] := Classical.byContradiction fun h => e ((bare_S hs hi).1.1 h)
        rw [if_pos this, List.append_nil]
        by_cases h2 : i < n
        · rw [if_pos h2, if_pos (by omega)]
        · rw [if_neg h2, if_neg (by omega)]
  have := key _ (Nat.le_refl _)
  rw [if_pos (by rw [bare_len]; exact hi)] at this
  exact this

def sameD (days : List Int) (d : Int) : List Int := List.replicate days.length d
theorem same_get {days : List Int} {d : Int} {k : Nat} (h : k < days.length) : (sameD days d).getD k 0 = d := by
  unfold sameD
  rw [List.getD_eq_getElem?_getD, List.getElem?_replicate, if_pos h]
  rfl
theorem same_S {l : List J} {days st st' : List Int} {d : Int} (hdl : days.length = l.length) (hs : Stp l days st) (hs' : Stp l (sameD days d) st') {i k : Nat} (hi : i < l.length) :
    ((S l (sameD days d) st' i k).1 ≠ [] ↔ (S l days st i k).1 ≠ []) ∧ ((S l (sameD days d) st' i k).1 ≠ [] → (S l (sameD days d) st' i k).2 = d) := by
  have hM : ∃ M : Int, ∀ x, x < l.length → days.getD x 0 ≤ M := by
    have : ∀ n, ∃ M : Int, ∀ x, x < n → days.getD x 0 ≤ M := by
      intro n
      induction n with
      | zero => exact ⟨0, fun x hx => by omega⟩
      | succ n ih =>
        obtain ⟨M, hM⟩ := ih
        refine ⟨max M (days.getD n 0), fun x hx => ?_⟩
        by_cases e : x = n
        · subst e; exact Int.le_max_right _ _
        · exact Int.le_trans (hM x (by omega)) (Int.le_max_left _ _)
    exact this l.length
  obtain ⟨M, hM⟩ := hM
  refine ⟨⟨fun h => ?_, fun h => ?_⟩, fun h => ?_⟩
  · exact (S_of hs ((S_some hs' hi h).2.1.mono (most' := M) fun x _ hx => ⟨hx.1, hM x hx.1⟩)).1
  · exact (S_of hs' ((S_some hs hi h).2.1.mono (days' := sameD days d) (most' := d) fun x _ hx => ⟨hx.1, by rw [same_get (by rw [hdl]; exact hx.1)]; exact Int.le_refl _⟩)).1
  · have h1 := (S_some hs' hi h).1
    unfold sameD at h1
    exact (List.mem_replicate.1 h1).2

/-- From a favoured issue no chain is shorter by more than one. -/
theorem same_short {l : List J} {days st' : List Int} {d : Int} (hdl : days.length = l.length) (hs' : Stp l (sameD days d) st') {i n k : Nat} (hi : i < l.length) (hn : n < l.length) (hf : fv l i n = true) (h : (S l (sameD days d) st' n k).1 ≠ []) (hik : (S l (sameD days d) st' i k).1 ≠ []) :
    (S l (sameD days d) st' i k).1.length ≤ (S l (sameD days d) st' n k).1.length + 1 := by
  obtain ⟨a1, a2, a3⟩ := S_some hs' hn h
  obtain ⟨b1, b2, b3⟩ := S_some hs' hi hik
  have e1 : (S l (sameD days d) st' n k).2 = d := (List.mem_replicate.1 a1).2
  have e2 : (S l (sameD days d) st' i k).2 = d := (List.mem_replicate.1 b1).2
  rw [e1] at a2
  have hc : Ch l (sameD days d) d i k (i :: (S l (sameD days d) st' n k).1) := .cons ⟨hi, by rw [same_get (by omega)]; exact Int.le_refl _⟩ hf a2
  rw [e2] at b3
  have := sle_len (b3 _ hc)
  rw [List.length_cons] at this
  exact this

end Go.Proofs.Ytcabodhhdeecgaa
