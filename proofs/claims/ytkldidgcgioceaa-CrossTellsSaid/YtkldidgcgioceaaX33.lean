import Derived.Test.YtkldidgcgioceaaX23
namespace Go.Proofs.Ytkldidgcgioceaa
open Go.Own
set_option maxHeartbeats 4000000
set_option maxRecDepth 100000

/-! ### The reference's Right -/
def bad2 (d : Debt) : Bool := (((((((decide (d.issuer < 0) || decide (60 ≤ d.issuer)) || decide (d.left < 0)) || decide (1000000000000000 < d.left)) || decide (d.over < -1)) || decide (1000000000000000 < d.over)) || decide (d.fast < -1)) || decide (200000 < d.fast))
theorem bad2_eq (d : Debt) : bad2 d = badD d := by
  unfold bad2 badD inB
  rw [Bool.eq_iff_iff]
  simp only [Bool.or_eq_true, Bool.not_eq_true', Bool.and_eq_false_iff, decide_eq_true_eq, decide_eq_false_iff_not]
  omega

theorem right2_ok (l : List Debt) (hl : l.length ≤ 9223372036854775807) : APureV Try.prog 24 [encDs l] (.bool (rightB l)) := by
  have hb1 : (400 : Int) < l.length → rightB l = false := fun h => by
    unfold rightB
    rw [show decide ((l.length : Int) ≤ 400) = false from decide_eq_false (by omega)]
    rfl
  have hb2 : ¬ (400 : Int) < l.length → rightB l = !l.any badD := fun h => by
    unfold rightB
    rw [show decide ((l.length : Int) ≤ 400) = true from decide_eq_true (by omega)]
    rfl
  generalize rightB l = b at *
  refine apure_of (C := cx 56 [0, 2, 3, 4, 7, 11, 55]) (cxOk _ _) Try.func24 rfl (by decide) rfl (by exact Nat.le_of_ble_eq_true rfl) (by decide) ?_
  conv => whnf
  refine ⟨fun ha => ?_, fun ha => ?_⟩
  · have ha' : decide (400 < (l.length : Int)) = true := ha
    rw [hb1 (of_decide_eq_true ha')]
    conv => whnf
    rfl
  · have ha' : decide (400 < (l.length : Int)) = false := ha
    rw [hb2 (of_decide_eq_false ha')]
    conv => whnf
    refine loop_up (cxOk _ _) l.length (fun k => (l.take k).any badD = false) (fun k => ⟨[(0, encDs l), (3, .int .i64 (k : Nat))], [], 0⟩) (by simp) (wk_of [] rfl ⟨.base (.tree _ _ rfl rfl), .base (.tree _ _ rfl rfl), trivial⟩ trivial) ?_
    intro k hk hP
    conv => whnf
    refine ⟨fun hc => ?_, fun hc => ?_⟩
    · simp only [decide_eq_true_eq] at hc
      have hlt : k < l.length := by omega
      have hbe := bad2_eq (l.getD k d0)
      have hck : l.getD (k : Int).toNat d0 = l.getD k d0 := by rw [Int.toNat_natCast]
      have hup := fun h => any_take_succ (p := badD) (d := d0) hlt hP h
      have hmm := getD_mem (d := d0) hlt
      generalize l.getD k d0 = d at *
      conv => whnf
      repeat (first | (refine And.intro ⟨by omega, by omega⟩ ?_; conv => whnf) | (refine And.intro (by omega) (And.intro rfl ?_); conv => whnf) | (refine And.intro rfl ?_; conv => whnf) | (refine And.intro (fun _ => ⟨by omega, by omega⟩) ?_; conv => whnf) | (refine And.intro (fun _ => by omega) (And.intro rfl ?_); conv => whnf) | (refine And.intro ⟨(by first | omega | (simp; omega)), (by first | omega | (simp; omega))⟩ ?_; conv => whnf) | (refine Exists.intro _ (And.intro rfl (And.intro (by first | omega | (simp; omega)) (And.intro ⟨rfl, rfl, rfl, rfl, rfl⟩ ?_))); conv => whnf) | (refine And.intro ⟨rfl, rfl⟩ (And.intro (by first | omega | (simp; omega)) ?_); conv => whnf) | (refine Exists.intro _ (And.intro rfl ?_); conv => whnf) | (refine And.intro (fun _ => ?_) (fun h => absurd h (by decide)); conv => whnf) | (refine And.intro (fun h => absurd h (by decide)) (fun _ => ?_); conv => whnf) | (refine .eff (by first | exact cxOk _ _ | exact cxPOk _ _ _) ?_; conv => whnf))
      rw [hck]
      refine ⟨fun hd => ?_, fun hd => ?_⟩
      · have hd' : bad2 d = true := hd
        rw [List.any_eq_true.2 ⟨d, hmm, by rw [← hbe]; exact hd'⟩]
        conv => whnf
        rfl
      · have hd' : bad2 d = false := hd
        conv => whnf
        repeat (first | (refine And.intro ⟨by omega, by omega⟩ ?_; conv => whnf) | (refine And.intro (by omega) (And.intro rfl ?_); conv => whnf) | (refine And.intro rfl ?_; conv => whnf) | (refine And.intro (fun _ => ⟨by omega, by omega⟩) ?_; conv => whnf) | (refine And.intro (fun _ => by omega) (And.intro rfl ?_); conv => whnf) | (refine And.intro ⟨(by first | omega | (simp; omega)), (by first | omega | (simp; omega))⟩ ?_; conv => whnf) | (refine Exists.intro _ (And.intro rfl (And.intro (by first | omega | (simp; omega)) (And.intro ⟨rfl, rfl, rfl, rfl, rfl⟩ ?_))); conv => whnf) | (refine And.intro ⟨rfl, rfl⟩ (And.intro (by first | omega | (simp; omega)) ?_); conv => whnf) | (refine Exists.intro _ (And.intro rfl ?_); conv => whnf) | (refine And.intro (fun _ => ?_) (fun h => absurd h (by decide)); conv => whnf) | (refine And.intro (fun h => absurd h (by decide)) (fun _ => ?_); conv => whnf) | (refine .eff (by first | exact cxOk _ _ | exact cxPOk _ _ _) ?_; conv => whnf))
        refine up hlt (hup (by rw [← hbe]; exact hd')) (wk_of [] rfl ⟨.base (.tree _ _ rfl rfl), .base (.tree _ _ rfl rfl), trivial⟩ trivial)
    · simp only [decide_eq_false_iff_not] at hc
      rw [List.take_of_length_le (by omega)] at hP
      rw [hP]
      conv => whnf
      rfl

end Go.Proofs.Ytkldidgcgioceaa

namespace Go.Proofs.Ytkldidgcgioceaa
open Go.Own
set_option maxHeartbeats 1000000

/-! ### The reference's Close, in plain words -/
structure DR where
  D : List Int
  R : List Int
  ch : Bool

def cndX (l : List Debt) (D R : List Int) (i j : Nat) : Bool :=
  (decide (0 ≤ D.getD i 0) && can2 l i j) && ((decide (D.getD j 0 < 0) || decide (D.getD i 0 < D.getD j 0)) || (decide (D.getD i 0 = D.getD j 0) && decide (R.getD i 0 + 1 < R.getD j 0)))
def relax (l : List Debt) (i : Nat) (s : DR) (j : Nat) : DR := if cndX l s.D s.R i j = true then ⟨s.D.set j (s.D.getD i 0), s.R.set j (s.R.getD i 0 + 1), true⟩ else s
def rowX (l : List Debt) (i : Nat) (s : DR) (n : Nat) : DR := (List.range n).foldl (relax l i) s
def passX (l : List Debt) (s : DR) (m : Nat) : DR := (List.range m).foldl (fun s i => rowX l i s l.length) s
theorem rowX_succ (l : List Debt) (i : Nat) (s : DR) (n : Nat) : rowX l i s (n + 1) = relax l i (rowX l i s n) n := by
  unfold rowX
  rw [List.range_succ, List.foldl_append]
  rfl
theorem passX_succ (l : List Debt) (s : DR) (n : Nat) : passX l s (n + 1) = rowX l n (passX l s n) l.length := by
  unfold passX
  rw [List.range_succ, List.foldl_append]
  rfl

theorem countP_more {p q : Nat → Bool} : ∀ (l : List Nat), (∀ x ∈ l, p x = true → q x = true) → ∀ j ∈ l, p j = false → q j = true → l.countP p + 1 ≤ l.countP q
  | [], _, j, hj, _, _ => by cases hj
  | x :: l, h, j, hj, hp, hq => by
    rw [List.countP_cons, List.countP_cons]
    rcases List.mem_cons.1 hj with e | hj
    · subst e
      have := List.countP_mono_left (l := l) (p := p) (q := q) (fun y hy => h y (List.mem_cons_of_mem _ hy))
      rw [hp, hq]
      simp
      omega
    · have := countP_more l (fun y hy => h y (List.mem_cons_of_mem _ hy)) j hj hp hq
      have hx := h x List.mem_cons_self
      cases hpx : p x with
      | false => simp; omega
      | true => rw [hx hpx]; simp; omega
theorem sum_less {p q : Nat → Nat} : ∀ (l : List Nat), (∀ x ∈ l, q x ≤ p x) → ∀ j ∈ l, q j < p j → (l.map q).sum < (l.map p).sum
  | [], _, j, hj, _ => by cases hj
  | x :: l, h, j, hj, hp => by
    have le : ∀ (l : List Nat), (∀ x ∈ l, q x ≤ p x) → (l.map q).sum ≤ (l.map p).sum := by
      intro l
      induction l with
      | nil => intro _; exact Nat.le_refl _
      | cons y l ih =>
        intro h
        have := h y List.mem_cons_self
        have := ih fun z hz => h z (List.mem_cons_of_mem _ hz)
        simp
        omega
    rcases List.mem_cons.1 hj with e | hj
    · subst e
      have := le l fun z hz => h z (List.mem_cons_of_mem _ hz)
      simp
      omega
    · have := sum_less l (fun y hy => h y (List.mem_cons_of_mem _ hy)) j hj hp
      have := h x List.mem_cons_self
      simp
      omega

/-- As good as the day and the round. -/
def geK (D R : List Int) (d r : Int) (v : Nat) : Bool := decide (0 ≤ D.getD v 0) && (decide (D.getD v 0 < d) || (decide (D.getD v 0 = d) && decide (R.getD v 0 ≤ r)))
theorem geK_iff {D R : List Int} {d r : Int} {v : Nat} : geK D R d r v = true ↔ 0 ≤ D.getD v 0 ∧ (D.getD v 0 < d ∨ (D.getD v 0 = d ∧ R.getD v 0 ≤ r)) := by
  unfold geK
  simp only [Bool.and_eq_true, Bool.or_eq_true, decide_eq_true_eq]
def cntK (n : Nat) (D R : List Int) (d r : Int) : Nat := (List.range n).countP (geK D R d r)
theorem cntK_le (n : Nat) (D R : List Int) (d r : Int) : cntK n D R d r ≤ n := by
  have := List.countP_le_length (p := geK D R d r) (l := List.range n)
  rwa [List.length_range] at this

structure GoodX (l : List Debt) (D R : List Int) : Prop where
  dl : D.length = l.length
  rl : R.length = l.length
  val : ∀ j, j < l.length → 0 ≤ D.getD j 0 → (∃ q, q < l.length ∧ fastOf l q = D.getD j 0) ∧ 0 ≤ R.getD j 0 ∧ (R.getD j 0 = 0 → fastOf l j = D.getD j 0) ∧
    (0 < R.getD j 0 → ∃ i, i < l.length ∧ can l i j = true ∧ geK D R (D.getD j 0) (R.getD j 0 - 1) i = true) ∧ (R.getD j 0 + 1 ≤ cntK l.length D R (D.getD j 0) (R.getD j 0))
  ini : ∀ j, j < l.length → 0 ≤ fastOf l j → geK D R (fastOf l j) 0 j = true
  zer : ∀ j, j < l.length → D.getD j 0 < 0 → R.getD j 0 = 0

theorem getD_set' {l : List Int} {i j : Nat} {x d : Int} (h : i < l.length) : (l.set i x).getD j d = if j = i then x else l.getD j d := by
  by_cases e : j = i
  · subst e
    rw [if_pos rfl, List.getD_eq_getElem?_getD, List.getElem?_set_self h]
    rfl
  · rw [if_neg e, List.getD_eq_getElem?_getD, List.getD_eq_getElem?_getD, List.getElem?_set_ne (fun h => e h.symm)]

def wK (D R : List Int) (v : Nat) : Nat := if D.getD v 0 < 0 then 200002000 else (D.getD v 0 * 1000 + R.getD v 0).toNat
def muK (n : Nat) (D R : List Int) : Nat := ((List.range n).map (wK D R)).sum

theorem GoodX.few {l : List Debt} {D R : List Int} (h : GoodX l D R) {j : Nat} (hj : j < l.length) (h0 : 0 ≤ D.getD j 0) : R.getD j 0 < l.length := by
  have h1 := (h.val j hj h0).2.2.2.2
  have := cntK_le l.length D R (D.getD j 0) (R.getD j 0)
  omega

theorem GoodX.bnd {l : List Debt} {D R : List Int} (h : GoodX l D R) {j : Nat} (hj : j < l.length) : 0 ≤ R.getD j 0 ∧ R.getD j 0 ≤ l.length := by
  by_cases h0 : D.getD j 0 < 0
  · rw [h.zer j hj h0]
    omega
  · have h1 := h.few hj (by omega)
    have h2 := (h.val j hj (by omega)).2.1
    exact ⟨h2, by omega⟩

theorem fast_le {l : List Debt} (hR : rightB l = true) {j : Nat} (hj : j < l.length) : fastOf l j ≤ 200000 := by
  unfold rightB at hR
  rw [Bool.and_eq_true, Bool.not_eq_true'] at hR
  have := List.any_eq_false.1 hR.2 _ (getD_mem (d := d0) hj)
  unfold badD inB at this
  simp only [Bool.or_eq_true, Bool.not_eq_true', Bool.and_eq_false_iff, decide_eq_false_iff_not] at this
  unfold fastOf
  omega

theorem GoodX.day_le {l : List Debt} (hR : rightB l = true) {D R : List Int} (h : GoodX l D R) {j : Nat} (hj : j < l.length) (h0 : 0 ≤ D.getD j 0) : D.getD j 0 ≤ 200000 := by
  obtain ⟨⟨q, hq, e⟩, _⟩ := h.val j hj h0
  rw [← e]
  exact fast_le hR hq

theorem relax_good {l : List Debt} (hR : rightB l = true) (hl : l.length ≤ 400) {D R : List Int} (h : GoodX l D R) {i j : Nat} (hi : i < l.length) (hj : j < l.length) (hc : cndX l D R i j = true) :
    GoodX l (D.set j (D.getD i 0)) (R.set j (R.getD i 0 + 1)) ∧ muK l.length (D.set j (D.getD i 0)) (R.set j (R.getD i 0 + 1)) < muK l.length D R := by
  unfold cndX at hc
  simp only [Bool.and_eq_true, Bool.or_eq_true, decide_eq_true_eq] at hc
  obtain ⟨⟨hdi, hcan⟩, hk⟩ := hc
  rw [can2_eq hR hj] at hcan
  have hdl := h.dl
  have hrl := h.rl
  have hD : ∀ v, (D.set j (D.getD i 0)).getD v 0 = if v = j then D.getD i 0 else D.getD v 0 := fun v => getD_set' (by omega)
  have hRR : ∀ v, (R.set j (R.getD i 0 + 1)).getD v 0 = if v = j then R.getD i 0 + 1 else R.getD v 0 := fun v => getD_set' (by omega)
  obtain ⟨⟨q, hq, hqd⟩, vi1, vi2, -, vi4⟩ := h.val i hi hdi
  have hdl' : (D.set j (D.getD i 0)).length = l.length := by rw [List.length_set]; exact hdl
  have hrl' : (R.set j (R.getD i 0 + 1)).length = l.length := by rw [List.length_set]; exact hrl
  generalize D.set j (D.getD i 0) = D' at *
  generalize R.set j (R.getD i 0 + 1) = R' at *
  have mono : ∀ d r v, geK D R d r v = true → geK D' R' d r v = true := fun d r v hv => by
    rw [geK_iff] at hv ⊢
    rw [hD, hRR]
    by_cases e : v = j
    · subst e
      rw [if_pos rfl, if_pos rfl]
      omega
    · rw [if_neg e, if_neg e]
      exact hv
  have cmono : ∀ d r, cntK l.length D R d r ≤ cntK l.length D' R' d r := fun d r => List.countP_mono_left fun v _ => mono d r v
  have cj : R.getD i 0 + 1 + 1 ≤ (cntK l.length D' R' (D.getD i 0) (R.getD i 0 + 1) : Int) := by
    have h1 : cntK l.length D R (D.getD i 0) (R.getD i 0) + 1 ≤ cntK l.length D' R' (D.getD i 0) (R.getD i 0 + 1) := by
      refine countP_more _ (fun v _ hv => mono _ _ _ ?_) j (List.mem_range.2 hj) ?_ ?_
      · rw [geK_iff] at hv ⊢
        omega
      · cases hg : geK D R (D.getD i 0) (R.getD i 0) j with
        | false => rfl
        | true =>
          rw [geK_iff] at hg
          exfalso
          omega
      · rw [geK_iff, hD, hRR, if_pos rfl, if_pos rfl]
        omega
    omega
  have G : GoodX l D' R' := by
    refine ⟨hdl', hrl', fun v hv h0 => ?_, fun v hv h0 => mono _ _ _ (h.ini v hv h0), fun v hv h0 => ?_⟩
    rotate_left
    · by_cases e : v = j
      · subst e
        rw [hD, if_pos rfl] at h0
        omega
      · rw [hD, if_neg e] at h0
        rw [hRR, if_neg e]
        exact h.zer v hv h0
    by_cases e : v = j
    · subst e
      rw [hD, if_pos rfl, hRR, if_pos rfl]
      refine ⟨⟨q, hq, hqd⟩, by omega, fun h => by omega, fun _ => ⟨i, hi, hcan, mono _ _ _ ?_⟩, cj⟩
      rw [geK_iff]
      omega
    · rw [hD, if_neg e] at h0 ⊢
      rw [hRR, if_neg e]
      obtain ⟨a1, a2, a3, a4, a5⟩ := h.val v hv h0
      refine ⟨a1, a2, a3, fun h => ?_, ?_⟩
      · obtain ⟨i', b1, b2, b3⟩ := a4 h
        exact ⟨i', b1, b2, mono _ _ _ b3⟩
      · have := cmono (D.getD v 0) (R.getD v 0)
        omega
  refine ⟨G, ?_⟩
  have hfew : R.getD i 0 + 1 < l.length := by
    have := G.few hj (by rw [hD, if_pos rfl]; exact hdi)
    rwa [hRR, if_pos rfl] at this
  have hday := h.day_le hR hi hdi
  have wj : wK D' R' j < wK D R j := by
    unfold wK
    rw [hD, hRR, if_pos rfl, if_pos rfl, if_neg (by omega)]
    split
    · omega
    · have := (h.val j hj (by omega)).2.1
      omega
  refine sum_less _ (fun v _ => ?_) j (List.mem_range.2 hj) wj
  by_cases e : v = j
  · subst e; omega
  · unfold wK
    rw [hD, hRR, if_neg e, if_neg e]
    exact Nat.le_refl _

/-- What a step, or steps, make of it. -/
def Adv (l : List Debt) (s s' : DR) : Prop := GoodX l s'.D s'.R ∧ (s' = s ∨ (muK l.length s'.D s'.R < muK l.length s.D s.R ∧ s'.ch = true))
theorem Adv.trans {l : List Debt} {a b c : DR} (h1 : Adv l a b) (h2 : Adv l b c) : Adv l a c := by
  refine ⟨h2.1, ?_⟩
  rcases h1.2 with e | ⟨e, f⟩
  · subst e; exact h2.2
  · rcases h2.2 with e' | ⟨e', f'⟩
    · subst e'; exact .inr ⟨e, f⟩
    · exact .inr ⟨by omega, f'⟩
theorem relax_adv {l : List Debt} (hR : rightB l = true) (hl : l.length ≤ 400) {s : DR} (h : GoodX l s.D s.R) {i j : Nat} (hi : i < l.length) (hj : j < l.length) : Adv l s (relax l i s j) := by
  unfold relax
  split
  · rename_i hc
    obtain ⟨h1, h2⟩ := relax_good hR hl h hi hj hc
    exact ⟨h1, .inr ⟨h2, rfl⟩⟩
  · exact ⟨h, .inl rfl⟩
theorem row_adv {l : List Debt} (hR : rightB l = true) (hl : l.length ≤ 400) {s : DR} (h : GoodX l s.D s.R) {i : Nat} (hi : i < l.length) : ∀ n, n ≤ l.length → Adv l s (rowX l i s n)
  | 0, _ => ⟨h, .inl rfl⟩
  | n + 1, hn => by
    rw [rowX_succ]
    have h1 := row_adv hR hl h hi n (by omega)
    exact h1.trans (relax_adv hR hl h1.1 hi (by omega))
theorem pass_adv {l : List Debt} (hR : rightB l = true) (hl : l.length ≤ 400) {s : DR} (h : GoodX l s.D s.R) : ∀ n, n ≤ l.length → Adv l s (passX l s n)
  | 0, _ => ⟨h, .inl rfl⟩
  | n + 1, hn => by
    rw [passX_succ]
    have h1 := pass_adv hR hl h n (by omega)
    exact h1.trans (row_adv hR hl h1.1 (by omega) _ (Nat.le_refl _))
theorem relax_ch {l : List Debt} {s : DR} {i j : Nat} (h : (relax l i s j).ch = false) : relax l i s j = s ∧ cndX l s.D s.R i j = false := by
  unfold relax at h ⊢
  split at h
  · cases h
  · rename_i hc
    rw [if_neg hc]
    exact ⟨rfl, by simpa using hc⟩
theorem row_ch {l : List Debt} {s : DR} {i : Nat} : ∀ n, (rowX l i s n).ch = false → rowX l i s n = s ∧ ∀ j, j < n → cndX l s.D s.R i j = false
  | 0, _ => ⟨rfl, fun j h => by omega⟩
  | n + 1, h => by
    rw [rowX_succ] at h ⊢
    obtain ⟨h1, h2⟩ := relax_ch h
    rw [h1] at h ⊢
    obtain ⟨h3, h4⟩ := row_ch n h
    rw [h3] at h2 ⊢
    refine ⟨rfl, fun j hj => ?_⟩
    by_cases e : j = n
    · subst e; exact h2
    · exact h4 j (by omega)
def Clo (l : List Debt) (D R : List Int) : Prop := ∀ i j, i < l.length → j < l.length → cndX l D R i j = false
theorem pass_ch {l : List Debt} {s : DR} : ∀ n, (passX l s n).ch = false → passX l s n = s ∧ ∀ i j, i < n → j < l.length → cndX l s.D s.R i j = false
  | 0, _ => ⟨rfl, fun i j h => by omega⟩
  | n + 1, h => by
    rw [passX_succ] at h ⊢
    obtain ⟨h1, h2⟩ := row_ch _ h
    rw [h1] at h ⊢
    obtain ⟨h3, h4⟩ := pass_ch n h
    rw [h3] at h2 ⊢
    refine ⟨rfl, fun i j hi hj => ?_⟩
    by_cases e : i = n
    · subst e; exact h2 j hj
    · exact h4 i j (by omega) hj

theorem init_good (l : List Debt) : GoodX l (l.map (·.fast)) (List.replicate l.length 0) := by
  have hD : ∀ v, v < l.length → (l.map (·.fast)).getD v 0 = fastOf l v := fun v hv => by
    unfold fastOf
    rw [List.getD_eq_getElem?_getD, List.getElem?_map, List.getElem?_eq_getElem hv, List.getD_eq_getElem?_getD, List.getElem?_eq_getElem hv]
    rfl
  have hRr : ∀ v, v < l.length → (List.replicate l.length (0 : Int)).getD v 0 = 0 := fun v hv => by
    rw [List.getD_eq_getElem?_getD, List.getElem?_replicate, if_pos hv]
    rfl
  refine ⟨by rw [List.length_map], by rw [List.length_replicate], fun j hj h0 => ?_, fun j hj h0 => ?_, fun j hj h0 => hRr j hj⟩
  · rw [hD j hj] at h0 ⊢
    rw [hRr j hj]
    refine ⟨⟨j, hj, rfl⟩, by omega, fun _ => rfl, fun h => by omega, ?_⟩
    have : 0 < cntK l.length (l.map (·.fast)) (List.replicate l.length 0) (fastOf l j) 0 := by
      unfold cntK
      rw [List.countP_pos_iff]
      refine ⟨j, List.mem_range.2 hj, ?_⟩
      rw [geK_iff, hD j hj, hRr j hj]
      omega
    omega
  · rw [geK_iff, hD j hj, hRr j hj]
    omega

/-! ### What stands in the end -/
def becX (l : List Debt) (D R : List Int) (i : Nat) (k : Nat) : Bool := (can2 l k i && decide (D.getD k 0 = D.getD i 0)) && decide (R.getD k 0 = R.getD i 0 - 1)
/-- The least one that has it, if any is at least from. -/
def leastFrom (p : Nat → Bool) (n : Nat) : Nat → Int
  | 0 => -1
  | m + 1 => if p (n - (m + 1)) = true then (n - (m + 1) : Nat) else leastFrom p n m
def cauX (l : List Debt) (D R : List Int) (i : Nat) : Cau := ⟨i, if 0 < R.getD i 0 then leastFrom (becX l D R i) l.length l.length else -1, R.getD i 0, D.getD i 0⟩
def outX (l : List Debt) (D R : List Int) (n : Nat) : List Cau := (List.range n).filterMap (fun i => if D.getD i 0 < 0 then none else some (cauX l D R i))
theorem outX_succ (l : List Debt) (D R : List Int) (n : Nat) : outX l D R (n + 1) = outX l D R n ++ (if D.getD n 0 < 0 then [] else [cauX l D R n]) := by
  unfold outX
  rw [List.range_succ, List.filterMap_append]
  congr 1
  by_cases h : D.getD n 0 < 0
  · simp only [List.filterMap_cons, List.filterMap_nil, if_pos h]
  · simp only [List.filterMap_cons, List.filterMap_nil, if_neg h]

theorem leastFrom_spec {p : Nat → Bool} {n : Nat} : ∀ m, m ≤ n → (leastFrom p n m = -1 ∧ ∀ k, n - m ≤ k → k < n → p k = false) ∨ ∃ k : Nat, leastFrom p n m = k ∧ n - m ≤ k ∧ k < n ∧ p k = true ∧ ∀ q, n - m ≤ q → q < k → p q = false
  | 0, _ => .inl ⟨rfl, fun k h1 h2 => by omega⟩
  | m + 1, hm => by
    unfold leastFrom
    by_cases h : p (n - (m + 1)) = true
    · rw [if_pos h]
      exact .inr ⟨n - (m + 1), rfl, Nat.le_refl _, by omega, h, fun q h1 h2 => by omega⟩
    · rw [if_neg h]
      have hf : p (n - (m + 1)) = false := by simpa using h
      rcases leastFrom_spec (p := p) (n := n) m (by omega) with ⟨e, g⟩ | ⟨k, e, g1, g2, g3, g4⟩
      · refine .inl ⟨e, fun k h1 h2 => ?_⟩
        by_cases e' : k = n - (m + 1)
        · rw [e']; exact hf
        · exact g k (by omega) h2
      · refine .inr ⟨k, e, (by omega), g2, g3, fun q h1 h2 => ?_⟩
        by_cases e' : q = n - (m + 1)
        · rw [e']; exact hf
        · exact g4 q (by omega) h2

theorem end_sol {l : List Debt} (hR : rightB l = true) {D R : List Int} (h : GoodX l D R) (hc : Clo l D R) : Sol l (fun j => if j < l.length ∧ 0 ≤ D.getD j 0 then some (cauX l D R j) else none) := by
  have clo : ∀ i j, i < l.length → j < l.length → 0 ≤ D.getD i 0 → can l i j = true → 0 ≤ D.getD j 0 ∧ (D.getD j 0 < D.getD i 0 ∨ (D.getD j 0 = D.getD i 0 ∧ R.getD j 0 ≤ R.getD i 0 + 1)) := fun i j hi hj h0 hcan => by
    have hx := hc i j hi hj
    unfold cndX at hx
    rw [decide_eq_true h0, can2_eq hR hj, hcan] at hx
    simp only [Bool.and_true, Bool.true_and, Bool.or_eq_false_iff, Bool.and_eq_false_iff, decide_eq_false_iff_not] at hx
    omega
  have at' : ∀ j c, (if j < l.length ∧ 0 ≤ D.getD j 0 then some (cauX l D R j) else none) = some c → j < l.length ∧ 0 ≤ D.getD j 0 ∧ c = cauX l D R j := fun j c hj => by
    split at hj
    · rename_i hh
      cases hj
      exact ⟨hh.1, hh.2, rfl⟩
    · cases hj
  refine ⟨fun j c hj => ?_, fun o co j ho hj hcan => ?_, fun j hj hs => ?_⟩
  · obtain ⟨h1, h2, rfl⟩ := at' j c hj
    obtain ⟨⟨q, hq, hqd⟩, a2, a3, a4, a5⟩ := h.val j h1 h2
    refine ⟨h1, rfl, a2, ⟨h2, q, hq, hqd⟩, ?_⟩
    by_cases h0 : 0 < R.getD j 0
    · right
      obtain ⟨i, hi, hcan, hg⟩ := a4 h0
      rw [geK_iff] at hg
      have hcl := clo i j hi h1 hg.1 hcan
      refine ⟨fun hf => ?_, ?_⟩
      · have hf' : 0 ≤ fastOf l j ∧ fastOf l j ≤ D.getD j 0 := hf
        have := h.ini j h1 hf'.1
        rw [geK_iff] at this
        omega
      · have hb : becX l D R j i = true := by
          unfold becX
          rw [can2_eq hR h1, hcan, decide_eq_true (by omega), decide_eq_true (by omega)]
          rfl
        rcases leastFrom_spec (p := becX l D R j) (n := l.length) l.length (Nat.le_refl _) with ⟨e, g⟩ | ⟨k, e, g1, g2, g3, g4⟩
        · have := g i (by omega) hi
          rw [hb] at this
          cases this
        · have g3' := g3
          unfold becX at g3'
          rw [can2_eq hR h1] at g3'
          simp only [Bool.and_eq_true, decide_eq_true_eq] at g3'
          refine ⟨k, cauX l D R k, ?_, if_pos ⟨g2, by omega⟩, g3'.1.2, ?_, g3'.1.1, fun q cq hqk hqs hqd hqr => ?_⟩
          · show (if 0 < R.getD j 0 then leastFrom (becX l D R j) l.length l.length else -1) = k
            rw [if_pos h0, e]
          · show R.getD k 0 + 1 = R.getD j 0
            omega
          · obtain ⟨b1, b2, rfl⟩ := at' q cq hqs
            have hqd' : D.getD q 0 = D.getD j 0 := hqd
            have hqr' : R.getD q 0 + 1 = R.getD j 0 := hqr
            have := g4 q (by omega) hqk
            unfold becX at this
            rw [can2_eq hR h1, decide_eq_true hqd', decide_eq_true (by omega)] at this
            simpa using this
    · left
      have e0 : R.getD j 0 = 0 := by omega
      refine ⟨?_, e0, a3 e0⟩
      show (if 0 < R.getD j 0 then leastFrom (becX l D R j) l.length l.length else -1) = -1
      rw [if_neg h0]
  · obtain ⟨h1, h2, rfl⟩ := at' o co ho
    obtain ⟨c1, c2⟩ := clo o j h1 hj h2 hcan
    exact ⟨_, if_pos ⟨hj, c1⟩, c2⟩
  · have hg := h.ini j hj hs.1
    rw [geK_iff] at hg
    refine ⟨_, if_pos ⟨hj, hg.1⟩, ?_⟩
    show D.getD j 0 ≤ fastOf l j
    omega

theorem outX_mem {l : List Debt} {D R : List Int} {n : Nat} {c : Cau} : c ∈ outX l D R n ↔ ∃ j, j < n ∧ 0 ≤ D.getD j 0 ∧ c = cauX l D R j := by
  unfold outX
  rw [List.mem_filterMap]
  constructor
  · rintro ⟨j, hj, h⟩
    split at h
    · cases h
    · rename_i h0
      cases h
      exact ⟨j, List.mem_range.1 hj, by omega, rfl⟩
  · rintro ⟨j, hj, h0, rfl⟩
    exact ⟨j, List.mem_range.2 hj, by rw [if_neg (by omega)]⟩
theorem outX_sorted {l : List Debt} {D R : List Int} : ∀ n, (outX l D R n).Pairwise (fun a b => a.issue < b.issue)
  | 0 => List.Pairwise.nil
  | n + 1 => by
    rw [outX_succ]
    split
    · rw [List.append_nil]; exact outX_sorted n
    · refine List.pairwise_append.2 ⟨outX_sorted n, List.pairwise_singleton _ _, fun a ha b hb => ?_⟩
      rw [List.mem_singleton] at hb
      subst hb
      obtain ⟨j, hj, _, rfl⟩ := outX_mem.1 ha
      show (j : Int) < n
      omega

theorem end_close {l : List Debt} (hR : rightB l = true) {D R : List Int} (h : GoodX l D R) (hc : Clo l D R) : outX l D R l.length = closeL l := by
  have hu := sol_uniq (end_sol hR h hc) (found_sol l)
  refine sorted_same (outX_sorted _) (close_sorted l) fun c => ?_
  rw [outX_mem, close_mem]
  constructor
  · rintro ⟨j, hj, h0, rfl⟩
    refine ⟨j, ?_⟩
    rw [← hu j]
    exact if_pos ⟨hj, h0⟩
  · rintro ⟨j, hj⟩
    rw [← hu j] at hj
    split at hj
    · rename_i hh
      cases hj
      exact ⟨j, hh.1, hh.2, rfl⟩
    · cases hj

end Go.Proofs.Ytkldidgcgioceaa

namespace Go.Proofs.Ytkldidgcgioceaa
open Go.Own
set_option maxHeartbeats 4000000
set_option maxRecDepth 100000

def iniD (l : List Debt) (k : Nat) : List Int := (l.take k).map (·.fast) ++ List.replicate (l.length - k) 0
theorem iniD_len {l : List Debt} {k : Nat} (h : k ≤ l.length) : (iniD l k).length = l.length := by
  unfold iniD
  rw [List.length_append, List.length_map, List.length_take, List.length_replicate]
  omega
theorem iniD_succ {l : List Debt} {k : Nat} (h : k < l.length) : (iniD l k).set k (l.getD k d0).fast = iniD l (k + 1) := by
  unfold iniD
  rw [List.set_append_right _ _ (by rw [List.length_map, List.length_take]; omega), List.length_map, List.length_take, show k - min k l.length = 0 by omega, show l.length - k = (l.length - (k + 1)) + 1 by omega, List.replicate_succ, take_getD (d := d0) h, List.map_append, List.append_assoc]
  rfl
theorem iniD_all (l : List Debt) : iniD l l.length = l.map (·.fast) := by
  unfold iniD
  rw [Nat.sub_self, List.take_of_length_le (Nat.le_refl _)]
  simp

theorem outX_len (l : List Debt) (D R : List Int) (n : Nat) : (outX l D R n).length ≤ n := by
  unfold outX
  exact Nat.le_trans (List.length_filterMap_le _ _) (by rw [List.length_range]; exact Nat.le_refl _)

theorem close2_ok (l : List Debt) (hl : l.length ≤ 400) : APure Try.prog 10 [encDs l] (fun rs => rs = if rightB l = true then [.new (.row 35 4 encC c0 (closeL l)), .val (.int .i64 0)] else [.val .nils, .val (.int .i64 1)]) := by
  have hr := right2_ok l (by omega)
  have hend := fun hR D R h hc => @end_close l hR D R h hc
  refine apure_of (C := cx 182 [0, 2, 3, 4, 5, 6, 7, 8, 9, 10, 11, 12, 13, 14, 17, 26, 37, 40, 45, 99, 117, 124, 145, 174]) (cxOk _ _) Try.func10 rfl (by decide) rfl (by exact Nat.le_of_ble_eq_true rfl) (by decide) ?_
  conv => whnf
  refine .one _ _ _ (fun _ => hr) (by repeat (first | exact .nil | (apply BorL.cons; first | exact lS rfl | exact lR rfl | exact lM rfl rfl | exact lL rfl | exact lX rfl | exact lN | exact lNl | exact lSm rfl | exact lIm rfl | exact lP rfl | exact lQ rfl))) (by first | exact .inl rfl | exact .inr (by repeat (first | exact flats_nil | refine flats_cons (by first | exact flat_val _ rfl | exact flat_row (fun _ => rfl) | exact flat_lst (fun _ => rfl)) ?_))) (by first | exact .inl rfl | exact .inr rfl) ?_
  conv => whnf
  cases hR : rightB l with
  | false =>
    refine ⟨fun hx => ?_, fun hx => ?_⟩
    · conv => whnf
      rfl
    · cases hx
  | true =>
    refine ⟨fun hx => ?_, fun hx => ?_⟩
    · cases hx
    rw [if_pos rfl]
    conv => whnf
    repeat (first | (refine And.intro ⟨by omega, by omega⟩ ?_; conv => whnf) | (refine And.intro (by omega) (And.intro rfl ?_); conv => whnf) | (refine And.intro rfl ?_; conv => whnf) | (refine And.intro (fun _ => ⟨by omega, by omega⟩) ?_; conv => whnf) | (refine And.intro (fun _ => by omega) (And.intro rfl ?_); conv => whnf) | (refine And.intro ⟨(by first | omega | (simp; omega)), (by first | omega | (simp; omega))⟩ ?_; conv => whnf) | (refine Exists.intro _ (And.intro rfl (And.intro (by first | omega | (simp; omega)) (And.intro ⟨rfl, rfl, rfl, rfl, rfl⟩ ?_))); conv => whnf) | (refine And.intro ⟨rfl, rfl⟩ (And.intro (by first | omega | (simp; omega)) ?_); conv => whnf) | (refine Exists.intro _ (And.intro rfl ?_); conv => whnf) | (refine And.intro (fun _ => ?_) (fun h => absurd h (by decide)); conv => whnf) | (refine And.intro (fun h => absurd h (by decide)) (fun _ => ?_); conv => whnf) | (refine .quiet (by kernel_rfl) ?_; conv => whnf))
    refine loop_up (cxOk _ _) l.length (fun _ => True) (fun k => ⟨[(0, encDs l), (4, .int .i64 l.length), (5, .own 0), (6, .own 1), (7, .int .i64 (k : Nat))], [(0, .row 3 1 encI 0 (iniD l k)), (1, .row 3 1 encI 0 (List.replicate l.length 0))], 2⟩) trivial ((wk_of [(0, .id 0), (1, .id 1)] rfl ⟨.base (.tree _ _ rfl rfl), .base (.tree _ _ rfl rfl), (by first | exact .base (.own _ _ rfl) | exact .base (.nilown _ rfl) | exact .base (.trunc _ _ _ rfl)), (by first | exact .base (.own _ _ rfl) | exact .base (.nilown _ rfl) | exact .base (.trunc _ _ _ rfl)), .base (.tree _ _ rfl rfl), trivial⟩ ⟨⟨_, rfl, (by first | exact .row _ _ _ _ _ _ _ rfl (by rw [Int.toNat_natCast]; exact (List.map_replicate (f := encI)).symm) | exact .lstrow _ _ _ _ _ _ _ rfl (by rw [Int.toNat_natCast]; exact (List.map_replicate (f := encI)).symm) | exact .nilrow _ _ _ _ _ (by rw [Int.toNat_natCast]; exact (List.map_replicate (f := encI)).symm) | exact .truncrow _ _ _ _ _ _ _ _ rfl (by omega) (by rw [Int.toNat_natCast]; exact (List.map_replicate (f := encI)).symm))⟩, ⟨_, rfl, (by first | exact .row _ _ _ _ _ _ _ rfl (by rw [Int.toNat_natCast]; exact (List.map_replicate (f := encI)).symm) | exact .lstrow _ _ _ _ _ _ _ rfl (by rw [Int.toNat_natCast]; exact (List.map_replicate (f := encI)).symm) | exact .nilrow _ _ _ _ _ (by rw [Int.toNat_natCast]; exact (List.map_replicate (f := encI)).symm) | exact .truncrow _ _ _ _ _ _ _ _ rfl (by omega) (by rw [Int.toNat_natCast]; exact (List.map_replicate (f := encI)).symm))⟩, trivial⟩)) ?_
    intro k hk _
    conv => whnf
    refine ⟨fun hc => ?_, fun hc => ?_⟩
    · simp only [decide_eq_true_eq] at hc
      have hlt : k < l.length := by omega
      have e1 := iniD_len hk
      have e2 := iniD_succ hlt
      have hlk : l.getD (k : Int).toNat d0 = l.getD k d0 := by rw [Int.toNat_natCast]
      generalize l.getD k d0 = d at *
      conv => whnf
      repeat (first | (refine And.intro ⟨by omega, by omega⟩ ?_; conv => whnf) | (refine And.intro (by omega) (And.intro rfl ?_); conv => whnf) | (refine And.intro rfl ?_; conv => whnf) | (refine And.intro (fun _ => ⟨by omega, by omega⟩) ?_; conv => whnf) | (refine And.intro (fun _ => by omega) (And.intro rfl ?_); conv => whnf) | (refine And.intro ⟨(by first | omega | (simp; omega)), (by first | omega | (simp; omega))⟩ ?_; conv => whnf) | (refine Exists.intro _ (And.intro rfl (And.intro (by first | omega | (simp; omega)) (And.intro ⟨rfl, rfl, rfl, rfl, rfl⟩ ?_))); conv => whnf) | (refine And.intro ⟨rfl, rfl⟩ (And.intro (by first | omega | (simp; omega)) ?_); conv => whnf) | (refine Exists.intro _ (And.intro rfl ?_); conv => whnf) | (refine And.intro (fun _ => ?_) (fun h => absurd h (by decide)); conv => whnf) | (refine And.intro (fun h => absurd h (by decide)) (fun _ => ?_); conv => whnf) | (refine .eff (by first | exact cxOk _ _ | exact cxPOk _ _ _) ?_; conv => whnf))
      refine up hlt trivial ((wk_of [(0, .id 0), (1, .id 1)] rfl ⟨.base (.tree _ _ rfl rfl), .base (.tree _ _ rfl rfl), (by first | exact .base (.own _ _ rfl) | exact .base (.nilown _ rfl) | exact .base (.trunc _ _ _ rfl)), (by first | exact .base (.own _ _ rfl) | exact .base (.nilown _ rfl) | exact .base (.trunc _ _ _ rfl)), .base (.tree _ _ rfl rfl), trivial⟩ ⟨⟨_, rfl, (by first | exact .row _ _ _ _ _ _ _ rfl (by rw [hlk, Int.toNat_natCast, e2]) | exact .lstrow _ _ _ _ _ _ _ rfl (by rw [hlk, Int.toNat_natCast, e2]) | exact .nilrow _ _ _ _ _ (by rw [hlk, Int.toNat_natCast, e2]) | exact .truncrow _ _ _ _ _ _ _ _ rfl (by omega) (by rw [hlk, Int.toNat_natCast, e2]))⟩, ⟨_, rfl, (by first | exact .row _ _ _ _ _ _ _ rfl rfl | exact .lstrow _ _ _ _ _ _ _ rfl rfl | exact .nilrow _ _ _ _ _ rfl | exact .truncrow _ _ _ _ _ _ _ _ rfl (by omega) rfl)⟩, trivial⟩))
    · simp only [decide_eq_false_iff_not] at hc
      have : k = l.length := by omega
      subst this
      rw [iniD_all]
      have hini := init_good l
      generalize l.map (·.fast) = D0 at *
      generalize List.replicate l.length (0 : Int) = R0 at *
      conv => whnf
      refine loop_inv (cxOk _ _) (σ := DR) (fun s => GoodX l s.D s.R ∧ (s.ch = false → Clo l s.D s.R)) (fun s => 2 * muK l.length s.D s.R + (if s.ch = true then 1 else 0)) (fun s => ⟨[(0, encDs l), (4, .int .i64 l.length), (5, .own 0), (6, .own 1), (8, .bool (s.ch))], [(0, .row 3 1 encI 0 (s.D)), (1, .row 3 1 encI 0 (s.R))], 2⟩) ⟨D0, R0, true⟩ ⟨hini, fun h => by cases h⟩ ((wk_of [(0, .id 0), (1, .id 1)] rfl ⟨.base (.tree _ _ rfl rfl), .base (.tree _ _ rfl rfl), (by first | exact .base (.own _ _ rfl) | exact .base (.nilown _ rfl) | exact .base (.trunc _ _ _ rfl)), (by first | exact .base (.own _ _ rfl) | exact .base (.nilown _ rfl) | exact .base (.trunc _ _ _ rfl)), .base (.tree _ _ rfl rfl), trivial⟩ ⟨⟨_, rfl, (by first | exact .row _ _ _ _ _ _ _ rfl rfl | exact .lstrow _ _ _ _ _ _ _ rfl rfl | exact .nilrow _ _ _ _ _ rfl | exact .truncrow _ _ _ _ _ _ _ _ rfl (by omega) rfl)⟩, ⟨_, rfl, (by first | exact .row _ _ _ _ _ _ _ rfl rfl | exact .lstrow _ _ _ _ _ _ _ rfl rfl | exact .nilrow _ _ _ _ _ rfl | exact .truncrow _ _ _ _ _ _ _ _ rfl (by omega) rfl)⟩, trivial⟩)) ?_
      clear hini
      rintro ⟨D, R, ch⟩ ⟨g1, g2⟩
      have g1' : GoodX l D R := g1
      have g2' : ch = false → Clo l D R := g2
      clear g1 g2
      conv => whnf
      cases ch with
      | true =>
        refine ⟨fun hc1 => ?_, fun hc1 => ?_⟩
        · conv => whnf
          have hpl := fun n (hn : n ≤ l.length) => pass_adv hR hl (s := ⟨D, R, false⟩) g1' n hn
          have hps := fun n => passX_succ l ⟨D, R, false⟩ n
          have hpc := @pass_ch l ⟨D, R, false⟩ l.length
          generalize hP : passX l ⟨D, R, false⟩ = P at *
          have hP0 : P 0 = ⟨D, R, false⟩ := by rw [← hP]; rfl
          refine loop_up (cxOk _ _) l.length (fun _ => True) (fun i => ⟨[(0, encDs l), (4, .int .i64 l.length), (5, .own 0), (6, .own 1), (8, .bool (P i).ch), (9, .int .i64 (i : Nat))], [(0, .row 3 1 encI 0 (P i).D), (1, .row 3 1 encI 0 (P i).R)], 2⟩) trivial (by rw [hP0]; exact (wk_of [(0, .id 0), (1, .id 1)] rfl ⟨.base (.tree _ _ rfl rfl), .base (.tree _ _ rfl rfl), (by first | exact .base (.own _ _ rfl) | exact .base (.nilown _ rfl) | exact .base (.trunc _ _ _ rfl)), (by first | exact .base (.own _ _ rfl) | exact .base (.nilown _ rfl) | exact .base (.trunc _ _ _ rfl)), .base (.tree _ _ rfl rfl), .base (.tree _ _ rfl rfl), trivial⟩ ⟨⟨_, rfl, (by first | exact .row _ _ _ _ _ _ _ rfl rfl | exact .lstrow _ _ _ _ _ _ _ rfl rfl | exact .nilrow _ _ _ _ _ rfl | exact .truncrow _ _ _ _ _ _ _ _ rfl (by omega) rfl)⟩, ⟨_, rfl, (by first | exact .row _ _ _ _ _ _ _ rfl rfl | exact .lstrow _ _ _ _ _ _ _ rfl rfl | exact .nilrow _ _ _ _ _ rfl | exact .truncrow _ _ _ _ _ _ _ _ rfl (by omega) rfl)⟩, trivial⟩)) ?_
          intro i hi _
          conv => whnf
          refine ⟨fun hc2 => ?_, fun hc2 => ?_⟩
          · simp only [decide_eq_true_eq] at hc2
            have hit : i < l.length := by omega
            have hprow := fun n (hn : n ≤ l.length) => row_adv hR hl (s := P i) (hpl i hi).1 hit n hn
            have hrs := fun n => rowX_succ l i (P i) n
            have hsucc := hps i
            generalize hQ : rowX l i (P i) = Q at *
            have hQ0 : Q 0 = P i := by rw [← hQ]; rfl
            conv => whnf
            refine loop_up (cxOk _ _) l.length (fun _ => True) (fun j => ⟨[(0, encDs l), (4, .int .i64 l.length), (5, .own 0), (6, .own 1), (8, .bool (Q j).ch), (9, .int .i64 (i : Nat)), (10, .int .i64 (j : Nat))], [(0, .row 3 1 encI 0 (Q j).D), (1, .row 3 1 encI 0 (Q j).R)], 2⟩) trivial (by rw [hQ0]; exact (wk_of [(0, .id 0), (1, .id 1)] rfl ⟨.base (.tree _ _ rfl rfl), .base (.tree _ _ rfl rfl), (by first | exact .base (.own _ _ rfl) | exact .base (.nilown _ rfl) | exact .base (.trunc _ _ _ rfl)), (by first | exact .base (.own _ _ rfl) | exact .base (.nilown _ rfl) | exact .base (.trunc _ _ _ rfl)), .base (.tree _ _ rfl rfl), .base (.tree _ _ rfl rfl), .base (.tree _ _ rfl rfl), trivial⟩ ⟨⟨_, rfl, (by first | exact .row _ _ _ _ _ _ _ rfl rfl | exact .lstrow _ _ _ _ _ _ _ rfl rfl | exact .nilrow _ _ _ _ _ rfl | exact .truncrow _ _ _ _ _ _ _ _ rfl (by omega) rfl)⟩, ⟨_, rfl, (by first | exact .row _ _ _ _ _ _ _ rfl rfl | exact .lstrow _ _ _ _ _ _ _ rfl rfl | exact .nilrow _ _ _ _ _ rfl | exact .truncrow _ _ _ _ _ _ _ _ rfl (by omega) rfl)⟩, trivial⟩)) ?_
            intro j hj _
            conv => whnf
            refine ⟨fun hc3 => ?_, fun hc3 => ?_⟩
            · simp only [decide_eq_true_eq] at hc3
              have hjt : j < l.length := by omega
              have hG := (hprow j hj).1
              have hrel := hrs j
              have q1 : (Q (j + 1)).D = if cndX l (Q j).D (Q j).R i j = true then (Q j).D.set j ((Q j).D.getD i 0) else (Q j).D := by rw [hrel]; unfold relax; split <;> rfl
              have q2 : (Q (j + 1)).R = if cndX l (Q j).D (Q j).R i j = true then (Q j).R.set j ((Q j).R.getD i 0 + 1) else (Q j).R := by rw [hrel]; unfold relax; split <;> rfl
              have q3 : (Q (j + 1)).ch = if cndX l (Q j).D (Q j).R i j = true then true else (Q j).ch := by rw [hrel]; unfold relax; split <;> rfl
              clear hrel
              generalize (Q j).D = D' at *
              generalize (Q j).R = R' at *
              generalize (Q j).ch = ch' at *
              have hG' : GoodX l D' R' := hG
              clear hG
              have hb1 := hG'.dl
              have hb2 := hG'.rl
              have hb3 := hG'.bnd hit
              have hei : D'.getD (i : Int).toNat 0 = D'.getD i 0 := by rw [Int.toNat_natCast]
              have hej : D'.getD (j : Int).toNat 0 = D'.getD j 0 := by rw [Int.toNat_natCast]
              have hfi : R'.getD (i : Int).toNat 0 = R'.getD i 0 := by rw [Int.toNat_natCast]
              have hfj : R'.getD (j : Int).toNat 0 = R'.getD j 0 := by rw [Int.toNat_natCast]
              have hca := can2_ok l i j ⟨by omega, by omega⟩ ⟨by omega, by omega⟩
              rw [Int.toNat_natCast, Int.toNat_natCast] at hca
              conv => whnf
              repeat (first | (refine And.intro ⟨by omega, by omega⟩ ?_; conv => whnf) | (refine And.intro (by omega) (And.intro rfl ?_); conv => whnf) | (refine And.intro rfl ?_; conv => whnf) | (refine And.intro (fun _ => ⟨by omega, by omega⟩) ?_; conv => whnf) | (refine And.intro (fun _ => by omega) (And.intro rfl ?_); conv => whnf) | (refine And.intro ⟨(by first | omega | (simp; omega)), (by first | omega | (simp; omega))⟩ ?_; conv => whnf) | (refine Exists.intro _ (And.intro rfl (And.intro (by first | omega | (simp; omega)) (And.intro ⟨rfl, rfl, rfl, rfl, rfl⟩ ?_))); conv => whnf) | (refine And.intro ⟨rfl, rfl⟩ (And.intro (by first | omega | (simp; omega)) ?_); conv => whnf) | (refine Exists.intro _ (And.intro rfl ?_); conv => whnf) | (refine And.intro (fun _ => ?_) (fun h => absurd h (by decide)); conv => whnf) | (refine And.intro (fun h => absurd h (by decide)) (fun _ => ?_); conv => whnf) | (refine .quiet (by kernel_rfl) ?_; conv => whnf))
              refine .mk _ _ _ _ (fun _ => hca) (by repeat (first | exact .nil | (apply BorL.cons; first | exact lS rfl | exact lR rfl | exact lM rfl rfl | exact lL rfl | exact lX rfl | exact lN | exact lNl | exact lSm rfl | exact lIm rfl | exact lP rfl | exact lQ rfl))) rfl ?_
              conv => whnf
              repeat (first | (refine And.intro ⟨by omega, by omega⟩ ?_; conv => whnf) | (refine And.intro (by omega) (And.intro rfl ?_); conv => whnf) | (refine And.intro rfl ?_; conv => whnf) | (refine And.intro (fun _ => ⟨by omega, by omega⟩) ?_; conv => whnf) | (refine And.intro (fun _ => by omega) (And.intro rfl ?_); conv => whnf) | (refine And.intro ⟨(by first | omega | (simp; omega)), (by first | omega | (simp; omega))⟩ ?_; conv => whnf) | (refine Exists.intro _ (And.intro rfl (And.intro (by first | omega | (simp; omega)) (And.intro ⟨rfl, rfl, rfl, rfl, rfl⟩ ?_))); conv => whnf) | (refine And.intro ⟨rfl, rfl⟩ (And.intro (by first | omega | (simp; omega)) ?_); conv => whnf) | (refine Exists.intro _ (And.intro rfl ?_); conv => whnf) | (refine And.intro (fun _ => ?_) (fun h => absurd h (by decide)); conv => whnf) | (refine And.intro (fun h => absurd h (by decide)) (fun _ => ?_); conv => whnf) | (refine .quiet (by kernel_rfl) ?_; conv => whnf))
              rw [hei, hej, hfi, hfj]
              refine ⟨fun hd => ?_, fun hd => ?_⟩
              · have hd' : cndX l D' R' i j = true := hd
                rw [if_pos hd'] at q1 q2 q3
                conv => whnf
                repeat (first | (refine And.intro ⟨by omega, by omega⟩ ?_; conv => whnf) | (refine And.intro (by omega) (And.intro rfl ?_); conv => whnf) | (refine And.intro rfl ?_; conv => whnf) | (refine And.intro (fun _ => ⟨by omega, by omega⟩) ?_; conv => whnf) | (refine And.intro (fun _ => by omega) (And.intro rfl ?_); conv => whnf) | (refine And.intro ⟨(by first | omega | (simp; omega)), (by first | omega | (simp; omega))⟩ ?_; conv => whnf) | (refine Exists.intro _ (And.intro rfl (And.intro (by first | omega | (simp; omega)) (And.intro ⟨rfl, rfl, rfl, rfl, rfl⟩ ?_))); conv => whnf) | (refine And.intro ⟨rfl, rfl⟩ (And.intro (by first | omega | (simp; omega)) ?_); conv => whnf) | (refine Exists.intro _ (And.intro rfl ?_); conv => whnf) | (refine And.intro (fun _ => ?_) (fun h => absurd h (by decide)); conv => whnf) | (refine And.intro (fun h => absurd h (by decide)) (fun _ => ?_); conv => whnf) | (refine .eff (by first | exact cxOk _ _ | exact cxPOk _ _ _) ?_; conv => whnf))
                rw [hei, hfi]
                refine up hjt trivial ((wk_of [(0, .id 0), (1, .id 1)] rfl ⟨.base (.tree _ _ rfl rfl), .base (.tree _ _ rfl rfl), (by first | exact .base (.own _ _ rfl) | exact .base (.nilown _ rfl) | exact .base (.trunc _ _ _ rfl)), (by first | exact .base (.own _ _ rfl) | exact .base (.nilown _ rfl) | exact .base (.trunc _ _ _ rfl)), .base (.tree _ _ (show AV.bool true = AV.bool (Q (j + 1)).ch by rw [q3]) rfl), .base (.tree _ _ rfl rfl), .base (.tree _ _ rfl rfl), trivial⟩ ⟨⟨_, rfl, (by first | exact .row _ _ _ _ _ _ _ rfl (by rw [q1, Int.toNat_natCast]) | exact .lstrow _ _ _ _ _ _ _ rfl (by rw [q1, Int.toNat_natCast]) | exact .nilrow _ _ _ _ _ (by rw [q1, Int.toNat_natCast]) | exact .truncrow _ _ _ _ _ _ _ _ rfl (by omega) (by rw [q1, Int.toNat_natCast]))⟩, ⟨_, rfl, (by first | exact .row _ _ _ _ _ _ _ rfl (by rw [q2, Int.toNat_natCast]) | exact .lstrow _ _ _ _ _ _ _ rfl (by rw [q2, Int.toNat_natCast]) | exact .nilrow _ _ _ _ _ (by rw [q2, Int.toNat_natCast]) | exact .truncrow _ _ _ _ _ _ _ _ rfl (by omega) (by rw [q2, Int.toNat_natCast]))⟩, trivial⟩))
              · have hd' : ¬ cndX l D' R' i j = true := by rw [show cndX l D' R' i j = false from hd]; exact Bool.noConfusion
                rw [if_neg hd'] at q1 q2 q3
                conv => whnf
                repeat (first | (refine And.intro ⟨by omega, by omega⟩ ?_; conv => whnf) | (refine And.intro (by omega) (And.intro rfl ?_); conv => whnf) | (refine And.intro rfl ?_; conv => whnf) | (refine And.intro (fun _ => ⟨by omega, by omega⟩) ?_; conv => whnf) | (refine And.intro (fun _ => by omega) (And.intro rfl ?_); conv => whnf) | (refine And.intro ⟨(by first | omega | (simp; omega)), (by first | omega | (simp; omega))⟩ ?_; conv => whnf) | (refine Exists.intro _ (And.intro rfl (And.intro (by first | omega | (simp; omega)) (And.intro ⟨rfl, rfl, rfl, rfl, rfl⟩ ?_))); conv => whnf) | (refine And.intro ⟨rfl, rfl⟩ (And.intro (by first | omega | (simp; omega)) ?_); conv => whnf) | (refine Exists.intro _ (And.intro rfl ?_); conv => whnf) | (refine And.intro (fun _ => ?_) (fun h => absurd h (by decide)); conv => whnf) | (refine And.intro (fun h => absurd h (by decide)) (fun _ => ?_); conv => whnf) | (refine .eff (by first | exact cxOk _ _ | exact cxPOk _ _ _) ?_; conv => whnf))
                refine up hjt trivial ((wk_of [(0, .id 0), (1, .id 1)] rfl ⟨.base (.tree _ _ rfl rfl), .base (.tree _ _ rfl rfl), (by first | exact .base (.own _ _ rfl) | exact .base (.nilown _ rfl) | exact .base (.trunc _ _ _ rfl)), (by first | exact .base (.own _ _ rfl) | exact .base (.nilown _ rfl) | exact .base (.trunc _ _ _ rfl)), .base (.tree _ _ (show AV.bool ch' = AV.bool (Q (j + 1)).ch by rw [q3]) rfl), .base (.tree _ _ rfl rfl), .base (.tree _ _ rfl rfl), trivial⟩ ⟨⟨_, rfl, (by first | exact .row _ _ _ _ _ _ _ rfl (by rw [q1]) | exact .lstrow _ _ _ _ _ _ _ rfl (by rw [q1]) | exact .nilrow _ _ _ _ _ (by rw [q1]) | exact .truncrow _ _ _ _ _ _ _ _ rfl (by omega) (by rw [q1]))⟩, ⟨_, rfl, (by first | exact .row _ _ _ _ _ _ _ rfl (by rw [q2]) | exact .lstrow _ _ _ _ _ _ _ rfl (by rw [q2]) | exact .nilrow _ _ _ _ _ (by rw [q2]) | exact .truncrow _ _ _ _ _ _ _ _ rfl (by omega) (by rw [q2]))⟩, trivial⟩))
            · simp only [decide_eq_false_iff_not] at hc3
              have : j = l.length := by omega
              subst this
              conv => whnf
              repeat (first | (refine And.intro ⟨by omega, by omega⟩ ?_; conv => whnf) | (refine And.intro (by omega) (And.intro rfl ?_); conv => whnf) | (refine And.intro rfl ?_; conv => whnf) | (refine And.intro (fun _ => ⟨by omega, by omega⟩) ?_; conv => whnf) | (refine And.intro (fun _ => by omega) (And.intro rfl ?_); conv => whnf) | (refine And.intro ⟨(by first | omega | (simp; omega)), (by first | omega | (simp; omega))⟩ ?_; conv => whnf) | (refine Exists.intro _ (And.intro rfl (And.intro (by first | omega | (simp; omega)) (And.intro ⟨rfl, rfl, rfl, rfl, rfl⟩ ?_))); conv => whnf) | (refine And.intro ⟨rfl, rfl⟩ (And.intro (by first | omega | (simp; omega)) ?_); conv => whnf) | (refine Exists.intro _ (And.intro rfl ?_); conv => whnf) | (refine And.intro (fun _ => ?_) (fun h => absurd h (by decide)); conv => whnf) | (refine And.intro (fun h => absurd h (by decide)) (fun _ => ?_); conv => whnf) | (refine .eff (by first | exact cxOk _ _ | exact cxPOk _ _ _) ?_; conv => whnf))
              rw [← hsucc]
              refine up hit trivial ((wk_of [(0, .id 0), (1, .id 1)] rfl ⟨.base (.tree _ _ rfl rfl), .base (.tree _ _ rfl rfl), (by first | exact .base (.own _ _ rfl) | exact .base (.nilown _ rfl) | exact .base (.trunc _ _ _ rfl)), (by first | exact .base (.own _ _ rfl) | exact .base (.nilown _ rfl) | exact .base (.trunc _ _ _ rfl)), .base (.tree _ _ rfl rfl), .base (.tree _ _ rfl rfl), trivial⟩ ⟨⟨_, rfl, (by first | exact .row _ _ _ _ _ _ _ rfl rfl | exact .lstrow _ _ _ _ _ _ _ rfl rfl | exact .nilrow _ _ _ _ _ rfl | exact .truncrow _ _ _ _ _ _ _ _ rfl (by omega) rfl)⟩, ⟨_, rfl, (by first | exact .row _ _ _ _ _ _ _ rfl rfl | exact .lstrow _ _ _ _ _ _ _ rfl rfl | exact .nilrow _ _ _ _ _ rfl | exact .truncrow _ _ _ _ _ _ _ _ rfl (by omega) rfl)⟩, trivial⟩))
          · simp only [decide_eq_false_iff_not] at hc2
            have : i = l.length := by omega
            subst this
            conv => whnf
            have hadv := hpl l.length (Nat.le_refl _)
            generalize P l.length = p at *
            refine ⟨p, ⟨hadv.1, fun hf => ?_⟩, ?_, (wk_of [(0, .id 0), (1, .id 1)] rfl ⟨.base (.tree _ _ rfl rfl), .base (.tree _ _ rfl rfl), (by first | exact .base (.own _ _ rfl) | exact .base (.nilown _ rfl) | exact .base (.trunc _ _ _ rfl)), (by first | exact .base (.own _ _ rfl) | exact .base (.nilown _ rfl) | exact .base (.trunc _ _ _ rfl)), .base (.tree _ _ rfl rfl), trivial⟩ ⟨⟨_, rfl, (by first | exact .row _ _ _ _ _ _ _ rfl rfl | exact .lstrow _ _ _ _ _ _ _ rfl rfl | exact .nilrow _ _ _ _ _ rfl | exact .truncrow _ _ _ _ _ _ _ _ rfl (by omega) rfl)⟩, ⟨_, rfl, (by first | exact .row _ _ _ _ _ _ _ rfl rfl | exact .lstrow _ _ _ _ _ _ _ rfl rfl | exact .nilrow _ _ _ _ _ rfl | exact .truncrow _ _ _ _ _ _ _ _ rfl (by omega) rfl)⟩, trivial⟩)⟩
            · obtain ⟨e, hcl⟩ := hpc hf
              rw [e]
              exact hcl
            · rcases hadv.2 with e | ⟨e, f⟩
              · rw [e]
                show 2 * muK l.length D R + 0 < 2 * muK l.length D R + 1
                omega
              · have e' : muK l.length p.D p.R < muK l.length D R := e
                show 2 * muK l.length p.D p.R + _ < 2 * muK l.length D R + 1
                rw [f]
                show 2 * muK l.length p.D p.R + 1 < 2 * muK l.length D R + 1
                omega
        · cases hc1
      | false =>
        refine ⟨fun hc1 => ?_, fun hc1 => ?_⟩
        · cases hc1
        have hcl := g2' rfl
        have hen := hend hR D R g1' hcl
        have hos := fun n => outX_succ l D R n
        have holen := fun n (hn : n ≤ l.length) => outX_len l D R n
        generalize hO : outX l D R = O at *
        have hO0 : O 0 = [] := by rw [← hO]; rfl
        have hb1 : D.length = l.length := g1'.dl
        have hb2 : R.length = l.length := g1'.rl
        conv => whnf
        refine loop_up (cxOk _ _) l.length (fun _ => True) (fun i => ⟨[(0, encDs l), (4, .int .i64 l.length), (5, .own 0), (6, .own 1), (11, .own 2), (12, .int .i64 (i : Nat))], [(0, .row 3 1 encI 0 D), (1, .row 3 1 encI 0 R), (2, .row 35 4 encC c0 (O i))], 3⟩) trivial (by rw [hO0]; exact (wk_of [(0, .id 0), (1, .id 1), (2, .nil)] rfl ⟨.base (.tree _ _ rfl rfl), .base (.tree _ _ rfl rfl), (by first | exact .base (.own _ _ rfl) | exact .base (.nilown _ rfl) | exact .base (.trunc _ _ _ rfl)), (by first | exact .base (.own _ _ rfl) | exact .base (.nilown _ rfl) | exact .base (.trunc _ _ _ rfl)), (by first | exact .base (.own _ _ rfl) | exact .base (.nilown _ rfl) | exact .base (.trunc _ _ _ rfl)), .base (.tree _ _ rfl rfl), trivial⟩ ⟨⟨_, rfl, (by first | exact .row _ _ _ _ _ _ _ rfl rfl | exact .lstrow _ _ _ _ _ _ _ rfl rfl | exact .nilrow _ _ _ _ _ rfl | exact .truncrow _ _ _ _ _ _ _ _ rfl (by omega) rfl)⟩, ⟨_, rfl, (by first | exact .row _ _ _ _ _ _ _ rfl rfl | exact .lstrow _ _ _ _ _ _ _ rfl rfl | exact .nilrow _ _ _ _ _ rfl | exact .truncrow _ _ _ _ _ _ _ _ rfl (by omega) rfl)⟩, ⟨_, rfl, (by first | exact .row _ _ _ _ _ _ _ rfl rfl | exact .lstrow _ _ _ _ _ _ _ rfl rfl | exact .nilrow _ _ _ _ _ rfl | exact .truncrow _ _ _ _ _ _ _ _ rfl (by omega) rfl)⟩, trivial⟩)) ?_
        intro i hi _
        conv => whnf
        refine ⟨fun hc2 => ?_, fun hc2 => ?_⟩
        · simp only [decide_eq_true_eq] at hc2
          have hit : i < l.length := by omega
          have hei : D.getD (i : Int).toNat 0 = D.getD i 0 := by rw [Int.toNat_natCast]
          have hfi : R.getD (i : Int).toNat 0 = R.getD i 0 := by rw [Int.toNat_natCast]
          have hosi := hos i
          have hol := holen i (by omega)
          have hb3 := g1'.bnd hit
          conv => whnf
          repeat (first | (refine And.intro ⟨by omega, by omega⟩ ?_; conv => whnf) | (refine And.intro (by omega) (And.intro rfl ?_); conv => whnf) | (refine And.intro rfl ?_; conv => whnf) | (refine And.intro (fun _ => ⟨by omega, by omega⟩) ?_; conv => whnf) | (refine And.intro (fun _ => by omega) (And.intro rfl ?_); conv => whnf) | (refine And.intro ⟨(by first | omega | (simp; omega)), (by first | omega | (simp; omega))⟩ ?_; conv => whnf) | (refine Exists.intro _ (And.intro rfl (And.intro (by first | omega | (simp; omega)) (And.intro ⟨rfl, rfl, rfl, rfl, rfl⟩ ?_))); conv => whnf) | (refine And.intro ⟨rfl, rfl⟩ (And.intro (by first | omega | (simp; omega)) ?_); conv => whnf) | (refine Exists.intro _ (And.intro rfl ?_); conv => whnf) | (refine And.intro (fun _ => ?_) (fun h => absurd h (by decide)); conv => whnf) | (refine And.intro (fun h => absurd h (by decide)) (fun _ => ?_); conv => whnf) | (refine .eff (by first | exact cxOk _ _ | exact cxPOk _ _ _) ?_; conv => whnf))
          rw [hei]
          refine ⟨fun hd => ?_, fun hd => ?_⟩
          · rw [if_pos (of_decide_eq_true hd), List.append_nil] at hosi
            conv => whnf
            repeat (first | (refine And.intro ⟨by omega, by omega⟩ ?_; conv => whnf) | (refine And.intro (by omega) (And.intro rfl ?_); conv => whnf) | (refine And.intro rfl ?_; conv => whnf) | (refine And.intro (fun _ => ⟨by omega, by omega⟩) ?_; conv => whnf) | (refine And.intro (fun _ => by omega) (And.intro rfl ?_); conv => whnf) | (refine And.intro ⟨(by first | omega | (simp; omega)), (by first | omega | (simp; omega))⟩ ?_; conv => whnf) | (refine Exists.intro _ (And.intro rfl (And.intro (by first | omega | (simp; omega)) (And.intro ⟨rfl, rfl, rfl, rfl, rfl⟩ ?_))); conv => whnf) | (refine And.intro ⟨rfl, rfl⟩ (And.intro (by first | omega | (simp; omega)) ?_); conv => whnf) | (refine Exists.intro _ (And.intro rfl ?_); conv => whnf) | (refine And.intro (fun _ => ?_) (fun h => absurd h (by decide)); conv => whnf) | (refine And.intro (fun h => absurd h (by decide)) (fun _ => ?_); conv => whnf) | (refine .eff (by first | exact cxOk _ _ | exact cxPOk _ _ _) ?_; conv => whnf))
            refine up hit trivial ((wk_of [(0, .id 0), (1, .id 1), (2, .id 2)] rfl ⟨.base (.tree _ _ rfl rfl), .base (.tree _ _ rfl rfl), (by first | exact .base (.own _ _ rfl) | exact .base (.nilown _ rfl) | exact .base (.trunc _ _ _ rfl)), (by first | exact .base (.own _ _ rfl) | exact .base (.nilown _ rfl) | exact .base (.trunc _ _ _ rfl)), (by first | exact .base (.own _ _ rfl) | exact .base (.nilown _ rfl) | exact .base (.trunc _ _ _ rfl)), .base (.tree _ _ rfl rfl), trivial⟩ ⟨⟨_, rfl, (by first | exact .row _ _ _ _ _ _ _ rfl rfl | exact .lstrow _ _ _ _ _ _ _ rfl rfl | exact .nilrow _ _ _ _ _ rfl | exact .truncrow _ _ _ _ _ _ _ _ rfl (by omega) rfl)⟩, ⟨_, rfl, (by first | exact .row _ _ _ _ _ _ _ rfl rfl | exact .lstrow _ _ _ _ _ _ _ rfl rfl | exact .nilrow _ _ _ _ _ rfl | exact .truncrow _ _ _ _ _ _ _ _ rfl (by omega) rfl)⟩, ⟨_, rfl, (by first | exact .row _ _ _ _ _ _ _ rfl (by rw [hosi]) | exact .lstrow _ _ _ _ _ _ _ rfl (by rw [hosi]) | exact .nilrow _ _ _ _ _ (by rw [hosi]) | exact .truncrow _ _ _ _ _ _ _ _ rfl (by omega) (by rw [hosi]))⟩, trivial⟩))
          · rw [if_neg (of_decide_eq_false hd)] at hosi
            conv => whnf
            repeat (first | (refine And.intro ⟨by omega, by omega⟩ ?_; conv => whnf) | (refine And.intro (by omega) (And.intro rfl ?_); conv => whnf) | (refine And.intro rfl ?_; conv => whnf) | (refine And.intro (fun _ => ⟨by omega, by omega⟩) ?_; conv => whnf) | (refine And.intro (fun _ => by omega) (And.intro rfl ?_); conv => whnf) | (refine And.intro ⟨(by first | omega | (simp; omega)), (by first | omega | (simp; omega))⟩ ?_; conv => whnf) | (refine Exists.intro _ (And.intro rfl (And.intro (by first | omega | (simp; omega)) (And.intro ⟨rfl, rfl, rfl, rfl, rfl⟩ ?_))); conv => whnf) | (refine And.intro ⟨rfl, rfl⟩ (And.intro (by first | omega | (simp; omega)) ?_); conv => whnf) | (refine Exists.intro _ (And.intro rfl ?_); conv => whnf) | (refine And.intro (fun _ => ?_) (fun h => absurd h (by decide)); conv => whnf) | (refine And.intro (fun h => absurd h (by decide)) (fun _ => ?_); conv => whnf) | (refine .eff (by first | exact cxOk _ _ | exact cxPOk _ _ _) ?_; conv => whnf))
            rw [hei, hfi]
            have hcau : cauX l D R i = ⟨i, if 0 < R.getD i 0 then leastFrom (becX l D R i) l.length l.length else -1, R.getD i 0, D.getD i 0⟩ := rfl
            have hls := fun m => (show leastFrom (becX l D R i) l.length (m + 1) = if becX l D R i (l.length - (m + 1)) = true then ((l.length - (m + 1) : Nat) : Int) else leastFrom (becX l D R i) l.length m from rfl)
            have hL0 : leastFrom (becX l D R i) l.length 0 = -1 := rfl
            generalize hL : leastFrom (becX l D R i) l.length = L at *
            refine loop_up (cxOk _ _) l.length (fun m => R.getD i 0 ≤ 0 → m = 0) (fun m => ⟨[(0, encDs l), (4, .int .i64 l.length), (5, .own 0), (6, .own 1), (11, .own 2), (12, .int .i64 (i : Nat)), (13, .ptr 3 0), (14, .int .i64 ((l.length : Int) - 1 - (m : Nat)))], [(0, .row 3 1 encI 0 D), (1, .row 3 1 encI 0 R), (2, .row 35 4 encC c0 (O i)), (3, .cells 35 [.int .i64 (i : Nat), .int .i64 (L m), .int .i64 (R.getD i 0), .int .i64 (D.getD i 0)])], 4⟩) (fun _ => rfl) (by rw [hL0]; exact (wk_of [(0, .id 0), (1, .id 1), (2, .id 2), (3, .id 3)] rfl ⟨.base (.tree _ _ rfl rfl), .base (.tree _ _ rfl rfl), (by first | exact .base (.own _ _ rfl) | exact .base (.nilown _ rfl) | exact .base (.trunc _ _ _ rfl)), (by first | exact .base (.own _ _ rfl) | exact .base (.nilown _ rfl) | exact .base (.trunc _ _ _ rfl)), (by first | exact .base (.own _ _ rfl) | exact .base (.nilown _ rfl) | exact .base (.trunc _ _ _ rfl)), .base (.tree _ _ rfl rfl), .base (.ptr _ _ _ rfl), .base (.tree _ _ (show AV.int .i64 _ = AV.int .i64 _ by congr 1; omega) rfl), trivial⟩ ⟨⟨_, rfl, (by first | exact .row _ _ _ _ _ _ _ rfl rfl | exact .lstrow _ _ _ _ _ _ _ rfl rfl | exact .nilrow _ _ _ _ _ rfl | exact .truncrow _ _ _ _ _ _ _ _ rfl (by omega) rfl)⟩, ⟨_, rfl, (by first | exact .row _ _ _ _ _ _ _ rfl rfl | exact .lstrow _ _ _ _ _ _ _ rfl rfl | exact .nilrow _ _ _ _ _ rfl | exact .truncrow _ _ _ _ _ _ _ _ rfl (by omega) rfl)⟩, ⟨_, rfl, (by first | exact .row _ _ _ _ _ _ _ rfl rfl | exact .lstrow _ _ _ _ _ _ _ rfl rfl | exact .nilrow _ _ _ _ _ rfl | exact .truncrow _ _ _ _ _ _ _ _ rfl (by omega) rfl)⟩, ⟨_, rfl, .cells _ _ _ _ rfl (by repeat (first | exact .nil | refine .cons (by first | exact .base (.tree _ _ rfl rfl) | exact .base (.own _ _ rfl) | exact .base (.ptr _ _ _ rfl) | exact .base (.map _ _ rfl) | exact .base (.nilown _ rfl)) ?_)) rfl⟩, trivial⟩)) ?_
            intro m hm hP
            conv => whnf
            repeat (first | (refine And.intro ⟨by omega, by omega⟩ ?_; conv => whnf) | (refine And.intro (by omega) (And.intro rfl ?_); conv => whnf) | (refine And.intro rfl ?_; conv => whnf) | (refine And.intro (fun _ => ⟨by omega, by omega⟩) ?_; conv => whnf) | (refine And.intro (fun _ => by omega) (And.intro rfl ?_); conv => whnf) | (refine And.intro ⟨(by first | omega | (simp; omega)), (by first | omega | (simp; omega))⟩ ?_; conv => whnf) | (refine Exists.intro _ (And.intro rfl (And.intro (by first | omega | (simp; omega)) (And.intro ⟨rfl, rfl, rfl, rfl, rfl⟩ ?_))); conv => whnf) | (refine And.intro ⟨rfl, rfl⟩ (And.intro (by first | omega | (simp; omega)) ?_); conv => whnf) | (refine Exists.intro _ (And.intro rfl ?_); conv => whnf) | (refine And.intro (fun _ => ?_) (fun h => absurd h (by decide)); conv => whnf) | (refine And.intro (fun h => absurd h (by decide)) (fun _ => ?_); conv => whnf) | (refine .eff (by first | exact cxOk _ _ | exact cxPOk _ _ _) ?_; conv => whnf))
            rw [hfi]
            refine ⟨fun hk2 => ?_, fun hk2 => ?_⟩
            · have hk2' : (decide (0 ≤ (l.length : Int) - 1 - (m : Int)) && decide (0 < R.getD i 0)) = true := hk2
              rw [Bool.and_eq_true, decide_eq_true_eq, decide_eq_true_eq] at hk2'
              obtain ⟨hm1, hr1⟩ := hk2'
              have hmt : m < l.length := by omega
              have hca := can2_ok l ((l.length : Int) - 1 - (m : Int)) i ⟨hm1, by omega⟩ ⟨by omega, by omega⟩
              have ek : ((l.length : Int) - 1 - (m : Int)).toNat = l.length - (m + 1) := by omega
              have ek2 : ((l.length - (m + 1) : Nat) : Int) = (l.length : Int) - 1 - (m : Int) := by omega
              rw [ek, Int.toNat_natCast] at hca
              have hlm := hls m
              conv => whnf
              repeat (first | (refine And.intro ⟨by omega, by omega⟩ ?_; conv => whnf) | (refine And.intro (by omega) (And.intro rfl ?_); conv => whnf) | (refine And.intro rfl ?_; conv => whnf) | (refine And.intro (fun _ => ⟨by omega, by omega⟩) ?_; conv => whnf) | (refine And.intro (fun _ => by omega) (And.intro rfl ?_); conv => whnf) | (refine And.intro ⟨(by first | omega | (simp; omega)), (by first | omega | (simp; omega))⟩ ?_; conv => whnf) | (refine Exists.intro _ (And.intro rfl (And.intro (by first | omega | (simp; omega)) (And.intro ⟨rfl, rfl, rfl, rfl, rfl⟩ ?_))); conv => whnf) | (refine And.intro ⟨rfl, rfl⟩ (And.intro (by first | omega | (simp; omega)) ?_); conv => whnf) | (refine Exists.intro _ (And.intro rfl ?_); conv => whnf) | (refine And.intro (fun _ => ?_) (fun h => absurd h (by decide)); conv => whnf) | (refine And.intro (fun h => absurd h (by decide)) (fun _ => ?_); conv => whnf) | (refine .quiet (by kernel_rfl) ?_; conv => whnf))
              refine .mk _ _ _ _ (fun _ => hca) (by repeat (first | exact .nil | (apply BorL.cons; first | exact lS rfl | exact lR rfl | exact lM rfl rfl | exact lL rfl | exact lX rfl | exact lN | exact lNl | exact lSm rfl | exact lIm rfl | exact lP rfl | exact lQ rfl))) rfl ?_
              conv => whnf
              repeat (first | (refine And.intro ⟨by omega, by omega⟩ ?_; conv => whnf) | (refine And.intro (by omega) (And.intro rfl ?_); conv => whnf) | (refine And.intro rfl ?_; conv => whnf) | (refine And.intro (fun _ => ⟨by omega, by omega⟩) ?_; conv => whnf) | (refine And.intro (fun _ => by omega) (And.intro rfl ?_); conv => whnf) | (refine And.intro ⟨(by first | omega | (simp; omega)), (by first | omega | (simp; omega))⟩ ?_; conv => whnf) | (refine Exists.intro _ (And.intro rfl (And.intro (by first | omega | (simp; omega)) (And.intro ⟨rfl, rfl, rfl, rfl, rfl⟩ ?_))); conv => whnf) | (refine And.intro ⟨rfl, rfl⟩ (And.intro (by first | omega | (simp; omega)) ?_); conv => whnf) | (refine Exists.intro _ (And.intro rfl ?_); conv => whnf) | (refine And.intro (fun _ => ?_) (fun h => absurd h (by decide)); conv => whnf) | (refine And.intro (fun h => absurd h (by decide)) (fun _ => ?_); conv => whnf) | (refine .quiet (by kernel_rfl) ?_; conv => whnf))
              rw [hei, hfi, ek]
              refine ⟨fun hz => ?_, fun hz => ?_⟩
              · have hz' : becX l D R i (l.length - (m + 1)) = true := hz
                rw [if_pos hz', ek2] at hlm
                conv => whnf
                repeat (first | (refine And.intro ⟨by omega, by omega⟩ ?_; conv => whnf) | (refine And.intro (by omega) (And.intro rfl ?_); conv => whnf) | (refine And.intro rfl ?_; conv => whnf) | (refine And.intro (fun _ => ⟨by omega, by omega⟩) ?_; conv => whnf) | (refine And.intro (fun _ => by omega) (And.intro rfl ?_); conv => whnf) | (refine And.intro ⟨(by first | omega | (simp; omega)), (by first | omega | (simp; omega))⟩ ?_; conv => whnf) | (refine Exists.intro _ (And.intro rfl (And.intro (by first | omega | (simp; omega)) (And.intro ⟨rfl, rfl, rfl, rfl, rfl⟩ ?_))); conv => whnf) | (refine And.intro ⟨rfl, rfl⟩ (And.intro (by first | omega | (simp; omega)) ?_); conv => whnf) | (refine Exists.intro _ (And.intro rfl ?_); conv => whnf) | (refine And.intro (fun _ => ?_) (fun h => absurd h (by decide)); conv => whnf) | (refine And.intro (fun h => absurd h (by decide)) (fun _ => ?_); conv => whnf) | (refine .eff (by first | exact cxOk _ _ | exact cxPOk _ _ _) ?_; conv => whnf))
                refine up hmt (fun h => by omega) ((wk_of [(0, .id 0), (1, .id 1), (2, .id 2), (3, .id 3)] rfl ⟨.base (.tree _ _ rfl rfl), .base (.tree _ _ rfl rfl), (by first | exact .base (.own _ _ rfl) | exact .base (.nilown _ rfl) | exact .base (.trunc _ _ _ rfl)), (by first | exact .base (.own _ _ rfl) | exact .base (.nilown _ rfl) | exact .base (.trunc _ _ _ rfl)), (by first | exact .base (.own _ _ rfl) | exact .base (.nilown _ rfl) | exact .base (.trunc _ _ _ rfl)), .base (.tree _ _ rfl rfl), .base (.ptr _ _ _ rfl), .base (.tree _ _ (show AV.int .i64 _ = AV.int .i64 _ by congr 1; omega) rfl), trivial⟩ ⟨⟨_, rfl, (by first | exact .row _ _ _ _ _ _ _ rfl rfl | exact .lstrow _ _ _ _ _ _ _ rfl rfl | exact .nilrow _ _ _ _ _ rfl | exact .truncrow _ _ _ _ _ _ _ _ rfl (by omega) rfl)⟩, ⟨_, rfl, (by first | exact .row _ _ _ _ _ _ _ rfl rfl | exact .lstrow _ _ _ _ _ _ _ rfl rfl | exact .nilrow _ _ _ _ _ rfl | exact .truncrow _ _ _ _ _ _ _ _ rfl (by omega) rfl)⟩, ⟨_, rfl, (by first | exact .row _ _ _ _ _ _ _ rfl rfl | exact .lstrow _ _ _ _ _ _ _ rfl rfl | exact .nilrow _ _ _ _ _ rfl | exact .truncrow _ _ _ _ _ _ _ _ rfl (by omega) rfl)⟩, ⟨_, rfl, .cells _ _ _ _ rfl (by repeat (first | exact .nil | refine .cons (by first | exact .base (.tree _ _ rfl rfl) | exact .base (.own _ _ rfl) | exact .base (.ptr _ _ _ rfl) | exact .base (.map _ _ rfl) | exact .base (.nilown _ rfl) | exact .base (.tree _ _ (by rw [hlm]) rfl)) ?_)) rfl⟩, trivial⟩))
              · have hz' : ¬ becX l D R i (l.length - (m + 1)) = true := by rw [show becX l D R i (l.length - (m + 1)) = false from hz]; exact Bool.noConfusion
                rw [if_neg hz'] at hlm
                conv => whnf
                repeat (first | (refine And.intro ⟨by omega, by omega⟩ ?_; conv => whnf) | (refine And.intro (by omega) (And.intro rfl ?_); conv => whnf) | (refine And.intro rfl ?_; conv => whnf) | (refine And.intro (fun _ => ⟨by omega, by omega⟩) ?_; conv => whnf) | (refine And.intro (fun _ => by omega) (And.intro rfl ?_); conv => whnf) | (refine And.intro ⟨(by first | omega | (simp; omega)), (by first | omega | (simp; omega))⟩ ?_; conv => whnf) | (refine Exists.intro _ (And.intro rfl (And.intro (by first | omega | (simp; omega)) (And.intro ⟨rfl, rfl, rfl, rfl, rfl⟩ ?_))); conv => whnf) | (refine And.intro ⟨rfl, rfl⟩ (And.intro (by first | omega | (simp; omega)) ?_); conv => whnf) | (refine Exists.intro _ (And.intro rfl ?_); conv => whnf) | (refine And.intro (fun _ => ?_) (fun h => absurd h (by decide)); conv => whnf) | (refine And.intro (fun h => absurd h (by decide)) (fun _ => ?_); conv => whnf) | (refine .eff (by first | exact cxOk _ _ | exact cxPOk _ _ _) ?_; conv => whnf))
                refine up hmt (fun h => by omega) ((wk_of [(0, .id 0), (1, .id 1), (2, .id 2), (3, .id 3)] rfl ⟨.base (.tree _ _ rfl rfl), .base (.tree _ _ rfl rfl), (by first | exact .base (.own _ _ rfl) | exact .base (.nilown _ rfl) | exact .base (.trunc _ _ _ rfl)), (by first | exact .base (.own _ _ rfl) | exact .base (.nilown _ rfl) | exact .base (.trunc _ _ _ rfl)), (by first | exact .base (.own _ _ rfl) | exact .base (.nilown _ rfl) | exact .base (.trunc _ _ _ rfl)), .base (.tree _ _ rfl rfl), .base (.ptr _ _ _ rfl), .base (.tree _ _ (show AV.int .i64 _ = AV.int .i64 _ by congr 1; omega) rfl), trivial⟩ ⟨⟨_, rfl, (by first | exact .row _ _ _ _ _ _ _ rfl rfl | exact .lstrow _ _ _ _ _ _ _ rfl rfl | exact .nilrow _ _ _ _ _ rfl | exact .truncrow _ _ _ _ _ _ _ _ rfl (by omega) rfl)⟩, ⟨_, rfl, (by first | exact .row _ _ _ _ _ _ _ rfl rfl | exact .lstrow _ _ _ _ _ _ _ rfl rfl | exact .nilrow _ _ _ _ _ rfl | exact .truncrow _ _ _ _ _ _ _ _ rfl (by omega) rfl)⟩, ⟨_, rfl, (by first | exact .row _ _ _ _ _ _ _ rfl rfl | exact .lstrow _ _ _ _ _ _ _ rfl rfl | exact .nilrow _ _ _ _ _ rfl | exact .truncrow _ _ _ _ _ _ _ _ rfl (by omega) rfl)⟩, ⟨_, rfl, .cells _ _ _ _ rfl (by repeat (first | exact .nil | refine .cons (by first | exact .base (.tree _ _ rfl rfl) | exact .base (.own _ _ rfl) | exact .base (.ptr _ _ _ rfl) | exact .base (.map _ _ rfl) | exact .base (.nilown _ rfl) | exact .base (.tree _ _ (by rw [hlm]) rfl)) ?_)) rfl⟩, trivial⟩))
            · have hk2' : (decide (0 ≤ (l.length : Int) - 1 - (m : Int)) && decide (0 < R.getD i 0)) = false := hk2
              rw [Bool.and_eq_false_iff, decide_eq_false_iff_not, decide_eq_false_iff_not] at hk2'
              have hLm : L m = if 0 < R.getD i 0 then L l.length else -1 := by
                by_cases h0 : 0 < R.getD i 0
                · rw [if_pos h0, show m = l.length by omega]
                · rw [if_neg h0, hP (by omega), hL0]
              rw [hLm]
              conv => whnf
              repeat (first | (refine And.intro ⟨by omega, by omega⟩ ?_; conv => whnf) | (refine And.intro (by omega) (And.intro rfl ?_); conv => whnf) | (refine And.intro rfl ?_; conv => whnf) | (refine And.intro (fun _ => ⟨by omega, by omega⟩) ?_; conv => whnf) | (refine And.intro (fun _ => by omega) (And.intro rfl ?_); conv => whnf) | (refine And.intro ⟨(by first | omega | (simp; omega)), (by first | omega | (simp; omega))⟩ ?_; conv => whnf) | (refine Exists.intro _ (And.intro rfl (And.intro (by first | omega | (simp; omega)) (And.intro ⟨rfl, rfl, rfl, rfl, rfl⟩ ?_))); conv => whnf) | (refine And.intro ⟨rfl, rfl⟩ (And.intro (by first | omega | (simp; omega)) ?_); conv => whnf) | (refine Exists.intro _ (And.intro rfl ?_); conv => whnf) | (refine And.intro (fun _ => ?_) (fun h => absurd h (by decide)); conv => whnf) | (refine And.intro (fun h => absurd h (by decide)) (fun _ => ?_); conv => whnf) | (refine .eff (by first | exact cxOk _ _ | exact cxPOk _ _ _) ?_; conv => whnf))
              refine And.intro ⟨rfl, rfl⟩ (And.intro (show ((O i).length + 1) * 32 ≤ 140737488355328 by omega) ?_)
              conv => whnf
              refine ⟨cauX l D R i, by rw [hcau]; rfl, ?_⟩
              conv => whnf
              repeat (first | (refine And.intro ⟨by omega, by omega⟩ ?_; conv => whnf) | (refine And.intro (by omega) (And.intro rfl ?_); conv => whnf) | (refine And.intro rfl ?_; conv => whnf) | (refine And.intro (fun _ => ⟨by omega, by omega⟩) ?_; conv => whnf) | (refine And.intro (fun _ => by omega) (And.intro rfl ?_); conv => whnf) | (refine And.intro ⟨(by first | omega | (simp; omega)), (by first | omega | (simp; omega))⟩ ?_; conv => whnf) | (refine Exists.intro _ (And.intro rfl (And.intro (by first | omega | (simp; omega)) (And.intro ⟨rfl, rfl, rfl, rfl, rfl⟩ ?_))); conv => whnf) | (refine And.intro ⟨rfl, rfl⟩ (And.intro (by first | omega | (simp; omega)) ?_); conv => whnf) | (refine Exists.intro _ (And.intro rfl ?_); conv => whnf) | (refine And.intro (fun _ => ?_) (fun h => absurd h (by decide)); conv => whnf) | (refine And.intro (fun h => absurd h (by decide)) (fun _ => ?_); conv => whnf) | (refine .eff (by first | exact cxOk _ _ | exact cxPOk _ _ _) ?_; conv => whnf))
              refine up hit trivial ((wk_of [(0, .id 0), (1, .id 1), (2, .id 5)] rfl ⟨.base (.tree _ _ rfl rfl), .base (.tree _ _ rfl rfl), (by first | exact .base (.own _ _ rfl) | exact .base (.nilown _ rfl) | exact .base (.trunc _ _ _ rfl)), (by first | exact .base (.own _ _ rfl) | exact .base (.nilown _ rfl) | exact .base (.trunc _ _ _ rfl)), (by first | exact .base (.own _ _ rfl) | exact .base (.nilown _ rfl) | exact .base (.trunc _ _ _ rfl)), .base (.tree _ _ rfl rfl), trivial⟩ ⟨⟨_, rfl, (by first | exact .row _ _ _ _ _ _ _ rfl rfl | exact .lstrow _ _ _ _ _ _ _ rfl rfl | exact .nilrow _ _ _ _ _ rfl | exact .truncrow _ _ _ _ _ _ _ _ rfl (by omega) rfl)⟩, ⟨_, rfl, (by first | exact .row _ _ _ _ _ _ _ rfl rfl | exact .lstrow _ _ _ _ _ _ _ rfl rfl | exact .nilrow _ _ _ _ _ rfl | exact .truncrow _ _ _ _ _ _ _ _ rfl (by omega) rfl)⟩, ⟨_, rfl, (by first | exact .row _ _ _ _ _ _ _ rfl (hosi.symm) | exact .lstrow _ _ _ _ _ _ _ rfl (hosi.symm) | exact .nilrow _ _ _ _ _ (hosi.symm) | exact .truncrow _ _ _ _ _ _ _ _ rfl (by omega) (hosi.symm))⟩, trivial⟩))
        · simp only [decide_eq_false_iff_not] at hc2
          have : i = l.length := by omega
          subst this
          rw [← hen]
          conv => whnf
          rfl

end Go.Proofs.Ytkldidgcgioceaa
