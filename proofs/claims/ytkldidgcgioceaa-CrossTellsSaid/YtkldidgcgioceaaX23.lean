import Derived.Test.YtkldidgcgioceaaX15
namespace Go.Proofs.Ytkldidgcgioceaa
open Go.Own
set_option maxHeartbeats 1000000

theorem bad_over {d : Debt} (h : badD d = false) : -1 ≤ d.over ∧ -1 ≤ d.fast := by
  unfold badD inB at h
  simp only [Bool.or_eq_false_iff, Bool.not_eq_false', Bool.and_eq_true, decide_eq_true_eq] at h
  omega
theorem right_at' {l : List Debt} (h : rightB l = true) {k : Nat} (hk : k < l.length) : badD (l.getD k d0) = false := by
  unfold rightB at h
  simp only [Bool.and_eq_true, Bool.not_eq_true'] at h
  have := List.any_eq_false.1 h.2 _ (getD_mem (d := d0) hk)
  simpa using this
theorem can2_eq {l : List Debt} (h : rightB l = true) {i j : Nat} (hj : j < l.length) : can2 l i j = can l i j := by
  have := (bad_over (right_at' h hj)).1
  unfold can2 can
  generalize (l.getD j d0).over = v at *
  have e : (!decide (v = -1)) = decide (0 ≤ v) := by
    rw [Bool.eq_iff_iff]
    simp
    omega
  rw [e]

/-- The path of a cause. -/
structure Path (l : List Debt) (F : Nat → Option Cau) (A : List Cau) (j : Nat) (c : Cau) (r : Nat) (p : List Nat) : Prop where
  len : p.length = r + 1
  head : p.getD 0 0 = j
  go : ∀ f out, r + 1 ≤ f → chainG A f j out = out ++ castL p
  at' : ∀ i, i < r + 1 → ∃ ci, F (p.getD i 0) = some ci ∧ ci.round + i = r ∧ ci.day = c.day
  can : ∀ i, 0 < i → i < r + 1 → can l (p.getD i 0) (p.getD (i - 1) 0) = true
  last : fastOf l (p.getD r 0) = c.day

theorem path_of {l : List Debt} {F : Nat → Option Cau} {A : List Cau} (h : Sol l F) (hA : ∀ j : Nat, findC A j = F j) : ∀ (r : Nat) (j : Nat) (c : Cau), c.round = (r : Int) → F j = some c → ∃ p, Path l F A j c r p := by
  intro r
  induction r with
  | zero =>
    intro j c hr hc
    obtain ⟨a1, _, _, _, a5⟩ := h.val j c hc
    rcases a5 with ⟨b1, _, b3⟩ | ⟨_, p, cp, _, hp, _, hpr, _⟩
    · refine ⟨[j], rfl, rfl, fun f out hf => ?_, fun i hi => ?_, fun i h0 hi => by omega, b3⟩
      · obtain ⟨f', rfl⟩ : ∃ f', f = f' + 1 := ⟨f - 1, by omega⟩
        show (match findC A j with | none => [] | some c => if c.because = -1 then out ++ [(j : Int)] else _) = _
        rw [hA, hc]
        show (if c.because = -1 then out ++ [(j : Int)] else _) = _
        rw [if_pos b1]
        rfl
      · have : i = 0 := by omega
        subst this
        exact ⟨c, hc, by omega, rfl⟩
    · have := (h.val p cp hp).2.2.1
      omega
  | succ r ih =>
    intro j c hr hc
    obtain ⟨a1, _, _, _, a5⟩ := h.val j c hc
    rcases a5 with ⟨_, b1, _⟩ | ⟨_, p, cp, hb, hp, hpd, hpr, hpc, _⟩
    · omega
    · obtain ⟨q, hq⟩ := ih p cp (by omega) hp
      refine ⟨j :: q, by rw [List.length_cons, hq.len], rfl, fun f out hf => ?_, fun i hi => ?_, fun i h0 hi => ?_, ?_⟩
      · obtain ⟨f', rfl⟩ : ∃ f', f = f' + 1 := ⟨f - 1, by omega⟩
        show (match findC A j with | none => [] | some c => if c.because = -1 then out ++ [(j : Int)] else chainG A f' c.because (out ++ [(j : Int)])) = _
        rw [hA, hc]
        show (if c.because = -1 then out ++ [(j : Int)] else chainG A f' c.because (out ++ [(j : Int)])) = _
        rw [if_neg (by omega), hb, hq.go f' _ (by omega), List.append_assoc]
        rfl
      · match i, hi with
        | 0, _ => exact ⟨c, hc, by omega, rfl⟩
        | i + 1, hi =>
          obtain ⟨ci, e1, e2, e3⟩ := hq.at' i (by omega)
          exact ⟨ci, e1, by omega, e3.trans hpd⟩
      · match i, h0, hi with
        | 1, _, _ =>
          show Go.Proofs.Ytkldidgcgioceaa.can l (q.getD 0 0) j = true
          rw [hq.head]
          exact hpc
        | i + 2, _, hi => exact hq.can (i + 1) (by omega) (by omega)
      · show fastOf l (q.getD r 0) = c.day
        rw [hq.last, hpd]

theorem castL_get (p : List Nat) (i : Nat) (h : i < p.length) : (castL p).getD i 0 = (p.getD i 0 : Nat) := by
  unfold castL
  rw [List.getD_eq_getElem?_getD, List.getElem?_map, List.getElem?_eq_getElem h, List.getD_eq_getElem?_getD, List.getElem?_eq_getElem h]
  rfl

/-- What the statement says of one issue that defaults. -/
structure ChainOk (l : List Debt) (A : List Cau) (j : Nat) (c : Cau) (K : List Int) : Prop where
  len : (K.length : Int) = c.round + 1
  small : K.length ≤ A.length
  rng : ∀ i, i < K.length → 0 ≤ K.getD i 0 ∧ K.getD i 0 < l.length
  dis : ∀ i m, m < i → i < K.length → K.getD m 0 ≠ K.getD i 0
  can : ∀ i, 0 < i → i < K.length → can l (K.getD i 0).toNat (K.getD (i - 1) 0).toNat = true
  head : K.getD 0 0 = j
  last : (l.getD (K.getD (K.length - 1) 0).toNat d0).fast = c.day
  ne : K ≠ []

theorem chain_plain {l : List Debt} {j : Nat} {c : Cau} (hc : findC (closeL l) j = some c) : ChainOk l (closeL l) j c (chainL (closeL l) j) := by
  have hS := closeSol l
  obtain ⟨a1, a2, a3, _⟩ := hS.val j c hc
  obtain ⟨p, hp⟩ := path_of hS (fun _ => rfl) c.round.toNat j c (by omega) hc
  have hfew : ∀ c ∈ closeL l, c.round < (closeL l).length := rounds_few fun c hc hr => by
    have hi := close_in l c hc
    unfold inL at hi
    have hf := findC_sorted (close_sorted l) hc
    have hf' : findC (closeL l) ((c.issue.toNat : Nat) : Int) = some c := by rw [show ((c.issue.toNat : Nat) : Int) = c.issue by omega]; exact hf
    obtain ⟨_, _, _, _, h5⟩ := hS.val c.issue.toNat c hf'
    rcases h5 with ⟨_, h5, _⟩ | ⟨_, q, cq, _, hq, _, hqr, _⟩
    · omega
    · exact ⟨cq, (findC_mem hq).1, hqr⟩
  have hlt := hfew c (findC_mem hc).1
  have hK : chainL (closeL l) j = castL p := by
    unfold chainL
    rw [hp.go _ _ (by omega)]
    rfl
  have hl : (castL p).length = c.round.toNat + 1 := by unfold castL; rw [List.length_map, hp.len]
  rw [hK]
  have hg : ∀ i, i < c.round.toNat + 1 → (castL p).getD i 0 = (p.getD i 0 : Nat) := fun i hi => castL_get p i (by rw [hp.len]; exact hi)
  refine ⟨by omega, by omega, fun i hi => ?_, fun i m hm hi e => ?_, fun i h0 hi => ?_, ?_, ?_, fun e => by rw [e] at hl; simp at hl⟩
  · rw [hl] at hi
    rw [hg i hi]
    obtain ⟨ci, e1, _⟩ := hp.at' i hi
    have := (hS.val _ ci e1).1
    omega
  · rw [hl] at hi
    rw [hg i hi, hg m (by omega)] at e
    obtain ⟨ci, e1, e2, _⟩ := hp.at' i hi
    obtain ⟨cm, f1, f2, _⟩ := hp.at' m (by omega)
    have : p.getD m 0 = p.getD i 0 := by omega
    rw [this, e1] at f1
    cases f1
    omega
  · rw [hl] at hi
    rw [hg i hi, hg (i - 1) (by omega), Int.toNat_natCast, Int.toNat_natCast]
    exact hp.can i h0 hi
  · rw [hg 0 (by omega), hp.head]
  · rw [hl, Nat.add_sub_cancel, hg _ (by omega), Int.toNat_natCast]
    exact hp.last

theorem none_plain {l : List Debt} (hR : rightB l = true) {j : Nat} (hj : j < l.length) (hc : findC (closeL l) j = none) : chainL (closeL l) j = [] ∧ (l.getD j d0).fast = -1 ∧ ∀ o ∈ closeL l, can l o.issue.toNat j = false := by
  have hS := closeSol l
  refine ⟨?_, ?_, fun o ho => ?_⟩
  · unfold chainL
    cases (closeL l).length with
    | zero => rfl
    | succ f =>
      show (match findC (closeL l) j with | none => [] | some c => _) = _
      rw [hc]
  · have hb := (bad_over (right_at' hR hj)).2
    by_cases h0 : 0 ≤ (l.getD j d0).fast
    · obtain ⟨cj, e1, _⟩ := hS.sat j hj ⟨h0, j, hj, rfl⟩
      have e1' : findC (closeL l) (j : Int) = some cj := e1
      rw [hc] at e1'
      cases e1'
    · omega
  · cases hcan : can l o.issue.toNat j with
    | false => rfl
    | true =>
      have hi := close_in l o ho
      unfold inL at hi
      have hf := findC_sorted (close_sorted l) ho
      have hf' : findC (closeL l) ((o.issue.toNat : Nat) : Int) = some o := by rw [show ((o.issue.toNat : Nat) : Int) = o.issue by omega]; exact hf
      obtain ⟨cj, e1, _⟩ := hS.clo o.issue.toNat o j hf' hj hcan
      have e1' : findC (closeL l) (j : Int) = some cj := e1
      rw [hc] at e1'
      cases e1'

/-- Where it stands. -/
theorem at_plain {A : List Cau} (hs : A.Pairwise (fun a b => a.issue < b.issue)) {j : Int} {c : Cau} (hc : findC A j = some c) : ∃ n, n < A.length ∧ A.getD n c0 = c ∧ ∀ k, k < A.length → ((A.getD k c0).issue = j ↔ k = n) := by
  obtain ⟨hm, he⟩ := findC_mem hc
  obtain ⟨n, hn, e⟩ := List.getElem_of_mem hm
  have hg : ∀ k (h : k < A.length), A.getD k c0 = A[k] := fun k h => by rw [List.getD_eq_getElem?_getD, List.getElem?_eq_getElem h]; rfl
  refine ⟨n, hn, by rw [hg n hn, e], fun k hk => ?_⟩
  rw [hg k hk]
  constructor
  · intro h
    rcases Nat.lt_trichotomy k n with hlt | heq | hgt
    · have := List.pairwise_iff_getElem.1 hs k n hk hn hlt
      rw [e] at this
      omega
    · exact heq
    · have := List.pairwise_iff_getElem.1 hs n k hn hk hgt
      rw [e] at this
      omega
  · rintro rfl
    rw [e]
    exact he

end Go.Proofs.Ytkldidgcgioceaa
