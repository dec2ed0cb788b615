import Derived.Test.YtkldidgcgioceaaX12
namespace Go.Proofs.Ytkldidgcgioceaa
open Go.Own
set_option maxHeartbeats 1000000

theorem ordB_sorted {n : Nat} : ∀ {cs : List Cau} {last : Int}, ordB n last cs = true → cs.Pairwise (fun a b => a.issue < b.issue) ∧ ∀ c ∈ cs, last < c.issue
  | [], _, _ => ⟨List.Pairwise.nil, fun c h => by cases h⟩
  | d :: cs, last, h => by
    unfold ordB at h
    simp only [Bool.and_eq_true, Bool.not_eq_true', Bool.or_eq_false_iff, decide_eq_false_iff_not] at h
    obtain ⟨h1, h2⟩ := ordB_sorted h.2
    refine ⟨List.pairwise_cons.2 ⟨h2, h1⟩, fun c hc => ?_⟩
    rcases List.mem_cons.1 hc with e | hc
    · subst e; omega
    · have := h2 c hc
      omega
theorem ordB_of {n : Nat} : ∀ {cs : List Cau} {last : Int}, cs.Pairwise (fun a b => a.issue < b.issue) → (∀ c ∈ cs, last < c.issue ∧ c.issue < n) → ordB n last cs = true
  | [], _, _, _ => rfl
  | d :: cs, last, h, hb => by
    rw [List.pairwise_cons] at h
    have hd := hb d List.mem_cons_self
    unfold ordB
    rw [ordB_of h.2 (fun c hc => ⟨h.1 c hc, (hb c (List.mem_cons_of_mem _ hc)).2⟩), decide_eq_false (show ¬ d.issue ≤ last by omega), decide_eq_false (show ¬ (n : Int) ≤ d.issue by omega)]
    rfl

theorem fast_at (l : List Debt) {i : Int} (h : 0 ≤ i) (j : Nat) (e : i = j) : (l.getD i.toNat d0).fast = fastOf l j := by
  subst e
  rw [Int.toNat_natCast]
  rfl

/-- The first of an ascending list that has it. -/
theorem firstC_spec {p : Cau → Bool} {la : List Cau} (h : 0 ≤ firstI p la) : la.getD (firstI p la).toNat c0 ∈ la ∧ p (la.getD (firstI p la).toNat c0) = true ∧ (la.Pairwise (fun a b => a.issue < b.issue) → ∀ q ∈ la, q.issue < (la.getD (firstI p la).toNat c0).issue → p q = false) := by
  unfold firstI at h ⊢
  split at h
  · rename_i hlt
    rw [if_pos hlt, Int.toNat_natCast]
    have hg : la.getD (la.findIdx p) c0 = la[la.findIdx p] := by rw [List.getD_eq_getElem?_getD, List.getElem?_eq_getElem hlt]; rfl
    rw [hg]
    refine ⟨List.getElem_mem hlt, List.findIdx_getElem (w := hlt), fun hs q hq hqlt => ?_⟩
    obtain ⟨i, hi, rfl⟩ := List.getElem_of_mem hq
    have hil : i < la.findIdx p := by
      cases Nat.lt_or_ge i (la.findIdx p) with
      | inl h => exact h
      | inr h =>
        exfalso
        by_cases e : i = la.findIdx p
        · subst e
          omega
        · have := List.pairwise_iff_getElem.1 hs (la.findIdx p) i hlt hi (by omega)
          omega
    have := List.not_of_lt_findIdx hil
    simpa using this
  · omega
theorem firstC_any {p : Cau → Bool} {la : List Cau} : 0 ≤ firstI p la ↔ ∃ x ∈ la, p x = true := by
  have := @firstI_pos Cau p la
  rw [← List.any_eq_true, ← this, decide_eq_true_eq]

def in64 (n : Int) : Prop := -9223372036854775808 ≤ n ∧ n ≤ 9223372036854775807

theorem check_sol {l : List Debt} {cs : List Cau} (hlen : cs.length ≤ 1000000) (h64 : ∀ c ∈ cs, in64 c.round) (h : checkL l cs = true) : Sol l (fun j => findC cs (j : Nat)) ∧ cs.Pairwise (fun a b => a.issue < b.issue) ∧ ∀ c ∈ cs, inL l c.issue := by
  unfold checkL at h
  simp only [Bool.and_eq_true, Bool.not_eq_true'] at h
  obtain ⟨hR, hO, hJ, hA⟩ := h
  obtain ⟨hs, _⟩ := ordB_sorted hO
  have hin : ∀ c ∈ cs, inL l c.issue := ordB_in (by decide) hO
  have hj : ∀ c ∈ cs, justB l cs c = true := fun c hc => by
    have := List.any_eq_false.1 hJ c hc
    simpa using this
  have raw : ∀ c ∈ cs, (c.because = -1 ∧ c.round = 0 ∧ 0 ≤ (l.getD c.issue.toNat d0).fast ∧ c.day = (l.getD c.issue.toNat d0).fast) ∨ (¬ (0 ≤ (l.getD c.issue.toNat d0).fast ∧ (l.getD c.issue.toNat d0).fast ≤ c.day) ∧ ∃ o ∈ cs, o.issue = c.because ∧ o.day = c.day ∧ w64 (o.round + 1) = c.round ∧ 0 ≤ o.round ∧ can l o.issue.toNat c.issue.toNat = true ∧
      ∀ q ∈ cs, q.issue < o.issue → jp l c q = false) := fun c hc => by
    have h := hj c hc
    unfold justB at h
    split at h
    · rename_i hb
      simp only [Bool.and_eq_true, decide_eq_true_eq] at h
      exact .inl ⟨hb, h.1.1, h.1.2, h.2⟩
    · split at h
      · cases h
      · rename_i hf
        simp only [Bool.and_eq_true, decide_eq_true_eq] at h hf
        obtain ⟨h1, h2⟩ := h
        obtain ⟨f1, f2, f3⟩ := firstC_spec h1
        generalize cs.getD (firstI (jp l c) cs).toNat c0 = o at *
        have f2' := f2
        unfold jp at f2'
        simp only [Bool.and_eq_true, decide_eq_true_eq] at f2'
        exact .inr ⟨hf, o, f1, h2, f2'.1.1.1, f2'.1.1.2, f2'.1.2, f2'.2, f3 hs⟩
  have hfew : ∀ c ∈ cs, c.round < cs.length := rounds_few fun c hc hr => by
    rcases raw c hc with ⟨_, h2, _⟩ | ⟨_, o, ho, _, _, hw, h0, _⟩
    · omega
    · refine ⟨o, ho, ?_⟩
      by_cases hb : o.round + 1 ≤ 9223372036854775807
      · rw [w64_in ⟨by omega, hb⟩] at hw
        exact hw
      · exfalso
        have hto := (h64 o ho).2
        rw [show o.round + 1 = 9223372036854775808 by omega, w64_top] at hw
        omega
  have step : ∀ c ∈ cs, (c.because = -1 ∧ c.round = 0 ∧ 0 ≤ (l.getD c.issue.toNat d0).fast ∧ c.day = (l.getD c.issue.toNat d0).fast) ∨ (¬ (0 ≤ (l.getD c.issue.toNat d0).fast ∧ (l.getD c.issue.toNat d0).fast ≤ c.day) ∧ ∃ o ∈ cs, o.issue = c.because ∧ o.day = c.day ∧ o.round + 1 = c.round ∧ 0 ≤ o.round ∧ can l o.issue.toNat c.issue.toNat = true ∧
      ∀ q ∈ cs, q.issue < o.issue → jp l c q = false) := fun c hc => by
    rcases raw c hc with h | ⟨h1, o, ho, h2, h3, h4, h5, h6⟩
    · exact .inl h
    · have := hfew o ho
      rw [w64_in ⟨by omega, by omega⟩] at h4
      exact .inr ⟨h1, o, ho, h2, h3, h4, h5, h6⟩
  have hnn : ∀ c ∈ cs, 0 ≤ c.round := fun c hc => by
    rcases step c hc with ⟨_, h, _⟩ | ⟨_, o, _, _, _, h, h2, _⟩ <;> omega
  have hday : ∀ (n : Nat) c, c ∈ cs → c.round = (n : Int) → 0 ≤ c.day ∧ ∃ j, j < l.length ∧ fastOf l j = c.day := by
    intro n
    induction n with
    | zero =>
      intro c hc hr
      have hi := hin c hc
      unfold inL at hi
      rcases step c hc with ⟨_, _, h1, h2⟩ | ⟨_, o, _, _, _, h, h2, _⟩
      · refine ⟨by omega, c.issue.toNat, by omega, h2.symm⟩
      · omega
    | succ n ih =>
      intro c hc hr
      rcases step c hc with ⟨_, h, _⟩ | ⟨_, o, ho, _, hd, h, h2, _⟩
      · omega
      · rw [← hd]
        exact ih o ho (by omega)
  have hJt := hA
  refine ⟨⟨fun j c hc => ?_, fun o co j ho hjl hcan => ?_, fun j hjl hsj => ?_⟩, hs, hin⟩
  · obtain ⟨hm, he⟩ := findC_mem hc
    have hi := hin c hm
    unfold inL at hi
    have hij : c.issue.toNat = j := by omega
    refine ⟨by omega, he, hnn c hm, hday c.round.toNat c hm (by have := hnn c hm; omega), ?_⟩
    rcases step c hm with ⟨h1, h2, h3, h4⟩ | ⟨h1, o, ho, h2, h3, h4, h5, h6, h7⟩
    · rw [hij] at h3 h4
      exact .inl ⟨h1, h2, h4.symm⟩
    · rw [hij] at h1 h6
      have hio := hin o ho
      unfold inL at hio
      refine .inr ⟨h1, o.issue.toNat, o, by omega, ?_, h3, h4, h6, fun q cq hq hqs hqd hqr => ?_⟩
      · have := findC_sorted hs ho
        rw [show ((o.issue.toNat : Nat) : Int) = o.issue by omega]
        exact this
      · obtain ⟨hqm, hqe⟩ := findC_mem hqs
        have h8 := h7 cq hqm (by omega)
        unfold jp at h8
        have hqf := hfew cq hqm
        have hqn := hnn cq hqm
        rw [decide_eq_true hqd, w64_in ⟨by omega, by omega⟩, decide_eq_true hqr, decide_eq_true hqn, hij, hqe, Int.toNat_natCast] at h8
        simpa using h8
  · obtain ⟨hm, he⟩ := findC_mem ho
    have hk := List.all_eq_true.1 hA j (List.mem_range.2 hjl)
    unfold okJ at hk
    simp only [Bool.and_eq_true, Bool.not_eq_true'] at hk
    have hl := List.any_eq_false.1 hk.2 co hm
    unfold late at hl
    rw [he, Int.toNat_natCast, Int.toNat_natCast, hcan] at hl
    cases hf : findC cs (j : Int) with
    | none => rw [hf] at hl; simp at hl
    | some cj =>
      rw [hf] at hl
      have hjm := (findC_mem hf).1
      have hjn := hnn cj hjm
      have hjf := hfew cj hjm
      rw [show (some cj).getD c0 = cj from rfl, w64_in ⟨by omega, by omega⟩] at hl
      simp at hl
      refine ⟨cj, rfl, ?_⟩
      omega
  · have hk := List.all_eq_true.1 hA j (List.mem_range.2 hjl)
    unfold okJ at hk
    simp only [Bool.and_eq_true, Bool.not_eq_true'] at hk
    have h1 := hk.1
    rw [decide_eq_true hsj.1, Bool.true_and, Bool.or_eq_false_iff] at h1
    cases hf : findC cs (j : Int) with
    | none => rw [hf] at h1; simp at h1
    | some cj =>
      rw [hf] at h1
      refine ⟨cj, rfl, ?_⟩
      have := of_decide_eq_false h1.2
      have h2 : ¬ fastOf l j < cj.day := this
      omega

/-- Whatever is a solution passes. -/
theorem sol_check {l : List Debt} {cs : List Cau} (hR : rightB l = true) (hlen : cs.length ≤ 1000000) (h : Sol l (fun j => findC cs (j : Nat))) (hs : cs.Pairwise (fun a b => a.issue < b.issue)) (hin : ∀ c ∈ cs, inL l c.issue) : checkL l cs = true := by
  have at' : ∀ c ∈ cs, ∃ j : Nat, c.issue = j ∧ j < l.length ∧ findC cs (j : Nat) = some c := fun c hc => by
    have hi := hin c hc
    unfold inL at hi
    refine ⟨c.issue.toNat, by omega, by omega, ?_⟩
    rw [show ((c.issue.toNat : Nat) : Int) = c.issue by omega]
    exact findC_sorted hs hc
  have hfew : ∀ c ∈ cs, c.round < cs.length := rounds_few fun c hc hr => by
    obtain ⟨j, _, _, hj⟩ := at' c hc
    obtain ⟨_, _, _, _, h5⟩ := h.val j c hj
    rcases h5 with ⟨_, h5, _⟩ | ⟨_, p, cp, _, hp, _, hpr, _⟩
    · omega
    · exact ⟨cp, (findC_mem hp).1, hpr⟩
  have hnn : ∀ c ∈ cs, 0 ≤ c.round := fun c hc => by
    obtain ⟨j, _, _, hj⟩ := at' c hc
    exact (h.val j c hj).2.2.1
  unfold checkL
  rw [hR, ordB_of hs (fun c hc => by have hi := hin c hc; unfold inL at hi; omega)]
  simp only [Bool.true_and, Bool.and_eq_true, Bool.not_eq_true']
  refine ⟨List.any_eq_false.2 fun c hc => ?_, List.all_eq_true.2 fun j hj => ?_⟩
  · obtain ⟨j, he, hjl, hj⟩ := at' c hc
    have hij : c.issue.toNat = j := by omega
    obtain ⟨_, _, h3, h4, h5⟩ := h.val j c hj
    have hgoal : justB l cs c = true := by
      unfold justB
      rw [hij]
      rcases h5 with ⟨g1, g2, g3⟩ | ⟨g1, p, cp, g2, g3, g4, g5, g6, g7⟩
      · rw [if_pos g1, decide_eq_true g2]
        have g3' : (l.getD j d0).fast = c.day := g3
        rw [g3', decide_eq_true h4.1, decide_eq_true rfl]
        rfl
      · have g1' : ¬ (0 ≤ (l.getD j d0).fast ∧ (l.getD j d0).fast ≤ c.day) := g1
        rw [if_neg (by omega), if_neg (by simp only [Bool.and_eq_true, decide_eq_true_eq]; exact g1')]
        obtain ⟨pm, pe⟩ := findC_mem g3
        have hjp : ∀ o ∈ cs, jp l c o = true ↔ (o.day = c.day ∧ o.round + 1 = c.round ∧ can l o.issue.toNat j = true) := fun o ho => by
          unfold jp
          have := hfew o ho
          have := hnn o ho
          rw [w64_in ⟨by omega, by omega⟩, hij]
          simp only [Bool.and_eq_true, decide_eq_true_eq]
          constructor
          · rintro ⟨⟨⟨a, b⟩, _⟩, d⟩
            exact ⟨a, b, d⟩
          · rintro ⟨a, b, d⟩
            exact ⟨⟨⟨a, b⟩, by omega⟩, d⟩
        have hp : jp l c cp = true := (hjp cp pm).2 ⟨g4, g5, by rw [pe, Int.toNat_natCast]; exact g6⟩
        have h0 : 0 ≤ firstI (jp l c) cs := firstC_any.2 ⟨cp, pm, hp⟩
        obtain ⟨f1, f2, f3⟩ := firstC_spec h0
        rw [decide_eq_true h0, Bool.true_and, decide_eq_true_eq]
        generalize cs.getD (firstI (jp l c) cs).toNat c0 = o at *
        obtain ⟨q, qe, ql, qf⟩ := at' o f1
        obtain ⟨o1, o2, o3⟩ := (hjp o f1).1 f2
        rw [qe, Int.toNat_natCast] at o3
        rw [qe, g2]
        rcases Nat.lt_trichotomy q p with hlt | heq | hgt
        · have := g7 q o hlt qf o1 o2
          rw [o3] at this
          cases this
        · rw [heq]
        · have := f3 hs cp pm (by omega)
          rw [hp] at this
          cases this
    rw [hgoal]
    exact Bool.noConfusion
  · have hjl := List.mem_range.1 hj
    unfold okJ
    simp only [Bool.and_eq_true, Bool.not_eq_true']
    refine ⟨?_, List.any_eq_false.2 fun o ho => ?_⟩
    · by_cases hf : 0 ≤ fastOf l j
      · obtain ⟨cj, e1, e2⟩ := h.sat j hjl ⟨hf, j, hjl, rfl⟩
        have e1' : findC cs (j : Int) = some cj := e1
        rw [e1', decide_eq_true hf]
        show (true && (!true || decide (fastOf l j < cj.day))) = false
        rw [decide_eq_false (by omega)]
        rfl
      · rw [decide_eq_false hf]
        rfl
    · obtain ⟨q, qe, ql, qf⟩ := at' o ho
      unfold late
      rw [qe, Int.toNat_natCast, Int.toNat_natCast]
      cases hc : can l q j with
      | false => exact Bool.noConfusion
      | true =>
        obtain ⟨cj, e1, e2⟩ := h.clo q o j qf hjl hc
        have e1' : findC cs (j : Int) = some cj := e1
        have hjm := (findC_mem e1').1
        have hjf := hfew cj hjm
        have hjn := hnn cj hjm
        rw [e1', show (some cj).getD c0 = cj from rfl, w64_in ⟨by omega, by omega⟩]
        intro hx
        simp at hx
        omega

theorem closeSol (l : List Debt) : Sol l (fun j => findC (closeL l) (j : Nat)) := by
  have h := found_sol l
  have e : (fun j : Nat => findC (closeL l) (j : Nat)) = atF (foundL l) := funext fun j => close_at l j
  rw [e]
  exact h
theorem close_in (l : List Debt) : ∀ c ∈ closeL l, inL l c.issue := fun c hc => by
  obtain ⟨j, hj⟩ := close_mem.1 hc
  obtain ⟨h1, h2, _⟩ := (found_sol l).val j c hj
  unfold inL
  omega
theorem only_plain {l : List Debt} (hl : l.length ≤ 1000000) (hR : rightB l = true) {cs : List Cau} (hlen : cs.length ≤ 1000000) (h64 : ∀ c ∈ cs, in64 c.round) : checkL l (closeL l) = true ∧ checkL l cs = decide (closeL l = cs) := by
  have h1 := sol_check hR (Nat.le_trans (close_len l) hl) (closeSol l) (close_sorted l) (close_in l)
  refine ⟨h1, ?_⟩
  by_cases e : closeL l = cs
  · rw [decide_eq_true e, ← e]
    exact h1
  · rw [decide_eq_false e]
    cases hc : checkL l cs with
    | false => rfl
    | true =>
      exfalso
      obtain ⟨g1, g2, g3⟩ := check_sol hlen h64 hc
      have hu := sol_uniq (closeSol l) g1
      refine e (sorted_same (close_sorted l) g2 fun c => ?_)
      constructor
      · intro hm
        have hi := close_in l c hm
        unfold inL at hi
        have := hu c.issue.toNat
        have hf := findC_sorted (close_sorted l) hm
        simp only [show ((c.issue.toNat : Nat) : Int) = c.issue by omega, hf] at this
        exact (findC_mem this.symm).1
      · intro hm
        have hi := g3 c hm
        unfold inL at hi
        have := hu c.issue.toNat
        have hf := findC_sorted g2 hm
        simp only [show ((c.issue.toNat : Nat) : Int) = c.issue by omega, hf] at this
        exact (findC_mem this).1

end Go.Proofs.Ytkldidgcgioceaa
