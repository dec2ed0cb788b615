import Derived.Test.YtkldidgcgioceaaX33
namespace Go.Proofs.Ytkldidgcgioceaa
open Go.Own
set_option maxHeartbeats 1000000

/-! ### The reference's Check, in plain words -/
def badO (l : List Debt) (cs : List Cau) (i : Nat) : Bool :=
  ((decide ((cs.getD i c0).issue < 0) || decide ((l.length : Int) ≤ (cs.getD i c0).issue)) || (decide (0 < (i : Int)) && decide ((cs.getD i c0).issue ≤ (cs.getD (i - 1) c0).issue)))
def jp2 (l : List Debt) (c o : Cau) : Bool := (decide (o.day = c.day) && decide (o.round = w64 (c.round - 1))) && can2 l o.issue.toNat c.issue.toNat
def firstX (l : List Debt) (cs : List Cau) (c : Cau) : Nat → Int
  | 0 => -1
  | m + 1 => if jp2 l c (cs.getD (cs.length - (m + 1)) c0) = true then (cs.getD (cs.length - (m + 1)) c0).issue else firstX l cs c m
def bad0 (l : List Debt) (c : Cau) : Bool := ((!decide (c.round = 0)) || decide ((l.getD c.issue.toNat d0).fast = -1)) || !decide (c.day = (l.getD c.issue.toNat d0).fast)
def bad1 (l : List Debt) (c : Cau) : Bool := !decide ((l.getD c.issue.toNat d0).fast = -1) && decide ((l.getD c.issue.toNat d0).fast ≤ c.day)
def badF (l : List Debt) (cs : List Cau) (c : Cau) : Bool := decide (firstX l cs c cs.length = -1) || !decide (firstX l cs c cs.length = c.because)
def just2 (l : List Debt) (cs : List Cau) (c : Cau) : Bool := if c.because = -1 then !bad0 l c else !bad1 l c && !badF l cs c
def late2 (l : List Debt) (j : Nat) (is : Bool) (c o : Cau) : Bool := can2 l o.issue.toNat j && ((!is || decide (o.day < c.day)) || (decide (c.day = o.day) && decide (o.round < w64 (c.round - 1))))
def badJ (l : List Debt) (cs : List Cau) (j : Nat) : Bool := !decide ((l.getD j d0).fast = -1) && (!(findC cs j).isSome || decide ((l.getD j d0).fast < ((findC cs j).getD c0).day))
def okJ2 (l : List Debt) (cs : List Cau) (j : Nat) : Bool := !badJ l cs j && !cs.any (late2 l j (findC cs j).isSome ((findC cs j).getD c0))
def check2L (l : List Debt) (cs : List Cau) : Bool := rightB l && ((List.range cs.length).all (fun i => !badO l cs i) && (cs.all (just2 l cs) && (List.range l.length).all (okJ2 l cs)))

theorem ordB_eq (l : List Debt) (cs : List Cau) : (List.range cs.length).all (fun i => !badO l cs i) = ordB l.length (-1) cs := by
  have get : ∀ i (h : i < cs.length), cs.getD i c0 = cs[i] := fun i h => by rw [List.getD_eq_getElem?_getD, List.getElem?_eq_getElem h]; rfl
  rw [Bool.eq_iff_iff, List.all_eq_true]
  constructor
  · intro h
    have h' : ∀ i, i < cs.length → 0 ≤ (cs.getD i c0).issue ∧ (cs.getD i c0).issue < l.length ∧ (0 < i → (cs.getD (i - 1) c0).issue < (cs.getD i c0).issue) := fun i hi => by
      have := h i (List.mem_range.2 hi)
      unfold badO at this
      simp only [Bool.not_eq_true', Bool.or_eq_false_iff, Bool.and_eq_false_iff, decide_eq_false_iff_not] at this
      refine ⟨by omega, by omega, fun h0 => ?_⟩
      omega
    refine ordB_of ?_ fun c hc => ?_
    · rw [List.pairwise_iff_getElem]
      intro i j hi hj hij
      have : ∀ d i, i + d + 1 < cs.length → (cs.getD i c0).issue < (cs.getD (i + d + 1) c0).issue := by
        intro d
        induction d with
        | zero =>
          intro i hi
          have := (h' (i + 0 + 1) hi).2.2 (by omega)
          rw [show i + 0 + 1 - 1 = i by omega] at this
          exact this
        | succ d ih =>
          intro i hi
          have h1 := ih i (by omega)
          have := (h' (i + (d + 1) + 1) hi).2.2 (by omega)
          rw [show i + (d + 1) + 1 - 1 = i + d + 1 by omega] at this
          omega
      have := this (j - i - 1) i (by omega)
      rw [show i + (j - i - 1) + 1 = j by omega, get i hi, get j hj] at this
      exact this
    · obtain ⟨i, hi, rfl⟩ := List.getElem_of_mem hc
      have := h' i hi
      rw [get i hi] at this
      omega
  · intro h i hi
    have hi := List.mem_range.1 hi
    have hin := ordB_in (by decide) h
    obtain ⟨hs, _⟩ := ordB_sorted h
    have h1 := hin _ (getD_mem (d := c0) hi)
    unfold badO
    simp only [Bool.not_eq_true', Bool.or_eq_false_iff, Bool.and_eq_false_iff, decide_eq_false_iff_not]
    refine ⟨⟨by omega, by omega⟩, ?_⟩
    by_cases h0 : i = 0
    · left; omega
    · right
      have := List.pairwise_iff_getElem.1 hs (i - 1) i (by omega) hi (by omega)
      rw [get i hi, get (i - 1) (by omega)]
      omega

theorem firstX_eq {l : List Debt} {cs : List Cau} {c : Cau} : ∀ m, m ≤ cs.length → firstX l cs c m = if (cs.drop (cs.length - m)).any (jp2 l c) = true then ((cs.drop (cs.length - m)).getD ((cs.drop (cs.length - m)).findIdx (jp2 l c)) c0).issue else -1
  | 0, _ => by
    rw [Nat.sub_zero, List.drop_eq_nil_of_le (Nat.le_refl _)]
    rfl
  | m + 1, hm => by
    have hlt : cs.length - (m + 1) < cs.length := by omega
    have get : cs[cs.length - (m + 1)] = cs.getD (cs.length - (m + 1)) c0 := by rw [List.getD_eq_getElem?_getD, List.getElem?_eq_getElem hlt]; rfl
    have e : cs.drop (cs.length - (m + 1)) = cs.getD (cs.length - (m + 1)) c0 :: cs.drop (cs.length - m) := by
      rw [List.drop_eq_getElem_cons hlt, get, show cs.length - (m + 1) + 1 = cs.length - m by omega]
    rw [e]
    unfold firstX
    by_cases h : jp2 l c (cs.getD (cs.length - (m + 1)) c0) = true
    · rw [if_pos h, List.any_cons, h, Bool.true_or, if_pos rfl, List.findIdx_cons, h]
      rfl
    · have hf : jp2 l c (cs.getD (cs.length - (m + 1)) c0) = false := by simpa using h
      rw [if_neg h, List.any_cons, hf, Bool.false_or, firstX_eq m (by omega), List.findIdx_cons, hf]
      rfl
theorem firstX_all {l : List Debt} {cs : List Cau} {c : Cau} : firstX l cs c cs.length = if 0 ≤ firstI (jp2 l c) cs then (cs.getD (firstI (jp2 l c) cs).toNat c0).issue else -1 := by
  rw [firstX_eq cs.length (Nat.le_refl _), Nat.sub_self, List.drop_zero]
  have h := @firstI_pos Cau (jp2 l c) cs
  by_cases ha : cs.any (jp2 l c) = true
  · rw [if_pos ha]
    rw [ha, decide_eq_true_eq] at h
    rw [if_pos h]
    unfold firstI at h ⊢
    split at h
    · rename_i h'
      rw [if_pos h', Int.toNat_natCast]
    · omega
  · rw [if_neg ha]
    have : cs.any (jp2 l c) = false := by simpa using ha
    rw [this, decide_eq_false_iff_not] at h
    rw [if_neg h]

theorem w64_low : w64 (-9223372036854775809) = 9223372036854775807 := by rfl

theorem firstI_congr {p q : Cau → Bool} {cs : List Cau} (h : ∀ o ∈ cs, p o = q o) : firstI p cs = firstI q cs := by
  have : cs.findIdx p = cs.findIdx q := by
    induction cs with
    | nil => rfl
    | cons x cs ih =>
      rw [List.findIdx_cons, List.findIdx_cons, h x List.mem_cons_self, ih fun o ho => h o (List.mem_cons_of_mem _ ho)]
  unfold firstI
  rw [this]

theorem fast_ge {l : List Debt} (hR : rightB l = true) {j : Nat} (hj : j < l.length) : -1 ≤ (l.getD j d0).fast := by
  unfold rightB at hR
  rw [Bool.and_eq_true, Bool.not_eq_true'] at hR
  have := List.any_eq_false.1 hR.2 _ (getD_mem (d := d0) hj)
  unfold badD inB at this
  simp only [Bool.or_eq_true, Bool.not_eq_true', Bool.and_eq_false_iff, decide_eq_false_iff_not] at this
  omega

/-- Where no round is negative, both justify the same. -/
theorem just_same {l : List Debt} (hR : rightB l = true) {cs : List Cau} (h64 : ∀ c ∈ cs, in64 c.round) (hin : ∀ c ∈ cs, inL l c.issue) (h0 : ∀ c ∈ cs, 0 ≤ c.round) {c : Cau} (hc : c ∈ cs) : just2 l cs c = justB l cs c := by
  have hi := hin c hc
  unfold inL at hi
  have hf := fast_ge hR (j := c.issue.toNat) (by omega)
  have hjj : ∀ o ∈ cs, jp2 l c o = jp l c o := fun o ho => by
    have h1 := h64 o ho
    have h2 := h64 c hc
    have h3 := h0 o ho
    have h4 := h0 c hc
    unfold in64 at h1 h2
    unfold jp2 jp
    rw [can2_eq hR (by omega), decide_eq_true h3, Bool.and_true]
    congr 2
    rw [w64_in ⟨by omega, by omega⟩]
    by_cases e : o.round + 1 ≤ 9223372036854775807
    · rw [w64_in ⟨by omega, e⟩]
      by_cases e' : o.round + 1 = c.round
      · rw [decide_eq_true e', decide_eq_true (by omega)]
      · rw [decide_eq_false e', decide_eq_false (by omega)]
    · rw [show o.round + 1 = 9223372036854775808 by omega, w64_top]
      rw [decide_eq_false (by omega), decide_eq_false (by omega)]
  have hff := firstI_congr hjj
  unfold just2 justB
  by_cases hb : c.because = -1
  · rw [if_pos hb, if_pos hb]
    unfold bad0
    rw [Bool.eq_iff_iff]
    simp only [Bool.not_eq_true', Bool.or_eq_false_iff, Bool.and_eq_true, Bool.not_eq_false', decide_eq_true_eq, decide_eq_false_iff_not]
    omega
  · rw [if_neg hb, if_neg hb]
    have e1 : bad1 l c = (decide (0 ≤ (l.getD c.issue.toNat d0).fast) && decide ((l.getD c.issue.toNat d0).fast ≤ c.day)) := by
      unfold bad1
      rw [Bool.eq_iff_iff]
      simp only [Bool.and_eq_true, Bool.not_eq_true', decide_eq_true_eq, decide_eq_false_iff_not]
      omega
    rw [e1]
    cases hq : (decide (0 ≤ (l.getD c.issue.toNat d0).fast) && decide ((l.getD c.issue.toNat d0).fast ≤ c.day)) with
    | true => rw [if_pos rfl]; rfl
    | false =>
      rw [if_neg Bool.noConfusion]
      unfold badF
      rw [firstX_all, hff, Bool.not_false, Bool.true_and]
      by_cases hp : 0 ≤ firstI (jp l c) cs
      · rw [if_pos hp, decide_eq_true hp, Bool.true_and]
        obtain ⟨f1, _, _⟩ := firstC_spec hp
        have := hin _ f1
        unfold inL at this
        rw [decide_eq_false (by omega), Bool.false_or, Bool.not_not]
      · rw [if_neg hp, decide_eq_false hp, decide_eq_true rfl]
        rfl

/-- The reference's Check accepts no negative rounds. -/
theorem rounds_nn {cs : List Cau} (hlen : cs.length ≤ 1000000) (h64 : ∀ c ∈ cs, in64 c.round) (h : ∀ c ∈ cs, c.round = 0 ∨ ∃ o ∈ cs, o.round = w64 (c.round - 1)) : ∀ c ∈ cs, 0 ≤ c.round := by
  intro c hc
  have hc64 := h64 c hc
  unfold in64 at hc64
  cases Classical.em (0 ≤ c.round) with
  | inl h => exact h
  | inr hn =>
    exfalso
    have all : ∀ k : Nat, k ≤ cs.length → ∃ o ∈ cs, o.round = if -9223372036854775808 ≤ c.round - k then c.round - k else c.round - k + 18446744073709551616 := by
      intro k
      induction k with
      | zero =>
        intro _
        refine ⟨c, hc, ?_⟩
        rw [if_pos (by omega)]
        omega
      | succ k ih =>
        intro hk
        obtain ⟨o, ho, hor⟩ := ih (by omega)
        rcases h o ho with h0 | ⟨q, hq, hqr⟩
        · exfalso
          split at hor <;> omega
        · refine ⟨q, hq, ?_⟩
          rw [hqr]
          split at hor
          · by_cases e : -9223372036854775808 ≤ c.round - ((k + 1 : Nat) : Int)
            · rw [if_pos e, w64_in ⟨by omega, by omega⟩]
              omega
            · rw [if_neg e, show o.round - 1 = -9223372036854775809 by omega, w64_low]
              omega
          · rw [if_neg (by omega), w64_in ⟨by omega, by omega⟩]
            omega
    have := nodup_len (l := (List.range (cs.length + 1)).map (fun k : Nat => if -9223372036854775808 ≤ c.round - (k : Int) then c.round - (k : Int) else c.round - (k : Int) + 18446744073709551616)) (l' := cs.map (·.round)) (by
      rw [List.Nodup, List.pairwise_map]
      have h1 : (List.range (cs.length + 1)).Pairwise (· < ·) := List.pairwise_lt_range
      refine (List.Pairwise.and_mem.1 h1).imp fun {a b} hab => ?_
      obtain ⟨ha, hb, hlt⟩ := hab
      have ha := List.mem_range.1 ha
      have hb := List.mem_range.1 hb
      intro e
      split at e <;> split at e <;> omega) (fun x hx => by
      obtain ⟨k, hk, rfl⟩ := List.mem_map.1 hx
      obtain ⟨o, ho, hor⟩ := all k (by have := List.mem_range.1 hk; omega)
      exact List.mem_map.2 ⟨o, ho, hor⟩)
    rw [List.length_map, List.length_map, List.length_range] at this
    omega

theorem okJ_same {l : List Debt} (hR : rightB l = true) {cs : List Cau} {j : Nat} (hj : j < l.length) : okJ2 l cs j = okJ l cs j := by
  have hf := fast_ge hR hj
  have e1 : (!decide ((l.getD j d0).fast = -1)) = decide (0 ≤ fastOf l j) := by
    unfold fastOf
    by_cases h : (l.getD j d0).fast = -1
    · rw [decide_eq_true h, decide_eq_false (by omega)]; rfl
    · rw [decide_eq_false h, decide_eq_true (by omega)]; rfl
  unfold okJ2 okJ badJ
  rw [e1]
  congr 2
  congr 1
  funext o
  unfold late2 late
  rw [can2_eq hR hj, Int.toNat_natCast]

theorem check_same {l : List Debt} {cs : List Cau} (hlen : cs.length ≤ 1000000) (h64 : ∀ c ∈ cs, in64 c.round) : check2L l cs = checkL l cs := by
  cases hR : rightB l with
  | false => unfold check2L checkL; rw [hR]; rfl
  | true =>
    cases hO : ordB l.length (-1) cs with
    | false => unfold check2L checkL; rw [ordB_eq, hO, hR]; rfl
    | true =>
      have hin : ∀ c ∈ cs, inL l c.issue := ordB_in (by decide) hO
      have key : (∀ c ∈ cs, 0 ≤ c.round) → check2L l cs = checkL l cs := fun h0 => by
        unfold check2L checkL
        rw [ordB_eq, hR, hO]
        have e1 : cs.all (just2 l cs) = !cs.any (fun c => !justB l cs c) := by
          rw [List.not_any_eq_all_not, Bool.eq_iff_iff, List.all_eq_true, List.all_eq_true]
          constructor
          · intro h c hc
            rw [Bool.not_not, ← just_same hR h64 hin h0 hc]
            exact h c hc
          · intro h c hc
            have := h c hc
            rw [Bool.not_not, ← just_same hR h64 hin h0 hc] at this
            exact this
        have e2 : (List.range l.length).all (okJ2 l cs) = (List.range l.length).all (okJ l cs) := by
          rw [Bool.eq_iff_iff, List.all_eq_true, List.all_eq_true]
          constructor
          · intro h j hj
            rw [← okJ_same hR (List.mem_range.1 hj)]
            exact h j hj
          · intro h j hj
            rw [okJ_same hR (List.mem_range.1 hj)]
            exact h j hj
        rw [e1, e2]
      cases h1 : checkL l cs with
      | true =>
        obtain ⟨g1, g2, g3⟩ := check_sol hlen h64 h1
        rw [key fun c hc => ?_, h1]
        have hi := g3 c hc
        unfold inL at hi
        have hf := findC_sorted g2 hc
        have := g1.val c.issue.toNat c (by rw [← hf]; congr 1; omega)
        exact this.2.2.1
      | false =>
        cases h2 : check2L l cs with
        | false => rfl
        | true =>
          exfalso
          have h2' := h2
          unfold check2L at h2'
          simp only [Bool.and_eq_true] at h2'
          have hj := List.all_eq_true.1 h2'.2.2.1
          have := key (rounds_nn hlen h64 fun c hc => by
            have hjc := hj c hc
            unfold just2 at hjc
            split at hjc
            · left
              unfold bad0 at hjc
              simp only [Bool.not_eq_true', Bool.or_eq_false_iff, Bool.not_eq_false', decide_eq_true_eq] at hjc
              exact hjc.1.1
            · right
              rw [Bool.and_eq_true, Bool.not_eq_true', Bool.not_eq_true'] at hjc
              have hF := hjc.2
              unfold badF at hF
              rw [Bool.or_eq_false_iff, decide_eq_false_iff_not, firstX_all] at hF
              by_cases hp : 0 ≤ firstI (jp2 l c) cs
              · obtain ⟨f1, f2, _⟩ := firstC_spec hp
                refine ⟨_, f1, ?_⟩
                unfold jp2 at f2
                simp only [Bool.and_eq_true, decide_eq_true_eq] at f2
                exact f2.1.2
              · rw [if_neg hp] at hF
                exact absurd rfl hF.1)
          rw [h1, h2] at this
          cases this

end Go.Proofs.Ytkldidgcgioceaa

namespace Go.Proofs.Ytkldidgcgioceaa
open Go.Own
set_option maxHeartbeats 4000000
set_option maxRecDepth 100000

theorem all_false {p : Nat → Bool} {n k : Nat} (hk : k < n) (h : p k = false) : (List.range n).all p = false := by
  rw [List.all_eq_false]
  exact ⟨k, List.mem_range.2 hk, by rw [h]; exact Bool.noConfusion⟩
theorem all_true {p : Nat → Bool} {n : Nat} (h : ∀ k, k < n → p k = true) : (List.range n).all p = true := List.all_eq_true.2 fun k hk => h k (List.mem_range.1 hk)
theorem allC_false {p : Cau → Bool} {cs : List Cau} {k : Nat} (hk : k < cs.length) (h : p (cs.getD k c0) = false) : cs.all p = false := by
  rw [List.all_eq_false]
  exact ⟨_, getD_mem hk, by rw [h]; exact Bool.noConfusion⟩
theorem allC_true {p : Cau → Bool} {cs : List Cau} (h : ∀ k, k < cs.length → p (cs.getD k c0) = true) : cs.all p = true := List.all_eq_true.2 fun c hc => by
  obtain ⟨i, hi, rfl⟩ := List.getElem_of_mem hc
  have := h i hi
  rwa [List.getD_eq_getElem?_getD, List.getElem?_eq_getElem hi] at this
theorem anyC_true {p : Cau → Bool} {cs : List Cau} {k : Nat} (hk : k < cs.length) (h : p (cs.getD k c0) = true) : cs.any p = true := List.any_eq_true.2 ⟨_, getD_mem hk, h⟩

theorem wrap1 {i : Nat} (h : i ≤ 1000000) : IntKind.i64.wrap ((i : Int) + 1) = ((i + 1 : Nat) : Int) := w64_in (x := (i : Int) + 1) ⟨by omega, by omega⟩

theorem wrapm {x : Int} (h : -1 ≤ x) (h2 : x ≤ 1000000) : IntKind.i64.wrap (x - 1) = x - 1 := w64_in (x := x - 1) ⟨by omega, by omega⟩

theorem check2_ok (l : List Debt) (hl : l.length ≤ 1000000) (cs : List Cau) (hcl : cs.length ≤ 1000000) : APureV Try.prog 16 [encDs l, encCs cs] (.bool (check2L l cs)) := by
  unfold check2L
  rw [ordB_eq]
  have hr := right2_ok l (by omega)
  refine apure_of (C := cxW 211 [0, 1, 4, 5, 6, 7, 8, 9, 10, 11, 12, 13, 14, 15, 16, 17, 20, 24, 55, 59, 74, 87, 95, 100, 127, 137, 141, 169, 173, 210]) (cxWOk _ _) Try.func16 rfl (by decide) rfl (by exact Nat.le_of_ble_eq_true rfl) (by decide) ?_
  conv => whnf
  refine .one _ _ _ (fun _ => hr) (by repeat (first | exact .nil | (apply BorL.cons; first | exact lS rfl | exact lR rfl | exact lM rfl rfl | exact lL rfl | exact lX rfl | exact lN | exact lNl | exact lSm rfl | exact lIm rfl | exact lP rfl | exact lQ rfl))) (by first | exact .inl rfl | exact .inr (by repeat (first | exact flats_nil | refine flats_cons (by first | exact flat_val _ rfl | exact flat_row (fun _ => rfl) | exact flat_lst (fun _ => rfl)) ?_))) (by first | exact .inl rfl | exact .inr rfl) ?_
  conv => whnf
  cases hR : rightB l with
  | false =>
    refine ⟨fun hx => ?_, fun hx => ?_⟩
    · conv => whnf
      rfl
    · cases hx
  | true =>
    refine ⟨fun hx => ?_, fun hx => ?_⟩
    · cases hx
    rw [Bool.true_and]
    have hO1 := ordB_eq l cs
    have hO2 := fun h => @ordB_in l.length cs (-1) (by decide) h
    generalize ordB l.length (-1) cs = ob at *
    conv => whnf
    refine loop_up (cxWOk _ _) cs.length (fun i => ∀ k, k < i → badO l cs k = false) (fun i => ⟨[(0, encDs l), (1, encCs cs), (5, .int .i64 (i : Nat))], [], 0⟩) (fun k h => by omega) (wk_of [] rfl ⟨.base (.tree _ _ rfl rfl), .base (.tree _ _ rfl rfl), .base (.tree _ _ rfl rfl), trivial⟩ trivial) ?_
    intro i hi hP
    conv => whnf
    refine ⟨fun hc => ?_, fun hc => ?_⟩
    · simp only [decide_eq_true_eq] at hc
      have hit : i < cs.length := by omega
      have hci : cs.getD (i : Int).toNat c0 = cs.getD i c0 := by rw [Int.toNat_natCast]
      have hcp : ((i : Int) - 1).toNat = i - 1 := by omega
      conv => whnf
      repeat (first | (refine And.intro ⟨by omega, by omega⟩ ?_; conv => whnf) | (refine And.intro (by omega) (And.intro rfl ?_); conv => whnf) | (refine And.intro rfl ?_; conv => whnf) | (refine And.intro (fun _ => ⟨by omega, by omega⟩) ?_; conv => whnf) | (refine And.intro (fun _ => by omega) (And.intro rfl ?_); conv => whnf) | (refine And.intro ⟨(by first | omega | (simp; omega)), (by first | omega | (simp; omega))⟩ ?_; conv => whnf) | (refine Exists.intro _ (And.intro rfl (And.intro (by first | omega | (simp; omega)) (And.intro ⟨rfl, rfl, rfl, rfl, rfl⟩ ?_))); conv => whnf) | (refine And.intro ⟨rfl, rfl⟩ (And.intro (by first | omega | (simp; omega)) ?_); conv => whnf) | (refine Exists.intro _ (And.intro rfl ?_); conv => whnf) | (refine And.intro (fun _ => ?_) (fun h => absurd h (by decide)); conv => whnf) | (refine And.intro (fun h => absurd h (by decide)) (fun _ => ?_); conv => whnf) | (refine .eff (by first | exact cxOk _ _ | exact cxPOk _ _ _) ?_; conv => whnf))
      repeat (first | (refine And.intro ⟨by omega, by omega⟩ ?_; conv => whnf) | (refine And.intro (by omega) (And.intro rfl ?_); conv => whnf) | (refine And.intro rfl ?_; conv => whnf) | (refine And.intro (fun _ => ⟨by omega, by omega⟩) ?_; conv => whnf) | (refine And.intro (fun _ => by omega) (And.intro rfl ?_); conv => whnf) | (refine And.intro ⟨(by first | omega | (simp; omega)), (by first | omega | (simp; omega))⟩ ?_; conv => whnf) | (refine Exists.intro _ (And.intro rfl (And.intro (by first | omega | (simp; omega)) (And.intro ⟨rfl, rfl, rfl, rfl, rfl⟩ ?_))); conv => whnf) | (refine And.intro ⟨rfl, rfl⟩ (And.intro (by first | omega | (simp; omega)) ?_); conv => whnf) | (refine Exists.intro _ (And.intro rfl ?_); conv => whnf) | (refine And.intro (fun _ => ?_) (fun h => absurd h (by decide)); conv => whnf) | (refine And.intro (fun h => absurd h (by decide)) (fun _ => ?_); conv => whnf) | (refine .quiet (by kernel_rfl) ?_; conv => whnf))
      refine And.intro (fun hg => ?_) ?_
      · have := of_decide_eq_true (guard_true2 hg).2
        exact ⟨by omega, by omega⟩
      repeat (first | (refine And.intro ⟨by omega, by omega⟩ ?_; conv => whnf) | (refine And.intro (by omega) (And.intro rfl ?_); conv => whnf) | (refine And.intro rfl ?_; conv => whnf) | (refine And.intro (fun _ => ⟨by omega, by omega⟩) ?_; conv => whnf) | (refine And.intro (fun _ => by omega) (And.intro rfl ?_); conv => whnf) | (refine And.intro ⟨(by first | omega | (simp; omega)), (by first | omega | (simp; omega))⟩ ?_; conv => whnf) | (refine Exists.intro _ (And.intro rfl (And.intro (by first | omega | (simp; omega)) (And.intro ⟨rfl, rfl, rfl, rfl, rfl⟩ ?_))); conv => whnf) | (refine And.intro ⟨rfl, rfl⟩ (And.intro (by first | omega | (simp; omega)) ?_); conv => whnf) | (refine Exists.intro _ (And.intro rfl ?_); conv => whnf) | (refine And.intro (fun _ => ?_) (fun h => absurd h (by decide)); conv => whnf) | (refine And.intro (fun h => absurd h (by decide)) (fun _ => ?_); conv => whnf) | (refine .quiet (by kernel_rfl) ?_; conv => whnf))
      rw [hci, hcp]
      refine ⟨fun hd => ?_, fun hd => ?_⟩
      · have hd' : badO l cs i = true := hd
        have : ob = false := by rw [← hO1]; exact all_false hit (by rw [hd']; rfl)
        rw [this]
        conv => whnf
        rfl
      · have hd' : badO l cs i = false := hd
        conv => whnf
        repeat (first | (refine And.intro ⟨by omega, by omega⟩ ?_; conv => whnf) | (refine And.intro (by omega) (And.intro rfl ?_); conv => whnf) | (refine And.intro rfl ?_; conv => whnf) | (refine And.intro (fun _ => ⟨by omega, by omega⟩) ?_; conv => whnf) | (refine And.intro (fun _ => by omega) (And.intro rfl ?_); conv => whnf) | (refine And.intro ⟨(by first | omega | (simp; omega)), (by first | omega | (simp; omega))⟩ ?_; conv => whnf) | (refine Exists.intro _ (And.intro rfl (And.intro (by first | omega | (simp; omega)) (And.intro ⟨rfl, rfl, rfl, rfl, rfl⟩ ?_))); conv => whnf) | (refine And.intro ⟨rfl, rfl⟩ (And.intro (by first | omega | (simp; omega)) ?_); conv => whnf) | (refine Exists.intro _ (And.intro rfl ?_); conv => whnf) | (refine And.intro (fun _ => ?_) (fun h => absurd h (by decide)); conv => whnf) | (refine And.intro (fun h => absurd h (by decide)) (fun _ => ?_); conv => whnf) | (refine .eff (by first | exact cxOk _ _ | exact cxPOk _ _ _) ?_; conv => whnf))
        refine up hit (fun k hk => ?_) ((wk_of [] rfl ⟨.base (.tree _ _ rfl rfl), .base (.tree _ _ rfl rfl), .base (.tree _ _ (show AV.int .i64 _ = AV.int .i64 _ by congr 1; exact wrap1 (by omega)) rfl), trivial⟩ trivial))
        by_cases e : k = i
        · rw [e]; exact hd'
        · exact hP k (by omega)
    · simp only [decide_eq_false_iff_not] at hc
      have : i = cs.length := by omega
      subst this
      have hob : ob = true := by rw [← hO1]; exact all_true fun k hk => by rw [hP k hk]; rfl
      have hin := hO2 hob
      rw [hob, Bool.true_and]
      clear hO1 hO2 hP hob
      have hJ1 := fun (h : ∀ k, k < cs.length → just2 l cs (cs.getD k c0) = true) => allC_true (p := just2 l cs) h
      have hJ2 := fun k (hk : k < cs.length) (h : just2 l cs (cs.getD k c0) = false) => allC_false (p := just2 l cs) (k := k) hk h
      generalize cs.all (just2 l cs) = jb at *
      conv => whnf
      refine loop_up (cxWOk _ _) cs.length (fun i => ∀ k, k < i → just2 l cs (cs.getD k c0) = true) (fun i => ⟨[(0, encDs l), (1, encCs cs), (7, .int .i64 (i : Nat))], [], 0⟩) (fun k h => by omega) (wk_of [] rfl ⟨.base (.tree _ _ rfl rfl), .base (.tree _ _ rfl rfl), .base (.tree _ _ rfl rfl), trivial⟩ trivial) ?_
      intro i hi hP
      conv => whnf
      refine ⟨fun hc2 => ?_, fun hc2 => ?_⟩
      · simp only [decide_eq_true_eq] at hc2
        have hit : i < cs.length := by omega
        have hci : cs.getD (i : Int).toNat c0 = cs.getD i c0 := by rw [Int.toNat_natCast]
        have hJi := hJ2 i hit
        have hup : just2 l cs (cs.getD i c0) = true → ∀ k, k < i + 1 → just2 l cs (cs.getD k c0) = true := fun h k hk => by
          by_cases e : k = i
          · rw [e]; exact h
          · exact hP k (by omega)
        have hicc := hin _ (getD_mem (d := c0) hit)
        unfold just2 at hJi hup
        generalize cs.getD i c0 = c at *
        have hfx := fun m => (show firstX l cs c (m + 1) = if jp2 l c (cs.getD (cs.length - (m + 1)) c0) = true then (cs.getD (cs.length - (m + 1)) c0).issue else firstX l cs c m from rfl)
        have hf0 : firstX l cs c 0 = -1 := rfl
        have hbF : badF l cs c = (decide (firstX l cs c cs.length = -1) || !decide (firstX l cs c cs.length = c.because)) := rfl
        generalize badF l cs c = bF at *
        generalize firstX l cs c = F at *
        conv => whnf
        repeat (first | (refine And.intro ⟨by omega, by omega⟩ ?_; conv => whnf) | (refine And.intro (by omega) (And.intro rfl ?_); conv => whnf) | (refine And.intro rfl ?_; conv => whnf) | (refine And.intro (fun _ => ⟨by omega, by omega⟩) ?_; conv => whnf) | (refine And.intro (fun _ => by omega) (And.intro rfl ?_); conv => whnf) | (refine And.intro ⟨(by first | omega | (simp; omega)), (by first | omega | (simp; omega))⟩ ?_; conv => whnf) | (refine Exists.intro _ (And.intro rfl (And.intro (by first | omega | (simp; omega)) (And.intro ⟨rfl, rfl, rfl, rfl, rfl⟩ ?_))); conv => whnf) | (refine And.intro ⟨rfl, rfl⟩ (And.intro (by first | omega | (simp; omega)) ?_); conv => whnf) | (refine Exists.intro _ (And.intro rfl ?_); conv => whnf) | (refine And.intro (fun _ => ?_) (fun h => absurd h (by decide)); conv => whnf) | (refine And.intro (fun h => absurd h (by decide)) (fun _ => ?_); conv => whnf) | (refine .eff (by first | exact cxOk _ _ | exact cxPOk _ _ _) ?_; conv => whnf))
        rw [hci]
        repeat (first | (refine And.intro ⟨by omega, by omega⟩ ?_; conv => whnf) | (refine And.intro (by omega) (And.intro rfl ?_); conv => whnf) | (refine And.intro rfl ?_; conv => whnf) | (refine And.intro (fun _ => ⟨by omega, by omega⟩) ?_; conv => whnf) | (refine And.intro (fun _ => by omega) (And.intro rfl ?_); conv => whnf) | (refine And.intro ⟨(by first | omega | (simp; omega)), (by first | omega | (simp; omega))⟩ ?_; conv => whnf) | (refine Exists.intro _ (And.intro rfl (And.intro (by first | omega | (simp; omega)) (And.intro ⟨rfl, rfl, rfl, rfl, rfl⟩ ?_))); conv => whnf) | (refine And.intro ⟨rfl, rfl⟩ (And.intro (by first | omega | (simp; omega)) ?_); conv => whnf) | (refine Exists.intro _ (And.intro rfl ?_); conv => whnf) | (refine And.intro (fun _ => ?_) (fun h => absurd h (by decide)); conv => whnf) | (refine And.intro (fun h => absurd h (by decide)) (fun _ => ?_); conv => whnf) | (refine .eff (by first | exact cxOk _ _ | exact cxPOk _ _ _) ?_; conv => whnf))
        refine ⟨fun hb => ?_, fun hb => ?_⟩
        · have hb' : c.because = -1 := of_decide_eq_true hb
          rw [if_pos hb'] at hJi hup
          conv => whnf
          repeat (first | (refine And.intro ⟨by omega, by omega⟩ ?_; conv => whnf) | (refine And.intro (by omega) (And.intro rfl ?_); conv => whnf) | (refine And.intro rfl ?_; conv => whnf) | (refine And.intro (fun _ => ⟨by omega, by omega⟩) ?_; conv => whnf) | (refine And.intro (fun _ => by omega) (And.intro rfl ?_); conv => whnf) | (refine And.intro ⟨(by first | omega | (simp; omega)), (by first | omega | (simp; omega))⟩ ?_; conv => whnf) | (refine Exists.intro _ (And.intro rfl (And.intro (by first | omega | (simp; omega)) (And.intro ⟨rfl, rfl, rfl, rfl, rfl⟩ ?_))); conv => whnf) | (refine And.intro ⟨rfl, rfl⟩ (And.intro (by first | omega | (simp; omega)) ?_); conv => whnf) | (refine Exists.intro _ (And.intro rfl ?_); conv => whnf) | (refine And.intro (fun _ => ?_) (fun h => absurd h (by decide)); conv => whnf) | (refine And.intro (fun h => absurd h (by decide)) (fun _ => ?_); conv => whnf) | (refine .eff (by first | exact cxOk _ _ | exact cxPOk _ _ _) ?_; conv => whnf))
          refine ⟨fun hd => ?_, fun hd => ?_⟩
          · have hd' : bad0 l c = true := hd
            rw [hJi (by rw [hd']; rfl)]
            conv => whnf
            rfl
          · have hd' : bad0 l c = false := hd
            conv => whnf
            repeat (first | (refine And.intro ⟨by omega, by omega⟩ ?_; conv => whnf) | (refine And.intro (by omega) (And.intro rfl ?_); conv => whnf) | (refine And.intro rfl ?_; conv => whnf) | (refine And.intro (fun _ => ⟨by omega, by omega⟩) ?_; conv => whnf) | (refine And.intro (fun _ => by omega) (And.intro rfl ?_); conv => whnf) | (refine And.intro ⟨(by first | omega | (simp; omega)), (by first | omega | (simp; omega))⟩ ?_; conv => whnf) | (refine Exists.intro _ (And.intro rfl (And.intro (by first | omega | (simp; omega)) (And.intro ⟨rfl, rfl, rfl, rfl, rfl⟩ ?_))); conv => whnf) | (refine And.intro ⟨rfl, rfl⟩ (And.intro (by first | omega | (simp; omega)) ?_); conv => whnf) | (refine Exists.intro _ (And.intro rfl ?_); conv => whnf) | (refine And.intro (fun _ => ?_) (fun h => absurd h (by decide)); conv => whnf) | (refine And.intro (fun h => absurd h (by decide)) (fun _ => ?_); conv => whnf) | (refine .eff (by first | exact cxOk _ _ | exact cxPOk _ _ _) ?_; conv => whnf))
            refine up hit (hup (by rw [hd']; rfl)) ((wk_of [] rfl ⟨.base (.tree _ _ rfl rfl), .base (.tree _ _ rfl rfl), .base (.tree _ _ (show AV.int .i64 _ = AV.int .i64 _ by congr 1; exact wrap1 (by omega)) rfl), trivial⟩ trivial))
        · have hb' : ¬ c.because = -1 := of_decide_eq_false hb
          rw [if_neg hb'] at hJi hup
          conv => whnf
          repeat (first | (refine And.intro ⟨by omega, by omega⟩ ?_; conv => whnf) | (refine And.intro (by omega) (And.intro rfl ?_); conv => whnf) | (refine And.intro rfl ?_; conv => whnf) | (refine And.intro (fun _ => ⟨by omega, by omega⟩) ?_; conv => whnf) | (refine And.intro (fun _ => by omega) (And.intro rfl ?_); conv => whnf) | (refine And.intro ⟨(by first | omega | (simp; omega)), (by first | omega | (simp; omega))⟩ ?_; conv => whnf) | (refine Exists.intro _ (And.intro rfl (And.intro (by first | omega | (simp; omega)) (And.intro ⟨rfl, rfl, rfl, rfl, rfl⟩ ?_))); conv => whnf) | (refine And.intro ⟨rfl, rfl⟩ (And.intro (by first | omega | (simp; omega)) ?_); conv => whnf) | (refine Exists.intro _ (And.intro rfl ?_); conv => whnf) | (refine And.intro (fun _ => ?_) (fun h => absurd h (by decide)); conv => whnf) | (refine And.intro (fun h => absurd h (by decide)) (fun _ => ?_); conv => whnf) | (refine .eff (by first | exact cxOk _ _ | exact cxPOk _ _ _) ?_; conv => whnf))
          refine ⟨fun hd => ?_, fun hd => ?_⟩
          · have hd' : bad1 l c = true := hd
            rw [hJi (by rw [hd']; rfl)]
            conv => whnf
            rfl
          · have hd' : bad1 l c = false := hd
            rw [hd'] at hJi hup
            conv => whnf
            refine loop_up (cxWOk _ _) cs.length (fun _ => True) (fun m => ⟨[(0, encDs l), (1, encCs cs), (7, .int .i64 (i : Nat)), (8, .ptr 0 0), (10, .int .i64 (F m)), (11, .int .i64 ((cs.length : Int) - 1 - (m : Nat)))], [(0, .cells 35 [.int .i64 c.issue, .int .i64 c.because, .int .i64 c.round, .int .i64 c.day])], 1⟩) trivial (by rw [hf0]; exact (wk_of [(0, .id 0)] rfl ⟨.base (.tree _ _ rfl rfl), .base (.tree _ _ rfl rfl), .base (.tree _ _ rfl rfl), .base (.ptr _ _ _ rfl), .base (.tree _ _ rfl rfl), .base (.tree _ _ (show AV.int .i64 _ = AV.int .i64 _ by congr 1; exact (wrapm (by omega) (by omega)).trans (by omega)) rfl), trivial⟩ ⟨⟨_, rfl, .cells _ _ _ _ rfl (by repeat (first | exact .nil | refine .cons (by first | exact .base (.tree _ _ rfl rfl) | exact .base (.own _ _ rfl) | exact .base (.ptr _ _ _ rfl) | exact .base (.map _ _ rfl) | exact .base (.nilown _ rfl)) ?_)) rfl⟩, trivial⟩)) ?_
            intro m hm _
            conv => whnf
            refine ⟨fun hk2 => ?_, fun hk2 => ?_⟩
            · have hk2' : decide (0 ≤ (cs.length : Int) - 1 - (m : Int)) = true := hk2
              simp only [decide_eq_true_eq] at hk2'
              have hmt : m < cs.length := by omega
              have ek : ((cs.length : Int) - 1 - (m : Int)).toNat = cs.length - (m + 1) := by omega
              have hfm := hfx m
              have hio := hin _ (getD_mem (d := c0) (show cs.length - (m + 1) < cs.length by omega))
              have hko : cs.getD ((cs.length : Int) - 1 - (m : Int)).toNat c0 = cs.getD (cs.length - (m + 1)) c0 := by rw [ek]
              generalize cs.getD (cs.length - (m + 1)) c0 = o at *
              have hca := can2_ok l o.issue c.issue hio hicc
              conv => whnf
              repeat (first | (refine And.intro ⟨by omega, by omega⟩ ?_; conv => whnf) | (refine And.intro (by omega) (And.intro rfl ?_); conv => whnf) | (refine And.intro rfl ?_; conv => whnf) | (refine And.intro (fun _ => ⟨by omega, by omega⟩) ?_; conv => whnf) | (refine And.intro (fun _ => by omega) (And.intro rfl ?_); conv => whnf) | (refine And.intro ⟨(by first | omega | (simp; omega)), (by first | omega | (simp; omega))⟩ ?_; conv => whnf) | (refine Exists.intro _ (And.intro rfl (And.intro (by first | omega | (simp; omega)) (And.intro ⟨rfl, rfl, rfl, rfl, rfl⟩ ?_))); conv => whnf) | (refine And.intro ⟨rfl, rfl⟩ (And.intro (by first | omega | (simp; omega)) ?_); conv => whnf) | (refine Exists.intro _ (And.intro rfl ?_); conv => whnf) | (refine And.intro (fun _ => ?_) (fun h => absurd h (by decide)); conv => whnf) | (refine And.intro (fun h => absurd h (by decide)) (fun _ => ?_); conv => whnf) | (refine .eff (by first | exact cxOk _ _ | exact cxPOk _ _ _) ?_; conv => whnf))
              rw [hko]
              refine .one _ _ _ (fun _ => hca) (by repeat (first | exact .nil | (apply BorL.cons; first | exact lS rfl | exact lR rfl | exact lM rfl rfl | exact lL rfl | exact lX rfl | exact lN | exact lNl | exact lSm rfl | exact lIm rfl | exact lP rfl | exact lQ rfl))) (by first | exact .inl rfl | exact .inr (by repeat (first | exact flats_nil | refine flats_cons (by first | exact flat_val _ rfl | exact flat_row (fun _ => rfl) | exact flat_lst (fun _ => rfl)) ?_))) (by first | exact .inl rfl | exact .inr rfl) ?_
              conv => whnf
              repeat (first | (refine And.intro ⟨by omega, by omega⟩ ?_; conv => whnf) | (refine And.intro (by omega) (And.intro rfl ?_); conv => whnf) | (refine And.intro rfl ?_; conv => whnf) | (refine And.intro (fun _ => ⟨by omega, by omega⟩) ?_; conv => whnf) | (refine And.intro (fun _ => by omega) (And.intro rfl ?_); conv => whnf) | (refine And.intro ⟨(by first | omega | (simp; omega)), (by first | omega | (simp; omega))⟩ ?_; conv => whnf) | (refine Exists.intro _ (And.intro rfl (And.intro (by first | omega | (simp; omega)) (And.intro ⟨rfl, rfl, rfl, rfl, rfl⟩ ?_))); conv => whnf) | (refine And.intro ⟨rfl, rfl⟩ (And.intro (by first | omega | (simp; omega)) ?_); conv => whnf) | (refine Exists.intro _ (And.intro rfl ?_); conv => whnf) | (refine And.intro (fun _ => ?_) (fun h => absurd h (by decide)); conv => whnf) | (refine And.intro (fun h => absurd h (by decide)) (fun _ => ?_); conv => whnf) | (refine .eff (by first | exact cxOk _ _ | exact cxPOk _ _ _) ?_; conv => whnf))
              refine ⟨fun hz => ?_, fun hz => ?_⟩
              · have hz' : jp2 l c o = true := hz
                rw [if_pos hz'] at hfm
                conv => whnf
                repeat (first | (refine And.intro ⟨by omega, by omega⟩ ?_; conv => whnf) | (refine And.intro (by omega) (And.intro rfl ?_); conv => whnf) | (refine And.intro rfl ?_; conv => whnf) | (refine And.intro (fun _ => ⟨by omega, by omega⟩) ?_; conv => whnf) | (refine And.intro (fun _ => by omega) (And.intro rfl ?_); conv => whnf) | (refine And.intro ⟨(by first | omega | (simp; omega)), (by first | omega | (simp; omega))⟩ ?_; conv => whnf) | (refine Exists.intro _ (And.intro rfl (And.intro (by first | omega | (simp; omega)) (And.intro ⟨rfl, rfl, rfl, rfl, rfl⟩ ?_))); conv => whnf) | (refine And.intro ⟨rfl, rfl⟩ (And.intro (by first | omega | (simp; omega)) ?_); conv => whnf) | (refine Exists.intro _ (And.intro rfl ?_); conv => whnf) | (refine And.intro (fun _ => ?_) (fun h => absurd h (by decide)); conv => whnf) | (refine And.intro (fun h => absurd h (by decide)) (fun _ => ?_); conv => whnf) | (refine .eff (by first | exact cxOk _ _ | exact cxPOk _ _ _) ?_; conv => whnf))
                refine up hmt trivial ((wk_of [(0, .id 0)] rfl ⟨.base (.tree _ _ rfl rfl), .base (.tree _ _ rfl rfl), .base (.tree _ _ rfl rfl), .base (.ptr _ _ _ rfl), .base (.tree _ _ (show AV.int .i64 _ = AV.int .i64 _ by congr 1; exact hfm.symm) rfl), .base (.tree _ _ (show AV.int .i64 _ = AV.int .i64 _ by congr 1; exact (wrapm (by omega) (by omega)).trans (by omega)) rfl), trivial⟩ ⟨⟨_, rfl, .cells _ _ _ _ rfl (by repeat (first | exact .nil | refine .cons (by first | exact .base (.tree _ _ rfl rfl) | exact .base (.own _ _ rfl) | exact .base (.ptr _ _ _ rfl) | exact .base (.map _ _ rfl) | exact .base (.nilown _ rfl)) ?_)) rfl⟩, trivial⟩))
              · have hz' : ¬ jp2 l c o = true := by rw [show jp2 l c o = false from hz]; exact Bool.noConfusion
                rw [if_neg hz'] at hfm
                conv => whnf
                repeat (first | (refine And.intro ⟨by omega, by omega⟩ ?_; conv => whnf) | (refine And.intro (by omega) (And.intro rfl ?_); conv => whnf) | (refine And.intro rfl ?_; conv => whnf) | (refine And.intro (fun _ => ⟨by omega, by omega⟩) ?_; conv => whnf) | (refine And.intro (fun _ => by omega) (And.intro rfl ?_); conv => whnf) | (refine And.intro ⟨(by first | omega | (simp; omega)), (by first | omega | (simp; omega))⟩ ?_; conv => whnf) | (refine Exists.intro _ (And.intro rfl (And.intro (by first | omega | (simp; omega)) (And.intro ⟨rfl, rfl, rfl, rfl, rfl⟩ ?_))); conv => whnf) | (refine And.intro ⟨rfl, rfl⟩ (And.intro (by first | omega | (simp; omega)) ?_); conv => whnf) | (refine Exists.intro _ (And.intro rfl ?_); conv => whnf) | (refine And.intro (fun _ => ?_) (fun h => absurd h (by decide)); conv => whnf) | (refine And.intro (fun h => absurd h (by decide)) (fun _ => ?_); conv => whnf) | (refine .eff (by first | exact cxOk _ _ | exact cxPOk _ _ _) ?_; conv => whnf))
                refine up hmt trivial ((wk_of [(0, .id 0)] rfl ⟨.base (.tree _ _ rfl rfl), .base (.tree _ _ rfl rfl), .base (.tree _ _ rfl rfl), .base (.ptr _ _ _ rfl), .base (.tree _ _ (show AV.int .i64 _ = AV.int .i64 _ by congr 1; exact hfm.symm) rfl), .base (.tree _ _ (show AV.int .i64 _ = AV.int .i64 _ by congr 1; exact (wrapm (by omega) (by omega)).trans (by omega)) rfl), trivial⟩ ⟨⟨_, rfl, .cells _ _ _ _ rfl (by repeat (first | exact .nil | refine .cons (by first | exact .base (.tree _ _ rfl rfl) | exact .base (.own _ _ rfl) | exact .base (.ptr _ _ _ rfl) | exact .base (.map _ _ rfl) | exact .base (.nilown _ rfl)) ?_)) rfl⟩, trivial⟩))
            · have hk2' : decide (0 ≤ (cs.length : Int) - 1 - (m : Int)) = false := hk2
              simp only [decide_eq_false_iff_not] at hk2'
              have : m = cs.length := by omega
              subst this
              conv => whnf
              repeat (first | (refine And.intro ⟨by omega, by omega⟩ ?_; conv => whnf) | (refine And.intro (by omega) (And.intro rfl ?_); conv => whnf) | (refine And.intro rfl ?_; conv => whnf) | (refine And.intro (fun _ => ⟨by omega, by omega⟩) ?_; conv => whnf) | (refine And.intro (fun _ => by omega) (And.intro rfl ?_); conv => whnf) | (refine And.intro ⟨(by first | omega | (simp; omega)), (by first | omega | (simp; omega))⟩ ?_; conv => whnf) | (refine Exists.intro _ (And.intro rfl (And.intro (by first | omega | (simp; omega)) (And.intro ⟨rfl, rfl, rfl, rfl, rfl⟩ ?_))); conv => whnf) | (refine And.intro ⟨rfl, rfl⟩ (And.intro (by first | omega | (simp; omega)) ?_); conv => whnf) | (refine Exists.intro _ (And.intro rfl ?_); conv => whnf) | (refine And.intro (fun _ => ?_) (fun h => absurd h (by decide)); conv => whnf) | (refine And.intro (fun h => absurd h (by decide)) (fun _ => ?_); conv => whnf) | (refine .eff (by first | exact cxOk _ _ | exact cxPOk _ _ _) ?_; conv => whnf))
              refine ⟨fun hz => ?_, fun hz => ?_⟩
              · have hz' : bF = true := by rw [hbF]; exact hz
                rw [hJi (by rw [hz']; rfl)]
                conv => whnf
                rfl
              · have hz' : bF = false := by rw [hbF]; exact hz
                conv => whnf
                repeat (first | (refine And.intro ⟨by omega, by omega⟩ ?_; conv => whnf) | (refine And.intro (by omega) (And.intro rfl ?_); conv => whnf) | (refine And.intro rfl ?_; conv => whnf) | (refine And.intro (fun _ => ⟨by omega, by omega⟩) ?_; conv => whnf) | (refine And.intro (fun _ => by omega) (And.intro rfl ?_); conv => whnf) | (refine And.intro ⟨(by first | omega | (simp; omega)), (by first | omega | (simp; omega))⟩ ?_; conv => whnf) | (refine Exists.intro _ (And.intro rfl (And.intro (by first | omega | (simp; omega)) (And.intro ⟨rfl, rfl, rfl, rfl, rfl⟩ ?_))); conv => whnf) | (refine And.intro ⟨rfl, rfl⟩ (And.intro (by first | omega | (simp; omega)) ?_); conv => whnf) | (refine Exists.intro _ (And.intro rfl ?_); conv => whnf) | (refine And.intro (fun _ => ?_) (fun h => absurd h (by decide)); conv => whnf) | (refine And.intro (fun h => absurd h (by decide)) (fun _ => ?_); conv => whnf) | (refine .eff (by first | exact cxOk _ _ | exact cxPOk _ _ _) ?_; conv => whnf))
                refine up hit (hup (by rw [hz']; rfl)) ((wk_of [] rfl ⟨.base (.tree _ _ rfl rfl), .base (.tree _ _ rfl rfl), .base (.tree _ _ (show AV.int .i64 _ = AV.int .i64 _ by congr 1; exact wrap1 (by omega)) rfl), trivial⟩ trivial))
      · simp only [decide_eq_false_iff_not] at hc2
        have : i = cs.length := by omega
        subst this
        rw [hJ1 hP, Bool.true_and]
        clear hJ1 hJ2 hP
        have hK1 := fun (h : ∀ k, k < l.length → okJ2 l cs k = true) => all_true (p := okJ2 l cs) h
        have hK2 := fun k (hk : k < l.length) (h : okJ2 l cs k = false) => all_false (p := okJ2 l cs) hk h
        generalize (List.range l.length).all (okJ2 l cs) = kb at *
        conv => whnf
        refine loop_up (cxWOk _ _) l.length (fun j => ∀ k, k < j → okJ2 l cs k = true) (fun j => ⟨[(0, encDs l), (1, encCs cs), (13, .int .i64 (j : Nat))], [], 0⟩) (fun k h => by omega) (wk_of [] rfl ⟨.base (.tree _ _ rfl rfl), .base (.tree _ _ rfl rfl), .base (.tree _ _ rfl rfl), trivial⟩ trivial) ?_
        intro j hj hP
        conv => whnf
        refine ⟨fun hc3 => ?_, fun hc3 => ?_⟩
        · simp only [decide_eq_true_eq] at hc3
          have hjt : j < l.length := by omega
          have hlj : l.getD (j : Int).toNat d0 = l.getD j d0 := by rw [Int.toNat_natCast]
          have hfi := find_ok cs (by omega) j
          have hKj := hK2 j hjt
          have hup : okJ2 l cs j = true → ∀ k, k < j + 1 → okJ2 l cs k = true := fun h k hk => by
            by_cases e : k = j
            · rw [e]; exact h
            · exact hP k (by omega)
          have hok : okJ2 l cs j = (!(!decide ((l.getD j d0).fast = -1) && (!(findC cs j).isSome || decide ((l.getD j d0).fast < ((findC cs j).getD c0).day))) && !cs.any (late2 l j (findC cs j).isSome ((findC cs j).getD c0))) := rfl
          generalize (findC cs j).isSome = is at *
          generalize (findC cs j).getD c0 = c at *
          generalize okJ2 l cs j = ok at *
          conv => whnf
          refine .one _ _ _ (fun _ => hfi) (by repeat (first | exact .nil | (apply BorL.cons; first | exact lS rfl | exact lR rfl | exact lM rfl rfl | exact lL rfl | exact lX rfl | exact lN | exact lNl | exact lSm rfl | exact lIm rfl | exact lP rfl | exact lQ rfl))) (by first | exact .inl rfl | exact .inr (by repeat (first | exact flats_nil | refine flats_cons (by first | exact flat_val _ rfl | exact flat_row (fun _ => rfl) | exact flat_lst (fun _ => rfl)) ?_))) (by first | exact .inl rfl | exact .inr rfl) ?_
          conv => whnf
          repeat (first | (refine And.intro ⟨by omega, by omega⟩ ?_; conv => whnf) | (refine And.intro (by omega) (And.intro rfl ?_); conv => whnf) | (refine And.intro rfl ?_; conv => whnf) | (refine And.intro (fun _ => ⟨by omega, by omega⟩) ?_; conv => whnf) | (refine And.intro (fun _ => by omega) (And.intro rfl ?_); conv => whnf) | (refine And.intro ⟨(by first | omega | (simp; omega)), (by first | omega | (simp; omega))⟩ ?_; conv => whnf) | (refine Exists.intro _ (And.intro rfl (And.intro (by first | omega | (simp; omega)) (And.intro ⟨rfl, rfl, rfl, rfl, rfl⟩ ?_))); conv => whnf) | (refine And.intro ⟨rfl, rfl⟩ (And.intro (by first | omega | (simp; omega)) ?_); conv => whnf) | (refine Exists.intro _ (And.intro rfl ?_); conv => whnf) | (refine And.intro (fun _ => ?_) (fun h => absurd h (by decide)); conv => whnf) | (refine And.intro (fun h => absurd h (by decide)) (fun _ => ?_); conv => whnf) | (refine .eff (by first | exact cxOk _ _ | exact cxPOk _ _ _) ?_; conv => whnf))
          repeat (first | (refine And.intro ⟨by omega, by omega⟩ ?_; conv => whnf) | (refine And.intro (by omega) (And.intro rfl ?_); conv => whnf) | (refine And.intro rfl ?_; conv => whnf) | (refine And.intro (fun _ => ⟨by omega, by omega⟩) ?_; conv => whnf) | (refine And.intro (fun _ => by omega) (And.intro rfl ?_); conv => whnf) | (refine And.intro ⟨(by first | omega | (simp; omega)), (by first | omega | (simp; omega))⟩ ?_; conv => whnf) | (refine Exists.intro _ (And.intro rfl (And.intro (by first | omega | (simp; omega)) (And.intro ⟨rfl, rfl, rfl, rfl, rfl⟩ ?_))); conv => whnf) | (refine And.intro ⟨rfl, rfl⟩ (And.intro (by first | omega | (simp; omega)) ?_); conv => whnf) | (refine Exists.intro _ (And.intro rfl ?_); conv => whnf) | (refine And.intro (fun _ => ?_) (fun h => absurd h (by decide)); conv => whnf) | (refine And.intro (fun h => absurd h (by decide)) (fun _ => ?_); conv => whnf) | (refine .quiet (by kernel_rfl) ?_; conv => whnf))
          rw [hlj]
          refine ⟨fun hd => ?_, fun hd => ?_⟩
          · have hd' : (!decide ((l.getD j d0).fast = -1) && (!is || decide ((l.getD j d0).fast < c.day))) = true := hd
            rw [hd'] at hok
            rw [hKj (by rw [hok]; rfl)]
            conv => whnf
            rfl
          · have hd' : (!decide ((l.getD j d0).fast = -1) && (!is || decide ((l.getD j d0).fast < c.day))) = false := hd
            rw [hd', Bool.not_false, Bool.true_and] at hok
            have hlate := fun (k : Nat) (hk : k < cs.length) (hP : (cs.take k).any (late2 l j is c) = false) (h : late2 l j is c (cs.getD k c0) = false) => any_take_succ (d := c0) hk hP h
            have hlat2 := fun (k : Nat) (hk : k < cs.length) (h : late2 l j is c (cs.getD k c0) = true) => anyC_true (p := late2 l j is c) hk h
            have hlat3 : (cs.take 0).any (late2 l j is c) = false := rfl
            have hlat4 : (cs.take cs.length).any (late2 l j is c) = cs.any (late2 l j is c) := by rw [List.take_of_length_le (Nat.le_refl _)]
            have hldef := fun o => (show late2 l j is c o = (can2 l o.issue.toNat j && ((!is || decide (o.day < c.day)) || (decide (c.day = o.day) && decide (o.round < w64 (c.round - 1))))) from rfl)
            generalize late2 l j is c = lt at *
            conv => whnf
            refine loop_up (cxWOk _ _) cs.length (fun m => (cs.take m).any lt = false) (fun m => ⟨[(0, encDs l), (1, encCs cs), (13, .int .i64 (j : Nat)), (14, .ptr 0 0), (15, .bool is), (16, .int .i64 (m : Nat))], [(0, .cells 35 [.int .i64 c.issue, .int .i64 c.because, .int .i64 c.round, .int .i64 c.day])], 1⟩) hlat3 ((wk_of [(0, .id 0)] rfl ⟨.base (.tree _ _ rfl rfl), .base (.tree _ _ rfl rfl), .base (.tree _ _ rfl rfl), .base (.ptr _ _ _ rfl), .base (.tree _ _ rfl rfl), .base (.tree _ _ rfl rfl), trivial⟩ ⟨⟨_, rfl, .cells _ _ _ _ rfl (by repeat (first | exact .nil | refine .cons (by first | exact .base (.tree _ _ rfl rfl) | exact .base (.own _ _ rfl) | exact .base (.ptr _ _ _ rfl) | exact .base (.map _ _ rfl) | exact .base (.nilown _ rfl)) ?_)) rfl⟩, trivial⟩)) ?_
            intro m hm hQ
            conv => whnf
            refine ⟨fun hc4 => ?_, fun hc4 => ?_⟩
            · simp only [decide_eq_true_eq] at hc4
              have hmt : m < cs.length := by omega
              have hcm : cs.getD (m : Int).toNat c0 = cs.getD m c0 := by rw [Int.toNat_natCast]
              have ho := hin _ (getD_mem (d := c0) hmt)
              have g1 := hlate m hmt hQ
              have g2 := hlat2 m hmt
              have g3 := hldef (cs.getD m c0)
              generalize cs.getD m c0 = o at *
              have hca := can2_ok l o.issue j ho ⟨by omega, by omega⟩
              rw [Int.toNat_natCast] at hca
              conv => whnf
              repeat (first | (refine And.intro ⟨by omega, by omega⟩ ?_; conv => whnf) | (refine And.intro (by omega) (And.intro rfl ?_); conv => whnf) | (refine And.intro rfl ?_; conv => whnf) | (refine And.intro (fun _ => ⟨by omega, by omega⟩) ?_; conv => whnf) | (refine And.intro (fun _ => by omega) (And.intro rfl ?_); conv => whnf) | (refine And.intro ⟨(by first | omega | (simp; omega)), (by first | omega | (simp; omega))⟩ ?_; conv => whnf) | (refine Exists.intro _ (And.intro rfl (And.intro (by first | omega | (simp; omega)) (And.intro ⟨rfl, rfl, rfl, rfl, rfl⟩ ?_))); conv => whnf) | (refine And.intro ⟨rfl, rfl⟩ (And.intro (by first | omega | (simp; omega)) ?_); conv => whnf) | (refine Exists.intro _ (And.intro rfl ?_); conv => whnf) | (refine And.intro (fun _ => ?_) (fun h => absurd h (by decide)); conv => whnf) | (refine And.intro (fun h => absurd h (by decide)) (fun _ => ?_); conv => whnf) | (refine .eff (by first | exact cxOk _ _ | exact cxPOk _ _ _) ?_; conv => whnf))
              rw [hcm]
              refine .one _ _ _ (fun _ => hca) (by repeat (first | exact .nil | (apply BorL.cons; first | exact lS rfl | exact lR rfl | exact lM rfl rfl | exact lL rfl | exact lX rfl | exact lN | exact lNl | exact lSm rfl | exact lIm rfl | exact lP rfl | exact lQ rfl))) (by first | exact .inl rfl | exact .inr (by repeat (first | exact flats_nil | refine flats_cons (by first | exact flat_val _ rfl | exact flat_row (fun _ => rfl) | exact flat_lst (fun _ => rfl)) ?_))) (by first | exact .inl rfl | exact .inr rfl) ?_
              conv => whnf
              repeat (first | (refine And.intro ⟨by omega, by omega⟩ ?_; conv => whnf) | (refine And.intro (by omega) (And.intro rfl ?_); conv => whnf) | (refine And.intro rfl ?_; conv => whnf) | (refine And.intro (fun _ => ⟨by omega, by omega⟩) ?_; conv => whnf) | (refine And.intro (fun _ => by omega) (And.intro rfl ?_); conv => whnf) | (refine And.intro ⟨(by first | omega | (simp; omega)), (by first | omega | (simp; omega))⟩ ?_; conv => whnf) | (refine Exists.intro _ (And.intro rfl (And.intro (by first | omega | (simp; omega)) (And.intro ⟨rfl, rfl, rfl, rfl, rfl⟩ ?_))); conv => whnf) | (refine And.intro ⟨rfl, rfl⟩ (And.intro (by first | omega | (simp; omega)) ?_); conv => whnf) | (refine Exists.intro _ (And.intro rfl ?_); conv => whnf) | (refine And.intro (fun _ => ?_) (fun h => absurd h (by decide)); conv => whnf) | (refine And.intro (fun h => absurd h (by decide)) (fun _ => ?_); conv => whnf) | (refine .eff (by first | exact cxOk _ _ | exact cxPOk _ _ _) ?_; conv => whnf))
              refine ⟨fun hz => ?_, fun hz => ?_⟩
              · have hz' : lt o = true := by rw [g3]; exact hz
                rw [hKj (by rw [hok, g2 hz']; rfl)]
                conv => whnf
                rfl
              · have hz' : lt o = false := by rw [g3]; exact hz
                conv => whnf
                repeat (first | (refine And.intro ⟨by omega, by omega⟩ ?_; conv => whnf) | (refine And.intro (by omega) (And.intro rfl ?_); conv => whnf) | (refine And.intro rfl ?_; conv => whnf) | (refine And.intro (fun _ => ⟨by omega, by omega⟩) ?_; conv => whnf) | (refine And.intro (fun _ => by omega) (And.intro rfl ?_); conv => whnf) | (refine And.intro ⟨(by first | omega | (simp; omega)), (by first | omega | (simp; omega))⟩ ?_; conv => whnf) | (refine Exists.intro _ (And.intro rfl (And.intro (by first | omega | (simp; omega)) (And.intro ⟨rfl, rfl, rfl, rfl, rfl⟩ ?_))); conv => whnf) | (refine And.intro ⟨rfl, rfl⟩ (And.intro (by first | omega | (simp; omega)) ?_); conv => whnf) | (refine Exists.intro _ (And.intro rfl ?_); conv => whnf) | (refine And.intro (fun _ => ?_) (fun h => absurd h (by decide)); conv => whnf) | (refine And.intro (fun h => absurd h (by decide)) (fun _ => ?_); conv => whnf) | (refine .eff (by first | exact cxOk _ _ | exact cxPOk _ _ _) ?_; conv => whnf))
                refine up hmt (g1 hz') ((wk_of [(0, .id 0)] rfl ⟨.base (.tree _ _ rfl rfl), .base (.tree _ _ rfl rfl), .base (.tree _ _ rfl rfl), .base (.ptr _ _ _ rfl), .base (.tree _ _ rfl rfl), .base (.tree _ _ (show AV.int .i64 _ = AV.int .i64 _ by congr 1; exact wrap1 (by omega)) rfl), trivial⟩ ⟨⟨_, rfl, .cells _ _ _ _ rfl (by repeat (first | exact .nil | refine .cons (by first | exact .base (.tree _ _ rfl rfl) | exact .base (.own _ _ rfl) | exact .base (.ptr _ _ _ rfl) | exact .base (.map _ _ rfl) | exact .base (.nilown _ rfl)) ?_)) rfl⟩, trivial⟩))
            · simp only [decide_eq_false_iff_not] at hc4
              have : m = cs.length := by omega
              subst this
              rw [hlat4] at hQ
              rw [hQ] at hok
              conv => whnf
              repeat (first | (refine And.intro ⟨by omega, by omega⟩ ?_; conv => whnf) | (refine And.intro (by omega) (And.intro rfl ?_); conv => whnf) | (refine And.intro rfl ?_; conv => whnf) | (refine And.intro (fun _ => ⟨by omega, by omega⟩) ?_; conv => whnf) | (refine And.intro (fun _ => by omega) (And.intro rfl ?_); conv => whnf) | (refine And.intro ⟨(by first | omega | (simp; omega)), (by first | omega | (simp; omega))⟩ ?_; conv => whnf) | (refine Exists.intro _ (And.intro rfl (And.intro (by first | omega | (simp; omega)) (And.intro ⟨rfl, rfl, rfl, rfl, rfl⟩ ?_))); conv => whnf) | (refine And.intro ⟨rfl, rfl⟩ (And.intro (by first | omega | (simp; omega)) ?_); conv => whnf) | (refine Exists.intro _ (And.intro rfl ?_); conv => whnf) | (refine And.intro (fun _ => ?_) (fun h => absurd h (by decide)); conv => whnf) | (refine And.intro (fun h => absurd h (by decide)) (fun _ => ?_); conv => whnf) | (refine .eff (by first | exact cxOk _ _ | exact cxPOk _ _ _) ?_; conv => whnf))
              refine up hjt (hup hok) ((wk_of [] rfl ⟨.base (.tree _ _ rfl rfl), .base (.tree _ _ rfl rfl), .base (.tree _ _ (show AV.int .i64 _ = AV.int .i64 _ by congr 1; exact wrap1 (by omega)) rfl), trivial⟩ trivial))
        · simp only [decide_eq_false_iff_not] at hc3
          have : j = l.length := by omega
          subst this
          rw [hK1 hP]
          conv => whnf
          rfl

end Go.Proofs.Ytkldidgcgioceaa
