import Derived.Test.YtpkendnpabjgoaaR26
namespace Go.Proofs.Ytpkendnpabjgoaa
open Go.Own
set_option maxHeartbeats 2000000
set_option maxRecDepth 100000

def stepR (ps : List Pay) (ds : List Int) (ms : List Bool) (ab : List Sh × List Sh) (k : Nat) : List Sh × List Sh :=
  (if upB ps ds ms k = true then addL ab.1 (ps.getD k p0).seat (overAt ps ds k) else ab.1,
   if overAt ps ds k < 0 then addL ab.2 (ps.getD k p0).seat (- overAt ps ds k) else ab.2)
def tallyR (ps : List Pay) (ds : List Int) (ms : List Bool) (n : Nat) : List Sh × List Sh := (List.range n).foldl (stepR ps ds ms) ([], [])
theorem tallyR_succ (ps : List Pay) (ds : List Int) (ms : List Bool) (n : Nat) : tallyR ps ds ms (n + 1) = stepR ps ds ms (tallyR ps ds ms n) n := by
  unfold tallyR
  rw [List.range_succ, List.foldl_append]
  rfl
def bigR (l : List Sh) : Bool := l.any fun x => decide (1000000000000000 < x.amount)

theorem addL_len (l : List Sh) (s a : Int) : (addL l s a).length ≤ l.length + 1 := by
  unfold addL
  split
  · rw [List.length_set]; omega
  · rw [List.length_append, List.length_cons, List.length_take, List.length_drop]; omega
theorem addL_mem {l : List Sh} {s a : Int} {x : Sh} (h : x ∈ addL l s a) : x ∈ l ∨ x.amount = a ∨ ∃ y ∈ l, x.amount = y.amount + a := by
  unfold addL at h
  split at h
  · rename_i hc
    rcases List.mem_or_eq_of_mem_set h with h | h
    · exact .inl h
    · subst h
      exact .inr (.inr ⟨_, getD_mem hc.1, rfl⟩)
  · rcases List.mem_append.1 h with h | h
    · exact .inl (List.mem_of_mem_take h)
    · rcases List.mem_cons.1 h with h | h
      · subst h
        exact .inr (.inl rfl)
      · exact .inl (List.mem_of_mem_drop h)
def bdR (l : List Sh) (k : Nat) : Prop := l.length ≤ k ∧ ∀ x ∈ l, 0 ≤ x.amount ∧ x.amount ≤ 1000000000000000 * k
theorem bdR_add {l : List Sh} {k : Nat} {s a : Int} (h : bdR l k) (ha : 0 ≤ a ∧ a ≤ 1000000000000000) : bdR (addL l s a) (k + 1) := by
  refine ⟨Nat.le_trans (addL_len _ _ _) (by have := h.1; omega), fun x hx => ?_⟩
  rcases addL_mem hx with hx | hx | ⟨y, hy, hx⟩
  · have := h.2 x hx
    omega
  · omega
  · have := h.2 y hy
    omega
theorem bdR_succ {l : List Sh} {k : Nat} (h : bdR l k) : bdR l (k + 1) := ⟨by have := h.1; omega, fun x hx => by have := h.2 x hx; omega⟩

theorem bad_eq (s p d : Int) : ((((decide (s < 0) || decide (p < 0)) || decide (1000000000000000 < p)) || decide (d < 0)) || decide (1000000000000000 < d)) = ((decide (s < 0) || !moneyB p) || !moneyB d) := by
  unfold moneyB
  rw [Bool.eq_iff_iff]
  simp
  omega

theorem bad_bd {ps : List Pay} {ds : List Int} {n : Nat} (h : anyBad ps ds n = false) {k : Nat} (hk : k < n) : 0 ≤ (ps.getD k p0).seat ∧ (0 ≤ (ps.getD k p0).paid ∧ (ps.getD k p0).paid ≤ 1000000000000000) ∧ (0 ≤ ds.getD k 0 ∧ ds.getD k 0 ≤ 1000000000000000) := by
  have := List.any_eq_false.1 h k (List.mem_range.2 hk)
  simp only [badAt, moneyB, Bool.or_eq_true, decide_eq_true_eq, Bool.not_eq_true', Bool.and_eq_false_iff, decide_eq_false_iff_not, not_or] at this
  omega

theorem backs2_ok (ps : List Pay) (hl : ps.length ≤ 20) (hseat : ∀ p ∈ ps, p.seat ≤ 9223372036854775807) (ds : List Int) (ms : List Bool) (hd : ds.length ≤ 9223372036854775807) (hm : ms.length ≤ 9223372036854775807) :
    APure Try.prog 11 [encPs ps, encIs ds, encBs ms] (fun rs => rs = if (!decide (ds.length = ps.length) || !decide (ms.length = ps.length)) = true then [.val .nils, .val .nils, .val (.int .i64 1)]
      else if anyBad ps ds ps.length = true then [.val .nils, .val .nils, .val (.int .i64 1)]
      else if bigR ((tallyR ps ds ms ps.length).1 ++ (tallyR ps ds ms ps.length).2) = true then [.val .nils, .val .nils, .val (.int .i64 6)]
      else [.new (.row 48 2 encSh s0 (tallyR ps ds ms ps.length).1), .new (.row 48 2 encSh s0 (tallyR ps ds ms ps.length).2), .val (.int .i64 0)]) := by
  refine apure_of (C := cx 137 [0, 1, 2, 6, 7, 8, 9, 10, 11, 12, 13, 14, 15, 16, 17, 29, 33, 71, 75, 96, 107, 126, 134]) (cxOk _ _) Try.func11 rfl (by decide) rfl (by exact Nat.le_of_ble_eq_true rfl) (by decide) ?_
  conv => whnf
  refine ⟨fun hc => ?_, fun hc => ?_⟩
  · conv => whnf
    have hc' : (!decide ((ds.length : Int) = ps.length) || !decide ((ms.length : Int) = ps.length)) = true := hc
    have e1 : decide ((ds.length : Int) = ps.length) = decide (ds.length = ps.length) := by rw [decide_eq_decide]; omega
    have e2 : decide ((ms.length : Int) = ps.length) = decide (ms.length = ps.length) := by rw [decide_eq_decide]; omega
    rw [e1, e2] at hc'
    rw [if_pos hc']
    rfl
  have hc' : (!decide ((ds.length : Int) = ps.length) || !decide ((ms.length : Int) = ps.length)) = false := hc
  have e1 : decide ((ds.length : Int) = ps.length) = decide (ds.length = ps.length) := by rw [decide_eq_decide]; omega
  have e2 : decide ((ms.length : Int) = ps.length) = decide (ms.length = ps.length) := by rw [decide_eq_decide]; omega
  rw [e1, e2] at hc'
  rw [if_neg (by rw [hc']; exact Bool.noConfusion)]
  have hdl : ds.length = ps.length := by
    simp only [Bool.or_eq_false_iff, Bool.not_eq_false', decide_eq_true_eq] at hc'
    exact hc'.1
  have hml : ms.length = ps.length := by
    simp only [Bool.or_eq_false_iff, Bool.not_eq_false', decide_eq_true_eq] at hc'
    exact hc'.2
  conv => whnf
  refine loop_up (cxOk _ _) ps.length (fun k => anyBad ps ds k = false) (fun k => ⟨[(0, encPs ps), (1, encIs ds), (2, encBs ms), (9, .int .i64 (k : Nat))], [], 0⟩) rfl ((wk_of [] rfl ⟨.base (.tree _ _ rfl rfl), .base (.tree _ _ rfl rfl), .base (.tree _ _ rfl rfl), .base (.tree _ _ rfl rfl), trivial⟩ trivial)) ?_
  intro k hk hB
  conv => whnf
  refine ⟨fun hc2 => ?_, fun hc2 => ?_⟩
  · simp only [decide_eq_true_eq] at hc2
    have hlt : k < ps.length := by omega
    have hbad : badAt ps ds k = ((decide ((ps.getD k p0).seat < 0) || !moneyB (ps.getD k p0).paid) || !moneyB (ds.getD k 0)) := rfl
    conv => whnf
    repeat (first | (refine And.intro ⟨by omega, by omega⟩ ?_; conv => whnf) | (refine And.intro (by omega) (And.intro rfl ?_); conv => whnf) | (refine And.intro rfl ?_; conv => whnf) | (refine And.intro (fun _ => ⟨by omega, by omega⟩) ?_; conv => whnf) | (refine And.intro (fun _ => by omega) (And.intro rfl ?_); conv => whnf) | (refine And.intro ⟨(by first | omega | (simp; omega)), (by first | omega | (simp; omega))⟩ ?_; conv => whnf) | (refine Exists.intro _ (And.intro rfl (And.intro (by first | omega | (simp; omega)) (And.intro ⟨rfl, rfl, rfl, rfl, rfl⟩ ?_))); conv => whnf) | (refine And.intro ⟨rfl, rfl⟩ (And.intro (by first | omega | (simp; omega)) ?_); conv => whnf) | (refine Exists.intro _ (And.intro rfl ?_); conv => whnf) | (refine And.intro (fun _ => ?_) (fun h => absurd h (by decide)); conv => whnf) | (refine And.intro (fun h => absurd h (by decide)) (fun _ => ?_); conv => whnf) | (refine .quiet (by kernel_rfl) ?_; conv => whnf))
    rw [Int.toNat_natCast]
    refine ⟨fun hz => ?_, fun hz => ?_⟩
    · have hz' : ((((decide ((ps.getD k p0).seat < 0) || decide ((ps.getD k p0).paid < 0)) || decide (1000000000000000 < (ps.getD k p0).paid)) || decide (ds.getD k 0 < 0)) || decide (1000000000000000 < ds.getD k 0)) = true := hz
      rw [bad_eq, ← hbad] at hz'
      have hall : anyBad ps ds ps.length = true := List.any_eq_true.2 ⟨k, List.mem_range.2 hlt, hz'⟩
      rw [if_pos hall]
      conv => whnf
      rfl
    · have hz' : ((((decide ((ps.getD k p0).seat < 0) || decide ((ps.getD k p0).paid < 0)) || decide (1000000000000000 < (ps.getD k p0).paid)) || decide (ds.getD k 0 < 0)) || decide (1000000000000000 < ds.getD k 0)) = false := hz
      rw [bad_eq, ← hbad] at hz'
      conv => whnf
      repeat (first | (refine And.intro ⟨by omega, by omega⟩ ?_; conv => whnf) | (refine And.intro (by omega) (And.intro rfl ?_); conv => whnf) | (refine And.intro rfl ?_; conv => whnf) | (refine And.intro (fun _ => ⟨by omega, by omega⟩) ?_; conv => whnf) | (refine And.intro (fun _ => by omega) (And.intro rfl ?_); conv => whnf) | (refine And.intro ⟨(by first | omega | (simp; omega)), (by first | omega | (simp; omega))⟩ ?_; conv => whnf) | (refine Exists.intro _ (And.intro rfl (And.intro (by first | omega | (simp; omega)) (And.intro ⟨rfl, rfl, rfl, rfl, rfl⟩ ?_))); conv => whnf) | (refine And.intro ⟨rfl, rfl⟩ (And.intro (by first | omega | (simp; omega)) ?_); conv => whnf) | (refine Exists.intro _ (And.intro rfl ?_); conv => whnf) | (refine And.intro (fun _ => ?_) (fun h => absurd h (by decide)); conv => whnf) | (refine And.intro (fun h => absurd h (by decide)) (fun _ => ?_); conv => whnf) | (refine .quiet (by kernel_rfl) ?_; conv => whnf))
      refine up hlt (any_succ hB hz') ((wk_of [] rfl ⟨.base (.tree _ _ rfl rfl), .base (.tree _ _ rfl rfl), .base (.tree _ _ rfl rfl), .base (.tree _ _ rfl rfl), trivial⟩ trivial))
  · simp only [decide_eq_false_iff_not] at hc2
    obtain rfl : k = ps.length := by omega
    rw [if_neg (by rw [hB]; exact Bool.noConfusion)]
    conv => whnf
    refine loop_up (cxOk _ _) ps.length (fun k => bdR (tallyR ps ds ms k).1 k ∧ bdR (tallyR ps ds ms k).2 k) (fun k => ⟨[(0, encPs ps), (1, encIs ds), (2, encBs ms), (10, .own 0), (11, .own 1), (12, .int .i64 (k : Nat))], [(0, .row 48 2 encSh s0 (tallyR ps ds ms k).1), (1, .row 48 2 encSh s0 (tallyR ps ds ms k).2)], 2⟩) ⟨⟨Nat.le_refl _, fun x h => by cases h⟩, Nat.le_refl _, fun x h => by cases h⟩ ((wk_of [(0, .nil), (1, .nil)] rfl ⟨.base (.tree _ _ rfl rfl), .base (.tree _ _ rfl rfl), .base (.tree _ _ rfl rfl), (by first | exact .base (.own _ _ rfl) | exact .base (.nilown _ rfl) | exact .base (.trunc _ _ _ rfl)), (by first | exact .base (.own _ _ rfl) | exact .base (.nilown _ rfl) | exact .base (.trunc _ _ _ rfl)), .base (.tree _ _ rfl rfl), trivial⟩ ⟨⟨_, rfl, (by first | exact .row _ _ _ _ _ _ _ rfl rfl | exact .lstrow _ _ _ _ _ _ _ rfl rfl | exact .nilrow _ _ _ _ _ rfl | exact .truncrow _ _ _ _ _ _ _ _ rfl (by omega) rfl)⟩, ⟨_, rfl, (by first | exact .row _ _ _ _ _ _ _ rfl rfl | exact .lstrow _ _ _ _ _ _ _ rfl rfl | exact .nilrow _ _ _ _ _ rfl | exact .truncrow _ _ _ _ _ _ _ _ rfl (by omega) rfl)⟩, trivial⟩)) ?_
    rintro k hk ⟨hA1, hA2⟩
    conv => whnf
    refine ⟨fun hc3 => ?_, fun hc3 => ?_⟩
    · simp only [decide_eq_true_eq] at hc3
      have hlt : k < ps.length := by omega
      obtain ⟨b1, b2, b3⟩ := bad_bd hB hlt
      have hT := tallyR_succ ps ds ms k
      have hT1 : (tallyR ps ds ms (k + 1)).1 = if (decide (0 < (ps.getD k p0).paid - ds.getD k 0) && !ms.getD k false) = true then addL (tallyR ps ds ms k).1 (ps.getD k p0).seat ((ps.getD k p0).paid - ds.getD k 0) else (tallyR ps ds ms k).1 := by rw [hT]; rfl
      have hT2 : (tallyR ps ds ms (k + 1)).2 = if (ps.getD k p0).paid - ds.getD k 0 < 0 then addL (tallyR ps ds ms k).2 (ps.getD k p0).seat (- ((ps.getD k p0).paid - ds.getD k 0)) else (tallyR ps ds ms k).2 := by rw [hT]; rfl
      clear hT
      have hd0 : ds.getD (k : Int).toNat 0 = ds.getD k 0 := by rw [Int.toNat_natCast]
      have hp00 : ps.getD (k : Int).toNat p0 = ps.getD k p0 := by rw [Int.toNat_natCast]
      have hm0 : ms.getD (k : Int).toNat false = ms.getD k false := by rw [Int.toNat_natCast]
      generalize ps.getD k p0 = p at *
      generalize ds.getD k 0 = d at *
      generalize ms.getD k false = m at *
      generalize hA' : (tallyR ps ds ms (k + 1)).1 = A' at *
      generalize hB' : (tallyR ps ds ms (k + 1)).2 = B' at *
      generalize (tallyR ps ds ms k).1 = A at *
      generalize (tallyR ps ds ms k).2 = B at *
      conv => whnf
      repeat (first | (refine And.intro ⟨by omega, by omega⟩ ?_; conv => whnf) | (refine And.intro (by omega) (And.intro rfl ?_); conv => whnf) | (refine And.intro rfl ?_; conv => whnf) | (refine And.intro (fun _ => ⟨by omega, by omega⟩) ?_; conv => whnf) | (refine And.intro (fun _ => by omega) (And.intro rfl ?_); conv => whnf) | (refine And.intro ⟨(by first | omega | (simp; omega)), (by first | omega | (simp; omega))⟩ ?_; conv => whnf) | (refine Exists.intro _ (And.intro rfl (And.intro (by first | omega | (simp; omega)) (And.intro ⟨rfl, rfl, rfl, rfl, rfl⟩ ?_))); conv => whnf) | (refine And.intro ⟨rfl, rfl⟩ (And.intro (by first | omega | (simp; omega)) ?_); conv => whnf) | (refine Exists.intro _ (And.intro rfl ?_); conv => whnf) | (refine And.intro (fun _ => ?_) (fun h => absurd h (by decide)); conv => whnf) | (refine And.intro (fun h => absurd h (by decide)) (fun _ => ?_); conv => whnf) | (refine .quiet (by kernel_rfl) ?_; conv => whnf))
      rw [hp00, hd0]
      repeat (first | (refine And.intro ⟨by omega, by omega⟩ ?_; conv => whnf) | (refine And.intro (by omega) (And.intro rfl ?_); conv => whnf) | (refine And.intro rfl ?_; conv => whnf) | (refine And.intro (fun _ => ⟨by omega, by omega⟩) ?_; conv => whnf) | (refine And.intro (fun _ => by omega) (And.intro rfl ?_); conv => whnf) | (refine And.intro ⟨(by first | omega | (simp; omega)), (by first | omega | (simp; omega))⟩ ?_; conv => whnf) | (refine Exists.intro _ (And.intro rfl (And.intro (by first | omega | (simp; omega)) (And.intro ⟨rfl, rfl, rfl, rfl, rfl⟩ ?_))); conv => whnf) | (refine And.intro ⟨rfl, rfl⟩ (And.intro (by first | omega | (simp; omega)) ?_); conv => whnf) | (refine Exists.intro _ (And.intro rfl ?_); conv => whnf) | (refine And.intro (fun _ => ?_) (fun h => absurd h (by decide)); conv => whnf) | (refine And.intro (fun h => absurd h (by decide)) (fun _ => ?_); conv => whnf) | (refine .quiet (by kernel_rfl) ?_; conv => whnf))
      rw [hm0]
      refine ⟨fun hu => ?_, fun hu => ?_⟩
      · have hu' : (decide (0 < p.paid - d) && !m) = true := hu
        rw [if_pos hu'] at hT1
        have hpos : 0 < p.paid - d := by
          rw [Bool.and_eq_true, decide_eq_true_eq] at hu'
          exact hu'.1
        rw [if_neg (by omega)] at hT2
        conv => whnf
        repeat (first | (refine And.intro ⟨by omega, by omega⟩ ?_; conv => whnf) | (refine And.intro (by omega) (And.intro rfl ?_); conv => whnf) | (refine And.intro rfl ?_; conv => whnf) | (refine And.intro (fun _ => ⟨by omega, by omega⟩) ?_; conv => whnf) | (refine And.intro (fun _ => by omega) (And.intro rfl ?_); conv => whnf) | (refine And.intro ⟨(by first | omega | (simp; omega)), (by first | omega | (simp; omega))⟩ ?_; conv => whnf) | (refine Exists.intro _ (And.intro rfl (And.intro (by first | omega | (simp; omega)) (And.intro ⟨rfl, rfl, rfl, rfl, rfl⟩ ?_))); conv => whnf) | (refine And.intro ⟨rfl, rfl⟩ (And.intro (by first | omega | (simp; omega)) ?_); conv => whnf) | (refine Exists.intro _ (And.intro rfl ?_); conv => whnf) | (refine And.intro (fun _ => ?_) (fun h => absurd h (by decide)); conv => whnf) | (refine And.intro (fun h => absurd h (by decide)) (fun _ => ?_); conv => whnf) | (refine .quiet (by kernel_rfl) ?_; conv => whnf))
        rw [hp00]
        refine .one _ _ _ (fun _ => add_ok A (by have := hA1.1; omega) p.seat (p.paid - d) (fun x hx => by have := hA1.2 x hx; unfold in64; omega)) (by repeat (first | exact .nil | (apply BorL.cons; first | exact lS rfl | exact lR rfl | exact lM rfl rfl | exact lL rfl | exact lX rfl | exact lN | exact lNl | exact lSm rfl | exact lIm rfl | exact lP rfl | exact lQ rfl))) (by first | exact .inl rfl | exact .inr (by repeat (first | exact flats_nil | refine flats_cons (by first | exact flat_val _ rfl | exact flat_row (fun _ => rfl) | exact flat_lst (fun _ => rfl)) ?_))) (by first | exact .inl rfl | exact .inr rfl) ?_
        conv => whnf
        repeat (first | (refine And.intro ⟨by omega, by omega⟩ ?_; conv => whnf) | (refine And.intro (by omega) (And.intro rfl ?_); conv => whnf) | (refine And.intro rfl ?_; conv => whnf) | (refine And.intro (fun _ => ⟨by omega, by omega⟩) ?_; conv => whnf) | (refine And.intro (fun _ => by omega) (And.intro rfl ?_); conv => whnf) | (refine And.intro ⟨(by first | omega | (simp; omega)), (by first | omega | (simp; omega))⟩ ?_; conv => whnf) | (refine Exists.intro _ (And.intro rfl (And.intro (by first | omega | (simp; omega)) (And.intro ⟨rfl, rfl, rfl, rfl, rfl⟩ ?_))); conv => whnf) | (refine And.intro ⟨rfl, rfl⟩ (And.intro (by first | omega | (simp; omega)) ?_); conv => whnf) | (refine Exists.intro _ (And.intro rfl ?_); conv => whnf) | (refine And.intro (fun _ => ?_) (fun h => absurd h (by decide)); conv => whnf) | (refine And.intro (fun h => absurd h (by decide)) (fun _ => ?_); conv => whnf) | (refine .quiet (by kernel_rfl) ?_; conv => whnf))
        have hnn : decide (p.paid - d < 0) = false := decide_eq_false (by omega)
        refine ⟨fun hn => ?_, fun hn => ?_⟩
        · rw [hnn] at hn
          cases hn
        · conv => whnf
          repeat (first | (refine And.intro ⟨by omega, by omega⟩ ?_; conv => whnf) | (refine And.intro (by omega) (And.intro rfl ?_); conv => whnf) | (refine And.intro rfl ?_; conv => whnf) | (refine And.intro (fun _ => ⟨by omega, by omega⟩) ?_; conv => whnf) | (refine And.intro (fun _ => by omega) (And.intro rfl ?_); conv => whnf) | (refine And.intro ⟨(by first | omega | (simp; omega)), (by first | omega | (simp; omega))⟩ ?_; conv => whnf) | (refine Exists.intro _ (And.intro rfl (And.intro (by first | omega | (simp; omega)) (And.intro ⟨rfl, rfl, rfl, rfl, rfl⟩ ?_))); conv => whnf) | (refine And.intro ⟨rfl, rfl⟩ (And.intro (by first | omega | (simp; omega)) ?_); conv => whnf) | (refine Exists.intro _ (And.intro rfl ?_); conv => whnf) | (refine And.intro (fun _ => ?_) (fun h => absurd h (by decide)); conv => whnf) | (refine And.intro (fun h => absurd h (by decide)) (fun _ => ?_); conv => whnf) | (refine .quiet (by kernel_rfl) ?_; conv => whnf))
          refine up hlt ?_ ((wk_of [(0, .id 2), (1, .id 1)] rfl ⟨.base (.tree _ _ rfl rfl), .base (.tree _ _ rfl rfl), .base (.tree _ _ rfl rfl), (by first | exact .base (.own _ _ rfl) | exact .base (.nilown _ rfl) | exact .base (.trunc _ _ _ rfl)), (by first | exact .base (.own _ _ rfl) | exact .base (.nilown _ rfl) | exact .base (.trunc _ _ _ rfl)), .base (.tree _ _ rfl rfl), trivial⟩ ⟨⟨_, rfl, (by first | exact .row _ _ _ _ _ _ _ rfl (hT1.symm.trans hA'.symm) | exact .lstrow _ _ _ _ _ _ _ rfl (hT1.symm.trans hA'.symm) | exact .nilrow _ _ _ _ _ (hT1.symm.trans hA'.symm) | exact .truncrow _ _ _ _ _ _ _ _ rfl (by omega) (hT1.symm.trans hA'.symm))⟩, ⟨_, rfl, (by first | exact .row _ _ _ _ _ _ _ rfl (hT2.symm.trans hB'.symm) | exact .lstrow _ _ _ _ _ _ _ rfl (hT2.symm.trans hB'.symm) | exact .nilrow _ _ _ _ _ (hT2.symm.trans hB'.symm) | exact .truncrow _ _ _ _ _ _ _ _ rfl (by omega) (hT2.symm.trans hB'.symm))⟩, trivial⟩))
          rw [hA', hB', hT1, hT2]
          exact ⟨bdR_add hA1 (by omega), bdR_succ hA2⟩
      · have hu' : (decide (0 < p.paid - d) && !m) = false := hu
        rw [if_neg (by rw [hu']; exact Bool.noConfusion)] at hT1
        refine ⟨fun hn => ?_, fun hn => ?_⟩
        · have hn' : p.paid - d < 0 := of_decide_eq_true hn
          rw [if_pos hn', ← Int.zero_sub] at hT2
          conv => whnf
          repeat (first | (refine And.intro ⟨by omega, by omega⟩ ?_; conv => whnf) | (refine And.intro (by omega) (And.intro rfl ?_); conv => whnf) | (refine And.intro rfl ?_; conv => whnf) | (refine And.intro (fun _ => ⟨by omega, by omega⟩) ?_; conv => whnf) | (refine And.intro (fun _ => by omega) (And.intro rfl ?_); conv => whnf) | (refine And.intro ⟨(by first | omega | (simp; omega)), (by first | omega | (simp; omega))⟩ ?_; conv => whnf) | (refine Exists.intro _ (And.intro rfl (And.intro (by first | omega | (simp; omega)) (And.intro ⟨rfl, rfl, rfl, rfl, rfl⟩ ?_))); conv => whnf) | (refine And.intro ⟨rfl, rfl⟩ (And.intro (by first | omega | (simp; omega)) ?_); conv => whnf) | (refine Exists.intro _ (And.intro rfl ?_); conv => whnf) | (refine And.intro (fun _ => ?_) (fun h => absurd h (by decide)); conv => whnf) | (refine And.intro (fun h => absurd h (by decide)) (fun _ => ?_); conv => whnf) | (refine .quiet (by kernel_rfl) ?_; conv => whnf))
          rw [hp00]
          refine .one _ _ _ (fun _ => add_ok B (by have := hA2.1; omega) p.seat (0 - (p.paid - d)) (fun x hx => by have := hA2.2 x hx; unfold in64; omega)) (by repeat (first | exact .nil | (apply BorL.cons; first | exact lS rfl | exact lR rfl | exact lM rfl rfl | exact lL rfl | exact lX rfl | exact lN | exact lNl | exact lSm rfl | exact lIm rfl | exact lP rfl | exact lQ rfl))) (by first | exact .inl rfl | exact .inr (by repeat (first | exact flats_nil | refine flats_cons (by first | exact flat_val _ rfl | exact flat_row (fun _ => rfl) | exact flat_lst (fun _ => rfl)) ?_))) (by first | exact .inl rfl | exact .inr rfl) ?_
          conv => whnf
          repeat (first | (refine And.intro ⟨by omega, by omega⟩ ?_; conv => whnf) | (refine And.intro (by omega) (And.intro rfl ?_); conv => whnf) | (refine And.intro rfl ?_; conv => whnf) | (refine And.intro (fun _ => ⟨by omega, by omega⟩) ?_; conv => whnf) | (refine And.intro (fun _ => by omega) (And.intro rfl ?_); conv => whnf) | (refine And.intro ⟨(by first | omega | (simp; omega)), (by first | omega | (simp; omega))⟩ ?_; conv => whnf) | (refine Exists.intro _ (And.intro rfl (And.intro (by first | omega | (simp; omega)) (And.intro ⟨rfl, rfl, rfl, rfl, rfl⟩ ?_))); conv => whnf) | (refine And.intro ⟨rfl, rfl⟩ (And.intro (by first | omega | (simp; omega)) ?_); conv => whnf) | (refine Exists.intro _ (And.intro rfl ?_); conv => whnf) | (refine And.intro (fun _ => ?_) (fun h => absurd h (by decide)); conv => whnf) | (refine And.intro (fun h => absurd h (by decide)) (fun _ => ?_); conv => whnf) | (refine .quiet (by kernel_rfl) ?_; conv => whnf))
          refine up hlt ?_ ((wk_of [(0, .id 0), (1, .id 2)] rfl ⟨.base (.tree _ _ rfl rfl), .base (.tree _ _ rfl rfl), .base (.tree _ _ rfl rfl), (by first | exact .base (.own _ _ rfl) | exact .base (.nilown _ rfl) | exact .base (.trunc _ _ _ rfl)), (by first | exact .base (.own _ _ rfl) | exact .base (.nilown _ rfl) | exact .base (.trunc _ _ _ rfl)), .base (.tree _ _ rfl rfl), trivial⟩ ⟨⟨_, rfl, (by first | exact .row _ _ _ _ _ _ _ rfl (hT1.symm.trans hA'.symm) | exact .lstrow _ _ _ _ _ _ _ rfl (hT1.symm.trans hA'.symm) | exact .nilrow _ _ _ _ _ (hT1.symm.trans hA'.symm) | exact .truncrow _ _ _ _ _ _ _ _ rfl (by omega) (hT1.symm.trans hA'.symm))⟩, ⟨_, rfl, (by first | exact .row _ _ _ _ _ _ _ rfl (hT2.symm.trans hB'.symm) | exact .lstrow _ _ _ _ _ _ _ rfl (hT2.symm.trans hB'.symm) | exact .nilrow _ _ _ _ _ (hT2.symm.trans hB'.symm) | exact .truncrow _ _ _ _ _ _ _ _ rfl (by omega) (hT2.symm.trans hB'.symm))⟩, trivial⟩))
          rw [hA', hB', hT1, hT2]
          exact ⟨bdR_succ hA1, bdR_add hA2 (by omega)⟩
        · have hn' : ¬ p.paid - d < 0 := of_decide_eq_false hn
          rw [if_neg hn'] at hT2
          conv => whnf
          repeat (first | (refine And.intro ⟨by omega, by omega⟩ ?_; conv => whnf) | (refine And.intro (by omega) (And.intro rfl ?_); conv => whnf) | (refine And.intro rfl ?_; conv => whnf) | (refine And.intro (fun _ => ⟨by omega, by omega⟩) ?_; conv => whnf) | (refine And.intro (fun _ => by omega) (And.intro rfl ?_); conv => whnf) | (refine And.intro ⟨(by first | omega | (simp; omega)), (by first | omega | (simp; omega))⟩ ?_; conv => whnf) | (refine Exists.intro _ (And.intro rfl (And.intro (by first | omega | (simp; omega)) (And.intro ⟨rfl, rfl, rfl, rfl, rfl⟩ ?_))); conv => whnf) | (refine And.intro ⟨rfl, rfl⟩ (And.intro (by first | omega | (simp; omega)) ?_); conv => whnf) | (refine Exists.intro _ (And.intro rfl ?_); conv => whnf) | (refine And.intro (fun _ => ?_) (fun h => absurd h (by decide)); conv => whnf) | (refine And.intro (fun h => absurd h (by decide)) (fun _ => ?_); conv => whnf) | (refine .quiet (by kernel_rfl) ?_; conv => whnf))
          refine up hlt ?_ ((wk_of [(0, .id 0), (1, .id 1)] rfl ⟨.base (.tree _ _ rfl rfl), .base (.tree _ _ rfl rfl), .base (.tree _ _ rfl rfl), (by first | exact .base (.own _ _ rfl) | exact .base (.nilown _ rfl) | exact .base (.trunc _ _ _ rfl)), (by first | exact .base (.own _ _ rfl) | exact .base (.nilown _ rfl) | exact .base (.trunc _ _ _ rfl)), .base (.tree _ _ rfl rfl), trivial⟩ ⟨⟨_, rfl, (by first | exact .row _ _ _ _ _ _ _ rfl (hT1.symm.trans hA'.symm) | exact .lstrow _ _ _ _ _ _ _ rfl (hT1.symm.trans hA'.symm) | exact .nilrow _ _ _ _ _ (hT1.symm.trans hA'.symm) | exact .truncrow _ _ _ _ _ _ _ _ rfl (by omega) (hT1.symm.trans hA'.symm))⟩, ⟨_, rfl, (by first | exact .row _ _ _ _ _ _ _ rfl (hT2.symm.trans hB'.symm) | exact .lstrow _ _ _ _ _ _ _ rfl (hT2.symm.trans hB'.symm) | exact .nilrow _ _ _ _ _ (hT2.symm.trans hB'.symm) | exact .truncrow _ _ _ _ _ _ _ _ rfl (by omega) (hT2.symm.trans hB'.symm))⟩, trivial⟩))
          rw [hA', hB', hT1, hT2]
          exact ⟨bdR_succ hA1, bdR_succ hA2⟩
    · simp only [decide_eq_false_iff_not] at hc3
      obtain rfl : k = ps.length := by omega
      generalize (tallyR ps ds ms ps.length).1 = A at *
      generalize (tallyR ps ds ms ps.length).2 = B at *
      have l1 := hA1.1
      have l2 := hA2.1
      conv => whnf
      repeat (first | (refine And.intro ⟨by omega, by omega⟩ ?_; conv => whnf) | (refine And.intro (by omega) (And.intro rfl ?_); conv => whnf) | (refine And.intro rfl ?_; conv => whnf) | (refine And.intro (fun _ => ⟨by omega, by omega⟩) ?_; conv => whnf) | (refine And.intro (fun _ => by omega) (And.intro rfl ?_); conv => whnf) | (refine And.intro ⟨(by first | omega | (simp; omega)), (by first | omega | (simp; omega))⟩ ?_; conv => whnf) | (refine Exists.intro _ (And.intro rfl (And.intro (by first | omega | (simp; omega)) (And.intro ⟨rfl, rfl, rfl, rfl, rfl⟩ ?_))); conv => whnf) | (refine And.intro ⟨rfl, rfl⟩ (And.intro (by first | omega | (simp; omega)) ?_); conv => whnf) | (refine Exists.intro _ (And.intro rfl ?_); conv => whnf) | (refine And.intro (fun _ => ?_) (fun h => absurd h (by decide)); conv => whnf) | (refine And.intro (fun h => absurd h (by decide)) (fun _ => ?_); conv => whnf) | (refine .quiet (by kernel_rfl) ?_; conv => whnf))
      refine And.intro ⟨rfl, rfl⟩ (And.intro (show (0 + A.length) * 16 ≤ 140737488355328 by omega) ?_)
      conv => whnf
      repeat (first | (refine And.intro ⟨by omega, by omega⟩ ?_; conv => whnf) | (refine And.intro (by omega) (And.intro rfl ?_); conv => whnf) | (refine And.intro rfl ?_; conv => whnf) | (refine And.intro (fun _ => ⟨by omega, by omega⟩) ?_; conv => whnf) | (refine And.intro (fun _ => by omega) (And.intro rfl ?_); conv => whnf) | (refine And.intro ⟨(by first | omega | (simp; omega)), (by first | omega | (simp; omega))⟩ ?_; conv => whnf) | (refine Exists.intro _ (And.intro rfl (And.intro (by first | omega | (simp; omega)) (And.intro ⟨rfl, rfl, rfl, rfl, rfl⟩ ?_))); conv => whnf) | (refine And.intro ⟨rfl, rfl⟩ (And.intro (by first | omega | (simp; omega)) ?_); conv => whnf) | (refine Exists.intro _ (And.intro rfl ?_); conv => whnf) | (refine And.intro (fun _ => ?_) (fun h => absurd h (by decide)); conv => whnf) | (refine And.intro (fun h => absurd h (by decide)) (fun _ => ?_); conv => whnf) | (refine .quiet (by kernel_rfl) ?_; conv => whnf))
      refine And.intro ⟨rfl, rfl⟩ (And.intro (show (A.length + B.length) * 16 ≤ 140737488355328 by omega) ?_)
      conv => whnf
      repeat (first | (refine And.intro ⟨by omega, by omega⟩ ?_; conv => whnf) | (refine And.intro (by omega) (And.intro rfl ?_); conv => whnf) | (refine And.intro rfl ?_; conv => whnf) | (refine And.intro (fun _ => ⟨by omega, by omega⟩) ?_; conv => whnf) | (refine And.intro (fun _ => by omega) (And.intro rfl ?_); conv => whnf) | (refine And.intro ⟨(by first | omega | (simp; omega)), (by first | omega | (simp; omega))⟩ ?_; conv => whnf) | (refine Exists.intro _ (And.intro rfl (And.intro (by first | omega | (simp; omega)) (And.intro ⟨rfl, rfl, rfl, rfl, rfl⟩ ?_))); conv => whnf) | (refine And.intro ⟨rfl, rfl⟩ (And.intro (by first | omega | (simp; omega)) ?_); conv => whnf) | (refine Exists.intro _ (And.intro rfl ?_); conv => whnf) | (refine And.intro (fun _ => ?_) (fun h => absurd h (by decide)); conv => whnf) | (refine And.intro (fun h => absurd h (by decide)) (fun _ => ?_); conv => whnf) | (refine .quiet (by kernel_rfl) ?_; conv => whnf))
      have hABl : (A ++ B).length ≤ 40 := by rw [List.length_append]; omega
      refine loop_up (cxOk _ _) (A ++ B).length (fun i => bigR ((A ++ B).take i) = false) (fun i => ⟨[(10, .own 0), (11, .own 1), (16, .own 2), (17, .int .i64 (i : Nat))], [(0, .row 48 2 encSh s0 A), (1, .row 48 2 encSh s0 B), (2, .row 48 2 encSh s0 (A ++ B))], 3⟩) rfl ((wk_of [(0, .id 0), (1, .id 1), (2, .id 4)] rfl ⟨(by first | exact .base (.own _ _ rfl) | exact .base (.nilown _ rfl) | exact .base (.trunc _ _ _ rfl)), (by first | exact .base (.own _ _ rfl) | exact .base (.nilown _ rfl) | exact .base (.trunc _ _ _ rfl)), (by first | exact .base (.own _ _ rfl) | exact .base (.nilown _ rfl) | exact .base (.trunc _ _ _ rfl)), .base (.tree _ _ rfl rfl), trivial⟩ ⟨⟨_, rfl, (by first | exact .row _ _ _ _ _ _ _ rfl rfl | exact .lstrow _ _ _ _ _ _ _ rfl rfl | exact .nilrow _ _ _ _ _ rfl | exact .truncrow _ _ _ _ _ _ _ _ rfl (by omega) rfl)⟩, ⟨_, rfl, (by first | exact .row _ _ _ _ _ _ _ rfl rfl | exact .lstrow _ _ _ _ _ _ _ rfl rfl | exact .nilrow _ _ _ _ _ rfl | exact .truncrow _ _ _ _ _ _ _ _ rfl (by omega) rfl)⟩, ⟨_, rfl, (by first | exact .row _ _ _ _ _ _ _ rfl rfl | exact .lstrow _ _ _ _ _ _ _ rfl rfl | exact .nilrow _ _ _ _ _ rfl | exact .truncrow _ _ _ _ _ _ _ _ rfl (by omega) rfl)⟩, trivial⟩)) ?_
      intro i hi hQ
      conv => whnf
      refine ⟨fun hc4 => ?_, fun hc4 => ?_⟩
      · have hc4' : decide ((i : Int) < (A ++ B).length) = true := hc4
        simp only [decide_eq_true_eq] at hc4'
        have hit : i < (A ++ B).length := by omega
        have hQ2 : bigR ((A ++ B).take (i + 1)) = decide (1000000000000000 < ((A ++ B).getD i s0).amount) := by
          unfold bigR at hQ ⊢
          rw [take_getD (d := s0) hit, List.any_append, hQ]
          simp
        have hii : (A ++ B).getD (i : Int).toNat s0 = (A ++ B).getD i s0 := by rw [Int.toNat_natCast]
        conv => whnf
        repeat (first | (refine And.intro ⟨by omega, by omega⟩ ?_; conv => whnf) | (refine And.intro (by omega) (And.intro rfl ?_); conv => whnf) | (refine And.intro rfl ?_; conv => whnf) | (refine And.intro (fun _ => ⟨by omega, by omega⟩) ?_; conv => whnf) | (refine And.intro (fun _ => by omega) (And.intro rfl ?_); conv => whnf) | (refine And.intro ⟨(by first | omega | (simp; omega)), (by first | omega | (simp; omega))⟩ ?_; conv => whnf) | (refine Exists.intro _ (And.intro rfl (And.intro (by first | omega | (simp; omega)) (And.intro ⟨rfl, rfl, rfl, rfl, rfl⟩ ?_))); conv => whnf) | (refine And.intro ⟨rfl, rfl⟩ (And.intro (by first | omega | (simp; omega)) ?_); conv => whnf) | (refine Exists.intro _ (And.intro rfl ?_); conv => whnf) | (refine And.intro (fun _ => ?_) (fun h => absurd h (by decide)); conv => whnf) | (refine And.intro (fun h => absurd h (by decide)) (fun _ => ?_); conv => whnf) | (refine .quiet (by kernel_rfl) ?_; conv => whnf))
        rw [hii]
        refine ⟨fun hz => ?_, fun hz => ?_⟩
        · have hz' : decide (1000000000000000 < ((A ++ B).getD i s0).amount) = true := hz
          have hbig : bigR (A ++ B) = true := List.any_eq_true.2 ⟨_, getD_mem (d := s0) hit, hz'⟩
          rw [if_pos hbig]
          conv => whnf
          rfl
        · have hz' : decide (1000000000000000 < ((A ++ B).getD i s0).amount) = false := hz
          rw [hz'] at hQ2
          conv => whnf
          repeat (first | (refine And.intro ⟨by omega, by omega⟩ ?_; conv => whnf) | (refine And.intro (by omega) (And.intro rfl ?_); conv => whnf) | (refine And.intro rfl ?_; conv => whnf) | (refine And.intro (fun _ => ⟨by omega, by omega⟩) ?_; conv => whnf) | (refine And.intro (fun _ => by omega) (And.intro rfl ?_); conv => whnf) | (refine And.intro ⟨(by first | omega | (simp; omega)), (by first | omega | (simp; omega))⟩ ?_; conv => whnf) | (refine Exists.intro _ (And.intro rfl (And.intro (by first | omega | (simp; omega)) (And.intro ⟨rfl, rfl, rfl, rfl, rfl⟩ ?_))); conv => whnf) | (refine And.intro ⟨rfl, rfl⟩ (And.intro (by first | omega | (simp; omega)) ?_); conv => whnf) | (refine Exists.intro _ (And.intro rfl ?_); conv => whnf) | (refine And.intro (fun _ => ?_) (fun h => absurd h (by decide)); conv => whnf) | (refine And.intro (fun h => absurd h (by decide)) (fun _ => ?_); conv => whnf) | (refine .quiet (by kernel_rfl) ?_; conv => whnf))
          refine up hit ?_ ((wk_of [(0, .id 0), (1, .id 1), (2, .id 2)] rfl ⟨(by first | exact .base (.own _ _ rfl) | exact .base (.nilown _ rfl) | exact .base (.trunc _ _ _ rfl)), (by first | exact .base (.own _ _ rfl) | exact .base (.nilown _ rfl) | exact .base (.trunc _ _ _ rfl)), (by first | exact .base (.own _ _ rfl) | exact .base (.nilown _ rfl) | exact .base (.trunc _ _ _ rfl)), .base (.tree _ _ rfl rfl), trivial⟩ ⟨⟨_, rfl, (by first | exact .row _ _ _ _ _ _ _ rfl rfl | exact .lstrow _ _ _ _ _ _ _ rfl rfl | exact .nilrow _ _ _ _ _ rfl | exact .truncrow _ _ _ _ _ _ _ _ rfl (by omega) rfl)⟩, ⟨_, rfl, (by first | exact .row _ _ _ _ _ _ _ rfl rfl | exact .lstrow _ _ _ _ _ _ _ rfl rfl | exact .nilrow _ _ _ _ _ rfl | exact .truncrow _ _ _ _ _ _ _ _ rfl (by omega) rfl)⟩, ⟨_, rfl, (by first | exact .row _ _ _ _ _ _ _ rfl rfl | exact .lstrow _ _ _ _ _ _ _ rfl rfl | exact .nilrow _ _ _ _ _ rfl | exact .truncrow _ _ _ _ _ _ _ _ rfl (by omega) rfl)⟩, trivial⟩))
          exact hQ2
      · have hc4' : decide ((i : Int) < (A ++ B).length) = false := hc4
        simp only [decide_eq_false_iff_not] at hc4'
        rw [List.take_of_length_le (by omega)] at hQ
        rw [if_neg (by rw [hQ]; exact Bool.noConfusion)]
        conv => whnf
        rfl

end Go.Proofs.Ytpkendnpabjgoaa
