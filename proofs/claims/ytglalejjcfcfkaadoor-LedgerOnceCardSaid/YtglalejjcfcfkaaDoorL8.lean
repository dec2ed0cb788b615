import Derived.Test.YtglalejjcfcfkaaDoorL7
namespace Go.Proofs.YtglalejjcfcfkaaDoor
open Go.Own
set_option maxHeartbeats 4000000
set_option maxRecDepth 100000

def xq (l : List Ent) (i : Nat) : Ent := if l.length ≤ i then l.getD (2 * l.length - 1 - i) e0 else l.getD i e0
def curQ (l : List Ent) : Nat → List Ent
  | 0 => []
  | i + 1 => curStep (curQ l i) (xq l i)
theorem curQ_ok (l : List Ent) : ∀ n, validB (curQ l n) = true ∧ (curQ l n).length ≤ n
  | 0 => ⟨valid_nil, Nat.le_refl _⟩
  | n + 1 => by
    obtain ⟨h1, h2⟩ := curQ_ok l n
    show validB (curStep (curQ l n) (xq l n)) = true ∧ (curStep (curQ l n) (xq l n)).length ≤ n + 1
    unfold curStep
    split
    · rename_i h
      exact ⟨(post_ok h).2.2, by simp; omega⟩
    · exact ⟨h1, by omega⟩
theorem eqE_dec (y x : Ent) : decide (y = x) = eqE y x := by
  cases h : eqE y x with
  | true => exact decide_eq_true (eqE_iff.1 h)
  | false => exact decide_eq_false fun e => by rw [eqE_iff.2 e] at h; cases h
theorem sameB_step {c : List Ent} {x : Ent} {k : Nat} (hk : k < c.length) : sameB (c.take (k + 1)) x = (sameB (c.take k) x || eqE (c.getD k e0) x) := by
  unfold sameB
  rw [take_getD (d := e0) hk, List.any_append]
  simp only [List.any_cons, List.any_nil, Bool.or_false, eqE_dec]
theorem otherB_step {c : List Ent} {x : Ent} {k : Nat} (hk : k < c.length) : otherB (c.take (k + 1)) x = (otherB (c.take k) x || (decide ((c.getD k e0).id = x.id) && !eqE (c.getD k e0) x)) := by
  unfold otherB
  rw [take_getD (d := e0) hk, List.any_append]
  simp only [List.any_cons, List.any_nil, Bool.or_false, eqE_dec]

theorem once_bool {u v w re sa oa : Bool} (h1 : u = !re) (h2 : re = true → v = sa ∧ w = oa) : ¬ ((!(u == !re) || (re && !(v == sa))) || (re && !(w == oa))) = true := by
  subst h1
  cases re with
  | false => simp
  | true =>
    obtain ⟨rfl, rfl⟩ := h2 rfl
    simp

theorem law_once (l : List Ent) (hl : l.length ≤ 9223372036854775807) : APureV Tryd.prog 4 [encEs l] (.bool true) := by
  have hcl : ∀ i, i ≤ 80 → validB (curQ l i) = true ∧ (curQ l i).length ≤ i := fun i _ => curQ_ok l i
  have hcs : ∀ n, curQ l (n + 1) = curStep (curQ l n) (xq l n) := fun n => rfl
  have hc0 : curQ l 0 = [] := rfl
  generalize curQ l = C at *
  refine apure_of (C := cx 114 [0, 2, 3, 4, 5, 6, 7, 8, 9, 10, 11, 15, 21, 34, 47, 109, 111]) (cxOk _ _) Tryd.func4 rfl (by decide) rfl (by exact Nat.le_of_ble_eq_true rfl) (by decide) ?_
  conv => whnf
  refine .one _ _ _ (fun _ => small_ok) (by repeat (first | exact .nil | (apply BorL.cons; first | exact lS rfl | exact lR rfl | exact lM rfl rfl | exact lL rfl | exact lX rfl | exact lN | exact lNl | exact lSm rfl | exact lIm rfl | exact lP rfl | exact lQ rfl))) (by first | exact .inl rfl | exact .inr (by repeat (first | exact flats_nil | refine flats_cons (by first | exact flat_val _ rfl | exact flat_row (fun _ => rfl) | exact flat_lst (fun _ => rfl)) ?_))) (by first | exact .inl rfl | exact .inr rfl) ?_
  conv => whnf
  refine ⟨fun ha => ?_, fun ha => ?_⟩
  · conv => whnf
    repeat (first | (refine And.intro ⟨by omega, by omega⟩ ?_; conv => whnf) | (refine And.intro (by omega) (And.intro rfl ?_); conv => whnf) | (refine And.intro rfl ?_; conv => whnf) | (refine And.intro (fun _ => ⟨by omega, by omega⟩) ?_; conv => whnf) | (refine And.intro (fun _ => by omega) (And.intro rfl ?_); conv => whnf) | (refine And.intro ⟨(by first | omega | (simp; omega)), (by first | omega | (simp; omega))⟩ ?_; conv => whnf) | (refine Exists.intro _ (And.intro rfl (And.intro (by first | omega | (simp; omega)) (And.intro ⟨rfl, rfl, rfl, rfl, rfl⟩ ?_))); conv => whnf) | (refine And.intro ⟨rfl, rfl⟩ (And.intro (by first | omega | (simp; omega)) ?_); conv => whnf) | (refine Exists.intro _ (And.intro rfl ?_); conv => whnf) | (refine And.intro (fun _ => ?_) (fun h => absurd h (by decide)); conv => whnf) | (refine And.intro (fun h => absurd h (by decide)) (fun _ => ?_); conv => whnf) | (refine .quiet (by kernel_rfl) ?_; conv => whnf))
    rfl
  have ha' : decide (40 < (l.length : Int)) = false := ha
  simp only [decide_eq_false_iff_not] at ha'
  conv => whnf
  refine loop_up (cxOk _ _) (2 * l.length) (fun _ => True) (fun i => ⟨[(0, encEs l), (3, .bool true), (4, .own 0), (5, .int .i64 (i : Nat))], [(0, .row 28 5 encE e0 (C i))], 1⟩) trivial (by rw [hc0]; exact (wk_of [(0, .nil)] rfl ⟨.base (.tree _ _ rfl rfl), .base (.tree _ _ rfl rfl), (by first | exact .base (.own _ _ rfl) | exact .base (.nilown _ rfl) | exact .base (.trunc _ _ _ rfl)), .base (.tree _ _ rfl rfl), trivial⟩ ⟨⟨_, rfl, (by first | exact .row _ _ _ _ _ _ _ rfl rfl | exact .lstrow _ _ _ _ _ _ _ rfl rfl | exact .nilrow _ _ _ _ _ rfl | exact .truncrow _ _ _ _ _ _ _ _ rfl (by omega) rfl)⟩, trivial⟩)) ?_
  intro i hi _
  conv => whnf
  refine And.intro (And.intro (by omega) (by omega)) ?_
  conv => whnf
  refine ⟨fun hc => ?_, fun hc => ?_⟩
  · simp only [decide_eq_true_eq] at hc
    have hit : i < 2 * l.length := by omega
    have hst := hcs i
    have hmod : (i : Int).tmod (l.length : Int) = ((i % l.length : Nat) : Int) := by rw [Int.tmod_eq_emod_of_nonneg (by omega), Int.natCast_emod]
    have hlt : i % l.length < l.length := Nat.mod_lt _ (by omega)
    have hx0 : l.getD ((i % l.length : Nat) : Int).toNat e0 = l.getD (i % l.length) e0 := by rw [Int.toNat_natCast]
    conv => whnf
    refine And.intro (by omega) ?_
    rw [hmod]
    repeat (first | (refine And.intro ⟨by omega, by omega⟩ ?_; conv => whnf) | (refine And.intro (by omega) (And.intro rfl ?_); conv => whnf) | (refine And.intro rfl ?_; conv => whnf) | (refine And.intro (fun _ => ⟨by omega, by omega⟩) ?_; conv => whnf) | (refine And.intro (fun _ => by omega) (And.intro rfl ?_); conv => whnf) | (refine And.intro ⟨(by first | omega | (simp; omega)), (by first | omega | (simp; omega))⟩ ?_; conv => whnf) | (refine Exists.intro _ (And.intro rfl (And.intro (by first | omega | (simp; omega)) (And.intro ⟨rfl, rfl, rfl, rfl, rfl⟩ ?_))); conv => whnf) | (refine And.intro ⟨rfl, rfl⟩ (And.intro (by first | omega | (simp; omega)) ?_); conv => whnf) | (refine Exists.intro _ (And.intro rfl ?_); conv => whnf) | (refine And.intro (fun _ => ?_) (fun h => absurd h (by decide)); conv => whnf) | (refine And.intro (fun h => absurd h (by decide)) (fun _ => ?_); conv => whnf) | (refine .eff (by first | exact cxOk _ _ | exact cxPOk _ _ _) ?_; conv => whnf))
    rw [hx0]
    refine ⟨fun hge => ?_, fun hge => ?_⟩
    · have hge' : l.length ≤ i := by
        have := of_decide_eq_true hge
        omega
      have hxi : xq l i = l.getD (2 * l.length - 1 - i) e0 := by unfold xq; rw [if_pos hge']
      have hx1 : l.getD ((2 * (l.length : Int) - 1 - (i : Int))).toNat e0 = l.getD (2 * l.length - 1 - i) e0 := by rw [show (2 * (l.length : Int) - 1 - (i : Int)).toNat = 2 * l.length - 1 - i by omega]
      generalize l.getD (2 * l.length - 1 - i) e0 = x at *
      conv => whnf
      repeat (first | (refine And.intro ⟨by omega, by omega⟩ ?_; conv => whnf) | (refine And.intro (by omega) (And.intro rfl ?_); conv => whnf) | (refine And.intro rfl ?_; conv => whnf) | (refine And.intro (fun _ => ⟨by omega, by omega⟩) ?_; conv => whnf) | (refine And.intro (fun _ => by omega) (And.intro rfl ?_); conv => whnf) | (refine And.intro ⟨(by first | omega | (simp; omega)), (by first | omega | (simp; omega))⟩ ?_; conv => whnf) | (refine Exists.intro _ (And.intro rfl (And.intro (by first | omega | (simp; omega)) (And.intro ⟨rfl, rfl, rfl, rfl, rfl⟩ ?_))); conv => whnf) | (refine And.intro ⟨rfl, rfl⟩ (And.intro (by first | omega | (simp; omega)) ?_); conv => whnf) | (refine Exists.intro _ (And.intro rfl ?_); conv => whnf) | (refine And.intro (fun _ => ?_) (fun h => absurd h (by decide)); conv => whnf) | (refine And.intro (fun h => absurd h (by decide)) (fun _ => ?_); conv => whnf) | (refine .eff (by first | exact cxOk _ _ | exact cxPOk _ _ _) ?_; conv => whnf))
      rw [hx1]
      have c0' := hcl i (by omega)
      obtain ⟨c1, c2⟩ := c0'
      have hpo := post_ok' (C i) (by omega) x
      have hre := right_ok x
      obtain ⟨o1, o2⟩ := once_plain (x := x) c1
      rw [hxi] at hst
      unfold curStep at hst
      have hs1 := fun k (hk : k < (C i).length) => sameB_step (x := x) hk
      have hs2 := fun k (hk : k < (C i).length) => otherB_step (x := x) hk
      have hs3 : sameB ((C i).take 0) x = false := rfl
      have hs4 : otherB ((C i).take 0) x = false := rfl
      have hs5 : sameB ((C i).take (C i).length) x = sameB (C i) x := by rw [List.take_of_length_le (Nat.le_refl _)]
      have hs6 : otherB ((C i).take (C i).length) x = otherB (C i) x := by rw [List.take_of_length_le (Nat.le_refl _)]
      generalize hC' : C (i + 1) = C' at *
      generalize C i = c at *
      generalize hSa : (fun k => sameB (c.take k) x) = Sa at *
      generalize hOt : (fun k => otherB (c.take k) x) = Ot at *
      have hSk : ∀ k, sameB (c.take k) x = Sa k := fun k => by rw [← hSa]
      have hOk : ∀ k, otherB (c.take k) x = Ot k := fun k => by rw [← hOt]
      simp only [hSk, hOk] at hs1 hs2 hs3 hs4 hs5 hs6
      refine loop_up (cxOk _ _) c.length (fun _ => True) (fun k => ⟨[(0, encEs l), (3, .bool true), (4, .own 0), (5, .int .i64 (i : Nat)), (6, .ptr 1 0), (7, .bool (Sa k)), (8, .bool (Ot k)), (9, .int .i64 (k : Nat))], [(0, .row 28 5 encE e0 c), (1, .cells 28 [.int .i64 x.id, .int .i64 x.day, .int .i64 x.frm, .int .i64 x.to, .int .i64 x.amt])], 2⟩) trivial (by rw [hs3, hs4]; exact (wk_of [(0, .id 0), (1, .id 1)] rfl ⟨.base (.tree _ _ rfl rfl), .base (.tree _ _ rfl rfl), (by first | exact .base (.own _ _ rfl) | exact .base (.nilown _ rfl) | exact .base (.trunc _ _ _ rfl)), .base (.tree _ _ rfl rfl), .base (.ptr _ _ _ rfl), .base (.tree _ _ rfl rfl), .base (.tree _ _ rfl rfl), .base (.tree _ _ rfl rfl), trivial⟩ ⟨⟨_, rfl, (by first | exact .row _ _ _ _ _ _ _ rfl rfl | exact .lstrow _ _ _ _ _ _ _ rfl rfl | exact .nilrow _ _ _ _ _ rfl | exact .truncrow _ _ _ _ _ _ _ _ rfl (by omega) rfl)⟩, ⟨_, rfl, .cells _ _ _ _ rfl (by repeat (first | exact .nil | refine .cons (by first | exact .base (.tree _ _ rfl rfl) | exact .base (.own _ _ rfl) | exact .base (.ptr _ _ _ rfl) | exact .base (.map _ _ rfl) | exact .base (.nilown _ rfl)) ?_)) rfl⟩, trivial⟩)) ?_
      intro k hk _
      conv => whnf
      refine ⟨fun hc2 => ?_, fun hc2 => ?_⟩
      · simp only [decide_eq_true_eq] at hc2
        have hkt : k < c.length := by omega
        have hkk : c.getD (k : Int).toNat e0 = c.getD k e0 := by rw [Int.toNat_natCast]
        have g1 := hs1 k hkt
        have g2 := hs2 k hkt
        generalize c.getD k e0 = y at *
        conv => whnf
        repeat (first | (refine And.intro ⟨by omega, by omega⟩ ?_; conv => whnf) | (refine And.intro (by omega) (And.intro rfl ?_); conv => whnf) | (refine And.intro rfl ?_; conv => whnf) | (refine And.intro (fun _ => ⟨by omega, by omega⟩) ?_; conv => whnf) | (refine And.intro (fun _ => by omega) (And.intro rfl ?_); conv => whnf) | (refine And.intro ⟨(by first | omega | (simp; omega)), (by first | omega | (simp; omega))⟩ ?_; conv => whnf) | (refine Exists.intro _ (And.intro rfl (And.intro (by first | omega | (simp; omega)) (And.intro ⟨rfl, rfl, rfl, rfl, rfl⟩ ?_))); conv => whnf) | (refine And.intro ⟨rfl, rfl⟩ (And.intro (by first | omega | (simp; omega)) ?_); conv => whnf) | (refine Exists.intro _ (And.intro rfl ?_); conv => whnf) | (refine And.intro (fun _ => ?_) (fun h => absurd h (by decide)); conv => whnf) | (refine And.intro (fun h => absurd h (by decide)) (fun _ => ?_); conv => whnf) | (refine .quiet (by kernel_rfl) ?_; conv => whnf))
        rw [hkk]
        refine And.intro ⟨by kernel_rfl, by kernel_rfl⟩ ?_
        conv => whnf
        repeat (first | (refine And.intro ⟨by omega, by omega⟩ ?_; conv => whnf) | (refine And.intro (by omega) (And.intro rfl ?_); conv => whnf) | (refine And.intro rfl ?_; conv => whnf) | (refine And.intro (fun _ => ⟨by omega, by omega⟩) ?_; conv => whnf) | (refine And.intro (fun _ => by omega) (And.intro rfl ?_); conv => whnf) | (refine And.intro ⟨(by first | omega | (simp; omega)), (by first | omega | (simp; omega))⟩ ?_; conv => whnf) | (refine Exists.intro _ (And.intro rfl (And.intro (by first | omega | (simp; omega)) (And.intro ⟨rfl, rfl, rfl, rfl, rfl⟩ ?_))); conv => whnf) | (refine And.intro ⟨rfl, rfl⟩ (And.intro (by first | omega | (simp; omega)) ?_); conv => whnf) | (refine Exists.intro _ (And.intro rfl ?_); conv => whnf) | (refine And.intro (fun _ => ?_) (fun h => absurd h (by decide)); conv => whnf) | (refine And.intro (fun h => absurd h (by decide)) (fun _ => ?_); conv => whnf) | (refine .quiet (by kernel_rfl) ?_; conv => whnf))
        rw [hkk]
        refine And.intro ⟨by kernel_rfl, by kernel_rfl⟩ ?_
        conv => whnf
        repeat (first | (refine And.intro ⟨by omega, by omega⟩ ?_; conv => whnf) | (refine And.intro (by omega) (And.intro rfl ?_); conv => whnf) | (refine And.intro rfl ?_; conv => whnf) | (refine And.intro (fun _ => ⟨by omega, by omega⟩) ?_; conv => whnf) | (refine And.intro (fun _ => by omega) (And.intro rfl ?_); conv => whnf) | (refine And.intro ⟨(by first | omega | (simp; omega)), (by first | omega | (simp; omega))⟩ ?_; conv => whnf) | (refine Exists.intro _ (And.intro rfl (And.intro (by first | omega | (simp; omega)) (And.intro ⟨rfl, rfl, rfl, rfl, rfl⟩ ?_))); conv => whnf) | (refine And.intro ⟨rfl, rfl⟩ (And.intro (by first | omega | (simp; omega)) ?_); conv => whnf) | (refine Exists.intro _ (And.intro rfl ?_); conv => whnf) | (refine And.intro (fun _ => ?_) (fun h => absurd h (by decide)); conv => whnf) | (refine And.intro (fun h => absurd h (by decide)) (fun _ => ?_); conv => whnf) | (refine .eff (by first | exact cxOk _ _ | exact cxPOk _ _ _) ?_; conv => whnf))
        refine up hkt trivial ((wk_of [(0, .id 0), (1, .id 1)] rfl ⟨.base (.tree _ _ rfl rfl), .base (.tree _ _ rfl rfl), (by first | exact .base (.own _ _ rfl) | exact .base (.nilown _ rfl) | exact .base (.trunc _ _ _ rfl)), .base (.tree _ _ rfl rfl), .base (.ptr _ _ _ rfl), .base (.tree _ _ (show AV.bool _ = AV.bool _ by congr 1; exact g1.symm) rfl), .base (.tree _ _ (show AV.bool _ = AV.bool _ by congr 1; exact g2.symm) rfl), .base (.tree _ _ rfl rfl), trivial⟩ ⟨⟨_, rfl, (by first | exact .row _ _ _ _ _ _ _ rfl rfl | exact .lstrow _ _ _ _ _ _ _ rfl rfl | exact .nilrow _ _ _ _ _ rfl | exact .truncrow _ _ _ _ _ _ _ _ rfl (by omega) rfl)⟩, ⟨_, rfl, .cells _ _ _ _ rfl (by repeat (first | exact .nil | refine .cons (by first | exact .base (.tree _ _ rfl rfl) | exact .base (.own _ _ rfl) | exact .base (.ptr _ _ _ rfl) | exact .base (.map _ _ rfl) | exact .base (.nilown _ rfl)) ?_)) rfl⟩, trivial⟩))
      · simp only [decide_eq_false_iff_not] at hc2
        have hkc : k = c.length := by omega
        rw [hkc, hs5, hs6]
        have hpe : (decide (postE c x = 0)) = true ∨ (decide (postE c x = 0)) = false := by cases decide (postE c x = 0) <;> simp
        generalize hpp : postE c x = pe at *
        generalize sameB c x = sa at *
        generalize otherB c x = oa at *
        generalize hrr : rightE x = re at *
        rcases hpe with hpe | hpe
        · have hpe' := of_decide_eq_true hpe
          rw [if_pos hpe'] at hpo hst
          conv => whnf
          refine .one _ _ _ (fun _ => hpo) (by repeat (first | exact .nil | (apply BorL.cons; first | exact lS rfl | exact lR rfl | exact lM rfl rfl | exact lL rfl | exact lX rfl | exact lN | exact lNl | exact lSm rfl | exact lIm rfl | exact lP rfl | exact lQ rfl))) (by first | exact .inl rfl | exact .inr (by repeat (first | exact flats_nil | refine flats_cons (by first | exact flat_val _ rfl | exact flat_row (fun _ => rfl) | exact flat_lst (fun _ => rfl)) ?_))) (by first | exact .inl rfl | exact .inr rfl) ?_
          conv => whnf
          repeat (first | (refine And.intro ⟨by omega, by omega⟩ ?_; conv => whnf) | (refine And.intro (by omega) (And.intro rfl ?_); conv => whnf) | (refine And.intro rfl ?_; conv => whnf) | (refine And.intro (fun _ => ⟨by omega, by omega⟩) ?_; conv => whnf) | (refine And.intro (fun _ => by omega) (And.intro rfl ?_); conv => whnf) | (refine And.intro ⟨(by first | omega | (simp; omega)), (by first | omega | (simp; omega))⟩ ?_; conv => whnf) | (refine Exists.intro _ (And.intro rfl (And.intro (by first | omega | (simp; omega)) (And.intro ⟨rfl, rfl, rfl, rfl, rfl⟩ ?_))); conv => whnf) | (refine And.intro ⟨rfl, rfl⟩ (And.intro (by first | omega | (simp; omega)) ?_); conv => whnf) | (refine Exists.intro _ (And.intro rfl ?_); conv => whnf) | (refine And.intro (fun _ => ?_) (fun h => absurd h (by decide)); conv => whnf) | (refine And.intro (fun h => absurd h (by decide)) (fun _ => ?_); conv => whnf) | (refine .eff (by first | exact cxOk _ _ | exact cxPOk _ _ _) ?_; conv => whnf))
          refine .one _ _ _ (fun _ => hre) (by repeat (first | exact .nil | (apply BorL.cons; first | exact lS rfl | exact lR rfl | exact lM rfl rfl | exact lL rfl | exact lX rfl | exact lN | exact lNl | exact lSm rfl | exact lIm rfl | exact lP rfl | exact lQ rfl))) (by first | exact .inl rfl | exact .inr (by repeat (first | exact flats_nil | refine flats_cons (by first | exact flat_val _ rfl | exact flat_row (fun _ => rfl) | exact flat_lst (fun _ => rfl)) ?_))) (by first | exact .inl rfl | exact .inr rfl) ?_
          conv => whnf
          repeat (first | (refine And.intro ⟨by omega, by omega⟩ ?_; conv => whnf) | (refine And.intro (by omega) (And.intro rfl ?_); conv => whnf) | (refine And.intro rfl ?_; conv => whnf) | (refine And.intro (fun _ => ⟨by omega, by omega⟩) ?_; conv => whnf) | (refine And.intro (fun _ => by omega) (And.intro rfl ?_); conv => whnf) | (refine And.intro ⟨(by first | omega | (simp; omega)), (by first | omega | (simp; omega))⟩ ?_; conv => whnf) | (refine Exists.intro _ (And.intro rfl (And.intro (by first | omega | (simp; omega)) (And.intro ⟨rfl, rfl, rfl, rfl, rfl⟩ ?_))); conv => whnf) | (refine And.intro ⟨rfl, rfl⟩ (And.intro (by first | omega | (simp; omega)) ?_); conv => whnf) | (refine Exists.intro _ (And.intro rfl ?_); conv => whnf) | (refine And.intro (fun _ => ?_) (fun h => absurd h (by decide)); conv => whnf) | (refine And.intro (fun h => absurd h (by decide)) (fun _ => ?_); conv => whnf) | (refine .eff (by first | exact cxOk _ _ | exact cxPOk _ _ _) ?_; conv => whnf))
          refine .one _ _ _ (fun _ => hre) (by repeat (first | exact .nil | (apply BorL.cons; first | exact lS rfl | exact lR rfl | exact lM rfl rfl | exact lL rfl | exact lX rfl | exact lN | exact lNl | exact lSm rfl | exact lIm rfl | exact lP rfl | exact lQ rfl))) (by first | exact .inl rfl | exact .inr (by repeat (first | exact flats_nil | refine flats_cons (by first | exact flat_val _ rfl | exact flat_row (fun _ => rfl) | exact flat_lst (fun _ => rfl)) ?_))) (by first | exact .inl rfl | exact .inr rfl) ?_
          conv => whnf
          repeat (first | (refine And.intro ⟨by omega, by omega⟩ ?_; conv => whnf) | (refine And.intro (by omega) (And.intro rfl ?_); conv => whnf) | (refine And.intro rfl ?_; conv => whnf) | (refine And.intro (fun _ => ⟨by omega, by omega⟩) ?_; conv => whnf) | (refine And.intro (fun _ => by omega) (And.intro rfl ?_); conv => whnf) | (refine And.intro ⟨(by first | omega | (simp; omega)), (by first | omega | (simp; omega))⟩ ?_; conv => whnf) | (refine Exists.intro _ (And.intro rfl (And.intro (by first | omega | (simp; omega)) (And.intro ⟨rfl, rfl, rfl, rfl, rfl⟩ ?_))); conv => whnf) | (refine And.intro ⟨rfl, rfl⟩ (And.intro (by first | omega | (simp; omega)) ?_); conv => whnf) | (refine Exists.intro _ (And.intro rfl ?_); conv => whnf) | (refine And.intro (fun _ => ?_) (fun h => absurd h (by decide)); conv => whnf) | (refine And.intro (fun h => absurd h (by decide)) (fun _ => ?_); conv => whnf) | (refine .eff (by first | exact cxOk _ _ | exact cxPOk _ _ _) ?_; conv => whnf))
          refine .one _ _ _ (fun _ => hre) (by repeat (first | exact .nil | (apply BorL.cons; first | exact lS rfl | exact lR rfl | exact lM rfl rfl | exact lL rfl | exact lX rfl | exact lN | exact lNl | exact lSm rfl | exact lIm rfl | exact lP rfl | exact lQ rfl))) (by first | exact .inl rfl | exact .inr (by repeat (first | exact flats_nil | refine flats_cons (by first | exact flat_val _ rfl | exact flat_row (fun _ => rfl) | exact flat_lst (fun _ => rfl)) ?_))) (by first | exact .inl rfl | exact .inr rfl) ?_
          conv => whnf
          repeat (first | (refine And.intro ⟨by omega, by omega⟩ ?_; conv => whnf) | (refine And.intro (by omega) (And.intro rfl ?_); conv => whnf) | (refine And.intro rfl ?_; conv => whnf) | (refine And.intro (fun _ => ⟨by omega, by omega⟩) ?_; conv => whnf) | (refine And.intro (fun _ => by omega) (And.intro rfl ?_); conv => whnf) | (refine And.intro ⟨(by first | omega | (simp; omega)), (by first | omega | (simp; omega))⟩ ?_; conv => whnf) | (refine Exists.intro _ (And.intro rfl (And.intro (by first | omega | (simp; omega)) (And.intro ⟨rfl, rfl, rfl, rfl, rfl⟩ ?_))); conv => whnf) | (refine And.intro ⟨rfl, rfl⟩ (And.intro (by first | omega | (simp; omega)) ?_); conv => whnf) | (refine Exists.intro _ (And.intro rfl ?_); conv => whnf) | (refine And.intro (fun _ => ?_) (fun h => absurd h (by decide)); conv => whnf) | (refine And.intro (fun h => absurd h (by decide)) (fun _ => ?_); conv => whnf) | (refine .eff (by first | exact cxOk _ _ | exact cxPOk _ _ _) ?_; conv => whnf))
          refine ⟨fun hz => ?_, fun hz => ?_⟩
          · exact absurd hz (once_bool o1 o2)
          conv => whnf
          refine ⟨fun hy => ?_, fun hy => ?_⟩
          · conv => whnf
            repeat (first | (refine And.intro ⟨by omega, by omega⟩ ?_; conv => whnf) | (refine And.intro (by omega) (And.intro rfl ?_); conv => whnf) | (refine And.intro rfl ?_; conv => whnf) | (refine And.intro (fun _ => ⟨by omega, by omega⟩) ?_; conv => whnf) | (refine And.intro (fun _ => by omega) (And.intro rfl ?_); conv => whnf) | (refine And.intro ⟨(by first | omega | (simp; omega)), (by first | omega | (simp; omega))⟩ ?_; conv => whnf) | (refine Exists.intro _ (And.intro rfl (And.intro (by first | omega | (simp; omega)) (And.intro ⟨rfl, rfl, rfl, rfl, rfl⟩ ?_))); conv => whnf) | (refine And.intro ⟨rfl, rfl⟩ (And.intro (by first | omega | (simp; omega)) ?_); conv => whnf) | (refine Exists.intro _ (And.intro rfl ?_); conv => whnf) | (refine And.intro (fun _ => ?_) (fun h => absurd h (by decide)); conv => whnf) | (refine And.intro (fun h => absurd h (by decide)) (fun _ => ?_); conv => whnf) | (refine .eff (by first | exact cxOk _ _ | exact cxPOk _ _ _) ?_; conv => whnf))
            refine up hit trivial ((wk_of [(0, .id 2)] rfl ⟨.base (.tree _ _ rfl rfl), .base (.tree _ _ rfl rfl), (by first | exact .base (.own _ _ rfl) | exact .base (.nilown _ rfl) | exact .base (.trunc _ _ _ rfl)), .base (.tree _ _ rfl rfl), trivial⟩ ⟨⟨_, rfl, (by first | exact .row _ _ _ _ _ _ _ rfl (hst.symm.trans hC'.symm) | exact .lstrow _ _ _ _ _ _ _ rfl (hst.symm.trans hC'.symm) | exact .nilrow _ _ _ _ _ (hst.symm.trans hC'.symm) | exact .truncrow _ _ _ _ _ _ _ _ rfl (by omega) (hst.symm.trans hC'.symm))⟩, trivial⟩))
          · have hy' : decide (pe = 0) = false := hy
            rw [hpe] at hy'
            cases hy'
        · have hpe' := of_decide_eq_false hpe
          rw [if_neg hpe'] at hpo hst
          conv => whnf
          refine .one _ _ _ (fun _ => hpo) (by repeat (first | exact .nil | (apply BorL.cons; first | exact lS rfl | exact lR rfl | exact lM rfl rfl | exact lL rfl | exact lX rfl | exact lN | exact lNl | exact lSm rfl | exact lIm rfl | exact lP rfl | exact lQ rfl))) (by first | exact .inl rfl | exact .inr (by repeat (first | exact flats_nil | refine flats_cons (by first | exact flat_val _ rfl | exact flat_row (fun _ => rfl) | exact flat_lst (fun _ => rfl)) ?_))) (by first | exact .inl rfl | exact .inr rfl) ?_
          conv => whnf
          repeat (first | (refine And.intro ⟨by omega, by omega⟩ ?_; conv => whnf) | (refine And.intro (by omega) (And.intro rfl ?_); conv => whnf) | (refine And.intro rfl ?_; conv => whnf) | (refine And.intro (fun _ => ⟨by omega, by omega⟩) ?_; conv => whnf) | (refine And.intro (fun _ => by omega) (And.intro rfl ?_); conv => whnf) | (refine And.intro ⟨(by first | omega | (simp; omega)), (by first | omega | (simp; omega))⟩ ?_; conv => whnf) | (refine Exists.intro _ (And.intro rfl (And.intro (by first | omega | (simp; omega)) (And.intro ⟨rfl, rfl, rfl, rfl, rfl⟩ ?_))); conv => whnf) | (refine And.intro ⟨rfl, rfl⟩ (And.intro (by first | omega | (simp; omega)) ?_); conv => whnf) | (refine Exists.intro _ (And.intro rfl ?_); conv => whnf) | (refine And.intro (fun _ => ?_) (fun h => absurd h (by decide)); conv => whnf) | (refine And.intro (fun h => absurd h (by decide)) (fun _ => ?_); conv => whnf) | (refine .eff (by first | exact cxOk _ _ | exact cxPOk _ _ _) ?_; conv => whnf))
          refine .one _ _ _ (fun _ => hre) (by repeat (first | exact .nil | (apply BorL.cons; first | exact lS rfl | exact lR rfl | exact lM rfl rfl | exact lL rfl | exact lX rfl | exact lN | exact lNl | exact lSm rfl | exact lIm rfl | exact lP rfl | exact lQ rfl))) (by first | exact .inl rfl | exact .inr (by repeat (first | exact flats_nil | refine flats_cons (by first | exact flat_val _ rfl | exact flat_row (fun _ => rfl) | exact flat_lst (fun _ => rfl)) ?_))) (by first | exact .inl rfl | exact .inr rfl) ?_
          conv => whnf
          repeat (first | (refine And.intro ⟨by omega, by omega⟩ ?_; conv => whnf) | (refine And.intro (by omega) (And.intro rfl ?_); conv => whnf) | (refine And.intro rfl ?_; conv => whnf) | (refine And.intro (fun _ => ⟨by omega, by omega⟩) ?_; conv => whnf) | (refine And.intro (fun _ => by omega) (And.intro rfl ?_); conv => whnf) | (refine And.intro ⟨(by first | omega | (simp; omega)), (by first | omega | (simp; omega))⟩ ?_; conv => whnf) | (refine Exists.intro _ (And.intro rfl (And.intro (by first | omega | (simp; omega)) (And.intro ⟨rfl, rfl, rfl, rfl, rfl⟩ ?_))); conv => whnf) | (refine And.intro ⟨rfl, rfl⟩ (And.intro (by first | omega | (simp; omega)) ?_); conv => whnf) | (refine Exists.intro _ (And.intro rfl ?_); conv => whnf) | (refine And.intro (fun _ => ?_) (fun h => absurd h (by decide)); conv => whnf) | (refine And.intro (fun h => absurd h (by decide)) (fun _ => ?_); conv => whnf) | (refine .eff (by first | exact cxOk _ _ | exact cxPOk _ _ _) ?_; conv => whnf))
          refine .one _ _ _ (fun _ => hre) (by repeat (first | exact .nil | (apply BorL.cons; first | exact lS rfl | exact lR rfl | exact lM rfl rfl | exact lL rfl | exact lX rfl | exact lN | exact lNl | exact lSm rfl | exact lIm rfl | exact lP rfl | exact lQ rfl))) (by first | exact .inl rfl | exact .inr (by repeat (first | exact flats_nil | refine flats_cons (by first | exact flat_val _ rfl | exact flat_row (fun _ => rfl) | exact flat_lst (fun _ => rfl)) ?_))) (by first | exact .inl rfl | exact .inr rfl) ?_
          conv => whnf
          repeat (first | (refine And.intro ⟨by omega, by omega⟩ ?_; conv => whnf) | (refine And.intro (by omega) (And.intro rfl ?_); conv => whnf) | (refine And.intro rfl ?_; conv => whnf) | (refine And.intro (fun _ => ⟨by omega, by omega⟩) ?_; conv => whnf) | (refine And.intro (fun _ => by omega) (And.intro rfl ?_); conv => whnf) | (refine And.intro ⟨(by first | omega | (simp; omega)), (by first | omega | (simp; omega))⟩ ?_; conv => whnf) | (refine Exists.intro _ (And.intro rfl (And.intro (by first | omega | (simp; omega)) (And.intro ⟨rfl, rfl, rfl, rfl, rfl⟩ ?_))); conv => whnf) | (refine And.intro ⟨rfl, rfl⟩ (And.intro (by first | omega | (simp; omega)) ?_); conv => whnf) | (refine Exists.intro _ (And.intro rfl ?_); conv => whnf) | (refine And.intro (fun _ => ?_) (fun h => absurd h (by decide)); conv => whnf) | (refine And.intro (fun h => absurd h (by decide)) (fun _ => ?_); conv => whnf) | (refine .eff (by first | exact cxOk _ _ | exact cxPOk _ _ _) ?_; conv => whnf))
          refine .one _ _ _ (fun _ => hre) (by repeat (first | exact .nil | (apply BorL.cons; first | exact lS rfl | exact lR rfl | exact lM rfl rfl | exact lL rfl | exact lX rfl | exact lN | exact lNl | exact lSm rfl | exact lIm rfl | exact lP rfl | exact lQ rfl))) (by first | exact .inl rfl | exact .inr (by repeat (first | exact flats_nil | refine flats_cons (by first | exact flat_val _ rfl | exact flat_row (fun _ => rfl) | exact flat_lst (fun _ => rfl)) ?_))) (by first | exact .inl rfl | exact .inr rfl) ?_
          conv => whnf
          repeat (first | (refine And.intro ⟨by omega, by omega⟩ ?_; conv => whnf) | (refine And.intro (by omega) (And.intro rfl ?_); conv => whnf) | (refine And.intro rfl ?_; conv => whnf) | (refine And.intro (fun _ => ⟨by omega, by omega⟩) ?_; conv => whnf) | (refine And.intro (fun _ => by omega) (And.intro rfl ?_); conv => whnf) | (refine And.intro ⟨(by first | omega | (simp; omega)), (by first | omega | (simp; omega))⟩ ?_; conv => whnf) | (refine Exists.intro _ (And.intro rfl (And.intro (by first | omega | (simp; omega)) (And.intro ⟨rfl, rfl, rfl, rfl, rfl⟩ ?_))); conv => whnf) | (refine And.intro ⟨rfl, rfl⟩ (And.intro (by first | omega | (simp; omega)) ?_); conv => whnf) | (refine Exists.intro _ (And.intro rfl ?_); conv => whnf) | (refine And.intro (fun _ => ?_) (fun h => absurd h (by decide)); conv => whnf) | (refine And.intro (fun h => absurd h (by decide)) (fun _ => ?_); conv => whnf) | (refine .eff (by first | exact cxOk _ _ | exact cxPOk _ _ _) ?_; conv => whnf))
          refine ⟨fun hz => ?_, fun hz => ?_⟩
          · exact absurd hz (once_bool o1 o2)
          conv => whnf
          refine ⟨fun hy => ?_, fun hy => ?_⟩
          · have hy' : decide (pe = 0) = true := hy
            rw [hpe] at hy'
            cases hy'
          · conv => whnf
            repeat (first | (refine And.intro ⟨by omega, by omega⟩ ?_; conv => whnf) | (refine And.intro (by omega) (And.intro rfl ?_); conv => whnf) | (refine And.intro rfl ?_; conv => whnf) | (refine And.intro (fun _ => ⟨by omega, by omega⟩) ?_; conv => whnf) | (refine And.intro (fun _ => by omega) (And.intro rfl ?_); conv => whnf) | (refine And.intro ⟨(by first | omega | (simp; omega)), (by first | omega | (simp; omega))⟩ ?_; conv => whnf) | (refine Exists.intro _ (And.intro rfl (And.intro (by first | omega | (simp; omega)) (And.intro ⟨rfl, rfl, rfl, rfl, rfl⟩ ?_))); conv => whnf) | (refine And.intro ⟨rfl, rfl⟩ (And.intro (by first | omega | (simp; omega)) ?_); conv => whnf) | (refine Exists.intro _ (And.intro rfl ?_); conv => whnf) | (refine And.intro (fun _ => ?_) (fun h => absurd h (by decide)); conv => whnf) | (refine And.intro (fun h => absurd h (by decide)) (fun _ => ?_); conv => whnf) | (refine .eff (by first | exact cxOk _ _ | exact cxPOk _ _ _) ?_; conv => whnf))
            refine up hit trivial ((wk_of [(0, .id 0)] rfl ⟨.base (.tree _ _ rfl rfl), .base (.tree _ _ rfl rfl), (by first | exact .base (.own _ _ rfl) | exact .base (.nilown _ rfl) | exact .base (.trunc _ _ _ rfl)), .base (.tree _ _ rfl rfl), trivial⟩ ⟨⟨_, rfl, (by first | exact .row _ _ _ _ _ _ _ rfl (hst.symm.trans hC'.symm) | exact .lstrow _ _ _ _ _ _ _ rfl (hst.symm.trans hC'.symm) | exact .nilrow _ _ _ _ _ (hst.symm.trans hC'.symm) | exact .truncrow _ _ _ _ _ _ _ _ rfl (by omega) (hst.symm.trans hC'.symm))⟩, trivial⟩))
    · have hge' : ¬ l.length ≤ i := by
        have := of_decide_eq_false hge
        omega
      have hxi : xq l i = l.getD (i % l.length) e0 := by unfold xq; rw [if_neg hge', Nat.mod_eq_of_lt (by omega)]
      generalize l.getD (i % l.length) e0 = x at *
      conv => whnf
      have c0' := hcl i (by omega)
      obtain ⟨c1, c2⟩ := c0'
      have hpo := post_ok' (C i) (by omega) x
      have hre := right_ok x
      obtain ⟨o1, o2⟩ := once_plain (x := x) c1
      rw [hxi] at hst
      unfold curStep at hst
      have hs1 := fun k (hk : k < (C i).length) => sameB_step (x := x) hk
      have hs2 := fun k (hk : k < (C i).length) => otherB_step (x := x) hk
      have hs3 : sameB ((C i).take 0) x = false := rfl
      have hs4 : otherB ((C i).take 0) x = false := rfl
      have hs5 : sameB ((C i).take (C i).length) x = sameB (C i) x := by rw [List.take_of_length_le (Nat.le_refl _)]
      have hs6 : otherB ((C i).take (C i).length) x = otherB (C i) x := by rw [List.take_of_length_le (Nat.le_refl _)]
      generalize hC' : C (i + 1) = C' at *
      generalize C i = c at *
      generalize hSa : (fun k => sameB (c.take k) x) = Sa at *
      generalize hOt : (fun k => otherB (c.take k) x) = Ot at *
      have hSk : ∀ k, sameB (c.take k) x = Sa k := fun k => by rw [← hSa]
      have hOk : ∀ k, otherB (c.take k) x = Ot k := fun k => by rw [← hOt]
      simp only [hSk, hOk] at hs1 hs2 hs3 hs4 hs5 hs6
      refine loop_up (cxOk _ _) c.length (fun _ => True) (fun k => ⟨[(0, encEs l), (3, .bool true), (4, .own 0), (5, .int .i64 (i : Nat)), (6, .ptr 1 0), (7, .bool (Sa k)), (8, .bool (Ot k)), (9, .int .i64 (k : Nat))], [(0, .row 28 5 encE e0 c), (1, .cells 28 [.int .i64 x.id, .int .i64 x.day, .int .i64 x.frm, .int .i64 x.to, .int .i64 x.amt])], 2⟩) trivial (by rw [hs3, hs4]; exact (wk_of [(0, .id 0), (1, .id 1)] rfl ⟨.base (.tree _ _ rfl rfl), .base (.tree _ _ rfl rfl), (by first | exact .base (.own _ _ rfl) | exact .base (.nilown _ rfl) | exact .base (.trunc _ _ _ rfl)), .base (.tree _ _ rfl rfl), .base (.ptr _ _ _ rfl), .base (.tree _ _ rfl rfl), .base (.tree _ _ rfl rfl), .base (.tree _ _ rfl rfl), trivial⟩ ⟨⟨_, rfl, (by first | exact .row _ _ _ _ _ _ _ rfl rfl | exact .lstrow _ _ _ _ _ _ _ rfl rfl | exact .nilrow _ _ _ _ _ rfl | exact .truncrow _ _ _ _ _ _ _ _ rfl (by omega) rfl)⟩, ⟨_, rfl, .cells _ _ _ _ rfl (by repeat (first | exact .nil | refine .cons (by first | exact .base (.tree _ _ rfl rfl) | exact .base (.own _ _ rfl) | exact .base (.ptr _ _ _ rfl) | exact .base (.map _ _ rfl) | exact .base (.nilown _ rfl)) ?_)) rfl⟩, trivial⟩)) ?_
      intro k hk _
      conv => whnf
      refine ⟨fun hc2 => ?_, fun hc2 => ?_⟩
      · simp only [decide_eq_true_eq] at hc2
        have hkt : k < c.length := by omega
        have hkk : c.getD (k : Int).toNat e0 = c.getD k e0 := by rw [Int.toNat_natCast]
        have g1 := hs1 k hkt
        have g2 := hs2 k hkt
        generalize c.getD k e0 = y at *
        conv => whnf
        repeat (first | (refine And.intro ⟨by omega, by omega⟩ ?_; conv => whnf) | (refine And.intro (by omega) (And.intro rfl ?_); conv => whnf) | (refine And.intro rfl ?_; conv => whnf) | (refine And.intro (fun _ => ⟨by omega, by omega⟩) ?_; conv => whnf) | (refine And.intro (fun _ => by omega) (And.intro rfl ?_); conv => whnf) | (refine And.intro ⟨(by first | omega | (simp; omega)), (by first | omega | (simp; omega))⟩ ?_; conv => whnf) | (refine Exists.intro _ (And.intro rfl (And.intro (by first | omega | (simp; omega)) (And.intro ⟨rfl, rfl, rfl, rfl, rfl⟩ ?_))); conv => whnf) | (refine And.intro ⟨rfl, rfl⟩ (And.intro (by first | omega | (simp; omega)) ?_); conv => whnf) | (refine Exists.intro _ (And.intro rfl ?_); conv => whnf) | (refine And.intro (fun _ => ?_) (fun h => absurd h (by decide)); conv => whnf) | (refine And.intro (fun h => absurd h (by decide)) (fun _ => ?_); conv => whnf) | (refine .quiet (by kernel_rfl) ?_; conv => whnf))
        rw [hkk]
        refine And.intro ⟨by kernel_rfl, by kernel_rfl⟩ ?_
        conv => whnf
        repeat (first | (refine And.intro ⟨by omega, by omega⟩ ?_; conv => whnf) | (refine And.intro (by omega) (And.intro rfl ?_); conv => whnf) | (refine And.intro rfl ?_; conv => whnf) | (refine And.intro (fun _ => ⟨by omega, by omega⟩) ?_; conv => whnf) | (refine And.intro (fun _ => by omega) (And.intro rfl ?_); conv => whnf) | (refine And.intro ⟨(by first | omega | (simp; omega)), (by first | omega | (simp; omega))⟩ ?_; conv => whnf) | (refine Exists.intro _ (And.intro rfl (And.intro (by first | omega | (simp; omega)) (And.intro ⟨rfl, rfl, rfl, rfl, rfl⟩ ?_))); conv => whnf) | (refine And.intro ⟨rfl, rfl⟩ (And.intro (by first | omega | (simp; omega)) ?_); conv => whnf) | (refine Exists.intro _ (And.intro rfl ?_); conv => whnf) | (refine And.intro (fun _ => ?_) (fun h => absurd h (by decide)); conv => whnf) | (refine And.intro (fun h => absurd h (by decide)) (fun _ => ?_); conv => whnf) | (refine .quiet (by kernel_rfl) ?_; conv => whnf))
        rw [hkk]
        refine And.intro ⟨by kernel_rfl, by kernel_rfl⟩ ?_
        conv => whnf
        repeat (first | (refine And.intro ⟨by omega, by omega⟩ ?_; conv => whnf) | (refine And.intro (by omega) (And.intro rfl ?_); conv => whnf) | (refine And.intro rfl ?_; conv => whnf) | (refine And.intro (fun _ => ⟨by omega, by omega⟩) ?_; conv => whnf) | (refine And.intro (fun _ => by omega) (And.intro rfl ?_); conv => whnf) | (refine And.intro ⟨(by first | omega | (simp; omega)), (by first | omega | (simp; omega))⟩ ?_; conv => whnf) | (refine Exists.intro _ (And.intro rfl (And.intro (by first | omega | (simp; omega)) (And.intro ⟨rfl, rfl, rfl, rfl, rfl⟩ ?_))); conv => whnf) | (refine And.intro ⟨rfl, rfl⟩ (And.intro (by first | omega | (simp; omega)) ?_); conv => whnf) | (refine Exists.intro _ (And.intro rfl ?_); conv => whnf) | (refine And.intro (fun _ => ?_) (fun h => absurd h (by decide)); conv => whnf) | (refine And.intro (fun h => absurd h (by decide)) (fun _ => ?_); conv => whnf) | (refine .eff (by first | exact cxOk _ _ | exact cxPOk _ _ _) ?_; conv => whnf))
        refine up hkt trivial ((wk_of [(0, .id 0), (1, .id 1)] rfl ⟨.base (.tree _ _ rfl rfl), .base (.tree _ _ rfl rfl), (by first | exact .base (.own _ _ rfl) | exact .base (.nilown _ rfl) | exact .base (.trunc _ _ _ rfl)), .base (.tree _ _ rfl rfl), .base (.ptr _ _ _ rfl), .base (.tree _ _ (show AV.bool _ = AV.bool _ by congr 1; exact g1.symm) rfl), .base (.tree _ _ (show AV.bool _ = AV.bool _ by congr 1; exact g2.symm) rfl), .base (.tree _ _ rfl rfl), trivial⟩ ⟨⟨_, rfl, (by first | exact .row _ _ _ _ _ _ _ rfl rfl | exact .lstrow _ _ _ _ _ _ _ rfl rfl | exact .nilrow _ _ _ _ _ rfl | exact .truncrow _ _ _ _ _ _ _ _ rfl (by omega) rfl)⟩, ⟨_, rfl, .cells _ _ _ _ rfl (by repeat (first | exact .nil | refine .cons (by first | exact .base (.tree _ _ rfl rfl) | exact .base (.own _ _ rfl) | exact .base (.ptr _ _ _ rfl) | exact .base (.map _ _ rfl) | exact .base (.nilown _ rfl)) ?_)) rfl⟩, trivial⟩))
      · simp only [decide_eq_false_iff_not] at hc2
        have hkc : k = c.length := by omega
        rw [hkc, hs5, hs6]
        have hpe : (decide (postE c x = 0)) = true ∨ (decide (postE c x = 0)) = false := by cases decide (postE c x = 0) <;> simp
        generalize hpp : postE c x = pe at *
        generalize sameB c x = sa at *
        generalize otherB c x = oa at *
        generalize hrr : rightE x = re at *
        rcases hpe with hpe | hpe
        · have hpe' := of_decide_eq_true hpe
          rw [if_pos hpe'] at hpo hst
          conv => whnf
          refine .one _ _ _ (fun _ => hpo) (by repeat (first | exact .nil | (apply BorL.cons; first | exact lS rfl | exact lR rfl | exact lM rfl rfl | exact lL rfl | exact lX rfl | exact lN | exact lNl | exact lSm rfl | exact lIm rfl | exact lP rfl | exact lQ rfl))) (by first | exact .inl rfl | exact .inr (by repeat (first | exact flats_nil | refine flats_cons (by first | exact flat_val _ rfl | exact flat_row (fun _ => rfl) | exact flat_lst (fun _ => rfl)) ?_))) (by first | exact .inl rfl | exact .inr rfl) ?_
          conv => whnf
          repeat (first | (refine And.intro ⟨by omega, by omega⟩ ?_; conv => whnf) | (refine And.intro (by omega) (And.intro rfl ?_); conv => whnf) | (refine And.intro rfl ?_; conv => whnf) | (refine And.intro (fun _ => ⟨by omega, by omega⟩) ?_; conv => whnf) | (refine And.intro (fun _ => by omega) (And.intro rfl ?_); conv => whnf) | (refine And.intro ⟨(by first | omega | (simp; omega)), (by first | omega | (simp; omega))⟩ ?_; conv => whnf) | (refine Exists.intro _ (And.intro rfl (And.intro (by first | omega | (simp; omega)) (And.intro ⟨rfl, rfl, rfl, rfl, rfl⟩ ?_))); conv => whnf) | (refine And.intro ⟨rfl, rfl⟩ (And.intro (by first | omega | (simp; omega)) ?_); conv => whnf) | (refine Exists.intro _ (And.intro rfl ?_); conv => whnf) | (refine And.intro (fun _ => ?_) (fun h => absurd h (by decide)); conv => whnf) | (refine And.intro (fun h => absurd h (by decide)) (fun _ => ?_); conv => whnf) | (refine .eff (by first | exact cxOk _ _ | exact cxPOk _ _ _) ?_; conv => whnf))
          refine .one _ _ _ (fun _ => hre) (by repeat (first | exact .nil | (apply BorL.cons; first | exact lS rfl | exact lR rfl | exact lM rfl rfl | exact lL rfl | exact lX rfl | exact lN | exact lNl | exact lSm rfl | exact lIm rfl | exact lP rfl | exact lQ rfl))) (by first | exact .inl rfl | exact .inr (by repeat (first | exact flats_nil | refine flats_cons (by first | exact flat_val _ rfl | exact flat_row (fun _ => rfl) | exact flat_lst (fun _ => rfl)) ?_))) (by first | exact .inl rfl | exact .inr rfl) ?_
          conv => whnf
          repeat (first | (refine And.intro ⟨by omega, by omega⟩ ?_; conv => whnf) | (refine And.intro (by omega) (And.intro rfl ?_); conv => whnf) | (refine And.intro rfl ?_; conv => whnf) | (refine And.intro (fun _ => ⟨by omega, by omega⟩) ?_; conv => whnf) | (refine And.intro (fun _ => by omega) (And.intro rfl ?_); conv => whnf) | (refine And.intro ⟨(by first | omega | (simp; omega)), (by first | omega | (simp; omega))⟩ ?_; conv => whnf) | (refine Exists.intro _ (And.intro rfl (And.intro (by first | omega | (simp; omega)) (And.intro ⟨rfl, rfl, rfl, rfl, rfl⟩ ?_))); conv => whnf) | (refine And.intro ⟨rfl, rfl⟩ (And.intro (by first | omega | (simp; omega)) ?_); conv => whnf) | (refine Exists.intro _ (And.intro rfl ?_); conv => whnf) | (refine And.intro (fun _ => ?_) (fun h => absurd h (by decide)); conv => whnf) | (refine And.intro (fun h => absurd h (by decide)) (fun _ => ?_); conv => whnf) | (refine .eff (by first | exact cxOk _ _ | exact cxPOk _ _ _) ?_; conv => whnf))
          refine .one _ _ _ (fun _ => hre) (by repeat (first | exact .nil | (apply BorL.cons; first | exact lS rfl | exact lR rfl | exact lM rfl rfl | exact lL rfl | exact lX rfl | exact lN | exact lNl | exact lSm rfl | exact lIm rfl | exact lP rfl | exact lQ rfl))) (by first | exact .inl rfl | exact .inr (by repeat (first | exact flats_nil | refine flats_cons (by first | exact flat_val _ rfl | exact flat_row (fun _ => rfl) | exact flat_lst (fun _ => rfl)) ?_))) (by first | exact .inl rfl | exact .inr rfl) ?_
          conv => whnf
          repeat (first | (refine And.intro ⟨by omega, by omega⟩ ?_; conv => whnf) | (refine And.intro (by omega) (And.intro rfl ?_); conv => whnf) | (refine And.intro rfl ?_; conv => whnf) | (refine And.intro (fun _ => ⟨by omega, by omega⟩) ?_; conv => whnf) | (refine And.intro (fun _ => by omega) (And.intro rfl ?_); conv => whnf) | (refine And.intro ⟨(by first | omega | (simp; omega)), (by first | omega | (simp; omega))⟩ ?_; conv => whnf) | (refine Exists.intro _ (And.intro rfl (And.intro (by first | omega | (simp; omega)) (And.intro ⟨rfl, rfl, rfl, rfl, rfl⟩ ?_))); conv => whnf) | (refine And.intro ⟨rfl, rfl⟩ (And.intro (by first | omega | (simp; omega)) ?_); conv => whnf) | (refine Exists.intro _ (And.intro rfl ?_); conv => whnf) | (refine And.intro (fun _ => ?_) (fun h => absurd h (by decide)); conv => whnf) | (refine And.intro (fun h => absurd h (by decide)) (fun _ => ?_); conv => whnf) | (refine .eff (by first | exact cxOk _ _ | exact cxPOk _ _ _) ?_; conv => whnf))
          refine .one _ _ _ (fun _ => hre) (by repeat (first | exact .nil | (apply BorL.cons; first | exact lS rfl | exact lR rfl | exact lM rfl rfl | exact lL rfl | exact lX rfl | exact lN | exact lNl | exact lSm rfl | exact lIm rfl | exact lP rfl | exact lQ rfl))) (by first | exact .inl rfl | exact .inr (by repeat (first | exact flats_nil | refine flats_cons (by first | exact flat_val _ rfl | exact flat_row (fun _ => rfl) | exact flat_lst (fun _ => rfl)) ?_))) (by first | exact .inl rfl | exact .inr rfl) ?_
          conv => whnf
          repeat (first | (refine And.intro ⟨by omega, by omega⟩ ?_; conv => whnf) | (refine And.intro (by omega) (And.intro rfl ?_); conv => whnf) | (refine And.intro rfl ?_; conv => whnf) | (refine And.intro (fun _ => ⟨by omega, by omega⟩) ?_; conv => whnf) | (refine And.intro (fun _ => by omega) (And.intro rfl ?_); conv => whnf) | (refine And.intro ⟨(by first | omega | (simp; omega)), (by first | omega | (simp; omega))⟩ ?_; conv => whnf) | (refine Exists.intro _ (And.intro rfl (And.intro (by first | omega | (simp; omega)) (And.intro ⟨rfl, rfl, rfl, rfl, rfl⟩ ?_))); conv => whnf) | (refine And.intro ⟨rfl, rfl⟩ (And.intro (by first | omega | (simp; omega)) ?_); conv => whnf) | (refine Exists.intro _ (And.intro rfl ?_); conv => whnf) | (refine And.intro (fun _ => ?_) (fun h => absurd h (by decide)); conv => whnf) | (refine And.intro (fun h => absurd h (by decide)) (fun _ => ?_); conv => whnf) | (refine .eff (by first | exact cxOk _ _ | exact cxPOk _ _ _) ?_; conv => whnf))
          refine ⟨fun hz => ?_, fun hz => ?_⟩
          · exact absurd hz (once_bool o1 o2)
          conv => whnf
          refine ⟨fun hy => ?_, fun hy => ?_⟩
          · conv => whnf
            repeat (first | (refine And.intro ⟨by omega, by omega⟩ ?_; conv => whnf) | (refine And.intro (by omega) (And.intro rfl ?_); conv => whnf) | (refine And.intro rfl ?_; conv => whnf) | (refine And.intro (fun _ => ⟨by omega, by omega⟩) ?_; conv => whnf) | (refine And.intro (fun _ => by omega) (And.intro rfl ?_); conv => whnf) | (refine And.intro ⟨(by first | omega | (simp; omega)), (by first | omega | (simp; omega))⟩ ?_; conv => whnf) | (refine Exists.intro _ (And.intro rfl (And.intro (by first | omega | (simp; omega)) (And.intro ⟨rfl, rfl, rfl, rfl, rfl⟩ ?_))); conv => whnf) | (refine And.intro ⟨rfl, rfl⟩ (And.intro (by first | omega | (simp; omega)) ?_); conv => whnf) | (refine Exists.intro _ (And.intro rfl ?_); conv => whnf) | (refine And.intro (fun _ => ?_) (fun h => absurd h (by decide)); conv => whnf) | (refine And.intro (fun h => absurd h (by decide)) (fun _ => ?_); conv => whnf) | (refine .eff (by first | exact cxOk _ _ | exact cxPOk _ _ _) ?_; conv => whnf))
            refine up hit trivial ((wk_of [(0, .id 2)] rfl ⟨.base (.tree _ _ rfl rfl), .base (.tree _ _ rfl rfl), (by first | exact .base (.own _ _ rfl) | exact .base (.nilown _ rfl) | exact .base (.trunc _ _ _ rfl)), .base (.tree _ _ rfl rfl), trivial⟩ ⟨⟨_, rfl, (by first | exact .row _ _ _ _ _ _ _ rfl (hst.symm.trans hC'.symm) | exact .lstrow _ _ _ _ _ _ _ rfl (hst.symm.trans hC'.symm) | exact .nilrow _ _ _ _ _ (hst.symm.trans hC'.symm) | exact .truncrow _ _ _ _ _ _ _ _ rfl (by omega) (hst.symm.trans hC'.symm))⟩, trivial⟩))
          · have hy' : decide (pe = 0) = false := hy
            rw [hpe] at hy'
            cases hy'
        · have hpe' := of_decide_eq_false hpe
          rw [if_neg hpe'] at hpo hst
          conv => whnf
          refine .one _ _ _ (fun _ => hpo) (by repeat (first | exact .nil | (apply BorL.cons; first | exact lS rfl | exact lR rfl | exact lM rfl rfl | exact lL rfl | exact lX rfl | exact lN | exact lNl | exact lSm rfl | exact lIm rfl | exact lP rfl | exact lQ rfl))) (by first | exact .inl rfl | exact .inr (by repeat (first | exact flats_nil | refine flats_cons (by first | exact flat_val _ rfl | exact flat_row (fun _ => rfl) | exact flat_lst (fun _ => rfl)) ?_))) (by first | exact .inl rfl | exact .inr rfl) ?_
          conv => whnf
          repeat (first | (refine And.intro ⟨by omega, by omega⟩ ?_; conv => whnf) | (refine And.intro (by omega) (And.intro rfl ?_); conv => whnf) | (refine And.intro rfl ?_; conv => whnf) | (refine And.intro (fun _ => ⟨by omega, by omega⟩) ?_; conv => whnf) | (refine And.intro (fun _ => by omega) (And.intro rfl ?_); conv => whnf) | (refine And.intro ⟨(by first | omega | (simp; omega)), (by first | omega | (simp; omega))⟩ ?_; conv => whnf) | (refine Exists.intro _ (And.intro rfl (And.intro (by first | omega | (simp; omega)) (And.intro ⟨rfl, rfl, rfl, rfl, rfl⟩ ?_))); conv => whnf) | (refine And.intro ⟨rfl, rfl⟩ (And.intro (by first | omega | (simp; omega)) ?_); conv => whnf) | (refine Exists.intro _ (And.intro rfl ?_); conv => whnf) | (refine And.intro (fun _ => ?_) (fun h => absurd h (by decide)); conv => whnf) | (refine And.intro (fun h => absurd h (by decide)) (fun _ => ?_); conv => whnf) | (refine .eff (by first | exact cxOk _ _ | exact cxPOk _ _ _) ?_; conv => whnf))
          refine .one _ _ _ (fun _ => hre) (by repeat (first | exact .nil | (apply BorL.cons; first | exact lS rfl | exact lR rfl | exact lM rfl rfl | exact lL rfl | exact lX rfl | exact lN | exact lNl | exact lSm rfl | exact lIm rfl | exact lP rfl | exact lQ rfl))) (by first | exact .inl rfl | exact .inr (by repeat (first | exact flats_nil | refine flats_cons (by first | exact flat_val _ rfl | exact flat_row (fun _ => rfl) | exact flat_lst (fun _ => rfl)) ?_))) (by first | exact .inl rfl | exact .inr rfl) ?_
          conv => whnf
          repeat (first | (refine And.intro ⟨by omega, by omega⟩ ?_; conv => whnf) | (refine And.intro (by omega) (And.intro rfl ?_); conv => whnf) | (refine And.intro rfl ?_; conv => whnf) | (refine And.intro (fun _ => ⟨by omega, by omega⟩) ?_; conv => whnf) | (refine And.intro (fun _ => by omega) (And.intro rfl ?_); conv => whnf) | (refine And.intro ⟨(by first | omega | (simp; omega)), (by first | omega | (simp; omega))⟩ ?_; conv => whnf) | (refine Exists.intro _ (And.intro rfl (And.intro (by first | omega | (simp; omega)) (And.intro ⟨rfl, rfl, rfl, rfl, rfl⟩ ?_))); conv => whnf) | (refine And.intro ⟨rfl, rfl⟩ (And.intro (by first | omega | (simp; omega)) ?_); conv => whnf) | (refine Exists.intro _ (And.intro rfl ?_); conv => whnf) | (refine And.intro (fun _ => ?_) (fun h => absurd h (by decide)); conv => whnf) | (refine And.intro (fun h => absurd h (by decide)) (fun _ => ?_); conv => whnf) | (refine .eff (by first | exact cxOk _ _ | exact cxPOk _ _ _) ?_; conv => whnf))
          refine .one _ _ _ (fun _ => hre) (by repeat (first | exact .nil | (apply BorL.cons; first | exact lS rfl | exact lR rfl | exact lM rfl rfl | exact lL rfl | exact lX rfl | exact lN | exact lNl | exact lSm rfl | exact lIm rfl | exact lP rfl | exact lQ rfl))) (by first | exact .inl rfl | exact .inr (by repeat (first | exact flats_nil | refine flats_cons (by first | exact flat_val _ rfl | exact flat_row (fun _ => rfl) | exact flat_lst (fun _ => rfl)) ?_))) (by first | exact .inl rfl | exact .inr rfl) ?_
          conv => whnf
          repeat (first | (refine And.intro ⟨by omega, by omega⟩ ?_; conv => whnf) | (refine And.intro (by omega) (And.intro rfl ?_); conv => whnf) | (refine And.intro rfl ?_; conv => whnf) | (refine And.intro (fun _ => ⟨by omega, by omega⟩) ?_; conv => whnf) | (refine And.intro (fun _ => by omega) (And.intro rfl ?_); conv => whnf) | (refine And.intro ⟨(by first | omega | (simp; omega)), (by first | omega | (simp; omega))⟩ ?_; conv => whnf) | (refine Exists.intro _ (And.intro rfl (And.intro (by first | omega | (simp; omega)) (And.intro ⟨rfl, rfl, rfl, rfl, rfl⟩ ?_))); conv => whnf) | (refine And.intro ⟨rfl, rfl⟩ (And.intro (by first | omega | (simp; omega)) ?_); conv => whnf) | (refine Exists.intro _ (And.intro rfl ?_); conv => whnf) | (refine And.intro (fun _ => ?_) (fun h => absurd h (by decide)); conv => whnf) | (refine And.intro (fun h => absurd h (by decide)) (fun _ => ?_); conv => whnf) | (refine .eff (by first | exact cxOk _ _ | exact cxPOk _ _ _) ?_; conv => whnf))
          refine .one _ _ _ (fun _ => hre) (by repeat (first | exact .nil | (apply BorL.cons; first | exact lS rfl | exact lR rfl | exact lM rfl rfl | exact lL rfl | exact lX rfl | exact lN | exact lNl | exact lSm rfl | exact lIm rfl | exact lP rfl | exact lQ rfl))) (by first | exact .inl rfl | exact .inr (by repeat (first | exact flats_nil | refine flats_cons (by first | exact flat_val _ rfl | exact flat_row (fun _ => rfl) | exact flat_lst (fun _ => rfl)) ?_))) (by first | exact .inl rfl | exact .inr rfl) ?_
          conv => whnf
          repeat (first | (refine And.intro ⟨by omega, by omega⟩ ?_; conv => whnf) | (refine And.intro (by omega) (And.intro rfl ?_); conv => whnf) | (refine And.intro rfl ?_; conv => whnf) | (refine And.intro (fun _ => ⟨by omega, by omega⟩) ?_; conv => whnf) | (refine And.intro (fun _ => by omega) (And.intro rfl ?_); conv => whnf) | (refine And.intro ⟨(by first | omega | (simp; omega)), (by first | omega | (simp; omega))⟩ ?_; conv => whnf) | (refine Exists.intro _ (And.intro rfl (And.intro (by first | omega | (simp; omega)) (And.intro ⟨rfl, rfl, rfl, rfl, rfl⟩ ?_))); conv => whnf) | (refine And.intro ⟨rfl, rfl⟩ (And.intro (by first | omega | (simp; omega)) ?_); conv => whnf) | (refine Exists.intro _ (And.intro rfl ?_); conv => whnf) | (refine And.intro (fun _ => ?_) (fun h => absurd h (by decide)); conv => whnf) | (refine And.intro (fun h => absurd h (by decide)) (fun _ => ?_); conv => whnf) | (refine .eff (by first | exact cxOk _ _ | exact cxPOk _ _ _) ?_; conv => whnf))
          refine ⟨fun hz => ?_, fun hz => ?_⟩
          · exact absurd hz (once_bool o1 o2)
          conv => whnf
          refine ⟨fun hy => ?_, fun hy => ?_⟩
          · have hy' : decide (pe = 0) = true := hy
            rw [hpe] at hy'
            cases hy'
          · conv => whnf
            repeat (first | (refine And.intro ⟨by omega, by omega⟩ ?_; conv => whnf) | (refine And.intro (by omega) (And.intro rfl ?_); conv => whnf) | (refine And.intro rfl ?_; conv => whnf) | (refine And.intro (fun _ => ⟨by omega, by omega⟩) ?_; conv => whnf) | (refine And.intro (fun _ => by omega) (And.intro rfl ?_); conv => whnf) | (refine And.intro ⟨(by first | omega | (simp; omega)), (by first | omega | (simp; omega))⟩ ?_; conv => whnf) | (refine Exists.intro _ (And.intro rfl (And.intro (by first | omega | (simp; omega)) (And.intro ⟨rfl, rfl, rfl, rfl, rfl⟩ ?_))); conv => whnf) | (refine And.intro ⟨rfl, rfl⟩ (And.intro (by first | omega | (simp; omega)) ?_); conv => whnf) | (refine Exists.intro _ (And.intro rfl ?_); conv => whnf) | (refine And.intro (fun _ => ?_) (fun h => absurd h (by decide)); conv => whnf) | (refine And.intro (fun h => absurd h (by decide)) (fun _ => ?_); conv => whnf) | (refine .eff (by first | exact cxOk _ _ | exact cxPOk _ _ _) ?_; conv => whnf))
            refine up hit trivial ((wk_of [(0, .id 0)] rfl ⟨.base (.tree _ _ rfl rfl), .base (.tree _ _ rfl rfl), (by first | exact .base (.own _ _ rfl) | exact .base (.nilown _ rfl) | exact .base (.trunc _ _ _ rfl)), .base (.tree _ _ rfl rfl), trivial⟩ ⟨⟨_, rfl, (by first | exact .row _ _ _ _ _ _ _ rfl (hst.symm.trans hC'.symm) | exact .lstrow _ _ _ _ _ _ _ rfl (hst.symm.trans hC'.symm) | exact .nilrow _ _ _ _ _ (hst.symm.trans hC'.symm) | exact .truncrow _ _ _ _ _ _ _ _ rfl (by omega) (hst.symm.trans hC'.symm))⟩, trivial⟩))
  · conv => whnf
    rfl

end Go.Proofs.YtglalejjcfcfkaaDoor
