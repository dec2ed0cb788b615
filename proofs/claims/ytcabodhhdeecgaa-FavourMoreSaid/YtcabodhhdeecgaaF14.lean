import Derived.Test.YtcabodhhdeecgaaF9
import Derived.Test.YtcabodhhdeecgaaF13
namespace Go.Proofs.Ytcabodhhdeecgaa
open Go.Own Go.Proofs.Fav
set_option maxHeartbeats 4000000
set_option maxRecDepth 100000

theorem law_more (l : List J) (days : List Int) (hl : l.length ≤ 9223372036854775807) (fr to by8 : Int) (hfr : 0 ≤ fr ∧ fr ≤ 255) (hto : 0 ≤ to ∧ to ≤ 255) (hby : 0 ≤ by8 ∧ by8 ≤ 255) : APureV Try.prog 6 [encJs l, encIs days, .int .u8 fr, .int .u8 to, .int .u8 by8] (.bool true) := by
  have hf := few_ok l days 7 hl
  have hc := closure_ok l days hl
  refine apure_of (C := cx 210 [0, 1, 2, 3, 4, 10, 11, 12, 13, 14, 15, 16, 17, 18, 19, 20, 21, 22, 23, 24, 25, 26, 36, 45, 130, 134, 160, 167, 208]) (cxOk _ _) Try.func6 rfl (by decide) rfl (by exact Nat.le_of_ble_eq_true rfl) (by decide) ?_
  conv => whnf
  refine .one _ _ _ (fun _ => small_ok) (by repeat (first | exact .nil | (apply BorL.cons; first | exact lS rfl | exact lR rfl | exact lM rfl rfl | exact lL rfl | exact lX rfl | exact lN | exact lNl | exact lSm rfl | exact lIm rfl | exact lP rfl | exact lQ rfl | exact lB rfl rfl rfl))) (by first | exact .inl rfl | exact .inr (by repeat (first | exact flats_nil | refine flats_cons (by first | exact flat_val _ rfl | exact flat_row (fun _ => rfl) | exact flat_lst (fun _ => rfl)) ?_))) (by first | exact .inl rfl | exact .inr rfl) ?_
  conv => whnf
  repeat (first | (refine And.intro ⟨by omega, by omega⟩ ?_; conv => whnf) | (refine And.intro (by omega) (And.intro rfl ?_); conv => whnf) | (refine And.intro rfl ?_; conv => whnf) | (refine And.intro (fun _ => ⟨by omega, by omega⟩) ?_; conv => whnf) | (refine And.intro (fun _ => by omega) (And.intro rfl ?_); conv => whnf) | (refine And.intro ⟨(by first | omega | (simp; omega)), (by first | omega | (simp; omega))⟩ ?_; conv => whnf) | (refine Exists.intro _ (And.intro rfl (And.intro (by first | omega | (simp; omega)) (And.intro ⟨rfl, rfl, rfl, rfl, rfl⟩ ?_))); conv => whnf) | (refine And.intro ⟨rfl, rfl⟩ (And.intro (by first | omega | (simp; omega)) ?_); conv => whnf) | (refine Exists.intro _ (And.intro rfl ?_); conv => whnf) | (refine And.intro (fun _ => ?_) (fun h => absurd h (by decide)); conv => whnf) | (refine And.intro (fun h => absurd h (by decide)) (fun _ => ?_); conv => whnf) | (refine .quiet (by kernel_rfl) ?_; conv => whnf))
  refine .one _ _ _ (fun _ => hf) (by repeat (first | exact .nil | (apply BorL.cons; first | exact lS rfl | exact lR rfl | exact lM rfl rfl | exact lL rfl | exact lX rfl | exact lN | exact lNl | exact lSm rfl | exact lIm rfl | exact lP rfl | exact lQ rfl | exact lB rfl rfl rfl))) (by first | exact .inl rfl | exact .inr (by repeat (first | exact flats_nil | refine flats_cons (by first | exact flat_val _ rfl | exact flat_row (fun _ => rfl) | exact flat_lst (fun _ => rfl)) ?_))) (by first | exact .inl rfl | exact .inr rfl) ?_
  conv => whnf
  repeat (first | (refine And.intro ⟨by omega, by omega⟩ ?_; conv => whnf) | (refine And.intro (by omega) (And.intro rfl ?_); conv => whnf) | (refine And.intro rfl ?_; conv => whnf) | (refine And.intro (fun _ => ⟨by omega, by omega⟩) ?_; conv => whnf) | (refine And.intro (fun _ => by omega) (And.intro rfl ?_); conv => whnf) | (refine And.intro ⟨(by first | omega | (simp; omega)), (by first | omega | (simp; omega))⟩ ?_; conv => whnf) | (refine Exists.intro _ (And.intro rfl (And.intro (by first | omega | (simp; omega)) (And.intro ⟨rfl, rfl, rfl, rfl, rfl⟩ ?_))); conv => whnf) | (refine And.intro ⟨rfl, rfl⟩ (And.intro (by first | omega | (simp; omega)) ?_); conv => whnf) | (refine Exists.intro _ (And.intro rfl ?_); conv => whnf) | (refine And.intro (fun _ => ?_) (fun h => absurd h (by decide)); conv => whnf) | (refine And.intro (fun h => absurd h (by decide)) (fun _ => ?_); conv => whnf) | (refine .quiet (by kernel_rfl) ?_; conv => whnf))
  refine ⟨fun hF => ?_, fun hF => ?_⟩
  · conv => whnf
    rfl
  have hF0 : (!decide (Few l days 7) || decide ((l.length : Int) = 0)) = false := hF
  simp only [Bool.or_eq_false_iff, Bool.not_eq_false', decide_eq_true_eq, decide_eq_false_iff_not] at hF0
  obtain ⟨hF', hn0⟩ := hF0
  have hn := hF'.len
  by_cases hE : errE l days = 0
  · rw [if_pos hE] at hc
    obtain ⟨hR, hO, hK⟩ := right_err hE
    have hst := stp_of hR
    have hod := okDays_of hR
    have hdl := hR.same
    have hAl := clos_len l days (sc days)
    have hAg := fun i (hi : i < l.length) => clos_get (days := days) (st := sc days) hi
    have hHl := fun i => held_len (st := sc days) hR i
    obtain ⟨i, hi, hit⟩ : ∃ i : Nat, fr.tmod l.length = (i : Int) ∧ i < l.length := by
      have h1 := Int.tmod_nonneg (l.length : Int) hfr.1
      have h2 := Int.tmod_lt_of_pos fr (b := (l.length : Int)) (by omega)
      exact ⟨(fr.tmod l.length).toNat, by omega, by omega⟩
    obtain ⟨k, hk, hkt⟩ : ∃ i : Nat, to.tmod l.length = (i : Int) ∧ i < l.length := by
      have h1 := Int.tmod_nonneg (l.length : Int) hto.1
      have h2 := Int.tmod_lt_of_pos to (b := (l.length : Int)) (by omega)
      exact ⟨(to.tmod l.length).toNat, by omega, by omega⟩
    have hei : (i : Int).toNat = i := Int.toNat_natCast i
    have hek : (k : Int).toNat = k := Int.toNat_natCast k
    have h6 := (hF'.each i hit).fav
    conv => whnf
    refine .one _ _ _ (fun _ => hc) (by repeat (first | exact .nil | (apply BorL.cons; first | exact lS rfl | exact lR rfl | exact lM rfl rfl | exact lL rfl | exact lX rfl | exact lN | exact lNl | exact lSm rfl | exact lIm rfl | exact lP rfl | exact lQ rfl | exact lB rfl rfl rfl))) (by first | exact .inl rfl | exact .inr (by repeat (first | exact flats_nil | refine flats_cons (by first | exact flat_val _ rfl | exact flat_row (fun _ => rfl) | exact flat_lst (fun _ => rfl)) ?_))) (by first | exact .inl rfl | exact .inr rfl) ?_
    conv => whnf
    repeat (first | (refine And.intro ⟨by omega, by omega⟩ ?_; conv => whnf) | (refine And.intro (by omega) (And.intro rfl ?_); conv => whnf) | (refine And.intro rfl ?_; conv => whnf) | (refine And.intro (fun _ => ⟨by omega, by omega⟩) ?_; conv => whnf) | (refine And.intro (fun _ => by omega) (And.intro rfl ?_); conv => whnf) | (refine And.intro ⟨(by first | omega | (simp; omega)), (by first | omega | (simp; omega))⟩ ?_; conv => whnf) | (refine Exists.intro _ (And.intro rfl (And.intro (by first | omega | (simp; omega)) (And.intro ⟨rfl, rfl, rfl, rfl, rfl⟩ ?_))); conv => whnf) | (refine And.intro ⟨rfl, rfl⟩ (And.intro (by first | omega | (simp; omega)) ?_); conv => whnf) | (refine Exists.intro _ (And.intro rfl ?_); conv => whnf) | (refine And.intro (fun _ => ?_) (fun h => absurd h (by decide)); conv => whnf) | (refine And.intro (fun h => absurd h (by decide)) (fun _ => ?_); conv => whnf) | (refine .quiet (by kernel_rfl) ?_; conv => whnf))
    refine And.intro (by omega) ?_
    conv => whnf
    repeat (first | (refine And.intro ⟨by omega, by omega⟩ ?_; conv => whnf) | (refine And.intro (by omega) (And.intro rfl ?_); conv => whnf) | (refine And.intro rfl ?_; conv => whnf) | (refine And.intro (fun _ => ⟨by omega, by omega⟩) ?_; conv => whnf) | (refine And.intro (fun _ => by omega) (And.intro rfl ?_); conv => whnf) | (refine And.intro ⟨(by first | omega | (simp; omega)), (by first | omega | (simp; omega))⟩ ?_; conv => whnf) | (refine Exists.intro _ (And.intro rfl (And.intro (by first | omega | (simp; omega)) (And.intro ⟨rfl, rfl, rfl, rfl, rfl⟩ ?_))); conv => whnf) | (refine And.intro ⟨rfl, rfl⟩ (And.intro (by first | omega | (simp; omega)) ?_); conv => whnf) | (refine Exists.intro _ (And.intro rfl ?_); conv => whnf) | (refine And.intro (fun _ => ?_) (fun h => absurd h (by decide)); conv => whnf) | (refine And.intro (fun h => absurd h (by decide)) (fun _ => ?_); conv => whnf) | (refine .quiet (by kernel_rfl) ?_; conv => whnf))
    rw [hi, hk]
    refine And.intro ⟨rfl, rfl⟩ (And.intro (show (0 + l.length) * 304 ≤ 140737488355328 by omega) ?_)
    conv => whnf
    repeat (first | (refine And.intro ⟨by omega, by omega⟩ ?_; conv => whnf) | (refine And.intro (by omega) (And.intro rfl ?_); conv => whnf) | (refine And.intro rfl ?_; conv => whnf) | (refine And.intro (fun _ => ⟨by omega, by omega⟩) ?_; conv => whnf) | (refine And.intro (fun _ => by omega) (And.intro rfl ?_); conv => whnf) | (refine And.intro ⟨(by first | omega | (simp; omega)), (by first | omega | (simp; omega))⟩ ?_; conv => whnf) | (refine Exists.intro _ (And.intro rfl (And.intro (by first | omega | (simp; omega)) (And.intro ⟨rfl, rfl, rfl, rfl, rfl⟩ ?_))); conv => whnf) | (refine And.intro ⟨rfl, rfl⟩ (And.intro (by first | omega | (simp; omega)) ?_); conv => whnf) | (refine Exists.intro _ (And.intro rfl ?_); conv => whnf) | (refine And.intro (fun _ => ?_) (fun h => absurd h (by decide)); conv => whnf) | (refine And.intro (fun h => absurd h (by decide)) (fun _ => ?_); conv => whnf) | (refine .eff (by first | exact cxOk _ _ | exact cxPOk _ _ _) ?_; conv => whnf))
    rw [hei]
    refine And.intro ⟨rfl, rfl⟩ (And.intro (show (0 + (l.getD i j0).fav.length) * 16 ≤ 140737488355328 by omega) ?_)
    conv => whnf
    repeat (first | (refine And.intro ⟨by omega, by omega⟩ ?_; conv => whnf) | (refine And.intro (by omega) (And.intro rfl ?_); conv => whnf) | (refine And.intro rfl ?_; conv => whnf) | (refine And.intro (fun _ => ⟨by omega, by omega⟩) ?_; conv => whnf) | (refine And.intro (fun _ => by omega) (And.intro rfl ?_); conv => whnf) | (refine And.intro ⟨(by first | omega | (simp; omega)), (by first | omega | (simp; omega))⟩ ?_; conv => whnf) | (refine Exists.intro _ (And.intro rfl (And.intro (by first | omega | (simp; omega)) (And.intro ⟨rfl, rfl, rfl, rfl, rfl⟩ ?_))); conv => whnf) | (refine And.intro ⟨rfl, rfl⟩ (And.intro (by first | omega | (simp; omega)) ?_); conv => whnf) | (refine Exists.intro _ (And.intro rfl ?_); conv => whnf) | (refine And.intro (fun _ => ?_) (fun h => absurd h (by decide)); conv => whnf) | (refine And.intro (fun h => absurd h (by decide)) (fun _ => ?_); conv => whnf) | (refine .quiet (by kernel_rfl) ?_; conv => whnf))
    rw [hek]
    refine And.intro ⟨rfl, rfl⟩ (And.intro (show ((l.getD i j0).fav.length + 1) * 16 ≤ 140737488355328 by omega) ?_)
    conv => whnf
    refine ⟨(l.getD k j0).name, rfl, ?_⟩
    conv => whnf
    repeat (first | (refine And.intro ⟨by omega, by omega⟩ ?_; conv => whnf) | (refine And.intro (by omega) (And.intro rfl ?_); conv => whnf) | (refine And.intro rfl ?_; conv => whnf) | (refine And.intro (fun _ => ⟨by omega, by omega⟩) ?_; conv => whnf) | (refine And.intro (fun _ => by omega) (And.intro rfl ?_); conv => whnf) | (refine And.intro ⟨(by first | omega | (simp; omega)), (by first | omega | (simp; omega))⟩ ?_; conv => whnf) | (refine Exists.intro _ (And.intro rfl (And.intro (by first | omega | (simp; omega)) (And.intro ⟨rfl, rfl, rfl, rfl, rfl⟩ ?_))); conv => whnf) | (refine And.intro ⟨rfl, rfl⟩ (And.intro (by first | omega | (simp; omega)) ?_); conv => whnf) | (refine Exists.intro _ (And.intro rfl ?_); conv => whnf) | (refine And.intro (fun _ => ?_) (fun h => absurd h (by decide)); conv => whnf) | (refine And.intro (fun h => absurd h (by decide)) (fun _ => ?_); conv => whnf) | (refine .quiet (by kernel_rfl) ?_; conv => whnf))
    refine ⟨addFav (l.getD i j0) (l.getD k j0).name, rfl, (by rw [hei]; exact hit), ⟨rfl, rfl, (show 18 + 1 ≤ 25 by decide), rfl, rfl⟩, ?_⟩
    conv => whnf
    repeat (first | (refine And.intro ⟨by omega, by omega⟩ ?_; conv => whnf) | (refine And.intro (by omega) (And.intro rfl ?_); conv => whnf) | (refine And.intro rfl ?_; conv => whnf) | (refine And.intro (fun _ => ⟨by omega, by omega⟩) ?_; conv => whnf) | (refine And.intro (fun _ => by omega) (And.intro rfl ?_); conv => whnf) | (refine And.intro ⟨(by first | omega | (simp; omega)), (by first | omega | (simp; omega))⟩ ?_; conv => whnf) | (refine Exists.intro _ (And.intro rfl (And.intro (by first | omega | (simp; omega)) (And.intro ⟨rfl, rfl, rfl, rfl, rfl⟩ ?_))); conv => whnf) | (refine And.intro ⟨rfl, rfl⟩ (And.intro (by first | omega | (simp; omega)) ?_); conv => whnf) | (refine Exists.intro _ (And.intro rfl ?_); conv => whnf) | (refine And.intro (fun _ => ?_) (fun h => absurd h (by decide)); conv => whnf) | (refine And.intro (fun h => absurd h (by decide)) (fun _ => ?_); conv => whnf) | (refine .quiet (by kernel_rfl) ?_; conv => whnf))
    refine And.intro ⟨rfl, rfl⟩ (And.intro (show (0 + days.length) * 8 ≤ 140737488355328 by omega) ?_)
    conv => whnf
    repeat (first | (refine And.intro ⟨by omega, by omega⟩ ?_; conv => whnf) | (refine And.intro (by omega) (And.intro rfl ?_); conv => whnf) | (refine And.intro rfl ?_; conv => whnf) | (refine And.intro (fun _ => ⟨by omega, by omega⟩) ?_; conv => whnf) | (refine And.intro (fun _ => by omega) (And.intro rfl ?_); conv => whnf) | (refine And.intro ⟨(by first | omega | (simp; omega)), (by first | omega | (simp; omega))⟩ ?_; conv => whnf) | (refine Exists.intro _ (And.intro rfl (And.intro (by first | omega | (simp; omega)) (And.intro ⟨rfl, rfl, rfl, rfl, rfl⟩ ?_))); conv => whnf) | (refine And.intro ⟨rfl, rfl⟩ (And.intro (by first | omega | (simp; omega)) ?_); conv => whnf) | (refine Exists.intro _ (And.intro rfl ?_); conv => whnf) | (refine And.intro (fun _ => ?_) (fun h => absurd h (by decide)); conv => whnf) | (refine And.intro (fun h => absurd h (by decide)) (fun _ => ?_); conv => whnf) | (refine .quiet (by kernel_rfl) ?_; conv => whnf))
    rw [hek]
    have hdk := (right_of hR hkt).1
    refine And.intro ⟨by omega, by omega⟩ ?_
    conv => whnf
    repeat (first | (refine And.intro ⟨by omega, by omega⟩ ?_; conv => whnf) | (refine And.intro (by omega) (And.intro rfl ?_); conv => whnf) | (refine And.intro rfl ?_; conv => whnf) | (refine And.intro (fun _ => ⟨by omega, by omega⟩) ?_; conv => whnf) | (refine And.intro (fun _ => by omega) (And.intro rfl ?_); conv => whnf) | (refine And.intro ⟨(by first | omega | (simp; omega)), (by first | omega | (simp; omega))⟩ ?_; conv => whnf) | (refine Exists.intro _ (And.intro rfl (And.intro (by first | omega | (simp; omega)) (And.intro ⟨rfl, rfl, rfl, rfl, rfl⟩ ?_))); conv => whnf) | (refine And.intro ⟨rfl, rfl⟩ (And.intro (by first | omega | (simp; omega)) ?_); conv => whnf) | (refine Exists.intro _ (And.intro rfl ?_); conv => whnf) | (refine And.intro (fun _ => ?_) (fun h => absurd h (by decide)); conv => whnf) | (refine And.intro (fun h => absurd h (by decide)) (fun _ => ?_); conv => whnf) | (refine .quiet (by kernel_rfl) ?_; conv => whnf))
    have hw := more_wider l i k
    have hEm := more_err hE hit hkt h6
    have hcm := closure_ok (moreL l i k) days (by rw [hw.len]; exact hl)
    rw [if_pos hEm] at hcm
    obtain ⟨hRm, _, _⟩ := right_err hEm
    obtain ⟨lt1, lt2, lt3⟩ := late_ok hR (k := k) (b := by8) hby.1
    have hEl := err_days hE lt1 lt2
    have hcl := closure_ok l (lateD days k by8) hl
    rw [if_pos hEl] at hcl
    obtain ⟨hRl, _, _⟩ := right_err hEl
    refine .raw _ _ rfl (fun h => by cases h) (giv_sem (hcm) (by repeat (first | exact .nil | (apply BorL.cons; first | exact lS rfl | exact lR rfl | exact lM rfl rfl | exact lL rfl | exact lX rfl | exact lN | exact lNl | exact lSm rfl | exact lIm rfl | exact lP rfl | exact lQ rfl | exact lB rfl rfl rfl)))) ?_
    rintro r rfl
    refine ⟨tn_ge _ _, ?_⟩
    conv => whnf
    repeat (first | (refine And.intro ⟨by omega, by omega⟩ ?_; conv => whnf) | (refine And.intro (by omega) (And.intro rfl ?_); conv => whnf) | (refine And.intro rfl ?_; conv => whnf) | (refine And.intro (fun _ => ⟨by omega, by omega⟩) ?_; conv => whnf) | (refine And.intro (fun _ => by omega) (And.intro rfl ?_); conv => whnf) | (refine And.intro ⟨(by first | omega | (simp; omega)), (by first | omega | (simp; omega))⟩ ?_; conv => whnf) | (refine Exists.intro _ (And.intro rfl (And.intro (by first | omega | (simp; omega)) (And.intro ⟨rfl, rfl, rfl, rfl, rfl⟩ ?_))); conv => whnf) | (refine And.intro ⟨rfl, rfl⟩ (And.intro (by first | omega | (simp; omega)) ?_); conv => whnf) | (refine Exists.intro _ (And.intro rfl ?_); conv => whnf) | (refine And.intro (fun _ => ?_) (fun h => absurd h (by decide)); conv => whnf) | (refine And.intro (fun h => absurd h (by decide)) (fun _ => ?_); conv => whnf) | (refine .quiet (by kernel_rfl) ?_; conv => whnf))
    refine .raw _ _ rfl (fun h => by cases h) (giv_sem (hcl) (by repeat (first | exact .nil | (apply BorL.cons; first | exact lS rfl | exact lR rfl | exact lM rfl rfl | exact lL rfl | exact lX rfl | exact lN | exact lNl | exact lSm rfl | exact lIm rfl | exact lP rfl | exact lQ rfl | exact lB rfl rfl rfl)))) ?_
    rintro r rfl
    refine ⟨tn_ge _ _, ?_⟩
    conv => whnf
    repeat (first | (refine And.intro ⟨by omega, by omega⟩ ?_; conv => whnf) | (refine And.intro (by omega) (And.intro rfl ?_); conv => whnf) | (refine And.intro rfl ?_; conv => whnf) | (refine And.intro (fun _ => ⟨by omega, by omega⟩) ?_; conv => whnf) | (refine And.intro (fun _ => by omega) (And.intro rfl ?_); conv => whnf) | (refine And.intro ⟨(by first | omega | (simp; omega)), (by first | omega | (simp; omega))⟩ ?_; conv => whnf) | (refine Exists.intro _ (And.intro rfl (And.intro (by first | omega | (simp; omega)) (And.intro ⟨rfl, rfl, rfl, rfl, rfl⟩ ?_))); conv => whnf) | (refine And.intro ⟨rfl, rfl⟩ (And.intro (by first | omega | (simp; omega)) ?_); conv => whnf) | (refine Exists.intro _ (And.intro rfl ?_); conv => whnf) | (refine And.intro (fun _ => ?_) (fun h => absurd h (by decide)); conv => whnf) | (refine And.intro (fun h => absurd h (by decide)) (fun _ => ?_); conv => whnf) | (refine .quiet (by kernel_rfl) ?_; conv => whnf))
    have hstm := stp_of hRm
    have hstl := stp_of hRl
    have hAlm := clos_len (moreL l i k) days (sc days)
    have hAll := clos_len l (lateD days k by8) (sc (lateD days k by8))
    have hAgm := fun i' (hi' : i' < (moreL l i k).length) => clos_get (days := days) (st := sc days) hi'
    have hAgl := fun i' (hi' : i' < l.length) => clos_get (l := l) (days := lateD days k by8) (st := sc (lateD days k by8)) hi'
    have hHlm := fun i' => held_len (st := sc days) hRm i'
    have hHll := fun i' => held_len (st := sc (lateD days k by8)) hRl i'
    have hwS := fun n kk (h : n < l.length) hS => wider_S hw hst (i := n) (k := kk) h hS
    have hlS := fun n kk (h : n < l.length) => late_S hst hstl lt3 (i := n) (k := kk) h
    have hodm := okDays_of hRm
    rw [hw.len] at hAlm hAgm hHlm
    have hcov := hw.cov
    have hml := hw.len
    generalize moreL l i k = lm at *
    generalize lateD days k by8 = dl at *
    generalize sc dl = stl at *
    generalize sc days = st at *
    generalize clos l days st = A at *
    generalize clos lm days st = Am at *
    generalize clos l dl stl = Al at *
    refine ⟨fun hx => ?_, fun hx => ?_⟩
    · have hx' : ((((!decide ((0 : Int) = 0) || !decide ((0 : Int) = 0)) || !decide ((A.length : Int) = l.length)) || !decide ((Am.length : Int) = l.length)) || !decide ((Al.length : Int) = l.length)) = true := hx
      rw [hAl, hAlm, hAll] at hx'
      simp at hx'
    conv => whnf
    refine loop_up (cxOk _ _) l.length (fun _ => True) (fun n => ⟨[(0, encJs l), (1, encIs days), (11, .bool true), (12, .own 0), (18, .own 1), (20, .own 2), (22, .int .i64 (n : Nat))], [(0, .row 33 1 encHs [] A), (1, .row 33 1 encHs [] Am), (2, .row 33 1 encHs [] Al)], 3⟩) trivial ((wk_of [(0, .id 0), (1, .id 9), (2, .id 10)] rfl ⟨.base (.tree _ _ rfl rfl), .base (.tree _ _ rfl rfl), .base (.tree _ _ rfl rfl), (by first | exact .base (.own _ _ rfl) | exact .base (.nilown _ rfl) | exact .base (.trunc _ _ _ rfl)), (by first | exact .base (.own _ _ rfl) | exact .base (.nilown _ rfl) | exact .base (.trunc _ _ _ rfl)), (by first | exact .base (.own _ _ rfl) | exact .base (.nilown _ rfl) | exact .base (.trunc _ _ _ rfl)), .base (.tree _ _ rfl rfl), trivial⟩ ⟨⟨_, rfl, (by first | exact .row _ _ _ _ _ _ _ rfl rfl | exact .lstrow _ _ _ _ _ _ _ rfl rfl | exact .nilrow _ _ _ _ _ rfl | exact .truncrow _ _ _ _ _ _ _ _ rfl (by omega) rfl)⟩, ⟨_, rfl, (by first | exact .row _ _ _ _ _ _ _ rfl rfl | exact .lstrow _ _ _ _ _ _ _ rfl rfl | exact .nilrow _ _ _ _ _ rfl | exact .truncrow _ _ _ _ _ _ _ _ rfl (by omega) rfl)⟩, ⟨_, rfl, (by first | exact .row _ _ _ _ _ _ _ rfl rfl | exact .lstrow _ _ _ _ _ _ _ rfl rfl | exact .nilrow _ _ _ _ _ rfl | exact .truncrow _ _ _ _ _ _ _ _ rfl (by omega) rfl)⟩, trivial⟩)) ?_
    intro n hnn _
    conv => whnf
    repeat (first | (refine And.intro ⟨by omega, by omega⟩ ?_; conv => whnf) | (refine And.intro (by omega) (And.intro rfl ?_); conv => whnf) | (refine And.intro rfl ?_; conv => whnf) | (refine And.intro (fun _ => ⟨by omega, by omega⟩) ?_; conv => whnf) | (refine And.intro (fun _ => by omega) (And.intro rfl ?_); conv => whnf) | (refine And.intro ⟨(by first | omega | (simp; omega)), (by first | omega | (simp; omega))⟩ ?_; conv => whnf) | (refine Exists.intro _ (And.intro rfl (And.intro (by first | omega | (simp; omega)) (And.intro ⟨rfl, rfl, rfl, rfl, rfl⟩ ?_))); conv => whnf) | (refine And.intro ⟨rfl, rfl⟩ (And.intro (by first | omega | (simp; omega)) ?_); conv => whnf) | (refine Exists.intro _ (And.intro rfl ?_); conv => whnf) | (refine And.intro (fun _ => ?_) (fun h => absurd h (by decide)); conv => whnf) | (refine And.intro (fun h => absurd h (by decide)) (fun _ => ?_); conv => whnf) | (refine .quiet (by kernel_rfl) ?_; conv => whnf))
    refine ⟨fun hd => ?_, fun hd => ?_⟩
    · have hnt : n < l.length := by
        have := of_decide_eq_true hd
        omega
      have hen : (n : Int).toNat = n := Int.toNat_natCast n
      have g0 := hAg n hnt
      have g1 := hAgm n hnt
      have g2 := hAgl n hnt
      have b0 := hHl n
      have b1 := hHlm n
      have b2 := hHll n
      have L1 : (held l days st n).length ≤ (held lm days st n).length := by
        have := heldTo_le (l := l) (l' := lm) (B := S l days st n) (B' := S lm days st n) (fun k => (hcov k).symm) l.length (fun kk _ h => (hwS n kk hnt h).1)
        unfold held
        rw [hml]
        exact this
      have L2 : (held l dl stl n).length = (held l days st n).length := Nat.le_antisymm
        (heldTo_le (l := l) (l' := l) (fun _ => rfl) l.length (fun kk _ h => ((hlS n kk hnt).1).1 h)) (heldTo_le (l := l) (l' := l) (fun _ => rfl) l.length (fun kk _ h => ((hlS n kk hnt).1).2 h))
      conv => whnf
      repeat (first | (refine And.intro ⟨by omega, by omega⟩ ?_; conv => whnf) | (refine And.intro (by omega) (And.intro rfl ?_); conv => whnf) | (refine And.intro rfl ?_; conv => whnf) | (refine And.intro (fun _ => ⟨by omega, by omega⟩) ?_; conv => whnf) | (refine And.intro (fun _ => by omega) (And.intro rfl ?_); conv => whnf) | (refine And.intro ⟨(by first | omega | (simp; omega)), (by first | omega | (simp; omega))⟩ ?_; conv => whnf) | (refine Exists.intro _ (And.intro rfl (And.intro (by first | omega | (simp; omega)) (And.intro ⟨rfl, rfl, rfl, rfl, rfl⟩ ?_))); conv => whnf) | (refine And.intro ⟨rfl, rfl⟩ (And.intro (by first | omega | (simp; omega)) ?_); conv => whnf) | (refine Exists.intro _ (And.intro rfl ?_); conv => whnf) | (refine And.intro (fun _ => ?_) (fun h => absurd h (by decide)); conv => whnf) | (refine And.intro (fun h => absurd h (by decide)) (fun _ => ?_); conv => whnf) | (refine .quiet (by kernel_rfl) ?_; conv => whnf))
      rw [hen, g0, g1, g2]
      refine ⟨fun hq => ?_, fun hq => ?_⟩
      · have hq' : (!decide (((held l dl stl n).length : Int) = (held l days st n).length) || decide (((held lm days st n).length : Int) < (held l days st n).length)) = true := hq
        simp at hq'
        omega
      have hsn := fun (x : HH) (hx : x ∈ held l days st n) => (show (0 ≤ sinceL (held lm days st n) x.iss x.cov ∧ sinceL (held lm days st n) x.iss x.cov ≤ x.since) ∧ x.since ≤ sinceL (held l dl stl n) x.iss x.cov by
        obtain ⟨h1, h2, h3, h4, h5⟩ := mem_held.1 hx
        obtain ⟨w1, w2⟩ := hwS n x.iss hnt h2
        obtain ⟨w3, w4⟩ := hlS n x.iss hnt
        rw [since_held (by rw [hml]; exact h1) (by rw [hcov]; exact h3), since_held h1 h3, dayOf_eq w1, dayOf_eq (w3.2 h2), h4]
        exact ⟨⟨(hodm _ (S_some hstm (by rw [hml]; exact hnt) w1).1).1, w2⟩, w4 h2⟩)
      generalize held l days st n = H0 at *
      conv => whnf
      refine loop_up (cxOk _ _) H0.length (fun _ => True) (fun m => ⟨[(0, encJs l), (1, encIs days), (11, .bool true), (12, .own 0), (18, .own 1), (20, .own 2), (22, .int .i64 (n : Nat)), (23, .int .i64 (m : Nat))], [(0, .row 33 1 encHs [] A), (1, .row 33 1 encHs [] Am), (2, .row 33 1 encHs [] Al)], 3⟩) trivial (wk_of [(0, .id 0), (1, .id 1), (2, .id 2)] rfl ⟨.base (.tree _ _ rfl rfl), .base (.tree _ _ rfl rfl), .base (.tree _ _ rfl rfl), (by first | exact .base (.own _ _ rfl) | exact .base (.nilown _ rfl) | exact .base (.trunc _ _ _ rfl)), (by first | exact .base (.own _ _ rfl) | exact .base (.nilown _ rfl) | exact .base (.trunc _ _ _ rfl)), (by first | exact .base (.own _ _ rfl) | exact .base (.nilown _ rfl) | exact .base (.trunc _ _ _ rfl)), .base (.tree _ _ rfl rfl), .base (.tree _ _ rfl rfl), trivial⟩ ⟨⟨_, rfl, (by first | exact .row _ _ _ _ _ _ _ rfl rfl | exact .lstrow _ _ _ _ _ _ _ rfl rfl | exact .nilrow _ _ _ _ _ rfl | exact .truncrow _ _ _ _ _ _ _ _ rfl (by omega) rfl)⟩, ⟨_, rfl, (by first | exact .row _ _ _ _ _ _ _ rfl rfl | exact .lstrow _ _ _ _ _ _ _ rfl rfl | exact .nilrow _ _ _ _ _ rfl | exact .truncrow _ _ _ _ _ _ _ _ rfl (by omega) rfl)⟩, ⟨_, rfl, (by first | exact .row _ _ _ _ _ _ _ rfl rfl | exact .lstrow _ _ _ _ _ _ _ rfl rfl | exact .nilrow _ _ _ _ _ rfl | exact .truncrow _ _ _ _ _ _ _ _ rfl (by omega) rfl)⟩, trivial⟩) ?_
      intro m hm _
      conv => whnf
      repeat (first | (refine And.intro ⟨by omega, by omega⟩ ?_; conv => whnf) | (refine And.intro (by omega) (And.intro rfl ?_); conv => whnf) | (refine And.intro rfl ?_; conv => whnf) | (refine And.intro (fun _ => ⟨by omega, by omega⟩) ?_; conv => whnf) | (refine And.intro (fun _ => by omega) (And.intro rfl ?_); conv => whnf) | (refine And.intro ⟨(by first | omega | (simp; omega)), (by first | omega | (simp; omega))⟩ ?_; conv => whnf) | (refine Exists.intro _ (And.intro rfl (And.intro (by first | omega | (simp; omega)) (And.intro ⟨rfl, rfl, rfl, rfl, rfl⟩ ?_))); conv => whnf) | (refine And.intro ⟨rfl, rfl⟩ (And.intro (by first | omega | (simp; omega)) ?_); conv => whnf) | (refine Exists.intro _ (And.intro rfl ?_); conv => whnf) | (refine And.intro (fun _ => ?_) (fun h => absurd h (by decide)); conv => whnf) | (refine And.intro (fun h => absurd h (by decide)) (fun _ => ?_); conv => whnf) | (refine .quiet (by kernel_rfl) ?_; conv => whnf))
      rw [hen, g0]
      refine ⟨fun hd2 => ?_, fun hd2 => ?_⟩
      · have hmt : m < H0.length := by
          have := of_decide_eq_true hd2
          omega
        have hem : (m : Int).toNat = m := Int.toNat_natCast m
        have hsx := hsn _ (fgetD_mem (d := h0) hmt)
        generalize hxq : H0.getD m h0 = x at *
        have s1 := since_ok (held lm days st n) x.iss x.cov (by omega)
        have s2 := since_ok (held l dl stl n) x.iss x.cov (by omega)
        rw [sinceZ_nat] at s1 s2
        conv => whnf
        repeat (first | (refine And.intro ⟨by omega, by omega⟩ ?_; conv => whnf) | (refine And.intro (by omega) (And.intro rfl ?_); conv => whnf) | (refine And.intro rfl ?_; conv => whnf) | (refine And.intro (fun _ => ⟨by omega, by omega⟩) ?_; conv => whnf) | (refine And.intro (fun _ => by omega) (And.intro rfl ?_); conv => whnf) | (refine And.intro ⟨(by first | omega | (simp; omega)), (by first | omega | (simp; omega))⟩ ?_; conv => whnf) | (refine Exists.intro _ (And.intro rfl (And.intro (by first | omega | (simp; omega)) (And.intro ⟨rfl, rfl, rfl, rfl, rfl⟩ ?_))); conv => whnf) | (refine And.intro ⟨rfl, rfl⟩ (And.intro (by first | omega | (simp; omega)) ?_); conv => whnf) | (refine Exists.intro _ (And.intro rfl ?_); conv => whnf) | (refine And.intro (fun _ => ?_) (fun h => absurd h (by decide)); conv => whnf) | (refine And.intro (fun h => absurd h (by decide)) (fun _ => ?_); conv => whnf) | (refine .quiet (by kernel_rfl) ?_; conv => whnf))
        rw [hen, g0]
        repeat (first | (refine And.intro ⟨by omega, by omega⟩ ?_; conv => whnf) | (refine And.intro (by omega) (And.intro rfl ?_); conv => whnf) | (refine And.intro rfl ?_; conv => whnf) | (refine And.intro (fun _ => ⟨by omega, by omega⟩) ?_; conv => whnf) | (refine And.intro (fun _ => by omega) (And.intro rfl ?_); conv => whnf) | (refine And.intro ⟨(by first | omega | (simp; omega)), (by first | omega | (simp; omega))⟩ ?_; conv => whnf) | (refine Exists.intro _ (And.intro rfl (And.intro (by first | omega | (simp; omega)) (And.intro ⟨rfl, rfl, rfl, rfl, rfl⟩ ?_))); conv => whnf) | (refine And.intro ⟨rfl, rfl⟩ (And.intro (by first | omega | (simp; omega)) ?_); conv => whnf) | (refine Exists.intro _ (And.intro rfl ?_); conv => whnf) | (refine And.intro (fun _ => ?_) (fun h => absurd h (by decide)); conv => whnf) | (refine And.intro (fun h => absurd h (by decide)) (fun _ => ?_); conv => whnf) | (refine .quiet (by kernel_rfl) ?_; conv => whnf))
        rw [hem, hxq]
        repeat (first | (refine And.intro ⟨by omega, by omega⟩ ?_; conv => whnf) | (refine And.intro (by omega) (And.intro rfl ?_); conv => whnf) | (refine And.intro rfl ?_; conv => whnf) | (refine And.intro (fun _ => ⟨by omega, by omega⟩) ?_; conv => whnf) | (refine And.intro (fun _ => by omega) (And.intro rfl ?_); conv => whnf) | (refine And.intro ⟨(by first | omega | (simp; omega)), (by first | omega | (simp; omega))⟩ ?_; conv => whnf) | (refine Exists.intro _ (And.intro rfl (And.intro (by first | omega | (simp; omega)) (And.intro ⟨rfl, rfl, rfl, rfl, rfl⟩ ?_))); conv => whnf) | (refine And.intro ⟨rfl, rfl⟩ (And.intro (by first | omega | (simp; omega)) ?_); conv => whnf) | (refine Exists.intro _ (And.intro rfl ?_); conv => whnf) | (refine And.intro (fun _ => ?_) (fun h => absurd h (by decide)); conv => whnf) | (refine And.intro (fun h => absurd h (by decide)) (fun _ => ?_); conv => whnf) | (refine .quiet (by kernel_rfl) ?_; conv => whnf))
        rw [hen, g1]
        refine .mk _ _ _ _ (fun _ => s1) (by repeat (first | exact .nil | (apply BorL.cons; first | exact lS rfl | exact lR rfl | exact lM rfl rfl | exact lL rfl | exact lX rfl | exact lN | exact lNl | exact lSm rfl | exact lIm rfl | exact lP rfl | exact lQ rfl | exact lB rfl rfl rfl))) rfl ?_
        conv => whnf
        repeat (first | (refine And.intro ⟨by omega, by omega⟩ ?_; conv => whnf) | (refine And.intro (by omega) (And.intro rfl ?_); conv => whnf) | (refine And.intro rfl ?_; conv => whnf) | (refine And.intro (fun _ => ⟨by omega, by omega⟩) ?_; conv => whnf) | (refine And.intro (fun _ => by omega) (And.intro rfl ?_); conv => whnf) | (refine And.intro ⟨(by first | omega | (simp; omega)), (by first | omega | (simp; omega))⟩ ?_; conv => whnf) | (refine Exists.intro _ (And.intro rfl (And.intro (by first | omega | (simp; omega)) (And.intro ⟨rfl, rfl, rfl, rfl, rfl⟩ ?_))); conv => whnf) | (refine And.intro ⟨rfl, rfl⟩ (And.intro (by first | omega | (simp; omega)) ?_); conv => whnf) | (refine Exists.intro _ (And.intro rfl ?_); conv => whnf) | (refine And.intro (fun _ => ?_) (fun h => absurd h (by decide)); conv => whnf) | (refine And.intro (fun h => absurd h (by decide)) (fun _ => ?_); conv => whnf) | (refine .quiet (by kernel_rfl) ?_; conv => whnf))
        rw [hen, g2]
        refine .mk _ _ _ _ (fun _ => s2) (by repeat (first | exact .nil | (apply BorL.cons; first | exact lS rfl | exact lR rfl | exact lM rfl rfl | exact lL rfl | exact lX rfl | exact lN | exact lNl | exact lSm rfl | exact lIm rfl | exact lP rfl | exact lQ rfl | exact lB rfl rfl rfl))) rfl ?_
        conv => whnf
        repeat (first | (refine And.intro ⟨by omega, by omega⟩ ?_; conv => whnf) | (refine And.intro (by omega) (And.intro rfl ?_); conv => whnf) | (refine And.intro rfl ?_; conv => whnf) | (refine And.intro (fun _ => ⟨by omega, by omega⟩) ?_; conv => whnf) | (refine And.intro (fun _ => by omega) (And.intro rfl ?_); conv => whnf) | (refine And.intro ⟨(by first | omega | (simp; omega)), (by first | omega | (simp; omega))⟩ ?_; conv => whnf) | (refine Exists.intro _ (And.intro rfl (And.intro (by first | omega | (simp; omega)) (And.intro ⟨rfl, rfl, rfl, rfl, rfl⟩ ?_))); conv => whnf) | (refine And.intro ⟨rfl, rfl⟩ (And.intro (by first | omega | (simp; omega)) ?_); conv => whnf) | (refine Exists.intro _ (And.intro rfl ?_); conv => whnf) | (refine And.intro (fun _ => ?_) (fun h => absurd h (by decide)); conv => whnf) | (refine And.intro (fun h => absurd h (by decide)) (fun _ => ?_); conv => whnf) | (refine .quiet (by kernel_rfl) ?_; conv => whnf))
        refine ⟨fun hz => ?_, fun hz => ?_⟩
        · have hz' : ((decide (sinceL (held lm days st n) x.iss x.cov < 0) || decide (x.since < sinceL (held lm days st n) x.iss x.cov)) || decide (sinceL (held l dl stl n) x.iss x.cov < x.since)) = true := hz
          simp only [Bool.or_eq_true, decide_eq_true_eq] at hz'
          omega
        · conv => whnf
          repeat (first | (refine And.intro ⟨by omega, by omega⟩ ?_; conv => whnf) | (refine And.intro (by omega) (And.intro rfl ?_); conv => whnf) | (refine And.intro rfl ?_; conv => whnf) | (refine And.intro (fun _ => ⟨by omega, by omega⟩) ?_; conv => whnf) | (refine And.intro (fun _ => by omega) (And.intro rfl ?_); conv => whnf) | (refine And.intro ⟨(by first | omega | (simp; omega)), (by first | omega | (simp; omega))⟩ ?_; conv => whnf) | (refine Exists.intro _ (And.intro rfl (And.intro (by first | omega | (simp; omega)) (And.intro ⟨rfl, rfl, rfl, rfl, rfl⟩ ?_))); conv => whnf) | (refine And.intro ⟨rfl, rfl⟩ (And.intro (by first | omega | (simp; omega)) ?_); conv => whnf) | (refine Exists.intro _ (And.intro rfl ?_); conv => whnf) | (refine And.intro (fun _ => ?_) (fun h => absurd h (by decide)); conv => whnf) | (refine And.intro (fun h => absurd h (by decide)) (fun _ => ?_); conv => whnf) | (refine .quiet (by kernel_rfl) ?_; conv => whnf))
          refine up hmt trivial (wk_of [(0, .id 0), (1, .id 1), (2, .id 2)] rfl ⟨.base (.tree _ _ rfl rfl), .base (.tree _ _ rfl rfl), .base (.tree _ _ rfl rfl), (by first | exact .base (.own _ _ rfl) | exact .base (.nilown _ rfl) | exact .base (.trunc _ _ _ rfl)), (by first | exact .base (.own _ _ rfl) | exact .base (.nilown _ rfl) | exact .base (.trunc _ _ _ rfl)), (by first | exact .base (.own _ _ rfl) | exact .base (.nilown _ rfl) | exact .base (.trunc _ _ _ rfl)), .base (.tree _ _ rfl rfl), .base (.tree _ _ rfl rfl), trivial⟩ ⟨⟨_, rfl, (by first | exact .row _ _ _ _ _ _ _ rfl rfl | exact .lstrow _ _ _ _ _ _ _ rfl rfl | exact .nilrow _ _ _ _ _ rfl | exact .truncrow _ _ _ _ _ _ _ _ rfl (by omega) rfl)⟩, ⟨_, rfl, (by first | exact .row _ _ _ _ _ _ _ rfl rfl | exact .lstrow _ _ _ _ _ _ _ rfl rfl | exact .nilrow _ _ _ _ _ rfl | exact .truncrow _ _ _ _ _ _ _ _ rfl (by omega) rfl)⟩, ⟨_, rfl, (by first | exact .row _ _ _ _ _ _ _ rfl rfl | exact .lstrow _ _ _ _ _ _ _ rfl rfl | exact .nilrow _ _ _ _ _ rfl | exact .truncrow _ _ _ _ _ _ _ _ rfl (by omega) rfl)⟩, trivial⟩)
      · conv => whnf
        repeat (first | (refine And.intro ⟨by omega, by omega⟩ ?_; conv => whnf) | (refine And.intro (by omega) (And.intro rfl ?_); conv => whnf) | (refine And.intro rfl ?_; conv => whnf) | (refine And.intro (fun _ => ⟨by omega, by omega⟩) ?_; conv => whnf) | (refine And.intro (fun _ => by omega) (And.intro rfl ?_); conv => whnf) | (refine And.intro ⟨(by first | omega | (simp; omega)), (by first | omega | (simp; omega))⟩ ?_; conv => whnf) | (refine Exists.intro _ (And.intro rfl (And.intro (by first | omega | (simp; omega)) (And.intro ⟨rfl, rfl, rfl, rfl, rfl⟩ ?_))); conv => whnf) | (refine And.intro ⟨rfl, rfl⟩ (And.intro (by first | omega | (simp; omega)) ?_); conv => whnf) | (refine Exists.intro _ (And.intro rfl ?_); conv => whnf) | (refine And.intro (fun _ => ?_) (fun h => absurd h (by decide)); conv => whnf) | (refine And.intro (fun h => absurd h (by decide)) (fun _ => ?_); conv => whnf) | (refine .quiet (by kernel_rfl) ?_; conv => whnf))
        refine up hnt trivial (wk_of [(0, .id 0), (1, .id 1), (2, .id 2)] rfl ⟨.base (.tree _ _ rfl rfl), .base (.tree _ _ rfl rfl), .base (.tree _ _ rfl rfl), (by first | exact .base (.own _ _ rfl) | exact .base (.nilown _ rfl) | exact .base (.trunc _ _ _ rfl)), (by first | exact .base (.own _ _ rfl) | exact .base (.nilown _ rfl) | exact .base (.trunc _ _ _ rfl)), (by first | exact .base (.own _ _ rfl) | exact .base (.nilown _ rfl) | exact .base (.trunc _ _ _ rfl)), .base (.tree _ _ rfl rfl), trivial⟩ ⟨⟨_, rfl, (by first | exact .row _ _ _ _ _ _ _ rfl rfl | exact .lstrow _ _ _ _ _ _ _ rfl rfl | exact .nilrow _ _ _ _ _ rfl | exact .truncrow _ _ _ _ _ _ _ _ rfl (by omega) rfl)⟩, ⟨_, rfl, (by first | exact .row _ _ _ _ _ _ _ rfl rfl | exact .lstrow _ _ _ _ _ _ _ rfl rfl | exact .nilrow _ _ _ _ _ rfl | exact .truncrow _ _ _ _ _ _ _ _ rfl (by omega) rfl)⟩, ⟨_, rfl, (by first | exact .row _ _ _ _ _ _ _ rfl rfl | exact .lstrow _ _ _ _ _ _ _ rfl rfl | exact .nilrow _ _ _ _ _ rfl | exact .truncrow _ _ _ _ _ _ _ _ rfl (by omega) rfl)⟩, trivial⟩)
    · conv => whnf
      rfl
  · rw [if_neg hE] at hc
    conv => whnf
    refine .one _ _ _ (fun _ => hc) (by repeat (first | exact .nil | (apply BorL.cons; first | exact lS rfl | exact lR rfl | exact lM rfl rfl | exact lL rfl | exact lX rfl | exact lN | exact lNl | exact lSm rfl | exact lIm rfl | exact lP rfl | exact lQ rfl | exact lB rfl rfl rfl))) (by first | exact .inl rfl | exact .inr (by repeat (first | exact flats_nil | refine flats_cons (by first | exact flat_val _ rfl | exact flat_row (fun _ => rfl) | exact flat_lst (fun _ => rfl)) ?_))) (by first | exact .inl rfl | exact .inr rfl) ?_
    conv => whnf
    repeat (first | (refine And.intro ⟨by omega, by omega⟩ ?_; conv => whnf) | (refine And.intro (by omega) (And.intro rfl ?_); conv => whnf) | (refine And.intro rfl ?_; conv => whnf) | (refine And.intro (fun _ => ⟨by omega, by omega⟩) ?_; conv => whnf) | (refine And.intro (fun _ => by omega) (And.intro rfl ?_); conv => whnf) | (refine And.intro ⟨(by first | omega | (simp; omega)), (by first | omega | (simp; omega))⟩ ?_; conv => whnf) | (refine Exists.intro _ (And.intro rfl (And.intro (by first | omega | (simp; omega)) (And.intro ⟨rfl, rfl, rfl, rfl, rfl⟩ ?_))); conv => whnf) | (refine And.intro ⟨rfl, rfl⟩ (And.intro (by first | omega | (simp; omega)) ?_); conv => whnf) | (refine Exists.intro _ (And.intro rfl ?_); conv => whnf) | (refine And.intro (fun _ => ?_) (fun h => absurd h (by decide)); conv => whnf) | (refine And.intro (fun h => absurd h (by decide)) (fun _ => ?_); conv => whnf) | (refine .quiet (by kernel_rfl) ?_; conv => whnf))
    refine ⟨fun hx => ?_, fun hx => ?_⟩
    · conv => whnf
      rfl
    · exact (hE (by simpa using hx)).elim

end Go.Proofs.Ytcabodhhdeecgaa
