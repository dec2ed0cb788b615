import Derived.Test.YtjlnaogechkjdaaDoorCb
import Derived.Test.YtjlnaogechkjdaaDoorLc
import Derived.Lay
import Derived.Lib.LaidTab
import Derived.LaidLaws
import Derived.KernelRfl
import Derived.Test.YtjlnaogechkjdaaDoorRows
namespace Go.Proofs.YtjlnaogechkjdaaDoor
open Go.Own
set_option maxHeartbeats 4000000
set_option maxRecDepth 100000

/-! ### AgreeTells -/
theorem law_tells (a b : List Ent) (fl : List Msg) (l : List Seal) (s t : Sgn) (ha : a.length ≤ 9223372036854775807) (hb : b.length ≤ 9223372036854775807) (hfl : fl.length ≤ 9223372036854775807) (hl : l.length ≤ 9223372036854775807)
    (hs : s.text.length ≤ 9223372036854775807) (ht : t.text.length ≤ 9223372036854775807) : APureV Tryd.prog 3 [encEs a, encEs b, encMs fl, encSls l, encSg s, encSg t] (.bool true) := by
  have f1 := few45_ok a b fl 20
  have f2 := few44_ok l hl 12 (by decide) (by decide)
  refine apure_of (C := cx 124 [0, 1, 2, 3, 4, 5, 10, 11, 12, 13, 14, 15, 16, 17, 18, 19, 20, 21, 22, 45, 77, 81, 85]) (cxOk _ _) Tryd.func3 rfl (by decide) rfl (by exact Nat.le_of_ble_eq_true rfl) (by decide) ?_
  conv => whnf
  refine .one _ _ _ (fun _ => small_ok) (by repeat (first | exact .nil | (apply BorL.cons; first | exact lS rfl | exact lR rfl | exact lM rfl rfl | exact lL rfl | exact lX rfl | exact lN | exact lNl | exact lSm rfl | exact lIm rfl | exact lGm rfl | exact lP rfl | exact lQ rfl | exact lB rfl rfl rfl))) (by first | exact .inl rfl | exact .inr (by repeat (first | exact flats_nil | refine flats_cons (by first | exact flat_val _ rfl | exact flat_row (fun _ => rfl) | exact flat_lst (fun _ => rfl)) ?_))) (by first | exact .inr rfl | exact .inl rfl) ?_
  conv => whnf
  refine .one _ _ _ (fun _ => f1) (by repeat (first | exact .nil | (apply BorL.cons; first | exact lS rfl | exact lR rfl | exact lM rfl rfl | exact lL rfl | exact lX rfl | exact lN | exact lNl | exact lSm rfl | exact lIm rfl | exact lGm rfl | exact lP rfl | exact lQ rfl | exact lB rfl rfl rfl))) (by first | exact .inl rfl | exact .inr (by repeat (first | exact flats_nil | refine flats_cons (by first | exact flat_val _ rfl | exact flat_row (fun _ => rfl) | exact flat_lst (fun _ => rfl)) ?_))) (by first | exact .inr rfl | exact .inl rfl) ?_
  conv => whnf
  refine .one _ _ _ (fun _ => f2) (by repeat (first | exact .nil | (apply BorL.cons; first | exact lS rfl | exact lR rfl | exact lM rfl rfl | exact lL rfl | exact lX rfl | exact lN | exact lNl | exact lSm rfl | exact lIm rfl | exact lGm rfl | exact lP rfl | exact lQ rfl | exact lB rfl rfl rfl))) (by first | exact .inl rfl | exact .inr (by repeat (first | exact flats_nil | refine flats_cons (by first | exact flat_val _ rfl | exact flat_row (fun _ => rfl) | exact flat_lst (fun _ => rfl)) ?_))) (by first | exact .inr rfl | exact .inl rfl) ?_
  conv => whnf
  refine ⟨fun hc => ?_, fun hc => ?_⟩
  · conv => whnf
    rfl
  have hc' : few45 a b fl 20 = true ∧ few44 l 12 = true ∧ s.text.length ≤ 200 ∧ t.text.length ≤ 200 := by
    simp only [Bool.or_eq_false_iff, Bool.not_eq_false', gt_iff_lt, decide_eq_false_iff_not] at hc
    obtain ⟨⟨⟨h1, h2⟩, h3⟩, h4⟩ := hc
    exact ⟨h1, h2, by omega, by omega⟩
  obtain ⟨h1, h2, h3, h4⟩ := hc'
  unfold few45 at h1
  unfold few44 at h2
  simp only [Bool.and_eq_true, decide_eq_true_eq] at h1 h2
  have hla : a.length ≤ 20 := by omega
  have hlb : b.length ≤ 20 := by omega
  have hll : l.length ≤ 12 := by omega
  have cmp := compare_ok a b fl hla hlb hfl
  have qcmp := qcompare_ok a b fl hla hlb hfl
  rw [← ok_one] at qcmp
  have hsg := fun k x => sign_ok (sgL (l.take k)) (by have := sgL_len (l.take k); rw [List.length_take] at this; omega) (Seal.key x) x.text
  have hqsg := fun k x => qsign_ok (sgL (l.take k)) (by have := sgL_len (l.take k); rw [List.length_take] at this; omega) (Seal.key x) x.text
  have hcv := convict_ok (sgL l) s t (by omega) (by omega)
  have hqcv := qconvict_ok (sgL l) s t (by omega) (by omega)
  rw [conv_one (sgL_nodup l)] at hcv
  cases hok : okC a b fl with
  | false =>
    rw [if_neg (by rw [hok]; exact Bool.noConfusion)] at cmp qcmp
    have sm := same_ok [] [] (by decide) (by decide)
    rw [decide_eq_true rfl] at sm
    conv => whnf
    refine .one _ _ _ (fun _ => cmp) (by repeat (first | exact .nil | (apply BorL.cons; first | exact lS rfl | exact lR rfl | exact lM rfl rfl | exact lL rfl | exact lX rfl | exact lN | exact lNl | exact lSm rfl | exact lIm rfl | exact lGm rfl | exact lP rfl | exact lQ rfl | exact lB rfl rfl rfl))) (by first | exact .inl rfl | exact .inr (by repeat (first | exact flats_nil | refine flats_cons (by first | exact flat_val _ rfl | exact flat_row (fun _ => rfl) | exact flat_lst (fun _ => rfl)) ?_))) (by first | exact .inr rfl | exact .inl rfl) ?_
    conv => whnf
    refine .one _ _ _ (fun _ => qcmp) (by repeat (first | exact .nil | (apply BorL.cons; first | exact lS rfl | exact lR rfl | exact lM rfl rfl | exact lL rfl | exact lX rfl | exact lN | exact lNl | exact lSm rfl | exact lIm rfl | exact lGm rfl | exact lP rfl | exact lQ rfl | exact lB rfl rfl rfl))) (by first | exact .inl rfl | exact .inr (by repeat (first | exact flats_nil | refine flats_cons (by first | exact flat_val _ rfl | exact flat_row (fun _ => rfl) | exact flat_lst (fun _ => rfl)) ?_))) (by first | exact .inr rfl | exact .inl rfl) ?_
    conv => whnf
    refine .one _ _ _ (fun _ => sm) (by repeat (first | exact .nil | (apply BorL.cons; first | exact lS rfl | exact lR rfl | exact lM rfl rfl | exact lL rfl | exact lX rfl | exact lN | exact lNl | exact lSm rfl | exact lIm rfl | exact lGm rfl | exact lP rfl | exact lQ rfl | exact lB rfl rfl rfl))) (by first | exact .inl rfl | exact .inr (by repeat (first | exact flats_nil | refine flats_cons (by first | exact flat_val _ rfl | exact flat_row (fun _ => rfl) | exact flat_lst (fun _ => rfl)) ?_))) (by first | exact .inr rfl | exact .inl rfl) ?_
    conv => whnf
    refine .one _ _ _ (fun _ => sm) (by repeat (first | exact .nil | (apply BorL.cons; first | exact lS rfl | exact lR rfl | exact lM rfl rfl | exact lL rfl | exact lX rfl | exact lN | exact lNl | exact lSm rfl | exact lIm rfl | exact lGm rfl | exact lP rfl | exact lQ rfl | exact lB rfl rfl rfl))) (by first | exact .inl rfl | exact .inr (by repeat (first | exact flats_nil | refine flats_cons (by first | exact flat_val _ rfl | exact flat_row (fun _ => rfl) | exact flat_lst (fun _ => rfl)) ?_))) (by first | exact .inr rfl | exact .inl rfl) ?_
    conv => whnf
    refine And.intro (fun h => absurd h (by decide)) (fun _ => ?_); conv => whnf
    refine .raw [] _ rfl (fun _ => ⟨⟨_, [], _, _⟩, fun r' => Iff.rfl, rfl⟩) (rio_one (new_ok) [] rfl rfl rfl (by repeat (first | exact trivial | refine And.intro (by first | exact .refl _ | exact .newgmap _ _ _ _ _ _ _ rfl rfl | exact .newimap _ _ _ _ _ _ _ rfl rfl | exact .smap _ _ _ _ _ _ rfl rfl) ?_)) rfl) ?_
    rintro _ rfl
    refine ⟨Nat.le_add_right _ _, ?_⟩
    conv => whnf
    refine .raw [] _ rfl (fun _ => ⟨⟨_, [], _, _⟩, fun r' => Iff.rfl, rfl⟩) (rio_one (qnew_ok) [] rfl rfl rfl (by repeat (first | exact trivial | refine And.intro (by first | exact .refl _ | exact .newgmap _ _ _ _ _ _ _ rfl rfl | exact .newimap _ _ _ _ _ _ _ rfl rfl | exact .smap _ _ _ _ _ _ rfl rfl) ?_)) rfl) ?_
    rintro _ rfl
    refine ⟨Nat.le_add_right _ _, ?_⟩
    conv => whnf
    refine And.intro (fun h => absurd h (by decide)) (fun _ => ?_); conv => whnf
    refine loop_up (cxOk _ _) l.length (fun _ => True) (fun k => ⟨[(3, encSls l), (10, .ptr 5 0), (11, .ptr 6 0), (13, .bool true), (20, .ptr 0 0), (21, .ptr 3 0), (22, .int .i64 (k : Nat))], [(0, .cells 77 [.own 2, .map 1]), (1, .gmap shS encI 0 (marksM (sgL (l.take k)))), (2, .row 40 2 encSl s0 (sgL (l.take k))), (3, .cells 79 [.own 4]), (4, .row 40 2 encSl s0 (sgL (l.take k))), (5, .cells 26 [.int .i64 s.key, .str s.text, .int .i64 s.mark]), (6, .cells 26 [.int .i64 t.key, .str t.text, .int .i64 t.mark])], 7⟩) trivial ((wk_of [(0, .id 2), (1, .id 3), (2, .id 4), (3, .id 5), (4, .id 6), (5, .id 0), (6, .id 1)] rfl ⟨.base (.tree _ _ rfl rfl), .base (.ptr _ _ _ rfl), .base (.ptr _ _ _ rfl), .base (.tree _ _ rfl rfl), .base (.ptr _ _ _ rfl), .base (.ptr _ _ _ rfl), .base (.tree _ _ rfl rfl), trivial⟩ ⟨⟨_, rfl, .cells _ _ _ _ rfl (by repeat (first | exact .nil | refine .cons (by first | exact .base (.tree _ _ rfl rfl) | exact .base (.own _ _ rfl) | exact .base (.ptr _ _ _ rfl) | exact .base (.map _ _ rfl) | exact .base (.nilown _ rfl) | exact .fn _ _ _ _ _ .nil (by repeat (first | exact .nil | refine .cons (by exact .ptr _ _ _ rfl) ?_))) ?_)) rfl⟩, ⟨_, rfl, (by first | exact .gmap _ _ _ _ _ _ rfl rfl | exact .newgmap _ _ _ _ _ _ _ _ rfl rfl rfl)⟩, ⟨_, rfl, (by first | exact .row _ _ _ _ _ _ _ rfl rfl | exact .lstrow _ _ _ _ _ _ _ rfl rfl | exact .nilrow _ _ _ _ _ rfl | exact .truncrow _ _ _ _ _ _ _ _ rfl (by omega) rfl)⟩, ⟨_, rfl, .cells _ _ _ _ rfl (by repeat (first | exact .nil | refine .cons (by first | exact .base (.tree _ _ rfl rfl) | exact .base (.own _ _ rfl) | exact .base (.ptr _ _ _ rfl) | exact .base (.map _ _ rfl) | exact .base (.nilown _ rfl) | exact .fn _ _ _ _ _ .nil (by repeat (first | exact .nil | refine .cons (by exact .ptr _ _ _ rfl) ?_))) ?_)) rfl⟩, ⟨_, rfl, (by first | exact .row _ _ _ _ _ _ _ rfl rfl | exact .lstrow _ _ _ _ _ _ _ rfl rfl | exact .nilrow _ _ _ _ _ rfl | exact .truncrow _ _ _ _ _ _ _ _ rfl (by omega) rfl)⟩, ⟨_, rfl, .cells _ _ _ _ rfl (by repeat (first | exact .nil | refine .cons (by first | exact .base (.tree _ _ rfl rfl) | exact .base (.own _ _ rfl) | exact .base (.ptr _ _ _ rfl) | exact .base (.map _ _ rfl) | exact .base (.nilown _ rfl) | exact .fn _ _ _ _ _ .nil (by repeat (first | exact .nil | refine .cons (by exact .ptr _ _ _ rfl) ?_))) ?_)) rfl⟩, ⟨_, rfl, .cells _ _ _ _ rfl (by repeat (first | exact .nil | refine .cons (by first | exact .base (.tree _ _ rfl rfl) | exact .base (.own _ _ rfl) | exact .base (.ptr _ _ _ rfl) | exact .base (.map _ _ rfl) | exact .base (.nilown _ rfl) | exact .fn _ _ _ _ _ .nil (by repeat (first | exact .nil | refine .cons (by exact .ptr _ _ _ rfl) ?_))) ?_)) rfl⟩, trivial⟩)) ?_
    intro k hk _
    conv => whnf
    refine ⟨fun hc3 => ?_, fun hc3 => ?_⟩
    · simp only [decide_eq_true_eq] at hc3
      have hlt : k < l.length := by omega
      have hck : l.getD (k : Int).toNat s0 = l.getD k s0 := by rw [Int.toNat_natCast]
      have hnx : signL (sgL (l.take k)) (l.getD k s0).key (l.getD k s0).text = sgL (l.take (k + 1)) := by rw [take_getD (d := s0) hlt, sgL_snoc]
      conv => whnf
      refine .eff (by first | exact cxOk _ _ | exact cxPOk _ _ _) ?_; conv => whnf
      refine And.intro ⟨by omega, by omega⟩ ?_; conv => whnf
      refine And.intro rfl ?_; conv => whnf
      refine And.intro ⟨by omega, by omega⟩ ?_; conv => whnf
      refine And.intro rfl ?_; conv => whnf
      rw [hck]
      refine .raw [0, 1, 2] _ rfl (fun _ => ⟨⟨_, [0, 1, 2], _, _⟩, fun r' => Iff.rfl, rfl⟩) (rio_one (hsg k (l.getD k s0)) [0, 1, 2] rfl rfl rfl (by repeat (first | exact trivial | refine And.intro (by first | exact .refl _ | exact .newgmap _ _ _ _ _ _ _ rfl rfl | exact .newimap _ _ _ _ _ _ _ rfl rfl | exact .smap _ _ _ _ _ _ rfl rfl) ?_)) rfl) ?_
      rintro _ rfl
      refine ⟨Nat.le_add_right _ _, ?_⟩
      conv => whnf
      refine And.intro rfl ?_; conv => whnf
      refine .eff (by first | exact cxOk _ _ | exact cxPOk _ _ _) ?_; conv => whnf
      refine And.intro ⟨by omega, by omega⟩ ?_; conv => whnf
      refine And.intro rfl ?_; conv => whnf
      refine And.intro ⟨by omega, by omega⟩ ?_; conv => whnf
      refine And.intro rfl ?_; conv => whnf
      rw [hck]
      refine .raw [3, 4] _ rfl (fun _ => ⟨⟨_, [3, 4], _, _⟩, fun r' => Iff.rfl, rfl⟩) (rio_one (hqsg k (l.getD k s0)) [3, 4] rfl rfl rfl (by repeat (first | exact trivial | refine And.intro (by first | exact .refl _ | exact .newgmap _ _ _ _ _ _ _ rfl rfl | exact .newimap _ _ _ _ _ _ _ rfl rfl | exact .smap _ _ _ _ _ _ rfl rfl) ?_)) rfl) ?_
      rintro _ rfl
      refine ⟨Nat.le_add_right _ _, ?_⟩
      conv => whnf
      refine And.intro rfl ?_; conv => whnf
      refine And.intro ⟨by omega, by omega⟩ ?_; conv => whnf
      rw [hnx]
      refine up hlt trivial ((wk_of [(0, .id 0), (1, .id 1), (2, .id 7), (3, .id 3), (4, .id 8), (5, .id 5), (6, .id 6)] rfl ⟨.base (.tree _ _ rfl rfl), .base (.ptr _ _ _ rfl), .base (.ptr _ _ _ rfl), .base (.tree _ _ rfl rfl), .base (.ptr _ _ _ rfl), .base (.ptr _ _ _ rfl), .base (.tree _ _ rfl rfl), trivial⟩ ⟨⟨_, rfl, .cells _ _ _ _ rfl (by repeat (first | exact .nil | refine .cons (by first | exact .base (.tree _ _ rfl rfl) | exact .base (.own _ _ rfl) | exact .base (.ptr _ _ _ rfl) | exact .base (.map _ _ rfl) | exact .base (.nilown _ rfl) | exact .fn _ _ _ _ _ .nil (by repeat (first | exact .nil | refine .cons (by exact .ptr _ _ _ rfl) ?_))) ?_)) rfl⟩, ⟨_, rfl, (by first | exact .gmap _ _ _ _ _ _ rfl rfl | exact .newgmap _ _ _ _ _ _ _ _ rfl rfl rfl)⟩, ⟨_, rfl, (by first | exact .row _ _ _ _ _ _ _ rfl rfl | exact .lstrow _ _ _ _ _ _ _ rfl rfl | exact .nilrow _ _ _ _ _ rfl | exact .truncrow _ _ _ _ _ _ _ _ rfl (by omega) rfl)⟩, ⟨_, rfl, .cells _ _ _ _ rfl (by repeat (first | exact .nil | refine .cons (by first | exact .base (.tree _ _ rfl rfl) | exact .base (.own _ _ rfl) | exact .base (.ptr _ _ _ rfl) | exact .base (.map _ _ rfl) | exact .base (.nilown _ rfl) | exact .fn _ _ _ _ _ .nil (by repeat (first | exact .nil | refine .cons (by exact .ptr _ _ _ rfl) ?_))) ?_)) rfl⟩, ⟨_, rfl, (by first | exact .row _ _ _ _ _ _ _ rfl rfl | exact .lstrow _ _ _ _ _ _ _ rfl rfl | exact .nilrow _ _ _ _ _ rfl | exact .truncrow _ _ _ _ _ _ _ _ rfl (by omega) rfl)⟩, ⟨_, rfl, .cells _ _ _ _ rfl (by repeat (first | exact .nil | refine .cons (by first | exact .base (.tree _ _ rfl rfl) | exact .base (.own _ _ rfl) | exact .base (.ptr _ _ _ rfl) | exact .base (.map _ _ rfl) | exact .base (.nilown _ rfl) | exact .fn _ _ _ _ _ .nil (by repeat (first | exact .nil | refine .cons (by exact .ptr _ _ _ rfl) ?_))) ?_)) rfl⟩, ⟨_, rfl, .cells _ _ _ _ rfl (by repeat (first | exact .nil | refine .cons (by first | exact .base (.tree _ _ rfl rfl) | exact .base (.own _ _ rfl) | exact .base (.ptr _ _ _ rfl) | exact .base (.map _ _ rfl) | exact .base (.nilown _ rfl) | exact .fn _ _ _ _ _ .nil (by repeat (first | exact .nil | refine .cons (by exact .ptr _ _ _ rfl) ?_))) ?_)) rfl⟩, trivial⟩))
    · simp only [decide_eq_false_iff_not] at hc3
      obtain rfl : k = l.length := by omega
      rw [List.take_of_length_le (Nat.le_refl _)]
      conv => whnf
      refine .eff (by first | exact cxOk _ _ | exact cxPOk _ _ _) ?_; conv => whnf
      refine And.intro (fun _ => ?_) (fun h => absurd h (by decide)); conv => whnf
      refine And.intro (fun _ => ?_) (fun h => absurd h (by decide)); conv => whnf
      refine And.intro (fun _ => ?_) (fun h => absurd h (by decide)); conv => whnf
      refine And.intro (fun _ => ?_) (fun h => absurd h (by decide)); conv => whnf
      refine .one _ _ _ (fun _ => hcv) (BorL.cons (lendR (k := 2) (j := 1) rfl rfl rfl) (by repeat (first | exact .nil | (apply BorL.cons; first | exact lS rfl | exact lR rfl | exact lM rfl rfl | exact lL rfl | exact lX rfl | exact lN | exact lNl | exact lSm rfl | exact lIm rfl | exact lGm rfl | exact lP rfl | exact lQ rfl | exact lB rfl rfl rfl)))) (by first | exact .inl rfl | exact .inr (by repeat (first | exact flats_nil | refine flats_cons (by first | exact flat_val _ rfl | exact flat_row (fun _ => rfl) | exact flat_lst (fun _ => rfl)) ?_))) (by first | exact .inr rfl | exact .inl rfl) ?_
      conv => whnf
      refine And.intro (fun _ => ?_) (fun h => absurd h (by decide)); conv => whnf
      refine And.intro (fun _ => ?_) (fun h => absurd h (by decide)); conv => whnf
      refine And.intro (fun _ => ?_) (fun h => absurd h (by decide)); conv => whnf
      refine And.intro (fun _ => ?_) (fun h => absurd h (by decide)); conv => whnf
      refine .one _ _ _ (fun _ => hqcv) (BorL.cons (lendQ (j := 4) rfl rfl) (by repeat (first | exact .nil | (apply BorL.cons; first | exact lS rfl | exact lR rfl | exact lM rfl rfl | exact lL rfl | exact lX rfl | exact lN | exact lNl | exact lSm rfl | exact lIm rfl | exact lGm rfl | exact lP rfl | exact lQ rfl | exact lB rfl rfl rfl)))) (by first | exact .inl rfl | exact .inr (by repeat (first | exact flats_nil | refine flats_cons (by first | exact flat_val _ rfl | exact flat_row (fun _ => rfl) | exact flat_lst (fun _ => rfl)) ?_))) (by first | exact .inr rfl | exact .inl rfl) ?_
      conv => whnf
      refine And.intro (fun _ => ?_) (fun h => absurd h (by decide)); conv => whnf
      refine And.intro (fun _ => ?_) (fun h => absurd h (by decide)); conv => whnf
      refine And.intro rfl ?_; conv => whnf
      rw [decide_eq_true rfl]
      rfl
  | true =>
    rw [if_pos hok] at cmp qcmp
    obtain ⟨r1, r2⟩ := raw_one hok
    rw [r1, r2] at cmp
    have q1 : (srt (qI a b fl)).length ≤ 40 := by
      rw [srt_len]
      unfold qI
      rw [List.length_append]
      have := pick_len 1 a b fl 0 a.length
      have := pick_len 1 b a fl 1 b.length
      omega
    have q2 : (srt (qO a b fl)).length ≤ 40 := by
      rw [srt_len]
      unfold qO
      rw [List.length_append]
      have := pick_len 2 a b fl 0 a.length
      have := pick_len 2 b a fl 1 b.length
      omega
    generalize srt (qI a b fl) = I at *
    generalize srt (qO a b fl) = O at *
    have sm1 := same_ok I I (by omega) (by omega)
    have sm2 := same_ok O O (by omega) (by omega)
    rw [decide_eq_true rfl] at sm1 sm2
    conv => whnf
    refine .one _ _ _ (fun _ => cmp) (by repeat (first | exact .nil | (apply BorL.cons; first | exact lS rfl | exact lR rfl | exact lM rfl rfl | exact lL rfl | exact lX rfl | exact lN | exact lNl | exact lSm rfl | exact lIm rfl | exact lGm rfl | exact lP rfl | exact lQ rfl | exact lB rfl rfl rfl))) (by first | exact .inl rfl | exact .inr (by repeat (first | exact flats_nil | refine flats_cons (by first | exact flat_val _ rfl | exact flat_row (fun _ => rfl) | exact flat_lst (fun _ => rfl)) ?_))) (by first | exact .inr rfl | exact .inl rfl) ?_
    conv => whnf
    refine .one _ _ _ (fun _ => qcmp) (by repeat (first | exact .nil | (apply BorL.cons; first | exact lS rfl | exact lR rfl | exact lM rfl rfl | exact lL rfl | exact lX rfl | exact lN | exact lNl | exact lSm rfl | exact lIm rfl | exact lGm rfl | exact lP rfl | exact lQ rfl | exact lB rfl rfl rfl))) (by first | exact .inl rfl | exact .inr (by repeat (first | exact flats_nil | refine flats_cons (by first | exact flat_val _ rfl | exact flat_row (fun _ => rfl) | exact flat_lst (fun _ => rfl)) ?_))) (by first | exact .inr rfl | exact .inl rfl) ?_
    conv => whnf
    refine .one _ _ _ (fun _ => sm1) (by repeat (first | exact .nil | (apply BorL.cons; first | exact lS rfl | exact lR rfl | exact lM rfl rfl | exact lL rfl | exact lX rfl | exact lN | exact lNl | exact lSm rfl | exact lIm rfl | exact lGm rfl | exact lP rfl | exact lQ rfl | exact lB rfl rfl rfl))) (by first | exact .inl rfl | exact .inr (by repeat (first | exact flats_nil | refine flats_cons (by first | exact flat_val _ rfl | exact flat_row (fun _ => rfl) | exact flat_lst (fun _ => rfl)) ?_))) (by first | exact .inr rfl | exact .inl rfl) ?_
    conv => whnf
    refine .one _ _ _ (fun _ => sm2) (by repeat (first | exact .nil | (apply BorL.cons; first | exact lS rfl | exact lR rfl | exact lM rfl rfl | exact lL rfl | exact lX rfl | exact lN | exact lNl | exact lSm rfl | exact lIm rfl | exact lGm rfl | exact lP rfl | exact lQ rfl | exact lB rfl rfl rfl))) (by first | exact .inl rfl | exact .inr (by repeat (first | exact flats_nil | refine flats_cons (by first | exact flat_val _ rfl | exact flat_row (fun _ => rfl) | exact flat_lst (fun _ => rfl)) ?_))) (by first | exact .inr rfl | exact .inl rfl) ?_
    conv => whnf
    refine And.intro (fun h => absurd h (by decide)) (fun _ => ?_); conv => whnf
    refine .raw [] _ rfl (fun _ => ⟨⟨_, [], _, _⟩, fun r' => Iff.rfl, rfl⟩) (rio_one (new_ok) [] rfl rfl rfl (by repeat (first | exact trivial | refine And.intro (by first | exact .refl _ | exact .newgmap _ _ _ _ _ _ _ rfl rfl | exact .newimap _ _ _ _ _ _ _ rfl rfl | exact .smap _ _ _ _ _ _ rfl rfl) ?_)) rfl) ?_
    rintro _ rfl
    refine ⟨Nat.le_add_right _ _, ?_⟩
    conv => whnf
    refine .raw [] _ rfl (fun _ => ⟨⟨_, [], _, _⟩, fun r' => Iff.rfl, rfl⟩) (rio_one (qnew_ok) [] rfl rfl rfl (by repeat (first | exact trivial | refine And.intro (by first | exact .refl _ | exact .newgmap _ _ _ _ _ _ _ rfl rfl | exact .newimap _ _ _ _ _ _ _ rfl rfl | exact .smap _ _ _ _ _ _ rfl rfl) ?_)) rfl) ?_
    rintro _ rfl
    refine ⟨Nat.le_add_right _ _, ?_⟩
    conv => whnf
    refine And.intro (fun h => absurd h (by decide)) (fun _ => ?_); conv => whnf
    refine loop_up (cxOk _ _) l.length (fun _ => True) (fun k => ⟨[(3, encSls l), (10, .ptr 5 0), (11, .ptr 6 0), (13, .bool true), (20, .ptr 0 0), (21, .ptr 3 0), (22, .int .i64 (k : Nat))], [(0, .cells 77 [.own 2, .map 1]), (1, .gmap shS encI 0 (marksM (sgL (l.take k)))), (2, .row 40 2 encSl s0 (sgL (l.take k))), (3, .cells 79 [.own 4]), (4, .row 40 2 encSl s0 (sgL (l.take k))), (5, .cells 26 [.int .i64 s.key, .str s.text, .int .i64 s.mark]), (6, .cells 26 [.int .i64 t.key, .str t.text, .int .i64 t.mark])], 7⟩) trivial ((wk_of [(0, .id 6), (1, .id 7), (2, .id 8), (3, .id 9), (4, .id 10), (5, .id 0), (6, .id 1)] rfl ⟨.base (.tree _ _ rfl rfl), .base (.ptr _ _ _ rfl), .base (.ptr _ _ _ rfl), .base (.tree _ _ rfl rfl), .base (.ptr _ _ _ rfl), .base (.ptr _ _ _ rfl), .base (.tree _ _ rfl rfl), trivial⟩ ⟨⟨_, rfl, .cells _ _ _ _ rfl (by repeat (first | exact .nil | refine .cons (by first | exact .base (.tree _ _ rfl rfl) | exact .base (.own _ _ rfl) | exact .base (.ptr _ _ _ rfl) | exact .base (.map _ _ rfl) | exact .base (.nilown _ rfl) | exact .fn _ _ _ _ _ .nil (by repeat (first | exact .nil | refine .cons (by exact .ptr _ _ _ rfl) ?_))) ?_)) rfl⟩, ⟨_, rfl, (by first | exact .gmap _ _ _ _ _ _ rfl rfl | exact .newgmap _ _ _ _ _ _ _ _ rfl rfl rfl)⟩, ⟨_, rfl, (by first | exact .row _ _ _ _ _ _ _ rfl rfl | exact .lstrow _ _ _ _ _ _ _ rfl rfl | exact .nilrow _ _ _ _ _ rfl | exact .truncrow _ _ _ _ _ _ _ _ rfl (by omega) rfl)⟩, ⟨_, rfl, .cells _ _ _ _ rfl (by repeat (first | exact .nil | refine .cons (by first | exact .base (.tree _ _ rfl rfl) | exact .base (.own _ _ rfl) | exact .base (.ptr _ _ _ rfl) | exact .base (.map _ _ rfl) | exact .base (.nilown _ rfl) | exact .fn _ _ _ _ _ .nil (by repeat (first | exact .nil | refine .cons (by exact .ptr _ _ _ rfl) ?_))) ?_)) rfl⟩, ⟨_, rfl, (by first | exact .row _ _ _ _ _ _ _ rfl rfl | exact .lstrow _ _ _ _ _ _ _ rfl rfl | exact .nilrow _ _ _ _ _ rfl | exact .truncrow _ _ _ _ _ _ _ _ rfl (by omega) rfl)⟩, ⟨_, rfl, .cells _ _ _ _ rfl (by repeat (first | exact .nil | refine .cons (by first | exact .base (.tree _ _ rfl rfl) | exact .base (.own _ _ rfl) | exact .base (.ptr _ _ _ rfl) | exact .base (.map _ _ rfl) | exact .base (.nilown _ rfl) | exact .fn _ _ _ _ _ .nil (by repeat (first | exact .nil | refine .cons (by exact .ptr _ _ _ rfl) ?_))) ?_)) rfl⟩, ⟨_, rfl, .cells _ _ _ _ rfl (by repeat (first | exact .nil | refine .cons (by first | exact .base (.tree _ _ rfl rfl) | exact .base (.own _ _ rfl) | exact .base (.ptr _ _ _ rfl) | exact .base (.map _ _ rfl) | exact .base (.nilown _ rfl) | exact .fn _ _ _ _ _ .nil (by repeat (first | exact .nil | refine .cons (by exact .ptr _ _ _ rfl) ?_))) ?_)) rfl⟩, trivial⟩)) ?_
    intro k hk _
    conv => whnf
    refine ⟨fun hc3 => ?_, fun hc3 => ?_⟩
    · simp only [decide_eq_true_eq] at hc3
      have hlt : k < l.length := by omega
      have hck : l.getD (k : Int).toNat s0 = l.getD k s0 := by rw [Int.toNat_natCast]
      have hnx : signL (sgL (l.take k)) (l.getD k s0).key (l.getD k s0).text = sgL (l.take (k + 1)) := by rw [take_getD (d := s0) hlt, sgL_snoc]
      conv => whnf
      refine .eff (by first | exact cxOk _ _ | exact cxPOk _ _ _) ?_; conv => whnf
      refine And.intro ⟨by omega, by omega⟩ ?_; conv => whnf
      refine And.intro rfl ?_; conv => whnf
      refine And.intro ⟨by omega, by omega⟩ ?_; conv => whnf
      refine And.intro rfl ?_; conv => whnf
      rw [hck]
      refine .raw [0, 1, 2] _ rfl (fun _ => ⟨⟨_, [0, 1, 2], _, _⟩, fun r' => Iff.rfl, rfl⟩) (rio_one (hsg k (l.getD k s0)) [0, 1, 2] rfl rfl rfl (by repeat (first | exact trivial | refine And.intro (by first | exact .refl _ | exact .newgmap _ _ _ _ _ _ _ rfl rfl | exact .newimap _ _ _ _ _ _ _ rfl rfl | exact .smap _ _ _ _ _ _ rfl rfl) ?_)) rfl) ?_
      rintro _ rfl
      refine ⟨Nat.le_add_right _ _, ?_⟩
      conv => whnf
      refine And.intro rfl ?_; conv => whnf
      refine .eff (by first | exact cxOk _ _ | exact cxPOk _ _ _) ?_; conv => whnf
      refine And.intro ⟨by omega, by omega⟩ ?_; conv => whnf
      refine And.intro rfl ?_; conv => whnf
      refine And.intro ⟨by omega, by omega⟩ ?_; conv => whnf
      refine And.intro rfl ?_; conv => whnf
      rw [hck]
      refine .raw [3, 4] _ rfl (fun _ => ⟨⟨_, [3, 4], _, _⟩, fun r' => Iff.rfl, rfl⟩) (rio_one (hqsg k (l.getD k s0)) [3, 4] rfl rfl rfl (by repeat (first | exact trivial | refine And.intro (by first | exact .refl _ | exact .newgmap _ _ _ _ _ _ _ rfl rfl | exact .newimap _ _ _ _ _ _ _ rfl rfl | exact .smap _ _ _ _ _ _ rfl rfl) ?_)) rfl) ?_
      rintro _ rfl
      refine ⟨Nat.le_add_right _ _, ?_⟩
      conv => whnf
      refine And.intro rfl ?_; conv => whnf
      refine And.intro ⟨by omega, by omega⟩ ?_; conv => whnf
      rw [hnx]
      refine up hlt trivial ((wk_of [(0, .id 0), (1, .id 1), (2, .id 7), (3, .id 3), (4, .id 8), (5, .id 5), (6, .id 6)] rfl ⟨.base (.tree _ _ rfl rfl), .base (.ptr _ _ _ rfl), .base (.ptr _ _ _ rfl), .base (.tree _ _ rfl rfl), .base (.ptr _ _ _ rfl), .base (.ptr _ _ _ rfl), .base (.tree _ _ rfl rfl), trivial⟩ ⟨⟨_, rfl, .cells _ _ _ _ rfl (by repeat (first | exact .nil | refine .cons (by first | exact .base (.tree _ _ rfl rfl) | exact .base (.own _ _ rfl) | exact .base (.ptr _ _ _ rfl) | exact .base (.map _ _ rfl) | exact .base (.nilown _ rfl) | exact .fn _ _ _ _ _ .nil (by repeat (first | exact .nil | refine .cons (by exact .ptr _ _ _ rfl) ?_))) ?_)) rfl⟩, ⟨_, rfl, (by first | exact .gmap _ _ _ _ _ _ rfl rfl | exact .newgmap _ _ _ _ _ _ _ _ rfl rfl rfl)⟩, ⟨_, rfl, (by first | exact .row _ _ _ _ _ _ _ rfl rfl | exact .lstrow _ _ _ _ _ _ _ rfl rfl | exact .nilrow _ _ _ _ _ rfl | exact .truncrow _ _ _ _ _ _ _ _ rfl (by omega) rfl)⟩, ⟨_, rfl, .cells _ _ _ _ rfl (by repeat (first | exact .nil | refine .cons (by first | exact .base (.tree _ _ rfl rfl) | exact .base (.own _ _ rfl) | exact .base (.ptr _ _ _ rfl) | exact .base (.map _ _ rfl) | exact .base (.nilown _ rfl) | exact .fn _ _ _ _ _ .nil (by repeat (first | exact .nil | refine .cons (by exact .ptr _ _ _ rfl) ?_))) ?_)) rfl⟩, ⟨_, rfl, (by first | exact .row _ _ _ _ _ _ _ rfl rfl | exact .lstrow _ _ _ _ _ _ _ rfl rfl | exact .nilrow _ _ _ _ _ rfl | exact .truncrow _ _ _ _ _ _ _ _ rfl (by omega) rfl)⟩, ⟨_, rfl, .cells _ _ _ _ rfl (by repeat (first | exact .nil | refine .cons (by first | exact .base (.tree _ _ rfl rfl) | exact .base (.own _ _ rfl) | exact .base (.ptr _ _ _ rfl) | exact .base (.map _ _ rfl) | exact .base (.nilown _ rfl) | exact .fn _ _ _ _ _ .nil (by repeat (first | exact .nil | refine .cons (by exact .ptr _ _ _ rfl) ?_))) ?_)) rfl⟩, ⟨_, rfl, .cells _ _ _ _ rfl (by repeat (first | exact .nil | refine .cons (by first | exact .base (.tree _ _ rfl rfl) | exact .base (.own _ _ rfl) | exact .base (.ptr _ _ _ rfl) | exact .base (.map _ _ rfl) | exact .base (.nilown _ rfl) | exact .fn _ _ _ _ _ .nil (by repeat (first | exact .nil | refine .cons (by exact .ptr _ _ _ rfl) ?_))) ?_)) rfl⟩, trivial⟩))
    · simp only [decide_eq_false_iff_not] at hc3
      obtain rfl : k = l.length := by omega
      rw [List.take_of_length_le (Nat.le_refl _)]
      conv => whnf
      refine .eff (by first | exact cxOk _ _ | exact cxPOk _ _ _) ?_; conv => whnf
      refine And.intro (fun _ => ?_) (fun h => absurd h (by decide)); conv => whnf
      refine And.intro (fun _ => ?_) (fun h => absurd h (by decide)); conv => whnf
      refine And.intro (fun _ => ?_) (fun h => absurd h (by decide)); conv => whnf
      refine And.intro (fun _ => ?_) (fun h => absurd h (by decide)); conv => whnf
      refine .one _ _ _ (fun _ => hcv) (BorL.cons (lendR (k := 2) (j := 1) rfl rfl rfl) (by repeat (first | exact .nil | (apply BorL.cons; first | exact lS rfl | exact lR rfl | exact lM rfl rfl | exact lL rfl | exact lX rfl | exact lN | exact lNl | exact lSm rfl | exact lIm rfl | exact lGm rfl | exact lP rfl | exact lQ rfl | exact lB rfl rfl rfl)))) (by first | exact .inl rfl | exact .inr (by repeat (first | exact flats_nil | refine flats_cons (by first | exact flat_val _ rfl | exact flat_row (fun _ => rfl) | exact flat_lst (fun _ => rfl)) ?_))) (by first | exact .inr rfl | exact .inl rfl) ?_
      conv => whnf
      refine And.intro (fun _ => ?_) (fun h => absurd h (by decide)); conv => whnf
      refine And.intro (fun _ => ?_) (fun h => absurd h (by decide)); conv => whnf
      refine And.intro (fun _ => ?_) (fun h => absurd h (by decide)); conv => whnf
      refine And.intro (fun _ => ?_) (fun h => absurd h (by decide)); conv => whnf
      refine .one _ _ _ (fun _ => hqcv) (BorL.cons (lendQ (j := 4) rfl rfl) (by repeat (first | exact .nil | (apply BorL.cons; first | exact lS rfl | exact lR rfl | exact lM rfl rfl | exact lL rfl | exact lX rfl | exact lN | exact lNl | exact lSm rfl | exact lIm rfl | exact lGm rfl | exact lP rfl | exact lQ rfl | exact lB rfl rfl rfl)))) (by first | exact .inl rfl | exact .inr (by repeat (first | exact flats_nil | refine flats_cons (by first | exact flat_val _ rfl | exact flat_row (fun _ => rfl) | exact flat_lst (fun _ => rfl)) ?_))) (by first | exact .inr rfl | exact .inl rfl) ?_
      conv => whnf
      refine And.intro (fun _ => ?_) (fun h => absurd h (by decide)); conv => whnf
      refine And.intro (fun _ => ?_) (fun h => absurd h (by decide)); conv => whnf
      refine And.intro rfl ?_; conv => whnf
      rw [decide_eq_true rfl]
      rfl

end Go.Proofs.YtjlnaogechkjdaaDoor

/-
  What the rows of the layer agree share: how parameters are opened, and a world in which the listed tables lie.
-/
namespace Go.Proofs.YtjlnaogechkjdaaDoor
open Go.ChangeShapes Go.WideShapes Go.RowKit Go.Own

theorem Tryd.own : ownKnob Tryd.prog.godebug = none := by kernel_rfl
theorem Tryd.laidOut : laidOutB Tryd.prog = true := by kernel_rfl
theorem undBool : Tryd.prog.underlying 4 = some .bool := by kernel_rfl
theorem und3' : Tryd.prog.underlying 3 = some (.int .i64) := by kernel_rfl
theorem und22' : Tryd.prog.underlying 22 = some (.slice 48) := by kernel_rfl
def fieldsE' : Array Field := #[{ name := "Id", type := 3, offset := 0, embedded := false, tag := "", pkgPath := "", byteOffset := 0 }, { name := "Day", type := 3, offset := 1, embedded := false, tag := "", pkgPath := "", byteOffset := 8 }, { name := "From", type := 3, offset := 2, embedded := false, tag := "", pkgPath := "", byteOffset := 16 }, { name := "To", type := 3, offset := 3, embedded := false, tag := "", pkgPath := "", byteOffset := 24 }, { name := "Amount", type := 3, offset := 4, embedded := false, tag := "", pkgPath := "", byteOffset := 32 }]
theorem und48' : Tryd.prog.underlying 48 = some (.struct fieldsE') := by kernel_rfl
theorem in64_of {n : Int} (h : IntKind.i64.min ≤ n ∧ n ≤ IntKind.i64.max) : in64 n := by
  have e1 : IntKind.i64.min = -9223372036854775808 := by rfl
  have e2 : IntKind.i64.max = 9223372036854775807 := by rfl
  rw [e1, e2] at h
  exact h
abbrev rInt : List AV → Prop := fun l => ∃ n, (IntKind.i64.min ≤ n ∧ n ≤ IntKind.i64.max) ∧ l = [.int .i64 n]
theorem oInt : OpensR Tryd.prog 3 1 rInt := opensR_int und3' (by kernel_rfl)
theorem oEnt : OpensR Tryd.prog 48 5 (StrR [(1, rInt), (1, rInt), (1, rInt), (1, rInt), (1, rInt)]) :=
  opensR_struct und48' (by kernel_rfl) ⟨rfl, oInt, rfl, oInt, rfl, oInt, rfl, oInt, rfl, oInt, rfl⟩
def in64E (e : Ent) : Prop := ((in64 e.id ∧ in64 e.day) ∧ in64 e.frm ∧ in64 e.to) ∧ in64 e.amt
theorem oEnts : OpensR Tryd.prog 22 1 (fun l => ∃ xs : List Ent, (∀ a ∈ xs, in64E a) ∧ xs.length ≤ 9223372036854775807 ∧ l = [.sl 5 encE e0 xs]) :=
  opensR_slice e0 und22' (by kernel_rfl) oEnt (by decide) (fun l hl => by
    obtain ⟨_, _, ⟨n0, h0, rfl⟩, ⟨_, _, ⟨n1, h1, rfl⟩, ⟨_, _, ⟨n2, h2, rfl⟩, ⟨_, _, ⟨n3, h3, rfl⟩, ⟨_, _, ⟨n4, h4, rfl⟩, rfl, rfl⟩, rfl⟩, rfl⟩, rfl⟩, rfl⟩ := hl
    exact ⟨⟨n0, n1, n2, n3, n4⟩, ⟨⟨⟨in64_of h0, in64_of h1⟩, in64_of h2, in64_of h3⟩, in64_of h4⟩, rfl⟩) (fun _ => rfl)
theorem vEnts : OpV Tryd.prog 22 (fun a => ∃ l : List Ent, (∀ x ∈ l, in64E x) ∧ l.length ≤ 9223372036854775807 ∧ a = encEs l) :=
  OpV.mono (opV_slice (R := fun a => ∃ xs : List Ent, (∀ x ∈ xs, in64E x) ∧ xs.length ≤ 9223372036854775807 ∧ a = .sl 5 encE e0 xs) und22' (oEnts.mono fun _ ⟨xs, h1, h2, h3⟩ => ⟨_, ⟨xs, h1, h2, rfl⟩, h3⟩)) fun _ ⟨xs, h1, h2, h3⟩ => ⟨xs, h1, h2, h3⟩
abbrev rStr : List AV → Prop := fun l => ∃ s : List UInt8, s.length ≤ 9223372036854775807 ∧ l = [.str s]
theorem und9' : Tryd.prog.underlying 9 = some .string := by kernel_rfl
theorem und23' : Tryd.prog.underlying 23 = some (.slice 54) := by kernel_rfl
theorem und24' : Tryd.prog.underlying 24 = some (.slice 40) := by kernel_rfl
def fieldsM' : Array Field := #[{ name := "From", type := 3, offset := 0, embedded := false, tag := "", pkgPath := "", byteOffset := 0 }, { name := "To", type := 3, offset := 1, embedded := false, tag := "", pkgPath := "", byteOffset := 8 }, { name := "Seq", type := 3, offset := 2, embedded := false, tag := "", pkgPath := "", byteOffset := 16 }, { name := "Entry", type := 3, offset := 3, embedded := false, tag := "", pkgPath := "", byteOffset := 24 }]
theorem und54' : Tryd.prog.underlying 54 = some (.struct fieldsM') := by kernel_rfl
def fieldsS' : Array Field := #[{ name := "Key", type := 3, offset := 0, embedded := false, tag := "", pkgPath := "", byteOffset := 0 }, { name := "Text", type := 9, offset := 1, embedded := false, tag := "", pkgPath := "", byteOffset := 8 }]
theorem und40' : Tryd.prog.underlying 40 = some (.struct fieldsS') := by kernel_rfl
def fieldsG' : Array Field := #[{ name := "Key", type := 3, offset := 0, embedded := false, tag := "", pkgPath := "", byteOffset := 0 }, { name := "Text", type := 9, offset := 1, embedded := false, tag := "", pkgPath := "", byteOffset := 8 }, { name := "Mark", type := 3, offset := 2, embedded := false, tag := "", pkgPath := "", byteOffset := 24 }]
theorem und26' : Tryd.prog.underlying 26 = some (.struct fieldsG') := by kernel_rfl
theorem oStr : OpensR Tryd.prog 9 1 rStr := opensR_str und9' (by kernel_rfl)
instance : Inhabited Seal := ⟨s0⟩
theorem oMsg : OpensR Tryd.prog 54 4 (StrR [(1, rInt), (1, rInt), (1, rInt), (1, rInt)]) := opensR_struct und54' (by kernel_rfl) ⟨rfl, oInt, rfl, oInt, rfl, oInt, rfl, oInt, rfl⟩
def in64M (m : Msg) : Prop := (in64 m.frm ∧ in64 m.to) ∧ in64 m.seq ∧ in64 m.entry
theorem oMsgs : OpensR Tryd.prog 23 1 (fun l => ∃ xs : List Msg, (∀ a ∈ xs, in64M a) ∧ xs.length ≤ 9223372036854775807 ∧ l = [.sl 4 encM m0 xs]) :=
  opensR_slice m0 und23' (by kernel_rfl) oMsg (by decide) (fun l hl => by
    obtain ⟨_, _, ⟨n0, h0, rfl⟩, ⟨_, _, ⟨n1, h1, rfl⟩, ⟨_, _, ⟨n2, h2, rfl⟩, ⟨_, _, ⟨n3, h3, rfl⟩, rfl, rfl⟩, rfl⟩, rfl⟩, rfl⟩ := hl
    exact ⟨⟨n0, n1, n2, n3⟩, ⟨⟨in64_of h0, in64_of h1⟩, in64_of h2, in64_of h3⟩, rfl⟩) (fun _ => rfl)
theorem vMsgs : OpV Tryd.prog 23 (fun a => ∃ l : List Msg, (∀ x ∈ l, in64M x) ∧ l.length ≤ 9223372036854775807 ∧ a = encMs l) :=
  OpV.mono (opV_slice (R := fun a => ∃ xs : List Msg, (∀ x ∈ xs, in64M x) ∧ xs.length ≤ 9223372036854775807 ∧ a = .sl 4 encM m0 xs) und23' (oMsgs.mono fun _ ⟨xs, h1, h2, h3⟩ => ⟨_, ⟨xs, h1, h2, rfl⟩, h3⟩)) fun _ ⟨xs, h1, h2, h3⟩ => ⟨xs, h1, h2, h3⟩
theorem oSeal : OpensR Tryd.prog 40 2 (StrR [(1, rInt), (1, rStr)]) := opensR_struct und40' (by kernel_rfl) ⟨rfl, oInt, rfl, oStr, rfl⟩
theorem oSeals : OpensR Tryd.prog 24 1 (fun l => ∃ xs : List Seal, (∀ a ∈ xs, in64 a.key ∧ a.text.length ≤ 9223372036854775807) ∧ xs.length ≤ 9223372036854775807 ∧ l = [.sl 2 encSl s0 xs]) :=
  opensR_slice s0 und24' (by kernel_rfl) oSeal (by decide) (fun l hl => by
    obtain ⟨_, _, ⟨n0, h0, rfl⟩, ⟨_, _, ⟨t0, h1, rfl⟩, rfl, rfl⟩, rfl⟩ := hl
    exact ⟨⟨n0, t0⟩, ⟨in64_of h0, h1⟩, rfl⟩) (fun _ => rfl)
theorem vSeals : OpV Tryd.prog 24 (fun a => ∃ l : List Seal, (∀ x ∈ l, in64 x.key ∧ x.text.length ≤ 9223372036854775807) ∧ l.length ≤ 9223372036854775807 ∧ a = encSls l) :=
  OpV.mono (opV_slice (R := fun a => ∃ xs : List Seal, (∀ x ∈ xs, in64 x.key ∧ x.text.length ≤ 9223372036854775807) ∧ xs.length ≤ 9223372036854775807 ∧ a = .sl 2 encSl s0 xs) und24' (oSeals.mono fun _ ⟨xs, h1, h2, h3⟩ => ⟨_, ⟨xs, h1, h2, rfl⟩, h3⟩)) fun _ ⟨xs, h1, h2, h3⟩ => ⟨xs, h1, h2, h3⟩
theorem oSgn : OpensR Tryd.prog 26 3 (StrR [(1, rInt), (1, rStr), (1, rInt)]) := opensR_struct und26' (by kernel_rfl) ⟨rfl, oInt, rfl, oStr, rfl, oInt, rfl⟩
theorem vSgn : OpV Tryd.prog 26 (fun a => ∃ d : Sgn, d.text.length ≤ 9223372036854775807 ∧ a = encSg d) :=
  OpV.mono (opV_struct und26' oSgn) fun a ⟨l, hl, h⟩ => by
    obtain ⟨_, _, ⟨n0, h0, rfl⟩, ⟨_, _, ⟨t0, h1, rfl⟩, ⟨_, _, ⟨n2, h2, rfl⟩, rfl, rfl⟩, rfl⟩, rfl⟩ := hl
    exact ⟨⟨n0, t0, n2⟩, h1, h⟩

/-! ### The listed variables -/
abbrev laidL : List (String × DataW Unit) := Rows.agreeTellsRow.laid
noncomputable def laidWorld (os : Os) : World := World.laidAll Tryd.prog os laidL
theorem laid_met (os : Os) (args : Array Value) : laidMet Tryd.prog laidL ((laidWorld os).forCall (fun _ _ => 0) ⟨#[], args, []⟩).memory :=
  laidMet_laidAll args (by kernel_rfl) (by kernel_rfl)
theorem var_block {P : Program} {w : World} {n : String} {g : Nat} {cs : Array Value} (hg : P.globalNamed n = some g) (h : w.var? P n = some cs) : ∃ e fz, w.heap[g]? = some (.cells cs e fz) := by
  unfold World.var? at h
  rw [hg] at h
  simp only [Option.bind_some] at h
  split at h
  · rename_i c e fz hh
    cases h
    exact ⟨_, _, hh⟩
  · cases h
theorem laid_tabs (W : World) (h : laidMet Tryd.prog laidL W) : TabAt (All W) W := by
  obtain ⟨ps, ⟨g1, t1, c1, f1, p1, q1, hg1, ht1, hv1, hd1, ⟨g2, t2, c2, f2, p2, q2, hg2, ht2, hv2, hd2, ⟨g3, t3, c3, f3, p3, q3, hg3, ht3, hv3, hd3, ⟨g4, t4, c4, f4, p4, q4, hg4, ht4, hv4, hd4, ⟨g5, t5, c5, f5, p5, q5, hg5, ht5, hv5, hd5, hnil, e5⟩, e4⟩, e3⟩, e2⟩, e1⟩, _, _⟩ := h
  have k3 : Tryd.prog.globalNamed "internal/strconv.uint64pow10" = some 3 := by kernel_rfl
  have k5 : Tryd.prog.globalNamed "strconv.ErrSyntax" = some 1 := by kernel_rfl
  have k4 : Tryd.prog.globalNamed "strconv.ErrRange" = some 2 := by kernel_rfl
  obtain ⟨b3, z3, h3⟩ := var_block k3 hv3
  obtain ⟨b4, z4, h4⟩ := var_block k4 hv4
  obtain ⟨b5, z5, h5⟩ := var_block k5 hv5
  obtain rfl := Option.some.inj (k3.symm.trans hg3)
  obtain rfl := Option.some.inj (k4.symm.trans hg4)
  obtain rfl := Option.some.inj (k5.symm.trans hg5)
  have T3 : (Tryd.prog.globals[3]?).map (·.type) = some t3 := ht3
  have T4 : (Tryd.prog.globals[2]?).map (·.type) = some t4 := ht4
  have T5 : (Tryd.prog.globals[1]?).map (·.type) = some t5 := ht5
  have err : ∀ {t : Nat} {cs : Array Value} {fuel : Nat} {nm : String} {d : DataW Unit} {p : List MemPlace} {g : Nat}, (Tryd.prog.globals[g]?).map (·.type) = some t → (g = 1 ∨ g = 2) → DataW.trod (fun _ => ()) Tryd.prog W 0 (fun _ => true) false fuel t cs.toList = some (.iface nm d, p) → isErr cs := by
    intro t cs fuel nm d p g hT hg hd
    have hu : ∃ ms, Tryd.prog.underlying t = some (.interface ms) := by
      rcases hg with rfl | rfl
      · obtain rfl := Option.some.inj ((show (Tryd.prog.globals[1]?).map (·.type) = some 113 by kernel_rfl).symm.trans hT)
        exact ⟨#[("Error", 153)], by kernel_rfl⟩
      · obtain rfl := Option.some.inj ((show (Tryd.prog.globals[2]?).map (·.type) = some 113 by kernel_rfl).symm.trans hT)
        exact ⟨#[("Error", 153)], by kernel_rfl⟩
    obtain ⟨ms, hu⟩ := hu
    obtain ⟨_, u, v, hcs, _⟩ := iface_of_trod hu hd
    refine ⟨u, v, ?_⟩
    rw [← Array.getElem?_toList, hcs]
    rfl
  have i4 := err T4 (.inr rfl) hd4
  have i5 := err T5 (.inl rfl) hd5
  have lt : ∀ {g : Nat} {o : Obj}, W.heap[g]? = some o → g < W.heap.size := fun h => (Array.getElem?_eq_some_iff.1 h).1
  intro g Q hQ
  match g, hQ with
  | 3, hQ =>
    cases hQ
    refine ⟨lt h3, c3, b3, z3, h3, ?_⟩
    obtain rfl := Option.some.inj ((show (Tryd.prog.globals[3]?).map (·.type) = some 140 by kernel_rfl).symm.trans T3)
    have := Lib.cells_of_tab (k := .u64) (zs := Lib.pow10Tab) (n := 20) (e := 127) (by kernel_rfl) (by kernel_rfl) (by kernel_rfl) (by kernel_rfl) (show _ = some (Lib.tabData .u64 Lib.pow10Tab, p3) from hd3)
    show c3 = _
    rw [← this]
  | 1, hQ =>
    cases hQ
    exact ⟨lt h5, c5, b5, z5, h5, i5⟩
  | 2, hQ =>
    cases hQ
    exact ⟨lt h4, c4, b4, z4, h4, i4⟩

end Go.Proofs.YtjlnaogechkjdaaDoor

namespace Go.Proofs.YtjlnaogechkjdaaDoor
open Go.Own
set_option maxHeartbeats 4000000
set_option maxRecDepth 100000

/-! ### Ledgers exchanged -/
theorem msg_turn (a b : List Ent) (m : Msg) : msgB b a (turn1 m) = msgB a b m := by
  rw [msg_mail, msg_mail, Bool.eq_iff_iff]
  unfold mailB turn1
  simp only
  by_cases h0 : (decide (m.seq < 0) || decide (m.entry < 0)) = true
  · rw [if_pos h0, if_pos h0]
  · rw [if_neg h0, if_neg h0]
    simp only [Bool.or_eq_true, Bool.and_eq_true, decide_eq_true_eq]
    omega
theorem ok_turn (a b : List Ent) (fl : List Msg) : okC b a (fl.map turn1) = okC a b fl := by
  unfold okC
  rw [List.all_map, show msgB b a ∘ turn1 = msgB a b from funext fun m => msg_turn a b m, Bool.and_comm (validB b)]
theorem way_turn {a b : List Ent} : ∀ {fl : List Msg}, fl.all (msgB a b) = true → wayM b a 1 (fl.map turn1) = wayM a b 0 fl ∧ wayM b a 0 (fl.map turn1) = wayM a b 1 fl := by
  intro fl
  refine snoc_ind (P := fun fl => fl.all (msgB a b) = true → wayM b a 1 (fl.map turn1) = wayM a b 0 fl ∧ wayM b a 0 (fl.map turn1) = wayM a b 1 fl) (fun _ => ⟨rfl, rfl⟩) ?_ fl
  intro l m ih h
  rw [List.all_append, Bool.and_eq_true] at h
  obtain ⟨i1, i2⟩ := ih h.1
  have hm : msgB a b m = true := by simpa using h.2
  unfold msgB at hm
  simp only [Bool.and_eq_true, Bool.or_eq_true, decide_eq_true_eq] at hm
  rw [List.map_append, show [m].map turn1 = [turn1 m] from rfl, wayM_snoc, wayM_snoc, wayM_snoc, wayM_snoc, i1, i2]
  have e1 : (turn1 m).to = m.frm := rfl
  have e2 : (turn1 m).frm = m.to := rfl
  have e3 : (turn1 m).entry = m.entry := rfl
  have he : entOf b a (turn1 m) = entOf a b m := by
    unfold entOf
    rw [e2, e3]
    by_cases hf : m.frm = 0
    · rw [if_neg (by omega), if_pos hf]
    · rw [if_pos (by omega), if_neg hf]
  rw [he, e1]
  constructor
  · by_cases h1 : m.frm = 1
    · rw [if_pos h1, if_pos (by omega)]
    · rw [if_neg h1, if_neg (by omega)]
  · by_cases h1 : m.frm = 0
    · rw [if_pos h1, if_pos (by omega)]
    · rw [if_neg h1, if_neg (by omega)]
theorem srt_swap {X Y : List Ent} (h : ∀ x ∈ X, ∀ y ∈ Y, x.id ≠ y.id) : srt (Y ++ X) = srt (X ++ Y) :=
  (srt_one (srt_ok (X ++ Y)).1 ((Stb.swap fun y hy x hx e => h x hx y hy e.symm).trans (srt_ok (X ++ Y)).2)).symm
theorem srt_mem {l : List Ent} {x : Ent} : x ∈ srt l ↔ x ∈ l := (srt_ok l).2.mem
/-- What is told as missing on one side has no Id of the other side. -/
theorem in_far {a b : List Ent} {w w' : List (Int × Bool)} : ∀ x ∈ a.filter (goIn b w), ∀ y ∈ b.filter (goIn a w'), x.id ≠ y.id := by
  intro x hx y hy e
  obtain ⟨_, h1⟩ := List.mem_filter.1 hx
  obtain ⟨h2, _⟩ := List.mem_filter.1 hy
  unfold goIn at h1
  rw [Bool.and_eq_true, Option.isNone_iff_eq_none] at h1
  exact (found_get b x.id).2 h1.1 y h2 e.symm
theorem raw_turn {a b : List Ent} {fl : List Msg} (h : okC a b fl = true) : srt (rawI b a (fl.map turn1)) = srt (rawI a b fl) ∧ (srt (rawO b a (fl.map turn1))).length = (srt (rawO a b fl)).length ∧ ∀ x, x ∈ srt (rawO a b fl) → x ∈ srt (rawO b a (fl.map turn1)) := by
  have hf : fl.all (msgB a b) = true := by
    unfold okC at h
    rw [Bool.and_eq_true] at h
    exact h.1
  obtain ⟨h1, h2⟩ := way_turn hf
  unfold rawI rawO
  rw [h1, h2]
  refine ⟨srt_swap in_far, ?_, fun x hx => ?_⟩
  · rw [srt_len, srt_len, List.length_append, List.length_append, Nat.add_comm]
  · rw [srt_mem] at hx ⊢
    exact List.mem_append.2 (List.mem_append.1 hx).symm
theorem self_one {a : List Ent} (h : validB a = true) : rawI a a [] = [] ∧ rawO a a [] = [] := by
  have ho := (validB_iff.1 h).2
  have hf : ∀ e ∈ a, mget (foundM a) e.id = some e := fun e he => by
    obtain ⟨f1, f2⟩ := found_get a e.id
    cases hm : mget (foundM a) e.id with
    | none => exact absurd rfl (f2 hm e he)
    | some x =>
      obtain ⟨g1, g2⟩ := f1 x hm
      rw [ids_inj ho g1 he g2]
  have e1 : ∀ w, a.filter (goIn a w) = [] := fun w => by
    rw [List.filter_eq_nil_iff]
    intro e he
    unfold goIn
    rw [hf e he]
    exact Bool.noConfusion
  have e2 : ∀ w, a.filter (goOut a w) = [] := fun w => by
    rw [List.filter_eq_nil_iff]
    intro e he
    unfold goOut
    rw [hf e he]
    simp only
    rw [eqE_iff.2 rfl]
    exact Bool.noConfusion
  unfold rawI rawO
  rw [e1, e1, e2, e2]
  exact ⟨rfl, rfl⟩
theorem ok_self (a : List Ent) : okC a a [] = validB a := by
  unfold okC
  rw [List.all_nil, Bool.true_and, Bool.and_self]

theorem law_turns (a b : List Ent) (fl : List Msg) (ha : a.length ≤ 9223372036854775807) (hb : b.length ≤ 9223372036854775807) (hfl : fl.length ≤ 9223372036854775807) : APureV Tryd.prog 5 [encEs a, encEs b, encMs fl] (.bool true) := by
  have f1 := few45_ok a b fl 20
  refine apure_of (C := cx 96 [0, 1, 2, 6, 7, 8, 9, 10, 11, 12, 13, 14, 15, 16, 17, 23, 57, 61, 70]) (cxOk _ _) Tryd.func5 rfl (by decide) rfl (by exact Nat.le_of_ble_eq_true rfl) (by decide) ?_
  conv => whnf
  refine .one _ _ _ (fun _ => small_ok) (by repeat (first | exact .nil | (apply BorL.cons; first | exact lS rfl | exact lR rfl | exact lM rfl rfl | exact lL rfl | exact lX rfl | exact lN | exact lNl | exact lSm rfl | exact lIm rfl | exact lGm rfl | exact lP rfl | exact lQ rfl | exact lB rfl rfl rfl))) (by first | exact .inl rfl | exact .inr (by repeat (first | exact flats_nil | refine flats_cons (by first | exact flat_val _ rfl | exact flat_row (fun _ => rfl) | exact flat_lst (fun _ => rfl)) ?_))) (by first | exact .inr rfl | exact .inl rfl) ?_
  conv => whnf
  refine .one _ _ _ (fun _ => f1) (by repeat (first | exact .nil | (apply BorL.cons; first | exact lS rfl | exact lR rfl | exact lM rfl rfl | exact lL rfl | exact lX rfl | exact lN | exact lNl | exact lSm rfl | exact lIm rfl | exact lGm rfl | exact lP rfl | exact lQ rfl | exact lB rfl rfl rfl))) (by first | exact .inl rfl | exact .inr (by repeat (first | exact flats_nil | refine flats_cons (by first | exact flat_val _ rfl | exact flat_row (fun _ => rfl) | exact flat_lst (fun _ => rfl)) ?_))) (by first | exact .inr rfl | exact .inl rfl) ?_
  conv => whnf
  refine ⟨fun hc => ?_, fun hc => ?_⟩
  · conv => whnf
    rfl
  have h1 : few45 a b fl 20 = true := by simpa using hc
  unfold few45 at h1
  simp only [Bool.and_eq_true, decide_eq_true_eq] at h1
  have hla : a.length ≤ 20 := by omega
  have hlb : b.length ≤ 20 := by omega
  have cmp := compare_ok a b fl hla hlb hfl
  have trn := turned_ok fl (by omega)
  have cmp2 := compare_ok b a (fl.map turn1) hlb hla (by rw [List.length_map]; exact hfl)
  have cmp3 := compare_ok a a [] hla hla (by simp)
  have hv := valid_ok a (by omega)
  rw [ok_turn] at cmp2
  rw [ok_self] at cmp3
  cases hok : okC a b fl with
  | false =>
    rw [if_neg (by rw [hok]; exact Bool.noConfusion)] at cmp cmp2
    have sm := same_ok [] [] (by decide) (by decide)
    rw [decide_eq_true rfl] at sm
    conv => whnf
    refine .one _ _ _ (fun _ => cmp) (by repeat (first | exact .nil | (apply BorL.cons; first | exact lS rfl | exact lR rfl | exact lM rfl rfl | exact lL rfl | exact lX rfl | exact lN | exact lNl | exact lSm rfl | exact lIm rfl | exact lGm rfl | exact lP rfl | exact lQ rfl | exact lB rfl rfl rfl))) (by first | exact .inl rfl | exact .inr (by repeat (first | exact flats_nil | refine flats_cons (by first | exact flat_val _ rfl | exact flat_row (fun _ => rfl) | exact flat_lst (fun _ => rfl)) ?_))) (by first | exact .inr rfl | exact .inl rfl) ?_
    conv => whnf
    refine .one _ _ _ (fun _ => trn) (by repeat (first | exact .nil | (apply BorL.cons; first | exact lS rfl | exact lR rfl | exact lM rfl rfl | exact lL rfl | exact lX rfl | exact lN | exact lNl | exact lSm rfl | exact lIm rfl | exact lGm rfl | exact lP rfl | exact lQ rfl | exact lB rfl rfl rfl))) (by first | exact .inl rfl | exact .inr (by repeat (first | exact flats_nil | refine flats_cons (by first | exact flat_val _ rfl | exact flat_row (fun _ => rfl) | exact flat_lst (fun _ => rfl)) ?_))) (by first | exact .inr rfl | exact .inl rfl) ?_
    conv => whnf
    refine .one _ _ _ (fun _ => cmp2) (by repeat (first | exact .nil | (apply BorL.cons; first | exact lS rfl | exact lR rfl | exact lM rfl rfl | exact lL rfl | exact lX rfl | exact lN | exact lNl | exact lSm rfl | exact lIm rfl | exact lGm rfl | exact lP rfl | exact lQ rfl | exact lB rfl rfl rfl))) (by first | exact .inl rfl | exact .inr (by repeat (first | exact flats_nil | refine flats_cons (by first | exact flat_val _ rfl | exact flat_row (fun _ => rfl) | exact flat_lst (fun _ => rfl)) ?_))) (by first | exact .inr rfl | exact .inl rfl) ?_
    conv => whnf
    refine .one _ _ _ (fun _ => sm) (by repeat (first | exact .nil | (apply BorL.cons; first | exact lS rfl | exact lR rfl | exact lM rfl rfl | exact lL rfl | exact lX rfl | exact lN | exact lNl | exact lSm rfl | exact lIm rfl | exact lGm rfl | exact lP rfl | exact lQ rfl | exact lB rfl rfl rfl))) (by first | exact .inl rfl | exact .inr (by repeat (first | exact flats_nil | refine flats_cons (by first | exact flat_val _ rfl | exact flat_row (fun _ => rfl) | exact flat_lst (fun _ => rfl)) ?_))) (by first | exact .inr rfl | exact .inl rfl) ?_
    conv => whnf
    refine And.intro (fun h => absurd h (by decide)) (fun _ => ?_); conv => whnf
    refine loop_up (cxOk _ _) 0 (fun _ => True) (fun i => ⟨[(0, encEs a), (7, .bool true), (9, .nils), (12, .nils), (14, .int .i64 (i : Nat))], [], 0⟩) trivial ((wk_of [] rfl ⟨.base (.tree _ _ rfl rfl), .base (.tree _ _ rfl rfl), .base (.tree _ _ rfl rfl), .base (.tree _ _ rfl rfl), .base (.tree _ _ rfl rfl), trivial⟩ trivial)) ?_
    intro i hi _
    obtain rfl : i = 0 := by omega
    conv => whnf
    refine ⟨fun hz => ?_, fun hz => ?_⟩
    · simp at hz
    cases hva : validB a with
    | true =>
      rw [if_pos hva, (self_one hva).1, (self_one hva).2] at cmp3
      rw [hva] at hv
      conv => whnf
      refine .one _ _ _ (fun _ => cmp3) (by repeat (first | exact .nil | (apply BorL.cons; first | exact lS rfl | exact lR rfl | exact lM rfl rfl | exact lL rfl | exact lX rfl | exact lN | exact lNl | exact lSm rfl | exact lIm rfl | exact lGm rfl | exact lP rfl | exact lQ rfl | exact lB rfl rfl rfl))) (by first | exact .inl rfl | exact .inr (by repeat (first | exact flats_nil | refine flats_cons (by first | exact flat_val _ rfl | exact flat_row (fun _ => rfl) | exact flat_lst (fun _ => rfl)) ?_))) (by first | exact .inr rfl | exact .inl rfl) ?_
      conv => whnf
      refine .one _ _ _ (fun _ => hv) (by repeat (first | exact .nil | (apply BorL.cons; first | exact lS rfl | exact lR rfl | exact lM rfl rfl | exact lL rfl | exact lX rfl | exact lN | exact lNl | exact lSm rfl | exact lIm rfl | exact lGm rfl | exact lP rfl | exact lQ rfl | exact lB rfl rfl rfl))) (by first | exact .inl rfl | exact .inr (by repeat (first | exact flats_nil | refine flats_cons (by first | exact flat_val _ rfl | exact flat_row (fun _ => rfl) | exact flat_lst (fun _ => rfl)) ?_))) (by first | exact .inr rfl | exact .inl rfl) ?_
      conv => whnf
      rfl
    | false =>
      rw [if_neg (by rw [hva]; exact Bool.noConfusion)] at cmp3
      rw [hva] at hv
      conv => whnf
      refine .one _ _ _ (fun _ => cmp3) (by repeat (first | exact .nil | (apply BorL.cons; first | exact lS rfl | exact lR rfl | exact lM rfl rfl | exact lL rfl | exact lX rfl | exact lN | exact lNl | exact lSm rfl | exact lIm rfl | exact lGm rfl | exact lP rfl | exact lQ rfl | exact lB rfl rfl rfl))) (by first | exact .inl rfl | exact .inr (by repeat (first | exact flats_nil | refine flats_cons (by first | exact flat_val _ rfl | exact flat_row (fun _ => rfl) | exact flat_lst (fun _ => rfl)) ?_))) (by first | exact .inr rfl | exact .inl rfl) ?_
      conv => whnf
      refine .one _ _ _ (fun _ => hv) (by repeat (first | exact .nil | (apply BorL.cons; first | exact lS rfl | exact lR rfl | exact lM rfl rfl | exact lL rfl | exact lX rfl | exact lN | exact lNl | exact lSm rfl | exact lIm rfl | exact lGm rfl | exact lP rfl | exact lQ rfl | exact lB rfl rfl rfl))) (by first | exact .inl rfl | exact .inr (by repeat (first | exact flats_nil | refine flats_cons (by first | exact flat_val _ rfl | exact flat_row (fun _ => rfl) | exact flat_lst (fun _ => rfl)) ?_))) (by first | exact .inr rfl | exact .inl rfl) ?_
      conv => whnf
      rfl
  | true =>
    rw [if_pos hok] at cmp cmp2
    obtain ⟨r1, r2, r3⟩ := raw_turn hok
    rw [r1] at cmp2
    have q1 : (srt (rawI a b fl)).length ≤ 40 := by
      rw [srt_len]
      unfold rawI
      rw [List.length_append]
      have := List.length_filter_le (goIn b (wayM a b 1 fl)) a
      have := List.length_filter_le (goIn a (wayM a b 0 fl)) b
      omega
    have q2 : (srt (rawO a b fl)).length ≤ 40 := by
      rw [srt_len]
      unfold rawO
      rw [List.length_append]
      have := List.length_filter_le (goOut b (wayM a b 1 fl)) a
      have := List.length_filter_le (goOut a (wayM a b 0 fl)) b
      omega
    generalize srt (rawI a b fl) = I at *
    generalize srt (rawO a b fl) = O at *
    generalize srt (rawO b a (fl.map turn1)) = O2 at *
    have sm := same_ok I I (by omega) (by omega)
    rw [decide_eq_true rfl] at sm
    have hhas := fun e => has_ok O2 e (by omega)
    conv => whnf
    refine .one _ _ _ (fun _ => cmp) (by repeat (first | exact .nil | (apply BorL.cons; first | exact lS rfl | exact lR rfl | exact lM rfl rfl | exact lL rfl | exact lX rfl | exact lN | exact lNl | exact lSm rfl | exact lIm rfl | exact lGm rfl | exact lP rfl | exact lQ rfl | exact lB rfl rfl rfl))) (by first | exact .inl rfl | exact .inr (by repeat (first | exact flats_nil | refine flats_cons (by first | exact flat_val _ rfl | exact flat_row (fun _ => rfl) | exact flat_lst (fun _ => rfl)) ?_))) (by first | exact .inr rfl | exact .inl rfl) ?_
    conv => whnf
    refine .one _ _ _ (fun _ => trn) (by repeat (first | exact .nil | (apply BorL.cons; first | exact lS rfl | exact lR rfl | exact lM rfl rfl | exact lL rfl | exact lX rfl | exact lN | exact lNl | exact lSm rfl | exact lIm rfl | exact lGm rfl | exact lP rfl | exact lQ rfl | exact lB rfl rfl rfl))) (by first | exact .inl rfl | exact .inr (by repeat (first | exact flats_nil | refine flats_cons (by first | exact flat_val _ rfl | exact flat_row (fun _ => rfl) | exact flat_lst (fun _ => rfl)) ?_))) (by first | exact .inr rfl | exact .inl rfl) ?_
    conv => whnf
    refine .one _ _ _ (fun _ => cmp2) (by repeat (first | exact .nil | (apply BorL.cons; first | exact lS rfl | exact lR rfl | exact lM rfl rfl | exact lL rfl | exact lX rfl | exact lN | exact lNl | exact lSm rfl | exact lIm rfl | exact lGm rfl | exact lP rfl | exact lQ rfl | exact lB rfl rfl rfl))) (by first | exact .inl rfl | exact .inr (by repeat (first | exact flats_nil | refine flats_cons (by first | exact flat_val _ rfl | exact flat_row (fun _ => rfl) | exact flat_lst (fun _ => rfl)) ?_))) (by first | exact .inr rfl | exact .inl rfl) ?_
    conv => whnf
    refine .one _ _ _ (fun _ => sm) (by repeat (first | exact .nil | (apply BorL.cons; first | exact lS rfl | exact lR rfl | exact lM rfl rfl | exact lL rfl | exact lX rfl | exact lN | exact lNl | exact lSm rfl | exact lIm rfl | exact lGm rfl | exact lP rfl | exact lQ rfl | exact lB rfl rfl rfl))) (by first | exact .inl rfl | exact .inr (by repeat (first | exact flats_nil | refine flats_cons (by first | exact flat_val _ rfl | exact flat_row (fun _ => rfl) | exact flat_lst (fun _ => rfl)) ?_))) (by first | exact .inr rfl | exact .inl rfl) ?_
    conv => whnf
    rw [r2, decide_eq_true (rfl : ((O.length : Nat) : Int) = (O.length : Nat))]
    refine ⟨fun hz => ?_, fun hz => ?_⟩
    · simp at hz
    conv => whnf
    refine loop_up (cxOk _ _) O.length (fun _ => True) (fun i => ⟨[(0, encEs a), (7, .bool true), (9, .own 0), (12, .own 1), (14, .int .i64 (i : Nat))], [(0, .row 48 5 encE e0 O), (1, .row 48 5 encE e0 O2)], 2⟩) trivial ((wk_of [(0, .id 1), (1, .id 4)] rfl ⟨.base (.tree _ _ rfl rfl), .base (.tree _ _ rfl rfl), (by first | exact .base (.own _ _ rfl) | exact .base (.nilown _ rfl) | exact .base (.trunc _ _ _ rfl)), (by first | exact .base (.own _ _ rfl) | exact .base (.nilown _ rfl) | exact .base (.trunc _ _ _ rfl)), .base (.tree _ _ rfl rfl), trivial⟩ ⟨⟨_, rfl, (by first | exact .row _ _ _ _ _ _ _ rfl rfl | exact .lstrow _ _ _ _ _ _ _ rfl rfl | exact .nilrow _ _ _ _ _ rfl | exact .truncrow _ _ _ _ _ _ _ _ rfl (by omega) rfl)⟩, ⟨_, rfl, (by first | exact .row _ _ _ _ _ _ _ rfl rfl | exact .lstrow _ _ _ _ _ _ _ rfl rfl | exact .nilrow _ _ _ _ _ rfl | exact .truncrow _ _ _ _ _ _ _ _ rfl (by omega) rfl)⟩, trivial⟩)) ?_
    intro i hi _
    conv => whnf
    refine ⟨fun hc3 => ?_, fun hc3 => ?_⟩
    · simp only [decide_eq_true_eq] at hc3
      have hlt : i < O.length := by omega
      have hck : O.getD (i : Int).toNat e0 = O.getD i e0 := by rw [Int.toNat_natCast]
      have hb2 : sameB O2 (O.getD i e0) = true := by
        unfold sameB
        rw [List.any_eq_true]
        exact ⟨_, r3 _ (getD_mem hlt), decide_eq_true rfl⟩
      have hh := hhas (O.getD i e0)
      rw [hb2] at hh
      conv => whnf
      refine And.intro ⟨by omega, by omega⟩ ?_; conv => whnf
      refine And.intro (by omega) (And.intro rfl ?_); conv => whnf
      rw [hck]
      refine .one _ _ _ (fun _ => hh) (by repeat (first | exact .nil | (apply BorL.cons; first | exact lS rfl | exact lR rfl | exact lM rfl rfl | exact lL rfl | exact lX rfl | exact lN | exact lNl | exact lSm rfl | exact lIm rfl | exact lGm rfl | exact lP rfl | exact lQ rfl | exact lB rfl rfl rfl))) (by first | exact .inl rfl | exact .inr (by repeat (first | exact flats_nil | refine flats_cons (by first | exact flat_val _ rfl | exact flat_row (fun _ => rfl) | exact flat_lst (fun _ => rfl)) ?_))) (by first | exact .inr rfl | exact .inl rfl) ?_
      conv => whnf
      refine And.intro (fun h => absurd h (by decide)) (fun _ => ?_); conv => whnf
      refine And.intro ⟨by omega, by omega⟩ ?_; conv => whnf
      refine up hlt trivial ((wk_of [(0, .id 0), (1, .id 1)] rfl ⟨.base (.tree _ _ rfl rfl), .base (.tree _ _ rfl rfl), (by first | exact .base (.own _ _ rfl) | exact .base (.nilown _ rfl) | exact .base (.trunc _ _ _ rfl)), (by first | exact .base (.own _ _ rfl) | exact .base (.nilown _ rfl) | exact .base (.trunc _ _ _ rfl)), .base (.tree _ _ rfl rfl), trivial⟩ ⟨⟨_, rfl, (by first | exact .row _ _ _ _ _ _ _ rfl rfl | exact .lstrow _ _ _ _ _ _ _ rfl rfl | exact .nilrow _ _ _ _ _ rfl | exact .truncrow _ _ _ _ _ _ _ _ rfl (by omega) rfl)⟩, ⟨_, rfl, (by first | exact .row _ _ _ _ _ _ _ rfl rfl | exact .lstrow _ _ _ _ _ _ _ rfl rfl | exact .nilrow _ _ _ _ _ rfl | exact .truncrow _ _ _ _ _ _ _ _ rfl (by omega) rfl)⟩, trivial⟩))
    cases hva : validB a with
    | true =>
      rw [if_pos hva, (self_one hva).1, (self_one hva).2] at cmp3
      rw [hva] at hv
      conv => whnf
      refine .one _ _ _ (fun _ => cmp3) (by repeat (first | exact .nil | (apply BorL.cons; first | exact lS rfl | exact lR rfl | exact lM rfl rfl | exact lL rfl | exact lX rfl | exact lN | exact lNl | exact lSm rfl | exact lIm rfl | exact lGm rfl | exact lP rfl | exact lQ rfl | exact lB rfl rfl rfl))) (by first | exact .inl rfl | exact .inr (by repeat (first | exact flats_nil | refine flats_cons (by first | exact flat_val _ rfl | exact flat_row (fun _ => rfl) | exact flat_lst (fun _ => rfl)) ?_))) (by first | exact .inr rfl | exact .inl rfl) ?_
      conv => whnf
      refine .one _ _ _ (fun _ => hv) (by repeat (first | exact .nil | (apply BorL.cons; first | exact lS rfl | exact lR rfl | exact lM rfl rfl | exact lL rfl | exact lX rfl | exact lN | exact lNl | exact lSm rfl | exact lIm rfl | exact lGm rfl | exact lP rfl | exact lQ rfl | exact lB rfl rfl rfl))) (by first | exact .inl rfl | exact .inr (by repeat (first | exact flats_nil | refine flats_cons (by first | exact flat_val _ rfl | exact flat_row (fun _ => rfl) | exact flat_lst (fun _ => rfl)) ?_))) (by first | exact .inr rfl | exact .inl rfl) ?_
      conv => whnf
      rfl
    | false =>
      rw [if_neg (by rw [hva]; exact Bool.noConfusion)] at cmp3
      rw [hva] at hv
      conv => whnf
      refine .one _ _ _ (fun _ => cmp3) (by repeat (first | exact .nil | (apply BorL.cons; first | exact lS rfl | exact lR rfl | exact lM rfl rfl | exact lL rfl | exact lX rfl | exact lN | exact lNl | exact lSm rfl | exact lIm rfl | exact lGm rfl | exact lP rfl | exact lQ rfl | exact lB rfl rfl rfl))) (by first | exact .inl rfl | exact .inr (by repeat (first | exact flats_nil | refine flats_cons (by first | exact flat_val _ rfl | exact flat_row (fun _ => rfl) | exact flat_lst (fun _ => rfl)) ?_))) (by first | exact .inr rfl | exact .inl rfl) ?_
      conv => whnf
      refine .one _ _ _ (fun _ => hv) (by repeat (first | exact .nil | (apply BorL.cons; first | exact lS rfl | exact lR rfl | exact lM rfl rfl | exact lL rfl | exact lX rfl | exact lN | exact lNl | exact lSm rfl | exact lIm rfl | exact lGm rfl | exact lP rfl | exact lQ rfl | exact lB rfl rfl rfl))) (by first | exact .inl rfl | exact .inr (by repeat (first | exact flats_nil | refine flats_cons (by first | exact flat_val _ rfl | exact flat_row (fun _ => rfl) | exact flat_lst (fun _ => rfl)) ?_))) (by first | exact .inr rfl | exact .inl rfl) ?_
      conv => whnf
      rfl

end Go.Proofs.YtjlnaogechkjdaaDoor
