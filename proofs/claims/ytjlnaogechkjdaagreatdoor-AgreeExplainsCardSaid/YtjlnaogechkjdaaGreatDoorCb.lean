import Derived.Test.YtjlnaogechkjdaaGreatDoorCa
import Derived.Test.YtjlnaogechkjdaaGreatDoorLc
import Derived.Lay
import Derived.Lib.LaidTab
import Derived.LaidLaws
import Derived.KernelRfl
import Derived.Test.YtjlnaogechkjdaaGreatDoorRows

namespace Go.Proofs.YtjlnaogechkjdaaGreatDoor
open Go.Own
set_option maxHeartbeats 8000000
set_option maxRecDepth 100000

theorem insert_any (P A Q : List Ent) (hb : P.length + A.length + Q.length ≤ 1000000) {a b : Int} {xs : List Ent}
    (ha : a = (P.length : Nat)) (hb' : b = ((P.length + A.length : Nat) : Int)) (hx : xs = P ++ (A ++ Q)) :
    AIO Tryz.prog 46 [.own 0, .int .i64 a, .int .i64 b, .fn (.func 20) [] []] [.row 33 5 encE e0 xs] (fun bs rs => ∃ M, Asc M ∧ Stb A M ∧ bs = [.row 33 5 encE e0 (P ++ (M ++ Q))] ∧ rs = []) := by
  rcases Nat.eq_zero_or_pos A.length with h | h
  · have : A = [] := List.eq_nil_of_length_eq_zero h
    subst this
    subst ha hb' hx
    refine aio_of (C := cxP 1 53 [0, 1, 2, 3, 8, 9, 14, 34]) (cxPOk _ _ _) Tryz.func46 rfl (by decide) rfl (by exact Nat.le_of_ble_eq_true rfl) (by decide) rfl rfl ?_
    conv => whnf
    refine And.intro ⟨by omega, by omega⟩ ?_; conv => whnf
    refine loop_up (cxPOk _ _ _) 0 (fun _ => True) (fun k => ⟨[(0, .own 0), (1, .int .i64 (P.length : Nat)), (2, .int .i64 ((P.length + ([] : List Ent).length : Nat) : Int)), (3, .fn (.func 20) [] []), (8, .int .i64 ((P.length : Nat) + 1))], [(0, .row 33 5 encE e0 (P ++ ([] ++ Q)))], 1⟩) trivial ((wk_of [(0, .id 0)] rfl ⟨(by first | exact .base (.own _ _ rfl) | exact .base (.nilown _ rfl) | exact .base (.trunc _ _ _ rfl)), .base (.tree _ _ rfl rfl), .base (.tree _ _ rfl rfl), .fn _ _ _ _ _ (by repeat (first | exact .nil | refine .cons (by first | exact .tree _ _ rfl rfl | exact .ptr _ _ _ rfl | exact .own _ _ rfl) ?_)) (by repeat (first | exact .nil | refine .cons (by first | exact .tree _ _ rfl rfl | exact .ptr _ _ _ rfl | exact .own _ _ rfl) ?_)), .base (.tree _ _ rfl rfl), trivial⟩ ⟨⟨_, rfl, (by first | exact .row _ _ _ _ _ _ _ rfl rfl | exact .lstrow _ _ _ _ _ _ _ rfl rfl | exact .nilrow _ _ _ _ _ rfl | exact .truncrow _ _ _ _ _ _ _ _ rfl (by omega) rfl)⟩, trivial⟩)) ?_
    intro k hk _
    conv => whnf
    refine ⟨fun hc => ?_, fun hc => ?_⟩
    · simp only [decide_eq_true_eq, List.length_nil] at hc
      omega
    · conv => whnf
      exact ⟨[], asc_nil, Stb.refl _, rfl, rfl⟩
  · exact insert_ok P A Q h hb ha hb' hx

theorem stable_ok (xs : List Ent) (hn : xs.length ≤ 40) {n : Int} (hn' : n = (xs.length : Nat)) :
    AIO Tryz.prog 34 [.own 0, .int .i64 n, .fn (.func 20) [] []] [.row 33 5 encE e0 xs] (fun bs rs => ∃ M, Asc M ∧ Stb xs M ∧ bs = [.row 33 5 encE e0 M] ∧ rs = []) := by
  subst hn'
  refine aio_of (C := cxP 1 63 [0, 1, 2, 6, 7, 8, 9, 13, 30, 35, 54]) (cxPOk _ _ _) Tryz.func34 rfl (by decide) rfl (by exact Nat.le_of_ble_eq_true rfl) (by decide) rfl rfl ?_
  conv => whnf
  refine loop_inv (cxPOk _ _ _) (σ := Nat × List Ent) (fun s => 20 * s.1 ≤ xs.length ∧ Stb xs s.2 ∧ (s.1 = 0 ∨ Asc (s.2.take 20)) ∧ (s.1 ≤ 1 ∨ Asc (s.2.drop 20))) (fun s => 3 - s.1) (fun s => ⟨[(0, .own 0), (1, .int .i64 (xs.length : Nat)), (2, .fn (.func 20) [] []), (6, .int .i64 20), (7, .int .i64 ((20 * (s.1) : Nat) : Int)), (8, .int .i64 ((20 * (s.1) + 20 : Nat) : Int))], [(0, .row 33 5 encE e0 (s.2))], 1⟩) (0, xs) ⟨Nat.zero_le _, Stb.refl _, .inl rfl, .inl (Nat.zero_le _)⟩ ((wk_of [(0, .id 0)] rfl ⟨(by first | exact .base (.own _ _ rfl) | exact .base (.nilown _ rfl) | exact .base (.trunc _ _ _ rfl)), .base (.tree _ _ rfl rfl), .fn _ _ _ _ _ (by repeat (first | exact .nil | refine .cons (by first | exact .tree _ _ rfl rfl | exact .ptr _ _ _ rfl | exact .own _ _ rfl) ?_)) (by repeat (first | exact .nil | refine .cons (by first | exact .tree _ _ rfl rfl | exact .ptr _ _ _ rfl | exact .own _ _ rfl) ?_)), .base (.tree _ _ rfl rfl), .base (.tree _ _ rfl rfl), .base (.tree _ _ rfl rfl), trivial⟩ ⟨⟨_, rfl, (by first | exact .row _ _ _ _ _ _ _ rfl rfl | exact .lstrow _ _ _ _ _ _ _ rfl rfl | exact .nilrow _ _ _ _ _ rfl | exact .truncrow _ _ _ _ _ _ _ _ rfl (by omega) rfl)⟩, trivial⟩)) ?_
  rintro ⟨k, l⟩ ⟨h1, h2, h3, h4⟩
  dsimp only at h1 h2 h3 h4
  change evCode _ _ ⟨[(0, .own 0), (1, .int .i64 (xs.length : Nat)), (2, .fn (.func 20) [] []), (6, .int .i64 20), (7, .int .i64 ((20 * k : Nat) : Int)), (8, .int .i64 ((20 * k + 20 : Nat) : Int))], [(0, .row 33 5 encE e0 l)], 1⟩ _
  have hl := h2.len
  conv => whnf
  refine ⟨fun hc => ?_, fun hc => ?_⟩
  · simp only [decide_eq_true_eq] at hc
    have e1 := List.take_append_drop (20 * k) l
    have e2 := List.take_append_drop 20 (l.drop (20 * k))
    have l1 : (l.take (20 * k)).length = 20 * k := by rw [List.length_take]; omega
    have l2 : ((l.drop (20 * k)).take 20).length = 20 := by rw [List.length_take, List.length_drop]; omega
    have hcall := insert_any (l.take (20 * k)) ((l.drop (20 * k)).take 20) ((l.drop (20 * k)).drop 20) (by rw [l1, l2, List.length_drop, List.length_drop]; omega) (a := ((20 * k : Nat) : Int)) (b := ((20 * k + 20 : Nat) : Int)) (xs := l) (by omega) (by omega) (by rw [e2, e1])
    conv => whnf
    refine .raw _ _ rfl (fun h => by cases h) (callio_sem (hcall) [0] _ rfl rfl ⟨rfl, trivial⟩ (by repeat (first | exact .nil | (apply BorL.cons; first | exact .map _ _ rfl | exact .ptr _ _ _ rfl | exact .own _ _ rfl | exact .fnp _ _ _ _ rfl | (apply BorIO.lend; first | exact lS rfl | exact lR rfl | exact lM rfl rfl | exact lL rfl | exact lX rfl | exact lN | exact lNl | exact lSm rfl | exact lIm rfl | exact lGm rfl | exact lP rfl | exact lQ rfl | exact lB rfl rfl rfl)))) rfl (by first | exact .inl rfl | exact .inr (fun b rs h => by first | obtain ⟨rfl, rfl⟩ := h | obtain ⟨_, _, _, rfl, rfl⟩ := h; exact ⟨by repeat (first | exact flats_nil | refine flats_cons (by first | exact flat_val _ rfl | exact flat_row (fun _ => rfl) | exact flat_lst (fun _ => rfl)) ?_), by repeat (first | exact flats0 | refine flats1 (by first | exact flatB_row (fun _ => rfl) | exact flatB_lst (fun _ => rfl) | exact flatB_smap (fun _ => rfl) | exact flatB_imap (fun _ => rfl) | exact flatB_cells rfl) ?_)⟩))) ?_
    rintro r ⟨b, rs, ⟨M, sM, tM, rfl, rfl⟩, rfl⟩
    refine ⟨tn_ge _ _, ?_⟩
    conv => whnf
    refine And.intro ⟨by omega, by omega⟩ ?_; conv => whnf
    have lM := tM.len
    refine ⟨(k + 1, l.take (20 * k) ++ (M ++ (l.drop (20 * k)).drop 20)), ⟨by show 20 * (k + 1) ≤ _; omega, ?_, ?_, ?_⟩, (show 3 - (k + 1) < 3 - k by omega), (wk_of [(0, .id 0)] rfl ⟨(by first | exact .base (.own _ _ rfl) | exact .base (.nilown _ rfl) | exact .base (.trunc _ _ _ rfl)), .base (.tree _ _ rfl rfl), .fn _ _ _ _ _ (by repeat (first | exact .nil | refine .cons (by first | exact .tree _ _ rfl rfl | exact .ptr _ _ _ rfl | exact .own _ _ rfl) ?_)) (by repeat (first | exact .nil | refine .cons (by first | exact .tree _ _ rfl rfl | exact .ptr _ _ _ rfl | exact .own _ _ rfl) ?_)), .base (.tree _ _ rfl rfl), .base (.tree _ _ rfl rfl), .base (.tree _ _ rfl rfl), trivial⟩ ⟨⟨_, rfl, (by first | exact .row _ _ _ _ _ _ _ rfl rfl | exact .lstrow _ _ _ _ _ _ _ rfl rfl | exact .nilrow _ _ _ _ _ rfl | exact .truncrow _ _ _ _ _ _ _ _ rfl (by omega) rfl)⟩, trivial⟩)⟩
    · refine h2.trans ?_
      conv => lhs; rw [← e1, ← e2]
      exact (Stb.refl _).app (tM.app (Stb.refl _))
    · right
      rcases Nat.eq_zero_or_pos k with hk | hk
      · subst hk
        show Asc ((l.take (20 * 0) ++ (M ++ _)).take 20)
        rw [show l.take (20 * 0) = [] from rfl, List.nil_append, List.take_left' (by omega)]
        exact sM
      · obtain rfl : k = 1 := by omega
        show Asc ((l.take (20 * 1) ++ (M ++ _)).take 20)
        rw [List.take_left' (by omega)]
        exact h3.elim (fun h => absurd h (by decide)) id
    · rcases Nat.eq_zero_or_pos k with hk | hk
      · left
        show k + 1 ≤ 1
        omega
      · right
        obtain rfl : k = 1 := by omega
        show Asc ((l.take (20 * 1) ++ (M ++ _)).drop 20)
        rw [List.drop_left' (by omega), List.drop_of_length_le (l := l.drop (20 * 1)) (by rw [List.length_drop]; omega), List.append_nil]
        exact sM
  · simp only [decide_eq_false_iff_not] at hc
    have e1 := List.take_append_drop (20 * k) l
    have l1 : (l.take (20 * k)).length = 20 * k := by rw [List.length_take]; omega
    have hcall := insert_any (l.take (20 * k)) (l.drop (20 * k)) [] (by rw [l1, List.length_drop, List.length_nil]; omega) (a := ((20 * k : Nat) : Int)) (b := ((xs.length : Nat) : Int)) (xs := l) (by omega) (by rw [l1, List.length_drop]; omega) (by rw [List.append_nil, e1])
    conv => whnf
    refine .raw _ _ rfl (fun h => by cases h) (callio_sem (hcall) [0] _ rfl rfl ⟨rfl, trivial⟩ (by repeat (first | exact .nil | (apply BorL.cons; first | exact .map _ _ rfl | exact .ptr _ _ _ rfl | exact .own _ _ rfl | exact .fnp _ _ _ _ rfl | (apply BorIO.lend; first | exact lS rfl | exact lR rfl | exact lM rfl rfl | exact lL rfl | exact lX rfl | exact lN | exact lNl | exact lSm rfl | exact lIm rfl | exact lGm rfl | exact lP rfl | exact lQ rfl | exact lB rfl rfl rfl)))) rfl (by first | exact .inl rfl | exact .inr (fun b rs h => by first | obtain ⟨rfl, rfl⟩ := h | obtain ⟨_, _, _, rfl, rfl⟩ := h; exact ⟨by repeat (first | exact flats_nil | refine flats_cons (by first | exact flat_val _ rfl | exact flat_row (fun _ => rfl) | exact flat_lst (fun _ => rfl)) ?_), by repeat (first | exact flats0 | refine flats1 (by first | exact flatB_row (fun _ => rfl) | exact flatB_lst (fun _ => rfl) | exact flatB_smap (fun _ => rfl) | exact flatB_imap (fun _ => rfl) | exact flatB_cells rfl) ?_)⟩))) ?_
    rintro r ⟨b, rs, ⟨M, sM, tM, rfl, rfl⟩, rfl⟩
    refine ⟨tn_ge _ _, ?_⟩
    rw [show M ++ [] = M from List.append_nil M]
    have lM := tM.len
    rw [List.length_drop] at lM
    have tL : Stb xs (l.take (20 * k) ++ M) := by
      refine h2.trans ?_
      conv => lhs; rw [← e1]
      exact (Stb.refl _).app tM
    obtain ⟨c1, c2⟩ : Asc ((l.take (20 * k) ++ M).take 20) ∧ Asc ((l.take (20 * k) ++ M).drop 20) := by
      rcases (by omega : k = 0 ∨ k = 1 ∨ k = 2) with rfl | rfl | rfl
      · rw [show l.take (20 * 0) = [] from rfl, List.nil_append]
        have := List.take_append_drop 20 M
        exact ⟨Asc.left (b := M.drop 20) (by rw [this]; exact sM), Asc.right (a := M.take 20) (by rw [this]; exact sM)⟩
      · rw [List.take_left' (by omega), List.drop_left' (by omega)]
        exact ⟨h3.elim (fun h => absurd h (by decide)) id, sM⟩
      · rw [List.eq_nil_of_length_eq_zero (show M.length = 0 by omega), List.append_nil, List.take_of_length_le (l := l) (by omega)]
        exact ⟨h3.elim (fun h => absurd h (by decide)) id, h4.elim (fun h => absurd h (by decide)) id⟩
    generalize l.take (20 * k) ++ M = L at *
    have lL := tL.len
    conv => whnf
    refine loop_inv (cxPOk _ _ _) (σ := Nat × List Ent) (fun s => s.1 ≤ 1 ∧ Stb xs s.2 ∧ (s.1 = 0 → Asc (s.2.take 20) ∧ Asc (s.2.drop 20)) ∧ (s.1 = 1 → Asc s.2)) (fun s => 2 - s.1) (fun s => ⟨[(0, .own 0), (1, .int .i64 (xs.length : Nat)), (2, .fn (.func 20) [] []), (6, .int .i64 ((20 + 20 * (s.1) : Nat) : Int))], [(0, .row 33 5 encE e0 (s.2))], 1⟩) (0, L) ⟨Nat.zero_le _, tL, fun _ => ⟨c1, c2⟩, fun h => absurd (show (0 : Nat) = 1 from h) (by decide)⟩ ((wk_of [(0, .id 0)] rfl ⟨(by first | exact .base (.own _ _ rfl) | exact .base (.nilown _ rfl) | exact .base (.trunc _ _ _ rfl)), .base (.tree _ _ rfl rfl), .fn _ _ _ _ _ (by repeat (first | exact .nil | refine .cons (by first | exact .tree _ _ rfl rfl | exact .ptr _ _ _ rfl | exact .own _ _ rfl) ?_)) (by repeat (first | exact .nil | refine .cons (by first | exact .tree _ _ rfl rfl | exact .ptr _ _ _ rfl | exact .own _ _ rfl) ?_)), .base (.tree _ _ rfl rfl), trivial⟩ ⟨⟨_, rfl, (by first | exact .row _ _ _ _ _ _ _ rfl rfl | exact .lstrow _ _ _ _ _ _ _ rfl rfl | exact .nilrow _ _ _ _ _ rfl | exact .truncrow _ _ _ _ _ _ _ _ rfl (by omega) rfl)⟩, trivial⟩)) ?_
    clear hcall sM tM h2 h3 h4 e1 l1 lM c1 c2 tL lL
    rintro ⟨c, L⟩ ⟨g1, tL, g2, g3⟩
    dsimp only at g1 tL g2 g3
    change evCode _ _ ⟨[(0, .own 0), (1, .int .i64 (xs.length : Nat)), (2, .fn (.func 20) [] []), (6, .int .i64 ((20 + 20 * c : Nat) : Int))], [(0, .row 33 5 encE e0 L)], 1⟩ _
    have lL := tL.len
    conv => whnf
    refine ⟨fun hd => ?_, fun hd => ?_⟩
    · simp only [decide_eq_true_eq] at hd
      obtain rfl : c = 0 := by omega
      obtain ⟨c1, c2⟩ := g2 rfl
      have eL := List.take_append_drop 20 L
      have lT : (L.take 20).length = 20 := by rw [List.length_take]; omega
      conv => whnf
      refine And.intro ⟨by omega, by omega⟩ ?_; conv => whnf
      refine loop_inv (cxPOk _ _ _) (σ := Nat × List Ent) (fun s => s.1 ≤ 1 ∧ Stb xs s.2 ∧ (s.1 = 0 → Asc (s.2.take 20) ∧ Asc (s.2.drop 20)) ∧ (s.1 = 1 → Asc s.2 ∧ xs.length = 40)) (fun s => 2 - s.1) (fun s => ⟨[(0, .own 0), (1, .int .i64 (xs.length : Nat)), (2, .fn (.func 20) [] []), (6, .int .i64 20), (7, .int .i64 ((40 * (s.1) : Nat) : Int)), (8, .int .i64 ((40 + 40 * (s.1) : Nat) : Int))], [(0, .row 33 5 encE e0 (s.2))], 1⟩) (0, L) ⟨Nat.zero_le _, tL, fun _ => ⟨c1, c2⟩, fun h => absurd (show (0 : Nat) = 1 from h) (by decide)⟩ ((wk_of [(0, .id 0)] rfl ⟨(by first | exact .base (.own _ _ rfl) | exact .base (.nilown _ rfl) | exact .base (.trunc _ _ _ rfl)), .base (.tree _ _ rfl rfl), .fn _ _ _ _ _ (by repeat (first | exact .nil | refine .cons (by first | exact .tree _ _ rfl rfl | exact .ptr _ _ _ rfl | exact .own _ _ rfl) ?_)) (by repeat (first | exact .nil | refine .cons (by first | exact .tree _ _ rfl rfl | exact .ptr _ _ _ rfl | exact .own _ _ rfl) ?_)), .base (.tree _ _ rfl rfl), .base (.tree _ _ rfl rfl), .base (.tree _ _ rfl rfl), trivial⟩ ⟨⟨_, rfl, (by first | exact .row _ _ _ _ _ _ _ rfl rfl | exact .lstrow _ _ _ _ _ _ _ rfl rfl | exact .nilrow _ _ _ _ _ rfl | exact .truncrow _ _ _ _ _ _ _ _ rfl (by omega) rfl)⟩, trivial⟩)) ?_
      clear c1 c2 eL lT tL g2 g3 lL
      rintro ⟨d, L⟩ ⟨g1, tL, g2, g3⟩
      dsimp only at g1 tL g2 g3
      change evCode _ _ ⟨[(0, .own 0), (1, .int .i64 (xs.length : Nat)), (2, .fn (.func 20) [] []), (6, .int .i64 20), (7, .int .i64 ((40 * d : Nat) : Int)), (8, .int .i64 ((40 + 40 * d : Nat) : Int))], [(0, .row 33 5 encE e0 L)], 1⟩ _
      have lL := tL.len
      have eL := List.take_append_drop 20 L
      have lT : (L.take 20).length = 20 := by rw [List.length_take]; omega
      have lD : (L.drop 20).length = xs.length - 20 := by rw [List.length_drop]; omega
      have hmerge : d = 0 → ∀ {a m b : Int} {ys : List Ent}, a = 0 → m = 20 → b = ((xs.length : Nat) : Int) → ys = L → AIO Tryz.prog 47 [.own 0, .int .i64 a, .int .i64 m, .int .i64 b, .fn (.func 20) [] []] [.row 33 5 encE e0 ys] (fun bs rs => ∃ M, (Asc M ∧ Stb xs M) ∧ True ∧ bs = [.row 33 5 encE e0 M] ∧ rs = []) := by
        intro hd0 a m b ys ha hm hb hy
        obtain ⟨c1, c2⟩ := g2 hd0
        refine (merge_ok _ [] (L.take 20) (L.drop 20) [] rfl (by omega) (by omega) c1 c2 (by simp only [List.length_nil]; omega) (by simpa using ha) (by rw [hm, lT]; rfl) (by rw [hb, lT, lD]; simp only [List.length_nil]; omega) (by rw [hy, List.append_nil, eL]; rfl)).mono fun b rs ⟨M, sM, tM, hb, hr⟩ => ⟨M, ⟨sM, ?_⟩, trivial, ?_, hr⟩
        · rw [eL] at tM
          exact tL.trans tM
        · rw [hb, List.append_nil, List.nil_append]
      conv => whnf
      refine ⟨fun he => ?_, fun he => ?_⟩
      · simp only [decide_eq_true_eq] at he
        obtain rfl : d = 0 := by omega
        have hcall := hmerge rfl (a := ((40 * 0 : Nat) : Int)) (m := ((40 * 0 : Nat) : Int) + 20) (b := ((40 + 40 * 0 : Nat) : Int)) (ys := L) rfl rfl (by omega) rfl
        conv => whnf
        refine And.intro ⟨by omega, by omega⟩ ?_; conv => whnf
        refine .raw _ _ rfl (fun h => by cases h) (callio_sem (hcall) [0] _ rfl rfl ⟨rfl, trivial⟩ (by repeat (first | exact .nil | (apply BorL.cons; first | exact .map _ _ rfl | exact .ptr _ _ _ rfl | exact .own _ _ rfl | exact .fnp _ _ _ _ rfl | (apply BorIO.lend; first | exact lS rfl | exact lR rfl | exact lM rfl rfl | exact lL rfl | exact lX rfl | exact lN | exact lNl | exact lSm rfl | exact lIm rfl | exact lGm rfl | exact lP rfl | exact lQ rfl | exact lB rfl rfl rfl)))) rfl (by first | exact .inl rfl | exact .inr (fun b rs h => by first | obtain ⟨rfl, rfl⟩ := h | obtain ⟨_, _, _, rfl, rfl⟩ := h; exact ⟨by repeat (first | exact flats_nil | refine flats_cons (by first | exact flat_val _ rfl | exact flat_row (fun _ => rfl) | exact flat_lst (fun _ => rfl)) ?_), by repeat (first | exact flats0 | refine flats1 (by first | exact flatB_row (fun _ => rfl) | exact flatB_lst (fun _ => rfl) | exact flatB_smap (fun _ => rfl) | exact flatB_imap (fun _ => rfl) | exact flatB_cells rfl) ?_)⟩))) ?_
        rintro r ⟨b, rs, ⟨M, ⟨sM, tM⟩, _, rfl, rfl⟩, rfl⟩
        refine ⟨tn_ge _ _, ?_⟩
        conv => whnf
        refine And.intro ⟨by omega, by omega⟩ ?_; conv => whnf
        refine And.intro ⟨by omega, by omega⟩ ?_; conv => whnf
        refine ⟨(1, M), ⟨Nat.le_refl _, tM, fun h => absurd (show (1 : Nat) = 0 from h) (by decide), fun _ => ⟨sM, by omega⟩⟩, (show 2 - 1 < 2 - 0 by decide), (wk_of [(0, .id 0)] rfl ⟨(by first | exact .base (.own _ _ rfl) | exact .base (.nilown _ rfl) | exact .base (.trunc _ _ _ rfl)), .base (.tree _ _ rfl rfl), .fn _ _ _ _ _ (by repeat (first | exact .nil | refine .cons (by first | exact .tree _ _ rfl rfl | exact .ptr _ _ _ rfl | exact .own _ _ rfl) ?_)) (by repeat (first | exact .nil | refine .cons (by first | exact .tree _ _ rfl rfl | exact .ptr _ _ _ rfl | exact .own _ _ rfl) ?_)), .base (.tree _ _ rfl rfl), .base (.tree _ _ rfl rfl), .base (.tree _ _ rfl rfl), trivial⟩ ⟨⟨_, rfl, (by first | exact .row _ _ _ _ _ _ _ rfl rfl | exact .lstrow _ _ _ _ _ _ _ rfl rfl | exact .nilrow _ _ _ _ _ rfl | exact .truncrow _ _ _ _ _ _ _ _ rfl (by omega) rfl)⟩, trivial⟩)⟩
      · simp only [decide_eq_false_iff_not] at he
        conv => whnf
        refine And.intro ⟨by omega, by omega⟩ ?_; conv => whnf
        refine ⟨fun hf => ?_, fun hf => ?_⟩
        · simp only [decide_eq_true_eq] at hf
          obtain rfl : d = 0 := by
            rcases (by omega : d = 0 ∨ d = 1) with h | h
            · exact h
            · subst h; omega
          have hcall := hmerge rfl (a := ((40 * 0 : Nat) : Int)) (m := ((40 * 0 : Nat) : Int) + 20) (b := ((xs.length : Nat) : Int)) (ys := L) rfl rfl rfl rfl
          conv => whnf
          refine .raw _ _ rfl (fun h => by cases h) (callio_sem (hcall) [0] _ rfl rfl ⟨rfl, trivial⟩ (by repeat (first | exact .nil | (apply BorL.cons; first | exact .map _ _ rfl | exact .ptr _ _ _ rfl | exact .own _ _ rfl | exact .fnp _ _ _ _ rfl | (apply BorIO.lend; first | exact lS rfl | exact lR rfl | exact lM rfl rfl | exact lL rfl | exact lX rfl | exact lN | exact lNl | exact lSm rfl | exact lIm rfl | exact lGm rfl | exact lP rfl | exact lQ rfl | exact lB rfl rfl rfl)))) rfl (by first | exact .inl rfl | exact .inr (fun b rs h => by first | obtain ⟨rfl, rfl⟩ := h | obtain ⟨_, _, _, rfl, rfl⟩ := h; exact ⟨by repeat (first | exact flats_nil | refine flats_cons (by first | exact flat_val _ rfl | exact flat_row (fun _ => rfl) | exact flat_lst (fun _ => rfl)) ?_), by repeat (first | exact flats0 | refine flats1 (by first | exact flatB_row (fun _ => rfl) | exact flatB_lst (fun _ => rfl) | exact flatB_smap (fun _ => rfl) | exact flatB_imap (fun _ => rfl) | exact flatB_cells rfl) ?_)⟩))) ?_
          rintro r ⟨b, rs, ⟨M, ⟨sM, tM⟩, _, rfl, rfl⟩, rfl⟩
          refine ⟨tn_ge _ _, ?_⟩
          conv => whnf
          refine And.intro ⟨by omega, by omega⟩ ?_; conv => whnf
          refine ⟨(1, M), ⟨Nat.le_refl _, tM, fun h => absurd (show (1 : Nat) = 0 from h) (by decide), fun _ => sM⟩, (show 2 - 1 < 2 - 0 by decide), (wk_of [(0, .id 0)] rfl ⟨(by first | exact .base (.own _ _ rfl) | exact .base (.nilown _ rfl) | exact .base (.trunc _ _ _ rfl)), .base (.tree _ _ rfl rfl), .fn _ _ _ _ _ (by repeat (first | exact .nil | refine .cons (by first | exact .tree _ _ rfl rfl | exact .ptr _ _ _ rfl | exact .own _ _ rfl) ?_)) (by repeat (first | exact .nil | refine .cons (by first | exact .tree _ _ rfl rfl | exact .ptr _ _ _ rfl | exact .own _ _ rfl) ?_)), .base (.tree _ _ rfl rfl), trivial⟩ ⟨⟨_, rfl, (by first | exact .row _ _ _ _ _ _ _ rfl rfl | exact .lstrow _ _ _ _ _ _ _ rfl rfl | exact .nilrow _ _ _ _ _ rfl | exact .truncrow _ _ _ _ _ _ _ _ rfl (by omega) rfl)⟩, trivial⟩)⟩
        · simp only [decide_eq_false_iff_not] at hf
          obtain rfl : d = 1 := by omega
          obtain ⟨sL, _⟩ := g3 rfl
          conv => whnf
          refine And.intro ⟨by omega, by omega⟩ ?_; conv => whnf
          refine ⟨(1, L), ⟨Nat.le_refl _, tL, fun h => absurd (show (1 : Nat) = 0 from h) (by decide), fun _ => sL⟩, (show 2 - 1 < 2 - 0 by decide), (wk_of [(0, .id 0)] rfl ⟨(by first | exact .base (.own _ _ rfl) | exact .base (.nilown _ rfl) | exact .base (.trunc _ _ _ rfl)), .base (.tree _ _ rfl rfl), .fn _ _ _ _ _ (by repeat (first | exact .nil | refine .cons (by first | exact .tree _ _ rfl rfl | exact .ptr _ _ _ rfl | exact .own _ _ rfl) ?_)) (by repeat (first | exact .nil | refine .cons (by first | exact .tree _ _ rfl rfl | exact .ptr _ _ _ rfl | exact .own _ _ rfl) ?_)), .base (.tree _ _ rfl rfl), trivial⟩ ⟨⟨_, rfl, (by first | exact .row _ _ _ _ _ _ _ rfl rfl | exact .lstrow _ _ _ _ _ _ _ rfl rfl | exact .nilrow _ _ _ _ _ rfl | exact .truncrow _ _ _ _ _ _ _ _ rfl (by omega) rfl)⟩, trivial⟩)⟩
    · simp only [decide_eq_false_iff_not] at hd
      have sL : Asc L := by
        rcases (by omega : c = 0 ∨ c = 1) with rfl | rfl
        · have := (g2 rfl).1
          rwa [List.take_of_length_le (by omega)] at this
        · exact g3 rfl
      conv => whnf
      exact ⟨L, sL, tL, rfl, rfl⟩

end Go.Proofs.YtjlnaogechkjdaaGreatDoor


namespace Go.Proofs.YtjlnaogechkjdaaGreatDoor
open Go.Own
set_option maxHeartbeats 4000000
set_option maxRecDepth 100000

/-- Where one is put in: behind all that have no greater Id. -/
def putAt (l : List Ent) (e : Ent) : Nat := l.findIdx (fun x => decide (e.id < x.id))
def putE (l : List Ent) (e : Ent) : List Ent := l.take (putAt l e) ++ ([e] ++ l.drop (putAt l e))
def srt (l : List Ent) : List Ent := l.foldl putE []
theorem putE_ok {l : List Ent} (h : Asc l) (e : Ent) : Asc (putE l e) ∧ Stb (l ++ [e]) (putE l e) := by
  have h1 : ∀ y ∈ l.take (putAt l e), y.id ≤ e.id := fun y hy => by
    obtain ⟨k, hk, hk2, rfl⟩ := mem_take hy
    have := List.not_of_lt_findIdx (p := fun x : Ent => decide (e.id < x.id)) (xs := l) hk
    have := of_decide_eq_false (show decide (e.id < (l[k]).id) = false by simpa using this)
    have e1 : l.getD k e0 = l[k] := by simp [List.getD_eq_getElem?_getD, hk2]
    rw [e1]
    omega
  have h2 : ∀ y ∈ l.drop (putAt l e), e.id < y.id := by
    refine drop_lt h ?_
    rcases Nat.lt_or_ge (putAt l e) l.length with hk | hk
    · right
      have := List.findIdx_getElem (xs := l) (p := fun x : Ent => decide (e.id < x.id)) (w := hk)
      have e1 : l.getD (putAt l e) e0 = l[putAt l e] := by simp [List.getD_eq_getElem?_getD, hk]
      rw [e1]
      exact of_decide_eq_true this
    · exact .inl hk
  exact ⟨put_in h h1 fun y hy => Int.le_of_lt (h2 y hy), put_stb2 h2⟩
theorem srt_from : ∀ (l a : List Ent), Asc a → Asc (l.foldl putE a) ∧ Stb (a ++ l) (l.foldl putE a)
  | [], a, h => ⟨h, by rw [List.append_nil]; exact Stb.refl _⟩
  | e :: l, a, h => by
    obtain ⟨g1, g2⟩ := putE_ok h e
    obtain ⟨i1, i2⟩ := srt_from l (putE a e) g1
    refine ⟨i1, ?_⟩
    have e1 : a ++ e :: l = (a ++ [e]) ++ l := by simp
    rw [e1]
    exact (g2.app (Stb.refl l)).trans i2
theorem srt_ok (l : List Ent) : Asc (srt l) ∧ Stb l (srt l) := srt_from l [] asc_nil
theorem srt_one {l M : List Ent} (h : Asc M) (g : Stb l M) : M = srt l :=
  sorted_one h (srt_ok l).1 fun k => ((srt_ok l).2 k).trans (g k).symm

theorem sorts_ok (xs : List Ent) (hn : xs.length ≤ 40) :
    AIO Tryz.prog 22 [.own 0, .fn (.func 20) [] []] [.row 33 5 encE e0 xs] (fun bs rs => bs = [.row 33 5 encE e0 (srt xs)] ∧ rs = []) := by
  have hcall := stable_ok xs hn (n := ((xs.length : Nat) : Int)) rfl
  refine aio_of (C := cxP 1 9 [0, 1]) (cxPOk _ _ _) Tryz.func22 rfl (by decide) rfl (by exact Nat.le_of_ble_eq_true rfl) (by decide) rfl rfl ?_
  conv => whnf
  refine .raw _ _ rfl (fun h => by cases h) (callio_sem (hcall) [0] _ rfl rfl ⟨rfl, trivial⟩ (by repeat (first | exact .nil | (apply BorL.cons; first | exact .map _ _ rfl | exact .ptr _ _ _ rfl | exact .own _ _ rfl | exact .fnp _ _ _ _ rfl | (apply BorIO.lend; first | exact lS rfl | exact lR rfl | exact lM rfl rfl | exact lL rfl | exact lX rfl | exact lN | exact lNl | exact lSm rfl | exact lIm rfl | exact lGm rfl | exact lP rfl | exact lQ rfl | exact lB rfl rfl rfl)))) rfl (by first | exact .inl rfl | exact .inr (fun b rs h => by first | obtain ⟨rfl, rfl⟩ := h | obtain ⟨_, _, _, rfl, rfl⟩ := h; exact ⟨by repeat (first | exact flats_nil | refine flats_cons (by first | exact flat_val _ rfl | exact flat_row (fun _ => rfl) | exact flat_lst (fun _ => rfl)) ?_), by repeat (first | exact flats0 | refine flats1 (by first | exact flatB_row (fun _ => rfl) | exact flatB_lst (fun _ => rfl) | exact flatB_smap (fun _ => rfl) | exact flatB_imap (fun _ => rfl) | exact flatB_cells rfl) ?_)⟩))) ?_
  rintro r ⟨b, rs, ⟨M, sM, tM, rfl, rfl⟩, rfl⟩
  refine ⟨tn_ge _ _, ?_⟩
  rw [srt_one sM tM]
  conv => whnf
  exact ⟨rfl, rfl⟩

end Go.Proofs.YtjlnaogechkjdaaGreatDoor


namespace Go.Proofs.YtjlnaogechkjdaaGreatDoor
open Go.Own
set_option maxHeartbeats 4000000
set_option maxRecDepth 100000

/-! ### Compare -/
def goIn (o : List Ent) (w : List (Int × Bool)) (e : Ent) : Bool := (mget (foundM o) e.id).isNone && (mget w e.id).getD false
def goOut (o : List Ent) (w : List (Int × Bool)) (e : Ent) : Bool :=
  match mget (foundM o) e.id with
  | some x => !eqE x e
  | none => !(mget w e.id).getD false
def rawI (a b : List Ent) (fl : List Msg) : List Ent := a.filter (goIn b (wayM a b 1 fl)) ++ b.filter (goIn a (wayM a b 0 fl))
def rawO (a b : List Ent) (fl : List Msg) : List Ent := a.filter (goOut b (wayM a b 1 fl)) ++ b.filter (goOut a (wayM a b 0 fl))
def okC (a b : List Ent) (fl : List Msg) : Bool := fl.all (msgB a b) && (validB a && validB b)
def inC (a b : List Ent) (fl : List Msg) : List Ent := if okC a b fl = true then srt (rawI a b fl) else []
def outC (a b : List Ent) (fl : List Msg) : List Ent := if okC a b fl = true then srt (rawO a b fl) else []
theorem filter_snoc {T : Type} (p : T → Bool) (l : List T) (x : T) : (l ++ [x]).filter p = if p x = true then l.filter p ++ [x] else l.filter p := by
  rw [List.filter_append]
  split
  · rename_i h; rw [List.filter_cons_of_pos h]; rfl
  · rename_i h; rw [List.filter_cons_of_neg h]; simp
theorem compare_ok (a b : List Ent) (fl : List Msg) (ha : a.length ≤ 20) (hb : b.length ≤ 20) (hl : fl.length ≤ 9223372036854775807) :
    APure Tryz.prog 6 [encEs a, encEs b, encMs fl] (fun rs => rs = if okC a b fl = true then [.new (.row 33 5 encE e0 (srt (rawI a b fl))), .new (.row 33 5 encE e0 (srt (rawO a b fl))), .val (.int .i64 0)] else [.val .nils, .val .nils, .val (.int .i64 1)]) := by
  have hva := valid_ok a (by omega)
  have hvb := valid_ok b (by omega)
  refine apure_of (C := cx 113 [0, 1, 2, 6, 7, 8, 9, 10, 11, 12, 13, 14, 15, 16, 18, 19, 20, 21, 42, 48, 49, 50, 53, 54, 55, 56, 69, 80, 96]) (cxOk _ _) Tryz.func6 rfl (by decide) rfl (by exact Nat.le_of_ble_eq_true rfl) (by decide) ?_
  conv => whnf
  refine .any _ _ _ ⟨rfl, rfl⟩ (carried_ok a b fl (by omega) (by omega) hl) (by repeat (first | exact .nil | (apply BorL.cons; first | exact lS rfl | exact lR rfl | exact lM rfl rfl | exact lL rfl | exact lX rfl | exact lN | exact lNl | exact lSm rfl | exact lIm rfl | exact lGm rfl | exact lP rfl | exact lQ rfl | exact lB rfl rfl rfl))) (by first | exact .inl rfl | exact .inr (by repeat (first | exact flats_nil | refine flats_cons (by first | exact flat_val _ rfl | exact flat_row (fun _ => rfl) | exact flat_lst (fun _ => rfl)) ?_))) ?_
  rintro rs (⟨hfl, rfl⟩ | ⟨hfl, m0, m1, rfl⟩)
  · conv => whnf
    refine .one _ _ _ (fun _ => hva) (by repeat (first | exact .nil | (apply BorL.cons; first | exact lS rfl | exact lR rfl | exact lM rfl rfl | exact lL rfl | exact lX rfl | exact lN | exact lNl | exact lSm rfl | exact lIm rfl | exact lGm rfl | exact lP rfl | exact lQ rfl | exact lB rfl rfl rfl))) (by first | exact .inl rfl | exact .inr (by repeat (first | exact flats_nil | refine flats_cons (by first | exact flat_val _ rfl | exact flat_row (fun _ => rfl) | exact flat_lst (fun _ => rfl)) ?_))) (by first | exact .inr rfl | exact .inl rfl) ?_
    conv => whnf
    refine .one _ _ _ (fun _ => hvb) (by repeat (first | exact .nil | (apply BorL.cons; first | exact lS rfl | exact lR rfl | exact lM rfl rfl | exact lL rfl | exact lX rfl | exact lN | exact lNl | exact lSm rfl | exact lIm rfl | exact lGm rfl | exact lP rfl | exact lQ rfl | exact lB rfl rfl rfl))) (by first | exact .inl rfl | exact .inr (by repeat (first | exact flats_nil | refine flats_cons (by first | exact flat_val _ rfl | exact flat_row (fun _ => rfl) | exact flat_lst (fun _ => rfl)) ?_))) (by first | exact .inr rfl | exact .inl rfl) ?_
    conv => whnf
    refine ⟨fun hc => ?_, fun hc => ?_⟩
    · have hk : okC a b fl = false := by
        unfold okC
        cases h1 : validB a <;> cases h2 : validB b <;> simp [h1, h2] at hc ⊢
      conv => whnf
      rw [if_neg (by rw [hk]; exact Bool.noConfusion)]
      rfl
    · have hk : okC a b fl = true := by
        unfold okC
        cases h1 : validB a <;> cases h2 : validB b <;> simp [h1, h2] at hc ⊢
        exact List.all_eq_true.1 hfl
      rw [if_pos hk]
      conv => whnf
      refine .one _ _ _ (fun _ => found_ok a (by omega)) (by repeat (first | exact .nil | (apply BorL.cons; first | exact lS rfl | exact lR rfl | exact lM rfl rfl | exact lL rfl | exact lX rfl | exact lN | exact lNl | exact lSm rfl | exact lIm rfl | exact lGm rfl | exact lP rfl | exact lQ rfl | exact lB rfl rfl rfl))) (by first | exact .inl rfl | exact .inr (by repeat (first | exact flats_nil | refine flats_cons (by first | exact flat_val _ rfl | exact flat_row (fun _ => rfl) | exact flat_lst (fun _ => rfl)) ?_))) (by first | exact .inr rfl | exact .inl rfl) ?_
      conv => whnf
      refine .one _ _ _ (fun _ => found_ok b (by omega)) (by repeat (first | exact .nil | (apply BorL.cons; first | exact lS rfl | exact lR rfl | exact lM rfl rfl | exact lL rfl | exact lX rfl | exact lN | exact lNl | exact lSm rfl | exact lIm rfl | exact lGm rfl | exact lP rfl | exact lQ rfl | exact lB rfl rfl rfl))) (by first | exact .inl rfl | exact .inr (by repeat (first | exact flats_nil | refine flats_cons (by first | exact flat_val _ rfl | exact flat_row (fun _ => rfl) | exact flat_lst (fun _ => rfl)) ?_))) (by first | exact .inr rfl | exact .inl rfl) ?_
      conv => whnf
      generalize hA1 : goIn b (wayM a b 1 fl) = A1
      generalize hA2 : goOut b (wayM a b 1 fl) = A2
      generalize hB1 : goIn a (wayM a b 0 fl) = B1
      generalize hB2 : goOut a (wayM a b 0 fl) = B2
      generalize hm0 : wayM a b 0 fl = w0 at *
      generalize hm1 : wayM a b 1 fl = w1 at *
      refine loop_up (cxOk _ _) 2 (fun _ => True) (fun n => ⟨[(9, .ptr 0 0), (10, .ptr 1 0), (12, .ptr 4 0), (13, .own 5), (14, .own 6), (48, .agg [encEs a, encEs b]), (49, .int .i64 (n : Nat))], [(0, .cells 49 [encEs a, encEs b]), (1, .cells 51 [.rimap .i64 encB false w0, .rimap .i64 encB false w1]), (2, .imap .i64 encE e0 (foundM a)), (3, .imap .i64 encE e0 (foundM b)), (4, .cells 57 [.map 2, .map 3]), (5, .row 33 5 encE e0 ((if n = 0 then [] else if n = 1 then a.filter A1 else a.filter A1 ++ b.filter B1))), (6, .row 33 5 encE e0 ((if n = 0 then [] else if n = 1 then a.filter A2 else a.filter A2 ++ b.filter B2)))], 7⟩) trivial ((wk_of [(0, .id 0), (1, .id 1), (2, .id 2), (3, .id 3), (4, .id 4), (5, .nil), (6, .nil)] rfl ⟨.base (.ptr _ _ _ rfl), .base (.ptr _ _ _ rfl), .base (.ptr _ _ _ rfl), (by first | exact .base (.own _ _ rfl) | exact .base (.nilown _ rfl) | exact .base (.trunc _ _ _ rfl)), (by first | exact .base (.own _ _ rfl) | exact .base (.nilown _ rfl) | exact .base (.trunc _ _ _ rfl)), .base (.tree _ _ rfl rfl), .base (.tree _ _ rfl rfl), trivial⟩ ⟨⟨_, rfl, .cells _ _ _ _ rfl (by repeat (first | exact .nil | refine .cons (by first | exact .base (.tree _ _ rfl rfl) | exact .base (.own _ _ rfl) | exact .base (.ptr _ _ _ rfl) | exact .base (.map _ _ rfl) | exact .base (.nilown _ rfl) | exact .fn _ _ _ _ _ .nil (by repeat (first | exact .nil | refine .cons (by exact .ptr _ _ _ rfl) ?_))) ?_)) rfl⟩, ⟨_, rfl, .cells _ _ _ _ rfl (by repeat (first | exact .nil | refine .cons (by first | exact .base (.tree _ _ rfl rfl) | exact .base (.own _ _ rfl) | exact .base (.ptr _ _ _ rfl) | exact .base (.map _ _ rfl) | exact .base (.nilown _ rfl) | exact .fn _ _ _ _ _ .nil (by repeat (first | exact .nil | refine .cons (by exact .ptr _ _ _ rfl) ?_))) ?_)) rfl⟩, ⟨_, rfl, (by first | exact .imap _ _ _ _ _ _ rfl rfl | exact .newimap _ _ _ _ _ _ _ _ rfl rfl rfl)⟩, ⟨_, rfl, (by first | exact .imap _ _ _ _ _ _ rfl rfl | exact .newimap _ _ _ _ _ _ _ _ rfl rfl rfl)⟩, ⟨_, rfl, .cells _ _ _ _ rfl (by repeat (first | exact .nil | refine .cons (by first | exact .base (.tree _ _ rfl rfl) | exact .base (.own _ _ rfl) | exact .base (.ptr _ _ _ rfl) | exact .base (.map _ _ rfl) | exact .base (.nilown _ rfl) | exact .fn _ _ _ _ _ .nil (by repeat (first | exact .nil | refine .cons (by exact .ptr _ _ _ rfl) ?_))) ?_)) rfl⟩, ⟨_, rfl, (by first | exact .row _ _ _ _ _ _ _ rfl rfl | exact .lstrow _ _ _ _ _ _ _ rfl rfl | exact .nilrow _ _ _ _ _ rfl | exact .truncrow _ _ _ _ _ _ _ _ rfl (by omega) rfl)⟩, ⟨_, rfl, (by first | exact .row _ _ _ _ _ _ _ rfl rfl | exact .lstrow _ _ _ _ _ _ _ rfl rfl | exact .nilrow _ _ _ _ _ rfl | exact .truncrow _ _ _ _ _ _ _ _ rfl (by omega) rfl)⟩, trivial⟩)) ?_
      intro n hn _
      conv => whnf
      refine ⟨fun hc2 => ?_, fun hc2 => ?_⟩
      · simp only [decide_eq_true_eq] at hc2
        have hn2 : n = 0 ∨ n = 1 := by omega
        rcases hn2 with rfl | rfl
        · conv => whnf
          refine And.intro ⟨by omega, by omega⟩ ?_; conv => whnf
          refine loop_up (cxOk _ _) a.length (fun _ => True) (fun k => ⟨[(9, .ptr 0 0), (10, .ptr 1 0), (12, .ptr 4 0), (13, .own 5), (14, .own 6), (15, .int .i64 0), (16, encEs a), (48, .agg [encEs a, encEs b]), (49, .int .i64 0), (53, encEs a), (54, .int .i64 a.length), (55, .int .i64 (k : Nat))], [(0, .cells 49 [encEs a, encEs b]), (1, .cells 51 [.rimap .i64 encB false w0, .rimap .i64 encB false w1]), (2, .imap .i64 encE e0 (foundM a)), (3, .imap .i64 encE e0 (foundM b)), (4, .cells 57 [.map 2, .map 3]), (5, .row 33 5 encE e0 ((a.take k).filter A1)), (6, .row 33 5 encE e0 ((a.take k).filter A2))], 7⟩) trivial ((wk_of [(0, .id 0), (1, .id 1), (2, .id 2), (3, .id 3), (4, .id 4), (5, .id 5), (6, .id 6)] rfl ⟨.base (.ptr _ _ _ rfl), .base (.ptr _ _ _ rfl), .base (.ptr _ _ _ rfl), (by first | exact .base (.own _ _ rfl) | exact .base (.nilown _ rfl) | exact .base (.trunc _ _ _ rfl)), (by first | exact .base (.own _ _ rfl) | exact .base (.nilown _ rfl) | exact .base (.trunc _ _ _ rfl)), .base (.tree _ _ rfl rfl), .base (.tree _ _ rfl rfl), .base (.tree _ _ rfl rfl), .base (.tree _ _ rfl rfl), .base (.tree _ _ rfl rfl), .base (.tree _ _ rfl rfl), .base (.tree _ _ rfl rfl), trivial⟩ ⟨⟨_, rfl, .cells _ _ _ _ rfl (by repeat (first | exact .nil | refine .cons (by first | exact .base (.tree _ _ rfl rfl) | exact .base (.own _ _ rfl) | exact .base (.ptr _ _ _ rfl) | exact .base (.map _ _ rfl) | exact .base (.nilown _ rfl) | exact .fn _ _ _ _ _ .nil (by repeat (first | exact .nil | refine .cons (by exact .ptr _ _ _ rfl) ?_))) ?_)) rfl⟩, ⟨_, rfl, .cells _ _ _ _ rfl (by repeat (first | exact .nil | refine .cons (by first | exact .base (.tree _ _ rfl rfl) | exact .base (.own _ _ rfl) | exact .base (.ptr _ _ _ rfl) | exact .base (.map _ _ rfl) | exact .base (.nilown _ rfl) | exact .fn _ _ _ _ _ .nil (by repeat (first | exact .nil | refine .cons (by exact .ptr _ _ _ rfl) ?_))) ?_)) rfl⟩, ⟨_, rfl, (by first | exact .imap _ _ _ _ _ _ rfl rfl | exact .newimap _ _ _ _ _ _ _ _ rfl rfl rfl)⟩, ⟨_, rfl, (by first | exact .imap _ _ _ _ _ _ rfl rfl | exact .newimap _ _ _ _ _ _ _ _ rfl rfl rfl)⟩, ⟨_, rfl, .cells _ _ _ _ rfl (by repeat (first | exact .nil | refine .cons (by first | exact .base (.tree _ _ rfl rfl) | exact .base (.own _ _ rfl) | exact .base (.ptr _ _ _ rfl) | exact .base (.map _ _ rfl) | exact .base (.nilown _ rfl) | exact .fn _ _ _ _ _ .nil (by repeat (first | exact .nil | refine .cons (by exact .ptr _ _ _ rfl) ?_))) ?_)) rfl⟩, ⟨_, rfl, (by first | exact .row _ _ _ _ _ _ _ rfl rfl | exact .lstrow _ _ _ _ _ _ _ rfl rfl | exact .nilrow _ _ _ _ _ rfl | exact .truncrow _ _ _ _ _ _ _ _ rfl (by omega) rfl)⟩, ⟨_, rfl, (by first | exact .row _ _ _ _ _ _ _ rfl rfl | exact .lstrow _ _ _ _ _ _ _ rfl rfl | exact .nilrow _ _ _ _ _ rfl | exact .truncrow _ _ _ _ _ _ _ _ rfl (by omega) rfl)⟩, trivial⟩)) ?_
          intro k hk _
          conv => whnf
          refine ⟨fun hc3 => ?_, fun hc3 => ?_⟩
          · simp only [decide_eq_true_eq] at hc3
            have hlt : k < a.length := by omega
            have f1 := filter_snoc A1 (a.take k) (a.getD k e0)
            have f2 := filter_snoc A2 (a.take k) (a.getD k e0)
            have hck : a.getD (k : Int).toNat e0 = a.getD k e0 := by rw [Int.toNat_natCast]
            rw [← take_getD (d := e0) hlt] at f1 f2
            generalize a.getD k e0 = e at *
            have l1 : ((a.take k).filter A1).length ≤ 20 := Nat.le_trans (List.length_filter_le _ _) (by rw [List.length_take]; omega)
            have l2 : ((a.take k).filter A2).length ≤ 20 := Nat.le_trans (List.length_filter_le _ _) (by rw [List.length_take]; omega)
            conv => whnf
            refine And.intro ⟨by omega, by omega⟩ ?_; conv => whnf
            refine And.intro rfl ?_; conv => whnf
            refine .eff (by first | exact cxOk _ _ | exact cxPOk _ _ _) ?_; conv => whnf
            refine And.intro ⟨by omega, by omega⟩ ?_; conv => whnf
            refine And.intro ⟨by omega, by omega⟩ ?_; conv => whnf
            refine And.intro rfl ?_; conv => whnf
            refine And.intro rfl ?_; conv => whnf
            rw [hck]
            cases ho : mget (foundM b) e.id with
            | none =>
              refine ⟨⟨by kernel_rfl, by kernel_rfl⟩, ?_⟩
              conv => whnf
              refine ⟨fun h => by simp at h, fun _ => ?_⟩
              conv => whnf
              refine .quiet (by kernel_rfl) ?_; conv => whnf
              refine And.intro (fun _ => ⟨by omega, by omega⟩) ?_; conv => whnf
              refine And.intro (by omega) (And.intro rfl ?_); conv => whnf
              refine ⟨fun hd => ?_, fun hd => ?_⟩
              · have g1 : A1 e = true := by rw [← hA1]; unfold goIn; rw [ho]; simpa using hd
                have g2 : A2 e = false := by rw [← hA2]; unfold goOut; rw [ho]; simpa using hd
                rw [if_pos g1] at f1
                rw [if_neg (by rw [g2]; exact Bool.noConfusion)] at f2
                conv => whnf
                refine And.intro rfl ?_; conv => whnf
                refine And.intro ⟨rfl, rfl⟩ (And.intro (show (((a.take k).filter A1).length + 1) * 40 ≤ 140737488355328 by omega) ?_)
                conv => whnf
                refine Exists.intro _ (And.intro rfl ?_); conv => whnf
                refine And.intro ⟨by omega, by omega⟩ ?_; conv => whnf
                refine up hlt trivial ((wk_of [(0, .id 0), (1, .id 1), (2, .id 2), (3, .id 3), (4, .id 4), (5, .id 10), (6, .id 6)] rfl ⟨.base (.ptr _ _ _ rfl), .base (.ptr _ _ _ rfl), .base (.ptr _ _ _ rfl), (by first | exact .base (.own _ _ rfl) | exact .base (.nilown _ rfl) | exact .base (.trunc _ _ _ rfl)), (by first | exact .base (.own _ _ rfl) | exact .base (.nilown _ rfl) | exact .base (.trunc _ _ _ rfl)), .base (.tree _ _ rfl rfl), .base (.tree _ _ rfl rfl), .base (.tree _ _ rfl rfl), .base (.tree _ _ rfl rfl), .base (.tree _ _ rfl rfl), .base (.tree _ _ rfl rfl), .base (.tree _ _ rfl rfl), trivial⟩ ⟨⟨_, rfl, .cells _ _ _ _ rfl (by repeat (first | exact .nil | refine .cons (by first | exact .base (.tree _ _ rfl rfl) | exact .base (.own _ _ rfl) | exact .base (.ptr _ _ _ rfl) | exact .base (.map _ _ rfl) | exact .base (.nilown _ rfl) | exact .fn _ _ _ _ _ .nil (by repeat (first | exact .nil | refine .cons (by exact .ptr _ _ _ rfl) ?_))) ?_)) rfl⟩, ⟨_, rfl, .cells _ _ _ _ rfl (by repeat (first | exact .nil | refine .cons (by first | exact .base (.tree _ _ rfl rfl) | exact .base (.own _ _ rfl) | exact .base (.ptr _ _ _ rfl) | exact .base (.map _ _ rfl) | exact .base (.nilown _ rfl) | exact .fn _ _ _ _ _ .nil (by repeat (first | exact .nil | refine .cons (by exact .ptr _ _ _ rfl) ?_))) ?_)) rfl⟩, ⟨_, rfl, (by first | exact .imap _ _ _ _ _ _ rfl rfl | exact .newimap _ _ _ _ _ _ _ _ rfl rfl rfl)⟩, ⟨_, rfl, (by first | exact .imap _ _ _ _ _ _ rfl rfl | exact .newimap _ _ _ _ _ _ _ _ rfl rfl rfl)⟩, ⟨_, rfl, .cells _ _ _ _ rfl (by repeat (first | exact .nil | refine .cons (by first | exact .base (.tree _ _ rfl rfl) | exact .base (.own _ _ rfl) | exact .base (.ptr _ _ _ rfl) | exact .base (.map _ _ rfl) | exact .base (.nilown _ rfl) | exact .fn _ _ _ _ _ .nil (by repeat (first | exact .nil | refine .cons (by exact .ptr _ _ _ rfl) ?_))) ?_)) rfl⟩, ⟨_, rfl, (by first | exact .row _ _ _ _ _ _ _ rfl f1.symm | exact .lstrow _ _ _ _ _ _ _ rfl f1.symm | exact .nilrow _ _ _ _ _ f1.symm | exact .truncrow _ _ _ _ _ _ _ _ rfl (by omega) f1.symm)⟩, ⟨_, rfl, (by first | exact .row _ _ _ _ _ _ _ rfl f2.symm | exact .lstrow _ _ _ _ _ _ _ rfl f2.symm | exact .nilrow _ _ _ _ _ f2.symm | exact .truncrow _ _ _ _ _ _ _ _ rfl (by omega) f2.symm)⟩, trivial⟩))
              · have g1 : A1 e = false := by rw [← hA1]; unfold goIn; rw [ho]; simpa using hd
                have g2 : A2 e = true := by rw [← hA2]; unfold goOut; rw [ho]; simpa using hd
                rw [if_neg (by rw [g1]; exact Bool.noConfusion)] at f1
                rw [if_pos g2] at f2
                conv => whnf
                refine And.intro (fun _ => ?_) (fun h => absurd h (by decide)); conv => whnf
                refine And.intro rfl ?_; conv => whnf
                refine And.intro ⟨rfl, rfl⟩ (And.intro (show (((a.take k).filter A2).length + 1) * 40 ≤ 140737488355328 by omega) ?_)
                conv => whnf
                refine Exists.intro _ (And.intro rfl ?_); conv => whnf
                refine And.intro ⟨by omega, by omega⟩ ?_; conv => whnf
                refine up hlt trivial ((wk_of [(0, .id 0), (1, .id 1), (2, .id 2), (3, .id 3), (4, .id 4), (5, .id 5), (6, .id 10)] rfl ⟨.base (.ptr _ _ _ rfl), .base (.ptr _ _ _ rfl), .base (.ptr _ _ _ rfl), (by first | exact .base (.own _ _ rfl) | exact .base (.nilown _ rfl) | exact .base (.trunc _ _ _ rfl)), (by first | exact .base (.own _ _ rfl) | exact .base (.nilown _ rfl) | exact .base (.trunc _ _ _ rfl)), .base (.tree _ _ rfl rfl), .base (.tree _ _ rfl rfl), .base (.tree _ _ rfl rfl), .base (.tree _ _ rfl rfl), .base (.tree _ _ rfl rfl), .base (.tree _ _ rfl rfl), .base (.tree _ _ rfl rfl), trivial⟩ ⟨⟨_, rfl, .cells _ _ _ _ rfl (by repeat (first | exact .nil | refine .cons (by first | exact .base (.tree _ _ rfl rfl) | exact .base (.own _ _ rfl) | exact .base (.ptr _ _ _ rfl) | exact .base (.map _ _ rfl) | exact .base (.nilown _ rfl) | exact .fn _ _ _ _ _ .nil (by repeat (first | exact .nil | refine .cons (by exact .ptr _ _ _ rfl) ?_))) ?_)) rfl⟩, ⟨_, rfl, .cells _ _ _ _ rfl (by repeat (first | exact .nil | refine .cons (by first | exact .base (.tree _ _ rfl rfl) | exact .base (.own _ _ rfl) | exact .base (.ptr _ _ _ rfl) | exact .base (.map _ _ rfl) | exact .base (.nilown _ rfl) | exact .fn _ _ _ _ _ .nil (by repeat (first | exact .nil | refine .cons (by exact .ptr _ _ _ rfl) ?_))) ?_)) rfl⟩, ⟨_, rfl, (by first | exact .imap _ _ _ _ _ _ rfl rfl | exact .newimap _ _ _ _ _ _ _ _ rfl rfl rfl)⟩, ⟨_, rfl, (by first | exact .imap _ _ _ _ _ _ rfl rfl | exact .newimap _ _ _ _ _ _ _ _ rfl rfl rfl)⟩, ⟨_, rfl, .cells _ _ _ _ rfl (by repeat (first | exact .nil | refine .cons (by first | exact .base (.tree _ _ rfl rfl) | exact .base (.own _ _ rfl) | exact .base (.ptr _ _ _ rfl) | exact .base (.map _ _ rfl) | exact .base (.nilown _ rfl) | exact .fn _ _ _ _ _ .nil (by repeat (first | exact .nil | refine .cons (by exact .ptr _ _ _ rfl) ?_))) ?_)) rfl⟩, ⟨_, rfl, (by first | exact .row _ _ _ _ _ _ _ rfl f1.symm | exact .lstrow _ _ _ _ _ _ _ rfl f1.symm | exact .nilrow _ _ _ _ _ f1.symm | exact .truncrow _ _ _ _ _ _ _ _ rfl (by omega) f1.symm)⟩, ⟨_, rfl, (by first | exact .row _ _ _ _ _ _ _ rfl f2.symm | exact .lstrow _ _ _ _ _ _ _ rfl f2.symm | exact .nilrow _ _ _ _ _ f2.symm | exact .truncrow _ _ _ _ _ _ _ _ rfl (by omega) f2.symm)⟩, trivial⟩))
            | some x =>
              have g1 : A1 e = false := by rw [← hA1]; unfold goIn; rw [ho]; rfl
              rw [if_neg (by rw [g1]; exact Bool.noConfusion)] at f1
              refine ⟨⟨by kernel_rfl, by kernel_rfl⟩, ?_⟩
              conv => whnf
              refine ⟨fun hd => ?_, fun hd => ?_⟩
              · have g2 : A2 e = true := by rw [← hA2]; unfold goOut; rw [ho]; exact hd
                rw [if_pos g2] at f2
                conv => whnf
                refine And.intro rfl ?_; conv => whnf
                refine And.intro ⟨rfl, rfl⟩ (And.intro (show (((a.take k).filter A2).length + 1) * 40 ≤ 140737488355328 by omega) ?_)
                conv => whnf
                refine Exists.intro _ (And.intro rfl ?_); conv => whnf
                refine And.intro ⟨by omega, by omega⟩ ?_; conv => whnf
                refine up hlt trivial ((wk_of [(0, .id 0), (1, .id 1), (2, .id 2), (3, .id 3), (4, .id 4), (5, .id 5), (6, .id 10)] rfl ⟨.base (.ptr _ _ _ rfl), .base (.ptr _ _ _ rfl), .base (.ptr _ _ _ rfl), (by first | exact .base (.own _ _ rfl) | exact .base (.nilown _ rfl) | exact .base (.trunc _ _ _ rfl)), (by first | exact .base (.own _ _ rfl) | exact .base (.nilown _ rfl) | exact .base (.trunc _ _ _ rfl)), .base (.tree _ _ rfl rfl), .base (.tree _ _ rfl rfl), .base (.tree _ _ rfl rfl), .base (.tree _ _ rfl rfl), .base (.tree _ _ rfl rfl), .base (.tree _ _ rfl rfl), .base (.tree _ _ rfl rfl), trivial⟩ ⟨⟨_, rfl, .cells _ _ _ _ rfl (by repeat (first | exact .nil | refine .cons (by first | exact .base (.tree _ _ rfl rfl) | exact .base (.own _ _ rfl) | exact .base (.ptr _ _ _ rfl) | exact .base (.map _ _ rfl) | exact .base (.nilown _ rfl) | exact .fn _ _ _ _ _ .nil (by repeat (first | exact .nil | refine .cons (by exact .ptr _ _ _ rfl) ?_))) ?_)) rfl⟩, ⟨_, rfl, .cells _ _ _ _ rfl (by repeat (first | exact .nil | refine .cons (by first | exact .base (.tree _ _ rfl rfl) | exact .base (.own _ _ rfl) | exact .base (.ptr _ _ _ rfl) | exact .base (.map _ _ rfl) | exact .base (.nilown _ rfl) | exact .fn _ _ _ _ _ .nil (by repeat (first | exact .nil | refine .cons (by exact .ptr _ _ _ rfl) ?_))) ?_)) rfl⟩, ⟨_, rfl, (by first | exact .imap _ _ _ _ _ _ rfl rfl | exact .newimap _ _ _ _ _ _ _ _ rfl rfl rfl)⟩, ⟨_, rfl, (by first | exact .imap _ _ _ _ _ _ rfl rfl | exact .newimap _ _ _ _ _ _ _ _ rfl rfl rfl)⟩, ⟨_, rfl, .cells _ _ _ _ rfl (by repeat (first | exact .nil | refine .cons (by first | exact .base (.tree _ _ rfl rfl) | exact .base (.own _ _ rfl) | exact .base (.ptr _ _ _ rfl) | exact .base (.map _ _ rfl) | exact .base (.nilown _ rfl) | exact .fn _ _ _ _ _ .nil (by repeat (first | exact .nil | refine .cons (by exact .ptr _ _ _ rfl) ?_))) ?_)) rfl⟩, ⟨_, rfl, (by first | exact .row _ _ _ _ _ _ _ rfl f1.symm | exact .lstrow _ _ _ _ _ _ _ rfl f1.symm | exact .nilrow _ _ _ _ _ f1.symm | exact .truncrow _ _ _ _ _ _ _ _ rfl (by omega) f1.symm)⟩, ⟨_, rfl, (by first | exact .row _ _ _ _ _ _ _ rfl f2.symm | exact .lstrow _ _ _ _ _ _ _ rfl f2.symm | exact .nilrow _ _ _ _ _ f2.symm | exact .truncrow _ _ _ _ _ _ _ _ rfl (by omega) f2.symm)⟩, trivial⟩))
              · have g2 : A2 e = false := by rw [← hA2]; unfold goOut; rw [ho]; exact hd
                rw [if_neg (by rw [g2]; exact Bool.noConfusion)] at f2
                conv => whnf
                refine .quiet (by kernel_rfl) ?_; conv => whnf
                refine And.intro (fun _ => ⟨by omega, by omega⟩) ?_; conv => whnf
                refine And.intro (by omega) (And.intro rfl ?_); conv => whnf
                refine ⟨fun h => by simp at h, fun _ => ?_⟩
                conv => whnf
                refine ⟨fun h => by simp at h, fun _ => ?_⟩
                conv => whnf
                refine And.intro ⟨by omega, by omega⟩ ?_; conv => whnf
                refine up hlt trivial ((wk_of [(0, .id 0), (1, .id 1), (2, .id 2), (3, .id 3), (4, .id 4), (5, .id 5), (6, .id 6)] rfl ⟨.base (.ptr _ _ _ rfl), .base (.ptr _ _ _ rfl), .base (.ptr _ _ _ rfl), (by first | exact .base (.own _ _ rfl) | exact .base (.nilown _ rfl) | exact .base (.trunc _ _ _ rfl)), (by first | exact .base (.own _ _ rfl) | exact .base (.nilown _ rfl) | exact .base (.trunc _ _ _ rfl)), .base (.tree _ _ rfl rfl), .base (.tree _ _ rfl rfl), .base (.tree _ _ rfl rfl), .base (.tree _ _ rfl rfl), .base (.tree _ _ rfl rfl), .base (.tree _ _ rfl rfl), .base (.tree _ _ rfl rfl), trivial⟩ ⟨⟨_, rfl, .cells _ _ _ _ rfl (by repeat (first | exact .nil | refine .cons (by first | exact .base (.tree _ _ rfl rfl) | exact .base (.own _ _ rfl) | exact .base (.ptr _ _ _ rfl) | exact .base (.map _ _ rfl) | exact .base (.nilown _ rfl) | exact .fn _ _ _ _ _ .nil (by repeat (first | exact .nil | refine .cons (by exact .ptr _ _ _ rfl) ?_))) ?_)) rfl⟩, ⟨_, rfl, .cells _ _ _ _ rfl (by repeat (first | exact .nil | refine .cons (by first | exact .base (.tree _ _ rfl rfl) | exact .base (.own _ _ rfl) | exact .base (.ptr _ _ _ rfl) | exact .base (.map _ _ rfl) | exact .base (.nilown _ rfl) | exact .fn _ _ _ _ _ .nil (by repeat (first | exact .nil | refine .cons (by exact .ptr _ _ _ rfl) ?_))) ?_)) rfl⟩, ⟨_, rfl, (by first | exact .imap _ _ _ _ _ _ rfl rfl | exact .newimap _ _ _ _ _ _ _ _ rfl rfl rfl)⟩, ⟨_, rfl, (by first | exact .imap _ _ _ _ _ _ rfl rfl | exact .newimap _ _ _ _ _ _ _ _ rfl rfl rfl)⟩, ⟨_, rfl, .cells _ _ _ _ rfl (by repeat (first | exact .nil | refine .cons (by first | exact .base (.tree _ _ rfl rfl) | exact .base (.own _ _ rfl) | exact .base (.ptr _ _ _ rfl) | exact .base (.map _ _ rfl) | exact .base (.nilown _ rfl) | exact .fn _ _ _ _ _ .nil (by repeat (first | exact .nil | refine .cons (by exact .ptr _ _ _ rfl) ?_))) ?_)) rfl⟩, ⟨_, rfl, (by first | exact .row _ _ _ _ _ _ _ rfl f1.symm | exact .lstrow _ _ _ _ _ _ _ rfl f1.symm | exact .nilrow _ _ _ _ _ f1.symm | exact .truncrow _ _ _ _ _ _ _ _ rfl (by omega) f1.symm)⟩, ⟨_, rfl, (by first | exact .row _ _ _ _ _ _ _ rfl f2.symm | exact .lstrow _ _ _ _ _ _ _ rfl f2.symm | exact .nilrow _ _ _ _ _ f2.symm | exact .truncrow _ _ _ _ _ _ _ _ rfl (by omega) f2.symm)⟩, trivial⟩))
          · simp only [decide_eq_false_iff_not] at hc3
            obtain rfl : k = a.length := by omega
            rw [List.take_of_length_le (Nat.le_refl _)]
            conv => whnf
            refine And.intro ⟨by omega, by omega⟩ ?_; conv => whnf
            refine up (by omega) trivial ((wk_of [(0, .id 0), (1, .id 1), (2, .id 2), (3, .id 3), (4, .id 4), (5, .id 5), (6, .id 6)] rfl ⟨.base (.ptr _ _ _ rfl), .base (.ptr _ _ _ rfl), .base (.ptr _ _ _ rfl), (by first | exact .base (.own _ _ rfl) | exact .base (.nilown _ rfl) | exact .base (.trunc _ _ _ rfl)), (by first | exact .base (.own _ _ rfl) | exact .base (.nilown _ rfl) | exact .base (.trunc _ _ _ rfl)), .base (.tree _ _ rfl rfl), .base (.tree _ _ rfl rfl), trivial⟩ ⟨⟨_, rfl, .cells _ _ _ _ rfl (by repeat (first | exact .nil | refine .cons (by first | exact .base (.tree _ _ rfl rfl) | exact .base (.own _ _ rfl) | exact .base (.ptr _ _ _ rfl) | exact .base (.map _ _ rfl) | exact .base (.nilown _ rfl) | exact .fn _ _ _ _ _ .nil (by repeat (first | exact .nil | refine .cons (by exact .ptr _ _ _ rfl) ?_))) ?_)) rfl⟩, ⟨_, rfl, .cells _ _ _ _ rfl (by repeat (first | exact .nil | refine .cons (by first | exact .base (.tree _ _ rfl rfl) | exact .base (.own _ _ rfl) | exact .base (.ptr _ _ _ rfl) | exact .base (.map _ _ rfl) | exact .base (.nilown _ rfl) | exact .fn _ _ _ _ _ .nil (by repeat (first | exact .nil | refine .cons (by exact .ptr _ _ _ rfl) ?_))) ?_)) rfl⟩, ⟨_, rfl, (by first | exact .imap _ _ _ _ _ _ rfl rfl | exact .newimap _ _ _ _ _ _ _ _ rfl rfl rfl)⟩, ⟨_, rfl, (by first | exact .imap _ _ _ _ _ _ rfl rfl | exact .newimap _ _ _ _ _ _ _ _ rfl rfl rfl)⟩, ⟨_, rfl, .cells _ _ _ _ rfl (by repeat (first | exact .nil | refine .cons (by first | exact .base (.tree _ _ rfl rfl) | exact .base (.own _ _ rfl) | exact .base (.ptr _ _ _ rfl) | exact .base (.map _ _ rfl) | exact .base (.nilown _ rfl) | exact .fn _ _ _ _ _ .nil (by repeat (first | exact .nil | refine .cons (by exact .ptr _ _ _ rfl) ?_))) ?_)) rfl⟩, ⟨_, rfl, (by first | exact .row _ _ _ _ _ _ _ rfl rfl | exact .lstrow _ _ _ _ _ _ _ rfl rfl | exact .nilrow _ _ _ _ _ rfl | exact .truncrow _ _ _ _ _ _ _ _ rfl (by omega) rfl)⟩, ⟨_, rfl, (by first | exact .row _ _ _ _ _ _ _ rfl rfl | exact .lstrow _ _ _ _ _ _ _ rfl rfl | exact .nilrow _ _ _ _ _ rfl | exact .truncrow _ _ _ _ _ _ _ _ rfl (by omega) rfl)⟩, trivial⟩))
        · conv => whnf
          refine And.intro ⟨by omega, by omega⟩ ?_; conv => whnf
          refine loop_up (cxOk _ _) b.length (fun _ => True) (fun k => ⟨[(9, .ptr 0 0), (10, .ptr 1 0), (12, .ptr 4 0), (13, .own 5), (14, .own 6), (15, .int .i64 1), (16, encEs b), (48, .agg [encEs a, encEs b]), (49, .int .i64 1), (53, encEs b), (54, .int .i64 b.length), (55, .int .i64 (k : Nat))], [(0, .cells 49 [encEs a, encEs b]), (1, .cells 51 [.rimap .i64 encB false w0, .rimap .i64 encB false w1]), (2, .imap .i64 encE e0 (foundM a)), (3, .imap .i64 encE e0 (foundM b)), (4, .cells 57 [.map 2, .map 3]), (5, .row 33 5 encE e0 (a.filter A1 ++ (b.take k).filter B1)), (6, .row 33 5 encE e0 (a.filter A2 ++ (b.take k).filter B2))], 7⟩) trivial ((wk_of [(0, .id 0), (1, .id 1), (2, .id 2), (3, .id 3), (4, .id 4), (5, .id 5), (6, .id 6)] rfl ⟨.base (.ptr _ _ _ rfl), .base (.ptr _ _ _ rfl), .base (.ptr _ _ _ rfl), (by first | exact .base (.own _ _ rfl) | exact .base (.nilown _ rfl) | exact .base (.trunc _ _ _ rfl)), (by first | exact .base (.own _ _ rfl) | exact .base (.nilown _ rfl) | exact .base (.trunc _ _ _ rfl)), .base (.tree _ _ rfl rfl), .base (.tree _ _ rfl rfl), .base (.tree _ _ rfl rfl), .base (.tree _ _ rfl rfl), .base (.tree _ _ rfl rfl), .base (.tree _ _ rfl rfl), .base (.tree _ _ rfl rfl), trivial⟩ ⟨⟨_, rfl, .cells _ _ _ _ rfl (by repeat (first | exact .nil | refine .cons (by first | exact .base (.tree _ _ rfl rfl) | exact .base (.own _ _ rfl) | exact .base (.ptr _ _ _ rfl) | exact .base (.map _ _ rfl) | exact .base (.nilown _ rfl) | exact .fn _ _ _ _ _ .nil (by repeat (first | exact .nil | refine .cons (by exact .ptr _ _ _ rfl) ?_))) ?_)) rfl⟩, ⟨_, rfl, .cells _ _ _ _ rfl (by repeat (first | exact .nil | refine .cons (by first | exact .base (.tree _ _ rfl rfl) | exact .base (.own _ _ rfl) | exact .base (.ptr _ _ _ rfl) | exact .base (.map _ _ rfl) | exact .base (.nilown _ rfl) | exact .fn _ _ _ _ _ .nil (by repeat (first | exact .nil | refine .cons (by exact .ptr _ _ _ rfl) ?_))) ?_)) rfl⟩, ⟨_, rfl, (by first | exact .imap _ _ _ _ _ _ rfl rfl | exact .newimap _ _ _ _ _ _ _ _ rfl rfl rfl)⟩, ⟨_, rfl, (by first | exact .imap _ _ _ _ _ _ rfl rfl | exact .newimap _ _ _ _ _ _ _ _ rfl rfl rfl)⟩, ⟨_, rfl, .cells _ _ _ _ rfl (by repeat (first | exact .nil | refine .cons (by first | exact .base (.tree _ _ rfl rfl) | exact .base (.own _ _ rfl) | exact .base (.ptr _ _ _ rfl) | exact .base (.map _ _ rfl) | exact .base (.nilown _ rfl) | exact .fn _ _ _ _ _ .nil (by repeat (first | exact .nil | refine .cons (by exact .ptr _ _ _ rfl) ?_))) ?_)) rfl⟩, ⟨_, rfl, (by first | exact .row _ _ _ _ _ _ _ rfl (show a.filter A1 = a.filter A1 ++ ([] : List Ent).filter B1 by simp) | exact .lstrow _ _ _ _ _ _ _ rfl (show a.filter A1 = a.filter A1 ++ ([] : List Ent).filter B1 by simp) | exact .nilrow _ _ _ _ _ (show a.filter A1 = a.filter A1 ++ ([] : List Ent).filter B1 by simp) | exact .truncrow _ _ _ _ _ _ _ _ rfl (by omega) (show a.filter A1 = a.filter A1 ++ ([] : List Ent).filter B1 by simp))⟩, ⟨_, rfl, (by first | exact .row _ _ _ _ _ _ _ rfl (show a.filter A2 = a.filter A2 ++ ([] : List Ent).filter B2 by simp) | exact .lstrow _ _ _ _ _ _ _ rfl (show a.filter A2 = a.filter A2 ++ ([] : List Ent).filter B2 by simp) | exact .nilrow _ _ _ _ _ (show a.filter A2 = a.filter A2 ++ ([] : List Ent).filter B2 by simp) | exact .truncrow _ _ _ _ _ _ _ _ rfl (by omega) (show a.filter A2 = a.filter A2 ++ ([] : List Ent).filter B2 by simp))⟩, trivial⟩)) ?_
          intro k hk _
          conv => whnf
          refine ⟨fun hc3 => ?_, fun hc3 => ?_⟩
          · simp only [decide_eq_true_eq] at hc3
            have hlt : k < b.length := by omega
            have f1 := filter_snoc B1 (b.take k) (b.getD k e0)
            have f2 := filter_snoc B2 (b.take k) (b.getD k e0)
            have hck : b.getD (k : Int).toNat e0 = b.getD k e0 := by rw [Int.toNat_natCast]
            rw [← take_getD (d := e0) hlt] at f1 f2
            generalize b.getD k e0 = e at *
            have l1 : (a.filter A1 ++ (b.take k).filter B1).length ≤ 40 := by rw [List.length_append]; have := List.length_filter_le A1 a; have := List.length_filter_le B1 (b.take k); have : (b.take k).length ≤ 20 := (by rw [List.length_take]; omega); omega
            have l2 : (a.filter A2 ++ (b.take k).filter B2).length ≤ 40 := by rw [List.length_append]; have := List.length_filter_le A2 a; have := List.length_filter_le B2 (b.take k); have : (b.take k).length ≤ 20 := (by rw [List.length_take]; omega); omega
            conv => whnf
            refine And.intro ⟨by omega, by omega⟩ ?_; conv => whnf
            refine And.intro rfl ?_; conv => whnf
            refine .eff (by first | exact cxOk _ _ | exact cxPOk _ _ _) ?_; conv => whnf
            refine And.intro ⟨by omega, by omega⟩ ?_; conv => whnf
            refine And.intro ⟨by omega, by omega⟩ ?_; conv => whnf
            refine And.intro rfl ?_; conv => whnf
            refine And.intro rfl ?_; conv => whnf
            rw [hck]
            cases ho : mget (foundM a) e.id with
            | none =>
              refine ⟨⟨by kernel_rfl, by kernel_rfl⟩, ?_⟩
              conv => whnf
              refine ⟨fun h => by simp at h, fun _ => ?_⟩
              conv => whnf
              refine .quiet (by kernel_rfl) ?_; conv => whnf
              refine And.intro (fun _ => ⟨by omega, by omega⟩) ?_; conv => whnf
              refine And.intro (by omega) (And.intro rfl ?_); conv => whnf
              refine ⟨fun hd => ?_, fun hd => ?_⟩
              · have g1 : B1 e = true := by rw [← hB1]; unfold goIn; rw [ho]; simpa using hd
                have g2 : B2 e = false := by rw [← hB2]; unfold goOut; rw [ho]; simpa using hd
                rw [if_pos g1] at f1
                rw [if_neg (by rw [g2]; exact Bool.noConfusion)] at f2
                conv => whnf
                refine And.intro rfl ?_; conv => whnf
                refine And.intro ⟨rfl, rfl⟩ (And.intro (show ((a.filter A1 ++ (b.take k).filter B1).length + 1) * 40 ≤ 140737488355328 by omega) ?_)
                conv => whnf
                refine Exists.intro _ (And.intro rfl ?_); conv => whnf
                refine And.intro ⟨by omega, by omega⟩ ?_; conv => whnf
                refine up hlt trivial ((wk_of [(0, .id 0), (1, .id 1), (2, .id 2), (3, .id 3), (4, .id 4), (5, .id 10), (6, .id 6)] rfl ⟨.base (.ptr _ _ _ rfl), .base (.ptr _ _ _ rfl), .base (.ptr _ _ _ rfl), (by first | exact .base (.own _ _ rfl) | exact .base (.nilown _ rfl) | exact .base (.trunc _ _ _ rfl)), (by first | exact .base (.own _ _ rfl) | exact .base (.nilown _ rfl) | exact .base (.trunc _ _ _ rfl)), .base (.tree _ _ rfl rfl), .base (.tree _ _ rfl rfl), .base (.tree _ _ rfl rfl), .base (.tree _ _ rfl rfl), .base (.tree _ _ rfl rfl), .base (.tree _ _ rfl rfl), .base (.tree _ _ rfl rfl), trivial⟩ ⟨⟨_, rfl, .cells _ _ _ _ rfl (by repeat (first | exact .nil | refine .cons (by first | exact .base (.tree _ _ rfl rfl) | exact .base (.own _ _ rfl) | exact .base (.ptr _ _ _ rfl) | exact .base (.map _ _ rfl) | exact .base (.nilown _ rfl) | exact .fn _ _ _ _ _ .nil (by repeat (first | exact .nil | refine .cons (by exact .ptr _ _ _ rfl) ?_))) ?_)) rfl⟩, ⟨_, rfl, .cells _ _ _ _ rfl (by repeat (first | exact .nil | refine .cons (by first | exact .base (.tree _ _ rfl rfl) | exact .base (.own _ _ rfl) | exact .base (.ptr _ _ _ rfl) | exact .base (.map _ _ rfl) | exact .base (.nilown _ rfl) | exact .fn _ _ _ _ _ .nil (by repeat (first | exact .nil | refine .cons (by exact .ptr _ _ _ rfl) ?_))) ?_)) rfl⟩, ⟨_, rfl, (by first | exact .imap _ _ _ _ _ _ rfl rfl | exact .newimap _ _ _ _ _ _ _ _ rfl rfl rfl)⟩, ⟨_, rfl, (by first | exact .imap _ _ _ _ _ _ rfl rfl | exact .newimap _ _ _ _ _ _ _ _ rfl rfl rfl)⟩, ⟨_, rfl, .cells _ _ _ _ rfl (by repeat (first | exact .nil | refine .cons (by first | exact .base (.tree _ _ rfl rfl) | exact .base (.own _ _ rfl) | exact .base (.ptr _ _ _ rfl) | exact .base (.map _ _ rfl) | exact .base (.nilown _ rfl) | exact .fn _ _ _ _ _ .nil (by repeat (first | exact .nil | refine .cons (by exact .ptr _ _ _ rfl) ?_))) ?_)) rfl⟩, ⟨_, rfl, (by first | exact .row _ _ _ _ _ _ _ rfl (show a.filter A1 ++ (b.take k).filter B1 ++ [e] = a.filter A1 ++ (b.take (k + 1)).filter B1 by rw [f1, List.append_assoc]) | exact .lstrow _ _ _ _ _ _ _ rfl (show a.filter A1 ++ (b.take k).filter B1 ++ [e] = a.filter A1 ++ (b.take (k + 1)).filter B1 by rw [f1, List.append_assoc]) | exact .nilrow _ _ _ _ _ (show a.filter A1 ++ (b.take k).filter B1 ++ [e] = a.filter A1 ++ (b.take (k + 1)).filter B1 by rw [f1, List.append_assoc]) | exact .truncrow _ _ _ _ _ _ _ _ rfl (by omega) (show a.filter A1 ++ (b.take k).filter B1 ++ [e] = a.filter A1 ++ (b.take (k + 1)).filter B1 by rw [f1, List.append_assoc]))⟩, ⟨_, rfl, (by first | exact .row _ _ _ _ _ _ _ rfl (show a.filter A2 ++ (b.take k).filter B2 = a.filter A2 ++ (b.take (k + 1)).filter B2 by rw [f2]) | exact .lstrow _ _ _ _ _ _ _ rfl (show a.filter A2 ++ (b.take k).filter B2 = a.filter A2 ++ (b.take (k + 1)).filter B2 by rw [f2]) | exact .nilrow _ _ _ _ _ (show a.filter A2 ++ (b.take k).filter B2 = a.filter A2 ++ (b.take (k + 1)).filter B2 by rw [f2]) | exact .truncrow _ _ _ _ _ _ _ _ rfl (by omega) (show a.filter A2 ++ (b.take k).filter B2 = a.filter A2 ++ (b.take (k + 1)).filter B2 by rw [f2]))⟩, trivial⟩))
              · have g1 : B1 e = false := by rw [← hB1]; unfold goIn; rw [ho]; simpa using hd
                have g2 : B2 e = true := by rw [← hB2]; unfold goOut; rw [ho]; simpa using hd
                rw [if_neg (by rw [g1]; exact Bool.noConfusion)] at f1
                rw [if_pos g2] at f2
                conv => whnf
                refine And.intro (fun _ => ?_) (fun h => absurd h (by decide)); conv => whnf
                refine And.intro rfl ?_; conv => whnf
                refine And.intro ⟨rfl, rfl⟩ (And.intro (show ((a.filter A2 ++ (b.take k).filter B2).length + 1) * 40 ≤ 140737488355328 by omega) ?_)
                conv => whnf
                refine Exists.intro _ (And.intro rfl ?_); conv => whnf
                refine And.intro ⟨by omega, by omega⟩ ?_; conv => whnf
                refine up hlt trivial ((wk_of [(0, .id 0), (1, .id 1), (2, .id 2), (3, .id 3), (4, .id 4), (5, .id 5), (6, .id 10)] rfl ⟨.base (.ptr _ _ _ rfl), .base (.ptr _ _ _ rfl), .base (.ptr _ _ _ rfl), (by first | exact .base (.own _ _ rfl) | exact .base (.nilown _ rfl) | exact .base (.trunc _ _ _ rfl)), (by first | exact .base (.own _ _ rfl) | exact .base (.nilown _ rfl) | exact .base (.trunc _ _ _ rfl)), .base (.tree _ _ rfl rfl), .base (.tree _ _ rfl rfl), .base (.tree _ _ rfl rfl), .base (.tree _ _ rfl rfl), .base (.tree _ _ rfl rfl), .base (.tree _ _ rfl rfl), .base (.tree _ _ rfl rfl), trivial⟩ ⟨⟨_, rfl, .cells _ _ _ _ rfl (by repeat (first | exact .nil | refine .cons (by first | exact .base (.tree _ _ rfl rfl) | exact .base (.own _ _ rfl) | exact .base (.ptr _ _ _ rfl) | exact .base (.map _ _ rfl) | exact .base (.nilown _ rfl) | exact .fn _ _ _ _ _ .nil (by repeat (first | exact .nil | refine .cons (by exact .ptr _ _ _ rfl) ?_))) ?_)) rfl⟩, ⟨_, rfl, .cells _ _ _ _ rfl (by repeat (first | exact .nil | refine .cons (by first | exact .base (.tree _ _ rfl rfl) | exact .base (.own _ _ rfl) | exact .base (.ptr _ _ _ rfl) | exact .base (.map _ _ rfl) | exact .base (.nilown _ rfl) | exact .fn _ _ _ _ _ .nil (by repeat (first | exact .nil | refine .cons (by exact .ptr _ _ _ rfl) ?_))) ?_)) rfl⟩, ⟨_, rfl, (by first | exact .imap _ _ _ _ _ _ rfl rfl | exact .newimap _ _ _ _ _ _ _ _ rfl rfl rfl)⟩, ⟨_, rfl, (by first | exact .imap _ _ _ _ _ _ rfl rfl | exact .newimap _ _ _ _ _ _ _ _ rfl rfl rfl)⟩, ⟨_, rfl, .cells _ _ _ _ rfl (by repeat (first | exact .nil | refine .cons (by first | exact .base (.tree _ _ rfl rfl) | exact .base (.own _ _ rfl) | exact .base (.ptr _ _ _ rfl) | exact .base (.map _ _ rfl) | exact .base (.nilown _ rfl) | exact .fn _ _ _ _ _ .nil (by repeat (first | exact .nil | refine .cons (by exact .ptr _ _ _ rfl) ?_))) ?_)) rfl⟩, ⟨_, rfl, (by first | exact .row _ _ _ _ _ _ _ rfl (show a.filter A1 ++ (b.take k).filter B1 = a.filter A1 ++ (b.take (k + 1)).filter B1 by rw [f1]) | exact .lstrow _ _ _ _ _ _ _ rfl (show a.filter A1 ++ (b.take k).filter B1 = a.filter A1 ++ (b.take (k + 1)).filter B1 by rw [f1]) | exact .nilrow _ _ _ _ _ (show a.filter A1 ++ (b.take k).filter B1 = a.filter A1 ++ (b.take (k + 1)).filter B1 by rw [f1]) | exact .truncrow _ _ _ _ _ _ _ _ rfl (by omega) (show a.filter A1 ++ (b.take k).filter B1 = a.filter A1 ++ (b.take (k + 1)).filter B1 by rw [f1]))⟩, ⟨_, rfl, (by first | exact .row _ _ _ _ _ _ _ rfl (show a.filter A2 ++ (b.take k).filter B2 ++ [e] = a.filter A2 ++ (b.take (k + 1)).filter B2 by rw [f2, List.append_assoc]) | exact .lstrow _ _ _ _ _ _ _ rfl (show a.filter A2 ++ (b.take k).filter B2 ++ [e] = a.filter A2 ++ (b.take (k + 1)).filter B2 by rw [f2, List.append_assoc]) | exact .nilrow _ _ _ _ _ (show a.filter A2 ++ (b.take k).filter B2 ++ [e] = a.filter A2 ++ (b.take (k + 1)).filter B2 by rw [f2, List.append_assoc]) | exact .truncrow _ _ _ _ _ _ _ _ rfl (by omega) (show a.filter A2 ++ (b.take k).filter B2 ++ [e] = a.filter A2 ++ (b.take (k + 1)).filter B2 by rw [f2, List.append_assoc]))⟩, trivial⟩))
            | some x =>
              have g1 : B1 e = false := by rw [← hB1]; unfold goIn; rw [ho]; rfl
              rw [if_neg (by rw [g1]; exact Bool.noConfusion)] at f1
              refine ⟨⟨by kernel_rfl, by kernel_rfl⟩, ?_⟩
              conv => whnf
              refine ⟨fun hd => ?_, fun hd => ?_⟩
              · have g2 : B2 e = true := by rw [← hB2]; unfold goOut; rw [ho]; exact hd
                rw [if_pos g2] at f2
                conv => whnf
                refine And.intro rfl ?_; conv => whnf
                refine And.intro ⟨rfl, rfl⟩ (And.intro (show ((a.filter A2 ++ (b.take k).filter B2).length + 1) * 40 ≤ 140737488355328 by omega) ?_)
                conv => whnf
                refine Exists.intro _ (And.intro rfl ?_); conv => whnf
                refine And.intro ⟨by omega, by omega⟩ ?_; conv => whnf
                refine up hlt trivial ((wk_of [(0, .id 0), (1, .id 1), (2, .id 2), (3, .id 3), (4, .id 4), (5, .id 5), (6, .id 10)] rfl ⟨.base (.ptr _ _ _ rfl), .base (.ptr _ _ _ rfl), .base (.ptr _ _ _ rfl), (by first | exact .base (.own _ _ rfl) | exact .base (.nilown _ rfl) | exact .base (.trunc _ _ _ rfl)), (by first | exact .base (.own _ _ rfl) | exact .base (.nilown _ rfl) | exact .base (.trunc _ _ _ rfl)), .base (.tree _ _ rfl rfl), .base (.tree _ _ rfl rfl), .base (.tree _ _ rfl rfl), .base (.tree _ _ rfl rfl), .base (.tree _ _ rfl rfl), .base (.tree _ _ rfl rfl), .base (.tree _ _ rfl rfl), trivial⟩ ⟨⟨_, rfl, .cells _ _ _ _ rfl (by repeat (first | exact .nil | refine .cons (by first | exact .base (.tree _ _ rfl rfl) | exact .base (.own _ _ rfl) | exact .base (.ptr _ _ _ rfl) | exact .base (.map _ _ rfl) | exact .base (.nilown _ rfl) | exact .fn _ _ _ _ _ .nil (by repeat (first | exact .nil | refine .cons (by exact .ptr _ _ _ rfl) ?_))) ?_)) rfl⟩, ⟨_, rfl, .cells _ _ _ _ rfl (by repeat (first | exact .nil | refine .cons (by first | exact .base (.tree _ _ rfl rfl) | exact .base (.own _ _ rfl) | exact .base (.ptr _ _ _ rfl) | exact .base (.map _ _ rfl) | exact .base (.nilown _ rfl) | exact .fn _ _ _ _ _ .nil (by repeat (first | exact .nil | refine .cons (by exact .ptr _ _ _ rfl) ?_))) ?_)) rfl⟩, ⟨_, rfl, (by first | exact .imap _ _ _ _ _ _ rfl rfl | exact .newimap _ _ _ _ _ _ _ _ rfl rfl rfl)⟩, ⟨_, rfl, (by first | exact .imap _ _ _ _ _ _ rfl rfl | exact .newimap _ _ _ _ _ _ _ _ rfl rfl rfl)⟩, ⟨_, rfl, .cells _ _ _ _ rfl (by repeat (first | exact .nil | refine .cons (by first | exact .base (.tree _ _ rfl rfl) | exact .base (.own _ _ rfl) | exact .base (.ptr _ _ _ rfl) | exact .base (.map _ _ rfl) | exact .base (.nilown _ rfl) | exact .fn _ _ _ _ _ .nil (by repeat (first | exact .nil | refine .cons (by exact .ptr _ _ _ rfl) ?_))) ?_)) rfl⟩, ⟨_, rfl, (by first | exact .row _ _ _ _ _ _ _ rfl (show a.filter A1 ++ (b.take k).filter B1 = a.filter A1 ++ (b.take (k + 1)).filter B1 by rw [f1]) | exact .lstrow _ _ _ _ _ _ _ rfl (show a.filter A1 ++ (b.take k).filter B1 = a.filter A1 ++ (b.take (k + 1)).filter B1 by rw [f1]) | exact .nilrow _ _ _ _ _ (show a.filter A1 ++ (b.take k).filter B1 = a.filter A1 ++ (b.take (k + 1)).filter B1 by rw [f1]) | exact .truncrow _ _ _ _ _ _ _ _ rfl (by omega) (show a.filter A1 ++ (b.take k).filter B1 = a.filter A1 ++ (b.take (k + 1)).filter B1 by rw [f1]))⟩, ⟨_, rfl, (by first | exact .row _ _ _ _ _ _ _ rfl (show a.filter A2 ++ (b.take k).filter B2 ++ [e] = a.filter A2 ++ (b.take (k + 1)).filter B2 by rw [f2, List.append_assoc]) | exact .lstrow _ _ _ _ _ _ _ rfl (show a.filter A2 ++ (b.take k).filter B2 ++ [e] = a.filter A2 ++ (b.take (k + 1)).filter B2 by rw [f2, List.append_assoc]) | exact .nilrow _ _ _ _ _ (show a.filter A2 ++ (b.take k).filter B2 ++ [e] = a.filter A2 ++ (b.take (k + 1)).filter B2 by rw [f2, List.append_assoc]) | exact .truncrow _ _ _ _ _ _ _ _ rfl (by omega) (show a.filter A2 ++ (b.take k).filter B2 ++ [e] = a.filter A2 ++ (b.take (k + 1)).filter B2 by rw [f2, List.append_assoc]))⟩, trivial⟩))
              · have g2 : B2 e = false := by rw [← hB2]; unfold goOut; rw [ho]; exact hd
                rw [if_neg (by rw [g2]; exact Bool.noConfusion)] at f2
                conv => whnf
                refine .quiet (by kernel_rfl) ?_; conv => whnf
                refine And.intro (fun _ => ⟨by omega, by omega⟩) ?_; conv => whnf
                refine And.intro (by omega) (And.intro rfl ?_); conv => whnf
                refine ⟨fun h => by simp at h, fun _ => ?_⟩
                conv => whnf
                refine ⟨fun h => by simp at h, fun _ => ?_⟩
                conv => whnf
                refine And.intro ⟨by omega, by omega⟩ ?_; conv => whnf
                refine up hlt trivial ((wk_of [(0, .id 0), (1, .id 1), (2, .id 2), (3, .id 3), (4, .id 4), (5, .id 5), (6, .id 6)] rfl ⟨.base (.ptr _ _ _ rfl), .base (.ptr _ _ _ rfl), .base (.ptr _ _ _ rfl), (by first | exact .base (.own _ _ rfl) | exact .base (.nilown _ rfl) | exact .base (.trunc _ _ _ rfl)), (by first | exact .base (.own _ _ rfl) | exact .base (.nilown _ rfl) | exact .base (.trunc _ _ _ rfl)), .base (.tree _ _ rfl rfl), .base (.tree _ _ rfl rfl), .base (.tree _ _ rfl rfl), .base (.tree _ _ rfl rfl), .base (.tree _ _ rfl rfl), .base (.tree _ _ rfl rfl), .base (.tree _ _ rfl rfl), trivial⟩ ⟨⟨_, rfl, .cells _ _ _ _ rfl (by repeat (first | exact .nil | refine .cons (by first | exact .base (.tree _ _ rfl rfl) | exact .base (.own _ _ rfl) | exact .base (.ptr _ _ _ rfl) | exact .base (.map _ _ rfl) | exact .base (.nilown _ rfl) | exact .fn _ _ _ _ _ .nil (by repeat (first | exact .nil | refine .cons (by exact .ptr _ _ _ rfl) ?_))) ?_)) rfl⟩, ⟨_, rfl, .cells _ _ _ _ rfl (by repeat (first | exact .nil | refine .cons (by first | exact .base (.tree _ _ rfl rfl) | exact .base (.own _ _ rfl) | exact .base (.ptr _ _ _ rfl) | exact .base (.map _ _ rfl) | exact .base (.nilown _ rfl) | exact .fn _ _ _ _ _ .nil (by repeat (first | exact .nil | refine .cons (by exact .ptr _ _ _ rfl) ?_))) ?_)) rfl⟩, ⟨_, rfl, (by first | exact .imap _ _ _ _ _ _ rfl rfl | exact .newimap _ _ _ _ _ _ _ _ rfl rfl rfl)⟩, ⟨_, rfl, (by first | exact .imap _ _ _ _ _ _ rfl rfl | exact .newimap _ _ _ _ _ _ _ _ rfl rfl rfl)⟩, ⟨_, rfl, .cells _ _ _ _ rfl (by repeat (first | exact .nil | refine .cons (by first | exact .base (.tree _ _ rfl rfl) | exact .base (.own _ _ rfl) | exact .base (.ptr _ _ _ rfl) | exact .base (.map _ _ rfl) | exact .base (.nilown _ rfl) | exact .fn _ _ _ _ _ .nil (by repeat (first | exact .nil | refine .cons (by exact .ptr _ _ _ rfl) ?_))) ?_)) rfl⟩, ⟨_, rfl, (by first | exact .row _ _ _ _ _ _ _ rfl (show a.filter A1 ++ (b.take k).filter B1 = a.filter A1 ++ (b.take (k + 1)).filter B1 by rw [f1]) | exact .lstrow _ _ _ _ _ _ _ rfl (show a.filter A1 ++ (b.take k).filter B1 = a.filter A1 ++ (b.take (k + 1)).filter B1 by rw [f1]) | exact .nilrow _ _ _ _ _ (show a.filter A1 ++ (b.take k).filter B1 = a.filter A1 ++ (b.take (k + 1)).filter B1 by rw [f1]) | exact .truncrow _ _ _ _ _ _ _ _ rfl (by omega) (show a.filter A1 ++ (b.take k).filter B1 = a.filter A1 ++ (b.take (k + 1)).filter B1 by rw [f1]))⟩, ⟨_, rfl, (by first | exact .row _ _ _ _ _ _ _ rfl (show a.filter A2 ++ (b.take k).filter B2 = a.filter A2 ++ (b.take (k + 1)).filter B2 by rw [f2]) | exact .lstrow _ _ _ _ _ _ _ rfl (show a.filter A2 ++ (b.take k).filter B2 = a.filter A2 ++ (b.take (k + 1)).filter B2 by rw [f2]) | exact .nilrow _ _ _ _ _ (show a.filter A2 ++ (b.take k).filter B2 = a.filter A2 ++ (b.take (k + 1)).filter B2 by rw [f2]) | exact .truncrow _ _ _ _ _ _ _ _ rfl (by omega) (show a.filter A2 ++ (b.take k).filter B2 = a.filter A2 ++ (b.take (k + 1)).filter B2 by rw [f2]))⟩, trivial⟩))
          · simp only [decide_eq_false_iff_not] at hc3
            obtain rfl : k = b.length := by omega
            rw [List.take_of_length_le (Nat.le_refl _)]
            conv => whnf
            refine And.intro ⟨by omega, by omega⟩ ?_; conv => whnf
            refine up (by omega) trivial ((wk_of [(0, .id 0), (1, .id 1), (2, .id 2), (3, .id 3), (4, .id 4), (5, .id 5), (6, .id 6)] rfl ⟨.base (.ptr _ _ _ rfl), .base (.ptr _ _ _ rfl), .base (.ptr _ _ _ rfl), (by first | exact .base (.own _ _ rfl) | exact .base (.nilown _ rfl) | exact .base (.trunc _ _ _ rfl)), (by first | exact .base (.own _ _ rfl) | exact .base (.nilown _ rfl) | exact .base (.trunc _ _ _ rfl)), .base (.tree _ _ rfl rfl), .base (.tree _ _ rfl rfl), trivial⟩ ⟨⟨_, rfl, .cells _ _ _ _ rfl (by repeat (first | exact .nil | refine .cons (by first | exact .base (.tree _ _ rfl rfl) | exact .base (.own _ _ rfl) | exact .base (.ptr _ _ _ rfl) | exact .base (.map _ _ rfl) | exact .base (.nilown _ rfl) | exact .fn _ _ _ _ _ .nil (by repeat (first | exact .nil | refine .cons (by exact .ptr _ _ _ rfl) ?_))) ?_)) rfl⟩, ⟨_, rfl, .cells _ _ _ _ rfl (by repeat (first | exact .nil | refine .cons (by first | exact .base (.tree _ _ rfl rfl) | exact .base (.own _ _ rfl) | exact .base (.ptr _ _ _ rfl) | exact .base (.map _ _ rfl) | exact .base (.nilown _ rfl) | exact .fn _ _ _ _ _ .nil (by repeat (first | exact .nil | refine .cons (by exact .ptr _ _ _ rfl) ?_))) ?_)) rfl⟩, ⟨_, rfl, (by first | exact .imap _ _ _ _ _ _ rfl rfl | exact .newimap _ _ _ _ _ _ _ _ rfl rfl rfl)⟩, ⟨_, rfl, (by first | exact .imap _ _ _ _ _ _ rfl rfl | exact .newimap _ _ _ _ _ _ _ _ rfl rfl rfl)⟩, ⟨_, rfl, .cells _ _ _ _ rfl (by repeat (first | exact .nil | refine .cons (by first | exact .base (.tree _ _ rfl rfl) | exact .base (.own _ _ rfl) | exact .base (.ptr _ _ _ rfl) | exact .base (.map _ _ rfl) | exact .base (.nilown _ rfl) | exact .fn _ _ _ _ _ .nil (by repeat (first | exact .nil | refine .cons (by exact .ptr _ _ _ rfl) ?_))) ?_)) rfl⟩, ⟨_, rfl, (by first | exact .row _ _ _ _ _ _ _ rfl rfl | exact .lstrow _ _ _ _ _ _ _ rfl rfl | exact .nilrow _ _ _ _ _ rfl | exact .truncrow _ _ _ _ _ _ _ _ rfl (by omega) rfl)⟩, ⟨_, rfl, (by first | exact .row _ _ _ _ _ _ _ rfl rfl | exact .lstrow _ _ _ _ _ _ _ rfl rfl | exact .nilrow _ _ _ _ _ rfl | exact .truncrow _ _ _ _ _ _ _ _ rfl (by omega) rfl)⟩, trivial⟩))
      · simp only [decide_eq_false_iff_not] at hc2
        obtain rfl : n = 2 := by omega
        have hri : (rawI a b fl) = a.filter A1 ++ b.filter B1 := by unfold rawI; rw [hm0, hm1, hA1, hB1]
        have hro : (rawO a b fl) = a.filter A2 ++ b.filter B2 := by unfold rawO; rw [hm0, hm1, hA2, hB2]
        have li : (a.filter A1 ++ b.filter B1).length ≤ 40 := by rw [List.length_append]; have := List.length_filter_le A1 a; have := List.length_filter_le B1 b; omega
        have lo : (a.filter A2 ++ b.filter B2).length ≤ 40 := by rw [List.length_append]; have := List.length_filter_le A2 a; have := List.length_filter_le B2 b; omega
        rw [hri, hro]
        rw [show (if (2 : Nat) = 0 then [] else if (2 : Nat) = 1 then a.filter A1 else a.filter A1 ++ b.filter B1) = a.filter A1 ++ b.filter B1 from rfl, show (if (2 : Nat) = 0 then [] else if (2 : Nat) = 1 then a.filter A2 else a.filter A2 ++ b.filter B2) = a.filter A2 ++ b.filter B2 from rfl]
        generalize a.filter A1 ++ b.filter B1 = P at *
        generalize a.filter A2 ++ b.filter B2 = Q at *
        have sP := sorts_ok P li
        have sQ := sorts_ok Q lo
        conv => whnf
        refine .raw _ _ rfl (fun h => by cases h) (callio_sem (sP) [5] _ rfl rfl ⟨rfl, trivial⟩ (by repeat (first | exact .nil | (apply BorL.cons; first | exact .map _ _ rfl | exact .ptr _ _ _ rfl | exact .own _ _ rfl | exact .fnp _ _ _ _ rfl | (apply BorIO.lend; first | exact lS rfl | exact lR rfl | exact lM rfl rfl | exact lL rfl | exact lX rfl | exact lN | exact lNl | exact lSm rfl | exact lIm rfl | exact lGm rfl | exact lP rfl | exact lQ rfl | exact lB rfl rfl rfl)))) rfl (by first | exact .inl rfl | exact .inr (fun b rs h => by first | obtain ⟨rfl, rfl⟩ := h | obtain ⟨_, _, _, rfl, rfl⟩ := h; exact ⟨by repeat (first | exact flats_nil | refine flats_cons (by first | exact flat_val _ rfl | exact flat_row (fun _ => rfl) | exact flat_lst (fun _ => rfl)) ?_), by repeat (first | exact flats0 | refine flats1 (by first | exact flatB_row (fun _ => rfl) | exact flatB_lst (fun _ => rfl) | exact flatB_smap (fun _ => rfl) | exact flatB_imap (fun _ => rfl) | exact flatB_cells rfl) ?_)⟩))) ?_
        rintro r ⟨b, rs, ⟨rfl, rfl⟩, rfl⟩
        refine ⟨tn_ge _ _, ?_⟩
        conv => whnf
        refine .raw _ _ rfl (fun h => by cases h) (callio_sem (sQ) [6] _ rfl rfl ⟨rfl, trivial⟩ (by repeat (first | exact .nil | (apply BorL.cons; first | exact .map _ _ rfl | exact .ptr _ _ _ rfl | exact .own _ _ rfl | exact .fnp _ _ _ _ rfl | (apply BorIO.lend; first | exact lS rfl | exact lR rfl | exact lM rfl rfl | exact lL rfl | exact lX rfl | exact lN | exact lNl | exact lSm rfl | exact lIm rfl | exact lGm rfl | exact lP rfl | exact lQ rfl | exact lB rfl rfl rfl)))) rfl (by first | exact .inl rfl | exact .inr (fun b rs h => by first | obtain ⟨rfl, rfl⟩ := h | obtain ⟨_, _, _, rfl, rfl⟩ := h; exact ⟨by repeat (first | exact flats_nil | refine flats_cons (by first | exact flat_val _ rfl | exact flat_row (fun _ => rfl) | exact flat_lst (fun _ => rfl)) ?_), by repeat (first | exact flats0 | refine flats1 (by first | exact flatB_row (fun _ => rfl) | exact flatB_lst (fun _ => rfl) | exact flatB_smap (fun _ => rfl) | exact flatB_imap (fun _ => rfl) | exact flatB_cells rfl) ?_)⟩))) ?_
        rintro r ⟨b, rs, ⟨rfl, rfl⟩, rfl⟩
        refine ⟨tn_ge _ _, ?_⟩
        conv => whnf
        rfl
  · have hk : okC a b fl = false := by
      unfold okC
      rw [hfl]
      rfl
    conv => whnf
    refine .one _ _ _ (fun _ => hva) (by repeat (first | exact .nil | (apply BorL.cons; first | exact lS rfl | exact lR rfl | exact lM rfl rfl | exact lL rfl | exact lX rfl | exact lN | exact lNl | exact lSm rfl | exact lIm rfl | exact lGm rfl | exact lP rfl | exact lQ rfl | exact lB rfl rfl rfl))) (by first | exact .inl rfl | exact .inr (by repeat (first | exact flats_nil | refine flats_cons (by first | exact flat_val _ rfl | exact flat_row (fun _ => rfl) | exact flat_lst (fun _ => rfl)) ?_))) (by first | exact .inr rfl | exact .inl rfl) ?_
    conv => whnf
    refine .one _ _ _ (fun _ => hvb) (by repeat (first | exact .nil | (apply BorL.cons; first | exact lS rfl | exact lR rfl | exact lM rfl rfl | exact lL rfl | exact lX rfl | exact lN | exact lNl | exact lSm rfl | exact lIm rfl | exact lGm rfl | exact lP rfl | exact lQ rfl | exact lB rfl rfl rfl))) (by first | exact .inl rfl | exact .inr (by repeat (first | exact flats_nil | refine flats_cons (by first | exact flat_val _ rfl | exact flat_row (fun _ => rfl) | exact flat_lst (fun _ => rfl)) ?_))) (by first | exact .inr rfl | exact .inl rfl) ?_
    conv => whnf
    refine ⟨fun _ => ?_, fun h => by simp at h⟩
    conv => whnf
    rw [if_neg (by rw [hk]; exact Bool.noConfusion)]
    rfl

end Go.Proofs.YtjlnaogechkjdaaGreatDoor


namespace Go.Proofs.YtjlnaogechkjdaaGreatDoor
open Go.Own
set_option maxHeartbeats 4000000
set_option maxRecDepth 100000

/-! ### The rings of signatures -/
structure Seal where
  key : Int
  text : List UInt8
deriving DecidableEq
def s0 : Seal := ⟨0, []⟩
structure Sgn where
  key : Int
  text : List UInt8
  mark : Int
deriving DecidableEq
def g0 : Sgn := ⟨0, [], 0⟩
def encSl (s : Seal) : AV := .agg [.int .i64 s.key, .str s.text]
def encSls (l : List Seal) : AV := .sl 2 encSl s0 l
def encSg (s : Sgn) : AV := .agg [.int .i64 s.key, .str s.text, .int .i64 s.mark]
def encSgs (l : List Sgn) : AV := .sl 3 encSg g0 l
def kv (s : Seal) : List KV := [.vI .i64 s.key, .vS s.text]
theorem kv_inj {s t : Seal} (h : kv s = kv t) : s = t := by
  cases s; cases t
  simp only [kv, List.cons.injEq, KV.vI.injEq, KV.vS.injEq] at h
  rw [h.1.2, h.2.1]
def shS : List KK := [.kI .i64, .kS]
def mkFrom : Nat → List Seal → List (List KV × Int)
  | _, [] => []
  | n, s :: l => (kv s, (n : Int)) :: mkFrom (n + 1) l
def marksM (l : List Seal) : List (List KV × Int) := mkFrom 0 l
def idxS (l : List Seal) (s : Seal) : Nat := l.findIdx (fun x => decide (x = s))
theorem idxS_cons (x : Seal) (l : List Seal) (s : Seal) : idxS (x :: l) s = if x = s then 0 else idxS l s + 1 := by
  unfold idxS
  rw [List.findIdx_cons]
  by_cases h : x = s <;> simp [h]
theorem mk_get : ∀ (l : List Seal) (n : Nat) (s : Seal), mget (mkFrom n l) (kv s) = if idxS l s < l.length then some ((n + idxS l s : Nat) : Int) else none
  | [], _, _ => rfl
  | x :: l, n, s => by
    rw [mkFrom, mget, idxS_cons, List.length_cons]
    by_cases h : x = s
    · subst h
      simp
    · rw [if_neg (fun e => h (kv_inj e)), if_neg h, mk_get l (n + 1) s]
      by_cases h2 : idxS l s < l.length
      · rw [if_pos h2, if_pos (by omega)]
        congr 2
        omega
      · rw [if_neg h2, if_neg (by omega)]
theorem marks_get (l : List Seal) (s : Seal) : mget (marksM l) (kv s) = if idxS l s < l.length then some (idxS l s : Int) else none := by
  unfold marksM
  rw [mk_get, Nat.zero_add]
theorem idxS_le (l : List Seal) (s : Seal) : idxS l s ≤ l.length := List.findIdx_le_length
theorem mk_snoc : ∀ (l : List Seal) (n : Nat) (s : Seal), mkFrom n (l ++ [s]) = mkFrom n l ++ [(kv s, ((n + l.length : Nat) : Int))]
  | [], _, _ => rfl
  | x :: l, n, s => by
    rw [List.cons_append, mkFrom, mk_snoc l (n + 1) s, mkFrom, List.cons_append, List.length_cons, show n + 1 + l.length = n + (l.length + 1) by omega]
theorem mset_none {K V : Type} [DecidableEq K] : ∀ {m : List (K × V)} {k : K} {x : V}, mget m k = none → mset m k x = m ++ [(k, x)]
  | [], _, _, _ => rfl
  | (a, v) :: m, k, x, h => by
    unfold mget at h
    split at h
    · cases h
    · rename_i hn
      rw [mset, if_neg hn, mset_none h, List.cons_append]
theorem marks_put {l : List Seal} {s : Seal} (h : ¬ idxS l s < l.length) : mset (marksM l) (kv s) (l.length : Int) = marksM (l ++ [s]) := by
  rw [mset_none (by rw [marks_get, if_neg h])]
  unfold marksM
  rw [mk_snoc, Nat.zero_add]
def keyB (k : Int) : Bool := decide (0 ≤ k) && decide (k < 200)
def signL (l : List Seal) (k : Int) (t : List UInt8) : List Seal := if keyB k = true then (if idxS l ⟨k, t⟩ < l.length then l else l ++ [⟨k, t⟩]) else l
def signV (l : List Seal) (k : Int) (t : List UInt8) : Sgn := if keyB k = true then ⟨k, t, (idxS l ⟨k, t⟩ : Nat)⟩ else ⟨0, [], 0⟩
def ringB (i j : Nat) : AB := .cells 73 [.own i, .map j]
def rowS (l : List Seal) : AB := .row 76 2 encSl s0 l
def mapS (l : List Seal) : AB := .gmap shS encI 0 (marksM l)
theorem key_ok (k : Int) : APureV Tryz.prog 28 [.int .i64 k] (.bool (keyB k)) := by
  refine apure_of (C := cx 9 [0, 2]) (cxOk _ _) Tryz.func28 rfl (by decide) rfl (by exact Nat.le_of_ble_eq_true rfl) (by decide) ?_
  conv => whnf
  rfl
theorem new_ok : RIO Tryz.prog 13 [] [] 0 (fun vs bs es => vs = [.ptr 0 0] ∧ bs = [] ∧ es = [ringB 2 1, mapS [], rowS []]) := by
  refine rio_of (C := cxP 0 4 [0]) (cxPOk _ _ _) Tryz.func13 rfl (by decide) rfl (by exact Nat.le_of_ble_eq_true rfl) (by decide) rfl rfl rfl ?_
  conv => whnf
  refine ⟨⟨[(0, .ptr 0 0)], [(0, .cells 73 [.own 2, .map 1]), (1, .gmap shS encI 0 (marksM [])), (2, .row 76 2 encSl s0 [])], 3⟩, (wk_of [(0, .id 1), (1, .id 0), (2, .nil)] rfl ⟨.base (.ptr _ _ _ rfl), trivial⟩ ⟨⟨_, rfl, .cells _ _ _ _ rfl (by repeat (first | exact .nil | refine .cons (by first | exact .base (.tree _ _ rfl rfl) | exact .base (.own _ _ rfl) | exact .base (.ptr _ _ _ rfl) | exact .base (.map _ _ rfl) | exact .base (.nilown _ rfl) | exact .fn _ _ _ _ _ .nil (by repeat (first | exact .nil | refine .cons (by exact .ptr _ _ _ rfl) ?_))) ?_)) rfl⟩, ⟨_, rfl, (by first | exact .gmap _ _ _ _ _ _ rfl rfl | exact .newgmap _ _ _ _ _ _ _ _ rfl rfl rfl)⟩, ⟨_, rfl, (by first | exact .row _ _ _ _ _ _ _ rfl rfl | exact .lstrow _ _ _ _ _ _ _ rfl rfl | exact .nilrow _ _ _ _ _ rfl | exact .truncrow _ _ _ _ _ _ _ _ rfl (by omega) rfl)⟩, trivial⟩), rfl, rfl, ?_⟩
  conv => whnf
  exact ⟨rfl, rfl, rfl, rfl⟩
theorem sign_ok (l : List Seal) (hl : l.length ≤ 1000000) (k : Int) (t : List UInt8) :
    RIO Tryz.prog 14 [.ptr 0 0, .int .i64 k, .str t] [ringB 2 1, mapS l, rowS l] 2 (fun vs bs es => vs = [encSg (signV l k t)] ∧ bs = [ringB 2 1, mapS (signL l k t)] ∧ es = [rowS (signL l k t)]) := by
  have hk := key_ok k
  refine rio_of (C := cxP 2 53 [0, 1, 2, 6, 7, 8, 9, 12, 27]) (cxPOk _ _ _) Tryz.func14 rfl (by decide) rfl (by exact Nat.le_of_ble_eq_true rfl) (by decide) rfl rfl rfl ?_
  conv => whnf
  refine .one _ _ _ (fun _ => hk) (by repeat (first | exact .nil | (apply BorL.cons; first | exact lS rfl | exact lR rfl | exact lM rfl rfl | exact lL rfl | exact lX rfl | exact lN | exact lNl | exact lSm rfl | exact lIm rfl | exact lGm rfl | exact lP rfl | exact lQ rfl | exact lB rfl rfl rfl))) (by first | exact .inl rfl | exact .inr (by repeat (first | exact flats_nil | refine flats_cons (by first | exact flat_val _ rfl | exact flat_row (fun _ => rfl) | exact flat_lst (fun _ => rfl)) ?_))) (by first | exact .inr rfl | exact .inl rfl) ?_
  conv => whnf
  refine ⟨fun hb => ?_, fun hb => ?_⟩
  · have hkb : ¬ keyB k = true := by simpa using hb
    rw [signV, signL, if_neg hkb, if_neg hkb]
    conv => whnf
    refine ⟨⟨[(6, .rop [.int .i64 (((⟨0, [], 0⟩ : Sgn))).key, .str (((⟨0, [], 0⟩ : Sgn))).text, .int .i64 (((⟨0, [], 0⟩ : Sgn))).mark])], [(0, .cells 73 [.own 2, .map 1]), (1, .gmap shS encI 0 (marksM l)), (2, .row 76 2 encSl s0 l)], 3⟩, (wk_frz [3]).trans (wk_of [(0, .id 0), (1, .id 1), (2, .id 2)] rfl ⟨.base (.tree _ _ rfl rfl), trivial⟩ ⟨⟨_, rfl, .cells _ _ _ _ rfl (by repeat (first | exact .nil | refine .cons (by first | exact .base (.tree _ _ rfl rfl) | exact .base (.own _ _ rfl) | exact .base (.ptr _ _ _ rfl) | exact .base (.map _ _ rfl) | exact .base (.nilown _ rfl) | exact .fn _ _ _ _ _ .nil (by repeat (first | exact .nil | refine .cons (by exact .ptr _ _ _ rfl) ?_))) ?_)) rfl⟩, ⟨_, rfl, (by first | exact .gmap _ _ _ _ _ _ rfl rfl | exact .newgmap _ _ _ _ _ _ _ _ rfl rfl rfl)⟩, ⟨_, rfl, (by first | exact .row _ _ _ _ _ _ _ rfl rfl | exact .lstrow _ _ _ _ _ _ _ rfl rfl | exact .nilrow _ _ _ _ _ rfl | exact .truncrow _ _ _ _ _ _ _ _ rfl (by omega) rfl)⟩, trivial⟩), rfl, rfl, ?_⟩
    conv => whnf
    exact ⟨rfl, rfl, rfl, rfl⟩
  · have hkb : keyB k = true := by simpa using hb
    rw [signV, signL, if_pos hkb, if_pos hkb]
    conv => whnf
    refine .eff (by first | exact cxOk _ _ | exact cxPOk _ _ _) ?_; conv => whnf
    rw [show [KV.vI .i64 k, KV.vS t] = kv ⟨k, t⟩ from rfl, marks_get]
    by_cases hi : idxS l ⟨k, t⟩ < l.length
    · rw [if_pos hi, if_pos hi]
      refine ⟨by kernel_rfl, rfl, ?_⟩
      conv => whnf
      refine ⟨by kernel_rfl, ?_⟩
      conv => whnf
      refine ⟨fun h => by simp at h, fun _ => ?_⟩
      conv => whnf
      refine ⟨⟨[(6, .rop [.int .i64 (((⟨k, t, ((idxS l ⟨k, t⟩ : Nat) : Int)⟩ : Sgn))).key, .str (((⟨k, t, ((idxS l ⟨k, t⟩ : Nat) : Int)⟩ : Sgn))).text, .int .i64 (((⟨k, t, ((idxS l ⟨k, t⟩ : Nat) : Int)⟩ : Sgn))).mark])], [(0, .cells 73 [.own 2, .map 1]), (1, .gmap shS encI 0 (marksM l)), (2, .row 76 2 encSl s0 l)], 3⟩, (wk_frz [3]).trans (wk_of [(0, .id 0), (1, .id 1), (2, .id 2)] rfl ⟨.base (.tree _ _ rfl rfl), trivial⟩ ⟨⟨_, rfl, .cells _ _ _ _ rfl (by repeat (first | exact .nil | refine .cons (by first | exact .base (.tree _ _ rfl rfl) | exact .base (.own _ _ rfl) | exact .base (.ptr _ _ _ rfl) | exact .base (.map _ _ rfl) | exact .base (.nilown _ rfl) | exact .fn _ _ _ _ _ .nil (by repeat (first | exact .nil | refine .cons (by exact .ptr _ _ _ rfl) ?_))) ?_)) rfl⟩, ⟨_, rfl, (by first | exact .gmap _ _ _ _ _ _ rfl rfl | exact .newgmap _ _ _ _ _ _ _ _ rfl rfl rfl)⟩, ⟨_, rfl, (by first | exact .row _ _ _ _ _ _ _ rfl rfl | exact .lstrow _ _ _ _ _ _ _ rfl rfl | exact .nilrow _ _ _ _ _ rfl | exact .truncrow _ _ _ _ _ _ _ _ rfl (by omega) rfl)⟩, trivial⟩), rfl, rfl, ?_⟩
      conv => whnf
      exact ⟨rfl, rfl, rfl, rfl⟩
    · have hix : idxS l ⟨k, t⟩ = l.length := by have := idxS_le l ⟨k, t⟩; omega
      rw [if_neg hi, if_neg hi, hix]
      refine ⟨by kernel_rfl, rfl, ?_⟩
      conv => whnf
      refine ⟨by kernel_rfl, ?_⟩
      conv => whnf
      refine And.intro (fun _ => ?_) (fun h => absurd h (by decide)); conv => whnf
      refine .eff (by first | exact cxOk _ _ | exact cxPOk _ _ _) ?_; conv => whnf
      refine And.intro rfl ?_; conv => whnf
      refine And.intro ⟨rfl, rfl⟩ (And.intro (show (l.length + 1) * 24 ≤ 140737488355328 by omega) ?_)
      conv => whnf
      refine ⟨⟨k, t⟩, rfl, ?_⟩
      conv => whnf
      refine ⟨by kernel_rfl, ?_⟩
      conv => whnf
      refine .eff (by first | exact cxOk _ _ | exact cxPOk _ _ _) ?_; conv => whnf
      refine ⟨by kernel_rfl, _, rfl, ?_⟩
      conv => whnf
      refine ⟨by kernel_rfl, ?_⟩
      conv => whnf
      refine ⟨⟨[(6, .rop [.int .i64 (((⟨k, t, ((l.length : Nat) : Int)⟩ : Sgn))).key, .str (((⟨k, t, ((l.length : Nat) : Int)⟩ : Sgn))).text, .int .i64 (((⟨k, t, ((l.length : Nat) : Int)⟩ : Sgn))).mark])], [(0, .cells 73 [.own 2, .map 1]), (1, .gmap shS encI 0 (marksM (l ++ [⟨k, t⟩]))), (2, .row 76 2 encSl s0 (l ++ [⟨k, t⟩]))], 3⟩, (wk_frz [3]).trans (wk_of [(0, .id 0), (1, .id 1), (2, .id 6)] rfl ⟨.base (.tree _ _ rfl rfl), trivial⟩ ⟨⟨_, rfl, .cells _ _ _ _ rfl (by repeat (first | exact .nil | refine .cons (by first | exact .base (.tree _ _ rfl rfl) | exact .base (.own _ _ rfl) | exact .base (.ptr _ _ _ rfl) | exact .base (.map _ _ rfl) | exact .base (.nilown _ rfl) | exact .fn _ _ _ _ _ .nil (by repeat (first | exact .nil | refine .cons (by exact .ptr _ _ _ rfl) ?_))) ?_)) rfl⟩, ⟨_, rfl, (by first | exact .gmap _ _ _ _ _ _ rfl (marks_put hi) | exact .newgmap _ _ _ _ _ _ _ _ rfl rfl (marks_put hi))⟩, ⟨_, rfl, (by first | exact .row _ _ _ _ _ _ _ rfl rfl | exact .lstrow _ _ _ _ _ _ _ rfl rfl | exact .nilrow _ _ _ _ _ rfl | exact .truncrow _ _ _ _ _ _ _ _ rfl (by omega) rfl)⟩, trivial⟩), rfl, rfl, ?_⟩
      conv => whnf
      exact ⟨rfl, rfl, rfl, rfl⟩

end Go.Proofs.YtjlnaogechkjdaaGreatDoor


namespace Go.Proofs.YtjlnaogechkjdaaGreatDoor
open Go.Own
set_option maxHeartbeats 4000000
set_option maxRecDepth 100000

/-! ### Signatures: Valid, the reference's ring -/
def sgB (l : List Seal) (s : Sgn) : Bool := decide (idxS l ⟨s.key, s.text⟩ < l.length) && decide ((idxS l ⟨s.key, s.text⟩ : Int) = s.mark)
def ringV (l : List Seal) : AV := .rop [encSls l, .rgmap shS encI 0 (marksM l)]
theorem sgv_ok (l : List Seal) (s : Sgn) : APureV Tryz.prog 32 [ringV l, encSg s] (.bool (sgB l s)) := by
  unfold sgB ringV
  refine apure_of (C := cx 27 [0, 1, 3, 4, 5, 6]) (cxOk _ _) Tryz.func32 rfl (by decide) rfl (by exact Nat.le_of_ble_eq_true rfl) (by decide) ?_
  conv => whnf
  refine .quiet (by kernel_rfl) ?_; conv => whnf
  rw [show [KV.vI .i64 s.key, KV.vS s.text] = kv ⟨s.key, s.text⟩ from rfl, marks_get]
  by_cases hi : idxS l ⟨s.key, s.text⟩ < l.length
  · rw [if_pos hi]
    refine ⟨by kernel_rfl, rfl, ?_⟩
    conv => whnf
    rw [decide_eq_true hi]
    rfl
  · rw [if_neg hi]
    refine ⟨by kernel_rfl, rfl, ?_⟩
    conv => whnf
    rw [decide_eq_false hi]
    rfl
def posS (l : List Seal) (k : Int) (t : List UInt8) : Int := if idxS l ⟨k, t⟩ < l.length then (idxS l ⟨k, t⟩ : Int) else -1
def qringB (i : Nat) : AB := .cells 79 [.own i]
theorem lendR {H : Heap} {i j k : Nat} {l : List Seal} (h1 : lkH H i = ringB k j) (h2 : lkH H k = rowS l) (h3 : lkH H j = mapS l) : Lend H (.ptr i 0) (ringV l) [i, k, j] :=
  .box i 0 73 [.own k, .map j] [encSls l, .rgmap shS encI 0 (marksM l)] [k, j] h1 (BorL.cons (t := [k]) (t' := [j]) (Bor1.base (Bor.row k 76 2 encSl s0 l h2)) (BorL.cons (t := [j]) (t' := []) (Bor1.base (Bor.gmap j shS encI 0 (marksM l) h3)) BorL.nil)) (by
    intro a ha
    simp only [List.mem_cons, List.not_mem_nil, or_false] at ha
    rcases ha with rfl | rfl <;> rfl)
def qsgB (l : List Seal) (s : Sgn) : Bool := ((decide (0 ≤ s.mark) && decide (s.mark < l.length)) && decide ((l.getD s.mark.toNat s0).key = s.key)) && decide ((l.getD s.mark.toNat s0).text = s.text)
def convR (v : List Seal → Sgn → Bool) (l : List Seal) (s t : Sgn) : Int :=
  if (!v l s || !v l t) = true then 25 else if s.key ≠ t.key then 18 else if readC s.text ≠ 0 ∨ readC t.text ≠ 0 then 2 else if (readE s.text).id ≠ (readE t.text).id then 4 else if readE s.text = readE t.text then 5 else 0
theorem convict_ok (l : List Seal) (s t : Sgn) (hs : s.text.length ≤ 9223372036854775000) (ht : t.text.length ≤ 9223372036854775000) : APureV Tryz.prog 16 [ringV l, encSg s, encSg t] (.int .i64 (convR sgB l s t)) := by
  have r1 := read_ok s.text hs
  have r2 := read_ok t.text ht
  have v1 := sgv_ok l s
  have v2 := sgv_ok l t
  unfold ringV at *
  refine apure_of (C := cx 57 [0, 1, 2, 4, 5, 6, 7, 8, 9, 10, 23, 34, 40, 47, 53]) (cxOk _ _) Tryz.func16 rfl (by decide) rfl (by exact Nat.le_of_ble_eq_true rfl) (by decide) ?_
  conv => whnf
  refine .one _ _ _ (fun _ => r1) (by repeat (first | exact .nil | (apply BorL.cons; first | exact lS rfl | exact lR rfl | exact lM rfl rfl | exact lL rfl | exact lX rfl | exact lN | exact lNl | exact lSm rfl | exact lIm rfl | exact lGm rfl | exact lP rfl | exact lQ rfl | exact lB rfl rfl rfl))) (by first | exact .inl rfl | exact .inr (by repeat (first | exact flats_nil | refine flats_cons (by first | exact flat_val _ rfl | exact flat_row (fun _ => rfl) | exact flat_lst (fun _ => rfl)) ?_))) (by first | exact .inr rfl | exact .inl rfl) ?_
  conv => whnf
  refine .one _ _ _ (fun _ => r2) (by repeat (first | exact .nil | (apply BorL.cons; first | exact lS rfl | exact lR rfl | exact lM rfl rfl | exact lL rfl | exact lX rfl | exact lN | exact lNl | exact lSm rfl | exact lIm rfl | exact lGm rfl | exact lP rfl | exact lQ rfl | exact lB rfl rfl rfl))) (by first | exact .inl rfl | exact .inr (by repeat (first | exact flats_nil | refine flats_cons (by first | exact flat_val _ rfl | exact flat_row (fun _ => rfl) | exact flat_lst (fun _ => rfl)) ?_))) (by first | exact .inr rfl | exact .inl rfl) ?_
  conv => whnf
  refine .one _ _ _ (fun _ => v1) (by repeat (first | exact .nil | (apply BorL.cons; first | exact lS rfl | exact lR rfl | exact lM rfl rfl | exact lL rfl | exact lX rfl | exact lN | exact lNl | exact lSm rfl | exact lIm rfl | exact lGm rfl | exact lP rfl | exact lQ rfl | exact lB rfl rfl rfl))) (by first | exact .inl rfl | exact .inr (by repeat (first | exact flats_nil | refine flats_cons (by first | exact flat_val _ rfl | exact flat_row (fun _ => rfl) | exact flat_lst (fun _ => rfl)) ?_))) (by first | exact .inr rfl | exact .inl rfl) ?_
  conv => whnf
  refine .one _ _ _ (fun _ => v2) (by repeat (first | exact .nil | (apply BorL.cons; first | exact lS rfl | exact lR rfl | exact lM rfl rfl | exact lL rfl | exact lX rfl | exact lN | exact lNl | exact lSm rfl | exact lIm rfl | exact lGm rfl | exact lP rfl | exact lQ rfl | exact lB rfl rfl rfl))) (by first | exact .inl rfl | exact .inr (by repeat (first | exact flats_nil | refine flats_cons (by first | exact flat_val _ rfl | exact flat_row (fun _ => rfl) | exact flat_lst (fun _ => rfl)) ?_))) (by first | exact .inr rfl | exact .inl rfl) ?_
  conv => whnf
  unfold convR
  refine ⟨fun h1 => ?_, fun h1 => ?_⟩
  · rw [if_pos h1]
    conv => whnf
    rfl
  rw [if_neg (by rw [h1]; exact Bool.noConfusion)]
  conv => whnf
  refine ⟨fun h2 => ?_, fun h2 => ?_⟩
  · rw [if_pos (by simpa using h2)]
    conv => whnf
    rfl
  rw [if_neg (by simpa using h2)]
  conv => whnf
  refine ⟨fun h3 => ?_, fun h3 => ?_⟩
  · rw [if_pos (by simpa using h3)]
    conv => whnf
    rfl
  rw [if_neg (by simpa using h3)]
  conv => whnf
  refine ⟨fun h4 => ?_, fun h4 => ?_⟩
  · rw [if_pos (by simpa using h4)]
    conv => whnf
    rfl
  rw [if_neg (by simpa using h4)]
  conv => whnf
  refine ⟨⟨by kernel_rfl, by kernel_rfl⟩, ?_⟩
  conv => whnf

  refine ⟨fun h5 => ?_, fun h5 => ?_⟩
  · rw [if_pos (eqE_iff.1 h5)]
    conv => whnf
    rfl
  · rw [if_neg (fun h => by have h6 : eqE (readE s.text) (readE t.text) = false := h5; rw [eqE_iff.2 h] at h6; cases h6)]
    conv => whnf
    rfl
end Go.Proofs.YtjlnaogechkjdaaGreatDoor


namespace Go.Proofs.YtjlnaogechkjdaaGreatDoor
open Go.Own
set_option maxHeartbeats 4000000
set_option maxRecDepth 100000

/-! ### The reference's small functions -/
def few45 (a b : List Ent) (fl : List Msg) (n : Int) : Bool := (decide ((a.length : Int) ≤ n) && decide ((b.length : Int) ≤ n)) && decide ((fl.length : Int) ≤ 20)
theorem few45_ok (a b : List Ent) (fl : List Msg) (n : Int) : APureV Tryz.prog 5 [encEs a, encEs b, encMs fl, .int .i64 n] (.bool (few45 a b fl n)) := by
  unfold few45
  refine apure_of (C := cx 24 [0, 1, 2, 3, 8]) (cxOk _ _) Tryz.func5 rfl (by decide) rfl (by exact Nat.le_of_ble_eq_true rfl) (by decide) ?_
  conv => whnf
  rfl
def few44 (l : List Seal) (n : Int) : Bool := (l.take (n + 1).toNat).all (fun s => decide (s.text.length ≤ 500)) && decide ((l.length : Int) ≤ n)
theorem any_at {T : Type} {p : T → Bool} {l : List T} {d : T} {k : Nat} (h : k < l.length) (hp : p (l.getD k d) = true) : l.any p = true :=
  List.any_eq_true.2 ⟨_, getD_mem h, hp⟩
theorem none_step {T : Type} {p : T → Bool} {l : List T} {d : T} {k : Nat} (h : k < l.length) (hP : (l.take k).any p = false) (hp : p (l.getD k d) = false) : (l.take (k + 1)).any p = false := by
  rw [take_getD (d := d) h, List.any_append, hP, List.any_cons, hp]
  rfl
theorem has_ok (l : List Ent) (e : Ent) (hl : l.length ≤ 9223372036854775807) : APureV Tryz.prog 8 [encEs l, encE e] (.bool (sameB l e)) := by
  unfold sameB
  generalize hp : (fun y => decide (y = e)) = p
  have pe : ∀ x, p x = decide (x = e) := fun x => by rw [← hp]
  refine apure_of (C := cx 18 [0, 1, 3, 4, 5, 9, 17]) (cxOk _ _) Tryz.func8 rfl (by decide) rfl (by exact Nat.le_of_ble_eq_true rfl) (by decide) ?_
  conv => whnf
  refine loop_up (cxOk _ _) l.length (fun i => (l.take i).any p = false) (fun i => ⟨[(0, encEs l), (3, .ptr 0 0), (5, .int .i64 (i : Nat))], [(0, .cells 33 (celE e))], 1⟩) (by simp) ((wk_of [(0, .id 0)] rfl ⟨.base (.tree _ _ rfl rfl), .base (.ptr _ _ _ rfl), .base (.tree _ _ rfl rfl), trivial⟩ ⟨⟨_, rfl, .cells _ _ _ _ rfl (by repeat (first | exact .nil | refine .cons (by first | exact .base (.tree _ _ rfl rfl) | exact .base (.own _ _ rfl) | exact .base (.ptr _ _ _ rfl) | exact .base (.map _ _ rfl) | exact .base (.nilown _ rfl) | exact .fn _ _ _ _ _ .nil (by repeat (first | exact .nil | refine .cons (by exact .ptr _ _ _ rfl) ?_))) ?_)) rfl⟩, trivial⟩)) ?_
  intro i hi hP
  conv => whnf
  refine ⟨fun hc => ?_, fun hc => ?_⟩
  · simp only [decide_eq_true_eq] at hc
    have hlt : i < l.length := by omega
    have hck : l.getD (i : Int).toNat e0 = l.getD i e0 := by rw [Int.toNat_natCast]
    conv => whnf
    refine .quiet (by kernel_rfl) ?_; conv => whnf
    refine And.intro ⟨by omega, by omega⟩ ?_; conv => whnf
    refine And.intro rfl ?_; conv => whnf
    refine ⟨⟨by kernel_rfl, by kernel_rfl⟩, ?_⟩
    conv => whnf
    rw [hck]
    refine ⟨fun hd => ?_, fun hd => ?_⟩
    · have hx : l.getD i e0 = e := eqE_iff.1 hd
      have := any_at (p := p) hlt (by rw [pe, hx]; exact decide_eq_true rfl)
      conv => whnf
      rw [this]
      rfl
    · have hx : p (l.getD i e0) = false := by
        rw [pe]
        refine decide_eq_false fun h => ?_
        have h6 : eqE (l.getD i e0) e = false := hd
        rw [eqE_iff.2 h] at h6
        cases h6
      conv => whnf
      refine And.intro ⟨by omega, by omega⟩ ?_; conv => whnf
      refine up hlt (none_step hlt hP hx) ((wk_of [(0, .id 0)] rfl ⟨.base (.tree _ _ rfl rfl), .base (.ptr _ _ _ rfl), .base (.tree _ _ rfl rfl), trivial⟩ ⟨⟨_, rfl, .cells _ _ _ _ rfl (by repeat (first | exact .nil | refine .cons (by first | exact .base (.tree _ _ rfl rfl) | exact .base (.own _ _ rfl) | exact .base (.ptr _ _ _ rfl) | exact .base (.map _ _ rfl) | exact .base (.nilown _ rfl) | exact .fn _ _ _ _ _ .nil (by repeat (first | exact .nil | refine .cons (by exact .ptr _ _ _ rfl) ?_))) ?_)) rfl⟩, trivial⟩))
  · simp only [decide_eq_false_iff_not] at hc
    obtain rfl : i = l.length := by omega
    rw [List.take_of_length_le (Nat.le_refl _)] at hP
    conv => whnf
    rw [hP]
    rfl
def atI (l : List Ent) (i : Int) : Int := firstI (fun x : Ent => decide (x.id = i)) l
theorem first_here {T : Type} {p : T → Bool} {l : List T} {d : T} {k : Nat} (h : k < l.length) (hP : (l.take k).any p = false) (hp : p (l.getD k d) = true) : firstI p l = (k : Int) := by
  have e : l.getD k d = l[k] := by simp [List.getD, List.getElem?_eq_getElem h]
  have hk : l.findIdx p = k := by
    refine Nat.le_antisymm ?_ ?_
    · refine Nat.le_of_not_lt fun hlt => ?_
      have := List.not_of_lt_findIdx hlt
      rw [e] at hp
      rw [hp] at this
      simp at this
    · refine Nat.le_of_not_lt fun hlt => ?_
      have hl : l.findIdx p < l.length := by omega
      have := List.findIdx_getElem (w := hl)
      rw [List.any_eq_false] at hP
      exact hP _ (by rw [List.mem_take_iff_getElem]; exact ⟨l.findIdx p, by omega, rfl⟩) this
  unfold firstI
  rw [hk, if_pos h]
theorem first_none {T : Type} {p : T → Bool} {l : List T} (hP : l.any p = false) : firstI p l = -1 := by
  unfold firstI
  rw [if_neg]
  intro h
  have := List.findIdx_getElem (w := h)
  rw [List.any_eq_false] at hP
  exact hP _ (List.getElem_mem h) this
theorem at_ok (l : List Ent) (n : Int) (hl : l.length ≤ 9223372036854775807) : APureV Tryz.prog 23 [encEs l, .int .i64 n] (.int .i64 (atI l n)) := by
  unfold atI
  generalize hp : (fun x : Ent => decide (x.id = n)) = p
  have pe : ∀ x, p x = decide (x.id = n) := fun x => by rw [← hp]
  refine apure_of (C := cx 20 [0, 1, 4, 5, 9, 18]) (cxOk _ _) Tryz.func23 rfl (by decide) rfl (by exact Nat.le_of_ble_eq_true rfl) (by decide) ?_
  conv => whnf
  refine loop_up (cxOk _ _) l.length (fun i => (l.take i).any p = false) (fun i => ⟨[(0, encEs l), (1, .int .i64 n), (5, .int .i64 (i : Nat))], [], 0⟩) (by simp) ((wk_of [] rfl ⟨.base (.tree _ _ rfl rfl), .base (.tree _ _ rfl rfl), .base (.tree _ _ rfl rfl), trivial⟩ trivial)) ?_
  intro i hi hP
  conv => whnf
  refine ⟨fun hc => ?_, fun hc => ?_⟩
  · simp only [decide_eq_true_eq] at hc
    have hlt : i < l.length := by omega
    have hck : l.getD (i : Int).toNat e0 = l.getD i e0 := by rw [Int.toNat_natCast]
    conv => whnf
    refine And.intro ⟨by omega, by omega⟩ ?_; conv => whnf
    refine And.intro rfl ?_; conv => whnf
    rw [hck]
    refine ⟨fun hd => ?_, fun hd => ?_⟩
    · have := first_here (p := p) hlt hP (by rw [pe]; exact hd)
      conv => whnf
      rw [this]
      rfl
    · conv => whnf
      refine And.intro ⟨by omega, by omega⟩ ?_; conv => whnf
      refine up hlt (none_step hlt hP (by rw [pe]; exact hd)) ((wk_of [] rfl ⟨.base (.tree _ _ rfl rfl), .base (.tree _ _ rfl rfl), .base (.tree _ _ rfl rfl), trivial⟩ trivial))
  · simp only [decide_eq_false_iff_not] at hc
    obtain rfl : i = l.length := by omega
    rw [List.take_of_length_le (Nat.le_refl _)] at hP
    conv => whnf
    rw [first_none hP]
    rfl
def wayB (fl : List Msg) (f i : Int) : Bool := fl.any (fun m => decide (m.frm = f) && decide (m.entry = i))
def turn1 (m : Msg) : Msg := ⟨m.to, m.frm, m.seq, m.entry⟩
def mailB (a b : List Ent) (m : Msg) : Bool :=
  if (decide (m.seq < 0) || decide (m.entry < 0)) = true then false
  else ((decide (m.frm = 0) && decide (m.to = 1)) && decide (m.entry < (a.length : Int))) || ((decide (m.frm = 1) && decide (m.to = 0)) && decide (m.entry < (b.length : Int)))
theorem entry_ok (i n : Int) : APureV Tryz.prog 11 [.int .i64 i, .int .i64 n] (encE ⟨i, 0, 0, 1, n⟩) := by
  refine apure_of (C := cx 8 [0, 1, 4]) (cxOk _ _) Tryz.func11 rfl (by decide) rfl (by exact Nat.le_of_ble_eq_true rfl) (by decide) ?_
  conv => whnf
  rfl

end Go.Proofs.YtjlnaogechkjdaaGreatDoor


namespace Go.Proofs.YtjlnaogechkjdaaGreatDoor
open Go.Own
set_option maxHeartbeats 4000000
set_option maxRecDepth 100000

/-! ### Put, posted -/
/-- Entries posted where none has their Ids: the ledger, and whether all were accepted. -/
def pstd : List Ent → List Ent → List Ent × Bool
  | l, [] => (l, true)
  | l, e :: s => if 0 ≤ atI l e.id then pstd l s else if postE l e = 0 then pstd (l ++ [e]) s else (l, false)
theorem posted_ok (l some : List Ent) (hl : l.length ≤ 100000) (hs : some.length ≤ 100000) : APure Tryz.prog 7 [encEs l, encEs some] (fun rs => rs = [.val (encEs (pstd l some).1), .val (.bool (pstd l some).2)]) := by
  refine apure_ofw (C := cx 37 [0, 1, 4, 5, 6, 7, 8, 12, 22, 33]) (cxOk _ _) Tryz.func7 rfl (by decide) rfl (by exact Nat.le_of_ble_eq_true rfl) (by decide) ?_
  conv => whnf
  refine loop_inv (cxOk _ _) (σ := Nat × List Ent) (fun s => s.1 ≤ some.length ∧ s.2.length ≤ l.length + s.1 ∧ pstd s.2 (some.drop s.1) = pstd l some) (fun s => some.length - s.1) (fun s => ⟨[(0, encEs (s.2)), (1, encEs some), (6, .int .i64 ((s.1) : Nat))], [], 0⟩) (0, l) ⟨Nat.zero_le _, by simp, rfl⟩ ((wk_of [] rfl ⟨.base (.tree _ _ rfl rfl), .base (.tree _ _ rfl rfl), .base (.tree _ _ rfl rfl), trivial⟩ trivial)) ?_
  rintro ⟨i, L⟩ ⟨hi, hL, hP⟩
  simp only at hi hL hP
  have hat := fun n => at_ok L n (by omega)
  have hpost := fun e => post_ok' L (by omega) e
  conv => whnf
  refine ⟨fun hc => ?_, fun hc => ?_⟩
  · simp only [decide_eq_true_eq] at hc
    have hlt : i < some.length := by omega
    have hck : some.getD (i : Int).toNat e0 = some.getD i e0 := by rw [Int.toNat_natCast]
    have hdr : some.drop i = some.getD i e0 :: some.drop (i + 1) := by
      rw [List.drop_eq_getElem_cons hlt]
      simp [List.getD, List.getElem?_eq_getElem hlt]
    rw [hdr, pstd] at hP
    conv => whnf
    refine And.intro ⟨by omega, by omega⟩ ?_; conv => whnf
    refine And.intro rfl ?_; conv => whnf
    rw [hck]
    refine .one _ _ _ (fun _ => hat (some.getD i e0).id) (by repeat (first | exact .nil | (apply BorL.cons; first | exact lS rfl | exact lR rfl | exact lM rfl rfl | exact lL rfl | exact lX rfl | exact lN | exact lNl | exact lSm rfl | exact lIm rfl | exact lGm rfl | exact lP rfl | exact lQ rfl | exact lB rfl rfl rfl))) (by first | exact .inl rfl | exact .inr (by repeat (first | exact flats_nil | refine flats_cons (by first | exact flat_val _ rfl | exact flat_row (fun _ => rfl) | exact flat_lst (fun _ => rfl)) ?_))) (by first | exact .inr rfl | exact .inl rfl) ?_
    conv => whnf
    refine ⟨fun hd => ?_, fun hd => ?_⟩
    · have hd' : 0 ≤ atI L (some.getD i e0).id := by simpa using hd
      rw [if_pos hd'] at hP
      conv => whnf
      refine And.intro ⟨by omega, by omega⟩ ?_; conv => whnf
      refine ⟨(i + 1, L), ⟨hlt, by simp only; omega, hP⟩, by simp only; omega, (wk_of [] rfl ⟨.base (.tree _ _ rfl rfl), .base (.tree _ _ rfl rfl), .base (.tree _ _ rfl rfl), trivial⟩ trivial)⟩
    · have hd' : ¬ 0 ≤ atI L (some.getD i e0).id := by simpa using hd
      rw [if_neg hd'] at hP
      conv => whnf
      refine And.intro ⟨by omega, by omega⟩ ?_; conv => whnf
      refine And.intro rfl ?_; conv => whnf
      rw [hck]
      generalize some.getD i e0 = e at *
      have hc2 := hpost e
      by_cases hp0 : postE L e = 0
      · rw [if_pos hp0] at hc2 hP
        rw [hp0] at hc2
        refine .one _ _ _ (fun _ => hc2) (by repeat (first | exact .nil | (apply BorL.cons; first | exact lS rfl | exact lR rfl | exact lM rfl rfl | exact lL rfl | exact lX rfl | exact lN | exact lNl | exact lSm rfl | exact lIm rfl | exact lGm rfl | exact lP rfl | exact lQ rfl | exact lB rfl rfl rfl))) (by first | exact .inl rfl | exact .inr (by repeat (first | exact flats_nil | refine flats_cons (by first | exact flat_val _ rfl | exact flat_row (fun _ => rfl) | exact flat_lst (fun _ => rfl)) ?_))) (by first | exact .inr rfl | exact .inl rfl) ?_
        conv => whnf
        refine And.intro (fun h => absurd h (by decide)) (fun _ => ?_); conv => whnf
        refine And.intro ⟨by omega, by omega⟩ ?_; conv => whnf
        refine ⟨(i + 1, L ++ [e]), ⟨hlt, by simp only [List.length_append, List.length_singleton]; omega, hP⟩, by simp only; omega, (wk_frz [0]).trans (wk_of [] rfl ⟨.base (.tree _ _ rfl rfl), .base (.tree _ _ rfl rfl), .base (.tree _ _ rfl rfl), trivial⟩ trivial)⟩
      · rw [if_neg hp0] at hc2 hP
        refine .one _ _ _ (fun _ => hc2) (by repeat (first | exact .nil | (apply BorL.cons; first | exact lS rfl | exact lR rfl | exact lM rfl rfl | exact lL rfl | exact lX rfl | exact lN | exact lNl | exact lSm rfl | exact lIm rfl | exact lGm rfl | exact lP rfl | exact lQ rfl | exact lB rfl rfl rfl))) (by first | exact .inl rfl | exact .inr (by repeat (first | exact flats_nil | refine flats_cons (by first | exact flat_val _ rfl | exact flat_row (fun _ => rfl) | exact flat_lst (fun _ => rfl)) ?_))) (by first | exact .inr rfl | exact .inl rfl) ?_
        conv => whnf
        refine ⟨fun hd2 => ?_, fun hd2 => ?_⟩
        · conv => whnf
          rw [← hP]
          refine ⟨_, Wk.refl _, ?_⟩
          rfl
        · exact absurd (by simpa using hd2) hp0
  · simp only [decide_eq_false_iff_not] at hc
    obtain rfl : i = some.length := by omega
    rw [List.drop_length, pstd] at hP
    conv => whnf
    rw [← hP]
    refine ⟨_, Wk.refl _, ?_⟩
    rfl

end Go.Proofs.YtjlnaogechkjdaaGreatDoor


namespace Go.Proofs.YtjlnaogechkjdaaGreatDoor
open Go.Own
set_option maxHeartbeats 4000000
set_option maxRecDepth 100000

/-! ### The reference's Compare -/
def cls (own oth : List Ent) (fl : List Msg) (n : Int) (i : Nat) : Nat :=
  if atI oth (own.getD i e0).id < 0 then (if wayB fl n (i : Int) = true then 1 else 2)
  else if eqE (oth.getD (atI oth (own.getD i e0).id).toNat e0) (own.getD i e0) = true then 0 else 2
def pickE (c : Nat) (own oth : List Ent) (fl : List Msg) (n : Int) (k : Nat) : List Ent := ((List.range k).filter (fun i => decide (cls own oth fl n i = c))).map (fun i => own.getD i e0)
theorem srt_len (l : List Ent) : (srt l).length = l.length := by
  have h : ∀ (l a : List Ent), (l.foldl putE a).length = a.length + l.length := by
    intro l
    induction l with
    | nil => intro a; simp
    | cons e l ih =>
      intro a
      rw [List.foldl_cons, ih]
      unfold putE
      have : putAt a e ≤ a.length := List.findIdx_le_length
      simp only [List.length_append, List.length_take, List.length_drop, List.length_cons, List.length_nil]
      omega
  unfold srt
  rw [h]
  simp
def okQ (a b : List Ent) (fl : List Msg) : Bool := (validB a && validB b) && fl.all (mailB a b)
def qI (a b : List Ent) (fl : List Msg) : List Ent := pickE 1 a b fl 0 a.length ++ pickE 1 b a fl 1 b.length
def qO (a b : List Ent) (fl : List Msg) : List Ent := pickE 2 a b fl 0 a.length ++ pickE 2 b a fl 1 b.length
end Go.Proofs.YtjlnaogechkjdaaGreatDoor


namespace Go.Proofs.YtjlnaogechkjdaaGreatDoor
open Go.Own
set_option maxHeartbeats 4000000
set_option maxRecDepth 100000

theorem text_inj {x y : Ent} (hx : rightE x = true) (hy : rightE y = true) (h : textQ x = textQ y) : x = y := by
  unfold textQ at h
  rw [if_pos hx, if_pos hy] at h
  rw [← (read_back hx).2, ← (read_back hy).2, h]
theorem read_text {x : Ent} (hx : rightE x = true) : readC (textQ x) = 0 ∧ readE (textQ x) = x := by
  obtain ⟨h1, h2⟩ := read_back hx
  have hq : textQ x = textE x := by unfold textQ; rw [if_pos hx]
  unfold readC readE
  rw [hq, if_pos h1, if_pos h1, h2]
  exact ⟨rfl, rfl⟩

/-! ### The example -/
def en (i n : Int) : Ent := ⟨i, 0, 0, 1, n⟩
def xa : List Ent := [en 1 5, en 2 5, en 3 5]
def xb : List Ent := [en 1 5, en 2 6, en 4 5]
def mb : Msg := ⟨1, 0, 0, 2⟩
theorem c1 : okC xa xb [] = true ∧ srt (rawI xa xb []) = [] ∧ srt (rawO xa xb []) = [en 2 5, en 2 6, en 3 5, en 4 5] := by decide
theorem c2 : okC xa xb [⟨0, 1, 0, 2⟩] = true ∧ srt (rawI xa xb [⟨0, 1, 0, 2⟩]) = [en 3 5] ∧ srt (rawO xa xb [⟨0, 1, 0, 2⟩]) = [en 2 5, en 2 6, en 4 5] := by decide
theorem c3 : okC xa xb [⟨0, 1, 0, 0⟩, mb, mb] = true ∧ srt (rawI xa xb [⟨0, 1, 0, 0⟩, mb, mb]) = [en 4 5] ∧ srt (rawO xa xb [⟨0, 1, 0, 0⟩, mb, mb]) = [en 2 5, en 2 6, en 3 5] := by decide
theorem idx_nil (s : Seal) : idxS [] s = 0 := rfl
theorem sm1 (A B : List UInt8) (h : A ≠ B) : signL [] 3 A = [⟨3, A⟩] ∧ signV [] 3 A = ⟨3, A, 0⟩ ∧ signL [⟨3, A⟩] 3 B = [⟨3, A⟩, ⟨3, B⟩] ∧ signV [⟨3, A⟩] 3 B = ⟨3, B, 1⟩ ∧
    signL [⟨3, A⟩, ⟨3, B⟩] 4 B = [⟨3, A⟩, ⟨3, B⟩, ⟨4, B⟩] ∧ signV [⟨3, A⟩, ⟨3, B⟩] 4 B = ⟨4, B, 2⟩ := by
  have h2 : ¬ B = A := fun e => h e.symm
  have k3 : keyB 3 = true := by decide
  have k4 : keyB 4 = true := by decide
  refine ⟨?_, ?_, ?_, ?_, ?_, ?_⟩ <;> simp [signL, signV, k3, k4, idxS_cons, idx_nil, h, h2]
theorem sm2 (A B : List UInt8) (h : A ≠ B) (x y : Ent) (hid : x.id = y.id) (hxy : x ≠ y) (rA : readC A = 0 ∧ readE A = x) (rB : readC B = 0 ∧ readE B = y) :
    convR sgB [⟨3, A⟩, ⟨3, B⟩, ⟨4, B⟩] ⟨3, A, 0⟩ ⟨3, B, 1⟩ = 0 ∧ convR sgB [⟨3, A⟩, ⟨3, B⟩, ⟨4, B⟩] ⟨3, A, 0⟩ ⟨3, A, 0⟩ = 5 ∧ convR sgB [⟨3, A⟩, ⟨3, B⟩, ⟨4, B⟩] ⟨3, A, 0⟩ ⟨4, B, 2⟩ = 18 := by
  have h2 : ¬ B = A := fun e => h e.symm
  refine ⟨?_, ?_, ?_⟩ <;> simp [convR, sgB, idxS_cons, idx_nil, h, h2, rA.1, rA.2, rB.1, rB.2, hid, hxy]
theorem small_ok : APureV Tryz.prog 4 [] (.bool true) := by
  have e15 := entry_ok 1 5
  have e25 := entry_ok 2 5
  have e35 := entry_ok 3 5
  have e26 := entry_ok 2 6
  have e45 := entry_ok 4 5
  have h1 := compare_ok xa xb [] (by decide) (by decide) (by decide)
  have h2 := compare_ok xa xb [⟨0, 1, 0, 2⟩] (by decide) (by decide) (by decide)
  have h3 := compare_ok xa xb [⟨0, 1, 0, 0⟩, mb, mb] (by decide) (by decide) (by decide)
  rw [if_pos c1.1, c1.2.1, c1.2.2] at h1
  rw [if_pos c2.1, c2.2.1, c2.2.2] at h2
  rw [if_pos c3.1, c3.2.1, c3.2.2] at h3
  have s1 := same_ok [en 2 5, en 2 6, en 3 5, en 4 5] [en 2 5, en 2 6, en 3 5, en 4 5] (by decide) (by decide)
  have s2 := same_ok [en 3 5] [en 3 5] (by decide) (by decide)
  have s3 := same_ok [en 2 5, en 2 6, en 4 5] [en 2 5, en 2 6, en 4 5] (by decide) (by decide)
  have s4 := same_ok [en 4 5] [en 4 5] (by decide) (by decide)
  have s5 := same_ok [en 2 5, en 2 6, en 3 5] [en 2 5, en 2 6, en 3 5] (by decide) (by decide)
  rw [decide_eq_true rfl] at s1 s2 s3 s4 s5
  have r25 : rightE (en 2 5) = true := by decide
  have r26 : rightE (en 2 6) = true := by decide
  have hne : textQ (en 2 5) ≠ textQ (en 2 6) := fun h => absurd (text_inj r25 r26 h) (by decide)
  have rA := read_text r25
  have rB := read_text r26
  have tA := text_ok (en 2 5)
  have tB := text_ok (en 2 6)
  have lA := textQ_len (en 2 5)
  have lB := textQ_len (en 2 6)
  generalize textQ (en 2 5) = A at *
  generalize textQ (en 2 6) = B at *
  obtain ⟨g1, v1, g2, v2, g3, v3⟩ := sm1 A B hne
  obtain ⟨k1, k2, k3⟩ := sm2 A B hne _ _ (show (en 2 5).id = (en 2 6).id from rfl) (by decide) rA rB
  have n1 := sign_ok [] (by decide) 3 A
  have n2 := sign_ok [⟨3, A⟩] (by simp) 3 B
  have n3 := sign_ok [⟨3, A⟩, ⟨3, B⟩] (by simp) 4 B
  rw [g1, v1] at n1
  rw [g2, v2] at n2
  rw [g3, v3] at n3
  have w1 := convict_ok [⟨3, A⟩, ⟨3, B⟩, ⟨4, B⟩] ⟨3, A, 0⟩ ⟨3, B, 1⟩ (by simp only; omega) (by simp only; omega)
  have w2 := convict_ok [⟨3, A⟩, ⟨3, B⟩, ⟨4, B⟩] ⟨3, A, 0⟩ ⟨3, A, 0⟩ (by simp only; omega) (by simp only; omega)
  have w3 := convict_ok [⟨3, A⟩, ⟨3, B⟩, ⟨4, B⟩] ⟨3, A, 0⟩ ⟨4, B, 2⟩ (by simp only; omega) (by simp only; omega)
  rw [k1] at w1
  rw [k2] at w2
  rw [k3] at w3
  refine apure_of (C := cx 147 [0, 1, 2, 3, 4, 5, 6, 7, 8, 9, 10, 11, 12, 13, 100]) (cxOk _ _) Tryz.func4 rfl (by decide) rfl (by exact Nat.le_of_ble_eq_true rfl) (by decide) ?_
  conv => whnf
  refine .one _ _ _ (fun _ => e15) (by repeat (first | exact .nil | (apply BorL.cons; first | exact lS rfl | exact lR rfl | exact lM rfl rfl | exact lL rfl | exact lX rfl | exact lN | exact lNl | exact lSm rfl | exact lIm rfl | exact lGm rfl | exact lP rfl | exact lQ rfl | exact lB rfl rfl rfl))) (by first | exact .inl rfl | exact .inr (by repeat (first | exact flats_nil | refine flats_cons (by first | exact flat_val _ rfl | exact flat_row (fun _ => rfl) | exact flat_lst (fun _ => rfl)) ?_))) (by first | exact .inr rfl | exact .inl rfl) ?_
  conv => whnf
  refine .one _ _ _ (fun _ => e25) (by repeat (first | exact .nil | (apply BorL.cons; first | exact lS rfl | exact lR rfl | exact lM rfl rfl | exact lL rfl | exact lX rfl | exact lN | exact lNl | exact lSm rfl | exact lIm rfl | exact lGm rfl | exact lP rfl | exact lQ rfl | exact lB rfl rfl rfl))) (by first | exact .inl rfl | exact .inr (by repeat (first | exact flats_nil | refine flats_cons (by first | exact flat_val _ rfl | exact flat_row (fun _ => rfl) | exact flat_lst (fun _ => rfl)) ?_))) (by first | exact .inr rfl | exact .inl rfl) ?_
  conv => whnf
  refine .one _ _ _ (fun _ => e35) (by repeat (first | exact .nil | (apply BorL.cons; first | exact lS rfl | exact lR rfl | exact lM rfl rfl | exact lL rfl | exact lX rfl | exact lN | exact lNl | exact lSm rfl | exact lIm rfl | exact lGm rfl | exact lP rfl | exact lQ rfl | exact lB rfl rfl rfl))) (by first | exact .inl rfl | exact .inr (by repeat (first | exact flats_nil | refine flats_cons (by first | exact flat_val _ rfl | exact flat_row (fun _ => rfl) | exact flat_lst (fun _ => rfl)) ?_))) (by first | exact .inr rfl | exact .inl rfl) ?_
  conv => whnf
  refine .one _ _ _ (fun _ => e15) (by repeat (first | exact .nil | (apply BorL.cons; first | exact lS rfl | exact lR rfl | exact lM rfl rfl | exact lL rfl | exact lX rfl | exact lN | exact lNl | exact lSm rfl | exact lIm rfl | exact lGm rfl | exact lP rfl | exact lQ rfl | exact lB rfl rfl rfl))) (by first | exact .inl rfl | exact .inr (by repeat (first | exact flats_nil | refine flats_cons (by first | exact flat_val _ rfl | exact flat_row (fun _ => rfl) | exact flat_lst (fun _ => rfl)) ?_))) (by first | exact .inr rfl | exact .inl rfl) ?_
  conv => whnf
  refine .one _ _ _ (fun _ => e26) (by repeat (first | exact .nil | (apply BorL.cons; first | exact lS rfl | exact lR rfl | exact lM rfl rfl | exact lL rfl | exact lX rfl | exact lN | exact lNl | exact lSm rfl | exact lIm rfl | exact lGm rfl | exact lP rfl | exact lQ rfl | exact lB rfl rfl rfl))) (by first | exact .inl rfl | exact .inr (by repeat (first | exact flats_nil | refine flats_cons (by first | exact flat_val _ rfl | exact flat_row (fun _ => rfl) | exact flat_lst (fun _ => rfl)) ?_))) (by first | exact .inr rfl | exact .inl rfl) ?_
  conv => whnf
  refine .one _ _ _ (fun _ => e45) (by repeat (first | exact .nil | (apply BorL.cons; first | exact lS rfl | exact lR rfl | exact lM rfl rfl | exact lL rfl | exact lX rfl | exact lN | exact lNl | exact lSm rfl | exact lIm rfl | exact lGm rfl | exact lP rfl | exact lQ rfl | exact lB rfl rfl rfl))) (by first | exact .inl rfl | exact .inr (by repeat (first | exact flats_nil | refine flats_cons (by first | exact flat_val _ rfl | exact flat_row (fun _ => rfl) | exact flat_lst (fun _ => rfl)) ?_))) (by first | exact .inr rfl | exact .inl rfl) ?_
  conv => whnf
  refine .one _ _ _ (fun _ => h1) (by repeat (first | exact .nil | (apply BorL.cons; first | exact lS rfl | exact lR rfl | exact lM rfl rfl | exact lL rfl | exact lX rfl | exact lN | exact lNl | exact lSm rfl | exact lIm rfl | exact lGm rfl | exact lP rfl | exact lQ rfl | exact lB rfl rfl rfl))) (by first | exact .inl rfl | exact .inr (by repeat (first | exact flats_nil | refine flats_cons (by first | exact flat_val _ rfl | exact flat_row (fun _ => rfl) | exact flat_lst (fun _ => rfl)) ?_))) (by first | exact .inr rfl | exact .inl rfl) ?_
  conv => whnf
  refine And.intro (fun _ => ?_) (fun h => absurd h (by decide)); conv => whnf
  refine .one _ _ _ (fun _ => e25) (by repeat (first | exact .nil | (apply BorL.cons; first | exact lS rfl | exact lR rfl | exact lM rfl rfl | exact lL rfl | exact lX rfl | exact lN | exact lNl | exact lSm rfl | exact lIm rfl | exact lGm rfl | exact lP rfl | exact lQ rfl | exact lB rfl rfl rfl))) (by first | exact .inl rfl | exact .inr (by repeat (first | exact flats_nil | refine flats_cons (by first | exact flat_val _ rfl | exact flat_row (fun _ => rfl) | exact flat_lst (fun _ => rfl)) ?_))) (by first | exact .inr rfl | exact .inl rfl) ?_
  conv => whnf
  refine And.intro (fun _ => ?_) (fun h => absurd h (by decide)); conv => whnf
  refine .one _ _ _ (fun _ => e26) (by repeat (first | exact .nil | (apply BorL.cons; first | exact lS rfl | exact lR rfl | exact lM rfl rfl | exact lL rfl | exact lX rfl | exact lN | exact lNl | exact lSm rfl | exact lIm rfl | exact lGm rfl | exact lP rfl | exact lQ rfl | exact lB rfl rfl rfl))) (by first | exact .inl rfl | exact .inr (by repeat (first | exact flats_nil | refine flats_cons (by first | exact flat_val _ rfl | exact flat_row (fun _ => rfl) | exact flat_lst (fun _ => rfl)) ?_))) (by first | exact .inr rfl | exact .inl rfl) ?_
  conv => whnf
  refine And.intro (fun _ => ?_) (fun h => absurd h (by decide)); conv => whnf
  refine .one _ _ _ (fun _ => e35) (by repeat (first | exact .nil | (apply BorL.cons; first | exact lS rfl | exact lR rfl | exact lM rfl rfl | exact lL rfl | exact lX rfl | exact lN | exact lNl | exact lSm rfl | exact lIm rfl | exact lGm rfl | exact lP rfl | exact lQ rfl | exact lB rfl rfl rfl))) (by first | exact .inl rfl | exact .inr (by repeat (first | exact flats_nil | refine flats_cons (by first | exact flat_val _ rfl | exact flat_row (fun _ => rfl) | exact flat_lst (fun _ => rfl)) ?_))) (by first | exact .inr rfl | exact .inl rfl) ?_
  conv => whnf
  refine And.intro (fun _ => ?_) (fun h => absurd h (by decide)); conv => whnf
  refine .one _ _ _ (fun _ => e45) (by repeat (first | exact .nil | (apply BorL.cons; first | exact lS rfl | exact lR rfl | exact lM rfl rfl | exact lL rfl | exact lX rfl | exact lN | exact lNl | exact lSm rfl | exact lIm rfl | exact lGm rfl | exact lP rfl | exact lQ rfl | exact lB rfl rfl rfl))) (by first | exact .inl rfl | exact .inr (by repeat (first | exact flats_nil | refine flats_cons (by first | exact flat_val _ rfl | exact flat_row (fun _ => rfl) | exact flat_lst (fun _ => rfl)) ?_))) (by first | exact .inr rfl | exact .inl rfl) ?_
  conv => whnf
  refine And.intro (fun _ => ?_) (fun h => absurd h (by decide)); conv => whnf
  refine .one _ _ _ (fun _ => s1) (by repeat (first | exact .nil | (apply BorL.cons; first | exact lS rfl | exact lR rfl | exact lM rfl rfl | exact lL rfl | exact lX rfl | exact lN | exact lNl | exact lSm rfl | exact lIm rfl | exact lGm rfl | exact lP rfl | exact lQ rfl | exact lB rfl rfl rfl))) (by first | exact .inl rfl | exact .inr (by repeat (first | exact flats_nil | refine flats_cons (by first | exact flat_val _ rfl | exact flat_row (fun _ => rfl) | exact flat_lst (fun _ => rfl)) ?_))) (by first | exact .inr rfl | exact .inl rfl) ?_
  conv => whnf
  refine .one _ _ _ (fun _ => h2) (by repeat (first | exact .nil | (apply BorL.cons; first | exact lS rfl | exact lR rfl | exact lM rfl rfl | exact lL rfl | exact lX rfl | exact lN | exact lNl | exact lSm rfl | exact lIm rfl | exact lGm rfl | exact lP rfl | exact lQ rfl | exact lB rfl rfl rfl))) (by first | exact .inl rfl | exact .inr (by repeat (first | exact flats_nil | refine flats_cons (by first | exact flat_val _ rfl | exact flat_row (fun _ => rfl) | exact flat_lst (fun _ => rfl)) ?_))) (by first | exact .inr rfl | exact .inl rfl) ?_
  conv => whnf
  refine .one _ _ _ (fun _ => e35) (by repeat (first | exact .nil | (apply BorL.cons; first | exact lS rfl | exact lR rfl | exact lM rfl rfl | exact lL rfl | exact lX rfl | exact lN | exact lNl | exact lSm rfl | exact lIm rfl | exact lGm rfl | exact lP rfl | exact lQ rfl | exact lB rfl rfl rfl))) (by first | exact .inl rfl | exact .inr (by repeat (first | exact flats_nil | refine flats_cons (by first | exact flat_val _ rfl | exact flat_row (fun _ => rfl) | exact flat_lst (fun _ => rfl)) ?_))) (by first | exact .inr rfl | exact .inl rfl) ?_
  conv => whnf
  refine .one _ _ _ (fun _ => s2) (by repeat (first | exact .nil | (apply BorL.cons; first | exact lS rfl | exact lR rfl | exact lM rfl rfl | exact lL rfl | exact lX rfl | exact lN | exact lNl | exact lSm rfl | exact lIm rfl | exact lGm rfl | exact lP rfl | exact lQ rfl | exact lB rfl rfl rfl))) (by first | exact .inl rfl | exact .inr (by repeat (first | exact flats_nil | refine flats_cons (by first | exact flat_val _ rfl | exact flat_row (fun _ => rfl) | exact flat_lst (fun _ => rfl)) ?_))) (by first | exact .inr rfl | exact .inl rfl) ?_
  conv => whnf
  refine And.intro (fun _ => ?_) (fun h => absurd h (by decide)); conv => whnf
  refine .one _ _ _ (fun _ => e25) (by repeat (first | exact .nil | (apply BorL.cons; first | exact lS rfl | exact lR rfl | exact lM rfl rfl | exact lL rfl | exact lX rfl | exact lN | exact lNl | exact lSm rfl | exact lIm rfl | exact lGm rfl | exact lP rfl | exact lQ rfl | exact lB rfl rfl rfl))) (by first | exact .inl rfl | exact .inr (by repeat (first | exact flats_nil | refine flats_cons (by first | exact flat_val _ rfl | exact flat_row (fun _ => rfl) | exact flat_lst (fun _ => rfl)) ?_))) (by first | exact .inr rfl | exact .inl rfl) ?_
  conv => whnf
  refine And.intro (fun _ => ?_) (fun h => absurd h (by decide)); conv => whnf
  refine .one _ _ _ (fun _ => e26) (by repeat (first | exact .nil | (apply BorL.cons; first | exact lS rfl | exact lR rfl | exact lM rfl rfl | exact lL rfl | exact lX rfl | exact lN | exact lNl | exact lSm rfl | exact lIm rfl | exact lGm rfl | exact lP rfl | exact lQ rfl | exact lB rfl rfl rfl))) (by first | exact .inl rfl | exact .inr (by repeat (first | exact flats_nil | refine flats_cons (by first | exact flat_val _ rfl | exact flat_row (fun _ => rfl) | exact flat_lst (fun _ => rfl)) ?_))) (by first | exact .inr rfl | exact .inl rfl) ?_
  conv => whnf
  refine And.intro (fun _ => ?_) (fun h => absurd h (by decide)); conv => whnf
  refine .one _ _ _ (fun _ => e45) (by repeat (first | exact .nil | (apply BorL.cons; first | exact lS rfl | exact lR rfl | exact lM rfl rfl | exact lL rfl | exact lX rfl | exact lN | exact lNl | exact lSm rfl | exact lIm rfl | exact lGm rfl | exact lP rfl | exact lQ rfl | exact lB rfl rfl rfl))) (by first | exact .inl rfl | exact .inr (by repeat (first | exact flats_nil | refine flats_cons (by first | exact flat_val _ rfl | exact flat_row (fun _ => rfl) | exact flat_lst (fun _ => rfl)) ?_))) (by first | exact .inr rfl | exact .inl rfl) ?_
  conv => whnf
  refine And.intro (fun _ => ?_) (fun h => absurd h (by decide)); conv => whnf
  refine .one _ _ _ (fun _ => s3) (by repeat (first | exact .nil | (apply BorL.cons; first | exact lS rfl | exact lR rfl | exact lM rfl rfl | exact lL rfl | exact lX rfl | exact lN | exact lNl | exact lSm rfl | exact lIm rfl | exact lGm rfl | exact lP rfl | exact lQ rfl | exact lB rfl rfl rfl))) (by first | exact .inl rfl | exact .inr (by repeat (first | exact flats_nil | refine flats_cons (by first | exact flat_val _ rfl | exact flat_row (fun _ => rfl) | exact flat_lst (fun _ => rfl)) ?_))) (by first | exact .inr rfl | exact .inl rfl) ?_
  conv => whnf
  refine .one _ _ _ (fun _ => h3) (by repeat (first | exact .nil | (apply BorL.cons; first | exact lS rfl | exact lR rfl | exact lM rfl rfl | exact lL rfl | exact lX rfl | exact lN | exact lNl | exact lSm rfl | exact lIm rfl | exact lGm rfl | exact lP rfl | exact lQ rfl | exact lB rfl rfl rfl))) (by first | exact .inl rfl | exact .inr (by repeat (first | exact flats_nil | refine flats_cons (by first | exact flat_val _ rfl | exact flat_row (fun _ => rfl) | exact flat_lst (fun _ => rfl)) ?_))) (by first | exact .inr rfl | exact .inl rfl) ?_
  conv => whnf
  refine .one _ _ _ (fun _ => e45) (by repeat (first | exact .nil | (apply BorL.cons; first | exact lS rfl | exact lR rfl | exact lM rfl rfl | exact lL rfl | exact lX rfl | exact lN | exact lNl | exact lSm rfl | exact lIm rfl | exact lGm rfl | exact lP rfl | exact lQ rfl | exact lB rfl rfl rfl))) (by first | exact .inl rfl | exact .inr (by repeat (first | exact flats_nil | refine flats_cons (by first | exact flat_val _ rfl | exact flat_row (fun _ => rfl) | exact flat_lst (fun _ => rfl)) ?_))) (by first | exact .inr rfl | exact .inl rfl) ?_
  conv => whnf
  refine .one _ _ _ (fun _ => s4) (by repeat (first | exact .nil | (apply BorL.cons; first | exact lS rfl | exact lR rfl | exact lM rfl rfl | exact lL rfl | exact lX rfl | exact lN | exact lNl | exact lSm rfl | exact lIm rfl | exact lGm rfl | exact lP rfl | exact lQ rfl | exact lB rfl rfl rfl))) (by first | exact .inl rfl | exact .inr (by repeat (first | exact flats_nil | refine flats_cons (by first | exact flat_val _ rfl | exact flat_row (fun _ => rfl) | exact flat_lst (fun _ => rfl)) ?_))) (by first | exact .inr rfl | exact .inl rfl) ?_
  conv => whnf
  refine And.intro (fun _ => ?_) (fun h => absurd h (by decide)); conv => whnf
  refine .one _ _ _ (fun _ => e25) (by repeat (first | exact .nil | (apply BorL.cons; first | exact lS rfl | exact lR rfl | exact lM rfl rfl | exact lL rfl | exact lX rfl | exact lN | exact lNl | exact lSm rfl | exact lIm rfl | exact lGm rfl | exact lP rfl | exact lQ rfl | exact lB rfl rfl rfl))) (by first | exact .inl rfl | exact .inr (by repeat (first | exact flats_nil | refine flats_cons (by first | exact flat_val _ rfl | exact flat_row (fun _ => rfl) | exact flat_lst (fun _ => rfl)) ?_))) (by first | exact .inr rfl | exact .inl rfl) ?_
  conv => whnf
  refine And.intro (fun _ => ?_) (fun h => absurd h (by decide)); conv => whnf
  refine .one _ _ _ (fun _ => e26) (by repeat (first | exact .nil | (apply BorL.cons; first | exact lS rfl | exact lR rfl | exact lM rfl rfl | exact lL rfl | exact lX rfl | exact lN | exact lNl | exact lSm rfl | exact lIm rfl | exact lGm rfl | exact lP rfl | exact lQ rfl | exact lB rfl rfl rfl))) (by first | exact .inl rfl | exact .inr (by repeat (first | exact flats_nil | refine flats_cons (by first | exact flat_val _ rfl | exact flat_row (fun _ => rfl) | exact flat_lst (fun _ => rfl)) ?_))) (by first | exact .inr rfl | exact .inl rfl) ?_
  conv => whnf
  refine And.intro (fun _ => ?_) (fun h => absurd h (by decide)); conv => whnf
  refine .one _ _ _ (fun _ => e35) (by repeat (first | exact .nil | (apply BorL.cons; first | exact lS rfl | exact lR rfl | exact lM rfl rfl | exact lL rfl | exact lX rfl | exact lN | exact lNl | exact lSm rfl | exact lIm rfl | exact lGm rfl | exact lP rfl | exact lQ rfl | exact lB rfl rfl rfl))) (by first | exact .inl rfl | exact .inr (by repeat (first | exact flats_nil | refine flats_cons (by first | exact flat_val _ rfl | exact flat_row (fun _ => rfl) | exact flat_lst (fun _ => rfl)) ?_))) (by first | exact .inr rfl | exact .inl rfl) ?_
  conv => whnf
  refine And.intro (fun _ => ?_) (fun h => absurd h (by decide)); conv => whnf
  refine .one _ _ _ (fun _ => s5) (by repeat (first | exact .nil | (apply BorL.cons; first | exact lS rfl | exact lR rfl | exact lM rfl rfl | exact lL rfl | exact lX rfl | exact lN | exact lNl | exact lSm rfl | exact lIm rfl | exact lGm rfl | exact lP rfl | exact lQ rfl | exact lB rfl rfl rfl))) (by first | exact .inl rfl | exact .inr (by repeat (first | exact flats_nil | refine flats_cons (by first | exact flat_val _ rfl | exact flat_row (fun _ => rfl) | exact flat_lst (fun _ => rfl)) ?_))) (by first | exact .inr rfl | exact .inl rfl) ?_
  conv => whnf
  refine .raw _ _ rfl (fun h => by cases h) (rio_at (new_ok) [] rfl rfl rfl (by repeat (first | exact trivial | refine And.intro (by first | exact .refl _ | exact .newgmap _ _ _ _ _ _ _ rfl rfl | exact .newimap _ _ _ _ _ _ _ rfl rfl | exact .smap _ _ _ _ _ _ rfl rfl) ?_))) ?_
  rintro _ ⟨_, _, _, ⟨rfl, rfl, rfl⟩, -, rfl⟩
  refine ⟨Nat.le_add_right _ _, ?_⟩
  conv => whnf
  refine And.intro (fun h => absurd h (by decide)) (fun _ => ?_); conv => whnf
  refine And.intro ⟨by decide, (show (1 : Int) < 3 by decide)⟩ ?_
  conv => whnf
  refine And.intro (show Int.toNat 1 < 3 by decide) (And.intro rfl ?_)
  conv => whnf
  refine .one _ _ _ (fun _ => tA) (by repeat (first | exact .nil | (apply BorL.cons; first | exact lS rfl | exact lR rfl | exact lM rfl rfl | exact lL rfl | exact lX rfl | exact lN | exact lNl | exact lSm rfl | exact lIm rfl | exact lGm rfl | exact lP rfl | exact lQ rfl | exact lB rfl rfl rfl))) (by first | exact .inl rfl | exact .inr (by repeat (first | exact flats_nil | refine flats_cons (by first | exact flat_val _ rfl | exact flat_row (fun _ => rfl) | exact flat_lst (fun _ => rfl)) ?_))) (by first | exact .inr rfl | exact .inl rfl) ?_
  conv => whnf
  refine .raw _ _ rfl (fun h => by cases h) (rio_at (n1) [16, 17, 18] rfl rfl rfl (by repeat (first | exact trivial | refine And.intro (by first | exact .refl _ | exact .newgmap _ _ _ _ _ _ _ rfl rfl | exact .newimap _ _ _ _ _ _ _ rfl rfl | exact .smap _ _ _ _ _ _ rfl rfl) ?_))) ?_
  rintro _ ⟨_, _, _, ⟨rfl, rfl, rfl⟩, -, rfl⟩
  refine ⟨Nat.le_add_right _ _, ?_⟩
  conv => whnf
  refine And.intro ⟨by decide, (show (1 : Int) < 3 by decide)⟩ ?_
  conv => whnf
  refine And.intro (show Int.toNat 1 < 3 by decide) (And.intro rfl ?_)
  conv => whnf
  refine .one _ _ _ (fun _ => tB) (by repeat (first | exact .nil | (apply BorL.cons; first | exact lS rfl | exact lR rfl | exact lM rfl rfl | exact lL rfl | exact lX rfl | exact lN | exact lNl | exact lSm rfl | exact lIm rfl | exact lGm rfl | exact lP rfl | exact lQ rfl | exact lB rfl rfl rfl))) (by first | exact .inl rfl | exact .inr (by repeat (first | exact flats_nil | refine flats_cons (by first | exact flat_val _ rfl | exact flat_row (fun _ => rfl) | exact flat_lst (fun _ => rfl)) ?_))) (by first | exact .inr rfl | exact .inl rfl) ?_
  conv => whnf
  refine .raw _ _ rfl (fun h => by cases h) (rio_at (n2) [16, 17, 19] rfl rfl rfl (by repeat (first | exact trivial | refine And.intro (by first | exact .refl _ | exact .newgmap _ _ _ _ _ _ _ rfl rfl | exact .newimap _ _ _ _ _ _ _ rfl rfl | exact .smap _ _ _ _ _ _ rfl rfl) ?_))) ?_
  rintro _ ⟨_, _, _, ⟨rfl, rfl, rfl⟩, -, rfl⟩
  refine ⟨Nat.le_add_right _ _, ?_⟩
  conv => whnf
  refine And.intro ⟨by decide, (show (1 : Int) < 3 by decide)⟩ ?_
  conv => whnf
  refine And.intro (show Int.toNat 1 < 3 by decide) (And.intro rfl ?_)
  conv => whnf
  refine .one _ _ _ (fun _ => tB) (by repeat (first | exact .nil | (apply BorL.cons; first | exact lS rfl | exact lR rfl | exact lM rfl rfl | exact lL rfl | exact lX rfl | exact lN | exact lNl | exact lSm rfl | exact lIm rfl | exact lGm rfl | exact lP rfl | exact lQ rfl | exact lB rfl rfl rfl))) (by first | exact .inl rfl | exact .inr (by repeat (first | exact flats_nil | refine flats_cons (by first | exact flat_val _ rfl | exact flat_row (fun _ => rfl) | exact flat_lst (fun _ => rfl)) ?_))) (by first | exact .inr rfl | exact .inl rfl) ?_
  conv => whnf
  refine .raw _ _ rfl (fun h => by cases h) (rio_at (n3) [16, 17, 21] rfl rfl rfl (by repeat (first | exact trivial | refine And.intro (by first | exact .refl _ | exact .newgmap _ _ _ _ _ _ _ rfl rfl | exact .newimap _ _ _ _ _ _ _ rfl rfl | exact .smap _ _ _ _ _ _ rfl rfl) ?_))) ?_
  rintro _ ⟨_, _, _, ⟨rfl, rfl, rfl⟩, -, rfl⟩
  refine ⟨Nat.le_add_right _ _, ?_⟩
  conv => whnf
  refine .one _ _ _ (fun _ => w1) (BorL.cons (lendR (k := 23) (j := 17) rfl rfl rfl) (by repeat (first | exact .nil | (apply BorL.cons; first | exact lS rfl | exact lR rfl | exact lM rfl rfl | exact lL rfl | exact lX rfl | exact lN | exact lNl | exact lSm rfl | exact lIm rfl | exact lGm rfl | exact lP rfl | exact lQ rfl | exact lB rfl rfl rfl)))) (by first | exact .inl rfl | exact .inr (by repeat (first | exact flats_nil | refine flats_cons (by first | exact flat_val _ rfl | exact flat_row (fun _ => rfl) | exact flat_lst (fun _ => rfl)) ?_))) (by first | exact .inr rfl | exact .inl rfl) ?_
  conv => whnf
  refine .one _ _ _ (fun _ => w2) (BorL.cons (lendR (k := 23) (j := 17) rfl rfl rfl) (by repeat (first | exact .nil | (apply BorL.cons; first | exact lS rfl | exact lR rfl | exact lM rfl rfl | exact lL rfl | exact lX rfl | exact lN | exact lNl | exact lSm rfl | exact lIm rfl | exact lGm rfl | exact lP rfl | exact lQ rfl | exact lB rfl rfl rfl)))) (by first | exact .inl rfl | exact .inr (by repeat (first | exact flats_nil | refine flats_cons (by first | exact flat_val _ rfl | exact flat_row (fun _ => rfl) | exact flat_lst (fun _ => rfl)) ?_))) (by first | exact .inr rfl | exact .inl rfl) ?_
  conv => whnf
  refine .one _ _ _ (fun _ => w3) (BorL.cons (lendR (k := 23) (j := 17) rfl rfl rfl) (by repeat (first | exact .nil | (apply BorL.cons; first | exact lS rfl | exact lR rfl | exact lM rfl rfl | exact lL rfl | exact lX rfl | exact lN | exact lNl | exact lSm rfl | exact lIm rfl | exact lGm rfl | exact lP rfl | exact lQ rfl | exact lB rfl rfl rfl)))) (by first | exact .inl rfl | exact .inr (by repeat (first | exact flats_nil | refine flats_cons (by first | exact flat_val _ rfl | exact flat_row (fun _ => rfl) | exact flat_lst (fun _ => rfl)) ?_))) (by first | exact .inr rfl | exact .inl rfl) ?_
  conv => whnf
  rfl

end Go.Proofs.YtjlnaogechkjdaaGreatDoor


namespace Go.Proofs.YtjlnaogechkjdaaGreatDoor
open Go.Own
set_option maxHeartbeats 4000000
set_option maxRecDepth 100000

/-! ### Both ways to compare are one -/
theorem ids_inj {l : List Ent} (h : OkL l) {x y : Ent} (hx : x ∈ l) (hy : y ∈ l) (e : x.id = y.id) : x = y := by
  have hn := h.nd
  obtain ⟨i, hi, rfl⟩ := List.getElem_of_mem hx
  obtain ⟨j, hj, rfl⟩ := List.getElem_of_mem hy
  have : i = j := by
    have := (List.getElem_inj (xs := l.map Ent.id) (i := i) (j := j) (h₀ := by simpa using hi) (h₁ := by simpa using hj) hn).1 (by simpa using e)
    exact this
  subst this
  rfl
theorem snoc_ind {T : Type} {P : List T → Prop} (h0 : P []) (h1 : ∀ l x, P l → P (l ++ [x])) (l : List T) : P l := by
  have h : ∀ k, k ≤ l.length → P (l.take k) := by
    intro k
    induction k with
    | zero => intro _; rw [List.take_zero]; exact h0
    | succ k ih =>
      intro hk
      have hlt : k < l.length := by omega
      rw [List.take_succ_eq_append_getElem hlt]
      exact h1 _ _ (ih (by omega))
  have := h l.length (Nat.le_refl _)
  rwa [List.take_length] at this
theorem found_get : ∀ (l : List Ent) (n : Int), (∀ x, mget (foundM l) n = some x → x ∈ l ∧ x.id = n) ∧ (mget (foundM l) n = none → ∀ x ∈ l, x.id ≠ n) := by
  intro l n
  refine snoc_ind (P := fun l => (∀ x, mget (foundM l) n = some x → x ∈ l ∧ x.id = n) ∧ (mget (foundM l) n = none → ∀ x ∈ l, x.id ≠ n)) ?_ ?_ l
  · exact ⟨fun x h => (by cases h), fun _ x h => (by cases h)⟩
  · intro l e ih
    rw [foundM_snoc, mget_mset]
    by_cases h : e.id = n
    · rw [if_pos h]
      refine ⟨fun x hx => ?_, fun h => by cases h⟩
      cases hx
      exact ⟨by simp, h⟩
    · rw [if_neg h]
      refine ⟨fun x hx => ⟨List.mem_append_left _ (ih.1 x hx).1, (ih.1 x hx).2⟩, fun hx x hm => ?_⟩
      rcases List.mem_append.1 hm with hm | hm
      · exact ih.2 hx x hm
      · rw [List.mem_singleton] at hm
        rw [hm]
        exact h
theorem at_neg {l : List Ent} {n : Int} : atI l n < 0 ↔ ∀ x ∈ l, x.id ≠ n := by
  unfold atI firstI
  by_cases h : l.findIdx (fun x : Ent => decide (x.id = n)) < l.length
  · rw [if_pos h]
    have h2 := List.findIdx_getElem (w := h)
    refine ⟨fun hh => by omega, fun hh => ?_⟩
    exact absurd (of_decide_eq_true h2) (hh _ (List.getElem_mem h))
  · rw [if_neg h]
    refine ⟨fun _ x hx e => h ?_, fun _ => by decide⟩
    rw [List.findIdx_lt_length]
    exact ⟨x, hx, decide_eq_true e⟩
/-! ### Rings -/
def sgL (l : List Seal) : List Seal := l.foldl (fun L s => signL L s.key s.text) []
end Go.Proofs.YtjlnaogechkjdaaGreatDoor


namespace Go.Proofs.YtjlnaogechkjdaaGreatDoor
open Go.Own
set_option maxHeartbeats 4000000
set_option maxRecDepth 100000

/-! ### Ledgers exchanged -/
theorem srt_mem {l : List Ent} {x : Ent} : x ∈ srt l ↔ x ∈ l := (srt_ok l).2.mem
/-- What is told as missing on one side has no Id of the other side. -/
theorem in_far {a b : List Ent} {w w' : List (Int × Bool)} : ∀ x ∈ a.filter (goIn b w), ∀ y ∈ b.filter (goIn a w'), x.id ≠ y.id := by
  intro x hx y hy e
  obtain ⟨_, h1⟩ := List.mem_filter.1 hx
  obtain ⟨h2, _⟩ := List.mem_filter.1 hy
  unfold goIn at h1
  rw [Bool.and_eq_true, Option.isNone_iff_eq_none] at h1
  exact (found_get b x.id).2 h1.1 y h2 e.symm
end Go.Proofs.YtjlnaogechkjdaaGreatDoor


namespace Go.Proofs.YtjlnaogechkjdaaGreatDoor
open Go.Own
set_option maxHeartbeats 4000000
set_option maxRecDepth 100000

/-! ### What posted does -/
theorem sumA_le : ∀ {s : List Ent}, (∀ e ∈ s, rightE e = true) → sumA s ≤ 1000000000000000 * (s.length : Int)
  | [], _ => by simp [sumA]
  | e :: s, h => by
    have h1 := (rightE_iff.1 (h e (by simp))).2.2.2.2.2
    have h2 := sumA_le (s := s) fun x hx => h x (by simp [hx])
    rw [sumA, List.length_cons]
    omega
theorem atI_app {l : List Ent} {e : Ent} {n : Int} (h : e.id ≠ n) : (atI (l ++ [e]) n < 0) ↔ (atI l n < 0) := by
  rw [at_neg, at_neg]
  constructor
  · exact fun g x hx => g x (List.mem_append_left _ hx)
  · intro g x hx
    rcases List.mem_append.1 hx with hx | hx
    · exact g x hx
    · rw [List.mem_singleton] at hx
      rw [hx]; exact h
theorem post_new {l : List Ent} {e : Ent} (hl : OkL (l ++ [e])) (hn : (l ++ [e]).length ≤ 10000) (h : atI l e.id < 0) : postE l e = 0 := by
  have h1 : validB (l ++ [e]) = true := validB_iff.2 ⟨hn, hl⟩
  have h2 : validB l = true := (valid_left h1).1
  have h3 : rightE e = true := hl.right e (by simp)
  unfold postE
  rw [h1, h2, h3]
  have h4 : ¬ placeE l e.id < l.length := fun hp => by
    obtain ⟨x, hx, hid⟩ := placeE_lt.1 hp
    exact at_neg.1 h x hx hid
  simp [h4]
theorem pstd_ok : ∀ (s l : List Ent), OkL l → (∀ e ∈ s, rightE e = true) → (s.map (·.id)).Nodup → l.length + s.length ≤ 10000 → sumA l + sumA s ≤ 4000000000000000000 →
    pstd l s = (l ++ s.filter (fun e => decide (atI l e.id < 0)), true) ∧ OkL (l ++ s.filter (fun e => decide (atI l e.id < 0)))
  | [], l, hl, _, _, _, _ => by
    rw [pstd, List.filter_nil, List.append_nil]
    exact ⟨rfl, hl⟩
  | e :: s, l, hl, hr, hn, hlen, hs => by
    rw [List.map_cons, List.nodup_cons] at hn
    have hr' : ∀ x ∈ s, rightE x = true := fun x hx => hr x (by simp [hx])
    have hre := (rightE_iff.1 (hr e (by simp))).2.2.2.2.2
    rw [sumA] at hs
    simp only [List.length_cons] at hlen
    have hs0 := sumA_ge hr'
    rw [pstd]
    by_cases h : atI l e.id < 0
    · have hl2 : OkL (l ++ [e]) := by
        rw [OkL.snoc]
        refine ⟨hl, hr e (by simp), at_neg.1 h, by omega⟩
      rw [if_neg (by omega), if_pos (post_new hl2 (by simp; omega) h)]
      obtain ⟨i1, i2⟩ := pstd_ok s (l ++ [e]) hl2 hr' hn.2 (by simp; omega) (by rw [sumA_append, sumA, sumA]; omega)
      have hf : s.filter (fun x => decide (atI (l ++ [e]) x.id < 0)) = s.filter (fun x => decide (atI l x.id < 0)) := by
        apply List.filter_congr
        intro x hx
        have hne : e.id ≠ x.id := fun he => hn.1 (by rw [he]; exact List.mem_map_of_mem (f := fun x : Ent => x.id) hx)
        rw [Bool.eq_iff_iff, decide_eq_true_eq, decide_eq_true_eq]
        exact atI_app hne
      rw [hf, List.append_assoc] at i1 i2
      rw [List.filter_cons_of_pos (by simpa using h)]
      exact ⟨i1, i2⟩
    · rw [if_pos (by omega), List.filter_cons_of_neg (by simpa using h)]
      exact pstd_ok s l hl hr' hn.2 (by omega) (by omega)
theorem pstd_mem {s l : List Ent} {x : Ent} : x ∈ l ++ s.filter (fun e => decide (atI l e.id < 0)) ↔ x ∈ l ∨ (x ∈ s ∧ ∀ y ∈ l, y.id ≠ x.id) := by
  rw [List.mem_append, List.mem_filter, decide_eq_true_eq, at_neg]

/-! ### What is told as in flight -/
theorem ids_filter {l : List Ent} (h : (l.map (·.id)).Nodup) (p : Ent → Bool) : ((l.filter p).map (·.id)).Nodup := h.sublist (List.filter_sublist.map _)
theorem in_nodup {a b : List Ent} (ha : OkL a) (hb : OkL b) (w w' : List (Int × Bool)) : ((a.filter (goIn b w) ++ b.filter (goIn a w')).map (·.id)).Nodup := by
  rw [List.map_append, List.nodup_append]
  refine ⟨ids_filter ha.nd _, ids_filter hb.nd _, ?_⟩
  intro i hi j hj
  obtain ⟨x, hx, rfl⟩ := List.mem_map.1 hi
  obtain ⟨y, hy, rfl⟩ := List.mem_map.1 hj
  exact in_far x hx y hy
theorem srt_ids {l : List Ent} (h : (l.map (·.id)).Nodup) : ((srt l).map (·.id)).Nodup := (((srt_ok l).2.perm).map _).nodup_iff.1 h
/-! ### More messages -/
def goU (o : List Ent) (e : Ent) : Bool :=
  match mget (foundM o) e.id with
  | some x => !eqE x e
  | none => true
theorem same_mem {l : List Ent} {x : Ent} : sameB l x = true ↔ x ∈ l := by
  unfold sameB
  rw [List.any_eq_true]
  constructor
  · rintro ⟨y, h1, h2⟩
    have : y = x := of_decide_eq_true h2
    rw [← this]; exact h1
  · exact fun h => ⟨x, h, decide_eq_true rfl⟩
/-- Each entry of the first list, and the ledgers without it. -/
structure InAt (a b : List Ent) (fl : List Msg) (l : List Ent) (i : Nat) : Prop where
  one : decide (atI a (l.getD i e0).id < 0) ≠ decide (atI b (l.getD i e0).id < 0)
  way : ((decide (0 ≤ atI a (l.getD i e0).id) && wayB fl 0 (atI a (l.getD i e0).id)) || (decide (0 ≤ atI b (l.getD i e0).id) && wayB fl 1 (atI b (l.getD i e0).id))) = true
  own : (sameB a (l.getD i e0) || sameB b (l.getD i e0)) = true
  pa : (pstd a (l.take i ++ l.drop (i + 1))).2 = true
  pb : (pstd b (l.take i ++ l.drop (i + 1))).2 = true
  dif : sameB (pstd a (l.take i ++ l.drop (i + 1))).1 (l.getD i e0) ≠ sameB (pstd b (l.take i ++ l.drop (i + 1))).1 (l.getD i e0)
  asc : ∀ j, j < i → (l.getD j e0).id < (l.getD i e0).id
end Go.Proofs.YtjlnaogechkjdaaGreatDoor


namespace Go.Proofs.YtjlnaogechkjdaaGreatDoor
open Go.Own
set_option maxHeartbeats 4000000
set_option maxRecDepth 100000

theorem pstd_len : ∀ (s l : List Ent), (pstd l s).1.length ≤ l.length + s.length
  | [], l => by rw [pstd]; exact Nat.le_refl _
  | e :: s, l => by
    rw [pstd, List.length_cons]
    split
    · have := pstd_len s l
      omega
    · split
      · have := pstd_len s (l ++ [e])
        rw [List.length_append, List.length_singleton] at this
        omega
      · simp only
        omega
end Go.Proofs.YtjlnaogechkjdaaGreatDoor

namespace Go.Proofs.YtjlnaogechkjdaaGreatDoor
open Go.Own
set_option maxHeartbeats 4000000
set_option maxRecDepth 100000

/-! ### What is in flight explains all but the second list -/
theorem found_some {l : List Ent} (hl : OkL l) {z : Ent} {n : Int} (hz : z ∈ l) (hn : z.id = n) : mget (foundM l) n = some z := by
  obtain ⟨f1, f2⟩ := found_get l n
  cases hm : mget (foundM l) n with
  | none => exact absurd hn (f2 hm z hz)
  | some u =>
    obtain ⟨g1, g2⟩ := f1 u hm
    rw [ids_inj hl g1 hz (by rw [g2, hn])]
theorem found_none {l : List Ent} {n : Int} (h : ∀ y ∈ l, y.id ≠ n) : mget (foundM l) n = none := by
  obtain ⟨f1, _⟩ := found_get l n
  cases hm : mget (foundM l) n with
  | none => rfl
  | some u => exact absurd (f1 u hm).2 (h u (f1 u hm).1)
theorem core {a b : List Ent} (hA : OkL a) (hB : OkL b) {w w' : List (Int × Bool)} {I O : List Ent} (hI : ∀ e, e ∈ I ↔ (e ∈ a ∧ goIn b w e = true) ∨ (e ∈ b ∧ goIn a w' e = true))
    (hO : ∀ e, e ∈ O ↔ (e ∈ a ∧ goOut b w e = true) ∨ (e ∈ b ∧ goOut a w' e = true)) (e : Ent) (hx : e ∈ a ∨ (e ∈ I ∧ ∀ y ∈ a, y.id ≠ e.id)) : (e ∈ b ∨ (e ∈ I ∧ ∀ y ∈ b, y.id ≠ e.id)) ↔ ¬ e ∈ O := by
  rcases hx with ha | ⟨hi, hn⟩
  · by_cases hb : ∃ y ∈ b, y.id = e.id
    · obtain ⟨y, hy, hid⟩ := hb
      have hf := found_some hB hy hid
      have hfa := found_some hA ha rfl
      by_cases he : y = e
      · subst he
        refine ⟨fun _ ho => ?_, fun _ => .inl hy⟩
        rcases (hO y).1 ho with ⟨_, h⟩ | ⟨_, h⟩
        · unfold goOut at h
          rw [hf] at h
          simp only at h
          rw [eqE_iff.2 rfl] at h
          exact Bool.noConfusion h
        · unfold goOut at h
          rw [hfa] at h
          simp only at h
          rw [eqE_iff.2 rfl] at h
          exact Bool.noConfusion h
      · refine ⟨fun h => ?_, fun h => ?_⟩
        · rcases h with h | ⟨_, h⟩
          · exact absurd (ids_inj hB hy h hid) he
          · exact absurd hid (h y hy)
        · refine absurd ((hO e).2 (.inl ⟨ha, ?_⟩)) h
          unfold goOut
          rw [hf]
          simp only
          cases hq : eqE y e with
          | false => rfl
          | true => exact absurd (eqE_iff.1 hq) he
    · have hnb : ∀ y ∈ b, y.id ≠ e.id := fun y hy h => hb ⟨y, hy, h⟩
      have heb : ¬ e ∈ b := fun h => hnb e h rfl
      have hf := found_none hnb
      constructor
      · rintro (h | ⟨h, _⟩)
        · exact absurd h heb
        · intro ho
          have h1 : goIn b w e = true := by
            rcases (hI e).1 h with h | h
            · exact h.2
            · exact absurd h.1 heb
          have h2 : goOut b w e = true := by
            rcases (hO e).1 ho with h | h
            · exact h.2
            · exact absurd h.1 heb
          unfold goIn at h1
          unfold goOut at h2
          rw [hf] at h1 h2
          simp only [Option.isNone_none, Bool.true_and] at h1 h2
          rw [h1] at h2
          exact Bool.noConfusion h2
      · intro ho
        refine .inr ⟨(hI e).2 (.inl ⟨ha, ?_⟩), hnb⟩
        unfold goIn
        rw [hf]
        simp only [Option.isNone_none, Bool.true_and]
        cases hq : (mget w e.id).getD false with
        | true => rfl
        | false =>
          refine absurd ((hO e).2 (.inl ⟨ha, ?_⟩)) ho
          unfold goOut
          rw [hf]
          simp only
          rw [hq]
          rfl
  · have hea : ¬ e ∈ a := fun h => hn e h rfl
    have hf := found_none hn
    rcases (hI e).1 hi with h | ⟨hb, h⟩
    · exact absurd h.1 hea
    · refine ⟨fun _ ho => ?_, fun _ => .inl hb⟩
      rcases (hO e).1 ho with h2 | ⟨_, h2⟩
      · exact hea h2.1
      · unfold goIn at h
        unfold goOut at h2
        rw [hf] at h h2
        simp only [Option.isNone_none, Bool.true_and] at h h2
        rw [h] at h2
        exact Bool.noConfusion h2
theorem nodup_ids {l : List Ent} (h : (l.map (·.id)).Nodup) : l.Nodup := by
  rw [List.nodup_iff_pairwise_ne] at h ⊢
  rw [List.pairwise_map] at h
  exact h.imp fun h e => h (by rw [e])
theorem bool_ne {p q : Bool} (h : p = true ↔ ¬ q = true) : p ≠ q := by
  cases p <;> cases q <;> simp at h ⊢
structure Expl (x y I O : List Ent) : Prop where
  fx : ∀ e ∈ x, sameB y e ≠ sameB O e
  fy : ∀ e ∈ y, sameB x e ≠ sameB O e
  own : ∀ e ∈ O, (sameB x e || sameB y e) = true
  no : ∀ e ∈ O, sameB I e = false
  once : ∀ i, i < O.length → sameB (O.take i) (O.getD i e0) = false
  asc : ∀ j i, j < i → i < O.length → (O.getD j e0).id ≤ (O.getD i e0).id
  bal : O = [] → ∀ n, balO x n = balO y n
theorem explain {a b : List Ent} {fl : List Msg} (hok : okC a b fl = true) (hla : a.length ≤ 20) (hlb : b.length ≤ 20) :
    (pstd a (srt (rawI a b fl))).2 = true ∧ (pstd b (srt (rawI a b fl))).2 = true ∧ Expl (pstd a (srt (rawI a b fl))).1 (pstd b (srt (rawI a b fl))).1 (srt (rawI a b fl)) (srt (rawO a b fl)) := by
  have hok' := hok
  unfold okC at hok'
  simp only [Bool.and_eq_true] at hok'
  obtain ⟨_, hva, hvb⟩ := hok'
  have ha := (validB_iff.1 hva).2
  have hb := (validB_iff.1 hvb).2
  have hids := srt_ids (in_nodup ha hb (wayM a b 1 fl) (wayM a b 0 fl))
  have hlen : (srt (rawI a b fl)).length ≤ 40 := by
    rw [srt_len]
    unfold rawI
    rw [List.length_append]
    have := List.length_filter_le (goIn b (wayM a b 1 fl)) a
    have := List.length_filter_le (goIn a (wayM a b 0 fl)) b
    omega
  have hI : ∀ e, e ∈ srt (rawI a b fl) ↔ (e ∈ a ∧ goIn b (wayM a b 1 fl) e = true) ∨ (e ∈ b ∧ goIn a (wayM a b 0 fl) e = true) := fun e => by
    rw [srt_mem]
    unfold rawI
    rw [List.mem_append, List.mem_filter, List.mem_filter]
  have hO : ∀ e, e ∈ srt (rawO a b fl) ↔ (e ∈ a ∧ goOut b (wayM a b 1 fl) e = true) ∨ (e ∈ b ∧ goOut a (wayM a b 0 fl) e = true) := fun e => by
    rw [srt_mem]
    unfold rawO
    rw [List.mem_append, List.mem_filter, List.mem_filter]
  have hasc := (srt_ok (rawO a b fl)).1
  have hnd : (srt (rawO a b fl)).Nodup := by
    refine ((srt_ok (rawO a b fl)).2.perm).nodup_iff.1 ?_
    unfold rawO
    rw [List.nodup_append]
    refine ⟨(nodup_ids ha.nd).sublist List.filter_sublist, (nodup_ids hb.nd).sublist List.filter_sublist, fun x hx y hy e => ?_⟩
    subst e
    obtain ⟨_, h1⟩ := List.mem_filter.1 hx
    obtain ⟨h2, _⟩ := List.mem_filter.1 hy
    unfold goOut at h1
    rw [found_some hb h2 rfl] at h1
    simp only at h1
    rw [eqE_iff.2 rfl] at h1
    exact Bool.noConfusion h1
  change ((srt (rawI a b fl)).map _).Nodup at hids
  generalize srt (rawI a b fl) = I at *
  generalize srt (rawO a b fl) = O at *
  have hri : ∀ e ∈ I, rightE e = true := fun e he => by
    rcases (hI e).1 he with h | h
    · exact ha.right e h.1
    · exact hb.right e h.1
  have hsr := sumA_le hri
  have hsa := sumA_le ha.right
  have hsb := sumA_le hb.right
  obtain ⟨pa, oa⟩ := pstd_ok I a ha hri hids (by omega) (by omega)
  obtain ⟨pb, ob⟩ := pstd_ok I b hb hri hids (by omega) (by omega)
  rw [pa, pb]
  have mx := fun e => pstd_mem (s := I) (l := a) (x := e)
  have my := fun e => pstd_mem (s := I) (l := b) (x := e)
  have lx : (a ++ I.filter (fun e => decide (atI a e.id < 0))).length ≤ 10000 := by
    rw [List.length_append]
    have := List.length_filter_le (fun e : Ent => decide (atI a e.id < 0)) I
    omega
  have ly : (b ++ I.filter (fun e => decide (atI b e.id < 0))).length ≤ 10000 := by
    rw [List.length_append]
    have := List.length_filter_le (fun e : Ent => decide (atI b e.id < 0)) I
    omega
  simp only
  generalize a ++ I.filter (fun e => decide (atI a e.id < 0)) = x at *
  generalize b ++ I.filter (fun e => decide (atI b e.id < 0)) = y at *
  have cx := fun e (h : e ∈ x) => core ha hb hI hO e ((mx e).1 h)
  have cy := fun e (h : e ∈ y) => core hb ha (fun e => (hI e).trans Or.comm) (fun e => (hO e).trans Or.comm) e ((my e).1 h)
  refine ⟨trivial, trivial, ?_, ?_, ?_, ?_, ?_, ?_, ?_⟩
  · intro e he
    refine bool_ne ?_
    rw [same_mem, same_mem, my]
    exact cx e he
  · intro e he
    refine bool_ne ?_
    rw [same_mem, same_mem, mx]
    exact cy e he
  · intro e he
    rw [Bool.or_eq_true, same_mem, same_mem, mx, my]
    rcases (hO e).1 he with h | h
    · exact .inl (.inl h.1)
    · exact .inr (.inl h.1)
  · intro e he
    cases hs : sameB I e with
    | false => rfl
    | true =>
      have hi := same_mem.1 hs
      exfalso
      rcases (hI e).1 hi with ⟨h1, h2⟩ | ⟨h1, h2⟩
      · have hn : ∀ z ∈ b, z.id ≠ e.id := by
          unfold goIn at h2
          rw [Bool.and_eq_true, Option.isNone_iff_eq_none] at h2
          exact (found_get b e.id).2 h2.1
        exact (core ha hb hI hO e (.inl h1)).1 (.inr ⟨hi, hn⟩) he
      · have hn : ∀ z ∈ a, z.id ≠ e.id := by
          unfold goIn at h2
          rw [Bool.and_eq_true, Option.isNone_iff_eq_none] at h2
          exact (found_get a e.id).2 h2.1
        exact (core ha hb hI hO e (.inr ⟨hi, hn⟩)).1 (.inl h1) he
  · intro i hi
    cases hs : sameB (O.take i) (O.getD i e0) with
    | false => rfl
    | true =>
      exfalso
      have h1 := same_mem.1 hs
      obtain ⟨j, hj, e⟩ := List.mem_take_iff_getElem.1 h1
      have e1 : O.getD i e0 = O[i] := by simp [List.getD, List.getElem?_eq_getElem hi]
      rw [e1] at e
      have := (List.getElem_inj hnd).1 e
      omega
  · intro j i hj hi
    have e1 : O.getD i e0 = O[i] := by simp [List.getD, List.getElem?_eq_getElem hi]
    have e2 : O.getD j e0 = O[j] := by simp [List.getD, List.getElem?_eq_getElem (show j < O.length by omega)]
    rw [e1, e2]
    exact List.pairwise_iff_getElem.1 hasc j i (by omega) hi hj
  · rintro rfl n
    have hp : x.Perm y := (List.perm_ext_iff_of_nodup (nodup_ids oa.nd) (nodup_ids ob.nd)).2 fun e => ⟨fun h => (my e).2 ((cx e h).2 (by simp)), fun h => (mx e).2 ((cy e h).2 (by simp))⟩
    unfold balO
    rw [validB_iff.2 ⟨lx, oa⟩, validB_iff.2 ⟨ly, ob⟩, if_pos rfl, if_pos rfl]
    exact bal_perm hp n

end Go.Proofs.YtjlnaogechkjdaaGreatDoor

namespace Go.Proofs.YtjlnaogechkjdaaGreatDoor
open Go.Own Go.Shelf Go.Proofs Go.RowKit
set_option maxHeartbeats 4000000
set_option maxRecDepth 100000

theorem newimap_of [Tabs] {P : Program} {f : FuncId} {args : List AV} {V W : Type} {ev : V → AV} {dv : V} {k : IntKind} {ev' : W → AV} {dv' : W} (h : APure P f args (fun rs => rs = [.new (.smap ev dv [])])) : APure P f args (fun rs => rs = [.new (.imap k ev' dv' [])]) := by
  refine ⟨h.1, fun S w vs hS hT hv => (h.2 S w vs hS hT hv).mono ?_⟩
  rintro en w' ⟨us, rs, S', he, rfl, hL⟩
  refine ⟨us, _, S', he, rfl, ⟨by rw [hL.len]; rfl, fun j u r hu hr => ?_, hL.below, hL.ros, hL.fresh, hL.lt, fun i u b k hu hb hk => ?_⟩⟩
  · match j, hr with
    | 0, hr =>
      simp at hr
      subst hr
      obtain ⟨_, h2, h3⟩ := hL.rel 0 u _ hu rfl
      refine ⟨rfl, h2, fun n => ?_⟩
      obtain ⟨r, en, clock, hm, hr, hl, hb1, _⟩ := h3 n
      exact ⟨r, en, clock, hm, hr, by simpa using hl, hb1, fun j x p _ hp => by simp at hp⟩
  · match i, hb with
    | 0, _ =>
      obtain ⟨a1, a2⟩ := hL.apart 0 u _ k hu rfl hk
      refine ⟨a1, fun j u' b' hu' hb' hk' => ?_⟩
      match j, hb' with
      | 0, _ => rfl

theorem balances_ok (l : List Ent) (hl : l.length ≤ 9223372036854775807) : APure Tryz.prog 27 [encEs l] (fun rs => rs = [.new (.imap .i64 encI 0 (accM l))]) := by
  have hv := valid_ok l hl
  have hvi := @validB_iff l
  unfold accM
  generalize validB l = vb at *
  cases vb with
  | false =>
    rw [if_neg Bool.noConfusion]
    refine newimap_of (ev := fun _ : PUnit => AV.undef) (dv := PUnit.unit) ?_
    refine apure_of (C := cx 33 [0, 2, 3, 5, 9, 11, 12, 13, 14]) (cxOk _ _) Tryz.func27 rfl (by decide) rfl (by exact Nat.le_of_ble_eq_true rfl) (by decide) ?_
    conv => whnf
    refine .one _ _ _ (fun _ => hv) (by repeat (first | exact .nil | (apply BorL.cons; first | exact lS rfl | exact lR rfl | exact lM rfl rfl | exact lL rfl | exact lX rfl | exact lN | exact lNl | exact lSm rfl | exact lIm rfl | exact lGm rfl | exact lP rfl | exact lQ rfl | exact lB rfl rfl rfl))) (by first | exact .inl rfl | exact .inr (by repeat (first | exact flats_nil | refine flats_cons (by first | exact flat_val _ rfl | exact flat_row (fun _ => rfl) | exact flat_lst (fun _ => rfl)) ?_))) (by first | exact .inr rfl | exact .inl rfl) ?_
    conv => whnf
    refine ⟨fun hx => ?_, fun hx => ?_⟩
    · conv => whnf
      rfl
    · cases hx
  | true =>
    obtain ⟨hlen, ok⟩ := hvi.1 rfl
    rw [if_pos rfl]
    refine apure_of (C := cx 33 [0, 2, 3, 5, 9, 11, 12, 13, 14]) (cxOk _ _) Tryz.func27 rfl (by decide) rfl (by exact Nat.le_of_ble_eq_true rfl) (by decide) ?_
    conv => whnf
    refine .one _ _ _ (fun _ => hv) (by repeat (first | exact .nil | (apply BorL.cons; first | exact lS rfl | exact lR rfl | exact lM rfl rfl | exact lL rfl | exact lX rfl | exact lN | exact lNl | exact lSm rfl | exact lIm rfl | exact lGm rfl | exact lP rfl | exact lQ rfl | exact lB rfl rfl rfl))) (by first | exact .inl rfl | exact .inr (by repeat (first | exact flats_nil | refine flats_cons (by first | exact flat_val _ rfl | exact flat_row (fun _ => rfl) | exact flat_lst (fun _ => rfl)) ?_))) (by first | exact .inr rfl | exact .inl rfl) ?_
    conv => whnf
    refine ⟨fun hx => ?_, fun hx => ?_⟩
    · cases hx
    conv => whnf
    refine loop_up (cxOk _ _) l.length (fun _ => True) (fun k => ⟨[(3, .map 0), (11, encEs l), (12, .int .i64 l.length), (13, .int .i64 (k : Nat))], [(0, .imap .i64 encI 0 (balM (l.take k)))], 1⟩) trivial ((wk_of [(0, .id 0)] rfl ⟨.base (.map _ _ rfl), .base (.tree _ _ rfl rfl), .base (.tree _ _ rfl rfl), .base (.tree _ _ rfl rfl), trivial⟩ ⟨⟨_, rfl, (by first | exact .imap _ _ _ _ _ _ rfl rfl | exact .newimap _ _ _ _ _ _ _ _ rfl rfl rfl)⟩, trivial⟩)) ?_
    intro k hk _
    conv => whnf
    refine ⟨fun hc => ?_, fun hc => ?_⟩
    · simp only [decide_eq_true_eq] at hc
      have hlt : k < l.length := by omega
      have okt : OkL (l.take k) := by
        have := ok
        rw [← List.take_append_drop k l] at this
        exact this.left
      have hb := fun a => bal_bound okt.right a
      have hbg := fun a => balM_get (l.take k) a
      have hsum := okt.sum
      have hst : balM (l.take (k + 1)) = balStep (balM (l.take k)) (l.getD k e0) := by rw [take_getD (d := e0) hlt, balM_snoc]
      unfold balStep at hst
      have hre := (rightE_iff.1 (ok.right _ (getD_mem (d := e0) hlt)))
      have hck : l.getD (k : Int).toNat e0 = l.getD k e0 := by rw [Int.toNat_natCast]
      have hbl := balM_len (l.take k)
      rw [List.length_take] at hbl
      have hf1 := hb (l.getD k e0).frm
      have hf2 := hb (l.getD k e0).to
      rw [← hbg] at hf1 hf2
      have hne := hre.2.2.2.2.1
      have hmg : mget (mset (balM (l.take k)) (l.getD k e0).frm ((mget (balM (l.take k)) (l.getD k e0).frm).getD 0 - (l.getD k e0).amt)) (l.getD k e0).to = mget (balM (l.take k)) (l.getD k e0).to := by rw [mget_mset, if_neg hne]
      have hml := mset_len (balM (l.take k)) (l.getD k e0).frm ((mget (balM (l.take k)) (l.getD k e0).frm).getD 0 - (l.getD k e0).amt)
      generalize hMn : balM (l.take (k + 1)) = M' at *
      generalize balM (l.take k) = M at *
      generalize sumA (l.take k) = s at *
      generalize l.getD k e0 = e at *
      conv => whnf
      refine And.intro ⟨by omega, by omega⟩ ?_; conv => whnf
      refine And.intro rfl ?_; conv => whnf
      refine And.intro rfl ?_; conv => whnf
      rw [hck]
      refine And.intro ⟨by omega, by omega⟩ ?_; conv => whnf
      refine Exists.intro _ (And.intro rfl ?_); conv => whnf
      refine And.intro rfl ?_; conv => whnf
      rw [hmg]
      refine And.intro (And.intro (by omega) (by omega)) ?_
      refine Exists.intro _ (And.intro rfl ?_); conv => whnf
      refine And.intro ⟨by omega, by omega⟩ ?_; conv => whnf
      refine up hlt trivial ((wk_of [(0, .id 0)] rfl ⟨.base (.map _ _ rfl), .base (.tree _ _ rfl rfl), .base (.tree _ _ rfl rfl), .base (.tree _ _ rfl rfl), trivial⟩ ⟨⟨_, rfl, (by first | exact .imap _ _ _ _ _ _ rfl (by rw [← hmg]; exact hst.symm.trans hMn.symm) | exact .newimap _ _ _ _ _ _ _ _ rfl rfl (by rw [← hmg]; exact hst.symm.trans hMn.symm))⟩, trivial⟩))
    · simp only [decide_eq_false_iff_not] at hc
      rw [List.take_of_length_le (by omega)]
      conv => whnf
      rfl

theorem balance_ok (l : List Ent) (hl : l.length ≤ 9223372036854775807) (a : Int) : APureV Tryz.prog 10 [encEs l, .int .i64 a] (.int .i64 (balO l a)) := by
  have hb := balances_ok l hl
  have hg := accM_get l a
  generalize accM l = M at *
  refine apure_of (C := cx 9 [0, 1, 4]) (cxOk _ _) Tryz.func10 rfl (by decide) rfl (by exact Nat.le_of_ble_eq_true rfl) (by decide) ?_
  conv => whnf
  refine .one _ _ _ (fun _ => hb) (by repeat (first | exact .nil | (apply BorL.cons; first | exact lS rfl | exact lR rfl | exact lM rfl rfl | exact lL rfl | exact lX rfl | exact lN | exact lNl | exact lSm rfl | exact lIm rfl | exact lGm rfl | exact lP rfl | exact lQ rfl | exact lB rfl rfl rfl))) (by first | exact .inl rfl | exact .inr (by repeat (first | exact flats_nil | refine flats_cons (by first | exact flat_val _ rfl | exact flat_row (fun _ => rfl) | exact flat_lst (fun _ => rfl)) ?_))) (by first | exact .inr rfl | exact .inl rfl) ?_
  conv => whnf
  rw [hg]
  refine And.intro rfl ?_; conv => whnf
  rfl

theorem sorts_c (m : Nat) : AnyZI.SortsIn Tryz.prog Tryz.sortedA_ren Fence.wide m :=
  ⟨fun blk off cap ss W hH hblk hsz => callsIn_wide.2 (AnyM.slices_Sort_int Tryz.sortA blk off cap ss W hH hblk hsz),
   fun p cap W => callsIn_wide.2 (AnyM.slices_Sort_int_none Tryz.sortA p cap W)⟩

theorem keys_c (id : Nat) (H : Heap) (nx : Nat) :
    CallSem Tryz.prog 26 [.map id] H nx [] (fun r => r = ⟨.fn (.func 40) [] [.ptr nx 0], [], [(nx, .cells 68 [.map id])], nx + 1⟩) :=
  keysI_sem (ρ := Tryz.keysA_ren) Tryz.keysA (fn := Tryz.f26) Tryz.func26 rfl (by decide) (.inl ⟨_, rfl⟩) H nx

theorem sorted_c {H : Heap} {nx bid id : Nat} {es : List (Int × Int)} (hbox : lkH H bid = .cells 68 [.map id]) (hid : lkH H id = .imap .i64 encI 0 es) (hwf : ∀ p ∈ es, (Lit.int .i64 p.1).wf = true) (hmax : es.length ≤ 1000000) :
    CallSem Tryz.prog 25 [.fn (.func 40) [] [.ptr bid 0]] H nx [bid, id] (fun r => r = ⟨.own nx, [bid, id], [(nx, .row 3 1 encI 0 (keysI es))], nx + 1⟩) :=
  sortedKeysI_sem (ρ := Tryz.keysA_ren) (ρs := Tryz.sortedA_ren) Tryz.keysA Tryz.sortedA sorts_c (fn6 := Tryz.f25) Tryz.func25 rfl (by decide) (enters_of Tryz.func39 (by kernel_rfl) rfl) (enters_of Tryz.func40 (by kernel_rfl) rfl) rfl (et := 3) rfl (by kernel_rfl) hbox (.inl ⟨_, rfl, rfl, hid⟩) encI 0 (fun _ => rfl) hwf hmax

theorem accM_wf (l : List Ent) : ∀ p ∈ accM l, (Lit.int .i64 p.1).wf = true := by
  intro p hp
  unfold accM at hp
  split at hp
  · rename_i hv
    have ok := (validB_iff.1 hv).2
    obtain ⟨e, he, h⟩ := (balM_key l p.1).1 (List.mem_map.2 ⟨p, hp, rfl⟩)
    have hr := rightE_iff.1 (ok.right e he)
    have e1 : IntKind.i64.min = -9223372036854775808 := by rfl
    have e2 : IntKind.i64.max = 9223372036854775807 := by rfl
    simp only [Lit.wf, e1, e2, Bool.and_eq_true, decide_eq_true_eq]
    omega
  · cases hp
theorem accM_len (l : List Ent) : (accM l).length ≤ 1000000 := by
  unfold accM
  split
  · rename_i hv
    have := (validB_iff.1 hv).1
    have := balM_len l
    omega
  · exact Nat.zero_le _

theorem accounts_ok (l : List Ent) (hl : l.length ≤ 9223372036854775807) : APure Tryz.prog 9 [encEs l] (fun rs => rs = [.new (.row 3 1 encI 0 (accL l))]) := by
  have hb := balances_ok l hl
  have hwf := accM_wf l
  have hmax := accM_len l
  unfold accL
  generalize accM l = M at *
  refine apure_of (C := cx 7 [0, 2]) (cxOk _ _) Tryz.func9 rfl (by decide) rfl (by exact Nat.le_of_ble_eq_true rfl) (by decide) ?_
  conv => whnf
  refine .one _ _ _ (fun _ => hb) (by repeat (first | exact .nil | (apply BorL.cons; first | exact lS rfl | exact lR rfl | exact lM rfl rfl | exact lL rfl | exact lX rfl | exact lN | exact lNl | exact lSm rfl | exact lIm rfl | exact lGm rfl | exact lP rfl | exact lQ rfl | exact lB rfl rfl rfl))) (by first | exact .inl rfl | exact .inr (by repeat (first | exact flats_nil | refine flats_cons (by first | exact flat_val _ rfl | exact flat_row (fun _ => rfl) | exact flat_lst (fun _ => rfl)) ?_))) (by first | exact .inr rfl | exact .inl rfl) ?_
  conv => whnf
  refine .raw _ _ rfl (fun h => by cases h) (keys_c _ _ _) ?_
  rintro r rfl
  refine ⟨Nat.le_succ _, ?_⟩
  conv => whnf
  refine .raw _ _ rfl (fun h => by cases h) (sorted_c (id := 0) (bid := 1) rfl rfl hwf hmax) ?_
  rintro r rfl
  refine ⟨Nat.le_succ _, ?_⟩
  conv => whnf
  rfl


end Go.Proofs.YtjlnaogechkjdaaGreatDoor

namespace Go.Proofs.YtjlnaogechkjdaaGreatDoor
open Go.Own
set_option maxHeartbeats 4000000
set_option maxRecDepth 100000

theorem law_explains (a b : List Ent) (fl : List Msg) (ha : a.length ≤ 9223372036854775807) (hb : b.length ≤ 9223372036854775807) (hfl : fl.length ≤ 9223372036854775807) : APureV Tryz.prog 3 [encEs a, encEs b, encMs fl] (.bool true) := by
  have f1 := few45_ok a b fl 20
  refine apure_of (C := cx 190 [0, 1, 2, 6, 7, 8, 9, 10, 11, 12, 13, 14, 15, 16, 17, 18, 19, 25, 36, 65, 69, 84, 88, 103, 107, 162, 173, 188]) (cxOk _ _) Tryz.func3 rfl (by decide) rfl (by exact Nat.le_of_ble_eq_true rfl) (by decide) ?_
  conv => whnf
  refine .one _ _ _ (fun _ => small_ok) (by repeat (first | exact .nil | (apply BorL.cons; first | exact lS rfl | exact lR rfl | exact lM rfl rfl | exact lL rfl | exact lX rfl | exact lN | exact lNl | exact lSm rfl | exact lIm rfl | exact lGm rfl | exact lP rfl | exact lQ rfl | exact lB rfl rfl rfl))) (by first | exact .inl rfl | exact .inr (by repeat (first | exact flats_nil | refine flats_cons (by first | exact flat_val _ rfl | exact flat_row (fun _ => rfl) | exact flat_lst (fun _ => rfl)) ?_))) (by first | exact .inr rfl | exact .inl rfl) ?_
  conv => whnf
  refine .one _ _ _ (fun _ => f1) (by repeat (first | exact .nil | (apply BorL.cons; first | exact lS rfl | exact lR rfl | exact lM rfl rfl | exact lL rfl | exact lX rfl | exact lN | exact lNl | exact lSm rfl | exact lIm rfl | exact lGm rfl | exact lP rfl | exact lQ rfl | exact lB rfl rfl rfl))) (by first | exact .inl rfl | exact .inr (by repeat (first | exact flats_nil | refine flats_cons (by first | exact flat_val _ rfl | exact flat_row (fun _ => rfl) | exact flat_lst (fun _ => rfl)) ?_))) (by first | exact .inr rfl | exact .inl rfl) ?_
  conv => whnf
  refine ⟨fun hc => ?_, fun hc => ?_⟩
  · conv => whnf
    rfl
  have h1 : few45 a b fl 20 = true := by simpa using hc
  unfold few45 at h1
  simp only [Bool.and_eq_true, decide_eq_true_eq] at h1
  have hla : a.length ≤ 20 := by omega
  have hlb : b.length ≤ 20 := by omega
  have cmp := compare_ok a b fl hla hlb hfl
  cases hok : okC a b fl with
  | false =>
    rw [if_neg (by rw [hok]; exact Bool.noConfusion)] at cmp
    conv => whnf
    refine .one _ _ _ (fun _ => cmp) (by repeat (first | exact .nil | (apply BorL.cons; first | exact lS rfl | exact lR rfl | exact lM rfl rfl | exact lL rfl | exact lX rfl | exact lN | exact lNl | exact lSm rfl | exact lIm rfl | exact lGm rfl | exact lP rfl | exact lQ rfl | exact lB rfl rfl rfl))) (by first | exact .inl rfl | exact .inr (by repeat (first | exact flats_nil | refine flats_cons (by first | exact flat_val _ rfl | exact flat_row (fun _ => rfl) | exact flat_lst (fun _ => rfl)) ?_))) (by first | exact .inr rfl | exact .inl rfl) ?_
    conv => whnf
    refine And.intro (fun _ => ?_) (fun h => absurd h (by decide)); conv => whnf
    rfl
  | true =>
  rw [if_pos hok] at cmp
  have cmp := cmp.freeze1
  obtain ⟨p1, p2, hx⟩ := explain hok hla hlb
  have lI : (srt (rawI a b fl)).length ≤ 40 := by
    rw [srt_len]
    unfold rawI
    rw [List.length_append]
    have := List.length_filter_le (goIn b (wayM a b 1 fl)) a
    have := List.length_filter_le (goIn a (wayM a b 0 fl)) b
    omega
  have lO : (srt (rawO a b fl)).length ≤ 40 := by
    rw [srt_len]
    unfold rawO
    rw [List.length_append]
    have := List.length_filter_le (goOut b (wayM a b 1 fl)) a
    have := List.length_filter_le (goOut a (wayM a b 0 fl)) b
    omega
  generalize srt (rawI a b fl) = I at *
  generalize srt (rawO a b fl) = O at *
  have hpa := posted_ok a I (by omega) (by omega)
  have hpb := posted_ok b I (by omega) (by omega)
  have lx := pstd_len I a
  have ly := pstd_len I b
  rw [p1] at hpa
  rw [p2] at hpb
  generalize (pstd a I).1 = x at *
  generalize (pstd b I).1 = y at *
  have hhx := fun e => has_ok x e (by omega)
  have hhy := fun e => has_ok y e (by omega)
  have hhO := fun e => has_ok O e (by omega)
  have hhI := fun e => has_ok I e (by omega)
  have hacc := accounts_ok x (by omega)
  have lacc := accL_len x
  have hbx := fun n => balance_ok x (by omega) n
  have hby := fun n => balance_ok y (by omega) n
  conv => whnf
  refine .one _ _ _ (fun _ => cmp) (by repeat (first | exact .nil | (apply BorL.cons; first | exact lS rfl | exact lR rfl | exact lM rfl rfl | exact lL rfl | exact lX rfl | exact lN | exact lNl | exact lSm rfl | exact lIm rfl | exact lGm rfl | exact lP rfl | exact lQ rfl | exact lB rfl rfl rfl))) (by first | exact .inl rfl | exact .inr (by repeat (first | exact flats_nil | refine flats_cons (by first | exact flat_val _ rfl | exact flat_row (fun _ => rfl) | exact flat_lst (fun _ => rfl)) ?_))) (by first | exact .inr rfl | exact .inl rfl) ?_
  conv => whnf
  refine And.intro (fun h => absurd h (by decide)) (fun _ => ?_); conv => whnf
  refine .one _ _ _ (fun _ => hpa) (by repeat (first | exact .nil | (apply BorL.cons; first | exact lS rfl | exact lR rfl | exact lM rfl rfl | exact lL rfl | exact lX rfl | exact lN | exact lNl | exact lSm rfl | exact lIm rfl | exact lGm rfl | exact lP rfl | exact lQ rfl | exact lB rfl rfl rfl))) (by first | exact .inl rfl | exact .inr (by repeat (first | exact flats_nil | refine flats_cons (by first | exact flat_val _ rfl | exact flat_row (fun _ => rfl) | exact flat_lst (fun _ => rfl)) ?_))) (by first | exact .inr rfl | exact .inl rfl) ?_
  conv => whnf
  refine .one _ _ _ (fun _ => hpb) (by repeat (first | exact .nil | (apply BorL.cons; first | exact lS rfl | exact lR rfl | exact lM rfl rfl | exact lL rfl | exact lX rfl | exact lN | exact lNl | exact lSm rfl | exact lIm rfl | exact lGm rfl | exact lP rfl | exact lQ rfl | exact lB rfl rfl rfl))) (by first | exact .inl rfl | exact .inr (by repeat (first | exact flats_nil | refine flats_cons (by first | exact flat_val _ rfl | exact flat_row (fun _ => rfl) | exact flat_lst (fun _ => rfl)) ?_))) (by first | exact .inr rfl | exact .inl rfl) ?_
  conv => whnf
  refine And.intro (fun h => absurd h (by decide)) (fun _ => ?_); conv => whnf
  refine loop_up (cxOk _ _) x.length (fun _ => True) (fun i => ⟨[(7, .bool true), (8, encEs I), (9, encEs O), (11, encEs x), (13, encEs y), (15, .int .i64 (i : Nat))], [], 0⟩) trivial ((wk_of [] rfl ⟨.base (.tree _ _ rfl rfl), .base (.tree _ _ rfl rfl), .base (.tree _ _ rfl rfl), .base (.tree _ _ rfl rfl), .base (.tree _ _ rfl rfl), .base (.tree _ _ rfl rfl), trivial⟩ trivial)) ?_
  intro i hi _
  conv => whnf
  refine ⟨fun hc1 => ?_, fun hc1 => ?_⟩
  · simp only [decide_eq_true_eq] at hc1
    have hlt : i < x.length := by omega
    have hck : x.getD (i : Int).toNat e0 = x.getD i e0 := by rw [Int.toNat_natCast]
    have hne := hx.fx _ (getD_mem (d := e0) hlt)
    conv => whnf
    refine .quiet (by kernel_rfl) ?_; conv => whnf
    refine And.intro ⟨by omega, by omega⟩ ?_; conv => whnf
    refine And.intro rfl ?_; conv => whnf
    rw [hck]
    refine .mk _ _ _ _ (fun _ => hhy (x.getD i e0)) (by repeat (first | exact .nil | (apply BorL.cons; first | exact lS rfl | exact lR rfl | exact lM rfl rfl | exact lL rfl | exact lX rfl | exact lN | exact lNl | exact lSm rfl | exact lIm rfl | exact lGm rfl | exact lP rfl | exact lQ rfl | exact lB rfl rfl rfl))) rfl ?_
    conv => whnf
    refine And.intro ⟨by omega, by omega⟩ ?_; conv => whnf
    refine And.intro rfl ?_; conv => whnf
    rw [hck]
    refine .mk _ _ _ _ (fun _ => hhO (x.getD i e0)) (by repeat (first | exact .nil | (apply BorL.cons; first | exact lS rfl | exact lR rfl | exact lM rfl rfl | exact lL rfl | exact lX rfl | exact lN | exact lNl | exact lSm rfl | exact lIm rfl | exact lGm rfl | exact lP rfl | exact lQ rfl | exact lB rfl rfl rfl))) rfl ?_
    conv => whnf
    refine ⟨fun hd => ?_, fun hd => ?_⟩
    · exact absurd (by simpa using hd) hne
    conv => whnf
    refine And.intro ⟨by omega, by omega⟩ ?_; conv => whnf
    refine up hlt trivial ((wk_of [] rfl ⟨.base (.tree _ _ rfl rfl), .base (.tree _ _ rfl rfl), .base (.tree _ _ rfl rfl), .base (.tree _ _ rfl rfl), .base (.tree _ _ rfl rfl), .base (.tree _ _ rfl rfl), trivial⟩ trivial))
  simp only [decide_eq_false_iff_not] at hc1
  conv => whnf
  refine loop_up (cxOk _ _) y.length (fun _ => True) (fun i => ⟨[(7, .bool true), (8, encEs I), (9, encEs O), (11, encEs x), (13, encEs y), (16, .int .i64 (i : Nat))], [], 0⟩) trivial ((wk_of [] rfl ⟨.base (.tree _ _ rfl rfl), .base (.tree _ _ rfl rfl), .base (.tree _ _ rfl rfl), .base (.tree _ _ rfl rfl), .base (.tree _ _ rfl rfl), .base (.tree _ _ rfl rfl), trivial⟩ trivial)) ?_
  intro i hi _
  conv => whnf
  refine ⟨fun hc2 => ?_, fun hc2 => ?_⟩
  · simp only [decide_eq_true_eq] at hc2
    have hlt : i < y.length := by omega
    have hck : y.getD (i : Int).toNat e0 = y.getD i e0 := by rw [Int.toNat_natCast]
    have hne := hx.fy _ (getD_mem (d := e0) hlt)
    conv => whnf
    refine .quiet (by kernel_rfl) ?_; conv => whnf
    refine And.intro ⟨by omega, by omega⟩ ?_; conv => whnf
    refine And.intro rfl ?_; conv => whnf
    rw [hck]
    refine .mk _ _ _ _ (fun _ => hhx (y.getD i e0)) (by repeat (first | exact .nil | (apply BorL.cons; first | exact lS rfl | exact lR rfl | exact lM rfl rfl | exact lL rfl | exact lX rfl | exact lN | exact lNl | exact lSm rfl | exact lIm rfl | exact lGm rfl | exact lP rfl | exact lQ rfl | exact lB rfl rfl rfl))) rfl ?_
    conv => whnf
    refine And.intro ⟨by omega, by omega⟩ ?_; conv => whnf
    refine And.intro rfl ?_; conv => whnf
    rw [hck]
    refine .mk _ _ _ _ (fun _ => hhO (y.getD i e0)) (by repeat (first | exact .nil | (apply BorL.cons; first | exact lS rfl | exact lR rfl | exact lM rfl rfl | exact lL rfl | exact lX rfl | exact lN | exact lNl | exact lSm rfl | exact lIm rfl | exact lGm rfl | exact lP rfl | exact lQ rfl | exact lB rfl rfl rfl))) rfl ?_
    conv => whnf
    refine ⟨fun hd => ?_, fun hd => ?_⟩
    · exact absurd (by simpa using hd) hne
    conv => whnf
    refine And.intro ⟨by omega, by omega⟩ ?_; conv => whnf
    refine up hlt trivial ((wk_of [] rfl ⟨.base (.tree _ _ rfl rfl), .base (.tree _ _ rfl rfl), .base (.tree _ _ rfl rfl), .base (.tree _ _ rfl rfl), .base (.tree _ _ rfl rfl), .base (.tree _ _ rfl rfl), trivial⟩ trivial))
  simp only [decide_eq_false_iff_not] at hc2
  conv => whnf
  refine loop_up (cxOk _ _) O.length (fun _ => True) (fun i => ⟨[(7, .bool true), (8, encEs I), (9, encEs O), (11, encEs x), (13, encEs y), (17, .int .i64 (i : Nat))], [], 0⟩) trivial ((wk_of [] rfl ⟨.base (.tree _ _ rfl rfl), .base (.tree _ _ rfl rfl), .base (.tree _ _ rfl rfl), .base (.tree _ _ rfl rfl), .base (.tree _ _ rfl rfl), .base (.tree _ _ rfl rfl), trivial⟩ trivial)) ?_
  intro i hi _
  conv => whnf
  refine ⟨fun hc3 => ?_, fun hc3 => ?_⟩
  · simp only [decide_eq_true_eq] at hc3
    have hlt : i < O.length := by omega
    have hck : O.getD (i : Int).toNat e0 = O.getD i e0 := by rw [Int.toNat_natCast]
    have hm : O.getD i e0 ∈ O := getD_mem hlt
    have g1 := hx.own _ hm
    have g2 := hx.no _ hm
    have g3 := hx.once i hlt
    have hpre := has_ok (O.take (i : Int).toNat) (O.getD i e0) (by rw [List.length_take]; omega)
    rw [show O.take i = O.take (i : Int).toNat by rw [Int.toNat_natCast]] at g3
    rw [g3] at hpre
    conv => whnf
    refine .quiet (by kernel_rfl) ?_; conv => whnf
    refine And.intro ⟨by omega, by omega⟩ ?_; conv => whnf
    refine And.intro rfl ?_; conv => whnf
    rw [hck]
    refine .mk _ _ _ _ (fun _ => hhx (O.getD i e0)) (by repeat (first | exact .nil | (apply BorL.cons; first | exact lS rfl | exact lR rfl | exact lM rfl rfl | exact lL rfl | exact lX rfl | exact lN | exact lNl | exact lSm rfl | exact lIm rfl | exact lGm rfl | exact lP rfl | exact lQ rfl | exact lB rfl rfl rfl))) rfl ?_
    conv => whnf
    refine And.intro (by omega) (And.intro rfl ?_); conv => whnf
    rw [hck]
    refine .mk _ _ _ _ (fun _ => hhy (O.getD i e0)) (by repeat (first | exact .nil | (apply BorL.cons; first | exact lS rfl | exact lR rfl | exact lM rfl rfl | exact lL rfl | exact lX rfl | exact lN | exact lNl | exact lSm rfl | exact lIm rfl | exact lGm rfl | exact lP rfl | exact lQ rfl | exact lB rfl rfl rfl))) rfl ?_
    conv => whnf
    refine And.intro (by omega) (And.intro rfl ?_); conv => whnf
    rw [hck]
    refine .mk _ _ _ _ (fun _ => hhI (O.getD i e0)) (by repeat (first | exact .nil | (apply BorL.cons; first | exact lS rfl | exact lR rfl | exact lM rfl rfl | exact lL rfl | exact lX rfl | exact lN | exact lNl | exact lSm rfl | exact lIm rfl | exact lGm rfl | exact lP rfl | exact lQ rfl | exact lB rfl rfl rfl))) rfl ?_
    conv => whnf
    refine And.intro (by omega) (And.intro rfl ?_); conv => whnf
    refine And.intro (by omega) (And.intro rfl ?_); conv => whnf
    rw [hck]
    refine .mk _ _ _ _ (fun _ => hpre) (by repeat (first | exact .nil | (apply BorL.cons; first | exact lS rfl | exact lR rfl | exact lM rfl rfl | exact lL rfl | exact lX rfl | exact lN | exact lNl | exact lSm rfl | exact lIm rfl | exact lGm rfl | exact lP rfl | exact lQ rfl | exact lB rfl rfl rfl))) rfl ?_
    conv => whnf
    refine And.intro (by omega) (And.intro rfl ?_); conv => whnf
    refine And.intro (fun _ => ⟨by omega, by omega⟩) ?_; conv => whnf
    refine And.intro (by omega) (And.intro rfl ?_); conv => whnf
    rw [hck]
    refine ⟨fun hd => ?_, fun hd => ?_⟩
    · exfalso
      rw [Bool.or_eq_true, Bool.or_false, g2, Bool.or_false] at hd
      rcases hd with h | h
      · rw [← Bool.not_or, g1] at h
        exact Bool.noConfusion h
      · rw [Bool.and_eq_true, decide_eq_true_eq, decide_eq_true_eq] at h
        have e1 : (max ((i : Int) - 1) 0).toNat = i - 1 := by omega
        rw [e1] at h
        have := hx.asc (i - 1) i (by omega) hlt
        omega
    conv => whnf
    refine And.intro ⟨by omega, by omega⟩ ?_; conv => whnf
    refine up hlt trivial ((wk_of [] rfl ⟨.base (.tree _ _ rfl rfl), .base (.tree _ _ rfl rfl), .base (.tree _ _ rfl rfl), .base (.tree _ _ rfl rfl), .base (.tree _ _ rfl rfl), .base (.tree _ _ rfl rfl), trivial⟩ trivial))
  simp only [decide_eq_false_iff_not] at hc3
  conv => whnf
  refine .one _ _ _ (fun _ => hacc) (by repeat (first | exact .nil | (apply BorL.cons; first | exact lS rfl | exact lR rfl | exact lM rfl rfl | exact lL rfl | exact lX rfl | exact lN | exact lNl | exact lSm rfl | exact lIm rfl | exact lGm rfl | exact lP rfl | exact lQ rfl | exact lB rfl rfl rfl))) (by first | exact .inl rfl | exact .inr (by repeat (first | exact flats_nil | refine flats_cons (by first | exact flat_val _ rfl | exact flat_row (fun _ => rfl) | exact flat_lst (fun _ => rfl)) ?_))) (by first | exact .inr rfl | exact .inl rfl) ?_
  conv => whnf
  refine loop_up (cxOk _ _) (accL x).length (fun _ => True) (fun i => ⟨[(7, .bool true), (9, encEs O), (11, encEs x), (13, encEs y), (18, .own 0), (19, .int .i64 (i : Nat))], [(0, .row 3 1 encI 0 (accL x))], 1⟩) trivial ((wk_of [(0, .id 0)] rfl ⟨.base (.tree _ _ rfl rfl), .base (.tree _ _ rfl rfl), .base (.tree _ _ rfl rfl), .base (.tree _ _ rfl rfl), (by first | exact .base (.own _ _ rfl) | exact .base (.nilown _ rfl) | exact .base (.trunc _ _ _ rfl)), .base (.tree _ _ rfl rfl), trivial⟩ ⟨⟨_, rfl, (by first | exact .row _ _ _ _ _ _ _ rfl rfl | exact .lstrow _ _ _ _ _ _ _ rfl rfl | exact .nilrow _ _ _ _ _ rfl | exact .truncrow _ _ _ _ _ _ _ _ rfl (by omega) rfl)⟩, trivial⟩)) ?_
  intro i hi _
  conv => whnf
  refine ⟨fun hc4 => ?_, fun hc4 => ?_⟩
  · simp only [Bool.and_eq_true, decide_eq_true_eq] at hc4
    have hlt : i < (accL x).length := by omega
    have hO : O = [] := List.eq_nil_of_length_eq_zero (by omega)
    have hb2 := hx.bal hO
    conv => whnf
    refine .quiet (by kernel_rfl) ?_; conv => whnf
    refine And.intro ⟨by omega, by omega⟩ ?_; conv => whnf
    refine And.intro (by omega) (And.intro rfl ?_); conv => whnf
    refine .mk _ _ _ _ (fun _ => hbx ((accL x).getD (i : Int).toNat 0)) (by repeat (first | exact .nil | (apply BorL.cons; first | exact lS rfl | exact lR rfl | exact lM rfl rfl | exact lL rfl | exact lX rfl | exact lN | exact lNl | exact lSm rfl | exact lIm rfl | exact lGm rfl | exact lP rfl | exact lQ rfl | exact lB rfl rfl rfl))) rfl ?_
    conv => whnf
    refine And.intro ⟨by omega, by omega⟩ ?_; conv => whnf
    refine And.intro (by omega) (And.intro rfl ?_); conv => whnf
    refine .mk _ _ _ _ (fun _ => hby ((accL x).getD (i : Int).toNat 0)) (by repeat (first | exact .nil | (apply BorL.cons; first | exact lS rfl | exact lR rfl | exact lM rfl rfl | exact lL rfl | exact lX rfl | exact lN | exact lNl | exact lSm rfl | exact lIm rfl | exact lGm rfl | exact lP rfl | exact lQ rfl | exact lB rfl rfl rfl))) rfl ?_
    conv => whnf
    rw [hb2, decide_eq_true rfl]
    refine And.intro (fun h => absurd h (by decide)) (fun _ => ?_); conv => whnf
    refine And.intro ⟨by omega, by omega⟩ ?_; conv => whnf
    refine up hlt trivial ((wk_of [(0, .id 0)] rfl ⟨.base (.tree _ _ rfl rfl), .base (.tree _ _ rfl rfl), .base (.tree _ _ rfl rfl), .base (.tree _ _ rfl rfl), (by first | exact .base (.own _ _ rfl) | exact .base (.nilown _ rfl) | exact .base (.trunc _ _ _ rfl)), .base (.tree _ _ rfl rfl), trivial⟩ ⟨⟨_, rfl, (by first | exact .row _ _ _ _ _ _ _ rfl rfl | exact .lstrow _ _ _ _ _ _ _ rfl rfl | exact .nilrow _ _ _ _ _ rfl | exact .truncrow _ _ _ _ _ _ _ _ rfl (by omega) rfl)⟩, trivial⟩))
  · conv => whnf
    rfl

end Go.Proofs.YtjlnaogechkjdaaGreatDoor

/-
  What the rows of the layer agree share: how parameters are opened, and a world in which the listed tables lie.
-/
namespace Go.Proofs.YtjlnaogechkjdaaGreatDoor
open Go.ChangeShapes Go.WideShapes Go.RowKit Go.Own

theorem Tryz.own : ownKnob Tryz.prog.godebug = none := by kernel_rfl
theorem Tryz.laidOut : laidOutB Tryz.prog = true := by kernel_rfl
theorem undBool : Tryz.prog.underlying 4 = some .bool := by kernel_rfl
theorem und3' : Tryz.prog.underlying 3 = some (.int .i64) := by kernel_rfl
theorem und22' : Tryz.prog.underlying 22 = some (.slice 33) := by kernel_rfl
def fieldsE' : Array Field := #[{ name := "Id", type := 3, offset := 0, embedded := false, tag := "", pkgPath := "", byteOffset := 0 }, { name := "Day", type := 3, offset := 1, embedded := false, tag := "", pkgPath := "", byteOffset := 8 }, { name := "From", type := 3, offset := 2, embedded := false, tag := "", pkgPath := "", byteOffset := 16 }, { name := "To", type := 3, offset := 3, embedded := false, tag := "", pkgPath := "", byteOffset := 24 }, { name := "Amount", type := 3, offset := 4, embedded := false, tag := "", pkgPath := "", byteOffset := 32 }]
theorem und48' : Tryz.prog.underlying 33 = some (.struct fieldsE') := by kernel_rfl
theorem in64_of {n : Int} (h : IntKind.i64.min ≤ n ∧ n ≤ IntKind.i64.max) : in64 n := by
  have e1 : IntKind.i64.min = -9223372036854775808 := by rfl
  have e2 : IntKind.i64.max = 9223372036854775807 := by rfl
  rw [e1, e2] at h
  exact h
abbrev rInt : List AV → Prop := fun l => ∃ n, (IntKind.i64.min ≤ n ∧ n ≤ IntKind.i64.max) ∧ l = [.int .i64 n]
theorem oInt : OpensR Tryz.prog 3 1 rInt := opensR_int und3' (by kernel_rfl)
theorem oEnt : OpensR Tryz.prog 33 5 (StrR [(1, rInt), (1, rInt), (1, rInt), (1, rInt), (1, rInt)]) :=
  opensR_struct und48' (by kernel_rfl) ⟨rfl, oInt, rfl, oInt, rfl, oInt, rfl, oInt, rfl, oInt, rfl⟩
def in64E (e : Ent) : Prop := ((in64 e.id ∧ in64 e.day) ∧ in64 e.frm ∧ in64 e.to) ∧ in64 e.amt
theorem oEnts : OpensR Tryz.prog 22 1 (fun l => ∃ xs : List Ent, (∀ a ∈ xs, in64E a) ∧ xs.length ≤ 9223372036854775807 ∧ l = [.sl 5 encE e0 xs]) :=
  opensR_slice e0 und22' (by kernel_rfl) oEnt (by decide) (fun l hl => by
    obtain ⟨_, _, ⟨n0, h0, rfl⟩, ⟨_, _, ⟨n1, h1, rfl⟩, ⟨_, _, ⟨n2, h2, rfl⟩, ⟨_, _, ⟨n3, h3, rfl⟩, ⟨_, _, ⟨n4, h4, rfl⟩, rfl, rfl⟩, rfl⟩, rfl⟩, rfl⟩, rfl⟩ := hl
    exact ⟨⟨n0, n1, n2, n3, n4⟩, ⟨⟨⟨in64_of h0, in64_of h1⟩, in64_of h2, in64_of h3⟩, in64_of h4⟩, rfl⟩) (fun _ => rfl)
theorem vEnts : OpV Tryz.prog 22 (fun a => ∃ l : List Ent, (∀ x ∈ l, in64E x) ∧ l.length ≤ 9223372036854775807 ∧ a = encEs l) :=
  OpV.mono (opV_slice (R := fun a => ∃ xs : List Ent, (∀ x ∈ xs, in64E x) ∧ xs.length ≤ 9223372036854775807 ∧ a = .sl 5 encE e0 xs) und22' (oEnts.mono fun _ ⟨xs, h1, h2, h3⟩ => ⟨_, ⟨xs, h1, h2, rfl⟩, h3⟩)) fun _ ⟨xs, h1, h2, h3⟩ => ⟨xs, h1, h2, h3⟩
abbrev rStr : List AV → Prop := fun l => ∃ s : List UInt8, s.length ≤ 9223372036854775807 ∧ l = [.str s]
theorem und23' : Tryz.prog.underlying 23 = some (.slice 41) := by kernel_rfl
def fieldsM' : Array Field := #[{ name := "From", type := 3, offset := 0, embedded := false, tag := "", pkgPath := "", byteOffset := 0 }, { name := "To", type := 3, offset := 1, embedded := false, tag := "", pkgPath := "", byteOffset := 8 }, { name := "Seq", type := 3, offset := 2, embedded := false, tag := "", pkgPath := "", byteOffset := 16 }, { name := "Entry", type := 3, offset := 3, embedded := false, tag := "", pkgPath := "", byteOffset := 24 }]
theorem und54' : Tryz.prog.underlying 41 = some (.struct fieldsM') := by kernel_rfl
instance : Inhabited Seal := ⟨s0⟩
theorem oMsg : OpensR Tryz.prog 41 4 (StrR [(1, rInt), (1, rInt), (1, rInt), (1, rInt)]) := opensR_struct und54' (by kernel_rfl) ⟨rfl, oInt, rfl, oInt, rfl, oInt, rfl, oInt, rfl⟩
def in64M (m : Msg) : Prop := (in64 m.frm ∧ in64 m.to) ∧ in64 m.seq ∧ in64 m.entry
theorem oMsgs : OpensR Tryz.prog 23 1 (fun l => ∃ xs : List Msg, (∀ a ∈ xs, in64M a) ∧ xs.length ≤ 9223372036854775807 ∧ l = [.sl 4 encM m0 xs]) :=
  opensR_slice m0 und23' (by kernel_rfl) oMsg (by decide) (fun l hl => by
    obtain ⟨_, _, ⟨n0, h0, rfl⟩, ⟨_, _, ⟨n1, h1, rfl⟩, ⟨_, _, ⟨n2, h2, rfl⟩, ⟨_, _, ⟨n3, h3, rfl⟩, rfl, rfl⟩, rfl⟩, rfl⟩, rfl⟩ := hl
    exact ⟨⟨n0, n1, n2, n3⟩, ⟨⟨in64_of h0, in64_of h1⟩, in64_of h2, in64_of h3⟩, rfl⟩) (fun _ => rfl)
theorem vMsgs : OpV Tryz.prog 23 (fun a => ∃ l : List Msg, (∀ x ∈ l, in64M x) ∧ l.length ≤ 9223372036854775807 ∧ a = encMs l) :=
  OpV.mono (opV_slice (R := fun a => ∃ xs : List Msg, (∀ x ∈ xs, in64M x) ∧ xs.length ≤ 9223372036854775807 ∧ a = .sl 4 encM m0 xs) und23' (oMsgs.mono fun _ ⟨xs, h1, h2, h3⟩ => ⟨_, ⟨xs, h1, h2, rfl⟩, h3⟩)) fun _ ⟨xs, h1, h2, h3⟩ => ⟨xs, h1, h2, h3⟩
/-! ### The listed variables -/
abbrev laidL : List (String × DataW Unit) := Rows.agreeExplainsRow.laid
noncomputable def laidWorld (os : Os) : World := World.laidAll Tryz.prog os laidL
theorem laid_met (os : Os) (args : Array Value) : laidMet Tryz.prog laidL ((laidWorld os).forCall (fun _ _ => 0) ⟨#[], args, []⟩).memory :=
  laidMet_laidAll args (by kernel_rfl) (by kernel_rfl)
theorem var_block {P : Program} {w : World} {n : String} {g : Nat} {cs : Array Value} (hg : P.globalNamed n = some g) (h : w.var? P n = some cs) : ∃ e fz, w.heap[g]? = some (.cells cs e fz) := by
  unfold World.var? at h
  rw [hg] at h
  simp only [Option.bind_some] at h
  split at h
  · rename_i c e fz hh
    cases h
    exact ⟨_, _, hh⟩
  · cases h
theorem laid_tabs (W : World) (h : laidMet Tryz.prog laidL W) : TabAt (All W) W := by
  obtain ⟨ps, ⟨g1, t1, c1, f1, p1, q1, hg1, ht1, hv1, hd1, ⟨g2, t2, c2, f2, p2, q2, hg2, ht2, hv2, hd2, ⟨g3, t3, c3, f3, p3, q3, hg3, ht3, hv3, hd3, ⟨g4, t4, c4, f4, p4, q4, hg4, ht4, hv4, hd4, ⟨g5, t5, c5, f5, p5, q5, hg5, ht5, hv5, hd5, hnil, e5⟩, e4⟩, e3⟩, e2⟩, e1⟩, _, _⟩ := h
  have k3 : Tryz.prog.globalNamed "internal/strconv.uint64pow10" = some 0 := by kernel_rfl
  have k5 : Tryz.prog.globalNamed "strconv.ErrSyntax" = some 2 := by kernel_rfl
  have k4 : Tryz.prog.globalNamed "strconv.ErrRange" = some 3 := by kernel_rfl
  obtain ⟨b3, z3, h3⟩ := var_block k3 hv3
  obtain ⟨b4, z4, h4⟩ := var_block k4 hv4
  obtain ⟨b5, z5, h5⟩ := var_block k5 hv5
  obtain rfl := Option.some.inj (k3.symm.trans hg3)
  obtain rfl := Option.some.inj (k4.symm.trans hg4)
  obtain rfl := Option.some.inj (k5.symm.trans hg5)
  have T3 : (Tryz.prog.globals[0]?).map (·.type) = some t3 := ht3
  have T4 : (Tryz.prog.globals[3]?).map (·.type) = some t4 := ht4
  have T5 : (Tryz.prog.globals[2]?).map (·.type) = some t5 := ht5
  have err : ∀ {t : Nat} {cs : Array Value} {fuel : Nat} {nm : String} {d : DataW Unit} {p : List MemPlace} {g : Nat}, (Tryz.prog.globals[g]?).map (·.type) = some t → (g = 2 ∨ g = 3) → DataW.trod (fun _ => ()) Tryz.prog W 0 (fun _ => true) false fuel t cs.toList = some (.iface nm d, p) → isErr cs := by
    intro t cs fuel nm d p g hT hg hd
    have hu : ∃ ms, Tryz.prog.underlying t = some (.interface ms) := by
      rcases hg with rfl | rfl
      · obtain rfl := Option.some.inj ((show (Tryz.prog.globals[2]?).map (·.type) = some 116 by kernel_rfl).symm.trans hT)
        exact ⟨#[("Error", 158)], by kernel_rfl⟩
      · obtain rfl := Option.some.inj ((show (Tryz.prog.globals[3]?).map (·.type) = some 116 by kernel_rfl).symm.trans hT)
        exact ⟨#[("Error", 158)], by kernel_rfl⟩
    obtain ⟨ms, hu⟩ := hu
    obtain ⟨_, u, v, hcs, _⟩ := iface_of_trod hu hd
    refine ⟨u, v, ?_⟩
    rw [← Array.getElem?_toList, hcs]
    rfl
  have i4 := err T4 (.inr rfl) hd4
  have i5 := err T5 (.inl rfl) hd5
  have lt : ∀ {g : Nat} {o : Obj}, W.heap[g]? = some o → g < W.heap.size := fun h => (Array.getElem?_eq_some_iff.1 h).1
  intro g Q hQ
  match g, hQ with
  | 0, hQ =>
    cases hQ
    refine ⟨lt h3, c3, b3, z3, h3, ?_⟩
    obtain rfl := Option.some.inj ((show (Tryz.prog.globals[0]?).map (·.type) = some 142 by kernel_rfl).symm.trans T3)
    have := Lib.cells_of_tab (k := .u64) (zs := Lib.pow10Tab) (n := 20) (e := 113) (by kernel_rfl) (by kernel_rfl) (by kernel_rfl) (by kernel_rfl) (show _ = some (Lib.tabData .u64 Lib.pow10Tab, p3) from hd3)
    show c3 = _
    rw [← this]
  | 2, hQ =>
    cases hQ
    exact ⟨lt h5, c5, b5, z5, h5, i5⟩
  | 3, hQ =>
    cases hQ
    exact ⟨lt h4, c4, b4, z4, h4, i4⟩

end Go.Proofs.YtjlnaogechkjdaaGreatDoor
