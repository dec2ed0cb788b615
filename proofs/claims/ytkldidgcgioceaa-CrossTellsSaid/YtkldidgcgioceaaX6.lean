import Derived.Test.YtkldidgcgioceaaX4
import Derived.Test.YtkldidgcgioceaaX5
namespace Go.Proofs.Ytkldidgcgioceaa
open Go.Own Go.Proofs
set_option maxHeartbeats 2000000
set_option maxRecDepth 100000

theorem sort_c {H : Heap} {nx id : Nat} {xs : List Int} (hid : lkH H id = .row 3 1 encI 0 xs) (hmax : xs.length ≤ 1000000) : CallSem Try.prog 21 [.own id] H nx [id] (fun r => r = ⟨.tup [], [id], [(id, .row 3 1 encI 0 (xs.mergeSort leZ))], nx⟩) :=
  sortI_sem (ρ := Try.sortA_ren) Try.sortA ⟨Try.f21, Try.func21, rfl, by decide⟩ (fun _ => rfl) hid hmax
theorem compact_c {H : Heap} {nx id : Nat} {xs : List Int} (hid : lkH H id = .row 3 1 encI 0 xs) (hmax : xs.length ≤ 1000000) : CallSem Try.prog 22 [.own id] H nx [id] (fun r => r = ⟨.pre id (Go.Lib.compact xs).length, [id], [(id, .row 3 1 encI 0 (Go.Lib.compact xs ++ List.replicate (xs.length - (Go.Lib.compact xs).length) 0))], nx⟩) :=
  compactI_sem (ρ := Try.compactA_ren) Try.compactA ⟨Try.f22, Try.func22, rfl, by decide⟩ (fun _ => rfl) hid hmax

/-- The days of those that were accelerated by themselves. -/
def fasts (l : List Debt) : List Int := (l.map (·.fast)).filter (fun x => decide (0 ≤ x))
def daysL (l : List Debt) : List Int := Go.Lib.compact ((fasts l).mergeSort leZ)
def foundL (l : List Debt) : Fnd := (daysL l).foldl (fun es day => spreadL l day es) []
/-- What was found, by the issues. -/
def outL (es : Fnd) (n : Nat) : List Cau := (List.range n).filterMap (fun i : Nat => mget es (i : Int))
def closeL (l : List Debt) : List Cau := outL (foundL l) l.length

theorem outL_succ (es : Fnd) (n : Nat) : outL es (n + 1) = outL es n ++ (mget es (n : Int)).toList := by
  unfold outL
  rw [List.range_succ, List.filterMap_append]
  cases h : mget es (n : Int) <;> simp [h]
theorem foundTo_okF {l : List Debt} : ∀ (ds : List Int) (es : Fnd), okF l es → okF l (ds.foldl (fun es day => spreadL l day es) es)
  | [], _, h => h
  | d :: ds, es, h => foundTo_okF ds _ (spread_okF h)

theorem close_ok (l : List Debt) (hl : l.length ≤ 400) : APure Try.prog 9 [encDs l] (fun rs => rs = if rightB l = true then [.new (.row 35 4 encC c0 (closeL l)), .val (.int .i64 0)] else [.val .nils, .val (.int .i64 1)]) := by
  refine apure_of (C := cx 65 [0, 2, 3, 4, 6, 7, 9, 10, 11, 12, 13, 16, 17, 18, 19, 20, 25, 36, 37, 38, 39, 48, 49, 50, 58]) (cxOk _ _) Try.func9 rfl (by decide) rfl (by exact Nat.le_of_ble_eq_true rfl) (by decide) ?_
  conv => whnf
  refine .one _ _ _ (fun _ => right_ok l (by omega)) (by repeat (first | exact .nil | (apply BorL.cons; first | exact lS rfl | exact lR rfl | exact lM rfl rfl | exact lL rfl | exact lX rfl | exact lN | exact lNl | exact lSm rfl | exact lIm rfl | exact lP rfl | exact lQ rfl))) (by first | exact .inl rfl | exact .inr (by repeat (first | exact flats_nil | refine flats_cons (by first | exact flat_val _ rfl | exact flat_row (fun _ => rfl) | exact flat_lst (fun _ => rfl)) ?_))) (by first | exact .inl rfl | exact .inr rfl) ?_
  conv => whnf
  cases hR : rightB l with
  | false =>
    refine ⟨fun hx => ?_, fun hx => ?_⟩
    · conv => whnf
      rfl
    · cases hx
  | true =>
    refine ⟨fun hx => ?_, fun hx => ?_⟩
    · cases hx
    conv => whnf
    refine loop_up (cxOk _ _) l.length (fun k => True) (fun k => ⟨[(0, encDs l), (4, .own 0), (17, encDs l), (18, .int .i64 l.length), (19, .int .i64 (k : Nat))], [(0, .row 3 1 encI 0 (fasts (l.take k)))], 1⟩) trivial ((wk_of [(0, .nil)] rfl ⟨.base (.tree _ _ rfl rfl), (by first | exact .base (.own _ _ rfl) | exact .base (.nilown _ rfl) | exact .base (.trunc _ _ _ rfl)), .base (.tree _ _ rfl rfl), .base (.tree _ _ rfl rfl), .base (.tree _ _ rfl rfl), trivial⟩ ⟨⟨_, rfl, (by first | exact .row _ _ _ _ _ _ _ rfl rfl | exact .lstrow _ _ _ _ _ _ _ rfl rfl | exact .nilrow _ _ _ _ _ rfl | exact .truncrow _ _ _ _ _ _ _ _ rfl (by omega) rfl)⟩, trivial⟩)) ?_
    intro k hk _
    conv => whnf
    refine ⟨fun hc1 => ?_, fun hc1 => ?_⟩
    · simp only [decide_eq_true_eq] at hc1
      have hlt : k < l.length := by omega
      have hlk : l.getD (k : Int).toNat d0 = l.getD k d0 := by rw [Int.toNat_natCast]
      have hS : fasts (l.take (k + 1)) = if 0 ≤ (l.getD k d0).fast then fasts (l.take k) ++ [(l.getD k d0).fast] else fasts (l.take k) := by
        unfold fasts
        rw [take_getD (d := d0) hlt, List.map_append, List.filter_append]
        show _ ++ List.filter _ [(l.getD k d0).fast] = _
        generalize (l.getD k d0).fast = f
        by_cases h : 0 ≤ f
        · rw [if_pos h, List.filter_cons_of_pos (by simpa using h)]
          rfl
        · rw [if_neg h, List.filter_cons_of_neg (by simpa using h)]
          simp
      have hFl : (fasts (l.take k)).length ≤ 400 := by
        unfold fasts
        refine Nat.le_trans (List.length_filter_le _ _) ?_
        rw [List.length_map, List.length_take]
        omega
      generalize hF' : fasts (l.take (k + 1)) = F' at *
      generalize fasts (l.take k) = F at *
      conv => whnf
      repeat (first | (refine And.intro ⟨by omega, by omega⟩ ?_; conv => whnf) | (refine And.intro (by omega) (And.intro rfl ?_); conv => whnf) | (refine And.intro rfl ?_; conv => whnf) | (refine And.intro (fun _ => ⟨by omega, by omega⟩) ?_; conv => whnf) | (refine And.intro (fun _ => by omega) (And.intro rfl ?_); conv => whnf) | (refine And.intro ⟨(by first | omega | (simp; omega)), (by first | omega | (simp; omega))⟩ ?_; conv => whnf) | (refine Exists.intro _ (And.intro rfl (And.intro (by first | omega | (simp; omega)) (And.intro ⟨rfl, rfl, rfl, rfl, rfl⟩ ?_))); conv => whnf) | (refine And.intro ⟨rfl, rfl⟩ (And.intro (by first | omega | (simp; omega)) ?_); conv => whnf) | (refine Exists.intro _ (And.intro rfl ?_); conv => whnf) | (refine And.intro (fun _ => ?_) (fun h => absurd h (by decide)); conv => whnf) | (refine And.intro (fun h => absurd h (by decide)) (fun _ => ?_); conv => whnf) | (refine .eff (by first | exact cxOk _ _ | exact cxPOk _ _ _) ?_; conv => whnf))
      rw [hlk]
      refine ⟨fun hd => ?_, fun hd => ?_⟩
      · have hd' : 0 ≤ (l.getD k d0).fast := of_decide_eq_true hd
        rw [if_pos hd'] at hS
        conv => whnf
        repeat (first | (refine And.intro ⟨by omega, by omega⟩ ?_; conv => whnf) | (refine And.intro (by omega) (And.intro rfl ?_); conv => whnf) | (refine And.intro rfl ?_; conv => whnf) | (refine And.intro (fun _ => ⟨by omega, by omega⟩) ?_; conv => whnf) | (refine And.intro (fun _ => by omega) (And.intro rfl ?_); conv => whnf) | (refine And.intro ⟨(by first | omega | (simp; omega)), (by first | omega | (simp; omega))⟩ ?_; conv => whnf) | (refine Exists.intro _ (And.intro rfl (And.intro (by first | omega | (simp; omega)) (And.intro ⟨rfl, rfl, rfl, rfl, rfl⟩ ?_))); conv => whnf) | (refine And.intro ⟨rfl, rfl⟩ (And.intro (by first | omega | (simp; omega)) ?_); conv => whnf) | (refine Exists.intro _ (And.intro rfl ?_); conv => whnf) | (refine And.intro (fun _ => ?_) (fun h => absurd h (by decide)); conv => whnf) | (refine And.intro (fun h => absurd h (by decide)) (fun _ => ?_); conv => whnf) | (refine .eff (by first | exact cxOk _ _ | exact cxPOk _ _ _) ?_; conv => whnf))
        refine And.intro ⟨rfl, rfl⟩ (And.intro (show (F.length + 1) * 8 ≤ 140737488355328 by omega) ?_)
        conv => whnf
        refine ⟨(l.getD k d0).fast, rfl, ?_⟩
        conv => whnf
        repeat (first | (refine And.intro ⟨by omega, by omega⟩ ?_; conv => whnf) | (refine And.intro (by omega) (And.intro rfl ?_); conv => whnf) | (refine And.intro rfl ?_; conv => whnf) | (refine And.intro (fun _ => ⟨by omega, by omega⟩) ?_; conv => whnf) | (refine And.intro (fun _ => by omega) (And.intro rfl ?_); conv => whnf) | (refine And.intro ⟨(by first | omega | (simp; omega)), (by first | omega | (simp; omega))⟩ ?_; conv => whnf) | (refine Exists.intro _ (And.intro rfl (And.intro (by first | omega | (simp; omega)) (And.intro ⟨rfl, rfl, rfl, rfl, rfl⟩ ?_))); conv => whnf) | (refine And.intro ⟨rfl, rfl⟩ (And.intro (by first | omega | (simp; omega)) ?_); conv => whnf) | (refine Exists.intro _ (And.intro rfl ?_); conv => whnf) | (refine And.intro (fun _ => ?_) (fun h => absurd h (by decide)); conv => whnf) | (refine And.intro (fun h => absurd h (by decide)) (fun _ => ?_); conv => whnf) | (refine .eff (by first | exact cxOk _ _ | exact cxPOk _ _ _) ?_; conv => whnf))
        refine up hlt trivial ((wk_of [(0, .id 3)] rfl ⟨.base (.tree _ _ rfl rfl), (by first | exact .base (.own _ _ rfl) | exact .base (.nilown _ rfl) | exact .base (.trunc _ _ _ rfl)), .base (.tree _ _ rfl rfl), .base (.tree _ _ rfl rfl), .base (.tree _ _ rfl rfl), trivial⟩ ⟨⟨_, rfl, (by first | exact .row _ _ _ _ _ _ _ rfl (hS.symm.trans hF'.symm) | exact .lstrow _ _ _ _ _ _ _ rfl (hS.symm.trans hF'.symm) | exact .nilrow _ _ _ _ _ (hS.symm.trans hF'.symm) | exact .truncrow _ _ _ _ _ _ _ _ rfl (by omega) (hS.symm.trans hF'.symm))⟩, trivial⟩))
      · have hd' : ¬ 0 ≤ (l.getD k d0).fast := of_decide_eq_false hd
        rw [if_neg hd'] at hS
        conv => whnf
        repeat (first | (refine And.intro ⟨by omega, by omega⟩ ?_; conv => whnf) | (refine And.intro (by omega) (And.intro rfl ?_); conv => whnf) | (refine And.intro rfl ?_; conv => whnf) | (refine And.intro (fun _ => ⟨by omega, by omega⟩) ?_; conv => whnf) | (refine And.intro (fun _ => by omega) (And.intro rfl ?_); conv => whnf) | (refine And.intro ⟨(by first | omega | (simp; omega)), (by first | omega | (simp; omega))⟩ ?_; conv => whnf) | (refine Exists.intro _ (And.intro rfl (And.intro (by first | omega | (simp; omega)) (And.intro ⟨rfl, rfl, rfl, rfl, rfl⟩ ?_))); conv => whnf) | (refine And.intro ⟨rfl, rfl⟩ (And.intro (by first | omega | (simp; omega)) ?_); conv => whnf) | (refine Exists.intro _ (And.intro rfl ?_); conv => whnf) | (refine And.intro (fun _ => ?_) (fun h => absurd h (by decide)); conv => whnf) | (refine And.intro (fun h => absurd h (by decide)) (fun _ => ?_); conv => whnf) | (refine .eff (by first | exact cxOk _ _ | exact cxPOk _ _ _) ?_; conv => whnf))
        refine up hlt trivial ((wk_of [(0, .id 0)] rfl ⟨.base (.tree _ _ rfl rfl), (by first | exact .base (.own _ _ rfl) | exact .base (.nilown _ rfl) | exact .base (.trunc _ _ _ rfl)), .base (.tree _ _ rfl rfl), .base (.tree _ _ rfl rfl), .base (.tree _ _ rfl rfl), trivial⟩ ⟨⟨_, rfl, (by first | exact .row _ _ _ _ _ _ _ rfl (hS.symm.trans hF'.symm) | exact .lstrow _ _ _ _ _ _ _ rfl (hS.symm.trans hF'.symm) | exact .nilrow _ _ _ _ _ (hS.symm.trans hF'.symm) | exact .truncrow _ _ _ _ _ _ _ _ rfl (by omega) (hS.symm.trans hF'.symm))⟩, trivial⟩))
    · simp only [decide_eq_false_iff_not] at hc1
      obtain rfl : k = l.length := by omega
      rw [List.take_of_length_le (Nat.le_refl _)]
      have hFl : (fasts l).length ≤ 400 := by
        unfold fasts
        refine Nat.le_trans (List.length_filter_le _ _) ?_
        rw [List.length_map]
        omega
      have hMl : ((fasts l).mergeSort leZ).length ≤ 400 := by rw [List.length_mergeSort]; exact hFl
      have hCl := compact_len ((fasts l).mergeSort leZ)
      have hfound : foundL l = (daysL l).foldl (fun es day => spreadL l day es) [] := rfl
      have hdays : Go.Lib.compact ((fasts l).mergeSort leZ) = daysL l := rfl
      conv => whnf
      refine .raw _ _ rfl (fun h => by cases h) (sort_c rfl (by omega)) ?_
      rintro r rfl
      refine ⟨Nat.le_refl _, ?_⟩
      conv => whnf
      repeat (first | (refine And.intro ⟨by omega, by omega⟩ ?_; conv => whnf) | (refine And.intro (by omega) (And.intro rfl ?_); conv => whnf) | (refine And.intro rfl ?_; conv => whnf) | (refine And.intro (fun _ => ⟨by omega, by omega⟩) ?_; conv => whnf) | (refine And.intro (fun _ => by omega) (And.intro rfl ?_); conv => whnf) | (refine And.intro ⟨(by first | omega | (simp; omega)), (by first | omega | (simp; omega))⟩ ?_; conv => whnf) | (refine Exists.intro _ (And.intro rfl (And.intro (by first | omega | (simp; omega)) (And.intro ⟨rfl, rfl, rfl, rfl, rfl⟩ ?_))); conv => whnf) | (refine And.intro ⟨rfl, rfl⟩ (And.intro (by first | omega | (simp; omega)) ?_); conv => whnf) | (refine Exists.intro _ (And.intro rfl ?_); conv => whnf) | (refine And.intro (fun _ => ?_) (fun h => absurd h (by decide)); conv => whnf) | (refine And.intro (fun h => absurd h (by decide)) (fun _ => ?_); conv => whnf) | (refine .eff (by first | exact cxOk _ _ | exact cxPOk _ _ _) ?_; conv => whnf))
      refine .raw _ _ rfl (fun h => by cases h) (compact_c rfl (by omega)) ?_
      rintro r rfl
      refine ⟨Nat.le_refl _, ?_⟩
      conv => whnf
      repeat (first | (refine And.intro ⟨by omega, by omega⟩ ?_; conv => whnf) | (refine And.intro (by omega) (And.intro rfl ?_); conv => whnf) | (refine And.intro rfl ?_; conv => whnf) | (refine And.intro (fun _ => ⟨by omega, by omega⟩) ?_; conv => whnf) | (refine And.intro (fun _ => by omega) (And.intro rfl ?_); conv => whnf) | (refine And.intro ⟨(by first | omega | (simp; omega)), (by first | omega | (simp; omega))⟩ ?_; conv => whnf) | (refine Exists.intro _ (And.intro rfl (And.intro (by first | omega | (simp; omega)) (And.intro ⟨rfl, rfl, rfl, rfl, rfl⟩ ?_))); conv => whnf) | (refine And.intro ⟨rfl, rfl⟩ (And.intro (by first | omega | (simp; omega)) ?_); conv => whnf) | (refine Exists.intro _ (And.intro rfl ?_); conv => whnf) | (refine And.intro (fun _ => ?_) (fun h => absurd h (by decide)); conv => whnf) | (refine And.intro (fun h => absurd h (by decide)) (fun _ => ?_); conv => whnf) | (refine .eff (by first | exact cxOk _ _ | exact cxPOk _ _ _) ?_; conv => whnf))
      rw [hdays]
      rw [hdays] at hCl
      generalize (fasts l).mergeSort leZ = M at *
      generalize daysL l = D at *
      clear hdays
      refine loop_up (cxOk _ _) D.length (fun k => True) (fun k => ⟨[(0, encDs l), (7, .map 1), (36, .own 0), (37, .int .i64 D.length), (38, .int .i64 (k : Nat))], [(0, .row 3 1 encI 0 D), (1, .imap .i64 encC c0 ((D.take k).foldl (fun es day => spreadL l day es) []))], 2⟩) trivial ((wk_of [(0, .trunc 0 D.length), (1, .id 1)] rfl ⟨.base (.tree _ _ rfl rfl), .base (.map _ _ rfl), (by first | exact .base (.own _ _ rfl) | exact .base (.nilown _ rfl) | exact .base (.trunc _ _ _ rfl)), .base (.tree _ _ rfl rfl), .base (.tree _ _ rfl rfl), trivial⟩ ⟨⟨_, rfl, .truncrow _ _ _ _ _ _ _ _ rfl (by rw [List.length_append]; omega) List.take_left⟩, ⟨_, rfl, (by first | exact .imap _ _ _ _ _ _ rfl rfl | exact .newimap _ _ _ _ _ _ _ _ rfl rfl rfl)⟩, trivial⟩)) ?_
      intro k hk _
      conv => whnf
      refine ⟨fun hc2 => ?_, fun hc2 => ?_⟩
      · simp only [decide_eq_true_eq] at hc2
        have hlt : k < D.length := by omega
        have hS : (D.take (k + 1)).foldl (fun es day => spreadL l day es) [] = spreadL l (D.getD k 0) ((D.take k).foldl (fun es day => spreadL l day es) []) := by
          rw [take_getD (d := 0) hlt, List.foldl_append]
          rfl
        have hok : okF l ((D.take k).foldl (fun es day => spreadL l day es) []) := foundTo_okF _ _ (okF_nil l)
        generalize hE' : (D.take (k + 1)).foldl (fun es day => spreadL l day es) [] = E' at *
        generalize (D.take k).foldl (fun es day => spreadL l day es) [] = E at *
        conv => whnf
        repeat (first | (refine And.intro ⟨by omega, by omega⟩ ?_; conv => whnf) | (refine And.intro (by omega) (And.intro rfl ?_); conv => whnf) | (refine And.intro rfl ?_; conv => whnf) | (refine And.intro (fun _ => ⟨by omega, by omega⟩) ?_; conv => whnf) | (refine And.intro (fun _ => by omega) (And.intro rfl ?_); conv => whnf) | (refine And.intro ⟨(by first | omega | (simp; omega)), (by first | omega | (simp; omega))⟩ ?_; conv => whnf) | (refine Exists.intro _ (And.intro rfl (And.intro (by first | omega | (simp; omega)) (And.intro ⟨rfl, rfl, rfl, rfl, rfl⟩ ?_))); conv => whnf) | (refine And.intro ⟨rfl, rfl⟩ (And.intro (by first | omega | (simp; omega)) ?_); conv => whnf) | (refine Exists.intro _ (And.intro rfl ?_); conv => whnf) | (refine And.intro (fun _ => ?_) (fun h => absurd h (by decide)); conv => whnf) | (refine And.intro (fun h => absurd h (by decide)) (fun _ => ?_); conv => whnf) | (refine .eff (by first | exact cxOk _ _ | exact cxPOk _ _ _) ?_; conv => whnf))
        rw [Int.toNat_natCast]
        refine .raw _ _ rfl (fun h => by cases h) (callio_sem (spread_ok' l hl (D.getD k 0) E hok) [1] _ rfl rfl ⟨rfl, trivial⟩ (by repeat (first | exact .nil | (apply BorL.cons; first | exact .map _ _ rfl | exact .ptr _ _ _ rfl | exact .own _ _ rfl | (apply BorIO.lend; first | exact lS rfl | exact lR rfl | exact lM rfl rfl | exact lL rfl | exact lX rfl | exact lN | exact lNl | exact lSm rfl | exact lIm rfl | exact lP rfl | exact lQ rfl)))) rfl (by first | exact .inl rfl | exact .inr (fun b rs h => by obtain ⟨rfl, rfl⟩ := h; exact ⟨by repeat (first | exact flats_nil | refine flats_cons (by first | exact flat_val _ rfl | exact flat_row (fun _ => rfl) | exact flat_lst (fun _ => rfl)) ?_), by repeat (first | exact flats0 | refine flats1 (by first | exact flatB_row (fun _ => rfl) | exact flatB_lst (fun _ => rfl) | exact flatB_smap (fun _ => rfl) | exact flatB_imap (fun _ => rfl) | exact flatB_cells rfl) ?_)⟩))) ?_
        rintro r ⟨b, rs, ⟨rfl, rfl⟩, rfl⟩
        refine ⟨tn_ge _ _, ?_⟩
        conv => whnf
        repeat (first | (refine And.intro ⟨by omega, by omega⟩ ?_; conv => whnf) | (refine And.intro (by omega) (And.intro rfl ?_); conv => whnf) | (refine And.intro rfl ?_; conv => whnf) | (refine And.intro (fun _ => ⟨by omega, by omega⟩) ?_; conv => whnf) | (refine And.intro (fun _ => by omega) (And.intro rfl ?_); conv => whnf) | (refine And.intro ⟨(by first | omega | (simp; omega)), (by first | omega | (simp; omega))⟩ ?_; conv => whnf) | (refine Exists.intro _ (And.intro rfl (And.intro (by first | omega | (simp; omega)) (And.intro ⟨rfl, rfl, rfl, rfl, rfl⟩ ?_))); conv => whnf) | (refine And.intro ⟨rfl, rfl⟩ (And.intro (by first | omega | (simp; omega)) ?_); conv => whnf) | (refine Exists.intro _ (And.intro rfl ?_); conv => whnf) | (refine And.intro (fun _ => ?_) (fun h => absurd h (by decide)); conv => whnf) | (refine And.intro (fun h => absurd h (by decide)) (fun _ => ?_); conv => whnf) | (refine .eff (by first | exact cxOk _ _ | exact cxPOk _ _ _) ?_; conv => whnf))
        refine up hlt trivial ((wk_of [(0, .id 0), (1, .id 1)] rfl ⟨.base (.tree _ _ rfl rfl), .base (.map _ _ rfl), (by first | exact .base (.own _ _ rfl) | exact .base (.nilown _ rfl) | exact .base (.trunc _ _ _ rfl)), .base (.tree _ _ rfl rfl), .base (.tree _ _ rfl rfl), trivial⟩ ⟨⟨_, rfl, (by first | exact .row _ _ _ _ _ _ _ rfl rfl | exact .lstrow _ _ _ _ _ _ _ rfl rfl | exact .nilrow _ _ _ _ _ rfl | exact .truncrow _ _ _ _ _ _ _ _ rfl (by omega) rfl)⟩, ⟨_, rfl, (by first | exact .imap _ _ _ _ _ _ rfl (hS.symm.trans hE'.symm) | exact .newimap _ _ _ _ _ _ _ _ rfl rfl (hS.symm.trans hE'.symm))⟩, trivial⟩))
      · simp only [decide_eq_false_iff_not] at hc2
        rw [List.take_of_length_le (by omega), ← hfound]
        unfold closeL
        have hoL : ∀ n, (outL (foundL l) n).length ≤ n := fun n => by
          unfold outL
          exact Nat.le_trans (List.length_filterMap_le _ _) (by rw [List.length_range]; exact Nat.le_refl _)
        generalize foundL l = E at *
        conv => whnf
        repeat (first | (refine And.intro ⟨by omega, by omega⟩ ?_; conv => whnf) | (refine And.intro (by omega) (And.intro rfl ?_); conv => whnf) | (refine And.intro rfl ?_; conv => whnf) | (refine And.intro (fun _ => ⟨by omega, by omega⟩) ?_; conv => whnf) | (refine And.intro (fun _ => by omega) (And.intro rfl ?_); conv => whnf) | (refine And.intro ⟨(by first | omega | (simp; omega)), (by first | omega | (simp; omega))⟩ ?_; conv => whnf) | (refine Exists.intro _ (And.intro rfl (And.intro (by first | omega | (simp; omega)) (And.intro ⟨rfl, rfl, rfl, rfl, rfl⟩ ?_))); conv => whnf) | (refine And.intro ⟨rfl, rfl⟩ (And.intro (by first | omega | (simp; omega)) ?_); conv => whnf) | (refine Exists.intro _ (And.intro rfl ?_); conv => whnf) | (refine And.intro (fun _ => ?_) (fun h => absurd h (by decide)); conv => whnf) | (refine And.intro (fun h => absurd h (by decide)) (fun _ => ?_); conv => whnf) | (refine .eff (by first | exact cxOk _ _ | exact cxPOk _ _ _) ?_; conv => whnf))
        refine loop_up (cxOk _ _) l.length (fun k => True) (fun k => ⟨[(7, .map 1), (10, .own 2), (48, .int .i64 l.length), (49, .int .i64 (k : Nat))], [(1, .imap .i64 encC c0 E), (2, .row 35 4 encC c0 (outL E k))], 3⟩) trivial ((wk_of [(1, .id 1), (2, .nil)] rfl ⟨.base (.map _ _ rfl), (by first | exact .base (.own _ _ rfl) | exact .base (.nilown _ rfl) | exact .base (.trunc _ _ _ rfl)), .base (.tree _ _ rfl rfl), .base (.tree _ _ rfl rfl), trivial⟩ ⟨⟨_, rfl, (by first | exact .imap _ _ _ _ _ _ rfl rfl | exact .newimap _ _ _ _ _ _ _ _ rfl rfl rfl)⟩, ⟨_, rfl, (by first | exact .row _ _ _ _ _ _ _ rfl rfl | exact .lstrow _ _ _ _ _ _ _ rfl rfl | exact .nilrow _ _ _ _ _ rfl | exact .truncrow _ _ _ _ _ _ _ _ rfl (by omega) rfl)⟩, trivial⟩)) ?_
        intro i hi _
        conv => whnf
        refine ⟨fun hc3 => ?_, fun hc3 => ?_⟩
        · simp only [decide_eq_true_eq] at hc3
          have hit : i < l.length := by omega
          have hS := outL_succ E i
          have hol := hoL i
          generalize hO' : outL E (i + 1) = O' at *
          generalize outL E i = O at *
          conv => whnf
          repeat (first | (refine And.intro ⟨by omega, by omega⟩ ?_; conv => whnf) | (refine And.intro (by omega) (And.intro rfl ?_); conv => whnf) | (refine And.intro rfl ?_; conv => whnf) | (refine And.intro (fun _ => ⟨by omega, by omega⟩) ?_; conv => whnf) | (refine And.intro (fun _ => by omega) (And.intro rfl ?_); conv => whnf) | (refine And.intro ⟨(by first | omega | (simp; omega)), (by first | omega | (simp; omega))⟩ ?_; conv => whnf) | (refine Exists.intro _ (And.intro rfl (And.intro (by first | omega | (simp; omega)) (And.intro ⟨rfl, rfl, rfl, rfl, rfl⟩ ?_))); conv => whnf) | (refine And.intro ⟨rfl, rfl⟩ (And.intro (by first | omega | (simp; omega)) ?_); conv => whnf) | (refine Exists.intro _ (And.intro rfl ?_); conv => whnf) | (refine And.intro (fun _ => ?_) (fun h => absurd h (by decide)); conv => whnf) | (refine And.intro (fun h => absurd h (by decide)) (fun _ => ?_); conv => whnf) | (refine .eff (by first | exact cxOk _ _ | exact cxPOk _ _ _) ?_; conv => whnf))
          refine ⟨fun hz => ?_, fun hz => ?_⟩
          · obtain ⟨c, hc⟩ := Option.isSome_iff_exists.1 (show (mget E (i : Int)).isSome = true from hz)
            rw [hc] at hS ⊢
            conv => whnf
            repeat (first | (refine And.intro ⟨by omega, by omega⟩ ?_; conv => whnf) | (refine And.intro (by omega) (And.intro rfl ?_); conv => whnf) | (refine And.intro rfl ?_; conv => whnf) | (refine And.intro (fun _ => ⟨by omega, by omega⟩) ?_; conv => whnf) | (refine And.intro (fun _ => by omega) (And.intro rfl ?_); conv => whnf) | (refine And.intro ⟨(by first | omega | (simp; omega)), (by first | omega | (simp; omega))⟩ ?_; conv => whnf) | (refine Exists.intro _ (And.intro rfl (And.intro (by first | omega | (simp; omega)) (And.intro ⟨rfl, rfl, rfl, rfl, rfl⟩ ?_))); conv => whnf) | (refine And.intro ⟨rfl, rfl⟩ (And.intro (by first | omega | (simp; omega)) ?_); conv => whnf) | (refine Exists.intro _ (And.intro rfl ?_); conv => whnf) | (refine And.intro (fun _ => ?_) (fun h => absurd h (by decide)); conv => whnf) | (refine And.intro (fun h => absurd h (by decide)) (fun _ => ?_); conv => whnf) | (refine .eff (by first | exact cxOk _ _ | exact cxPOk _ _ _) ?_; conv => whnf))
            refine And.intro ⟨rfl, rfl⟩ (And.intro (show (O.length + 1) * 32 ≤ 140737488355328 by omega) ?_)
            conv => whnf
            refine ⟨c, rfl, ?_⟩
            conv => whnf
            repeat (first | (refine And.intro ⟨by omega, by omega⟩ ?_; conv => whnf) | (refine And.intro (by omega) (And.intro rfl ?_); conv => whnf) | (refine And.intro rfl ?_; conv => whnf) | (refine And.intro (fun _ => ⟨by omega, by omega⟩) ?_; conv => whnf) | (refine And.intro (fun _ => by omega) (And.intro rfl ?_); conv => whnf) | (refine And.intro ⟨(by first | omega | (simp; omega)), (by first | omega | (simp; omega))⟩ ?_; conv => whnf) | (refine Exists.intro _ (And.intro rfl (And.intro (by first | omega | (simp; omega)) (And.intro ⟨rfl, rfl, rfl, rfl, rfl⟩ ?_))); conv => whnf) | (refine And.intro ⟨rfl, rfl⟩ (And.intro (by first | omega | (simp; omega)) ?_); conv => whnf) | (refine Exists.intro _ (And.intro rfl ?_); conv => whnf) | (refine And.intro (fun _ => ?_) (fun h => absurd h (by decide)); conv => whnf) | (refine And.intro (fun h => absurd h (by decide)) (fun _ => ?_); conv => whnf) | (refine .eff (by first | exact cxOk _ _ | exact cxPOk _ _ _) ?_; conv => whnf))
            refine up hit trivial ((wk_of [(1, .id 1), (2, .id 5)] rfl ⟨.base (.map _ _ rfl), (by first | exact .base (.own _ _ rfl) | exact .base (.nilown _ rfl) | exact .base (.trunc _ _ _ rfl)), .base (.tree _ _ rfl rfl), .base (.tree _ _ rfl rfl), trivial⟩ ⟨⟨_, rfl, (by first | exact .imap _ _ _ _ _ _ rfl rfl | exact .newimap _ _ _ _ _ _ _ _ rfl rfl rfl)⟩, ⟨_, rfl, (by first | exact .row _ _ _ _ _ _ _ rfl (hS.symm.trans hO'.symm) | exact .lstrow _ _ _ _ _ _ _ rfl (hS.symm.trans hO'.symm) | exact .nilrow _ _ _ _ _ (hS.symm.trans hO'.symm) | exact .truncrow _ _ _ _ _ _ _ _ rfl (by omega) (hS.symm.trans hO'.symm))⟩, trivial⟩))
          · have hz' : mget E (i : Int) = none := by
              cases hm : mget E (i : Int) with
              | none => rfl
              | some c => rw [hm] at hz; cases hz
            rw [hz'] at hS
            simp at hS
            conv => whnf
            repeat (first | (refine And.intro ⟨by omega, by omega⟩ ?_; conv => whnf) | (refine And.intro (by omega) (And.intro rfl ?_); conv => whnf) | (refine And.intro rfl ?_; conv => whnf) | (refine And.intro (fun _ => ⟨by omega, by omega⟩) ?_; conv => whnf) | (refine And.intro (fun _ => by omega) (And.intro rfl ?_); conv => whnf) | (refine And.intro ⟨(by first | omega | (simp; omega)), (by first | omega | (simp; omega))⟩ ?_; conv => whnf) | (refine Exists.intro _ (And.intro rfl (And.intro (by first | omega | (simp; omega)) (And.intro ⟨rfl, rfl, rfl, rfl, rfl⟩ ?_))); conv => whnf) | (refine And.intro ⟨rfl, rfl⟩ (And.intro (by first | omega | (simp; omega)) ?_); conv => whnf) | (refine Exists.intro _ (And.intro rfl ?_); conv => whnf) | (refine And.intro (fun _ => ?_) (fun h => absurd h (by decide)); conv => whnf) | (refine And.intro (fun h => absurd h (by decide)) (fun _ => ?_); conv => whnf) | (refine .eff (by first | exact cxOk _ _ | exact cxPOk _ _ _) ?_; conv => whnf))
            refine up hit trivial ((wk_of [(1, .id 1), (2, .id 2)] rfl ⟨.base (.map _ _ rfl), (by first | exact .base (.own _ _ rfl) | exact .base (.nilown _ rfl) | exact .base (.trunc _ _ _ rfl)), .base (.tree _ _ rfl rfl), .base (.tree _ _ rfl rfl), trivial⟩ ⟨⟨_, rfl, (by first | exact .imap _ _ _ _ _ _ rfl rfl | exact .newimap _ _ _ _ _ _ _ _ rfl rfl rfl)⟩, ⟨_, rfl, (by first | exact .row _ _ _ _ _ _ _ rfl (hS.symm.trans hO'.symm) | exact .lstrow _ _ _ _ _ _ _ rfl (hS.symm.trans hO'.symm) | exact .nilrow _ _ _ _ _ (hS.symm.trans hO'.symm) | exact .truncrow _ _ _ _ _ _ _ _ rfl (by omega) (hS.symm.trans hO'.symm))⟩, trivial⟩))
        · have hc3' : decide ((i : Int) < l.length) = false := hc3
          simp only [decide_eq_false_iff_not] at hc3'
          obtain rfl : i = l.length := by omega
          conv => whnf
          rfl

end Go.Proofs.Ytkldidgcgioceaa
