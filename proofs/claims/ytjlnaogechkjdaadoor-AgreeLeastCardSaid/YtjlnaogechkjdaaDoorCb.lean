import Derived.Test.YtjlnaogechkjdaaDoorCa
import Derived.Test.YtjlnaogechkjdaaDoorLc
import Derived.Lay
import Derived.Lib.LaidTab
import Derived.LaidLaws
import Derived.KernelRfl
import Derived.Test.YtjlnaogechkjdaaDoorRows
namespace Go.Proofs.YtjlnaogechkjdaaDoor
open Go.Own
set_option maxHeartbeats 4000000
set_option maxRecDepth 100000

/-- Where one is put in: behind all that have no greater Id. -/
def putAt (l : List Ent) (e : Ent) : Nat := l.findIdx (fun x => decide (e.id < x.id))
def putE (l : List Ent) (e : Ent) : List Ent := l.take (putAt l e) ++ ([e] ++ l.drop (putAt l e))
def srt (l : List Ent) : List Ent := l.foldl putE []
theorem putE_ok {l : List Ent} (h : Asc l) (e : Ent) : Asc (putE l e) ∧ Stb (l ++ [e]) (putE l e) := by
  have h1 : ∀ y ∈ l.take (putAt l e), y.id ≤ e.id := fun y hy => by
    obtain ⟨k, hk, hk2, rfl⟩ := mem_take hy
    have := List.not_of_lt_findIdx (p := fun x : Ent => decide (e.id < x.id)) (xs := l) hk
    have := of_decide_eq_false (show decide (e.id < (l[k]).id) = false by simpa using this)
    have e1 : l.getD k e0 = l[k] := by simp [List.getD_eq_getElem?_getD, hk2]
    rw [e1]
    omega
  have h2 : ∀ y ∈ l.drop (putAt l e), e.id < y.id := by
    refine drop_lt h ?_
    rcases Nat.lt_or_ge (putAt l e) l.length with hk | hk
    · right
      have := List.findIdx_getElem (xs := l) (p := fun x : Ent => decide (e.id < x.id)) (w := hk)
      have e1 : l.getD (putAt l e) e0 = l[putAt l e] := by simp [List.getD_eq_getElem?_getD, hk]
      rw [e1]
      exact of_decide_eq_true this
    · exact .inl hk
  exact ⟨put_in h h1 fun y hy => Int.le_of_lt (h2 y hy), put_stb2 h2⟩
theorem srt_from : ∀ (l a : List Ent), Asc a → Asc (l.foldl putE a) ∧ Stb (a ++ l) (l.foldl putE a)
  | [], a, h => ⟨h, by rw [List.append_nil]; exact Stb.refl _⟩
  | e :: l, a, h => by
    obtain ⟨g1, g2⟩ := putE_ok h e
    obtain ⟨i1, i2⟩ := srt_from l (putE a e) g1
    refine ⟨i1, ?_⟩
    have e1 : a ++ e :: l = (a ++ [e]) ++ l := by simp
    rw [e1]
    exact (g2.app (Stb.refl l)).trans i2
theorem srt_ok (l : List Ent) : Asc (srt l) ∧ Stb l (srt l) := srt_from l [] asc_nil
theorem srt_one {l M : List Ent} (h : Asc M) (g : Stb l M) : M = srt l :=
  sorted_one h (srt_ok l).1 fun k => ((srt_ok l).2 k).trans (g k).symm

theorem sorts_ok (xs : List Ent) (hn : xs.length ≤ 40) :
    AIO Tryd.prog 31 [.own 0, .fn (.func 29) [] []] [.row 48 5 encE e0 xs] (fun bs rs => bs = [.row 48 5 encE e0 (srt xs)] ∧ rs = []) := by
  have hcall := stable_ok xs hn (n := ((xs.length : Nat) : Int)) rfl
  refine aio_of (C := cxP 1 9 [0, 1]) (cxPOk _ _ _) Tryd.func31 rfl (by decide) rfl (by exact Nat.le_of_ble_eq_true rfl) (by decide) rfl rfl ?_
  conv => whnf
  refine .raw _ _ rfl (fun h => by cases h) (callio_sem (hcall) [0] _ rfl rfl ⟨rfl, trivial⟩ (by repeat (first | exact .nil | (apply BorL.cons; first | exact .map _ _ rfl | exact .ptr _ _ _ rfl | exact .own _ _ rfl | exact .fnp _ _ _ _ rfl | (apply BorIO.lend; first | exact lS rfl | exact lR rfl | exact lM rfl rfl | exact lL rfl | exact lX rfl | exact lN | exact lNl | exact lSm rfl | exact lIm rfl | exact lP rfl | exact lQ rfl | exact lB rfl rfl rfl)))) rfl (by first | exact .inl rfl | exact .inr (fun b rs h => by first | obtain ⟨rfl, rfl⟩ := h | obtain ⟨_, _, _, rfl, rfl⟩ := h; exact ⟨by repeat (first | exact flats_nil | refine flats_cons (by first | exact flat_val _ rfl | exact flat_row (fun _ => rfl) | exact flat_lst (fun _ => rfl)) ?_), by repeat (first | exact flats0 | refine flats1 (by first | exact flatB_row (fun _ => rfl) | exact flatB_lst (fun _ => rfl) | exact flatB_smap (fun _ => rfl) | exact flatB_imap (fun _ => rfl) | exact flatB_cells rfl) ?_)⟩))) ?_
  rintro r ⟨b, rs, ⟨M, sM, tM, rfl, rfl⟩, rfl⟩
  refine ⟨tn_ge _ _, ?_⟩
  rw [srt_one sM tM]
  conv => whnf
  exact ⟨rfl, rfl⟩

end Go.Proofs.YtjlnaogechkjdaaDoor

namespace Go.Proofs.YtjlnaogechkjdaaDoor
open Go.Own
set_option maxHeartbeats 4000000
set_option maxRecDepth 100000

/-! ### Compare -/
def goIn (o : List Ent) (w : List (Int × Bool)) (e : Ent) : Bool := (mget (foundM o) e.id).isNone && (mget w e.id).getD false
def goOut (o : List Ent) (w : List (Int × Bool)) (e : Ent) : Bool :=
  match mget (foundM o) e.id with
  | some x => !eqE x e
  | none => !(mget w e.id).getD false
def rawI (a b : List Ent) (fl : List Msg) : List Ent := a.filter (goIn b (wayM a b 1 fl)) ++ b.filter (goIn a (wayM a b 0 fl))
def rawO (a b : List Ent) (fl : List Msg) : List Ent := a.filter (goOut b (wayM a b 1 fl)) ++ b.filter (goOut a (wayM a b 0 fl))
def okC (a b : List Ent) (fl : List Msg) : Bool := fl.all (msgB a b) && (validB a && validB b)
def inC (a b : List Ent) (fl : List Msg) : List Ent := if okC a b fl = true then srt (rawI a b fl) else []
def outC (a b : List Ent) (fl : List Msg) : List Ent := if okC a b fl = true then srt (rawO a b fl) else []
theorem filter_snoc {T : Type} (p : T → Bool) (l : List T) (x : T) : (l ++ [x]).filter p = if p x = true then l.filter p ++ [x] else l.filter p := by
  rw [List.filter_append]
  split
  · rename_i h; rw [List.filter_cons_of_pos h]; rfl
  · rename_i h; rw [List.filter_cons_of_neg h]; simp
theorem compare_ok (a b : List Ent) (fl : List Msg) (ha : a.length ≤ 20) (hb : b.length ≤ 20) (hl : fl.length ≤ 9223372036854775807) :
    APure Tryd.prog 10 [encEs a, encEs b, encMs fl] (fun rs => rs = if okC a b fl = true then [.new (.row 48 5 encE e0 (srt (rawI a b fl))), .new (.row 48 5 encE e0 (srt (rawO a b fl))), .val (.int .i64 0)] else [.val .nils, .val .nils, .val (.int .i64 1)]) := by
  have hva := valid_ok a (by omega)
  have hvb := valid_ok b (by omega)
  refine apure_of (C := cx 113 [0, 1, 2, 6, 7, 8, 9, 10, 11, 12, 13, 14, 15, 16, 18, 19, 20, 21, 42, 48, 49, 50, 53, 54, 55, 56, 69, 80, 96]) (cxOk _ _) Tryd.func10 rfl (by decide) rfl (by exact Nat.le_of_ble_eq_true rfl) (by decide) ?_
  conv => whnf
  refine .any _ _ _ ⟨rfl, rfl⟩ (carried_ok a b fl (by omega) (by omega) hl) (by repeat (first | exact .nil | (apply BorL.cons; first | exact lS rfl | exact lR rfl | exact lM rfl rfl | exact lL rfl | exact lX rfl | exact lN | exact lNl | exact lSm rfl | exact lIm rfl | exact lGm rfl | exact lP rfl | exact lQ rfl | exact lB rfl rfl rfl))) (by first | exact .inl rfl | exact .inr (by repeat (first | exact flats_nil | refine flats_cons (by first | exact flat_val _ rfl | exact flat_row (fun _ => rfl) | exact flat_lst (fun _ => rfl)) ?_))) ?_
  rintro rs (⟨hfl, rfl⟩ | ⟨hfl, m0, m1, rfl⟩)
  · conv => whnf
    refine .one _ _ _ (fun _ => hva) (by repeat (first | exact .nil | (apply BorL.cons; first | exact lS rfl | exact lR rfl | exact lM rfl rfl | exact lL rfl | exact lX rfl | exact lN | exact lNl | exact lSm rfl | exact lIm rfl | exact lGm rfl | exact lP rfl | exact lQ rfl | exact lB rfl rfl rfl))) (by first | exact .inl rfl | exact .inr (by repeat (first | exact flats_nil | refine flats_cons (by first | exact flat_val _ rfl | exact flat_row (fun _ => rfl) | exact flat_lst (fun _ => rfl)) ?_))) (by first | exact .inr rfl | exact .inl rfl) ?_
    conv => whnf
    refine .one _ _ _ (fun _ => hvb) (by repeat (first | exact .nil | (apply BorL.cons; first | exact lS rfl | exact lR rfl | exact lM rfl rfl | exact lL rfl | exact lX rfl | exact lN | exact lNl | exact lSm rfl | exact lIm rfl | exact lGm rfl | exact lP rfl | exact lQ rfl | exact lB rfl rfl rfl))) (by first | exact .inl rfl | exact .inr (by repeat (first | exact flats_nil | refine flats_cons (by first | exact flat_val _ rfl | exact flat_row (fun _ => rfl) | exact flat_lst (fun _ => rfl)) ?_))) (by first | exact .inr rfl | exact .inl rfl) ?_
    conv => whnf
    refine ⟨fun hc => ?_, fun hc => ?_⟩
    · have hk : okC a b fl = false := by
        unfold okC
        cases h1 : validB a <;> cases h2 : validB b <;> simp [h1, h2] at hc ⊢
      conv => whnf
      rw [if_neg (by rw [hk]; exact Bool.noConfusion)]
      rfl
    · have hk : okC a b fl = true := by
        unfold okC
        cases h1 : validB a <;> cases h2 : validB b <;> simp [h1, h2] at hc ⊢
        exact List.all_eq_true.1 hfl
      rw [if_pos hk]
      conv => whnf
      refine .one _ _ _ (fun _ => found_ok a (by omega)) (by repeat (first | exact .nil | (apply BorL.cons; first | exact lS rfl | exact lR rfl | exact lM rfl rfl | exact lL rfl | exact lX rfl | exact lN | exact lNl | exact lSm rfl | exact lIm rfl | exact lGm rfl | exact lP rfl | exact lQ rfl | exact lB rfl rfl rfl))) (by first | exact .inl rfl | exact .inr (by repeat (first | exact flats_nil | refine flats_cons (by first | exact flat_val _ rfl | exact flat_row (fun _ => rfl) | exact flat_lst (fun _ => rfl)) ?_))) (by first | exact .inr rfl | exact .inl rfl) ?_
      conv => whnf
      refine .one _ _ _ (fun _ => found_ok b (by omega)) (by repeat (first | exact .nil | (apply BorL.cons; first | exact lS rfl | exact lR rfl | exact lM rfl rfl | exact lL rfl | exact lX rfl | exact lN | exact lNl | exact lSm rfl | exact lIm rfl | exact lGm rfl | exact lP rfl | exact lQ rfl | exact lB rfl rfl rfl))) (by first | exact .inl rfl | exact .inr (by repeat (first | exact flats_nil | refine flats_cons (by first | exact flat_val _ rfl | exact flat_row (fun _ => rfl) | exact flat_lst (fun _ => rfl)) ?_))) (by first | exact .inr rfl | exact .inl rfl) ?_
      conv => whnf
      generalize hA1 : goIn b (wayM a b 1 fl) = A1
      generalize hA2 : goOut b (wayM a b 1 fl) = A2
      generalize hB1 : goIn a (wayM a b 0 fl) = B1
      generalize hB2 : goOut a (wayM a b 0 fl) = B2
      generalize hm0 : wayM a b 0 fl = w0 at *
      generalize hm1 : wayM a b 1 fl = w1 at *
      refine loop_up (cxOk _ _) 2 (fun _ => True) (fun n => ⟨[(9, .ptr 0 0), (10, .ptr 1 0), (12, .ptr 4 0), (13, .own 5), (14, .own 6), (48, .agg [encEs a, encEs b]), (49, .int .i64 (n : Nat))], [(0, .cells 61 [encEs a, encEs b]), (1, .cells 63 [.rimap .i64 encB false w0, .rimap .i64 encB false w1]), (2, .imap .i64 encE e0 (foundM a)), (3, .imap .i64 encE e0 (foundM b)), (4, .cells 68 [.map 2, .map 3]), (5, .row 48 5 encE e0 ((if n = 0 then [] else if n = 1 then a.filter A1 else a.filter A1 ++ b.filter B1))), (6, .row 48 5 encE e0 ((if n = 0 then [] else if n = 1 then a.filter A2 else a.filter A2 ++ b.filter B2)))], 7⟩) trivial ((wk_of [(0, .id 0), (1, .id 1), (2, .id 2), (3, .id 3), (4, .id 4), (5, .nil), (6, .nil)] rfl ⟨.base (.ptr _ _ _ rfl), .base (.ptr _ _ _ rfl), .base (.ptr _ _ _ rfl), (by first | exact .base (.own _ _ rfl) | exact .base (.nilown _ rfl) | exact .base (.trunc _ _ _ rfl)), (by first | exact .base (.own _ _ rfl) | exact .base (.nilown _ rfl) | exact .base (.trunc _ _ _ rfl)), .base (.tree _ _ rfl rfl), .base (.tree _ _ rfl rfl), trivial⟩ ⟨⟨_, rfl, .cells _ _ _ _ rfl (by repeat (first | exact .nil | refine .cons (by first | exact .base (.tree _ _ rfl rfl) | exact .base (.own _ _ rfl) | exact .base (.ptr _ _ _ rfl) | exact .base (.map _ _ rfl) | exact .base (.nilown _ rfl) | exact .fn _ _ _ _ _ .nil (by repeat (first | exact .nil | refine .cons (by exact .ptr _ _ _ rfl) ?_))) ?_)) rfl⟩, ⟨_, rfl, .cells _ _ _ _ rfl (by repeat (first | exact .nil | refine .cons (by first | exact .base (.tree _ _ rfl rfl) | exact .base (.own _ _ rfl) | exact .base (.ptr _ _ _ rfl) | exact .base (.map _ _ rfl) | exact .base (.nilown _ rfl) | exact .fn _ _ _ _ _ .nil (by repeat (first | exact .nil | refine .cons (by exact .ptr _ _ _ rfl) ?_))) ?_)) rfl⟩, ⟨_, rfl, (by first | exact .imap _ _ _ _ _ _ rfl rfl | exact .newimap _ _ _ _ _ _ _ _ rfl rfl rfl)⟩, ⟨_, rfl, (by first | exact .imap _ _ _ _ _ _ rfl rfl | exact .newimap _ _ _ _ _ _ _ _ rfl rfl rfl)⟩, ⟨_, rfl, .cells _ _ _ _ rfl (by repeat (first | exact .nil | refine .cons (by first | exact .base (.tree _ _ rfl rfl) | exact .base (.own _ _ rfl) | exact .base (.ptr _ _ _ rfl) | exact .base (.map _ _ rfl) | exact .base (.nilown _ rfl) | exact .fn _ _ _ _ _ .nil (by repeat (first | exact .nil | refine .cons (by exact .ptr _ _ _ rfl) ?_))) ?_)) rfl⟩, ⟨_, rfl, (by first | exact .row _ _ _ _ _ _ _ rfl rfl | exact .lstrow _ _ _ _ _ _ _ rfl rfl | exact .nilrow _ _ _ _ _ rfl | exact .truncrow _ _ _ _ _ _ _ _ rfl (by omega) rfl)⟩, ⟨_, rfl, (by first | exact .row _ _ _ _ _ _ _ rfl rfl | exact .lstrow _ _ _ _ _ _ _ rfl rfl | exact .nilrow _ _ _ _ _ rfl | exact .truncrow _ _ _ _ _ _ _ _ rfl (by omega) rfl)⟩, trivial⟩)) ?_
      intro n hn _
      conv => whnf
      refine ⟨fun hc2 => ?_, fun hc2 => ?_⟩
      · simp only [decide_eq_true_eq] at hc2
        have hn2 : n = 0 ∨ n = 1 := by omega
        rcases hn2 with rfl | rfl
        · conv => whnf
          refine And.intro ⟨by omega, by omega⟩ ?_; conv => whnf
          refine loop_up (cxOk _ _) a.length (fun _ => True) (fun k => ⟨[(9, .ptr 0 0), (10, .ptr 1 0), (12, .ptr 4 0), (13, .own 5), (14, .own 6), (15, .int .i64 0), (16, encEs a), (48, .agg [encEs a, encEs b]), (49, .int .i64 0), (53, encEs a), (54, .int .i64 a.length), (55, .int .i64 (k : Nat))], [(0, .cells 61 [encEs a, encEs b]), (1, .cells 63 [.rimap .i64 encB false w0, .rimap .i64 encB false w1]), (2, .imap .i64 encE e0 (foundM a)), (3, .imap .i64 encE e0 (foundM b)), (4, .cells 68 [.map 2, .map 3]), (5, .row 48 5 encE e0 ((a.take k).filter A1)), (6, .row 48 5 encE e0 ((a.take k).filter A2))], 7⟩) trivial ((wk_of [(0, .id 0), (1, .id 1), (2, .id 2), (3, .id 3), (4, .id 4), (5, .id 5), (6, .id 6)] rfl ⟨.base (.ptr _ _ _ rfl), .base (.ptr _ _ _ rfl), .base (.ptr _ _ _ rfl), (by first | exact .base (.own _ _ rfl) | exact .base (.nilown _ rfl) | exact .base (.trunc _ _ _ rfl)), (by first | exact .base (.own _ _ rfl) | exact .base (.nilown _ rfl) | exact .base (.trunc _ _ _ rfl)), .base (.tree _ _ rfl rfl), .base (.tree _ _ rfl rfl), .base (.tree _ _ rfl rfl), .base (.tree _ _ rfl rfl), .base (.tree _ _ rfl rfl), .base (.tree _ _ rfl rfl), .base (.tree _ _ rfl rfl), trivial⟩ ⟨⟨_, rfl, .cells _ _ _ _ rfl (by repeat (first | exact .nil | refine .cons (by first | exact .base (.tree _ _ rfl rfl) | exact .base (.own _ _ rfl) | exact .base (.ptr _ _ _ rfl) | exact .base (.map _ _ rfl) | exact .base (.nilown _ rfl) | exact .fn _ _ _ _ _ .nil (by repeat (first | exact .nil | refine .cons (by exact .ptr _ _ _ rfl) ?_))) ?_)) rfl⟩, ⟨_, rfl, .cells _ _ _ _ rfl (by repeat (first | exact .nil | refine .cons (by first | exact .base (.tree _ _ rfl rfl) | exact .base (.own _ _ rfl) | exact .base (.ptr _ _ _ rfl) | exact .base (.map _ _ rfl) | exact .base (.nilown _ rfl) | exact .fn _ _ _ _ _ .nil (by repeat (first | exact .nil | refine .cons (by exact .ptr _ _ _ rfl) ?_))) ?_)) rfl⟩, ⟨_, rfl, (by first | exact .imap _ _ _ _ _ _ rfl rfl | exact .newimap _ _ _ _ _ _ _ _ rfl rfl rfl)⟩, ⟨_, rfl, (by first | exact .imap _ _ _ _ _ _ rfl rfl | exact .newimap _ _ _ _ _ _ _ _ rfl rfl rfl)⟩, ⟨_, rfl, .cells _ _ _ _ rfl (by repeat (first | exact .nil | refine .cons (by first | exact .base (.tree _ _ rfl rfl) | exact .base (.own _ _ rfl) | exact .base (.ptr _ _ _ rfl) | exact .base (.map _ _ rfl) | exact .base (.nilown _ rfl) | exact .fn _ _ _ _ _ .nil (by repeat (first | exact .nil | refine .cons (by exact .ptr _ _ _ rfl) ?_))) ?_)) rfl⟩, ⟨_, rfl, (by first | exact .row _ _ _ _ _ _ _ rfl rfl | exact .lstrow _ _ _ _ _ _ _ rfl rfl | exact .nilrow _ _ _ _ _ rfl | exact .truncrow _ _ _ _ _ _ _ _ rfl (by omega) rfl)⟩, ⟨_, rfl, (by first | exact .row _ _ _ _ _ _ _ rfl rfl | exact .lstrow _ _ _ _ _ _ _ rfl rfl | exact .nilrow _ _ _ _ _ rfl | exact .truncrow _ _ _ _ _ _ _ _ rfl (by omega) rfl)⟩, trivial⟩)) ?_
          intro k hk _
          conv => whnf
          refine ⟨fun hc3 => ?_, fun hc3 => ?_⟩
          · simp only [decide_eq_true_eq] at hc3
            have hlt : k < a.length := by omega
            have f1 := filter_snoc A1 (a.take k) (a.getD k e0)
            have f2 := filter_snoc A2 (a.take k) (a.getD k e0)
            have hck : a.getD (k : Int).toNat e0 = a.getD k e0 := by rw [Int.toNat_natCast]
            rw [← take_getD (d := e0) hlt] at f1 f2
            generalize a.getD k e0 = e at *
            have l1 : ((a.take k).filter A1).length ≤ 20 := Nat.le_trans (List.length_filter_le _ _) (by rw [List.length_take]; omega)
            have l2 : ((a.take k).filter A2).length ≤ 20 := Nat.le_trans (List.length_filter_le _ _) (by rw [List.length_take]; omega)
            conv => whnf
            refine And.intro ⟨by omega, by omega⟩ ?_; conv => whnf
            refine And.intro rfl ?_; conv => whnf
            refine .eff (by first | exact cxOk _ _ | exact cxPOk _ _ _) ?_; conv => whnf
            refine And.intro ⟨by omega, by omega⟩ ?_; conv => whnf
            refine And.intro ⟨by omega, by omega⟩ ?_; conv => whnf
            refine And.intro rfl ?_; conv => whnf
            refine And.intro rfl ?_; conv => whnf
            rw [hck]
            cases ho : mget (foundM b) e.id with
            | none =>
              refine ⟨⟨by kernel_rfl, by kernel_rfl⟩, ?_⟩
              conv => whnf
              refine ⟨fun h => by simp at h, fun _ => ?_⟩
              conv => whnf
              refine .quiet (by kernel_rfl) ?_; conv => whnf
              refine And.intro (fun _ => ⟨by omega, by omega⟩) ?_; conv => whnf
              refine And.intro (by omega) (And.intro rfl ?_); conv => whnf
              refine ⟨fun hd => ?_, fun hd => ?_⟩
              · have g1 : A1 e = true := by rw [← hA1]; unfold goIn; rw [ho]; simpa using hd
                have g2 : A2 e = false := by rw [← hA2]; unfold goOut; rw [ho]; simpa using hd
                rw [if_pos g1] at f1
                rw [if_neg (by rw [g2]; exact Bool.noConfusion)] at f2
                conv => whnf
                refine And.intro rfl ?_; conv => whnf
                refine And.intro ⟨rfl, rfl⟩ (And.intro (show (((a.take k).filter A1).length + 1) * 40 ≤ 140737488355328 by omega) ?_)
                conv => whnf
                refine Exists.intro _ (And.intro rfl ?_); conv => whnf
                refine And.intro ⟨by omega, by omega⟩ ?_; conv => whnf
                refine up hlt trivial ((wk_of [(0, .id 0), (1, .id 1), (2, .id 2), (3, .id 3), (4, .id 4), (5, .id 10), (6, .id 6)] rfl ⟨.base (.ptr _ _ _ rfl), .base (.ptr _ _ _ rfl), .base (.ptr _ _ _ rfl), (by first | exact .base (.own _ _ rfl) | exact .base (.nilown _ rfl) | exact .base (.trunc _ _ _ rfl)), (by first | exact .base (.own _ _ rfl) | exact .base (.nilown _ rfl) | exact .base (.trunc _ _ _ rfl)), .base (.tree _ _ rfl rfl), .base (.tree _ _ rfl rfl), .base (.tree _ _ rfl rfl), .base (.tree _ _ rfl rfl), .base (.tree _ _ rfl rfl), .base (.tree _ _ rfl rfl), .base (.tree _ _ rfl rfl), trivial⟩ ⟨⟨_, rfl, .cells _ _ _ _ rfl (by repeat (first | exact .nil | refine .cons (by first | exact .base (.tree _ _ rfl rfl) | exact .base (.own _ _ rfl) | exact .base (.ptr _ _ _ rfl) | exact .base (.map _ _ rfl) | exact .base (.nilown _ rfl) | exact .fn _ _ _ _ _ .nil (by repeat (first | exact .nil | refine .cons (by exact .ptr _ _ _ rfl) ?_))) ?_)) rfl⟩, ⟨_, rfl, .cells _ _ _ _ rfl (by repeat (first | exact .nil | refine .cons (by first | exact .base (.tree _ _ rfl rfl) | exact .base (.own _ _ rfl) | exact .base (.ptr _ _ _ rfl) | exact .base (.map _ _ rfl) | exact .base (.nilown _ rfl) | exact .fn _ _ _ _ _ .nil (by repeat (first | exact .nil | refine .cons (by exact .ptr _ _ _ rfl) ?_))) ?_)) rfl⟩, ⟨_, rfl, (by first | exact .imap _ _ _ _ _ _ rfl rfl | exact .newimap _ _ _ _ _ _ _ _ rfl rfl rfl)⟩, ⟨_, rfl, (by first | exact .imap _ _ _ _ _ _ rfl rfl | exact .newimap _ _ _ _ _ _ _ _ rfl rfl rfl)⟩, ⟨_, rfl, .cells _ _ _ _ rfl (by repeat (first | exact .nil | refine .cons (by first | exact .base (.tree _ _ rfl rfl) | exact .base (.own _ _ rfl) | exact .base (.ptr _ _ _ rfl) | exact .base (.map _ _ rfl) | exact .base (.nilown _ rfl) | exact .fn _ _ _ _ _ .nil (by repeat (first | exact .nil | refine .cons (by exact .ptr _ _ _ rfl) ?_))) ?_)) rfl⟩, ⟨_, rfl, (by first | exact .row _ _ _ _ _ _ _ rfl f1.symm | exact .lstrow _ _ _ _ _ _ _ rfl f1.symm | exact .nilrow _ _ _ _ _ f1.symm | exact .truncrow _ _ _ _ _ _ _ _ rfl (by omega) f1.symm)⟩, ⟨_, rfl, (by first | exact .row _ _ _ _ _ _ _ rfl f2.symm | exact .lstrow _ _ _ _ _ _ _ rfl f2.symm | exact .nilrow _ _ _ _ _ f2.symm | exact .truncrow _ _ _ _ _ _ _ _ rfl (by omega) f2.symm)⟩, trivial⟩))
              · have g1 : A1 e = false := by rw [← hA1]; unfold goIn; rw [ho]; simpa using hd
                have g2 : A2 e = true := by rw [← hA2]; unfold goOut; rw [ho]; simpa using hd
                rw [if_neg (by rw [g1]; exact Bool.noConfusion)] at f1
                rw [if_pos g2] at f2
                conv => whnf
                refine And.intro (fun _ => ?_) (fun h => absurd h (by decide)); conv => whnf
                refine And.intro rfl ?_; conv => whnf
                refine And.intro ⟨rfl, rfl⟩ (And.intro (show (((a.take k).filter A2).length + 1) * 40 ≤ 140737488355328 by omega) ?_)
                conv => whnf
                refine Exists.intro _ (And.intro rfl ?_); conv => whnf
                refine And.intro ⟨by omega, by omega⟩ ?_; conv => whnf
                refine up hlt trivial ((wk_of [(0, .id 0), (1, .id 1), (2, .id 2), (3, .id 3), (4, .id 4), (5, .id 5), (6, .id 10)] rfl ⟨.base (.ptr _ _ _ rfl), .base (.ptr _ _ _ rfl), .base (.ptr _ _ _ rfl), (by first | exact .base (.own _ _ rfl) | exact .base (.nilown _ rfl) | exact .base (.trunc _ _ _ rfl)), (by first | exact .base (.own _ _ rfl) | exact .base (.nilown _ rfl) | exact .base (.trunc _ _ _ rfl)), .base (.tree _ _ rfl rfl), .base (.tree _ _ rfl rfl), .base (.tree _ _ rfl rfl), .base (.tree _ _ rfl rfl), .base (.tree _ _ rfl rfl), .base (.tree _ _ rfl rfl), .base (.tree _ _ rfl rfl), trivial⟩ ⟨⟨_, rfl, .cells _ _ _ _ rfl (by repeat (first | exact .nil | refine .cons (by first | exact .base (.tree _ _ rfl rfl) | exact .base (.own _ _ rfl) | exact .base (.ptr _ _ _ rfl) | exact .base (.map _ _ rfl) | exact .base (.nilown _ rfl) | exact .fn _ _ _ _ _ .nil (by repeat (first | exact .nil | refine .cons (by exact .ptr _ _ _ rfl) ?_))) ?_)) rfl⟩, ⟨_, rfl, .cells _ _ _ _ rfl (by repeat (first | exact .nil | refine .cons (by first | exact .base (.tree _ _ rfl rfl) | exact .base (.own _ _ rfl) | exact .base (.ptr _ _ _ rfl) | exact .base (.map _ _ rfl) | exact .base (.nilown _ rfl) | exact .fn _ _ _ _ _ .nil (by repeat (first | exact .nil | refine .cons (by exact .ptr _ _ _ rfl) ?_))) ?_)) rfl⟩, ⟨_, rfl, (by first | exact .imap _ _ _ _ _ _ rfl rfl | exact .newimap _ _ _ _ _ _ _ _ rfl rfl rfl)⟩, ⟨_, rfl, (by first | exact .imap _ _ _ _ _ _ rfl rfl | exact .newimap _ _ _ _ _ _ _ _ rfl rfl rfl)⟩, ⟨_, rfl, .cells _ _ _ _ rfl (by repeat (first | exact .nil | refine .cons (by first | exact .base (.tree _ _ rfl rfl) | exact .base (.own _ _ rfl) | exact .base (.ptr _ _ _ rfl) | exact .base (.map _ _ rfl) | exact .base (.nilown _ rfl) | exact .fn _ _ _ _ _ .nil (by repeat (first | exact .nil | refine .cons (by exact .ptr _ _ _ rfl) ?_))) ?_)) rfl⟩, ⟨_, rfl, (by first | exact .row _ _ _ _ _ _ _ rfl f1.symm | exact .lstrow _ _ _ _ _ _ _ rfl f1.symm | exact .nilrow _ _ _ _ _ f1.symm | exact .truncrow _ _ _ _ _ _ _ _ rfl (by omega) f1.symm)⟩, ⟨_, rfl, (by first | exact .row _ _ _ _ _ _ _ rfl f2.symm | exact .lstrow _ _ _ _ _ _ _ rfl f2.symm | exact .nilrow _ _ _ _ _ f2.symm | exact .truncrow _ _ _ _ _ _ _ _ rfl (by omega) f2.symm)⟩, trivial⟩))
            | some x =>
              have g1 : A1 e = false := by rw [← hA1]; unfold goIn; rw [ho]; rfl
              rw [if_neg (by rw [g1]; exact Bool.noConfusion)] at f1
              refine ⟨⟨by kernel_rfl, by kernel_rfl⟩, ?_⟩
              conv => whnf
              refine ⟨fun hd => ?_, fun hd => ?_⟩
              · have g2 : A2 e = true := by rw [← hA2]; unfold goOut; rw [ho]; exact hd
                rw [if_pos g2] at f2
                conv => whnf
                refine And.intro rfl ?_; conv => whnf
                refine And.intro ⟨rfl, rfl⟩ (And.intro (show (((a.take k).filter A2).length + 1) * 40 ≤ 140737488355328 by omega) ?_)
                conv => whnf
                refine Exists.intro _ (And.intro rfl ?_); conv => whnf
                refine And.intro ⟨by omega, by omega⟩ ?_; conv => whnf
                refine up hlt trivial ((wk_of [(0, .id 0), (1, .id 1), (2, .id 2), (3, .id 3), (4, .id 4), (5, .id 5), (6, .id 10)] rfl ⟨.base (.ptr _ _ _ rfl), .base (.ptr _ _ _ rfl), .base (.ptr _ _ _ rfl), (by first | exact .base (.own _ _ rfl) | exact .base (.nilown _ rfl) | exact .base (.trunc _ _ _ rfl)), (by first | exact .base (.own _ _ rfl) | exact .base (.nilown _ rfl) | exact .base (.trunc _ _ _ rfl)), .base (.tree _ _ rfl rfl), .base (.tree _ _ rfl rfl), .base (.tree _ _ rfl rfl), .base (.tree _ _ rfl rfl), .base (.tree _ _ rfl rfl), .base (.tree _ _ rfl rfl), .base (.tree _ _ rfl rfl), trivial⟩ ⟨⟨_, rfl, .cells _ _ _ _ rfl (by repeat (first | exact .nil | refine .cons (by first | exact .base (.tree _ _ rfl rfl) | exact .base (.own _ _ rfl) | exact .base (.ptr _ _ _ rfl) | exact .base (.map _ _ rfl) | exact .base (.nilown _ rfl) | exact .fn _ _ _ _ _ .nil (by repeat (first | exact .nil | refine .cons (by exact .ptr _ _ _ rfl) ?_))) ?_)) rfl⟩, ⟨_, rfl, .cells _ _ _ _ rfl (by repeat (first | exact .nil | refine .cons (by first | exact .base (.tree _ _ rfl rfl) | exact .base (.own _ _ rfl) | exact .base (.ptr _ _ _ rfl) | exact .base (.map _ _ rfl) | exact .base (.nilown _ rfl) | exact .fn _ _ _ _ _ .nil (by repeat (first | exact .nil | refine .cons (by exact .ptr _ _ _ rfl) ?_))) ?_)) rfl⟩, ⟨_, rfl, (by first | exact .imap _ _ _ _ _ _ rfl rfl | exact .newimap _ _ _ _ _ _ _ _ rfl rfl rfl)⟩, ⟨_, rfl, (by first | exact .imap _ _ _ _ _ _ rfl rfl | exact .newimap _ _ _ _ _ _ _ _ rfl rfl rfl)⟩, ⟨_, rfl, .cells _ _ _ _ rfl (by repeat (first | exact .nil | refine .cons (by first | exact .base (.tree _ _ rfl rfl) | exact .base (.own _ _ rfl) | exact .base (.ptr _ _ _ rfl) | exact .base (.map _ _ rfl) | exact .base (.nilown _ rfl) | exact .fn _ _ _ _ _ .nil (by repeat (first | exact .nil | refine .cons (by exact .ptr _ _ _ rfl) ?_))) ?_)) rfl⟩, ⟨_, rfl, (by first | exact .row _ _ _ _ _ _ _ rfl f1.symm | exact .lstrow _ _ _ _ _ _ _ rfl f1.symm | exact .nilrow _ _ _ _ _ f1.symm | exact .truncrow _ _ _ _ _ _ _ _ rfl (by omega) f1.symm)⟩, ⟨_, rfl, (by first | exact .row _ _ _ _ _ _ _ rfl f2.symm | exact .lstrow _ _ _ _ _ _ _ rfl f2.symm | exact .nilrow _ _ _ _ _ f2.symm | exact .truncrow _ _ _ _ _ _ _ _ rfl (by omega) f2.symm)⟩, trivial⟩))
              · have g2 : A2 e = false := by rw [← hA2]; unfold goOut; rw [ho]; exact hd
                rw [if_neg (by rw [g2]; exact Bool.noConfusion)] at f2
                conv => whnf
                refine .quiet (by kernel_rfl) ?_; conv => whnf
                refine And.intro (fun _ => ⟨by omega, by omega⟩) ?_; conv => whnf
                refine And.intro (by omega) (And.intro rfl ?_); conv => whnf
                refine ⟨fun h => by simp at h, fun _ => ?_⟩
                conv => whnf
                refine ⟨fun h => by simp at h, fun _ => ?_⟩
                conv => whnf
                refine And.intro ⟨by omega, by omega⟩ ?_; conv => whnf
                refine up hlt trivial ((wk_of [(0, .id 0), (1, .id 1), (2, .id 2), (3, .id 3), (4, .id 4), (5, .id 5), (6, .id 6)] rfl ⟨.base (.ptr _ _ _ rfl), .base (.ptr _ _ _ rfl), .base (.ptr _ _ _ rfl), (by first | exact .base (.own _ _ rfl) | exact .base (.nilown _ rfl) | exact .base (.trunc _ _ _ rfl)), (by first | exact .base (.own _ _ rfl) | exact .base (.nilown _ rfl) | exact .base (.trunc _ _ _ rfl)), .base (.tree _ _ rfl rfl), .base (.tree _ _ rfl rfl), .base (.tree _ _ rfl rfl), .base (.tree _ _ rfl rfl), .base (.tree _ _ rfl rfl), .base (.tree _ _ rfl rfl), .base (.tree _ _ rfl rfl), trivial⟩ ⟨⟨_, rfl, .cells _ _ _ _ rfl (by repeat (first | exact .nil | refine .cons (by first | exact .base (.tree _ _ rfl rfl) | exact .base (.own _ _ rfl) | exact .base (.ptr _ _ _ rfl) | exact .base (.map _ _ rfl) | exact .base (.nilown _ rfl) | exact .fn _ _ _ _ _ .nil (by repeat (first | exact .nil | refine .cons (by exact .ptr _ _ _ rfl) ?_))) ?_)) rfl⟩, ⟨_, rfl, .cells _ _ _ _ rfl (by repeat (first | exact .nil | refine .cons (by first | exact .base (.tree _ _ rfl rfl) | exact .base (.own _ _ rfl) | exact .base (.ptr _ _ _ rfl) | exact .base (.map _ _ rfl) | exact .base (.nilown _ rfl) | exact .fn _ _ _ _ _ .nil (by repeat (first | exact .nil | refine .cons (by exact .ptr _ _ _ rfl) ?_))) ?_)) rfl⟩, ⟨_, rfl, (by first | exact .imap _ _ _ _ _ _ rfl rfl | exact .newimap _ _ _ _ _ _ _ _ rfl rfl rfl)⟩, ⟨_, rfl, (by first | exact .imap _ _ _ _ _ _ rfl rfl | exact .newimap _ _ _ _ _ _ _ _ rfl rfl rfl)⟩, ⟨_, rfl, .cells _ _ _ _ rfl (by repeat (first | exact .nil | refine .cons (by first | exact .base (.tree _ _ rfl rfl) | exact .base (.own _ _ rfl) | exact .base (.ptr _ _ _ rfl) | exact .base (.map _ _ rfl) | exact .base (.nilown _ rfl) | exact .fn _ _ _ _ _ .nil (by repeat (first | exact .nil | refine .cons (by exact .ptr _ _ _ rfl) ?_))) ?_)) rfl⟩, ⟨_, rfl, (by first | exact .row _ _ _ _ _ _ _ rfl f1.symm | exact .lstrow _ _ _ _ _ _ _ rfl f1.symm | exact .nilrow _ _ _ _ _ f1.symm | exact .truncrow _ _ _ _ _ _ _ _ rfl (by omega) f1.symm)⟩, ⟨_, rfl, (by first | exact .row _ _ _ _ _ _ _ rfl f2.symm | exact .lstrow _ _ _ _ _ _ _ rfl f2.symm | exact .nilrow _ _ _ _ _ f2.symm | exact .truncrow _ _ _ _ _ _ _ _ rfl (by omega) f2.symm)⟩, trivial⟩))
          · simp only [decide_eq_false_iff_not] at hc3
            obtain rfl : k = a.length := by omega
            rw [List.take_of_length_le (Nat.le_refl _)]
            conv => whnf
            refine And.intro ⟨by omega, by omega⟩ ?_; conv => whnf
            refine up (by omega) trivial ((wk_of [(0, .id 0), (1, .id 1), (2, .id 2), (3, .id 3), (4, .id 4), (5, .id 5), (6, .id 6)] rfl ⟨.base (.ptr _ _ _ rfl), .base (.ptr _ _ _ rfl), .base (.ptr _ _ _ rfl), (by first | exact .base (.own _ _ rfl) | exact .base (.nilown _ rfl) | exact .base (.trunc _ _ _ rfl)), (by first | exact .base (.own _ _ rfl) | exact .base (.nilown _ rfl) | exact .base (.trunc _ _ _ rfl)), .base (.tree _ _ rfl rfl), .base (.tree _ _ rfl rfl), trivial⟩ ⟨⟨_, rfl, .cells _ _ _ _ rfl (by repeat (first | exact .nil | refine .cons (by first | exact .base (.tree _ _ rfl rfl) | exact .base (.own _ _ rfl) | exact .base (.ptr _ _ _ rfl) | exact .base (.map _ _ rfl) | exact .base (.nilown _ rfl) | exact .fn _ _ _ _ _ .nil (by repeat (first | exact .nil | refine .cons (by exact .ptr _ _ _ rfl) ?_))) ?_)) rfl⟩, ⟨_, rfl, .cells _ _ _ _ rfl (by repeat (first | exact .nil | refine .cons (by first | exact .base (.tree _ _ rfl rfl) | exact .base (.own _ _ rfl) | exact .base (.ptr _ _ _ rfl) | exact .base (.map _ _ rfl) | exact .base (.nilown _ rfl) | exact .fn _ _ _ _ _ .nil (by repeat (first | exact .nil | refine .cons (by exact .ptr _ _ _ rfl) ?_))) ?_)) rfl⟩, ⟨_, rfl, (by first | exact .imap _ _ _ _ _ _ rfl rfl | exact .newimap _ _ _ _ _ _ _ _ rfl rfl rfl)⟩, ⟨_, rfl, (by first | exact .imap _ _ _ _ _ _ rfl rfl | exact .newimap _ _ _ _ _ _ _ _ rfl rfl rfl)⟩, ⟨_, rfl, .cells _ _ _ _ rfl (by repeat (first | exact .nil | refine .cons (by first | exact .base (.tree _ _ rfl rfl) | exact .base (.own _ _ rfl) | exact .base (.ptr _ _ _ rfl) | exact .base (.map _ _ rfl) | exact .base (.nilown _ rfl) | exact .fn _ _ _ _ _ .nil (by repeat (first | exact .nil | refine .cons (by exact .ptr _ _ _ rfl) ?_))) ?_)) rfl⟩, ⟨_, rfl, (by first | exact .row _ _ _ _ _ _ _ rfl rfl | exact .lstrow _ _ _ _ _ _ _ rfl rfl | exact .nilrow _ _ _ _ _ rfl | exact .truncrow _ _ _ _ _ _ _ _ rfl (by omega) rfl)⟩, ⟨_, rfl, (by first | exact .row _ _ _ _ _ _ _ rfl rfl | exact .lstrow _ _ _ _ _ _ _ rfl rfl | exact .nilrow _ _ _ _ _ rfl | exact .truncrow _ _ _ _ _ _ _ _ rfl (by omega) rfl)⟩, trivial⟩))
        · conv => whnf
          refine And.intro ⟨by omega, by omega⟩ ?_; conv => whnf
          refine loop_up (cxOk _ _) b.length (fun _ => True) (fun k => ⟨[(9, .ptr 0 0), (10, .ptr 1 0), (12, .ptr 4 0), (13, .own 5), (14, .own 6), (15, .int .i64 1), (16, encEs b), (48, .agg [encEs a, encEs b]), (49, .int .i64 1), (53, encEs b), (54, .int .i64 b.length), (55, .int .i64 (k : Nat))], [(0, .cells 61 [encEs a, encEs b]), (1, .cells 63 [.rimap .i64 encB false w0, .rimap .i64 encB false w1]), (2, .imap .i64 encE e0 (foundM a)), (3, .imap .i64 encE e0 (foundM b)), (4, .cells 68 [.map 2, .map 3]), (5, .row 48 5 encE e0 (a.filter A1 ++ (b.take k).filter B1)), (6, .row 48 5 encE e0 (a.filter A2 ++ (b.take k).filter B2))], 7⟩) trivial ((wk_of [(0, .id 0), (1, .id 1), (2, .id 2), (3, .id 3), (4, .id 4), (5, .id 5), (6, .id 6)] rfl ⟨.base (.ptr _ _ _ rfl), .base (.ptr _ _ _ rfl), .base (.ptr _ _ _ rfl), (by first | exact .base (.own _ _ rfl) | exact .base (.nilown _ rfl) | exact .base (.trunc _ _ _ rfl)), (by first | exact .base (.own _ _ rfl) | exact .base (.nilown _ rfl) | exact .base (.trunc _ _ _ rfl)), .base (.tree _ _ rfl rfl), .base (.tree _ _ rfl rfl), .base (.tree _ _ rfl rfl), .base (.tree _ _ rfl rfl), .base (.tree _ _ rfl rfl), .base (.tree _ _ rfl rfl), .base (.tree _ _ rfl rfl), trivial⟩ ⟨⟨_, rfl, .cells _ _ _ _ rfl (by repeat (first | exact .nil | refine .cons (by first | exact .base (.tree _ _ rfl rfl) | exact .base (.own _ _ rfl) | exact .base (.ptr _ _ _ rfl) | exact .base (.map _ _ rfl) | exact .base (.nilown _ rfl) | exact .fn _ _ _ _ _ .nil (by repeat (first | exact .nil | refine .cons (by exact .ptr _ _ _ rfl) ?_))) ?_)) rfl⟩, ⟨_, rfl, .cells _ _ _ _ rfl (by repeat (first | exact .nil | refine .cons (by first | exact .base (.tree _ _ rfl rfl) | exact .base (.own _ _ rfl) | exact .base (.ptr _ _ _ rfl) | exact .base (.map _ _ rfl) | exact .base (.nilown _ rfl) | exact .fn _ _ _ _ _ .nil (by repeat (first | exact .nil | refine .cons (by exact .ptr _ _ _ rfl) ?_))) ?_)) rfl⟩, ⟨_, rfl, (by first | exact .imap _ _ _ _ _ _ rfl rfl | exact .newimap _ _ _ _ _ _ _ _ rfl rfl rfl)⟩, ⟨_, rfl, (by first | exact .imap _ _ _ _ _ _ rfl rfl | exact .newimap _ _ _ _ _ _ _ _ rfl rfl rfl)⟩, ⟨_, rfl, .cells _ _ _ _ rfl (by repeat (first | exact .nil | refine .cons (by first | exact .base (.tree _ _ rfl rfl) | exact .base (.own _ _ rfl) | exact .base (.ptr _ _ _ rfl) | exact .base (.map _ _ rfl) | exact .base (.nilown _ rfl) | exact .fn _ _ _ _ _ .nil (by repeat (first | exact .nil | refine .cons (by exact .ptr _ _ _ rfl) ?_))) ?_)) rfl⟩, ⟨_, rfl, (by first | exact .row _ _ _ _ _ _ _ rfl (show a.filter A1 = a.filter A1 ++ ([] : List Ent).filter B1 by simp) | exact .lstrow _ _ _ _ _ _ _ rfl (show a.filter A1 = a.filter A1 ++ ([] : List Ent).filter B1 by simp) | exact .nilrow _ _ _ _ _ (show a.filter A1 = a.filter A1 ++ ([] : List Ent).filter B1 by simp) | exact .truncrow _ _ _ _ _ _ _ _ rfl (by omega) (show a.filter A1 = a.filter A1 ++ ([] : List Ent).filter B1 by simp))⟩, ⟨_, rfl, (by first | exact .row _ _ _ _ _ _ _ rfl (show a.filter A2 = a.filter A2 ++ ([] : List Ent).filter B2 by simp) | exact .lstrow _ _ _ _ _ _ _ rfl (show a.filter A2 = a.filter A2 ++ ([] : List Ent).filter B2 by simp) | exact .nilrow _ _ _ _ _ (show a.filter A2 = a.filter A2 ++ ([] : List Ent).filter B2 by simp) | exact .truncrow _ _ _ _ _ _ _ _ rfl (by omega) (show a.filter A2 = a.filter A2 ++ ([] : List Ent).filter B2 by simp))⟩, trivial⟩)) ?_
          intro k hk _
          conv => whnf
          refine ⟨fun hc3 => ?_, fun hc3 => ?_⟩
          · simp only [decide_eq_true_eq] at hc3
            have hlt : k < b.length := by omega
            have f1 := filter_snoc B1 (b.take k) (b.getD k e0)
            have f2 := filter_snoc B2 (b.take k) (b.getD k e0)
            have hck : b.getD (k : Int).toNat e0 = b.getD k e0 := by rw [Int.toNat_natCast]
            rw [← take_getD (d := e0) hlt] at f1 f2
            generalize b.getD k e0 = e at *
            have l1 : (a.filter A1 ++ (b.take k).filter B1).length ≤ 40 := by rw [List.length_append]; have := List.length_filter_le A1 a; have := List.length_filter_le B1 (b.take k); have : (b.take k).length ≤ 20 := (by rw [List.length_take]; omega); omega
            have l2 : (a.filter A2 ++ (b.take k).filter B2).length ≤ 40 := by rw [List.length_append]; have := List.length_filter_le A2 a; have := List.length_filter_le B2 (b.take k); have : (b.take k).length ≤ 20 := (by rw [List.length_take]; omega); omega
            conv => whnf
            refine And.intro ⟨by omega, by omega⟩ ?_; conv => whnf
            refine And.intro rfl ?_; conv => whnf
            refine .eff (by first | exact cxOk _ _ | exact cxPOk _ _ _) ?_; conv => whnf
            refine And.intro ⟨by omega, by omega⟩ ?_; conv => whnf
            refine And.intro ⟨by omega, by omega⟩ ?_; conv => whnf
            refine And.intro rfl ?_; conv => whnf
            refine And.intro rfl ?_; conv => whnf
            rw [hck]
            cases ho : mget (foundM a) e.id with
            | none =>
              refine ⟨⟨by kernel_rfl, by kernel_rfl⟩, ?_⟩
              conv => whnf
              refine ⟨fun h => by simp at h, fun _ => ?_⟩
              conv => whnf
              refine .quiet (by kernel_rfl) ?_; conv => whnf
              refine And.intro (fun _ => ⟨by omega, by omega⟩) ?_; conv => whnf
              refine And.intro (by omega) (And.intro rfl ?_); conv => whnf
              refine ⟨fun hd => ?_, fun hd => ?_⟩
              · have g1 : B1 e = true := by rw [← hB1]; unfold goIn; rw [ho]; simpa using hd
                have g2 : B2 e = false := by rw [← hB2]; unfold goOut; rw [ho]; simpa using hd
                rw [if_pos g1] at f1
                rw [if_neg (by rw [g2]; exact Bool.noConfusion)] at f2
                conv => whnf
                refine And.intro rfl ?_; conv => whnf
                refine And.intro ⟨rfl, rfl⟩ (And.intro (show ((a.filter A1 ++ (b.take k).filter B1).length + 1) * 40 ≤ 140737488355328 by omega) ?_)
                conv => whnf
                refine Exists.intro _ (And.intro rfl ?_); conv => whnf
                refine And.intro ⟨by omega, by omega⟩ ?_; conv => whnf
                refine up hlt trivial ((wk_of [(0, .id 0), (1, .id 1), (2, .id 2), (3, .id 3), (4, .id 4), (5, .id 10), (6, .id 6)] rfl ⟨.base (.ptr _ _ _ rfl), .base (.ptr _ _ _ rfl), .base (.ptr _ _ _ rfl), (by first | exact .base (.own _ _ rfl) | exact .base (.nilown _ rfl) | exact .base (.trunc _ _ _ rfl)), (by first | exact .base (.own _ _ rfl) | exact .base (.nilown _ rfl) | exact .base (.trunc _ _ _ rfl)), .base (.tree _ _ rfl rfl), .base (.tree _ _ rfl rfl), .base (.tree _ _ rfl rfl), .base (.tree _ _ rfl rfl), .base (.tree _ _ rfl rfl), .base (.tree _ _ rfl rfl), .base (.tree _ _ rfl rfl), trivial⟩ ⟨⟨_, rfl, .cells _ _ _ _ rfl (by repeat (first | exact .nil | refine .cons (by first | exact .base (.tree _ _ rfl rfl) | exact .base (.own _ _ rfl) | exact .base (.ptr _ _ _ rfl) | exact .base (.map _ _ rfl) | exact .base (.nilown _ rfl) | exact .fn _ _ _ _ _ .nil (by repeat (first | exact .nil | refine .cons (by exact .ptr _ _ _ rfl) ?_))) ?_)) rfl⟩, ⟨_, rfl, .cells _ _ _ _ rfl (by repeat (first | exact .nil | refine .cons (by first | exact .base (.tree _ _ rfl rfl) | exact .base (.own _ _ rfl) | exact .base (.ptr _ _ _ rfl) | exact .base (.map _ _ rfl) | exact .base (.nilown _ rfl) | exact .fn _ _ _ _ _ .nil (by repeat (first | exact .nil | refine .cons (by exact .ptr _ _ _ rfl) ?_))) ?_)) rfl⟩, ⟨_, rfl, (by first | exact .imap _ _ _ _ _ _ rfl rfl | exact .newimap _ _ _ _ _ _ _ _ rfl rfl rfl)⟩, ⟨_, rfl, (by first | exact .imap _ _ _ _ _ _ rfl rfl | exact .newimap _ _ _ _ _ _ _ _ rfl rfl rfl)⟩, ⟨_, rfl, .cells _ _ _ _ rfl (by repeat (first | exact .nil | refine .cons (by first | exact .base (.tree _ _ rfl rfl) | exact .base (.own _ _ rfl) | exact .base (.ptr _ _ _ rfl) | exact .base (.map _ _ rfl) | exact .base (.nilown _ rfl) | exact .fn _ _ _ _ _ .nil (by repeat (first | exact .nil | refine .cons (by exact .ptr _ _ _ rfl) ?_))) ?_)) rfl⟩, ⟨_, rfl, (by first | exact .row _ _ _ _ _ _ _ rfl (show a.filter A1 ++ (b.take k).filter B1 ++ [e] = a.filter A1 ++ (b.take (k + 1)).filter B1 by rw [f1, List.append_assoc]) | exact .lstrow _ _ _ _ _ _ _ rfl (show a.filter A1 ++ (b.take k).filter B1 ++ [e] = a.filter A1 ++ (b.take (k + 1)).filter B1 by rw [f1, List.append_assoc]) | exact .nilrow _ _ _ _ _ (show a.filter A1 ++ (b.take k).filter B1 ++ [e] = a.filter A1 ++ (b.take (k + 1)).filter B1 by rw [f1, List.append_assoc]) | exact .truncrow _ _ _ _ _ _ _ _ rfl (by omega) (show a.filter A1 ++ (b.take k).filter B1 ++ [e] = a.filter A1 ++ (b.take (k + 1)).filter B1 by rw [f1, List.append_assoc]))⟩, ⟨_, rfl, (by first | exact .row _ _ _ _ _ _ _ rfl (show a.filter A2 ++ (b.take k).filter B2 = a.filter A2 ++ (b.take (k + 1)).filter B2 by rw [f2]) | exact .lstrow _ _ _ _ _ _ _ rfl (show a.filter A2 ++ (b.take k).filter B2 = a.filter A2 ++ (b.take (k + 1)).filter B2 by rw [f2]) | exact .nilrow _ _ _ _ _ (show a.filter A2 ++ (b.take k).filter B2 = a.filter A2 ++ (b.take (k + 1)).filter B2 by rw [f2]) | exact .truncrow _ _ _ _ _ _ _ _ rfl (by omega) (show a.filter A2 ++ (b.take k).filter B2 = a.filter A2 ++ (b.take (k + 1)).filter B2 by rw [f2]))⟩, trivial⟩))
              · have g1 : B1 e = false := by rw [← hB1]; unfold goIn; rw [ho]; simpa using hd
                have g2 : B2 e = true := by rw [← hB2]; unfold goOut; rw [ho]; simpa using hd
                rw [if_neg (by rw [g1]; exact Bool.noConfusion)] at f1
                rw [if_pos g2] at f2
                conv => whnf
                refine And.intro (fun _ => ?_) (fun h => absurd h (by decide)); conv => whnf
                refine And.intro rfl ?_; conv => whnf
                refine And.intro ⟨rfl, rfl⟩ (And.intro (show ((a.filter A2 ++ (b.take k).filter B2).length + 1) * 40 ≤ 140737488355328 by omega) ?_)
                conv => whnf
                refine Exists.intro _ (And.intro rfl ?_); conv => whnf
                refine And.intro ⟨by omega, by omega⟩ ?_; conv => whnf
                refine up hlt trivial ((wk_of [(0, .id 0), (1, .id 1), (2, .id 2), (3, .id 3), (4, .id 4), (5, .id 5), (6, .id 10)] rfl ⟨.base (.ptr _ _ _ rfl), .base (.ptr _ _ _ rfl), .base (.ptr _ _ _ rfl), (by first | exact .base (.own _ _ rfl) | exact .base (.nilown _ rfl) | exact .base (.trunc _ _ _ rfl)), (by first | exact .base (.own _ _ rfl) | exact .base (.nilown _ rfl) | exact .base (.trunc _ _ _ rfl)), .base (.tree _ _ rfl rfl), .base (.tree _ _ rfl rfl), .base (.tree _ _ rfl rfl), .base (.tree _ _ rfl rfl), .base (.tree _ _ rfl rfl), .base (.tree _ _ rfl rfl), .base (.tree _ _ rfl rfl), trivial⟩ ⟨⟨_, rfl, .cells _ _ _ _ rfl (by repeat (first | exact .nil | refine .cons (by first | exact .base (.tree _ _ rfl rfl) | exact .base (.own _ _ rfl) | exact .base (.ptr _ _ _ rfl) | exact .base (.map _ _ rfl) | exact .base (.nilown _ rfl) | exact .fn _ _ _ _ _ .nil (by repeat (first | exact .nil | refine .cons (by exact .ptr _ _ _ rfl) ?_))) ?_)) rfl⟩, ⟨_, rfl, .cells _ _ _ _ rfl (by repeat (first | exact .nil | refine .cons (by first | exact .base (.tree _ _ rfl rfl) | exact .base (.own _ _ rfl) | exact .base (.ptr _ _ _ rfl) | exact .base (.map _ _ rfl) | exact .base (.nilown _ rfl) | exact .fn _ _ _ _ _ .nil (by repeat (first | exact .nil | refine .cons (by exact .ptr _ _ _ rfl) ?_))) ?_)) rfl⟩, ⟨_, rfl, (by first | exact .imap _ _ _ _ _ _ rfl rfl | exact .newimap _ _ _ _ _ _ _ _ rfl rfl rfl)⟩, ⟨_, rfl, (by first | exact .imap _ _ _ _ _ _ rfl rfl | exact .newimap _ _ _ _ _ _ _ _ rfl rfl rfl)⟩, ⟨_, rfl, .cells _ _ _ _ rfl (by repeat (first | exact .nil | refine .cons (by first | exact .base (.tree _ _ rfl rfl) | exact .base (.own _ _ rfl) | exact .base (.ptr _ _ _ rfl) | exact .base (.map _ _ rfl) | exact .base (.nilown _ rfl) | exact .fn _ _ _ _ _ .nil (by repeat (first | exact .nil | refine .cons (by exact .ptr _ _ _ rfl) ?_))) ?_)) rfl⟩, ⟨_, rfl, (by first | exact .row _ _ _ _ _ _ _ rfl (show a.filter A1 ++ (b.take k).filter B1 = a.filter A1 ++ (b.take (k + 1)).filter B1 by rw [f1]) | exact .lstrow _ _ _ _ _ _ _ rfl (show a.filter A1 ++ (b.take k).filter B1 = a.filter A1 ++ (b.take (k + 1)).filter B1 by rw [f1]) | exact .nilrow _ _ _ _ _ (show a.filter A1 ++ (b.take k).filter B1 = a.filter A1 ++ (b.take (k + 1)).filter B1 by rw [f1]) | exact .truncrow _ _ _ _ _ _ _ _ rfl (by omega) (show a.filter A1 ++ (b.take k).filter B1 = a.filter A1 ++ (b.take (k + 1)).filter B1 by rw [f1]))⟩, ⟨_, rfl, (by first | exact .row _ _ _ _ _ _ _ rfl (show a.filter A2 ++ (b.take k).filter B2 ++ [e] = a.filter A2 ++ (b.take (k + 1)).filter B2 by rw [f2, List.append_assoc]) | exact .lstrow _ _ _ _ _ _ _ rfl (show a.filter A2 ++ (b.take k).filter B2 ++ [e] = a.filter A2 ++ (b.take (k + 1)).filter B2 by rw [f2, List.append_assoc]) | exact .nilrow _ _ _ _ _ (show a.filter A2 ++ (b.take k).filter B2 ++ [e] = a.filter A2 ++ (b.take (k + 1)).filter B2 by rw [f2, List.append_assoc]) | exact .truncrow _ _ _ _ _ _ _ _ rfl (by omega) (show a.filter A2 ++ (b.take k).filter B2 ++ [e] = a.filter A2 ++ (b.take (k + 1)).filter B2 by rw [f2, List.append_assoc]))⟩, trivial⟩))
            | some x =>
              have g1 : B1 e = false := by rw [← hB1]; unfold goIn; rw [ho]; rfl
              rw [if_neg (by rw [g1]; exact Bool.noConfusion)] at f1
              refine ⟨⟨by kernel_rfl, by kernel_rfl⟩, ?_⟩
              conv => whnf
              refine ⟨fun hd => ?_, fun hd => ?_⟩
              · have g2 : B2 e = true := by rw [← hB2]; unfold goOut; rw [ho]; exact hd
                rw [if_pos g2] at f2
                conv => whnf
                refine And.intro rfl ?_; conv => whnf
                refine And.intro ⟨rfl, rfl⟩ (And.intro (show ((a.filter A2 ++ (b.take k).filter B2).length + 1) * 40 ≤ 140737488355328 by omega) ?_)
                conv => whnf
                refine Exists.intro _ (And.intro rfl ?_); conv => whnf
                refine And.intro ⟨by omega, by omega⟩ ?_; conv => whnf
                refine up hlt trivial ((wk_of [(0, .id 0), (1, .id 1), (2, .id 2), (3, .id 3), (4, .id 4), (5, .id 5), (6, .id 10)] rfl ⟨.base (.ptr _ _ _ rfl), .base (.ptr _ _ _ rfl), .base (.ptr _ _ _ rfl), (by first | exact .base (.own _ _ rfl) | exact .base (.nilown _ rfl) | exact .base (.trunc _ _ _ rfl)), (by first | exact .base (.own _ _ rfl) | exact .base (.nilown _ rfl) | exact .base (.trunc _ _ _ rfl)), .base (.tree _ _ rfl rfl), .base (.tree _ _ rfl rfl), .base (.tree _ _ rfl rfl), .base (.tree _ _ rfl rfl), .base (.tree _ _ rfl rfl), .base (.tree _ _ rfl rfl), .base (.tree _ _ rfl rfl), trivial⟩ ⟨⟨_, rfl, .cells _ _ _ _ rfl (by repeat (first | exact .nil | refine .cons (by first | exact .base (.tree _ _ rfl rfl) | exact .base (.own _ _ rfl) | exact .base (.ptr _ _ _ rfl) | exact .base (.map _ _ rfl) | exact .base (.nilown _ rfl) | exact .fn _ _ _ _ _ .nil (by repeat (first | exact .nil | refine .cons (by exact .ptr _ _ _ rfl) ?_))) ?_)) rfl⟩, ⟨_, rfl, .cells _ _ _ _ rfl (by repeat (first | exact .nil | refine .cons (by first | exact .base (.tree _ _ rfl rfl) | exact .base (.own _ _ rfl) | exact .base (.ptr _ _ _ rfl) | exact .base (.map _ _ rfl) | exact .base (.nilown _ rfl) | exact .fn _ _ _ _ _ .nil (by repeat (first | exact .nil | refine .cons (by exact .ptr _ _ _ rfl) ?_))) ?_)) rfl⟩, ⟨_, rfl, (by first | exact .imap _ _ _ _ _ _ rfl rfl | exact .newimap _ _ _ _ _ _ _ _ rfl rfl rfl)⟩, ⟨_, rfl, (by first | exact .imap _ _ _ _ _ _ rfl rfl | exact .newimap _ _ _ _ _ _ _ _ rfl rfl rfl)⟩, ⟨_, rfl, .cells _ _ _ _ rfl (by repeat (first | exact .nil | refine .cons (by first | exact .base (.tree _ _ rfl rfl) | exact .base (.own _ _ rfl) | exact .base (.ptr _ _ _ rfl) | exact .base (.map _ _ rfl) | exact .base (.nilown _ rfl) | exact .fn _ _ _ _ _ .nil (by repeat (first | exact .nil | refine .cons (by exact .ptr _ _ _ rfl) ?_))) ?_)) rfl⟩, ⟨_, rfl, (by first | exact .row _ _ _ _ _ _ _ rfl (show a.filter A1 ++ (b.take k).filter B1 = a.filter A1 ++ (b.take (k + 1)).filter B1 by rw [f1]) | exact .lstrow _ _ _ _ _ _ _ rfl (show a.filter A1 ++ (b.take k).filter B1 = a.filter A1 ++ (b.take (k + 1)).filter B1 by rw [f1]) | exact .nilrow _ _ _ _ _ (show a.filter A1 ++ (b.take k).filter B1 = a.filter A1 ++ (b.take (k + 1)).filter B1 by rw [f1]) | exact .truncrow _ _ _ _ _ _ _ _ rfl (by omega) (show a.filter A1 ++ (b.take k).filter B1 = a.filter A1 ++ (b.take (k + 1)).filter B1 by rw [f1]))⟩, ⟨_, rfl, (by first | exact .row _ _ _ _ _ _ _ rfl (show a.filter A2 ++ (b.take k).filter B2 ++ [e] = a.filter A2 ++ (b.take (k + 1)).filter B2 by rw [f2, List.append_assoc]) | exact .lstrow _ _ _ _ _ _ _ rfl (show a.filter A2 ++ (b.take k).filter B2 ++ [e] = a.filter A2 ++ (b.take (k + 1)).filter B2 by rw [f2, List.append_assoc]) | exact .nilrow _ _ _ _ _ (show a.filter A2 ++ (b.take k).filter B2 ++ [e] = a.filter A2 ++ (b.take (k + 1)).filter B2 by rw [f2, List.append_assoc]) | exact .truncrow _ _ _ _ _ _ _ _ rfl (by omega) (show a.filter A2 ++ (b.take k).filter B2 ++ [e] = a.filter A2 ++ (b.take (k + 1)).filter B2 by rw [f2, List.append_assoc]))⟩, trivial⟩))
              · have g2 : B2 e = false := by rw [← hB2]; unfold goOut; rw [ho]; exact hd
                rw [if_neg (by rw [g2]; exact Bool.noConfusion)] at f2
                conv => whnf
                refine .quiet (by kernel_rfl) ?_; conv => whnf
                refine And.intro (fun _ => ⟨by omega, by omega⟩) ?_; conv => whnf
                refine And.intro (by omega) (And.intro rfl ?_); conv => whnf
                refine ⟨fun h => by simp at h, fun _ => ?_⟩
                conv => whnf
                refine ⟨fun h => by simp at h, fun _ => ?_⟩
                conv => whnf
                refine And.intro ⟨by omega, by omega⟩ ?_; conv => whnf
                refine up hlt trivial ((wk_of [(0, .id 0), (1, .id 1), (2, .id 2), (3, .id 3), (4, .id 4), (5, .id 5), (6, .id 6)] rfl ⟨.base (.ptr _ _ _ rfl), .base (.ptr _ _ _ rfl), .base (.ptr _ _ _ rfl), (by first | exact .base (.own _ _ rfl) | exact .base (.nilown _ rfl) | exact .base (.trunc _ _ _ rfl)), (by first | exact .base (.own _ _ rfl) | exact .base (.nilown _ rfl) | exact .base (.trunc _ _ _ rfl)), .base (.tree _ _ rfl rfl), .base (.tree _ _ rfl rfl), .base (.tree _ _ rfl rfl), .base (.tree _ _ rfl rfl), .base (.tree _ _ rfl rfl), .base (.tree _ _ rfl rfl), .base (.tree _ _ rfl rfl), trivial⟩ ⟨⟨_, rfl, .cells _ _ _ _ rfl (by repeat (first | exact .nil | refine .cons (by first | exact .base (.tree _ _ rfl rfl) | exact .base (.own _ _ rfl) | exact .base (.ptr _ _ _ rfl) | exact .base (.map _ _ rfl) | exact .base (.nilown _ rfl) | exact .fn _ _ _ _ _ .nil (by repeat (first | exact .nil | refine .cons (by exact .ptr _ _ _ rfl) ?_))) ?_)) rfl⟩, ⟨_, rfl, .cells _ _ _ _ rfl (by repeat (first | exact .nil | refine .cons (by first | exact .base (.tree _ _ rfl rfl) | exact .base (.own _ _ rfl) | exact .base (.ptr _ _ _ rfl) | exact .base (.map _ _ rfl) | exact .base (.nilown _ rfl) | exact .fn _ _ _ _ _ .nil (by repeat (first | exact .nil | refine .cons (by exact .ptr _ _ _ rfl) ?_))) ?_)) rfl⟩, ⟨_, rfl, (by first | exact .imap _ _ _ _ _ _ rfl rfl | exact .newimap _ _ _ _ _ _ _ _ rfl rfl rfl)⟩, ⟨_, rfl, (by first | exact .imap _ _ _ _ _ _ rfl rfl | exact .newimap _ _ _ _ _ _ _ _ rfl rfl rfl)⟩, ⟨_, rfl, .cells _ _ _ _ rfl (by repeat (first | exact .nil | refine .cons (by first | exact .base (.tree _ _ rfl rfl) | exact .base (.own _ _ rfl) | exact .base (.ptr _ _ _ rfl) | exact .base (.map _ _ rfl) | exact .base (.nilown _ rfl) | exact .fn _ _ _ _ _ .nil (by repeat (first | exact .nil | refine .cons (by exact .ptr _ _ _ rfl) ?_))) ?_)) rfl⟩, ⟨_, rfl, (by first | exact .row _ _ _ _ _ _ _ rfl (show a.filter A1 ++ (b.take k).filter B1 = a.filter A1 ++ (b.take (k + 1)).filter B1 by rw [f1]) | exact .lstrow _ _ _ _ _ _ _ rfl (show a.filter A1 ++ (b.take k).filter B1 = a.filter A1 ++ (b.take (k + 1)).filter B1 by rw [f1]) | exact .nilrow _ _ _ _ _ (show a.filter A1 ++ (b.take k).filter B1 = a.filter A1 ++ (b.take (k + 1)).filter B1 by rw [f1]) | exact .truncrow _ _ _ _ _ _ _ _ rfl (by omega) (show a.filter A1 ++ (b.take k).filter B1 = a.filter A1 ++ (b.take (k + 1)).filter B1 by rw [f1]))⟩, ⟨_, rfl, (by first | exact .row _ _ _ _ _ _ _ rfl (show a.filter A2 ++ (b.take k).filter B2 = a.filter A2 ++ (b.take (k + 1)).filter B2 by rw [f2]) | exact .lstrow _ _ _ _ _ _ _ rfl (show a.filter A2 ++ (b.take k).filter B2 = a.filter A2 ++ (b.take (k + 1)).filter B2 by rw [f2]) | exact .nilrow _ _ _ _ _ (show a.filter A2 ++ (b.take k).filter B2 = a.filter A2 ++ (b.take (k + 1)).filter B2 by rw [f2]) | exact .truncrow _ _ _ _ _ _ _ _ rfl (by omega) (show a.filter A2 ++ (b.take k).filter B2 = a.filter A2 ++ (b.take (k + 1)).filter B2 by rw [f2]))⟩, trivial⟩))
          · simp only [decide_eq_false_iff_not] at hc3
            obtain rfl : k = b.length := by omega
            rw [List.take_of_length_le (Nat.le_refl _)]
            conv => whnf
            refine And.intro ⟨by omega, by omega⟩ ?_; conv => whnf
            refine up (by omega) trivial ((wk_of [(0, .id 0), (1, .id 1), (2, .id 2), (3, .id 3), (4, .id 4), (5, .id 5), (6, .id 6)] rfl ⟨.base (.ptr _ _ _ rfl), .base (.ptr _ _ _ rfl), .base (.ptr _ _ _ rfl), (by first | exact .base (.own _ _ rfl) | exact .base (.nilown _ rfl) | exact .base (.trunc _ _ _ rfl)), (by first | exact .base (.own _ _ rfl) | exact .base (.nilown _ rfl) | exact .base (.trunc _ _ _ rfl)), .base (.tree _ _ rfl rfl), .base (.tree _ _ rfl rfl), trivial⟩ ⟨⟨_, rfl, .cells _ _ _ _ rfl (by repeat (first | exact .nil | refine .cons (by first | exact .base (.tree _ _ rfl rfl) | exact .base (.own _ _ rfl) | exact .base (.ptr _ _ _ rfl) | exact .base (.map _ _ rfl) | exact .base (.nilown _ rfl) | exact .fn _ _ _ _ _ .nil (by repeat (first | exact .nil | refine .cons (by exact .ptr _ _ _ rfl) ?_))) ?_)) rfl⟩, ⟨_, rfl, .cells _ _ _ _ rfl (by repeat (first | exact .nil | refine .cons (by first | exact .base (.tree _ _ rfl rfl) | exact .base (.own _ _ rfl) | exact .base (.ptr _ _ _ rfl) | exact .base (.map _ _ rfl) | exact .base (.nilown _ rfl) | exact .fn _ _ _ _ _ .nil (by repeat (first | exact .nil | refine .cons (by exact .ptr _ _ _ rfl) ?_))) ?_)) rfl⟩, ⟨_, rfl, (by first | exact .imap _ _ _ _ _ _ rfl rfl | exact .newimap _ _ _ _ _ _ _ _ rfl rfl rfl)⟩, ⟨_, rfl, (by first | exact .imap _ _ _ _ _ _ rfl rfl | exact .newimap _ _ _ _ _ _ _ _ rfl rfl rfl)⟩, ⟨_, rfl, .cells _ _ _ _ rfl (by repeat (first | exact .nil | refine .cons (by first | exact .base (.tree _ _ rfl rfl) | exact .base (.own _ _ rfl) | exact .base (.ptr _ _ _ rfl) | exact .base (.map _ _ rfl) | exact .base (.nilown _ rfl) | exact .fn _ _ _ _ _ .nil (by repeat (first | exact .nil | refine .cons (by exact .ptr _ _ _ rfl) ?_))) ?_)) rfl⟩, ⟨_, rfl, (by first | exact .row _ _ _ _ _ _ _ rfl rfl | exact .lstrow _ _ _ _ _ _ _ rfl rfl | exact .nilrow _ _ _ _ _ rfl | exact .truncrow _ _ _ _ _ _ _ _ rfl (by omega) rfl)⟩, ⟨_, rfl, (by first | exact .row _ _ _ _ _ _ _ rfl rfl | exact .lstrow _ _ _ _ _ _ _ rfl rfl | exact .nilrow _ _ _ _ _ rfl | exact .truncrow _ _ _ _ _ _ _ _ rfl (by omega) rfl)⟩, trivial⟩))
      · simp only [decide_eq_false_iff_not] at hc2
        obtain rfl : n = 2 := by omega
        have hri : (rawI a b fl) = a.filter A1 ++ b.filter B1 := by unfold rawI; rw [hm0, hm1, hA1, hB1]
        have hro : (rawO a b fl) = a.filter A2 ++ b.filter B2 := by unfold rawO; rw [hm0, hm1, hA2, hB2]
        have li : (a.filter A1 ++ b.filter B1).length ≤ 40 := by rw [List.length_append]; have := List.length_filter_le A1 a; have := List.length_filter_le B1 b; omega
        have lo : (a.filter A2 ++ b.filter B2).length ≤ 40 := by rw [List.length_append]; have := List.length_filter_le A2 a; have := List.length_filter_le B2 b; omega
        rw [hri, hro]
        rw [show (if (2 : Nat) = 0 then [] else if (2 : Nat) = 1 then a.filter A1 else a.filter A1 ++ b.filter B1) = a.filter A1 ++ b.filter B1 from rfl, show (if (2 : Nat) = 0 then [] else if (2 : Nat) = 1 then a.filter A2 else a.filter A2 ++ b.filter B2) = a.filter A2 ++ b.filter B2 from rfl]
        generalize a.filter A1 ++ b.filter B1 = P at *
        generalize a.filter A2 ++ b.filter B2 = Q at *
        have sP := sorts_ok P li
        have sQ := sorts_ok Q lo
        conv => whnf
        refine .raw _ _ rfl (fun h => by cases h) (callio_sem (sP) [5] _ rfl rfl ⟨rfl, trivial⟩ (by repeat (first | exact .nil | (apply BorL.cons; first | exact .map _ _ rfl | exact .ptr _ _ _ rfl | exact .own _ _ rfl | exact .fnp _ _ _ _ rfl | (apply BorIO.lend; first | exact lS rfl | exact lR rfl | exact lM rfl rfl | exact lL rfl | exact lX rfl | exact lN | exact lNl | exact lSm rfl | exact lIm rfl | exact lGm rfl | exact lP rfl | exact lQ rfl | exact lB rfl rfl rfl)))) rfl (by first | exact .inl rfl | exact .inr (fun b rs h => by first | obtain ⟨rfl, rfl⟩ := h | obtain ⟨_, _, _, rfl, rfl⟩ := h; exact ⟨by repeat (first | exact flats_nil | refine flats_cons (by first | exact flat_val _ rfl | exact flat_row (fun _ => rfl) | exact flat_lst (fun _ => rfl)) ?_), by repeat (first | exact flats0 | refine flats1 (by first | exact flatB_row (fun _ => rfl) | exact flatB_lst (fun _ => rfl) | exact flatB_smap (fun _ => rfl) | exact flatB_imap (fun _ => rfl) | exact flatB_cells rfl) ?_)⟩))) ?_
        rintro r ⟨b, rs, ⟨rfl, rfl⟩, rfl⟩
        refine ⟨tn_ge _ _, ?_⟩
        conv => whnf
        refine .raw _ _ rfl (fun h => by cases h) (callio_sem (sQ) [6] _ rfl rfl ⟨rfl, trivial⟩ (by repeat (first | exact .nil | (apply BorL.cons; first | exact .map _ _ rfl | exact .ptr _ _ _ rfl | exact .own _ _ rfl | exact .fnp _ _ _ _ rfl | (apply BorIO.lend; first | exact lS rfl | exact lR rfl | exact lM rfl rfl | exact lL rfl | exact lX rfl | exact lN | exact lNl | exact lSm rfl | exact lIm rfl | exact lGm rfl | exact lP rfl | exact lQ rfl | exact lB rfl rfl rfl)))) rfl (by first | exact .inl rfl | exact .inr (fun b rs h => by first | obtain ⟨rfl, rfl⟩ := h | obtain ⟨_, _, _, rfl, rfl⟩ := h; exact ⟨by repeat (first | exact flats_nil | refine flats_cons (by first | exact flat_val _ rfl | exact flat_row (fun _ => rfl) | exact flat_lst (fun _ => rfl)) ?_), by repeat (first | exact flats0 | refine flats1 (by first | exact flatB_row (fun _ => rfl) | exact flatB_lst (fun _ => rfl) | exact flatB_smap (fun _ => rfl) | exact flatB_imap (fun _ => rfl) | exact flatB_cells rfl) ?_)⟩))) ?_
        rintro r ⟨b, rs, ⟨rfl, rfl⟩, rfl⟩
        refine ⟨tn_ge _ _, ?_⟩
        conv => whnf
        rfl
  · have hk : okC a b fl = false := by
      unfold okC
      rw [hfl]
      rfl
    conv => whnf
    refine .one _ _ _ (fun _ => hva) (by repeat (first | exact .nil | (apply BorL.cons; first | exact lS rfl | exact lR rfl | exact lM rfl rfl | exact lL rfl | exact lX rfl | exact lN | exact lNl | exact lSm rfl | exact lIm rfl | exact lGm rfl | exact lP rfl | exact lQ rfl | exact lB rfl rfl rfl))) (by first | exact .inl rfl | exact .inr (by repeat (first | exact flats_nil | refine flats_cons (by first | exact flat_val _ rfl | exact flat_row (fun _ => rfl) | exact flat_lst (fun _ => rfl)) ?_))) (by first | exact .inr rfl | exact .inl rfl) ?_
    conv => whnf
    refine .one _ _ _ (fun _ => hvb) (by repeat (first | exact .nil | (apply BorL.cons; first | exact lS rfl | exact lR rfl | exact lM rfl rfl | exact lL rfl | exact lX rfl | exact lN | exact lNl | exact lSm rfl | exact lIm rfl | exact lGm rfl | exact lP rfl | exact lQ rfl | exact lB rfl rfl rfl))) (by first | exact .inl rfl | exact .inr (by repeat (first | exact flats_nil | refine flats_cons (by first | exact flat_val _ rfl | exact flat_row (fun _ => rfl) | exact flat_lst (fun _ => rfl)) ?_))) (by first | exact .inr rfl | exact .inl rfl) ?_
    conv => whnf
    refine ⟨fun _ => ?_, fun h => by simp at h⟩
    conv => whnf
    rw [if_neg (by rw [hk]; exact Bool.noConfusion)]
    rfl

end Go.Proofs.YtjlnaogechkjdaaDoor

namespace Go.Proofs.YtjlnaogechkjdaaDoor
open Go.Own
set_option maxHeartbeats 4000000
set_option maxRecDepth 100000

/-! ### The rings of signatures -/
structure Seal where
  key : Int
  text : List UInt8
deriving DecidableEq
def s0 : Seal := ⟨0, []⟩
structure Sgn where
  key : Int
  text : List UInt8
  mark : Int
deriving DecidableEq
def g0 : Sgn := ⟨0, [], 0⟩
def encSl (s : Seal) : AV := .agg [.int .i64 s.key, .str s.text]
def encSls (l : List Seal) : AV := .sl 2 encSl s0 l
def encSg (s : Sgn) : AV := .agg [.int .i64 s.key, .str s.text, .int .i64 s.mark]
def encSgs (l : List Sgn) : AV := .sl 3 encSg g0 l
def kv (s : Seal) : List KV := [.vI .i64 s.key, .vS s.text]
theorem kv_inj {s t : Seal} (h : kv s = kv t) : s = t := by
  cases s; cases t
  simp only [kv, List.cons.injEq, KV.vI.injEq, KV.vS.injEq] at h
  rw [h.1.2, h.2.1]
def shS : List KK := [.kI .i64, .kS]
def mkFrom : Nat → List Seal → List (List KV × Int)
  | _, [] => []
  | n, s :: l => (kv s, (n : Int)) :: mkFrom (n + 1) l
def marksM (l : List Seal) : List (List KV × Int) := mkFrom 0 l
def idxS (l : List Seal) (s : Seal) : Nat := l.findIdx (fun x => decide (x = s))
theorem idxS_cons (x : Seal) (l : List Seal) (s : Seal) : idxS (x :: l) s = if x = s then 0 else idxS l s + 1 := by
  unfold idxS
  rw [List.findIdx_cons]
  by_cases h : x = s <;> simp [h]
theorem mk_get : ∀ (l : List Seal) (n : Nat) (s : Seal), mget (mkFrom n l) (kv s) = if idxS l s < l.length then some ((n + idxS l s : Nat) : Int) else none
  | [], _, _ => rfl
  | x :: l, n, s => by
    rw [mkFrom, mget, idxS_cons, List.length_cons]
    by_cases h : x = s
    · subst h
      simp
    · rw [if_neg (fun e => h (kv_inj e)), if_neg h, mk_get l (n + 1) s]
      by_cases h2 : idxS l s < l.length
      · rw [if_pos h2, if_pos (by omega)]
        congr 2
        omega
      · rw [if_neg h2, if_neg (by omega)]
theorem marks_get (l : List Seal) (s : Seal) : mget (marksM l) (kv s) = if idxS l s < l.length then some (idxS l s : Int) else none := by
  unfold marksM
  rw [mk_get, Nat.zero_add]
theorem idxS_le (l : List Seal) (s : Seal) : idxS l s ≤ l.length := List.findIdx_le_length
theorem idxS_lt {l : List Seal} {s : Seal} : idxS l s < l.length ↔ s ∈ l := by
  unfold idxS
  rw [List.findIdx_lt_length]
  constructor
  · rintro ⟨x, hx, h⟩
    have : x = s := by simpa using h
    rw [← this]; exact hx
  · exact fun h => ⟨s, h, by simp⟩
theorem mk_snoc : ∀ (l : List Seal) (n : Nat) (s : Seal), mkFrom n (l ++ [s]) = mkFrom n l ++ [(kv s, ((n + l.length : Nat) : Int))]
  | [], _, _ => rfl
  | x :: l, n, s => by
    rw [List.cons_append, mkFrom, mk_snoc l (n + 1) s, mkFrom, List.cons_append, List.length_cons, show n + 1 + l.length = n + (l.length + 1) by omega]
theorem mset_none {K V : Type} [DecidableEq K] : ∀ {m : List (K × V)} {k : K} {x : V}, mget m k = none → mset m k x = m ++ [(k, x)]
  | [], _, _, _ => rfl
  | (a, v) :: m, k, x, h => by
    unfold mget at h
    split at h
    · cases h
    · rename_i hn
      rw [mset, if_neg hn, mset_none h, List.cons_append]
theorem marks_put {l : List Seal} {s : Seal} (h : ¬ idxS l s < l.length) : mset (marksM l) (kv s) (l.length : Int) = marksM (l ++ [s]) := by
  rw [mset_none (by rw [marks_get, if_neg h])]
  unfold marksM
  rw [mk_snoc, Nat.zero_add]
def keyB (k : Int) : Bool := decide (0 ≤ k) && decide (k < 200)
def signL (l : List Seal) (k : Int) (t : List UInt8) : List Seal := if keyB k = true then (if idxS l ⟨k, t⟩ < l.length then l else l ++ [⟨k, t⟩]) else l
def signV (l : List Seal) (k : Int) (t : List UInt8) : Sgn := if keyB k = true then ⟨k, t, (idxS l ⟨k, t⟩ : Nat)⟩ else ⟨0, [], 0⟩
def ringB (i j : Nat) : AB := .cells 77 [.own i, .map j]
def rowS (l : List Seal) : AB := .row 40 2 encSl s0 l
def mapS (l : List Seal) : AB := .gmap shS encI 0 (marksM l)
theorem key_ok (k : Int) : APureV Tryd.prog 35 [.int .i64 k] (.bool (keyB k)) := by
  refine apure_of (C := cx 9 [0, 2]) (cxOk _ _) Tryd.func35 rfl (by decide) rfl (by exact Nat.le_of_ble_eq_true rfl) (by decide) ?_
  conv => whnf
  rfl
theorem new_ok : RIO Tryd.prog 13 [] [] 0 (fun vs bs es => vs = [.ptr 0 0] ∧ bs = [] ∧ es = [ringB 2 1, mapS [], rowS []]) := by
  refine rio_of (C := cxP 0 4 [0]) (cxPOk _ _ _) Tryd.func13 rfl (by decide) rfl (by exact Nat.le_of_ble_eq_true rfl) (by decide) rfl rfl rfl ?_
  conv => whnf
  refine ⟨⟨[(0, .ptr 0 0)], [(0, .cells 77 [.own 2, .map 1]), (1, .gmap shS encI 0 (marksM [])), (2, .row 40 2 encSl s0 [])], 3⟩, (wk_of [(0, .id 1), (1, .id 0), (2, .nil)] rfl ⟨.base (.ptr _ _ _ rfl), trivial⟩ ⟨⟨_, rfl, .cells _ _ _ _ rfl (by repeat (first | exact .nil | refine .cons (by first | exact .base (.tree _ _ rfl rfl) | exact .base (.own _ _ rfl) | exact .base (.ptr _ _ _ rfl) | exact .base (.map _ _ rfl) | exact .base (.nilown _ rfl) | exact .fn _ _ _ _ _ .nil (by repeat (first | exact .nil | refine .cons (by exact .ptr _ _ _ rfl) ?_))) ?_)) rfl⟩, ⟨_, rfl, (by first | exact .gmap _ _ _ _ _ _ rfl rfl | exact .newgmap _ _ _ _ _ _ _ _ rfl rfl rfl)⟩, ⟨_, rfl, (by first | exact .row _ _ _ _ _ _ _ rfl rfl | exact .lstrow _ _ _ _ _ _ _ rfl rfl | exact .nilrow _ _ _ _ _ rfl | exact .truncrow _ _ _ _ _ _ _ _ rfl (by omega) rfl)⟩, trivial⟩), rfl, rfl, ?_⟩
  conv => whnf
  exact ⟨rfl, rfl, rfl, rfl⟩
theorem sign_ok (l : List Seal) (hl : l.length ≤ 1000000) (k : Int) (t : List UInt8) :
    RIO Tryd.prog 15 [.ptr 0 0, .int .i64 k, .str t] [ringB 2 1, mapS l, rowS l] 2 (fun vs bs es => vs = [encSg (signV l k t)] ∧ bs = [ringB 2 1, mapS (signL l k t)] ∧ es = [rowS (signL l k t)]) := by
  have hk := key_ok k
  refine rio_of (C := cxP 2 53 [0, 1, 2, 6, 7, 8, 9, 12, 27]) (cxPOk _ _ _) Tryd.func15 rfl (by decide) rfl (by exact Nat.le_of_ble_eq_true rfl) (by decide) rfl rfl rfl ?_
  conv => whnf
  refine .one _ _ _ (fun _ => hk) (by repeat (first | exact .nil | (apply BorL.cons; first | exact lS rfl | exact lR rfl | exact lM rfl rfl | exact lL rfl | exact lX rfl | exact lN | exact lNl | exact lSm rfl | exact lIm rfl | exact lGm rfl | exact lP rfl | exact lQ rfl | exact lB rfl rfl rfl))) (by first | exact .inl rfl | exact .inr (by repeat (first | exact flats_nil | refine flats_cons (by first | exact flat_val _ rfl | exact flat_row (fun _ => rfl) | exact flat_lst (fun _ => rfl)) ?_))) (by first | exact .inr rfl | exact .inl rfl) ?_
  conv => whnf
  refine ⟨fun hb => ?_, fun hb => ?_⟩
  · have hkb : ¬ keyB k = true := by simpa using hb
    rw [signV, signL, if_neg hkb, if_neg hkb]
    conv => whnf
    refine ⟨⟨[(6, .rop [.int .i64 (((⟨0, [], 0⟩ : Sgn))).key, .str (((⟨0, [], 0⟩ : Sgn))).text, .int .i64 (((⟨0, [], 0⟩ : Sgn))).mark])], [(0, .cells 77 [.own 2, .map 1]), (1, .gmap shS encI 0 (marksM l)), (2, .row 40 2 encSl s0 l)], 3⟩, (wk_frz [3]).trans (wk_of [(0, .id 0), (1, .id 1), (2, .id 2)] rfl ⟨.base (.tree _ _ rfl rfl), trivial⟩ ⟨⟨_, rfl, .cells _ _ _ _ rfl (by repeat (first | exact .nil | refine .cons (by first | exact .base (.tree _ _ rfl rfl) | exact .base (.own _ _ rfl) | exact .base (.ptr _ _ _ rfl) | exact .base (.map _ _ rfl) | exact .base (.nilown _ rfl) | exact .fn _ _ _ _ _ .nil (by repeat (first | exact .nil | refine .cons (by exact .ptr _ _ _ rfl) ?_))) ?_)) rfl⟩, ⟨_, rfl, (by first | exact .gmap _ _ _ _ _ _ rfl rfl | exact .newgmap _ _ _ _ _ _ _ _ rfl rfl rfl)⟩, ⟨_, rfl, (by first | exact .row _ _ _ _ _ _ _ rfl rfl | exact .lstrow _ _ _ _ _ _ _ rfl rfl | exact .nilrow _ _ _ _ _ rfl | exact .truncrow _ _ _ _ _ _ _ _ rfl (by omega) rfl)⟩, trivial⟩), rfl, rfl, ?_⟩
    conv => whnf
    exact ⟨rfl, rfl, rfl, rfl⟩
  · have hkb : keyB k = true := by simpa using hb
    rw [signV, signL, if_pos hkb, if_pos hkb]
    conv => whnf
    refine .eff (by first | exact cxOk _ _ | exact cxPOk _ _ _) ?_; conv => whnf
    rw [show [KV.vI .i64 k, KV.vS t] = kv ⟨k, t⟩ from rfl, marks_get]
    by_cases hi : idxS l ⟨k, t⟩ < l.length
    · rw [if_pos hi, if_pos hi]
      refine ⟨by kernel_rfl, rfl, ?_⟩
      conv => whnf
      refine ⟨by kernel_rfl, ?_⟩
      conv => whnf
      refine ⟨fun h => by simp at h, fun _ => ?_⟩
      conv => whnf
      refine ⟨⟨[(6, .rop [.int .i64 (((⟨k, t, ((idxS l ⟨k, t⟩ : Nat) : Int)⟩ : Sgn))).key, .str (((⟨k, t, ((idxS l ⟨k, t⟩ : Nat) : Int)⟩ : Sgn))).text, .int .i64 (((⟨k, t, ((idxS l ⟨k, t⟩ : Nat) : Int)⟩ : Sgn))).mark])], [(0, .cells 77 [.own 2, .map 1]), (1, .gmap shS encI 0 (marksM l)), (2, .row 40 2 encSl s0 l)], 3⟩, (wk_frz [3]).trans (wk_of [(0, .id 0), (1, .id 1), (2, .id 2)] rfl ⟨.base (.tree _ _ rfl rfl), trivial⟩ ⟨⟨_, rfl, .cells _ _ _ _ rfl (by repeat (first | exact .nil | refine .cons (by first | exact .base (.tree _ _ rfl rfl) | exact .base (.own _ _ rfl) | exact .base (.ptr _ _ _ rfl) | exact .base (.map _ _ rfl) | exact .base (.nilown _ rfl) | exact .fn _ _ _ _ _ .nil (by repeat (first | exact .nil | refine .cons (by exact .ptr _ _ _ rfl) ?_))) ?_)) rfl⟩, ⟨_, rfl, (by first | exact .gmap _ _ _ _ _ _ rfl rfl | exact .newgmap _ _ _ _ _ _ _ _ rfl rfl rfl)⟩, ⟨_, rfl, (by first | exact .row _ _ _ _ _ _ _ rfl rfl | exact .lstrow _ _ _ _ _ _ _ rfl rfl | exact .nilrow _ _ _ _ _ rfl | exact .truncrow _ _ _ _ _ _ _ _ rfl (by omega) rfl)⟩, trivial⟩), rfl, rfl, ?_⟩
      conv => whnf
      exact ⟨rfl, rfl, rfl, rfl⟩
    · have hix : idxS l ⟨k, t⟩ = l.length := by have := idxS_le l ⟨k, t⟩; omega
      rw [if_neg hi, if_neg hi, hix]
      refine ⟨by kernel_rfl, rfl, ?_⟩
      conv => whnf
      refine ⟨by kernel_rfl, ?_⟩
      conv => whnf
      refine And.intro (fun _ => ?_) (fun h => absurd h (by decide)); conv => whnf
      refine .eff (by first | exact cxOk _ _ | exact cxPOk _ _ _) ?_; conv => whnf
      refine And.intro rfl ?_; conv => whnf
      refine And.intro ⟨rfl, rfl⟩ (And.intro (show (l.length + 1) * 24 ≤ 140737488355328 by omega) ?_)
      conv => whnf
      refine ⟨⟨k, t⟩, rfl, ?_⟩
      conv => whnf
      refine ⟨by kernel_rfl, ?_⟩
      conv => whnf
      refine .eff (by first | exact cxOk _ _ | exact cxPOk _ _ _) ?_; conv => whnf
      refine ⟨by kernel_rfl, _, rfl, ?_⟩
      conv => whnf
      refine ⟨by kernel_rfl, ?_⟩
      conv => whnf
      refine ⟨⟨[(6, .rop [.int .i64 (((⟨k, t, ((l.length : Nat) : Int)⟩ : Sgn))).key, .str (((⟨k, t, ((l.length : Nat) : Int)⟩ : Sgn))).text, .int .i64 (((⟨k, t, ((l.length : Nat) : Int)⟩ : Sgn))).mark])], [(0, .cells 77 [.own 2, .map 1]), (1, .gmap shS encI 0 (marksM (l ++ [⟨k, t⟩]))), (2, .row 40 2 encSl s0 (l ++ [⟨k, t⟩]))], 3⟩, (wk_frz [3]).trans (wk_of [(0, .id 0), (1, .id 1), (2, .id 6)] rfl ⟨.base (.tree _ _ rfl rfl), trivial⟩ ⟨⟨_, rfl, .cells _ _ _ _ rfl (by repeat (first | exact .nil | refine .cons (by first | exact .base (.tree _ _ rfl rfl) | exact .base (.own _ _ rfl) | exact .base (.ptr _ _ _ rfl) | exact .base (.map _ _ rfl) | exact .base (.nilown _ rfl) | exact .fn _ _ _ _ _ .nil (by repeat (first | exact .nil | refine .cons (by exact .ptr _ _ _ rfl) ?_))) ?_)) rfl⟩, ⟨_, rfl, (by first | exact .gmap _ _ _ _ _ _ rfl (marks_put hi) | exact .newgmap _ _ _ _ _ _ _ _ rfl rfl (marks_put hi))⟩, ⟨_, rfl, (by first | exact .row _ _ _ _ _ _ _ rfl rfl | exact .lstrow _ _ _ _ _ _ _ rfl rfl | exact .nilrow _ _ _ _ _ rfl | exact .truncrow _ _ _ _ _ _ _ _ rfl (by omega) rfl)⟩, trivial⟩), rfl, rfl, ?_⟩
      conv => whnf
      exact ⟨rfl, rfl, rfl, rfl⟩

end Go.Proofs.YtjlnaogechkjdaaDoor

namespace Go.Proofs.YtjlnaogechkjdaaDoor
open Go.Own
set_option maxHeartbeats 4000000
set_option maxRecDepth 100000

/-! ### Signatures: Valid, the reference's ring -/
def sgB (l : List Seal) (s : Sgn) : Bool := decide (idxS l ⟨s.key, s.text⟩ < l.length) && decide ((idxS l ⟨s.key, s.text⟩ : Int) = s.mark)
def ringV (l : List Seal) : AV := .rop [encSls l, .rgmap shS encI 0 (marksM l)]
theorem sgv_ok (l : List Seal) (s : Sgn) : APureV Tryd.prog 38 [ringV l, encSg s] (.bool (sgB l s)) := by
  unfold sgB ringV
  refine apure_of (C := cx 27 [0, 1, 3, 4, 5, 6]) (cxOk _ _) Tryd.func38 rfl (by decide) rfl (by exact Nat.le_of_ble_eq_true rfl) (by decide) ?_
  conv => whnf
  refine .quiet (by kernel_rfl) ?_; conv => whnf
  rw [show [KV.vI .i64 s.key, KV.vS s.text] = kv ⟨s.key, s.text⟩ from rfl, marks_get]
  by_cases hi : idxS l ⟨s.key, s.text⟩ < l.length
  · rw [if_pos hi]
    refine ⟨by kernel_rfl, rfl, ?_⟩
    conv => whnf
    rw [decide_eq_true hi]
    rfl
  · rw [if_neg hi]
    refine ⟨by kernel_rfl, rfl, ?_⟩
    conv => whnf
    rw [decide_eq_false hi]
    rfl
def posS (l : List Seal) (k : Int) (t : List UInt8) : Int := if idxS l ⟨k, t⟩ < l.length then (idxS l ⟨k, t⟩ : Int) else -1
def qringB (i : Nat) : AB := .cells 79 [.own i]
theorem lendR {H : Heap} {i j k : Nat} {l : List Seal} (h1 : lkH H i = ringB k j) (h2 : lkH H k = rowS l) (h3 : lkH H j = mapS l) : Lend H (.ptr i 0) (ringV l) [i, k, j] :=
  .box i 0 77 [.own k, .map j] [encSls l, .rgmap shS encI 0 (marksM l)] [k, j] h1 (BorL.cons (t := [k]) (t' := [j]) (Bor1.base (Bor.row k 40 2 encSl s0 l h2)) (BorL.cons (t := [j]) (t' := []) (Bor1.base (Bor.gmap j shS encI 0 (marksM l) h3)) BorL.nil)) (by
    intro a ha
    simp only [List.mem_cons, List.not_mem_nil, or_false] at ha
    rcases ha with rfl | rfl <;> rfl)
def qsgB (l : List Seal) (s : Sgn) : Bool := ((decide (0 ≤ s.mark) && decide (s.mark < l.length)) && decide ((l.getD s.mark.toNat s0).key = s.key)) && decide ((l.getD s.mark.toNat s0).text = s.text)
def convR (v : List Seal → Sgn → Bool) (l : List Seal) (s t : Sgn) : Int :=
  if (!v l s || !v l t) = true then 25 else if s.key ≠ t.key then 18 else if readC s.text ≠ 0 ∨ readC t.text ≠ 0 then 2 else if (readE s.text).id ≠ (readE t.text).id then 4 else if readE s.text = readE t.text then 5 else 0
theorem convict_ok (l : List Seal) (s t : Sgn) (hs : s.text.length ≤ 9223372036854775000) (ht : t.text.length ≤ 9223372036854775000) : APureV Tryd.prog 17 [ringV l, encSg s, encSg t] (.int .i64 (convR sgB l s t)) := by
  have r1 := read_ok s.text hs
  have r2 := read_ok t.text ht
  have v1 := sgv_ok l s
  have v2 := sgv_ok l t
  unfold ringV at *
  refine apure_of (C := cx 57 [0, 1, 2, 4, 5, 6, 7, 8, 9, 10, 23, 34, 40, 47, 53]) (cxOk _ _) Tryd.func17 rfl (by decide) rfl (by exact Nat.le_of_ble_eq_true rfl) (by decide) ?_
  conv => whnf
  refine .one _ _ _ (fun _ => r1) (by repeat (first | exact .nil | (apply BorL.cons; first | exact lS rfl | exact lR rfl | exact lM rfl rfl | exact lL rfl | exact lX rfl | exact lN | exact lNl | exact lSm rfl | exact lIm rfl | exact lGm rfl | exact lP rfl | exact lQ rfl | exact lB rfl rfl rfl))) (by first | exact .inl rfl | exact .inr (by repeat (first | exact flats_nil | refine flats_cons (by first | exact flat_val _ rfl | exact flat_row (fun _ => rfl) | exact flat_lst (fun _ => rfl)) ?_))) (by first | exact .inr rfl | exact .inl rfl) ?_
  conv => whnf
  refine .one _ _ _ (fun _ => r2) (by repeat (first | exact .nil | (apply BorL.cons; first | exact lS rfl | exact lR rfl | exact lM rfl rfl | exact lL rfl | exact lX rfl | exact lN | exact lNl | exact lSm rfl | exact lIm rfl | exact lGm rfl | exact lP rfl | exact lQ rfl | exact lB rfl rfl rfl))) (by first | exact .inl rfl | exact .inr (by repeat (first | exact flats_nil | refine flats_cons (by first | exact flat_val _ rfl | exact flat_row (fun _ => rfl) | exact flat_lst (fun _ => rfl)) ?_))) (by first | exact .inr rfl | exact .inl rfl) ?_
  conv => whnf
  refine .one _ _ _ (fun _ => v1) (by repeat (first | exact .nil | (apply BorL.cons; first | exact lS rfl | exact lR rfl | exact lM rfl rfl | exact lL rfl | exact lX rfl | exact lN | exact lNl | exact lSm rfl | exact lIm rfl | exact lGm rfl | exact lP rfl | exact lQ rfl | exact lB rfl rfl rfl))) (by first | exact .inl rfl | exact .inr (by repeat (first | exact flats_nil | refine flats_cons (by first | exact flat_val _ rfl | exact flat_row (fun _ => rfl) | exact flat_lst (fun _ => rfl)) ?_))) (by first | exact .inr rfl | exact .inl rfl) ?_
  conv => whnf
  refine .one _ _ _ (fun _ => v2) (by repeat (first | exact .nil | (apply BorL.cons; first | exact lS rfl | exact lR rfl | exact lM rfl rfl | exact lL rfl | exact lX rfl | exact lN | exact lNl | exact lSm rfl | exact lIm rfl | exact lGm rfl | exact lP rfl | exact lQ rfl | exact lB rfl rfl rfl))) (by first | exact .inl rfl | exact .inr (by repeat (first | exact flats_nil | refine flats_cons (by first | exact flat_val _ rfl | exact flat_row (fun _ => rfl) | exact flat_lst (fun _ => rfl)) ?_))) (by first | exact .inr rfl | exact .inl rfl) ?_
  conv => whnf
  unfold convR
  refine ⟨fun h1 => ?_, fun h1 => ?_⟩
  · rw [if_pos h1]
    conv => whnf
    rfl
  rw [if_neg (by rw [h1]; exact Bool.noConfusion)]
  conv => whnf
  refine ⟨fun h2 => ?_, fun h2 => ?_⟩
  · rw [if_pos (by simpa using h2)]
    conv => whnf
    rfl
  rw [if_neg (by simpa using h2)]
  conv => whnf
  refine ⟨fun h3 => ?_, fun h3 => ?_⟩
  · rw [if_pos (by simpa using h3)]
    conv => whnf
    rfl
  rw [if_neg (by simpa using h3)]
  conv => whnf
  refine ⟨fun h4 => ?_, fun h4 => ?_⟩
  · rw [if_pos (by simpa using h4)]
    conv => whnf
    rfl
  rw [if_neg (by simpa using h4)]
  conv => whnf
  refine ⟨⟨by kernel_rfl, by kernel_rfl⟩, ?_⟩
  conv => whnf

  refine ⟨fun h5 => ?_, fun h5 => ?_⟩
  · rw [if_pos (eqE_iff.1 h5)]
    conv => whnf
    rfl
  · rw [if_neg (fun h => by have h6 : eqE (readE s.text) (readE t.text) = false := h5; rw [eqE_iff.2 h] at h6; cases h6)]
    conv => whnf
    rfl
end Go.Proofs.YtjlnaogechkjdaaDoor

namespace Go.Proofs.YtjlnaogechkjdaaDoor
open Go.Own
set_option maxHeartbeats 4000000
set_option maxRecDepth 100000

/-! ### The reference's small functions -/
def few45 (a b : List Ent) (fl : List Msg) (n : Int) : Bool := (decide ((a.length : Int) ≤ n) && decide ((b.length : Int) ≤ n)) && decide ((fl.length : Int) ≤ 20)
theorem few45_ok (a b : List Ent) (fl : List Msg) (n : Int) : APureV Tryd.prog 8 [encEs a, encEs b, encMs fl, .int .i64 n] (.bool (few45 a b fl n)) := by
  unfold few45
  refine apure_of (C := cx 24 [0, 1, 2, 3, 8]) (cxOk _ _) Tryd.func8 rfl (by decide) rfl (by exact Nat.le_of_ble_eq_true rfl) (by decide) ?_
  conv => whnf
  rfl
def few44 (l : List Seal) (n : Int) : Bool := (l.take (n + 1).toNat).all (fun s => decide (s.text.length ≤ 500)) && decide ((l.length : Int) ≤ n)
theorem any_at {T : Type} {p : T → Bool} {l : List T} {d : T} {k : Nat} (h : k < l.length) (hp : p (l.getD k d) = true) : l.any p = true :=
  List.any_eq_true.2 ⟨_, getD_mem h, hp⟩
theorem none_step {T : Type} {p : T → Bool} {l : List T} {d : T} {k : Nat} (h : k < l.length) (hP : (l.take k).any p = false) (hp : p (l.getD k d) = false) : (l.take (k + 1)).any p = false := by
  rw [take_getD (d := d) h, List.any_append, hP, List.any_cons, hp]
  rfl
theorem has_ok (l : List Ent) (e : Ent) (hl : l.length ≤ 9223372036854775807) : APureV Tryd.prog 21 [encEs l, encE e] (.bool (sameB l e)) := by
  unfold sameB
  generalize hp : (fun y => decide (y = e)) = p
  have pe : ∀ x, p x = decide (x = e) := fun x => by rw [← hp]
  refine apure_of (C := cx 18 [0, 1, 3, 4, 5, 9, 17]) (cxOk _ _) Tryd.func21 rfl (by decide) rfl (by exact Nat.le_of_ble_eq_true rfl) (by decide) ?_
  conv => whnf
  refine loop_up (cxOk _ _) l.length (fun i => (l.take i).any p = false) (fun i => ⟨[(0, encEs l), (3, .ptr 0 0), (5, .int .i64 (i : Nat))], [(0, .cells 48 (celE e))], 1⟩) (by simp) ((wk_of [(0, .id 0)] rfl ⟨.base (.tree _ _ rfl rfl), .base (.ptr _ _ _ rfl), .base (.tree _ _ rfl rfl), trivial⟩ ⟨⟨_, rfl, .cells _ _ _ _ rfl (by repeat (first | exact .nil | refine .cons (by first | exact .base (.tree _ _ rfl rfl) | exact .base (.own _ _ rfl) | exact .base (.ptr _ _ _ rfl) | exact .base (.map _ _ rfl) | exact .base (.nilown _ rfl) | exact .fn _ _ _ _ _ .nil (by repeat (first | exact .nil | refine .cons (by exact .ptr _ _ _ rfl) ?_))) ?_)) rfl⟩, trivial⟩)) ?_
  intro i hi hP
  conv => whnf
  refine ⟨fun hc => ?_, fun hc => ?_⟩
  · simp only [decide_eq_true_eq] at hc
    have hlt : i < l.length := by omega
    have hck : l.getD (i : Int).toNat e0 = l.getD i e0 := by rw [Int.toNat_natCast]
    conv => whnf
    refine .quiet (by kernel_rfl) ?_; conv => whnf
    refine And.intro ⟨by omega, by omega⟩ ?_; conv => whnf
    refine And.intro rfl ?_; conv => whnf
    refine ⟨⟨by kernel_rfl, by kernel_rfl⟩, ?_⟩
    conv => whnf
    rw [hck]
    refine ⟨fun hd => ?_, fun hd => ?_⟩
    · have hx : l.getD i e0 = e := eqE_iff.1 hd
      have := any_at (p := p) hlt (by rw [pe, hx]; exact decide_eq_true rfl)
      conv => whnf
      rw [this]
      rfl
    · have hx : p (l.getD i e0) = false := by
        rw [pe]
        refine decide_eq_false fun h => ?_
        have h6 : eqE (l.getD i e0) e = false := hd
        rw [eqE_iff.2 h] at h6
        cases h6
      conv => whnf
      refine And.intro ⟨by omega, by omega⟩ ?_; conv => whnf
      refine up hlt (none_step hlt hP hx) ((wk_of [(0, .id 0)] rfl ⟨.base (.tree _ _ rfl rfl), .base (.ptr _ _ _ rfl), .base (.tree _ _ rfl rfl), trivial⟩ ⟨⟨_, rfl, .cells _ _ _ _ rfl (by repeat (first | exact .nil | refine .cons (by first | exact .base (.tree _ _ rfl rfl) | exact .base (.own _ _ rfl) | exact .base (.ptr _ _ _ rfl) | exact .base (.map _ _ rfl) | exact .base (.nilown _ rfl) | exact .fn _ _ _ _ _ .nil (by repeat (first | exact .nil | refine .cons (by exact .ptr _ _ _ rfl) ?_))) ?_)) rfl⟩, trivial⟩))
  · simp only [decide_eq_false_iff_not] at hc
    obtain rfl : i = l.length := by omega
    rw [List.take_of_length_le (Nat.le_refl _)] at hP
    conv => whnf
    rw [hP]
    rfl
def atI (l : List Ent) (i : Int) : Int := firstI (fun x : Ent => decide (x.id = i)) l
theorem first_here {T : Type} {p : T → Bool} {l : List T} {d : T} {k : Nat} (h : k < l.length) (hP : (l.take k).any p = false) (hp : p (l.getD k d) = true) : firstI p l = (k : Int) := by
  have e : l.getD k d = l[k] := by simp [List.getD, List.getElem?_eq_getElem h]
  have hk : l.findIdx p = k := by
    refine Nat.le_antisymm ?_ ?_
    · refine Nat.le_of_not_lt fun hlt => ?_
      have := List.not_of_lt_findIdx hlt
      rw [e] at hp
      rw [hp] at this
      simp at this
    · refine Nat.le_of_not_lt fun hlt => ?_
      have hl : l.findIdx p < l.length := by omega
      have := List.findIdx_getElem (w := hl)
      rw [List.any_eq_false] at hP
      exact hP _ (by rw [List.mem_take_iff_getElem]; exact ⟨l.findIdx p, by omega, rfl⟩) this
  unfold firstI
  rw [hk, if_pos h]
theorem first_none {T : Type} {p : T → Bool} {l : List T} (hP : l.any p = false) : firstI p l = -1 := by
  unfold firstI
  rw [if_neg]
  intro h
  have := List.findIdx_getElem (w := h)
  rw [List.any_eq_false] at hP
  exact hP _ (List.getElem_mem h) this
theorem at_ok (l : List Ent) (n : Int) (hl : l.length ≤ 9223372036854775807) : APureV Tryd.prog 23 [encEs l, .int .i64 n] (.int .i64 (atI l n)) := by
  unfold atI
  generalize hp : (fun x : Ent => decide (x.id = n)) = p
  have pe : ∀ x, p x = decide (x.id = n) := fun x => by rw [← hp]
  refine apure_of (C := cx 20 [0, 1, 4, 5, 9, 18]) (cxOk _ _) Tryd.func23 rfl (by decide) rfl (by exact Nat.le_of_ble_eq_true rfl) (by decide) ?_
  conv => whnf
  refine loop_up (cxOk _ _) l.length (fun i => (l.take i).any p = false) (fun i => ⟨[(0, encEs l), (1, .int .i64 n), (5, .int .i64 (i : Nat))], [], 0⟩) (by simp) ((wk_of [] rfl ⟨.base (.tree _ _ rfl rfl), .base (.tree _ _ rfl rfl), .base (.tree _ _ rfl rfl), trivial⟩ trivial)) ?_
  intro i hi hP
  conv => whnf
  refine ⟨fun hc => ?_, fun hc => ?_⟩
  · simp only [decide_eq_true_eq] at hc
    have hlt : i < l.length := by omega
    have hck : l.getD (i : Int).toNat e0 = l.getD i e0 := by rw [Int.toNat_natCast]
    conv => whnf
    refine And.intro ⟨by omega, by omega⟩ ?_; conv => whnf
    refine And.intro rfl ?_; conv => whnf
    rw [hck]
    refine ⟨fun hd => ?_, fun hd => ?_⟩
    · have := first_here (p := p) hlt hP (by rw [pe]; exact hd)
      conv => whnf
      rw [this]
      rfl
    · conv => whnf
      refine And.intro ⟨by omega, by omega⟩ ?_; conv => whnf
      refine up hlt (none_step hlt hP (by rw [pe]; exact hd)) ((wk_of [] rfl ⟨.base (.tree _ _ rfl rfl), .base (.tree _ _ rfl rfl), .base (.tree _ _ rfl rfl), trivial⟩ trivial))
  · simp only [decide_eq_false_iff_not] at hc
    obtain rfl : i = l.length := by omega
    rw [List.take_of_length_le (Nat.le_refl _)] at hP
    conv => whnf
    rw [first_none hP]
    rfl
def wayB (fl : List Msg) (f i : Int) : Bool := fl.any (fun m => decide (m.frm = f) && decide (m.entry = i))
theorem way_ok (l : List Msg) (f n : Int) (hl : l.length ≤ 9223372036854775807) : APureV Tryd.prog 24 [encMs l, .int .i64 f, .int .i64 n] (.bool (wayB l f n)) := by
  unfold wayB
  generalize hp : (fun m : Msg => decide (m.frm = f) && decide (m.entry = n)) = p
  have pe : ∀ x, p x = (decide (x.frm = f) && decide (x.entry = n)) := fun x => by rw [← hp]
  refine apure_of (C := cx 30 [0, 1, 2, 6, 7, 11, 29]) (cxOk _ _) Tryd.func24 rfl (by decide) rfl (by exact Nat.le_of_ble_eq_true rfl) (by decide) ?_
  conv => whnf
  refine loop_up (cxOk _ _) l.length (fun i => (l.take i).any p = false) (fun i => ⟨[(0, encMs l), (1, .int .i64 f), (2, .int .i64 n), (7, .int .i64 (i : Nat))], [], 0⟩) (by simp) ((wk_of [] rfl ⟨.base (.tree _ _ rfl rfl), .base (.tree _ _ rfl rfl), .base (.tree _ _ rfl rfl), .base (.tree _ _ rfl rfl), trivial⟩ trivial)) ?_
  intro i hi hP
  conv => whnf
  refine ⟨fun hc => ?_, fun hc => ?_⟩
  · simp only [decide_eq_true_eq] at hc
    have hlt : i < l.length := by omega
    have hck : l.getD (i : Int).toNat m0 = l.getD i m0 := by rw [Int.toNat_natCast]
    conv => whnf
    refine And.intro ⟨by omega, by omega⟩ ?_; conv => whnf
    refine And.intro rfl ?_; conv => whnf
    refine And.intro (by omega) (And.intro rfl ?_); conv => whnf
    rw [hck]
    refine ⟨fun hd => ?_, fun hd => ?_⟩
    · have := any_at (p := p) hlt (by rw [pe]; exact hd)
      conv => whnf
      rw [this]
      rfl
    · conv => whnf
      refine And.intro ⟨by omega, by omega⟩ ?_; conv => whnf
      refine up hlt (none_step hlt hP (by rw [pe]; exact hd)) ((wk_of [] rfl ⟨.base (.tree _ _ rfl rfl), .base (.tree _ _ rfl rfl), .base (.tree _ _ rfl rfl), .base (.tree _ _ rfl rfl), trivial⟩ trivial))
  · simp only [decide_eq_false_iff_not] at hc
    obtain rfl : i = l.length := by omega
    rw [List.take_of_length_le (Nat.le_refl _)] at hP
    conv => whnf
    rw [hP]
    rfl
def turn1 (m : Msg) : Msg := ⟨m.to, m.frm, m.seq, m.entry⟩
def mailB (a b : List Ent) (m : Msg) : Bool :=
  if (decide (m.seq < 0) || decide (m.entry < 0)) = true then false
  else ((decide (m.frm = 0) && decide (m.to = 1)) && decide (m.entry < (a.length : Int))) || ((decide (m.frm = 1) && decide (m.to = 0)) && decide (m.entry < (b.length : Int)))
theorem entry_ok (i n : Int) : APureV Tryd.prog 26 [.int .i64 i, .int .i64 n] (encE ⟨i, 0, 0, 1, n⟩) := by
  refine apure_of (C := cx 8 [0, 1, 4]) (cxOk _ _) Tryd.func26 rfl (by decide) rfl (by exact Nat.le_of_ble_eq_true rfl) (by decide) ?_
  conv => whnf
  rfl

end Go.Proofs.YtjlnaogechkjdaaDoor

namespace Go.Proofs.YtjlnaogechkjdaaDoor
open Go.Own
set_option maxHeartbeats 4000000
set_option maxRecDepth 100000

/-! ### Put, posted -/
/-- Entries posted where none has their Ids: the ledger, and whether all were accepted. -/
def pstd : List Ent → List Ent → List Ent × Bool
  | l, [] => (l, true)
  | l, e :: s => if 0 ≤ atI l e.id then pstd l s else if postE l e = 0 then pstd (l ++ [e]) s else (l, false)
theorem posted_ok (l some : List Ent) (hl : l.length ≤ 100000) (hs : some.length ≤ 100000) : APure Tryd.prog 25 [encEs l, encEs some] (fun rs => rs = [.val (encEs (pstd l some).1), .val (.bool (pstd l some).2)]) := by
  refine apure_ofw (C := cx 37 [0, 1, 4, 5, 6, 7, 8, 12, 22, 33]) (cxOk _ _) Tryd.func25 rfl (by decide) rfl (by exact Nat.le_of_ble_eq_true rfl) (by decide) ?_
  conv => whnf
  refine loop_inv (cxOk _ _) (σ := Nat × List Ent) (fun s => s.1 ≤ some.length ∧ s.2.length ≤ l.length + s.1 ∧ pstd s.2 (some.drop s.1) = pstd l some) (fun s => some.length - s.1) (fun s => ⟨[(0, encEs (s.2)), (1, encEs some), (6, .int .i64 ((s.1) : Nat))], [], 0⟩) (0, l) ⟨Nat.zero_le _, by simp, rfl⟩ ((wk_of [] rfl ⟨.base (.tree _ _ rfl rfl), .base (.tree _ _ rfl rfl), .base (.tree _ _ rfl rfl), trivial⟩ trivial)) ?_
  rintro ⟨i, L⟩ ⟨hi, hL, hP⟩
  simp only at hi hL hP
  have hat := fun n => at_ok L n (by omega)
  have hpost := fun e => post_ok' L (by omega) e
  conv => whnf
  refine ⟨fun hc => ?_, fun hc => ?_⟩
  · simp only [decide_eq_true_eq] at hc
    have hlt : i < some.length := by omega
    have hck : some.getD (i : Int).toNat e0 = some.getD i e0 := by rw [Int.toNat_natCast]
    have hdr : some.drop i = some.getD i e0 :: some.drop (i + 1) := by
      rw [List.drop_eq_getElem_cons hlt]
      simp [List.getD, List.getElem?_eq_getElem hlt]
    rw [hdr, pstd] at hP
    conv => whnf
    refine And.intro ⟨by omega, by omega⟩ ?_; conv => whnf
    refine And.intro rfl ?_; conv => whnf
    rw [hck]
    refine .one _ _ _ (fun _ => hat (some.getD i e0).id) (by repeat (first | exact .nil | (apply BorL.cons; first | exact lS rfl | exact lR rfl | exact lM rfl rfl | exact lL rfl | exact lX rfl | exact lN | exact lNl | exact lSm rfl | exact lIm rfl | exact lGm rfl | exact lP rfl | exact lQ rfl | exact lB rfl rfl rfl))) (by first | exact .inl rfl | exact .inr (by repeat (first | exact flats_nil | refine flats_cons (by first | exact flat_val _ rfl | exact flat_row (fun _ => rfl) | exact flat_lst (fun _ => rfl)) ?_))) (by first | exact .inr rfl | exact .inl rfl) ?_
    conv => whnf
    refine ⟨fun hd => ?_, fun hd => ?_⟩
    · have hd' : 0 ≤ atI L (some.getD i e0).id := by simpa using hd
      rw [if_pos hd'] at hP
      conv => whnf
      refine And.intro ⟨by omega, by omega⟩ ?_; conv => whnf
      refine ⟨(i + 1, L), ⟨hlt, by simp only; omega, hP⟩, by simp only; omega, (wk_of [] rfl ⟨.base (.tree _ _ rfl rfl), .base (.tree _ _ rfl rfl), .base (.tree _ _ rfl rfl), trivial⟩ trivial)⟩
    · have hd' : ¬ 0 ≤ atI L (some.getD i e0).id := by simpa using hd
      rw [if_neg hd'] at hP
      conv => whnf
      refine And.intro ⟨by omega, by omega⟩ ?_; conv => whnf
      refine And.intro rfl ?_; conv => whnf
      rw [hck]
      generalize some.getD i e0 = e at *
      have hc2 := hpost e
      by_cases hp0 : postE L e = 0
      · rw [if_pos hp0] at hc2 hP
        rw [hp0] at hc2
        refine .one _ _ _ (fun _ => hc2) (by repeat (first | exact .nil | (apply BorL.cons; first | exact lS rfl | exact lR rfl | exact lM rfl rfl | exact lL rfl | exact lX rfl | exact lN | exact lNl | exact lSm rfl | exact lIm rfl | exact lGm rfl | exact lP rfl | exact lQ rfl | exact lB rfl rfl rfl))) (by first | exact .inl rfl | exact .inr (by repeat (first | exact flats_nil | refine flats_cons (by first | exact flat_val _ rfl | exact flat_row (fun _ => rfl) | exact flat_lst (fun _ => rfl)) ?_))) (by first | exact .inr rfl | exact .inl rfl) ?_
        conv => whnf
        refine And.intro (fun h => absurd h (by decide)) (fun _ => ?_); conv => whnf
        refine And.intro ⟨by omega, by omega⟩ ?_; conv => whnf
        refine ⟨(i + 1, L ++ [e]), ⟨hlt, by simp only [List.length_append, List.length_singleton]; omega, hP⟩, by simp only; omega, (wk_frz [0]).trans (wk_of [] rfl ⟨.base (.tree _ _ rfl rfl), .base (.tree _ _ rfl rfl), .base (.tree _ _ rfl rfl), trivial⟩ trivial)⟩
      · rw [if_neg hp0] at hc2 hP
        refine .one _ _ _ (fun _ => hc2) (by repeat (first | exact .nil | (apply BorL.cons; first | exact lS rfl | exact lR rfl | exact lM rfl rfl | exact lL rfl | exact lX rfl | exact lN | exact lNl | exact lSm rfl | exact lIm rfl | exact lGm rfl | exact lP rfl | exact lQ rfl | exact lB rfl rfl rfl))) (by first | exact .inl rfl | exact .inr (by repeat (first | exact flats_nil | refine flats_cons (by first | exact flat_val _ rfl | exact flat_row (fun _ => rfl) | exact flat_lst (fun _ => rfl)) ?_))) (by first | exact .inr rfl | exact .inl rfl) ?_
        conv => whnf
        refine ⟨fun hd2 => ?_, fun hd2 => ?_⟩
        · conv => whnf
          rw [← hP]
          refine ⟨_, Wk.refl _, ?_⟩
          rfl
        · exact absurd (by simpa using hd2) hp0
  · simp only [decide_eq_false_iff_not] at hc
    obtain rfl : i = some.length := by omega
    rw [List.drop_length, pstd] at hP
    conv => whnf
    rw [← hP]
    refine ⟨_, Wk.refl _, ?_⟩
    rfl

end Go.Proofs.YtjlnaogechkjdaaDoor

namespace Go.Proofs.YtjlnaogechkjdaaDoor
open Go.Own
set_option maxHeartbeats 4000000
set_option maxRecDepth 100000

/-! ### The reference's Compare -/
def cls (own oth : List Ent) (fl : List Msg) (n : Int) (i : Nat) : Nat :=
  if atI oth (own.getD i e0).id < 0 then (if wayB fl n (i : Int) = true then 1 else 2)
  else if eqE (oth.getD (atI oth (own.getD i e0).id).toNat e0) (own.getD i e0) = true then 0 else 2
def pickE (c : Nat) (own oth : List Ent) (fl : List Msg) (n : Int) (k : Nat) : List Ent := ((List.range k).filter (fun i => decide (cls own oth fl n i = c))).map (fun i => own.getD i e0)
theorem srt_len (l : List Ent) : (srt l).length = l.length := by
  have h : ∀ (l a : List Ent), (l.foldl putE a).length = a.length + l.length := by
    intro l
    induction l with
    | nil => intro a; simp
    | cons e l ih =>
      intro a
      rw [List.foldl_cons, ih]
      unfold putE
      have : putAt a e ≤ a.length := List.findIdx_le_length
      simp only [List.length_append, List.length_take, List.length_drop, List.length_cons, List.length_nil]
      omega
  unfold srt
  rw [h]
  simp
theorem atI_lt {l : List Ent} {n : Int} (h : ¬ atI l n < 0) : 0 ≤ atI l n ∧ atI l n < (l.length : Int) := by
  unfold atI firstI at *
  split at h
  · rename_i h2
    rw [if_pos h2]
    omega
  · exact absurd (by decide) h
def okQ (a b : List Ent) (fl : List Msg) : Bool := (validB a && validB b) && fl.all (mailB a b)
def qI (a b : List Ent) (fl : List Msg) : List Ent := pickE 1 a b fl 0 a.length ++ pickE 1 b a fl 1 b.length
def qO (a b : List Ent) (fl : List Msg) : List Ent := pickE 2 a b fl 0 a.length ++ pickE 2 b a fl 1 b.length
end Go.Proofs.YtjlnaogechkjdaaDoor

namespace Go.Proofs.YtjlnaogechkjdaaDoor
open Go.Own
set_option maxHeartbeats 4000000
set_option maxRecDepth 100000

theorem text_inj {x y : Ent} (hx : rightE x = true) (hy : rightE y = true) (h : textQ x = textQ y) : x = y := by
  unfold textQ at h
  rw [if_pos hx, if_pos hy] at h
  rw [← (read_back hx).2, ← (read_back hy).2, h]
theorem read_text {x : Ent} (hx : rightE x = true) : readC (textQ x) = 0 ∧ readE (textQ x) = x := by
  obtain ⟨h1, h2⟩ := read_back hx
  have hq : textQ x = textE x := by unfold textQ; rw [if_pos hx]
  unfold readC readE
  rw [hq, if_pos h1, if_pos h1, h2]
  exact ⟨rfl, rfl⟩

/-! ### The example -/
def en (i n : Int) : Ent := ⟨i, 0, 0, 1, n⟩
def xa : List Ent := [en 1 5, en 2 5, en 3 5]
def xb : List Ent := [en 1 5, en 2 6, en 4 5]
def mb : Msg := ⟨1, 0, 0, 2⟩
theorem c1 : okC xa xb [] = true ∧ srt (rawI xa xb []) = [] ∧ srt (rawO xa xb []) = [en 2 5, en 2 6, en 3 5, en 4 5] := by decide
theorem c2 : okC xa xb [⟨0, 1, 0, 2⟩] = true ∧ srt (rawI xa xb [⟨0, 1, 0, 2⟩]) = [en 3 5] ∧ srt (rawO xa xb [⟨0, 1, 0, 2⟩]) = [en 2 5, en 2 6, en 4 5] := by decide
theorem c3 : okC xa xb [⟨0, 1, 0, 0⟩, mb, mb] = true ∧ srt (rawI xa xb [⟨0, 1, 0, 0⟩, mb, mb]) = [en 4 5] ∧ srt (rawO xa xb [⟨0, 1, 0, 0⟩, mb, mb]) = [en 2 5, en 2 6, en 3 5] := by decide
theorem idx_nil (s : Seal) : idxS [] s = 0 := rfl
theorem sm1 (A B : List UInt8) (h : A ≠ B) : signL [] 3 A = [⟨3, A⟩] ∧ signV [] 3 A = ⟨3, A, 0⟩ ∧ signL [⟨3, A⟩] 3 B = [⟨3, A⟩, ⟨3, B⟩] ∧ signV [⟨3, A⟩] 3 B = ⟨3, B, 1⟩ ∧
    signL [⟨3, A⟩, ⟨3, B⟩] 4 B = [⟨3, A⟩, ⟨3, B⟩, ⟨4, B⟩] ∧ signV [⟨3, A⟩, ⟨3, B⟩] 4 B = ⟨4, B, 2⟩ := by
  have h2 : ¬ B = A := fun e => h e.symm
  have k3 : keyB 3 = true := by decide
  have k4 : keyB 4 = true := by decide
  refine ⟨?_, ?_, ?_, ?_, ?_, ?_⟩ <;> simp [signL, signV, k3, k4, idxS_cons, idx_nil, h, h2]
theorem sm2 (A B : List UInt8) (h : A ≠ B) (x y : Ent) (hid : x.id = y.id) (hxy : x ≠ y) (rA : readC A = 0 ∧ readE A = x) (rB : readC B = 0 ∧ readE B = y) :
    convR sgB [⟨3, A⟩, ⟨3, B⟩, ⟨4, B⟩] ⟨3, A, 0⟩ ⟨3, B, 1⟩ = 0 ∧ convR sgB [⟨3, A⟩, ⟨3, B⟩, ⟨4, B⟩] ⟨3, A, 0⟩ ⟨3, A, 0⟩ = 5 ∧ convR sgB [⟨3, A⟩, ⟨3, B⟩, ⟨4, B⟩] ⟨3, A, 0⟩ ⟨4, B, 2⟩ = 18 := by
  have h2 : ¬ B = A := fun e => h e.symm
  refine ⟨?_, ?_, ?_⟩ <;> simp [convR, sgB, idxS_cons, idx_nil, h, h2, rA.1, rA.2, rB.1, rB.2, hid, hxy]
theorem small_ok : APureV Tryd.prog 7 [] (.bool true) := by
  have e15 := entry_ok 1 5
  have e25 := entry_ok 2 5
  have e35 := entry_ok 3 5
  have e26 := entry_ok 2 6
  have e45 := entry_ok 4 5
  have h1 := compare_ok xa xb [] (by decide) (by decide) (by decide)
  have h2 := compare_ok xa xb [⟨0, 1, 0, 2⟩] (by decide) (by decide) (by decide)
  have h3 := compare_ok xa xb [⟨0, 1, 0, 0⟩, mb, mb] (by decide) (by decide) (by decide)
  rw [if_pos c1.1, c1.2.1, c1.2.2] at h1
  rw [if_pos c2.1, c2.2.1, c2.2.2] at h2
  rw [if_pos c3.1, c3.2.1, c3.2.2] at h3
  have s1 := same_ok [en 2 5, en 2 6, en 3 5, en 4 5] [en 2 5, en 2 6, en 3 5, en 4 5] (by decide) (by decide)
  have s2 := same_ok [en 3 5] [en 3 5] (by decide) (by decide)
  have s3 := same_ok [en 2 5, en 2 6, en 4 5] [en 2 5, en 2 6, en 4 5] (by decide) (by decide)
  have s4 := same_ok [en 4 5] [en 4 5] (by decide) (by decide)
  have s5 := same_ok [en 2 5, en 2 6, en 3 5] [en 2 5, en 2 6, en 3 5] (by decide) (by decide)
  rw [decide_eq_true rfl] at s1 s2 s3 s4 s5
  have r25 : rightE (en 2 5) = true := by decide
  have r26 : rightE (en 2 6) = true := by decide
  have hne : textQ (en 2 5) ≠ textQ (en 2 6) := fun h => absurd (text_inj r25 r26 h) (by decide)
  have rA := read_text r25
  have rB := read_text r26
  have tA := text_ok (en 2 5)
  have tB := text_ok (en 2 6)
  have lA := textQ_len (en 2 5)
  have lB := textQ_len (en 2 6)
  generalize textQ (en 2 5) = A at *
  generalize textQ (en 2 6) = B at *
  obtain ⟨g1, v1, g2, v2, g3, v3⟩ := sm1 A B hne
  obtain ⟨k1, k2, k3⟩ := sm2 A B hne _ _ (show (en 2 5).id = (en 2 6).id from rfl) (by decide) rA rB
  have n1 := sign_ok [] (by decide) 3 A
  have n2 := sign_ok [⟨3, A⟩] (by simp) 3 B
  have n3 := sign_ok [⟨3, A⟩, ⟨3, B⟩] (by simp) 4 B
  rw [g1, v1] at n1
  rw [g2, v2] at n2
  rw [g3, v3] at n3
  have w1 := convict_ok [⟨3, A⟩, ⟨3, B⟩, ⟨4, B⟩] ⟨3, A, 0⟩ ⟨3, B, 1⟩ (by simp only; omega) (by simp only; omega)
  have w2 := convict_ok [⟨3, A⟩, ⟨3, B⟩, ⟨4, B⟩] ⟨3, A, 0⟩ ⟨3, A, 0⟩ (by simp only; omega) (by simp only; omega)
  have w3 := convict_ok [⟨3, A⟩, ⟨3, B⟩, ⟨4, B⟩] ⟨3, A, 0⟩ ⟨4, B, 2⟩ (by simp only; omega) (by simp only; omega)
  rw [k1] at w1
  rw [k2] at w2
  rw [k3] at w3
  refine apure_of (C := cx 147 [0, 1, 2, 3, 4, 5, 6, 7, 8, 9, 10, 11, 12, 13, 100]) (cxOk _ _) Tryd.func7 rfl (by decide) rfl (by exact Nat.le_of_ble_eq_true rfl) (by decide) ?_
  conv => whnf
  refine .one _ _ _ (fun _ => e15) (by repeat (first | exact .nil | (apply BorL.cons; first | exact lS rfl | exact lR rfl | exact lM rfl rfl | exact lL rfl | exact lX rfl | exact lN | exact lNl | exact lSm rfl | exact lIm rfl | exact lGm rfl | exact lP rfl | exact lQ rfl | exact lB rfl rfl rfl))) (by first | exact .inl rfl | exact .inr (by repeat (first | exact flats_nil | refine flats_cons (by first | exact flat_val _ rfl | exact flat_row (fun _ => rfl) | exact flat_lst (fun _ => rfl)) ?_))) (by first | exact .inr rfl | exact .inl rfl) ?_
  conv => whnf
  refine .one _ _ _ (fun _ => e25) (by repeat (first | exact .nil | (apply BorL.cons; first | exact lS rfl | exact lR rfl | exact lM rfl rfl | exact lL rfl | exact lX rfl | exact lN | exact lNl | exact lSm rfl | exact lIm rfl | exact lGm rfl | exact lP rfl | exact lQ rfl | exact lB rfl rfl rfl))) (by first | exact .inl rfl | exact .inr (by repeat (first | exact flats_nil | refine flats_cons (by first | exact flat_val _ rfl | exact flat_row (fun _ => rfl) | exact flat_lst (fun _ => rfl)) ?_))) (by first | exact .inr rfl | exact .inl rfl) ?_
  conv => whnf
  refine .one _ _ _ (fun _ => e35) (by repeat (first | exact .nil | (apply BorL.cons; first | exact lS rfl | exact lR rfl | exact lM rfl rfl | exact lL rfl | exact lX rfl | exact lN | exact lNl | exact lSm rfl | exact lIm rfl | exact lGm rfl | exact lP rfl | exact lQ rfl | exact lB rfl rfl rfl))) (by first | exact .inl rfl | exact .inr (by repeat (first | exact flats_nil | refine flats_cons (by first | exact flat_val _ rfl | exact flat_row (fun _ => rfl) | exact flat_lst (fun _ => rfl)) ?_))) (by first | exact .inr rfl | exact .inl rfl) ?_
  conv => whnf
  refine .one _ _ _ (fun _ => e15) (by repeat (first | exact .nil | (apply BorL.cons; first | exact lS rfl | exact lR rfl | exact lM rfl rfl | exact lL rfl | exact lX rfl | exact lN | exact lNl | exact lSm rfl | exact lIm rfl | exact lGm rfl | exact lP rfl | exact lQ rfl | exact lB rfl rfl rfl))) (by first | exact .inl rfl | exact .inr (by repeat (first | exact flats_nil | refine flats_cons (by first | exact flat_val _ rfl | exact flat_row (fun _ => rfl) | exact flat_lst (fun _ => rfl)) ?_))) (by first | exact .inr rfl | exact .inl rfl) ?_
  conv => whnf
  refine .one _ _ _ (fun _ => e26) (by repeat (first | exact .nil | (apply BorL.cons; first | exact lS rfl | exact lR rfl | exact lM rfl rfl | exact lL rfl | exact lX rfl | exact lN | exact lNl | exact lSm rfl | exact lIm rfl | exact lGm rfl | exact lP rfl | exact lQ rfl | exact lB rfl rfl rfl))) (by first | exact .inl rfl | exact .inr (by repeat (first | exact flats_nil | refine flats_cons (by first | exact flat_val _ rfl | exact flat_row (fun _ => rfl) | exact flat_lst (fun _ => rfl)) ?_))) (by first | exact .inr rfl | exact .inl rfl) ?_
  conv => whnf
  refine .one _ _ _ (fun _ => e45) (by repeat (first | exact .nil | (apply BorL.cons; first | exact lS rfl | exact lR rfl | exact lM rfl rfl | exact lL rfl | exact lX rfl | exact lN | exact lNl | exact lSm rfl | exact lIm rfl | exact lGm rfl | exact lP rfl | exact lQ rfl | exact lB rfl rfl rfl))) (by first | exact .inl rfl | exact .inr (by repeat (first | exact flats_nil | refine flats_cons (by first | exact flat_val _ rfl | exact flat_row (fun _ => rfl) | exact flat_lst (fun _ => rfl)) ?_))) (by first | exact .inr rfl | exact .inl rfl) ?_
  conv => whnf
  refine .one _ _ _ (fun _ => h1) (by repeat (first | exact .nil | (apply BorL.cons; first | exact lS rfl | exact lR rfl | exact lM rfl rfl | exact lL rfl | exact lX rfl | exact lN | exact lNl | exact lSm rfl | exact lIm rfl | exact lGm rfl | exact lP rfl | exact lQ rfl | exact lB rfl rfl rfl))) (by first | exact .inl rfl | exact .inr (by repeat (first | exact flats_nil | refine flats_cons (by first | exact flat_val _ rfl | exact flat_row (fun _ => rfl) | exact flat_lst (fun _ => rfl)) ?_))) (by first | exact .inr rfl | exact .inl rfl) ?_
  conv => whnf
  refine And.intro (fun _ => ?_) (fun h => absurd h (by decide)); conv => whnf
  refine .one _ _ _ (fun _ => e25) (by repeat (first | exact .nil | (apply BorL.cons; first | exact lS rfl | exact lR rfl | exact lM rfl rfl | exact lL rfl | exact lX rfl | exact lN | exact lNl | exact lSm rfl | exact lIm rfl | exact lGm rfl | exact lP rfl | exact lQ rfl | exact lB rfl rfl rfl))) (by first | exact .inl rfl | exact .inr (by repeat (first | exact flats_nil | refine flats_cons (by first | exact flat_val _ rfl | exact flat_row (fun _ => rfl) | exact flat_lst (fun _ => rfl)) ?_))) (by first | exact .inr rfl | exact .inl rfl) ?_
  conv => whnf
  refine And.intro (fun _ => ?_) (fun h => absurd h (by decide)); conv => whnf
  refine .one _ _ _ (fun _ => e26) (by repeat (first | exact .nil | (apply BorL.cons; first | exact lS rfl | exact lR rfl | exact lM rfl rfl | exact lL rfl | exact lX rfl | exact lN | exact lNl | exact lSm rfl | exact lIm rfl | exact lGm rfl | exact lP rfl | exact lQ rfl | exact lB rfl rfl rfl))) (by first | exact .inl rfl | exact .inr (by repeat (first | exact flats_nil | refine flats_cons (by first | exact flat_val _ rfl | exact flat_row (fun _ => rfl) | exact flat_lst (fun _ => rfl)) ?_))) (by first | exact .inr rfl | exact .inl rfl) ?_
  conv => whnf
  refine And.intro (fun _ => ?_) (fun h => absurd h (by decide)); conv => whnf
  refine .one _ _ _ (fun _ => e35) (by repeat (first | exact .nil | (apply BorL.cons; first | exact lS rfl | exact lR rfl | exact lM rfl rfl | exact lL rfl | exact lX rfl | exact lN | exact lNl | exact lSm rfl | exact lIm rfl | exact lGm rfl | exact lP rfl | exact lQ rfl | exact lB rfl rfl rfl))) (by first | exact .inl rfl | exact .inr (by repeat (first | exact flats_nil | refine flats_cons (by first | exact flat_val _ rfl | exact flat_row (fun _ => rfl) | exact flat_lst (fun _ => rfl)) ?_))) (by first | exact .inr rfl | exact .inl rfl) ?_
  conv => whnf
  refine And.intro (fun _ => ?_) (fun h => absurd h (by decide)); conv => whnf
  refine .one _ _ _ (fun _ => e45) (by repeat (first | exact .nil | (apply BorL.cons; first | exact lS rfl | exact lR rfl | exact lM rfl rfl | exact lL rfl | exact lX rfl | exact lN | exact lNl | exact lSm rfl | exact lIm rfl | exact lGm rfl | exact lP rfl | exact lQ rfl | exact lB rfl rfl rfl))) (by first | exact .inl rfl | exact .inr (by repeat (first | exact flats_nil | refine flats_cons (by first | exact flat_val _ rfl | exact flat_row (fun _ => rfl) | exact flat_lst (fun _ => rfl)) ?_))) (by first | exact .inr rfl | exact .inl rfl) ?_
  conv => whnf
  refine And.intro (fun _ => ?_) (fun h => absurd h (by decide)); conv => whnf
  refine .one _ _ _ (fun _ => s1) (by repeat (first | exact .nil | (apply BorL.cons; first | exact lS rfl | exact lR rfl | exact lM rfl rfl | exact lL rfl | exact lX rfl | exact lN | exact lNl | exact lSm rfl | exact lIm rfl | exact lGm rfl | exact lP rfl | exact lQ rfl | exact lB rfl rfl rfl))) (by first | exact .inl rfl | exact .inr (by repeat (first | exact flats_nil | refine flats_cons (by first | exact flat_val _ rfl | exact flat_row (fun _ => rfl) | exact flat_lst (fun _ => rfl)) ?_))) (by first | exact .inr rfl | exact .inl rfl) ?_
  conv => whnf
  refine .one _ _ _ (fun _ => h2) (by repeat (first | exact .nil | (apply BorL.cons; first | exact lS rfl | exact lR rfl | exact lM rfl rfl | exact lL rfl | exact lX rfl | exact lN | exact lNl | exact lSm rfl | exact lIm rfl | exact lGm rfl | exact lP rfl | exact lQ rfl | exact lB rfl rfl rfl))) (by first | exact .inl rfl | exact .inr (by repeat (first | exact flats_nil | refine flats_cons (by first | exact flat_val _ rfl | exact flat_row (fun _ => rfl) | exact flat_lst (fun _ => rfl)) ?_))) (by first | exact .inr rfl | exact .inl rfl) ?_
  conv => whnf
  refine .one _ _ _ (fun _ => e35) (by repeat (first | exact .nil | (apply BorL.cons; first | exact lS rfl | exact lR rfl | exact lM rfl rfl | exact lL rfl | exact lX rfl | exact lN | exact lNl | exact lSm rfl | exact lIm rfl | exact lGm rfl | exact lP rfl | exact lQ rfl | exact lB rfl rfl rfl))) (by first | exact .inl rfl | exact .inr (by repeat (first | exact flats_nil | refine flats_cons (by first | exact flat_val _ rfl | exact flat_row (fun _ => rfl) | exact flat_lst (fun _ => rfl)) ?_))) (by first | exact .inr rfl | exact .inl rfl) ?_
  conv => whnf
  refine .one _ _ _ (fun _ => s2) (by repeat (first | exact .nil | (apply BorL.cons; first | exact lS rfl | exact lR rfl | exact lM rfl rfl | exact lL rfl | exact lX rfl | exact lN | exact lNl | exact lSm rfl | exact lIm rfl | exact lGm rfl | exact lP rfl | exact lQ rfl | exact lB rfl rfl rfl))) (by first | exact .inl rfl | exact .inr (by repeat (first | exact flats_nil | refine flats_cons (by first | exact flat_val _ rfl | exact flat_row (fun _ => rfl) | exact flat_lst (fun _ => rfl)) ?_))) (by first | exact .inr rfl | exact .inl rfl) ?_
  conv => whnf
  refine And.intro (fun _ => ?_) (fun h => absurd h (by decide)); conv => whnf
  refine .one _ _ _ (fun _ => e25) (by repeat (first | exact .nil | (apply BorL.cons; first | exact lS rfl | exact lR rfl | exact lM rfl rfl | exact lL rfl | exact lX rfl | exact lN | exact lNl | exact lSm rfl | exact lIm rfl | exact lGm rfl | exact lP rfl | exact lQ rfl | exact lB rfl rfl rfl))) (by first | exact .inl rfl | exact .inr (by repeat (first | exact flats_nil | refine flats_cons (by first | exact flat_val _ rfl | exact flat_row (fun _ => rfl) | exact flat_lst (fun _ => rfl)) ?_))) (by first | exact .inr rfl | exact .inl rfl) ?_
  conv => whnf
  refine And.intro (fun _ => ?_) (fun h => absurd h (by decide)); conv => whnf
  refine .one _ _ _ (fun _ => e26) (by repeat (first | exact .nil | (apply BorL.cons; first | exact lS rfl | exact lR rfl | exact lM rfl rfl | exact lL rfl | exact lX rfl | exact lN | exact lNl | exact lSm rfl | exact lIm rfl | exact lGm rfl | exact lP rfl | exact lQ rfl | exact lB rfl rfl rfl))) (by first | exact .inl rfl | exact .inr (by repeat (first | exact flats_nil | refine flats_cons (by first | exact flat_val _ rfl | exact flat_row (fun _ => rfl) | exact flat_lst (fun _ => rfl)) ?_))) (by first | exact .inr rfl | exact .inl rfl) ?_
  conv => whnf
  refine And.intro (fun _ => ?_) (fun h => absurd h (by decide)); conv => whnf
  refine .one _ _ _ (fun _ => e45) (by repeat (first | exact .nil | (apply BorL.cons; first | exact lS rfl | exact lR rfl | exact lM rfl rfl | exact lL rfl | exact lX rfl | exact lN | exact lNl | exact lSm rfl | exact lIm rfl | exact lGm rfl | exact lP rfl | exact lQ rfl | exact lB rfl rfl rfl))) (by first | exact .inl rfl | exact .inr (by repeat (first | exact flats_nil | refine flats_cons (by first | exact flat_val _ rfl | exact flat_row (fun _ => rfl) | exact flat_lst (fun _ => rfl)) ?_))) (by first | exact .inr rfl | exact .inl rfl) ?_
  conv => whnf
  refine And.intro (fun _ => ?_) (fun h => absurd h (by decide)); conv => whnf
  refine .one _ _ _ (fun _ => s3) (by repeat (first | exact .nil | (apply BorL.cons; first | exact lS rfl | exact lR rfl | exact lM rfl rfl | exact lL rfl | exact lX rfl | exact lN | exact lNl | exact lSm rfl | exact lIm rfl | exact lGm rfl | exact lP rfl | exact lQ rfl | exact lB rfl rfl rfl))) (by first | exact .inl rfl | exact .inr (by repeat (first | exact flats_nil | refine flats_cons (by first | exact flat_val _ rfl | exact flat_row (fun _ => rfl) | exact flat_lst (fun _ => rfl)) ?_))) (by first | exact .inr rfl | exact .inl rfl) ?_
  conv => whnf
  refine .one _ _ _ (fun _ => h3) (by repeat (first | exact .nil | (apply BorL.cons; first | exact lS rfl | exact lR rfl | exact lM rfl rfl | exact lL rfl | exact lX rfl | exact lN | exact lNl | exact lSm rfl | exact lIm rfl | exact lGm rfl | exact lP rfl | exact lQ rfl | exact lB rfl rfl rfl))) (by first | exact .inl rfl | exact .inr (by repeat (first | exact flats_nil | refine flats_cons (by first | exact flat_val _ rfl | exact flat_row (fun _ => rfl) | exact flat_lst (fun _ => rfl)) ?_))) (by first | exact .inr rfl | exact .inl rfl) ?_
  conv => whnf
  refine .one _ _ _ (fun _ => e45) (by repeat (first | exact .nil | (apply BorL.cons; first | exact lS rfl | exact lR rfl | exact lM rfl rfl | exact lL rfl | exact lX rfl | exact lN | exact lNl | exact lSm rfl | exact lIm rfl | exact lGm rfl | exact lP rfl | exact lQ rfl | exact lB rfl rfl rfl))) (by first | exact .inl rfl | exact .inr (by repeat (first | exact flats_nil | refine flats_cons (by first | exact flat_val _ rfl | exact flat_row (fun _ => rfl) | exact flat_lst (fun _ => rfl)) ?_))) (by first | exact .inr rfl | exact .inl rfl) ?_
  conv => whnf
  refine .one _ _ _ (fun _ => s4) (by repeat (first | exact .nil | (apply BorL.cons; first | exact lS rfl | exact lR rfl | exact lM rfl rfl | exact lL rfl | exact lX rfl | exact lN | exact lNl | exact lSm rfl | exact lIm rfl | exact lGm rfl | exact lP rfl | exact lQ rfl | exact lB rfl rfl rfl))) (by first | exact .inl rfl | exact .inr (by repeat (first | exact flats_nil | refine flats_cons (by first | exact flat_val _ rfl | exact flat_row (fun _ => rfl) | exact flat_lst (fun _ => rfl)) ?_))) (by first | exact .inr rfl | exact .inl rfl) ?_
  conv => whnf
  refine And.intro (fun _ => ?_) (fun h => absurd h (by decide)); conv => whnf
  refine .one _ _ _ (fun _ => e25) (by repeat (first | exact .nil | (apply BorL.cons; first | exact lS rfl | exact lR rfl | exact lM rfl rfl | exact lL rfl | exact lX rfl | exact lN | exact lNl | exact lSm rfl | exact lIm rfl | exact lGm rfl | exact lP rfl | exact lQ rfl | exact lB rfl rfl rfl))) (by first | exact .inl rfl | exact .inr (by repeat (first | exact flats_nil | refine flats_cons (by first | exact flat_val _ rfl | exact flat_row (fun _ => rfl) | exact flat_lst (fun _ => rfl)) ?_))) (by first | exact .inr rfl | exact .inl rfl) ?_
  conv => whnf
  refine And.intro (fun _ => ?_) (fun h => absurd h (by decide)); conv => whnf
  refine .one _ _ _ (fun _ => e26) (by repeat (first | exact .nil | (apply BorL.cons; first | exact lS rfl | exact lR rfl | exact lM rfl rfl | exact lL rfl | exact lX rfl | exact lN | exact lNl | exact lSm rfl | exact lIm rfl | exact lGm rfl | exact lP rfl | exact lQ rfl | exact lB rfl rfl rfl))) (by first | exact .inl rfl | exact .inr (by repeat (first | exact flats_nil | refine flats_cons (by first | exact flat_val _ rfl | exact flat_row (fun _ => rfl) | exact flat_lst (fun _ => rfl)) ?_))) (by first | exact .inr rfl | exact .inl rfl) ?_
  conv => whnf
  refine And.intro (fun _ => ?_) (fun h => absurd h (by decide)); conv => whnf
  refine .one _ _ _ (fun _ => e35) (by repeat (first | exact .nil | (apply BorL.cons; first | exact lS rfl | exact lR rfl | exact lM rfl rfl | exact lL rfl | exact lX rfl | exact lN | exact lNl | exact lSm rfl | exact lIm rfl | exact lGm rfl | exact lP rfl | exact lQ rfl | exact lB rfl rfl rfl))) (by first | exact .inl rfl | exact .inr (by repeat (first | exact flats_nil | refine flats_cons (by first | exact flat_val _ rfl | exact flat_row (fun _ => rfl) | exact flat_lst (fun _ => rfl)) ?_))) (by first | exact .inr rfl | exact .inl rfl) ?_
  conv => whnf
  refine And.intro (fun _ => ?_) (fun h => absurd h (by decide)); conv => whnf
  refine .one _ _ _ (fun _ => s5) (by repeat (first | exact .nil | (apply BorL.cons; first | exact lS rfl | exact lR rfl | exact lM rfl rfl | exact lL rfl | exact lX rfl | exact lN | exact lNl | exact lSm rfl | exact lIm rfl | exact lGm rfl | exact lP rfl | exact lQ rfl | exact lB rfl rfl rfl))) (by first | exact .inl rfl | exact .inr (by repeat (first | exact flats_nil | refine flats_cons (by first | exact flat_val _ rfl | exact flat_row (fun _ => rfl) | exact flat_lst (fun _ => rfl)) ?_))) (by first | exact .inr rfl | exact .inl rfl) ?_
  conv => whnf
  refine .raw _ _ rfl (fun h => by cases h) (rio_at (new_ok) [] rfl rfl rfl (by repeat (first | exact trivial | refine And.intro (by first | exact .refl _ | exact .newgmap _ _ _ _ _ _ _ rfl rfl | exact .newimap _ _ _ _ _ _ _ rfl rfl | exact .smap _ _ _ _ _ _ rfl rfl) ?_))) ?_
  rintro _ ⟨_, _, _, ⟨rfl, rfl, rfl⟩, -, rfl⟩
  refine ⟨Nat.le_add_right _ _, ?_⟩
  conv => whnf
  refine And.intro (fun h => absurd h (by decide)) (fun _ => ?_); conv => whnf
  refine And.intro ⟨by decide, (show (1 : Int) < 3 by decide)⟩ ?_
  conv => whnf
  refine And.intro (show Int.toNat 1 < 3 by decide) (And.intro rfl ?_)
  conv => whnf
  refine .one _ _ _ (fun _ => tA) (by repeat (first | exact .nil | (apply BorL.cons; first | exact lS rfl | exact lR rfl | exact lM rfl rfl | exact lL rfl | exact lX rfl | exact lN | exact lNl | exact lSm rfl | exact lIm rfl | exact lGm rfl | exact lP rfl | exact lQ rfl | exact lB rfl rfl rfl))) (by first | exact .inl rfl | exact .inr (by repeat (first | exact flats_nil | refine flats_cons (by first | exact flat_val _ rfl | exact flat_row (fun _ => rfl) | exact flat_lst (fun _ => rfl)) ?_))) (by first | exact .inr rfl | exact .inl rfl) ?_
  conv => whnf
  refine .raw _ _ rfl (fun h => by cases h) (rio_at (n1) [16, 17, 18] rfl rfl rfl (by repeat (first | exact trivial | refine And.intro (by first | exact .refl _ | exact .newgmap _ _ _ _ _ _ _ rfl rfl | exact .newimap _ _ _ _ _ _ _ rfl rfl | exact .smap _ _ _ _ _ _ rfl rfl) ?_))) ?_
  rintro _ ⟨_, _, _, ⟨rfl, rfl, rfl⟩, -, rfl⟩
  refine ⟨Nat.le_add_right _ _, ?_⟩
  conv => whnf
  refine And.intro ⟨by decide, (show (1 : Int) < 3 by decide)⟩ ?_
  conv => whnf
  refine And.intro (show Int.toNat 1 < 3 by decide) (And.intro rfl ?_)
  conv => whnf
  refine .one _ _ _ (fun _ => tB) (by repeat (first | exact .nil | (apply BorL.cons; first | exact lS rfl | exact lR rfl | exact lM rfl rfl | exact lL rfl | exact lX rfl | exact lN | exact lNl | exact lSm rfl | exact lIm rfl | exact lGm rfl | exact lP rfl | exact lQ rfl | exact lB rfl rfl rfl))) (by first | exact .inl rfl | exact .inr (by repeat (first | exact flats_nil | refine flats_cons (by first | exact flat_val _ rfl | exact flat_row (fun _ => rfl) | exact flat_lst (fun _ => rfl)) ?_))) (by first | exact .inr rfl | exact .inl rfl) ?_
  conv => whnf
  refine .raw _ _ rfl (fun h => by cases h) (rio_at (n2) [16, 17, 19] rfl rfl rfl (by repeat (first | exact trivial | refine And.intro (by first | exact .refl _ | exact .newgmap _ _ _ _ _ _ _ rfl rfl | exact .newimap _ _ _ _ _ _ _ rfl rfl | exact .smap _ _ _ _ _ _ rfl rfl) ?_))) ?_
  rintro _ ⟨_, _, _, ⟨rfl, rfl, rfl⟩, -, rfl⟩
  refine ⟨Nat.le_add_right _ _, ?_⟩
  conv => whnf
  refine And.intro ⟨by decide, (show (1 : Int) < 3 by decide)⟩ ?_
  conv => whnf
  refine And.intro (show Int.toNat 1 < 3 by decide) (And.intro rfl ?_)
  conv => whnf
  refine .one _ _ _ (fun _ => tB) (by repeat (first | exact .nil | (apply BorL.cons; first | exact lS rfl | exact lR rfl | exact lM rfl rfl | exact lL rfl | exact lX rfl | exact lN | exact lNl | exact lSm rfl | exact lIm rfl | exact lGm rfl | exact lP rfl | exact lQ rfl | exact lB rfl rfl rfl))) (by first | exact .inl rfl | exact .inr (by repeat (first | exact flats_nil | refine flats_cons (by first | exact flat_val _ rfl | exact flat_row (fun _ => rfl) | exact flat_lst (fun _ => rfl)) ?_))) (by first | exact .inr rfl | exact .inl rfl) ?_
  conv => whnf
  refine .raw _ _ rfl (fun h => by cases h) (rio_at (n3) [16, 17, 21] rfl rfl rfl (by repeat (first | exact trivial | refine And.intro (by first | exact .refl _ | exact .newgmap _ _ _ _ _ _ _ rfl rfl | exact .newimap _ _ _ _ _ _ _ rfl rfl | exact .smap _ _ _ _ _ _ rfl rfl) ?_))) ?_
  rintro _ ⟨_, _, _, ⟨rfl, rfl, rfl⟩, -, rfl⟩
  refine ⟨Nat.le_add_right _ _, ?_⟩
  conv => whnf
  refine .one _ _ _ (fun _ => w1) (BorL.cons (lendR (k := 23) (j := 17) rfl rfl rfl) (by repeat (first | exact .nil | (apply BorL.cons; first | exact lS rfl | exact lR rfl | exact lM rfl rfl | exact lL rfl | exact lX rfl | exact lN | exact lNl | exact lSm rfl | exact lIm rfl | exact lGm rfl | exact lP rfl | exact lQ rfl | exact lB rfl rfl rfl)))) (by first | exact .inl rfl | exact .inr (by repeat (first | exact flats_nil | refine flats_cons (by first | exact flat_val _ rfl | exact flat_row (fun _ => rfl) | exact flat_lst (fun _ => rfl)) ?_))) (by first | exact .inr rfl | exact .inl rfl) ?_
  conv => whnf
  refine .one _ _ _ (fun _ => w2) (BorL.cons (lendR (k := 23) (j := 17) rfl rfl rfl) (by repeat (first | exact .nil | (apply BorL.cons; first | exact lS rfl | exact lR rfl | exact lM rfl rfl | exact lL rfl | exact lX rfl | exact lN | exact lNl | exact lSm rfl | exact lIm rfl | exact lGm rfl | exact lP rfl | exact lQ rfl | exact lB rfl rfl rfl)))) (by first | exact .inl rfl | exact .inr (by repeat (first | exact flats_nil | refine flats_cons (by first | exact flat_val _ rfl | exact flat_row (fun _ => rfl) | exact flat_lst (fun _ => rfl)) ?_))) (by first | exact .inr rfl | exact .inl rfl) ?_
  conv => whnf
  refine .one _ _ _ (fun _ => w3) (BorL.cons (lendR (k := 23) (j := 17) rfl rfl rfl) (by repeat (first | exact .nil | (apply BorL.cons; first | exact lS rfl | exact lR rfl | exact lM rfl rfl | exact lL rfl | exact lX rfl | exact lN | exact lNl | exact lSm rfl | exact lIm rfl | exact lGm rfl | exact lP rfl | exact lQ rfl | exact lB rfl rfl rfl)))) (by first | exact .inl rfl | exact .inr (by repeat (first | exact flats_nil | refine flats_cons (by first | exact flat_val _ rfl | exact flat_row (fun _ => rfl) | exact flat_lst (fun _ => rfl)) ?_))) (by first | exact .inr rfl | exact .inl rfl) ?_
  conv => whnf
  rfl

end Go.Proofs.YtjlnaogechkjdaaDoor

namespace Go.Proofs.YtjlnaogechkjdaaDoor
open Go.Own
set_option maxHeartbeats 4000000
set_option maxRecDepth 100000

/-! ### Both ways to compare are one -/
theorem ids_inj {l : List Ent} (h : OkL l) {x y : Ent} (hx : x ∈ l) (hy : y ∈ l) (e : x.id = y.id) : x = y := by
  have hn := h.nd
  obtain ⟨i, hi, rfl⟩ := List.getElem_of_mem hx
  obtain ⟨j, hj, rfl⟩ := List.getElem_of_mem hy
  have : i = j := by
    have := (List.getElem_inj (xs := l.map Ent.id) (i := i) (j := j) (h₀ := by simpa using hi) (h₁ := by simpa using hj) hn).1 (by simpa using e)
    exact this
  subst this
  rfl
theorem getD_inj {l : List Ent} (h : OkL l) {i j : Nat} (hi : i < l.length) (hj : j < l.length) (e : (l.getD i e0).id = (l.getD j e0).id) : i = j := by
  have hn := h.nd
  have e1 : l.getD i e0 = l[i] := by simp [List.getD, List.getElem?_eq_getElem hi]
  have e2 : l.getD j e0 = l[j] := by simp [List.getD, List.getElem?_eq_getElem hj]
  rw [e1, e2] at e
  exact (List.getElem_inj (xs := l.map Ent.id) (i := i) (j := j) (h₀ := by simpa using hi) (h₁ := by simpa using hj) hn).1 (by simpa using e)
theorem snoc_ind {T : Type} {P : List T → Prop} (h0 : P []) (h1 : ∀ l x, P l → P (l ++ [x])) (l : List T) : P l := by
  have h : ∀ k, k ≤ l.length → P (l.take k) := by
    intro k
    induction k with
    | zero => intro _; rw [List.take_zero]; exact h0
    | succ k ih =>
      intro hk
      have hlt : k < l.length := by omega
      rw [List.take_succ_eq_append_getElem hlt]
      exact h1 _ _ (ih (by omega))
  have := h l.length (Nat.le_refl _)
  rwa [List.take_length] at this
theorem found_get : ∀ (l : List Ent) (n : Int), (∀ x, mget (foundM l) n = some x → x ∈ l ∧ x.id = n) ∧ (mget (foundM l) n = none → ∀ x ∈ l, x.id ≠ n) := by
  intro l n
  refine snoc_ind (P := fun l => (∀ x, mget (foundM l) n = some x → x ∈ l ∧ x.id = n) ∧ (mget (foundM l) n = none → ∀ x ∈ l, x.id ≠ n)) ?_ ?_ l
  · exact ⟨fun x h => (by cases h), fun _ x h => (by cases h)⟩
  · intro l e ih
    rw [foundM_snoc, mget_mset]
    by_cases h : e.id = n
    · rw [if_pos h]
      refine ⟨fun x hx => ?_, fun h => by cases h⟩
      cases hx
      exact ⟨by simp, h⟩
    · rw [if_neg h]
      refine ⟨fun x hx => ⟨List.mem_append_left _ (ih.1 x hx).1, (ih.1 x hx).2⟩, fun hx x hm => ?_⟩
      rcases List.mem_append.1 hm with hm | hm
      · exact ih.2 hx x hm
      · rw [List.mem_singleton] at hm
        rw [hm]
        exact h
theorem at_neg {l : List Ent} {n : Int} : atI l n < 0 ↔ ∀ x ∈ l, x.id ≠ n := by
  unfold atI firstI
  by_cases h : l.findIdx (fun x : Ent => decide (x.id = n)) < l.length
  · rw [if_pos h]
    have h2 := List.findIdx_getElem (w := h)
    refine ⟨fun hh => by omega, fun hh => ?_⟩
    exact absurd (of_decide_eq_true h2) (hh _ (List.getElem_mem h))
  · rw [if_neg h]
    refine ⟨fun _ x hx e => h ?_, fun _ => by decide⟩
    rw [List.findIdx_lt_length]
    exact ⟨x, hx, decide_eq_true e⟩
theorem at_pos {l : List Ent} {n : Int} (h : ¬ atI l n < 0) : (l.getD (atI l n).toNat e0) ∈ l ∧ (l.getD (atI l n).toNat e0).id = n := by
  unfold atI firstI at *
  split at h
  · rename_i h2
    rw [if_pos h2, Int.toNat_natCast]
    have h3 := List.findIdx_getElem (w := h2)
    have e1 : l.getD (l.findIdx (fun x : Ent => decide (x.id = n))) e0 = l[l.findIdx (fun x : Ent => decide (x.id = n))] := by simp [List.getD, List.getElem?_eq_getElem h2]
    rw [e1]
    exact ⟨List.getElem_mem h2, of_decide_eq_true h3⟩
  · exact absurd (by decide) h
theorem way_get (a b : List Ent) (to : Int) : ∀ (l : List Msg) (n : Int), (mget (wayM a b to l) n).getD false = l.any (fun m => decide (m.to = to) && decide ((entOf a b m).id = n)) := by
  intro l n
  refine snoc_ind (P := fun l => (mget (wayM a b to l) n).getD false = l.any (fun m => decide (m.to = to) && decide ((entOf a b m).id = n))) rfl ?_ l
  · intro l m ih
    rw [wayM_snoc, List.any_append, ← ih]
    by_cases h : m.to = to
    · rw [if_pos h, mget_mset]
      by_cases h2 : (entOf a b m).id = n
      · rw [if_pos h2]
        simp [h, h2]
      · rw [if_neg h2]
        simp [h2]
    · rw [if_neg h]
      simp [h]
theorem way_one {a b : List Ent} {fl : List Msg} (ha : OkL a) (hb : OkL b) (hf : fl.all (msgB a b) = true) :
    (∀ i, i < a.length → (mget (wayM a b 1 fl) (a.getD i e0).id).getD false = wayB fl 0 i) ∧ (∀ i, i < b.length → (mget (wayM a b 0 fl) (b.getD i e0).id).getD false = wayB fl 1 i) := by
  have hm : ∀ m ∈ fl, msgB a b m = true := List.all_eq_true.1 hf
  constructor
  · intro i hi
    rw [way_get]
    unfold wayB
    rw [Bool.eq_iff_iff, List.any_eq_true, List.any_eq_true]
    constructor
    · rintro ⟨m, h1, h2⟩
      refine ⟨m, h1, ?_⟩
      have h3 := hm m h1
      unfold msgB at h3
      unfold entOf at h2
      simp only [Bool.and_eq_true, Bool.or_eq_true, decide_eq_true_eq] at h2 h3 ⊢
      have hf0 : m.frm = 0 := by omega
      rw [if_pos hf0] at h2 h3
      have := getD_inj ha (by omega) hi h2.2
      exact ⟨hf0, by omega⟩
    · rintro ⟨m, h1, h2⟩
      refine ⟨m, h1, ?_⟩
      have h3 := hm m h1
      unfold msgB at h3
      unfold entOf
      simp only [Bool.and_eq_true, Bool.or_eq_true, decide_eq_true_eq] at h2 h3 ⊢
      rw [if_pos h2.1, h2.2, Int.toNat_natCast]
      exact ⟨by omega, rfl⟩
  · intro i hi
    rw [way_get]
    unfold wayB
    rw [Bool.eq_iff_iff, List.any_eq_true, List.any_eq_true]
    constructor
    · rintro ⟨m, h1, h2⟩
      refine ⟨m, h1, ?_⟩
      have h3 := hm m h1
      unfold msgB at h3
      unfold entOf at h2
      simp only [Bool.and_eq_true, Bool.or_eq_true, decide_eq_true_eq] at h2 h3 ⊢
      have hf0 : ¬ m.frm = 0 := by omega
      rw [if_neg hf0] at h2 h3
      have := getD_inj hb (by omega) hi h2.2
      exact ⟨by omega, by omega⟩
    · rintro ⟨m, h1, h2⟩
      refine ⟨m, h1, ?_⟩
      have h3 := hm m h1
      unfold msgB at h3
      unfold entOf
      simp only [Bool.and_eq_true, Bool.or_eq_true, decide_eq_true_eq] at h2 h3 ⊢
      rw [if_neg (by omega), h2.2, Int.toNat_natCast]
      exact ⟨by omega, rfl⟩
/-! ### Rings -/
def sgL (l : List Seal) : List Seal := l.foldl (fun L s => signL L s.key s.text) []
theorem sgL_snoc (l : List Seal) (s : Seal) : sgL (l ++ [s]) = signL (sgL l) s.key s.text := by
  unfold sgL
  rw [List.foldl_append]
  rfl
theorem signL_len (l : List Seal) (k : Int) (t : List UInt8) : (signL l k t).length ≤ l.length + 1 := by
  unfold signL
  split
  · split
    · omega
    · simp
  · omega
theorem sgL_len (l : List Seal) : (sgL l).length ≤ l.length := by
  refine snoc_ind (P := fun l => (sgL l).length ≤ l.length) (Nat.le_refl _) ?_ l
  · intro l s ih
    rw [sgL_snoc, List.length_append, List.length_singleton]
    have := signL_len (sgL l) s.key s.text
    omega
end Go.Proofs.YtjlnaogechkjdaaDoor

namespace Go.Proofs.YtjlnaogechkjdaaDoor
open Go.Own
set_option maxHeartbeats 4000000
set_option maxRecDepth 100000

/-! ### AgreeTells -/
end Go.Proofs.YtjlnaogechkjdaaDoor

namespace Go.Proofs.YtjlnaogechkjdaaDoor
open Go.Own
set_option maxHeartbeats 4000000
set_option maxRecDepth 100000

/-! ### Ledgers exchanged -/
theorem srt_mem {l : List Ent} {x : Ent} : x ∈ srt l ↔ x ∈ l := (srt_ok l).2.mem
/-- What is told as missing on one side has no Id of the other side. -/
theorem in_far {a b : List Ent} {w w' : List (Int × Bool)} : ∀ x ∈ a.filter (goIn b w), ∀ y ∈ b.filter (goIn a w'), x.id ≠ y.id := by
  intro x hx y hy e
  obtain ⟨_, h1⟩ := List.mem_filter.1 hx
  obtain ⟨h2, _⟩ := List.mem_filter.1 hy
  unfold goIn at h1
  rw [Bool.and_eq_true, Option.isNone_iff_eq_none] at h1
  exact (found_get b x.id).2 h1.1 y h2 e.symm
end Go.Proofs.YtjlnaogechkjdaaDoor

namespace Go.Proofs.YtjlnaogechkjdaaDoor
open Go.Own
set_option maxHeartbeats 4000000
set_option maxRecDepth 100000

/-! ### Signatures of a ledger -/
theorem idxS_app (L M : List Seal) (s : Seal) : idxS (L ++ M) s = if idxS L s < L.length then idxS L s else L.length + idxS M s := by
  induction L with
  | nil => simp [idxS, List.findIdx_nil]
  | cons x L ih =>
    rw [List.cons_append, idxS_cons, idxS_cons, ih, List.length_cons]
    by_cases h : x = s
    · rw [if_pos h, if_pos h, if_pos (by omega)]
    · rw [if_neg h, if_neg h]
      by_cases h2 : idxS L s < L.length
      · rw [if_pos h2, if_pos (by omega)]
      · rw [if_neg h2, if_neg (by omega)]
        omega
theorem signL_grow (L : List Seal) (k : Int) (t : List UInt8) : ∃ M, signL L k t = L ++ M := by
  unfold signL
  split
  · split
    · exact ⟨[], by simp⟩
    · exact ⟨_, rfl⟩
  · exact ⟨[], by simp⟩
theorem sgL_grow (l1 l2 : List Seal) : ∃ M, sgL (l1 ++ l2) = sgL l1 ++ M := by
  refine snoc_ind (P := fun l2 => ∃ M, sgL (l1 ++ l2) = sgL l1 ++ M) ⟨[], by simp⟩ (fun l s ⟨M, hM⟩ => ?_) l2
  rw [← List.append_assoc, sgL_snoc, hM]
  obtain ⟨M2, h2⟩ := signL_grow (sgL l1 ++ M) s.key s.text
  exact ⟨M ++ M2, by rw [h2, List.append_assoc]⟩
theorem signL_self (L : List Seal) (s : Seal) (h : keyB s.key = true) : s ∈ signL L s.key s.text ∧ idxS (signL L s.key s.text) s = idxS L s := by
  unfold signL
  rw [if_pos h]
  split
  · rename_i hi
    exact ⟨idxS_lt.1 hi, rfl⟩
  · rename_i hi
    refine ⟨by simp, ?_⟩
    rw [idxS_app, if_neg hi, idxS_cons, if_pos rfl]
    have := idxS_le L s
    have hi' : ¬ idxS L s < L.length := hi
    omega
/-- The mark of what is signed is its place in the ring at last. -/
theorem sgL_idx (l1 l2 : List Seal) (s : Seal) (h : keyB s.key = true) : s ∈ sgL (l1 ++ s :: l2) ∧ idxS (sgL (l1 ++ s :: l2)) s = idxS (sgL l1) s := by
  rw [show l1 ++ s :: l2 = (l1 ++ [s]) ++ l2 by simp]
  obtain ⟨M, hM⟩ := sgL_grow (l1 ++ [s]) l2
  obtain ⟨h1, h2⟩ := signL_self (sgL l1) s h
  rw [hM, sgL_snoc]
  refine ⟨List.mem_append_left _ h1, ?_⟩
  rw [idxS_app, if_pos (idxS_lt.2 h1), h2]
def mkS (L : List Seal) (s : Seal) : Sgn := ⟨s.key, s.text, (idxS L s : Nat)⟩
theorem signV_mk (l1 l2 : List Seal) (s : Seal) (h : keyB s.key = true) : signV (sgL l1) s.key s.text = mkS (sgL (l1 ++ s :: l2)) s := by
  unfold signV mkS
  rw [if_pos h, (sgL_idx l1 l2 s h).2]
def slE (p : Int) (e : Ent) : Seal := ⟨p, textQ e⟩
def cvR (p q : Int) (x y : Ent) : Int := if p ≠ q then 18 else if x.id ≠ y.id then 4 else if x = y then 5 else 0
theorem conv_mk {L : List Seal} {p q : Int} {x y : Ent} (hx : rightE x = true) (hy : rightE y = true) (mx : slE p x ∈ L) (my : slE q y ∈ L) : convR sgB L (mkS L (slE p x)) (mkS L (slE q y)) = cvR p q x y := by
  have v : ∀ s ∈ L, sgB L (mkS L s) = true := fun s hs => by
    unfold sgB mkS
    simp [idxS_lt.2 hs]
  obtain ⟨a1, a2⟩ := read_text hx
  obtain ⟨b1, b2⟩ := read_text hy
  unfold convR cvR
  rw [v _ mx, v _ my]
  have e1 : (mkS L (slE p x)).text = textQ x := rfl
  have e2 : (mkS L (slE q y)).text = textQ y := rfl
  have e3 : (mkS L (slE p x)).key = p := rfl
  have e4 : (mkS L (slE q y)).key = q := rfl
  rw [e1, e2, e3, e4, a1, a2, b1, b2]
  simp
def oddB (x y : Ent) : Bool := decide (x.id = y.id) && !eqE x y
theorem odd_out {a b : List Ent} (ha : OkL a) (hb : OkL b) {x y : Ent} (hx : x ∈ a) (hy : y ∈ b) (h : oddB x y = true) : x ∈ srt (rawO a b []) ∧ y ∈ srt (rawO a b []) := by
  unfold oddB at h
  simp only [Bool.and_eq_true, decide_eq_true_eq, Bool.not_eq_true'] at h
  have get : ∀ {l : List Ent}, OkL l → ∀ {z : Ent} {n : Int}, z ∈ l → z.id = n → mget (foundM l) n = some z := by
    intro l hl z n hz hn
    obtain ⟨f1, f2⟩ := found_get l n
    cases hm : mget (foundM l) n with
    | none => exact absurd hn (f2 hm z hz)
    | some u =>
      obtain ⟨g1, g2⟩ := f1 u hm
      rw [ids_inj hl g1 hz (by rw [g2, hn])]
  have hyx : eqE y x = false := by
    cases he : eqE y x with
    | false => rfl
    | true => rw [eqE_iff.1 he, eqE_iff.2 rfl] at h; exact Bool.noConfusion h.2
  rw [srt_mem, srt_mem]
  unfold rawO
  constructor
  · refine List.mem_append_left _ (List.mem_filter.2 ⟨hx, ?_⟩)
    unfold goOut
    rw [get hb hy h.1.symm]
    simp only
    rw [hyx]
    rfl
  · refine List.mem_append_right _ (List.mem_filter.2 ⟨hy, ?_⟩)
    unfold goOut
    rw [get ha hx h.1]
    simp only
    rw [h.2]
    rfl
theorem cv_self {a : List Ent} (ha : OkL a) {p : Int} {x y : Ent} (hx : x ∈ a) (hy : y ∈ a) : decide (cvR p p x y = 0) = false := by
  refine decide_eq_false ?_
  unfold cvR
  rw [if_neg (by simp)]
  by_cases h : x.id = y.id
  · rw [if_neg (by simpa using h), if_pos (ids_inj ha hx hy h)]
    decide
  · rw [if_pos h]
    decide
theorem cv_zero (p q : Int) (x y : Ent) : decide (cvR p q x y = 0) = (oddB x y && decide (p = q)) := by
  unfold cvR oddB
  by_cases hp : p = q
  · rw [if_neg (by simpa using hp), decide_eq_true hp, Bool.and_true]
    by_cases h : x.id = y.id
    · rw [if_neg (by simpa using h), decide_eq_true h, Bool.true_and]
      by_cases he : x = y
      · rw [if_pos he, he, eqE_iff.2 rfl]
        rfl
      · rw [if_neg he]
        cases hq : eqE x y with
        | false => rfl
        | true => exact absurd (eqE_iff.1 hq) he
    · rw [if_pos h, decide_eq_false h]
      rfl
  · rw [if_pos hp, decide_eq_false hp, Bool.and_false]
    rfl
theorem cv_sym (p q : Int) (x y : Ent) : cvR p q x y = cvR q p y x := by
  unfold cvR
  have e1 : (p ≠ q) = (q ≠ p) := propext ⟨fun h e => h e.symm, fun h e => h e.symm⟩
  have e2 : (x.id ≠ y.id) = (y.id ≠ x.id) := propext ⟨fun h e => h e.symm, fun h e => h e.symm⟩
  have e3 : (x = y) = (y = x) := propext ⟨fun h => h.symm, fun h => h.symm⟩
  simp only [e1, e2, e3]
theorem getD_map {T U : Type} (f : T → U) (l : List T) (d : T) (u : U) {i : Nat} (h : i < l.length) : (l.map f).getD i u = f (l.getD i d) := by
  simp [List.getD, List.getElem?_eq_getElem h]

theorem law_convicts (a b : List Ent) (m n : Int) (hm : 0 ≤ m ∧ m ≤ 255) (hn : 0 ≤ n ∧ n ≤ 255) (ha : a.length ≤ 9223372036854775807) (hb : b.length ≤ 9223372036854775807) : APureV Tryd.prog 4 [encEs a, encEs b, .int .u8 m, .int .u8 n] (.bool true) := by
  have f1 := few45_ok a b [] 20
  have hva := valid_ok a ha
  have hvb := valid_ok b hb
  refine apure_of (C := cx 206 [0, 1, 2, 3, 8, 9, 10, 11, 12, 13, 14, 15, 16, 18, 19, 20, 21, 22, 23, 38, 48, 52, 69, 91, 95, 101, 114, 118, 204]) (cxOk _ _) Tryd.func4 rfl (by decide) rfl (by exact Nat.le_of_ble_eq_true rfl) (by decide) ?_
  conv => whnf
  refine .one _ _ _ (fun _ => small_ok) (by repeat (first | exact .nil | (apply BorL.cons; first | exact lS rfl | exact lR rfl | exact lM rfl rfl | exact lL rfl | exact lX rfl | exact lN | exact lNl | exact lSm rfl | exact lIm rfl | exact lGm rfl | exact lP rfl | exact lQ rfl | exact lB rfl rfl rfl))) (by first | exact .inl rfl | exact .inr (by repeat (first | exact flats_nil | refine flats_cons (by first | exact flat_val _ rfl | exact flat_row (fun _ => rfl) | exact flat_lst (fun _ => rfl)) ?_))) (by first | exact .inr rfl | exact .inl rfl) ?_
  conv => whnf
  refine .one _ _ _ (fun _ => f1) (by repeat (first | exact .nil | (apply BorL.cons; first | exact lS rfl | exact lR rfl | exact lM rfl rfl | exact lL rfl | exact lX rfl | exact lN | exact lNl | exact lSm rfl | exact lIm rfl | exact lGm rfl | exact lP rfl | exact lQ rfl | exact lB rfl rfl rfl))) (by first | exact .inl rfl | exact .inr (by repeat (first | exact flats_nil | refine flats_cons (by first | exact flat_val _ rfl | exact flat_row (fun _ => rfl) | exact flat_lst (fun _ => rfl)) ?_))) (by first | exact .inr rfl | exact .inl rfl) ?_
  conv => whnf
  refine .one _ _ _ (fun _ => hva) (by repeat (first | exact .nil | (apply BorL.cons; first | exact lS rfl | exact lR rfl | exact lM rfl rfl | exact lL rfl | exact lX rfl | exact lN | exact lNl | exact lSm rfl | exact lIm rfl | exact lGm rfl | exact lP rfl | exact lQ rfl | exact lB rfl rfl rfl))) (by first | exact .inl rfl | exact .inr (by repeat (first | exact flats_nil | refine flats_cons (by first | exact flat_val _ rfl | exact flat_row (fun _ => rfl) | exact flat_lst (fun _ => rfl)) ?_))) (by first | exact .inr rfl | exact .inl rfl) ?_
  conv => whnf
  refine .one _ _ _ (fun _ => hvb) (by repeat (first | exact .nil | (apply BorL.cons; first | exact lS rfl | exact lR rfl | exact lM rfl rfl | exact lL rfl | exact lX rfl | exact lN | exact lNl | exact lSm rfl | exact lIm rfl | exact lGm rfl | exact lP rfl | exact lQ rfl | exact lB rfl rfl rfl))) (by first | exact .inl rfl | exact .inr (by repeat (first | exact flats_nil | refine flats_cons (by first | exact flat_val _ rfl | exact flat_row (fun _ => rfl) | exact flat_lst (fun _ => rfl)) ?_))) (by first | exact .inr rfl | exact .inl rfl) ?_
  conv => whnf
  refine ⟨fun hc => ?_, fun hc => ?_⟩
  · conv => whnf
    rfl
  have hc' : few45 a b [] 20 = true ∧ validB a = true ∧ validB b = true := by
    simp only [Bool.or_eq_false_iff, Bool.not_eq_false'] at hc
    exact ⟨hc.1.1, hc.1.2, hc.2⟩
  obtain ⟨h1, h2, h3⟩ := hc'
  unfold few45 at h1
  simp only [Bool.and_eq_true, decide_eq_true_eq] at h1
  have hla : a.length ≤ 20 := by omega
  have hlb : b.length ≤ 20 := by omega
  conv => whnf
  refine And.intro ⟨by omega, by omega⟩ ?_; conv => whnf
  refine And.intro (by decide) ?_
  conv => whnf
  refine And.intro ⟨by omega, by omega⟩ ?_; conv => whnf
  refine And.intro (by decide) ?_
  conv => whnf
  have hA := (validB_iff.1 h2).2
  have hB := (validB_iff.1 h3).2
  have hp : keyB (m.tmod 200) = true := by
    unfold keyB
    have := Int.tmod_nonneg 200 hm.1
    have := Int.tmod_lt_of_pos m (show (0 : Int) < 200 by decide)
    simp only [Bool.and_eq_true, decide_eq_true_eq]
    omega
  have hq : keyB (n.tmod 200) = true := by
    unfold keyB
    have := Int.tmod_nonneg 200 hn.1
    have := Int.tmod_lt_of_pos n (show (0 : Int) < 200 by decide)
    simp only [Bool.and_eq_true, decide_eq_true_eq]
    omega
  generalize m.tmod 200 = p at *
  generalize n.tmod 200 = q at *
  generalize hLF : sgL (a.map (slE p) ++ b.map (slE q)) = LF
  have kA : ∀ k, k < a.length → signL (sgL ((a.map (slE p)).take k)) p (textQ (a.getD k e0)) = sgL ((a.map (slE p)).take (k + 1)) ∧ signV (sgL ((a.map (slE p)).take k)) p (textQ (a.getD k e0)) = mkS LF (slE p (a.getD k e0)) := by
    intro k hk
    have hk' : k < (a.map (slE p)).length := by rw [List.length_map]; exact hk
    have e1 : (a.map (slE p)).take (k + 1) = (a.map (slE p)).take k ++ [slE p (a.getD k e0)] := by rw [take_getD (d := s0) hk', getD_map _ _ e0 _ hk]
    constructor
    · rw [e1, sgL_snoc]
      rfl
    · have e2 : a.map (slE p) ++ b.map (slE q) = (a.map (slE p)).take k ++ slE p (a.getD k e0) :: ((a.map (slE p)).drop (k + 1) ++ b.map (slE q)) := by
        conv => lhs; rw [← List.take_append_drop (k + 1) (a.map (slE p)), e1]
        simp
      rw [← hLF, e2]
      exact signV_mk _ _ (slE p (a.getD k e0)) hp
  have kB : ∀ k, k < b.length → signL (sgL (a.map (slE p) ++ (b.map (slE q)).take k)) q (textQ (b.getD k e0)) = sgL (a.map (slE p) ++ (b.map (slE q)).take (k + 1)) ∧ signV (sgL (a.map (slE p) ++ (b.map (slE q)).take k)) q (textQ (b.getD k e0)) = mkS LF (slE q (b.getD k e0)) := by
    intro k hk
    have hk' : k < (b.map (slE q)).length := by rw [List.length_map]; exact hk
    have e1 : (b.map (slE q)).take (k + 1) = (b.map (slE q)).take k ++ [slE q (b.getD k e0)] := by rw [take_getD (d := s0) hk', getD_map _ _ e0 _ hk]
    constructor
    · rw [e1, ← List.append_assoc, sgL_snoc]
      rfl
    · have e2 : a.map (slE p) ++ b.map (slE q) = (a.map (slE p) ++ (b.map (slE q)).take k) ++ slE q (b.getD k e0) :: (b.map (slE q)).drop (k + 1) := by
        conv => lhs; rw [← List.take_append_drop (k + 1) (b.map (slE q)), e1]
        simp
      rw [← hLF, e2]
      exact signV_mk _ _ (slE q (b.getD k e0)) hq
  have mA : ∀ x ∈ a, slE p x ∈ LF := fun x hx => by
    obtain ⟨l1, l2, e⟩ := List.append_of_mem (List.mem_map_of_mem (f := slE p) hx)
    rw [← hLF, e, List.append_assoc, List.cons_append]
    exact (sgL_idx l1 _ (slE p x) hp).1
  have mB : ∀ x ∈ b, slE q x ∈ LF := fun x hx => by
    obtain ⟨l1, l2, e⟩ := List.append_of_mem (List.mem_map_of_mem (f := slE q) hx)
    rw [← hLF, e, ← List.append_assoc]
    exact (sgL_idx _ l2 (slE q x) hq).1
  have lA : ∀ k, (sgL ((a.map (slE p)).take k)).length ≤ 1000000 := fun k => by
    have := sgL_len ((a.map (slE p)).take k)
    rw [List.length_take, List.length_map] at this
    omega
  have lB : ∀ k, (sgL (a.map (slE p) ++ (b.map (slE q)).take k)).length ≤ 1000000 := fun k => by
    have := sgL_len (a.map (slE p) ++ (b.map (slE q)).take k)
    rw [List.length_append, List.length_take, List.length_map, List.length_map] at this
    omega
  have cv : ∀ (p1 q1 : Int) (x y : Ent), rightE x = true → rightE y = true → slE p1 x ∈ LF → slE q1 y ∈ LF → APureV Tryd.prog 17 [ringV LF, encSg (mkS LF (slE p1 x)), encSg (mkS LF (slE q1 y))] (.int .i64 (cvR p1 q1 x y)) := by
    intro p1 q1 x y hx hy h1 h2
    have := convict_ok LF (mkS LF (slE p1 x)) (mkS LF (slE q1 y)) (show (textQ x).length ≤ _ by have := textQ_len x; omega) (show (textQ y).length ≤ _ by have := textQ_len y; omega)
    rw [conv_mk hx hy h1 h2] at this
    exact this
  have hok : okC a b [] = true := by
    unfold okC
    rw [h2, h3]
    rfl
  have cmp := compare_ok a b [] hla hlb (by simp)
  rw [if_pos hok] at cmp
  have hodd := fun x y hx hy => odd_out hA hB (x := x) (y := y) hx hy
  have lO : (srt (rawO a b [])).length ≤ 40 := by
    rw [srt_len]
    unfold rawO
    rw [List.length_append]
    have := List.length_filter_le (goOut b (wayM a b 1 [])) a
    have := List.length_filter_le (goOut a (wayM a b 0 [])) b
    omega
  generalize srt (rawO a b []) = O at *
  generalize srt (rawI a b []) = I at *
  have hhas := fun e => has_ok O e (by omega)
  refine .raw [] _ rfl (fun _ => ⟨⟨_, [], _, _⟩, fun r' => Iff.rfl, rfl⟩) (rio_one (new_ok) [] rfl rfl rfl (by repeat (first | exact trivial | refine And.intro (by first | exact .refl _ | exact .newgmap _ _ _ _ _ _ _ rfl rfl | exact .newimap _ _ _ _ _ _ _ rfl rfl | exact .smap _ _ _ _ _ _ rfl rfl) ?_)) rfl) ?_
  rintro _ rfl
  refine ⟨Nat.le_add_right _ _, ?_⟩
  conv => whnf
  refine And.intro (fun h => absurd h (by decide)) (fun _ => ?_); conv => whnf
  refine loop_up (cxOk _ _) a.length (fun _ => True) (fun k => ⟨[(0, encEs a), (1, encEs b), (9, .bool true), (10, .int .i64 p), (11, .int .i64 q), (12, .ptr 0 0), (13, .own 3), (14, .nils), (15, .int .i64 (k : Nat))], [(0, .cells 77 [.own 2, .map 1]), (1, .gmap shS encI 0 (marksM (sgL ((a.map (slE p)).take k)))), (2, .row 40 2 encSl s0 (sgL ((a.map (slE p)).take k))), (3, .row 26 3 encSg g0 ((a.take k).map (fun e => mkS LF (slE p e))))], 4⟩) trivial ((wk_of [(0, .id 0), (1, .id 1), (2, .id 2), (3, .nil)] rfl ⟨.base (.tree _ _ rfl rfl), .base (.tree _ _ rfl rfl), .base (.tree _ _ rfl rfl), .base (.tree _ _ rfl rfl), .base (.tree _ _ rfl rfl), .base (.ptr _ _ _ rfl), (by first | exact .base (.own _ _ rfl) | exact .base (.nilown _ rfl) | exact .base (.trunc _ _ _ rfl)), .base (.tree _ _ rfl rfl), .base (.tree _ _ rfl rfl), trivial⟩ ⟨⟨_, rfl, .cells _ _ _ _ rfl (by repeat (first | exact .nil | refine .cons (by first | exact .base (.tree _ _ rfl rfl) | exact .base (.own _ _ rfl) | exact .base (.ptr _ _ _ rfl) | exact .base (.map _ _ rfl) | exact .base (.nilown _ rfl) | exact .fn _ _ _ _ _ .nil (by repeat (first | exact .nil | refine .cons (by exact .ptr _ _ _ rfl) ?_))) ?_)) rfl⟩, ⟨_, rfl, (by first | exact .gmap _ _ _ _ _ _ rfl rfl | exact .newgmap _ _ _ _ _ _ _ _ rfl rfl rfl)⟩, ⟨_, rfl, (by first | exact .row _ _ _ _ _ _ _ rfl rfl | exact .lstrow _ _ _ _ _ _ _ rfl rfl | exact .nilrow _ _ _ _ _ rfl | exact .truncrow _ _ _ _ _ _ _ _ rfl (by omega) rfl)⟩, ⟨_, rfl, (by first | exact .row _ _ _ _ _ _ _ rfl rfl | exact .lstrow _ _ _ _ _ _ _ rfl rfl | exact .nilrow _ _ _ _ _ rfl | exact .truncrow _ _ _ _ _ _ _ _ rfl (by omega) rfl)⟩, trivial⟩)) ?_
  intro k hk _
  conv => whnf
  refine ⟨fun hc1 => ?_, fun hc1 => ?_⟩
  · simp only [decide_eq_true_eq] at hc1
    have hlt : k < a.length := by omega
    have hck : a.getD (k : Int).toNat e0 = a.getD k e0 := by rw [Int.toNat_natCast]
    have ht := text_ok (a.getD k e0)
    have hs := sign_ok (sgL ((a.map (slE p)).take k)) (lA k) p (textQ (a.getD k e0))
    rw [(kA k hlt).1, (kA k hlt).2] at hs
    have hmt : (a.take (k + 1)).map (fun e => mkS LF (slE p e)) = (a.take k).map (fun e => mkS LF (slE p e)) ++ [mkS LF (slE p (a.getD k e0))] := by rw [take_getD (d := e0) hlt, List.map_append]; rfl
    conv => whnf
    refine And.intro ⟨by omega, by omega⟩ ?_; conv => whnf
    refine And.intro rfl ?_; conv => whnf
    rw [hck]
    refine .one _ _ _ (fun _ => ht) (by repeat (first | exact .nil | (apply BorL.cons; first | exact lS rfl | exact lR rfl | exact lM rfl rfl | exact lL rfl | exact lX rfl | exact lN | exact lNl | exact lSm rfl | exact lIm rfl | exact lGm rfl | exact lP rfl | exact lQ rfl | exact lB rfl rfl rfl))) (by first | exact .inl rfl | exact .inr (by repeat (first | exact flats_nil | refine flats_cons (by first | exact flat_val _ rfl | exact flat_row (fun _ => rfl) | exact flat_lst (fun _ => rfl)) ?_))) (by first | exact .inr rfl | exact .inl rfl) ?_
    conv => whnf
    refine .raw [0, 1, 2] _ rfl (fun _ => ⟨⟨_, [0, 1, 2], _, _⟩, fun r' => Iff.rfl, rfl⟩) (rio_one (hs) [0, 1, 2] rfl rfl rfl (by repeat (first | exact trivial | refine And.intro (by first | exact .refl _ | exact .newgmap _ _ _ _ _ _ _ rfl rfl | exact .newimap _ _ _ _ _ _ _ rfl rfl | exact .smap _ _ _ _ _ _ rfl rfl) ?_)) rfl) ?_
    rintro _ rfl
    refine ⟨Nat.le_add_right _ _, ?_⟩
    conv => whnf
    refine And.intro rfl ?_; conv => whnf
    refine And.intro ⟨rfl, rfl⟩ (And.intro (show (((a.take k).map (fun e => mkS LF (slE p e))).length + 1) * 32 ≤ 140737488355328 by rw [List.length_map, List.length_take]; omega) ?_)
    conv => whnf
    refine ⟨mkS LF (slE p (a.getD k e0)), rfl, ?_⟩
    conv => whnf
    refine And.intro ⟨by omega, by omega⟩ ?_; conv => whnf
    refine up hlt trivial ((wk_of [(0, .id 0), (1, .id 1), (2, .id 4), (3, .id 6)] rfl ⟨.base (.tree _ _ rfl rfl), .base (.tree _ _ rfl rfl), .base (.tree _ _ rfl rfl), .base (.tree _ _ rfl rfl), .base (.tree _ _ rfl rfl), .base (.ptr _ _ _ rfl), (by first | exact .base (.own _ _ rfl) | exact .base (.nilown _ rfl) | exact .base (.trunc _ _ _ rfl)), .base (.tree _ _ rfl rfl), .base (.tree _ _ rfl rfl), trivial⟩ ⟨⟨_, rfl, .cells _ _ _ _ rfl (by repeat (first | exact .nil | refine .cons (by first | exact .base (.tree _ _ rfl rfl) | exact .base (.own _ _ rfl) | exact .base (.ptr _ _ _ rfl) | exact .base (.map _ _ rfl) | exact .base (.nilown _ rfl) | exact .fn _ _ _ _ _ .nil (by repeat (first | exact .nil | refine .cons (by exact .ptr _ _ _ rfl) ?_))) ?_)) rfl⟩, ⟨_, rfl, (by first | exact .gmap _ _ _ _ _ _ rfl rfl | exact .newgmap _ _ _ _ _ _ _ _ rfl rfl rfl)⟩, ⟨_, rfl, (by first | exact .row _ _ _ _ _ _ _ rfl rfl | exact .lstrow _ _ _ _ _ _ _ rfl rfl | exact .nilrow _ _ _ _ _ rfl | exact .truncrow _ _ _ _ _ _ _ _ rfl (by omega) rfl)⟩, ⟨_, rfl, (by first | exact .row _ _ _ _ _ _ _ rfl hmt.symm | exact .lstrow _ _ _ _ _ _ _ rfl hmt.symm | exact .nilrow _ _ _ _ _ hmt.symm | exact .truncrow _ _ _ _ _ _ _ _ rfl (by omega) hmt.symm)⟩, trivial⟩))
  simp only [decide_eq_false_iff_not] at hc1
  obtain rfl : k = a.length := by omega
  rw [List.take_of_length_le (Nat.le_refl _), List.take_of_length_le (show (a.map (slE p)).length ≤ a.length by rw [List.length_map]; exact Nat.le_refl _)]
  conv => whnf
  refine loop_up (cxOk _ _) b.length (fun _ => True) (fun k => ⟨[(0, encEs a), (1, encEs b), (9, .bool true), (10, .int .i64 p), (11, .int .i64 q), (12, .ptr 0 0), (13, .own 3), (14, .own 4), (16, .int .i64 (k : Nat))], [(0, .cells 77 [.own 2, .map 1]), (1, .gmap shS encI 0 (marksM (sgL (a.map (slE p) ++ (b.map (slE q)).take k)))), (2, .row 40 2 encSl s0 (sgL (a.map (slE p) ++ (b.map (slE q)).take k))), (3, .row 26 3 encSg g0 (a.map (fun e => mkS LF (slE p e)))), (4, .row 26 3 encSg g0 ((b.take k).map (fun e => mkS LF (slE q e))))], 5⟩) trivial ((wk_of [(0, .id 0), (1, .id 1), (2, .id 2), (3, .id 3), (4, .nil)] rfl ⟨.base (.tree _ _ rfl rfl), .base (.tree _ _ rfl rfl), .base (.tree _ _ rfl rfl), .base (.tree _ _ rfl rfl), .base (.tree _ _ rfl rfl), .base (.ptr _ _ _ rfl), (by first | exact .base (.own _ _ rfl) | exact .base (.nilown _ rfl) | exact .base (.trunc _ _ _ rfl)), (by first | exact .base (.own _ _ rfl) | exact .base (.nilown _ rfl) | exact .base (.trunc _ _ _ rfl)), .base (.tree _ _ rfl rfl), trivial⟩ ⟨⟨_, rfl, .cells _ _ _ _ rfl (by repeat (first | exact .nil | refine .cons (by first | exact .base (.tree _ _ rfl rfl) | exact .base (.own _ _ rfl) | exact .base (.ptr _ _ _ rfl) | exact .base (.map _ _ rfl) | exact .base (.nilown _ rfl) | exact .fn _ _ _ _ _ .nil (by repeat (first | exact .nil | refine .cons (by exact .ptr _ _ _ rfl) ?_))) ?_)) rfl⟩, ⟨_, rfl, (by first | exact .gmap _ _ _ _ _ _ rfl (show marksM (sgL (a.map (slE p))) = marksM (sgL (a.map (slE p) ++ (b.map (slE q)).take 0)) by rw [List.take_zero, List.append_nil]) | exact .newgmap _ _ _ _ _ _ _ _ rfl rfl (show marksM (sgL (a.map (slE p))) = marksM (sgL (a.map (slE p) ++ (b.map (slE q)).take 0)) by rw [List.take_zero, List.append_nil]))⟩, ⟨_, rfl, (by first | exact .row _ _ _ _ _ _ _ rfl (show sgL (a.map (slE p)) = sgL (a.map (slE p) ++ (b.map (slE q)).take 0) by rw [List.take_zero, List.append_nil]) | exact .lstrow _ _ _ _ _ _ _ rfl (show sgL (a.map (slE p)) = sgL (a.map (slE p) ++ (b.map (slE q)).take 0) by rw [List.take_zero, List.append_nil]) | exact .nilrow _ _ _ _ _ (show sgL (a.map (slE p)) = sgL (a.map (slE p) ++ (b.map (slE q)).take 0) by rw [List.take_zero, List.append_nil]) | exact .truncrow _ _ _ _ _ _ _ _ rfl (by omega) (show sgL (a.map (slE p)) = sgL (a.map (slE p) ++ (b.map (slE q)).take 0) by rw [List.take_zero, List.append_nil]))⟩, ⟨_, rfl, (by first | exact .row _ _ _ _ _ _ _ rfl rfl | exact .lstrow _ _ _ _ _ _ _ rfl rfl | exact .nilrow _ _ _ _ _ rfl | exact .truncrow _ _ _ _ _ _ _ _ rfl (by omega) rfl)⟩, ⟨_, rfl, (by first | exact .row _ _ _ _ _ _ _ rfl rfl | exact .lstrow _ _ _ _ _ _ _ rfl rfl | exact .nilrow _ _ _ _ _ rfl | exact .truncrow _ _ _ _ _ _ _ _ rfl (by omega) rfl)⟩, trivial⟩)) ?_
  intro k hk _
  conv => whnf
  refine ⟨fun hc1 => ?_, fun hc1 => ?_⟩
  · simp only [decide_eq_true_eq] at hc1
    have hlt : k < b.length := by omega
    have hck : b.getD (k : Int).toNat e0 = b.getD k e0 := by rw [Int.toNat_natCast]
    have ht := text_ok (b.getD k e0)
    have hs := sign_ok (sgL (a.map (slE p) ++ (b.map (slE q)).take k)) (lB k) q (textQ (b.getD k e0))
    rw [(kB k hlt).1, (kB k hlt).2] at hs
    have hmt : (b.take (k + 1)).map (fun e => mkS LF (slE q e)) = (b.take k).map (fun e => mkS LF (slE q e)) ++ [mkS LF (slE q (b.getD k e0))] := by rw [take_getD (d := e0) hlt, List.map_append]; rfl
    conv => whnf
    refine And.intro ⟨by omega, by omega⟩ ?_; conv => whnf
    refine And.intro rfl ?_; conv => whnf
    rw [hck]
    refine .one _ _ _ (fun _ => ht) (by repeat (first | exact .nil | (apply BorL.cons; first | exact lS rfl | exact lR rfl | exact lM rfl rfl | exact lL rfl | exact lX rfl | exact lN | exact lNl | exact lSm rfl | exact lIm rfl | exact lGm rfl | exact lP rfl | exact lQ rfl | exact lB rfl rfl rfl))) (by first | exact .inl rfl | exact .inr (by repeat (first | exact flats_nil | refine flats_cons (by first | exact flat_val _ rfl | exact flat_row (fun _ => rfl) | exact flat_lst (fun _ => rfl)) ?_))) (by first | exact .inr rfl | exact .inl rfl) ?_
    conv => whnf
    refine .raw [0, 1, 2] _ rfl (fun _ => ⟨⟨_, [0, 1, 2], _, _⟩, fun r' => Iff.rfl, rfl⟩) (rio_one (hs) [0, 1, 2] rfl rfl rfl (by repeat (first | exact trivial | refine And.intro (by first | exact .refl _ | exact .newgmap _ _ _ _ _ _ _ rfl rfl | exact .newimap _ _ _ _ _ _ _ rfl rfl | exact .smap _ _ _ _ _ _ rfl rfl) ?_)) rfl) ?_
    rintro _ rfl
    refine ⟨Nat.le_add_right _ _, ?_⟩
    conv => whnf
    refine And.intro rfl ?_; conv => whnf
    refine And.intro ⟨rfl, rfl⟩ (And.intro (show (((b.take k).map (fun e => mkS LF (slE q e))).length + 1) * 32 ≤ 140737488355328 by rw [List.length_map, List.length_take]; omega) ?_)
    conv => whnf
    refine ⟨mkS LF (slE q (b.getD k e0)), rfl, ?_⟩
    conv => whnf
    refine And.intro ⟨by omega, by omega⟩ ?_; conv => whnf
    refine up hlt trivial ((wk_of [(0, .id 0), (1, .id 1), (2, .id 5), (3, .id 3), (4, .id 7)] rfl ⟨.base (.tree _ _ rfl rfl), .base (.tree _ _ rfl rfl), .base (.tree _ _ rfl rfl), .base (.tree _ _ rfl rfl), .base (.tree _ _ rfl rfl), .base (.ptr _ _ _ rfl), (by first | exact .base (.own _ _ rfl) | exact .base (.nilown _ rfl) | exact .base (.trunc _ _ _ rfl)), (by first | exact .base (.own _ _ rfl) | exact .base (.nilown _ rfl) | exact .base (.trunc _ _ _ rfl)), .base (.tree _ _ rfl rfl), trivial⟩ ⟨⟨_, rfl, .cells _ _ _ _ rfl (by repeat (first | exact .nil | refine .cons (by first | exact .base (.tree _ _ rfl rfl) | exact .base (.own _ _ rfl) | exact .base (.ptr _ _ _ rfl) | exact .base (.map _ _ rfl) | exact .base (.nilown _ rfl) | exact .fn _ _ _ _ _ .nil (by repeat (first | exact .nil | refine .cons (by exact .ptr _ _ _ rfl) ?_))) ?_)) rfl⟩, ⟨_, rfl, (by first | exact .gmap _ _ _ _ _ _ rfl rfl | exact .newgmap _ _ _ _ _ _ _ _ rfl rfl rfl)⟩, ⟨_, rfl, (by first | exact .row _ _ _ _ _ _ _ rfl rfl | exact .lstrow _ _ _ _ _ _ _ rfl rfl | exact .nilrow _ _ _ _ _ rfl | exact .truncrow _ _ _ _ _ _ _ _ rfl (by omega) rfl)⟩, ⟨_, rfl, (by first | exact .row _ _ _ _ _ _ _ rfl rfl | exact .lstrow _ _ _ _ _ _ _ rfl rfl | exact .nilrow _ _ _ _ _ rfl | exact .truncrow _ _ _ _ _ _ _ _ rfl (by omega) rfl)⟩, ⟨_, rfl, (by first | exact .row _ _ _ _ _ _ _ rfl hmt.symm | exact .lstrow _ _ _ _ _ _ _ rfl hmt.symm | exact .nilrow _ _ _ _ _ hmt.symm | exact .truncrow _ _ _ _ _ _ _ _ rfl (by omega) hmt.symm)⟩, trivial⟩))
  simp only [decide_eq_false_iff_not] at hc1
  obtain rfl : k = b.length := by omega
  rw [List.take_of_length_le (Nat.le_refl _), List.take_of_length_le (show (b.map (slE q)).length ≤ b.length by rw [List.length_map]; exact Nat.le_refl _), hLF]
  conv => whnf
  refine .one _ _ _ (fun _ => cmp) (by repeat (first | exact .nil | (apply BorL.cons; first | exact lS rfl | exact lR rfl | exact lM rfl rfl | exact lL rfl | exact lX rfl | exact lN | exact lNl | exact lSm rfl | exact lIm rfl | exact lGm rfl | exact lP rfl | exact lQ rfl | exact lB rfl rfl rfl))) (by first | exact .inl rfl | exact .inr (by repeat (first | exact flats_nil | refine flats_cons (by first | exact flat_val _ rfl | exact flat_row (fun _ => rfl) | exact flat_lst (fun _ => rfl)) ?_))) (by first | exact .inr rfl | exact .inl rfl) ?_
  conv => whnf
  refine And.intro (fun h => absurd h (by decide)) (fun _ => ?_); conv => whnf
  have xa : ∀ i, i < a.length → (a.map (fun e => mkS LF (slE p e))).getD (i : Int).toNat g0 = mkS LF (slE p (a.getD i e0)) := fun i hi => by rw [Int.toNat_natCast, getD_map _ _ e0 _ hi]
  have xb : ∀ i, i < b.length → (b.map (fun e => mkS LF (slE q e))).getD (i : Int).toNat g0 = mkS LF (slE q (b.getD i e0)) := fun i hi => by rw [Int.toNat_natCast, getD_map _ _ e0 _ hi]
  have nx : (a.map (fun e => mkS LF (slE p e))).length = a.length := List.length_map ..
  have ny : (b.map (fun e => mkS LF (slE q e))).length = b.length := List.length_map ..
  refine loop_up (cxOk _ _) a.length (fun _ => True) (fun i => ⟨[(0, encEs a), (1, encEs b), (9, .bool true), (10, .int .i64 p), (11, .int .i64 q), (12, .ptr 0 0), (13, .own 3), (14, .own 4), (18, .own 5), (20, .int .i64 (i : Nat))], [(0, .cells 77 [.own 2, .map 1]), (1, .gmap shS encI 0 (marksM LF)), (2, .row 40 2 encSl s0 LF), (3, .row 26 3 encSg g0 (a.map (fun e => mkS LF (slE p e)))), (4, .row 26 3 encSg g0 (b.map (fun e => mkS LF (slE q e)))), (5, .row 48 5 encE e0 O)], 6⟩) trivial ((wk_of [(0, .id 0), (1, .id 1), (2, .id 2), (3, .id 3), (4, .id 4), (5, .id 6)] rfl ⟨.base (.tree _ _ rfl rfl), .base (.tree _ _ rfl rfl), .base (.tree _ _ rfl rfl), .base (.tree _ _ rfl rfl), .base (.tree _ _ rfl rfl), .base (.ptr _ _ _ rfl), (by first | exact .base (.own _ _ rfl) | exact .base (.nilown _ rfl) | exact .base (.trunc _ _ _ rfl)), (by first | exact .base (.own _ _ rfl) | exact .base (.nilown _ rfl) | exact .base (.trunc _ _ _ rfl)), (by first | exact .base (.own _ _ rfl) | exact .base (.nilown _ rfl) | exact .base (.trunc _ _ _ rfl)), .base (.tree _ _ rfl rfl), trivial⟩ ⟨⟨_, rfl, .cells _ _ _ _ rfl (by repeat (first | exact .nil | refine .cons (by first | exact .base (.tree _ _ rfl rfl) | exact .base (.own _ _ rfl) | exact .base (.ptr _ _ _ rfl) | exact .base (.map _ _ rfl) | exact .base (.nilown _ rfl) | exact .fn _ _ _ _ _ .nil (by repeat (first | exact .nil | refine .cons (by exact .ptr _ _ _ rfl) ?_))) ?_)) rfl⟩, ⟨_, rfl, (by first | exact .gmap _ _ _ _ _ _ rfl rfl | exact .newgmap _ _ _ _ _ _ _ _ rfl rfl rfl)⟩, ⟨_, rfl, (by first | exact .row _ _ _ _ _ _ _ rfl rfl | exact .lstrow _ _ _ _ _ _ _ rfl rfl | exact .nilrow _ _ _ _ _ rfl | exact .truncrow _ _ _ _ _ _ _ _ rfl (by omega) rfl)⟩, ⟨_, rfl, (by first | exact .row _ _ _ _ _ _ _ rfl rfl | exact .lstrow _ _ _ _ _ _ _ rfl rfl | exact .nilrow _ _ _ _ _ rfl | exact .truncrow _ _ _ _ _ _ _ _ rfl (by omega) rfl)⟩, ⟨_, rfl, (by first | exact .row _ _ _ _ _ _ _ rfl rfl | exact .lstrow _ _ _ _ _ _ _ rfl rfl | exact .nilrow _ _ _ _ _ rfl | exact .truncrow _ _ _ _ _ _ _ _ rfl (by omega) rfl)⟩, ⟨_, rfl, (by first | exact .row _ _ _ _ _ _ _ rfl rfl | exact .lstrow _ _ _ _ _ _ _ rfl rfl | exact .nilrow _ _ _ _ _ rfl | exact .truncrow _ _ _ _ _ _ _ _ rfl (by omega) rfl)⟩, trivial⟩)) ?_
  intro i hi _
  conv => whnf
  rw [nx]
  refine ⟨fun hc2 => ?_, fun hc2 => ?_⟩
  · simp only [decide_eq_true_eq] at hc2
    have hlt : i < a.length := by omega
    have hx : a.getD i e0 ∈ a := getD_mem hlt
    have hcki : a.getD (i : Int).toNat e0 = a.getD i e0 := by rw [Int.toNat_natCast]
    conv => whnf
    refine loop_up (cxOk _ _) a.length (fun _ => True) (fun j => ⟨[(0, encEs a), (1, encEs b), (9, .bool true), (10, .int .i64 p), (11, .int .i64 q), (12, .ptr 0 0), (13, .own 3), (14, .own 4), (18, .own 5), (20, .int .i64 (i : Nat)), (21, .int .i64 (j : Nat))], [(0, .cells 77 [.own 2, .map 1]), (1, .gmap shS encI 0 (marksM LF)), (2, .row 40 2 encSl s0 LF), (3, .row 26 3 encSg g0 (a.map (fun e => mkS LF (slE p e)))), (4, .row 26 3 encSg g0 (b.map (fun e => mkS LF (slE q e)))), (5, .row 48 5 encE e0 O)], 6⟩) trivial ((wk_of [(0, .id 0), (1, .id 1), (2, .id 2), (3, .id 3), (4, .id 4), (5, .id 5)] rfl ⟨.base (.tree _ _ rfl rfl), .base (.tree _ _ rfl rfl), .base (.tree _ _ rfl rfl), .base (.tree _ _ rfl rfl), .base (.tree _ _ rfl rfl), .base (.ptr _ _ _ rfl), (by first | exact .base (.own _ _ rfl) | exact .base (.nilown _ rfl) | exact .base (.trunc _ _ _ rfl)), (by first | exact .base (.own _ _ rfl) | exact .base (.nilown _ rfl) | exact .base (.trunc _ _ _ rfl)), (by first | exact .base (.own _ _ rfl) | exact .base (.nilown _ rfl) | exact .base (.trunc _ _ _ rfl)), .base (.tree _ _ rfl rfl), .base (.tree _ _ rfl rfl), trivial⟩ ⟨⟨_, rfl, .cells _ _ _ _ rfl (by repeat (first | exact .nil | refine .cons (by first | exact .base (.tree _ _ rfl rfl) | exact .base (.own _ _ rfl) | exact .base (.ptr _ _ _ rfl) | exact .base (.map _ _ rfl) | exact .base (.nilown _ rfl) | exact .fn _ _ _ _ _ .nil (by repeat (first | exact .nil | refine .cons (by exact .ptr _ _ _ rfl) ?_))) ?_)) rfl⟩, ⟨_, rfl, (by first | exact .gmap _ _ _ _ _ _ rfl rfl | exact .newgmap _ _ _ _ _ _ _ _ rfl rfl rfl)⟩, ⟨_, rfl, (by first | exact .row _ _ _ _ _ _ _ rfl rfl | exact .lstrow _ _ _ _ _ _ _ rfl rfl | exact .nilrow _ _ _ _ _ rfl | exact .truncrow _ _ _ _ _ _ _ _ rfl (by omega) rfl)⟩, ⟨_, rfl, (by first | exact .row _ _ _ _ _ _ _ rfl rfl | exact .lstrow _ _ _ _ _ _ _ rfl rfl | exact .nilrow _ _ _ _ _ rfl | exact .truncrow _ _ _ _ _ _ _ _ rfl (by omega) rfl)⟩, ⟨_, rfl, (by first | exact .row _ _ _ _ _ _ _ rfl rfl | exact .lstrow _ _ _ _ _ _ _ rfl rfl | exact .nilrow _ _ _ _ _ rfl | exact .truncrow _ _ _ _ _ _ _ _ rfl (by omega) rfl)⟩, ⟨_, rfl, (by first | exact .row _ _ _ _ _ _ _ rfl rfl | exact .lstrow _ _ _ _ _ _ _ rfl rfl | exact .nilrow _ _ _ _ _ rfl | exact .truncrow _ _ _ _ _ _ _ _ rfl (by omega) rfl)⟩, trivial⟩)) ?_
    intro j hj _
    conv => whnf
    rw [nx]
    refine ⟨fun hc3 => ?_, fun hc3 => ?_⟩
    · simp only [decide_eq_true_eq] at hc3
      have hlj : j < a.length := by omega
      have hy : a.getD j e0 ∈ a := getD_mem hlj
      have hcv := cv p p _ _ (hA.right _ hx) (hA.right _ hy) (mA _ hx) (mA _ hy)
      have hz := cv_self hA (p := p) hx hy
      conv => whnf
      refine .eff (by first | exact cxOk _ _ | exact cxPOk _ _ _) ?_; conv => whnf
      refine And.intro ⟨by omega, by omega⟩ ?_; conv => whnf
      refine And.intro (by omega) (And.intro rfl ?_); conv => whnf
      refine And.intro ⟨by omega, by omega⟩ ?_; conv => whnf
      refine And.intro (by omega) (And.intro rfl ?_); conv => whnf
      rw [xa i hlt, xa j hlj]
      refine .one _ _ _ (fun _ => hcv) (BorL.cons (lendR (k := 2) (j := 1) rfl rfl rfl) (by repeat (first | exact .nil | (apply BorL.cons; first | exact lS rfl | exact lR rfl | exact lM rfl rfl | exact lL rfl | exact lX rfl | exact lN | exact lNl | exact lSm rfl | exact lIm rfl | exact lGm rfl | exact lP rfl | exact lQ rfl | exact lB rfl rfl rfl)))) (by first | exact .inl rfl | exact .inr (by repeat (first | exact flats_nil | refine flats_cons (by first | exact flat_val _ rfl | exact flat_row (fun _ => rfl) | exact flat_lst (fun _ => rfl)) ?_))) (by first | exact .inr rfl | exact .inl rfl) ?_
      conv => whnf
      rw [hz]
      refine And.intro rfl ?_; conv => whnf
      refine And.intro (fun h => absurd h (by decide)) (fun _ => ?_); conv => whnf
      refine And.intro ⟨by omega, by omega⟩ ?_; conv => whnf
      refine up hlj trivial ((wk_of [(0, .id 0), (1, .id 1), (2, .id 2), (3, .id 3), (4, .id 4), (5, .id 5)] rfl ⟨.base (.tree _ _ rfl rfl), .base (.tree _ _ rfl rfl), .base (.tree _ _ rfl rfl), .base (.tree _ _ rfl rfl), .base (.tree _ _ rfl rfl), .base (.ptr _ _ _ rfl), (by first | exact .base (.own _ _ rfl) | exact .base (.nilown _ rfl) | exact .base (.trunc _ _ _ rfl)), (by first | exact .base (.own _ _ rfl) | exact .base (.nilown _ rfl) | exact .base (.trunc _ _ _ rfl)), (by first | exact .base (.own _ _ rfl) | exact .base (.nilown _ rfl) | exact .base (.trunc _ _ _ rfl)), .base (.tree _ _ rfl rfl), .base (.tree _ _ rfl rfl), trivial⟩ ⟨⟨_, rfl, .cells _ _ _ _ rfl (by repeat (first | exact .nil | refine .cons (by first | exact .base (.tree _ _ rfl rfl) | exact .base (.own _ _ rfl) | exact .base (.ptr _ _ _ rfl) | exact .base (.map _ _ rfl) | exact .base (.nilown _ rfl) | exact .fn _ _ _ _ _ .nil (by repeat (first | exact .nil | refine .cons (by exact .ptr _ _ _ rfl) ?_))) ?_)) rfl⟩, ⟨_, rfl, (by first | exact .gmap _ _ _ _ _ _ rfl rfl | exact .newgmap _ _ _ _ _ _ _ _ rfl rfl rfl)⟩, ⟨_, rfl, (by first | exact .row _ _ _ _ _ _ _ rfl rfl | exact .lstrow _ _ _ _ _ _ _ rfl rfl | exact .nilrow _ _ _ _ _ rfl | exact .truncrow _ _ _ _ _ _ _ _ rfl (by omega) rfl)⟩, ⟨_, rfl, (by first | exact .row _ _ _ _ _ _ _ rfl rfl | exact .lstrow _ _ _ _ _ _ _ rfl rfl | exact .nilrow _ _ _ _ _ rfl | exact .truncrow _ _ _ _ _ _ _ _ rfl (by omega) rfl)⟩, ⟨_, rfl, (by first | exact .row _ _ _ _ _ _ _ rfl rfl | exact .lstrow _ _ _ _ _ _ _ rfl rfl | exact .nilrow _ _ _ _ _ rfl | exact .truncrow _ _ _ _ _ _ _ _ rfl (by omega) rfl)⟩, ⟨_, rfl, (by first | exact .row _ _ _ _ _ _ _ rfl rfl | exact .lstrow _ _ _ _ _ _ _ rfl rfl | exact .nilrow _ _ _ _ _ rfl | exact .truncrow _ _ _ _ _ _ _ _ rfl (by omega) rfl)⟩, trivial⟩))
    simp only [decide_eq_false_iff_not] at hc3
    conv => whnf
    refine loop_up (cxOk _ _) b.length (fun _ => True) (fun j => ⟨[(0, encEs a), (1, encEs b), (9, .bool true), (10, .int .i64 p), (11, .int .i64 q), (12, .ptr 0 0), (13, .own 3), (14, .own 4), (18, .own 5), (20, .int .i64 (i : Nat)), (22, .int .i64 (j : Nat))], [(0, .cells 77 [.own 2, .map 1]), (1, .gmap shS encI 0 (marksM LF)), (2, .row 40 2 encSl s0 LF), (3, .row 26 3 encSg g0 (a.map (fun e => mkS LF (slE p e)))), (4, .row 26 3 encSg g0 (b.map (fun e => mkS LF (slE q e)))), (5, .row 48 5 encE e0 O)], 6⟩) trivial ((wk_of [(0, .id 0), (1, .id 1), (2, .id 2), (3, .id 3), (4, .id 4), (5, .id 5)] rfl ⟨.base (.tree _ _ rfl rfl), .base (.tree _ _ rfl rfl), .base (.tree _ _ rfl rfl), .base (.tree _ _ rfl rfl), .base (.tree _ _ rfl rfl), .base (.ptr _ _ _ rfl), (by first | exact .base (.own _ _ rfl) | exact .base (.nilown _ rfl) | exact .base (.trunc _ _ _ rfl)), (by first | exact .base (.own _ _ rfl) | exact .base (.nilown _ rfl) | exact .base (.trunc _ _ _ rfl)), (by first | exact .base (.own _ _ rfl) | exact .base (.nilown _ rfl) | exact .base (.trunc _ _ _ rfl)), .base (.tree _ _ rfl rfl), .base (.tree _ _ rfl rfl), trivial⟩ ⟨⟨_, rfl, .cells _ _ _ _ rfl (by repeat (first | exact .nil | refine .cons (by first | exact .base (.tree _ _ rfl rfl) | exact .base (.own _ _ rfl) | exact .base (.ptr _ _ _ rfl) | exact .base (.map _ _ rfl) | exact .base (.nilown _ rfl) | exact .fn _ _ _ _ _ .nil (by repeat (first | exact .nil | refine .cons (by exact .ptr _ _ _ rfl) ?_))) ?_)) rfl⟩, ⟨_, rfl, (by first | exact .gmap _ _ _ _ _ _ rfl rfl | exact .newgmap _ _ _ _ _ _ _ _ rfl rfl rfl)⟩, ⟨_, rfl, (by first | exact .row _ _ _ _ _ _ _ rfl rfl | exact .lstrow _ _ _ _ _ _ _ rfl rfl | exact .nilrow _ _ _ _ _ rfl | exact .truncrow _ _ _ _ _ _ _ _ rfl (by omega) rfl)⟩, ⟨_, rfl, (by first | exact .row _ _ _ _ _ _ _ rfl rfl | exact .lstrow _ _ _ _ _ _ _ rfl rfl | exact .nilrow _ _ _ _ _ rfl | exact .truncrow _ _ _ _ _ _ _ _ rfl (by omega) rfl)⟩, ⟨_, rfl, (by first | exact .row _ _ _ _ _ _ _ rfl rfl | exact .lstrow _ _ _ _ _ _ _ rfl rfl | exact .nilrow _ _ _ _ _ rfl | exact .truncrow _ _ _ _ _ _ _ _ rfl (by omega) rfl)⟩, ⟨_, rfl, (by first | exact .row _ _ _ _ _ _ _ rfl rfl | exact .lstrow _ _ _ _ _ _ _ rfl rfl | exact .nilrow _ _ _ _ _ rfl | exact .truncrow _ _ _ _ _ _ _ _ rfl (by omega) rfl)⟩, trivial⟩)) ?_
    intro j hj _
    conv => whnf
    rw [ny]
    refine ⟨fun hc4 => ?_, fun hc4 => ?_⟩
    · simp only [decide_eq_true_eq] at hc4
      have hlj : j < b.length := by omega
      have hy : b.getD j e0 ∈ b := getD_mem hlj
      have hckj : b.getD (j : Int).toNat e0 = b.getD j e0 := by rw [Int.toNat_natCast]
      have hcv := cv p q _ _ (hA.right _ hx) (hB.right _ hy) (mA _ hx) (mB _ hy)
      have hcv2 := cv q p _ _ (hB.right _ hy) (hA.right _ hx) (mB _ hy) (mA _ hx)
      have hz := cv_zero p q (a.getD i e0) (b.getD j e0)
      have hsy := cv_sym q p (b.getD j e0) (a.getD i e0)
      rw [hsy] at hcv2
      have ho := hodd _ _ hx hy
      have hh1 := hhas (a.getD i e0)
      have hh2 := hhas (b.getD j e0)
      conv => whnf
      refine .quiet (by kernel_rfl) ?_; conv => whnf
      refine And.intro ⟨by omega, by omega⟩ ?_; conv => whnf
      refine And.intro rfl ?_; conv => whnf
      refine And.intro ⟨by omega, by omega⟩ ?_; conv => whnf
      refine And.intro rfl ?_; conv => whnf
      refine And.intro (by omega) (And.intro rfl ?_); conv => whnf
      refine And.intro (by omega) (And.intro rfl ?_); conv => whnf
      refine ⟨⟨by kernel_rfl, by kernel_rfl⟩, ?_⟩
      conv => whnf
      refine .quiet (by kernel_rfl) ?_; conv => whnf
      refine And.intro (by omega) (And.intro rfl ?_); conv => whnf
      rw [hcki, hckj]
      refine .mk _ _ _ _ (fun _ => hh1) (by repeat (first | exact .nil | (apply BorL.cons; first | exact lS rfl | exact lR rfl | exact lM rfl rfl | exact lL rfl | exact lX rfl | exact lN | exact lNl | exact lSm rfl | exact lIm rfl | exact lGm rfl | exact lP rfl | exact lQ rfl | exact lB rfl rfl rfl))) rfl ?_
      conv => whnf
      refine And.intro (by omega) (And.intro rfl ?_); conv => whnf
      refine .mk _ _ _ _ (fun _ => hh2) (by repeat (first | exact .nil | (apply BorL.cons; first | exact lS rfl | exact lR rfl | exact lM rfl rfl | exact lL rfl | exact lX rfl | exact lN | exact lNl | exact lSm rfl | exact lIm rfl | exact lGm rfl | exact lP rfl | exact lQ rfl | exact lB rfl rfl rfl))) rfl ?_
      conv => whnf
      refine And.intro (fun _ => ⟨by omega, by omega⟩) ?_; conv => whnf
      refine And.intro (by omega) (And.intro rfl ?_); conv => whnf
      refine And.intro (fun _ => ⟨by omega, by omega⟩) ?_; conv => whnf
      refine And.intro (by omega) (And.intro rfl ?_); conv => whnf
      rw [xa i hlt, xb j hlj]
      refine .mk _ _ _ _ (fun _ => hcv) (BorL.cons (lendR (k := 2) (j := 1) rfl rfl rfl) (by repeat (first | exact .nil | (apply BorL.cons; first | exact lS rfl | exact lR rfl | exact lM rfl rfl | exact lL rfl | exact lX rfl | exact lN | exact lNl | exact lSm rfl | exact lIm rfl | exact lGm rfl | exact lP rfl | exact lQ rfl | exact lB rfl rfl rfl)))) rfl ?_
      conv => whnf
      refine And.intro (fun _ => ⟨by omega, by omega⟩) ?_; conv => whnf
      refine And.intro (by omega) (And.intro rfl ?_); conv => whnf
      refine And.intro (fun _ => ⟨by omega, by omega⟩) ?_; conv => whnf
      refine And.intro (by omega) (And.intro rfl ?_); conv => whnf
      rw [xa i hlt, xb j hlj]
      refine .mk _ _ _ _ (fun _ => hcv) (BorL.cons (lendR (k := 2) (j := 1) rfl rfl rfl) (by repeat (first | exact .nil | (apply BorL.cons; first | exact lS rfl | exact lR rfl | exact lM rfl rfl | exact lL rfl | exact lX rfl | exact lN | exact lNl | exact lSm rfl | exact lIm rfl | exact lGm rfl | exact lP rfl | exact lQ rfl | exact lB rfl rfl rfl)))) rfl ?_
      conv => whnf
      refine And.intro (fun _ => ⟨by omega, by omega⟩) ?_; conv => whnf
      refine And.intro (by omega) (And.intro rfl ?_); conv => whnf
      refine And.intro (fun _ => ⟨by omega, by omega⟩) ?_; conv => whnf
      refine And.intro (by omega) (And.intro rfl ?_); conv => whnf
      rw [xa i hlt, xb j hlj]
      refine .mk _ _ _ _ (fun _ => hcv2) (BorL.cons (lendR (k := 2) (j := 1) rfl rfl rfl) (by repeat (first | exact .nil | (apply BorL.cons; first | exact lS rfl | exact lR rfl | exact lM rfl rfl | exact lL rfl | exact lX rfl | exact lN | exact lNl | exact lSm rfl | exact lIm rfl | exact lGm rfl | exact lP rfl | exact lQ rfl | exact lB rfl rfl rfl)))) rfl ?_
      conv => whnf
      rw [hz]
      refine ⟨fun hd2 => ?_, fun hd2 => ?_⟩
      · exfalso
        have h6 : (((oddB (a.getD i e0) (b.getD j e0) && (!sameB O (a.getD i e0) || !sameB O (b.getD j e0))) || !((oddB (a.getD i e0) (b.getD j e0) && decide (p = q)) == (oddB (a.getD i e0) (b.getD j e0) && decide (p = q)))) || !decide (cvR p q (a.getD i e0) (b.getD j e0) = cvR p q (a.getD i e0) (b.getD j e0))) = true := hd2
        rw [decide_eq_true rfl, beq_self_eq_true, Bool.not_true, Bool.or_false, Bool.or_false] at h6
        rw [Bool.and_eq_true] at h6
        obtain ⟨o1, o2⟩ := ho h6.1
        have s1 : sameB O (a.getD i e0) = true := by
          unfold sameB
          exact List.any_eq_true.2 ⟨_, o1, decide_eq_true rfl⟩
        have s2 : sameB O (b.getD j e0) = true := by
          unfold sameB
          exact List.any_eq_true.2 ⟨_, o2, decide_eq_true rfl⟩
        rw [s1, s2] at h6
        exact Bool.noConfusion h6.2
      · conv => whnf
        refine And.intro ⟨by omega, by omega⟩ ?_; conv => whnf
        refine up hlj trivial ((wk_of [(0, .id 0), (1, .id 1), (2, .id 2), (3, .id 3), (4, .id 4), (5, .id 5)] rfl ⟨.base (.tree _ _ rfl rfl), .base (.tree _ _ rfl rfl), .base (.tree _ _ rfl rfl), .base (.tree _ _ rfl rfl), .base (.tree _ _ rfl rfl), .base (.ptr _ _ _ rfl), (by first | exact .base (.own _ _ rfl) | exact .base (.nilown _ rfl) | exact .base (.trunc _ _ _ rfl)), (by first | exact .base (.own _ _ rfl) | exact .base (.nilown _ rfl) | exact .base (.trunc _ _ _ rfl)), (by first | exact .base (.own _ _ rfl) | exact .base (.nilown _ rfl) | exact .base (.trunc _ _ _ rfl)), .base (.tree _ _ rfl rfl), .base (.tree _ _ rfl rfl), trivial⟩ ⟨⟨_, rfl, .cells _ _ _ _ rfl (by repeat (first | exact .nil | refine .cons (by first | exact .base (.tree _ _ rfl rfl) | exact .base (.own _ _ rfl) | exact .base (.ptr _ _ _ rfl) | exact .base (.map _ _ rfl) | exact .base (.nilown _ rfl) | exact .fn _ _ _ _ _ .nil (by repeat (first | exact .nil | refine .cons (by exact .ptr _ _ _ rfl) ?_))) ?_)) rfl⟩, ⟨_, rfl, (by first | exact .gmap _ _ _ _ _ _ rfl rfl | exact .newgmap _ _ _ _ _ _ _ _ rfl rfl rfl)⟩, ⟨_, rfl, (by first | exact .row _ _ _ _ _ _ _ rfl rfl | exact .lstrow _ _ _ _ _ _ _ rfl rfl | exact .nilrow _ _ _ _ _ rfl | exact .truncrow _ _ _ _ _ _ _ _ rfl (by omega) rfl)⟩, ⟨_, rfl, (by first | exact .row _ _ _ _ _ _ _ rfl rfl | exact .lstrow _ _ _ _ _ _ _ rfl rfl | exact .nilrow _ _ _ _ _ rfl | exact .truncrow _ _ _ _ _ _ _ _ rfl (by omega) rfl)⟩, ⟨_, rfl, (by first | exact .row _ _ _ _ _ _ _ rfl rfl | exact .lstrow _ _ _ _ _ _ _ rfl rfl | exact .nilrow _ _ _ _ _ rfl | exact .truncrow _ _ _ _ _ _ _ _ rfl (by omega) rfl)⟩, ⟨_, rfl, (by first | exact .row _ _ _ _ _ _ _ rfl rfl | exact .lstrow _ _ _ _ _ _ _ rfl rfl | exact .nilrow _ _ _ _ _ rfl | exact .truncrow _ _ _ _ _ _ _ _ rfl (by omega) rfl)⟩, trivial⟩))
    simp only [decide_eq_false_iff_not] at hc4
    conv => whnf
    refine And.intro ⟨by omega, by omega⟩ ?_; conv => whnf
    refine up hlt trivial ((wk_of [(0, .id 0), (1, .id 1), (2, .id 2), (3, .id 3), (4, .id 4), (5, .id 5)] rfl ⟨.base (.tree _ _ rfl rfl), .base (.tree _ _ rfl rfl), .base (.tree _ _ rfl rfl), .base (.tree _ _ rfl rfl), .base (.tree _ _ rfl rfl), .base (.ptr _ _ _ rfl), (by first | exact .base (.own _ _ rfl) | exact .base (.nilown _ rfl) | exact .base (.trunc _ _ _ rfl)), (by first | exact .base (.own _ _ rfl) | exact .base (.nilown _ rfl) | exact .base (.trunc _ _ _ rfl)), (by first | exact .base (.own _ _ rfl) | exact .base (.nilown _ rfl) | exact .base (.trunc _ _ _ rfl)), .base (.tree _ _ rfl rfl), trivial⟩ ⟨⟨_, rfl, .cells _ _ _ _ rfl (by repeat (first | exact .nil | refine .cons (by first | exact .base (.tree _ _ rfl rfl) | exact .base (.own _ _ rfl) | exact .base (.ptr _ _ _ rfl) | exact .base (.map _ _ rfl) | exact .base (.nilown _ rfl) | exact .fn _ _ _ _ _ .nil (by repeat (first | exact .nil | refine .cons (by exact .ptr _ _ _ rfl) ?_))) ?_)) rfl⟩, ⟨_, rfl, (by first | exact .gmap _ _ _ _ _ _ rfl rfl | exact .newgmap _ _ _ _ _ _ _ _ rfl rfl rfl)⟩, ⟨_, rfl, (by first | exact .row _ _ _ _ _ _ _ rfl rfl | exact .lstrow _ _ _ _ _ _ _ rfl rfl | exact .nilrow _ _ _ _ _ rfl | exact .truncrow _ _ _ _ _ _ _ _ rfl (by omega) rfl)⟩, ⟨_, rfl, (by first | exact .row _ _ _ _ _ _ _ rfl rfl | exact .lstrow _ _ _ _ _ _ _ rfl rfl | exact .nilrow _ _ _ _ _ rfl | exact .truncrow _ _ _ _ _ _ _ _ rfl (by omega) rfl)⟩, ⟨_, rfl, (by first | exact .row _ _ _ _ _ _ _ rfl rfl | exact .lstrow _ _ _ _ _ _ _ rfl rfl | exact .nilrow _ _ _ _ _ rfl | exact .truncrow _ _ _ _ _ _ _ _ rfl (by omega) rfl)⟩, ⟨_, rfl, (by first | exact .row _ _ _ _ _ _ _ rfl rfl | exact .lstrow _ _ _ _ _ _ _ rfl rfl | exact .nilrow _ _ _ _ _ rfl | exact .truncrow _ _ _ _ _ _ _ _ rfl (by omega) rfl)⟩, trivial⟩))
  · simp only [decide_eq_false_iff_not] at hc2
    conv => whnf
    rfl

end Go.Proofs.YtjlnaogechkjdaaDoor

/-
  What the rows of the layer agree share: how parameters are opened, and a world in which the listed tables lie.
-/
namespace Go.Proofs.YtjlnaogechkjdaaDoor
open Go.ChangeShapes Go.WideShapes Go.RowKit Go.Own

theorem Tryd.own : ownKnob Tryd.prog.godebug = none := by kernel_rfl
theorem Tryd.laidOut : laidOutB Tryd.prog = true := by kernel_rfl
theorem undBool : Tryd.prog.underlying 4 = some .bool := by kernel_rfl
theorem und3' : Tryd.prog.underlying 3 = some (.int .i64) := by kernel_rfl
theorem und5' : Tryd.prog.underlying 5 = some (.int .u8) := by kernel_rfl
theorem und22' : Tryd.prog.underlying 22 = some (.slice 48) := by kernel_rfl
def fieldsE' : Array Field := #[{ name := "Id", type := 3, offset := 0, embedded := false, tag := "", pkgPath := "", byteOffset := 0 }, { name := "Day", type := 3, offset := 1, embedded := false, tag := "", pkgPath := "", byteOffset := 8 }, { name := "From", type := 3, offset := 2, embedded := false, tag := "", pkgPath := "", byteOffset := 16 }, { name := "To", type := 3, offset := 3, embedded := false, tag := "", pkgPath := "", byteOffset := 24 }, { name := "Amount", type := 3, offset := 4, embedded := false, tag := "", pkgPath := "", byteOffset := 32 }]
theorem und48' : Tryd.prog.underlying 48 = some (.struct fieldsE') := by kernel_rfl
theorem in64_of {n : Int} (h : IntKind.i64.min ≤ n ∧ n ≤ IntKind.i64.max) : in64 n := by
  have e1 : IntKind.i64.min = -9223372036854775808 := by rfl
  have e2 : IntKind.i64.max = 9223372036854775807 := by rfl
  rw [e1, e2] at h
  exact h
theorem in8_of {n : Int} (h : IntKind.u8.min ≤ n ∧ n ≤ IntKind.u8.max) : 0 ≤ n ∧ n ≤ 255 := by
  have e1 : IntKind.u8.min = 0 := by rfl
  have e2 : IntKind.u8.max = 255 := by rfl
  rw [e1, e2] at h
  exact h
abbrev rInt : List AV → Prop := fun l => ∃ n, (IntKind.i64.min ≤ n ∧ n ≤ IntKind.i64.max) ∧ l = [.int .i64 n]
theorem oInt : OpensR Tryd.prog 3 1 rInt := opensR_int und3' (by kernel_rfl)
theorem oEnt : OpensR Tryd.prog 48 5 (StrR [(1, rInt), (1, rInt), (1, rInt), (1, rInt), (1, rInt)]) :=
  opensR_struct und48' (by kernel_rfl) ⟨rfl, oInt, rfl, oInt, rfl, oInt, rfl, oInt, rfl, oInt, rfl⟩
def in64E (e : Ent) : Prop := ((in64 e.id ∧ in64 e.day) ∧ in64 e.frm ∧ in64 e.to) ∧ in64 e.amt
theorem oEnts : OpensR Tryd.prog 22 1 (fun l => ∃ xs : List Ent, (∀ a ∈ xs, in64E a) ∧ xs.length ≤ 9223372036854775807 ∧ l = [.sl 5 encE e0 xs]) :=
  opensR_slice e0 und22' (by kernel_rfl) oEnt (by decide) (fun l hl => by
    obtain ⟨_, _, ⟨n0, h0, rfl⟩, ⟨_, _, ⟨n1, h1, rfl⟩, ⟨_, _, ⟨n2, h2, rfl⟩, ⟨_, _, ⟨n3, h3, rfl⟩, ⟨_, _, ⟨n4, h4, rfl⟩, rfl, rfl⟩, rfl⟩, rfl⟩, rfl⟩, rfl⟩ := hl
    exact ⟨⟨n0, n1, n2, n3, n4⟩, ⟨⟨⟨in64_of h0, in64_of h1⟩, in64_of h2, in64_of h3⟩, in64_of h4⟩, rfl⟩) (fun _ => rfl)
theorem vEnts : OpV Tryd.prog 22 (fun a => ∃ l : List Ent, (∀ x ∈ l, in64E x) ∧ l.length ≤ 9223372036854775807 ∧ a = encEs l) :=
  OpV.mono (opV_slice (R := fun a => ∃ xs : List Ent, (∀ x ∈ xs, in64E x) ∧ xs.length ≤ 9223372036854775807 ∧ a = .sl 5 encE e0 xs) und22' (oEnts.mono fun _ ⟨xs, h1, h2, h3⟩ => ⟨_, ⟨xs, h1, h2, rfl⟩, h3⟩)) fun _ ⟨xs, h1, h2, h3⟩ => ⟨xs, h1, h2, h3⟩
abbrev rStr : List AV → Prop := fun l => ∃ s : List UInt8, s.length ≤ 9223372036854775807 ∧ l = [.str s]
theorem u8V : OpV Tryd.prog 5 (fun a => ∃ n, (0 ≤ n ∧ n ≤ 255) ∧ a = .int .u8 n) := OpV.mono (opV_int und5') fun _ ⟨n, h, e⟩ => ⟨n, in8_of h, e⟩
theorem und23' : Tryd.prog.underlying 23 = some (.slice 54) := by kernel_rfl
def fieldsM' : Array Field := #[{ name := "From", type := 3, offset := 0, embedded := false, tag := "", pkgPath := "", byteOffset := 0 }, { name := "To", type := 3, offset := 1, embedded := false, tag := "", pkgPath := "", byteOffset := 8 }, { name := "Seq", type := 3, offset := 2, embedded := false, tag := "", pkgPath := "", byteOffset := 16 }, { name := "Entry", type := 3, offset := 3, embedded := false, tag := "", pkgPath := "", byteOffset := 24 }]
theorem und54' : Tryd.prog.underlying 54 = some (.struct fieldsM') := by kernel_rfl
def fieldsS' : Array Field := #[{ name := "Key", type := 3, offset := 0, embedded := false, tag := "", pkgPath := "", byteOffset := 0 }, { name := "Text", type := 9, offset := 1, embedded := false, tag := "", pkgPath := "", byteOffset := 8 }]
def fieldsG' : Array Field := #[{ name := "Key", type := 3, offset := 0, embedded := false, tag := "", pkgPath := "", byteOffset := 0 }, { name := "Text", type := 9, offset := 1, embedded := false, tag := "", pkgPath := "", byteOffset := 8 }, { name := "Mark", type := 3, offset := 2, embedded := false, tag := "", pkgPath := "", byteOffset := 24 }]
instance : Inhabited Seal := ⟨s0⟩
theorem oMsg : OpensR Tryd.prog 54 4 (StrR [(1, rInt), (1, rInt), (1, rInt), (1, rInt)]) := opensR_struct und54' (by kernel_rfl) ⟨rfl, oInt, rfl, oInt, rfl, oInt, rfl, oInt, rfl⟩
def in64M (m : Msg) : Prop := (in64 m.frm ∧ in64 m.to) ∧ in64 m.seq ∧ in64 m.entry
theorem oMsgs : OpensR Tryd.prog 23 1 (fun l => ∃ xs : List Msg, (∀ a ∈ xs, in64M a) ∧ xs.length ≤ 9223372036854775807 ∧ l = [.sl 4 encM m0 xs]) :=
  opensR_slice m0 und23' (by kernel_rfl) oMsg (by decide) (fun l hl => by
    obtain ⟨_, _, ⟨n0, h0, rfl⟩, ⟨_, _, ⟨n1, h1, rfl⟩, ⟨_, _, ⟨n2, h2, rfl⟩, ⟨_, _, ⟨n3, h3, rfl⟩, rfl, rfl⟩, rfl⟩, rfl⟩, rfl⟩ := hl
    exact ⟨⟨n0, n1, n2, n3⟩, ⟨⟨in64_of h0, in64_of h1⟩, in64_of h2, in64_of h3⟩, rfl⟩) (fun _ => rfl)
theorem vMsgs : OpV Tryd.prog 23 (fun a => ∃ l : List Msg, (∀ x ∈ l, in64M x) ∧ l.length ≤ 9223372036854775807 ∧ a = encMs l) :=
  OpV.mono (opV_slice (R := fun a => ∃ xs : List Msg, (∀ x ∈ xs, in64M x) ∧ xs.length ≤ 9223372036854775807 ∧ a = .sl 4 encM m0 xs) und23' (oMsgs.mono fun _ ⟨xs, h1, h2, h3⟩ => ⟨_, ⟨xs, h1, h2, rfl⟩, h3⟩)) fun _ ⟨xs, h1, h2, h3⟩ => ⟨xs, h1, h2, h3⟩
theorem vMsg : OpV Tryd.prog 54 (fun a => ∃ d : Msg, in64M d ∧ a = encM d) :=
  OpV.mono (opV_struct und54' oMsg) fun a ⟨l, hl, h⟩ => by
    obtain ⟨_, _, ⟨n0, h0, rfl⟩, ⟨_, _, ⟨n1, h1, rfl⟩, ⟨_, _, ⟨n2, h2, rfl⟩, ⟨_, _, ⟨n3, h3, rfl⟩, rfl, rfl⟩, rfl⟩, rfl⟩, rfl⟩ := hl
    exact ⟨⟨n0, n1, n2, n3⟩, ⟨⟨in64_of h0, in64_of h1⟩, in64_of h2, in64_of h3⟩, h⟩
/-! ### The listed variables -/
abbrev laidL : List (String × DataW Unit) := Rows.agreeTellsRow.laid
noncomputable def laidWorld (os : Os) : World := World.laidAll Tryd.prog os laidL
theorem laid_met (os : Os) (args : Array Value) : laidMet Tryd.prog laidL ((laidWorld os).forCall (fun _ _ => 0) ⟨#[], args, []⟩).memory :=
  laidMet_laidAll args (by kernel_rfl) (by kernel_rfl)
theorem var_block {P : Program} {w : World} {n : String} {g : Nat} {cs : Array Value} (hg : P.globalNamed n = some g) (h : w.var? P n = some cs) : ∃ e fz, w.heap[g]? = some (.cells cs e fz) := by
  unfold World.var? at h
  rw [hg] at h
  simp only [Option.bind_some] at h
  split at h
  · rename_i c e fz hh
    cases h
    exact ⟨_, _, hh⟩
  · cases h
theorem laid_tabs (W : World) (h : laidMet Tryd.prog laidL W) : TabAt (All W) W := by
  obtain ⟨ps, ⟨g1, t1, c1, f1, p1, q1, hg1, ht1, hv1, hd1, ⟨g2, t2, c2, f2, p2, q2, hg2, ht2, hv2, hd2, ⟨g3, t3, c3, f3, p3, q3, hg3, ht3, hv3, hd3, ⟨g4, t4, c4, f4, p4, q4, hg4, ht4, hv4, hd4, ⟨g5, t5, c5, f5, p5, q5, hg5, ht5, hv5, hd5, hnil, e5⟩, e4⟩, e3⟩, e2⟩, e1⟩, _, _⟩ := h
  have k3 : Tryd.prog.globalNamed "internal/strconv.uint64pow10" = some 3 := by kernel_rfl
  have k5 : Tryd.prog.globalNamed "strconv.ErrSyntax" = some 1 := by kernel_rfl
  have k4 : Tryd.prog.globalNamed "strconv.ErrRange" = some 2 := by kernel_rfl
  obtain ⟨b3, z3, h3⟩ := var_block k3 hv3
  obtain ⟨b4, z4, h4⟩ := var_block k4 hv4
  obtain ⟨b5, z5, h5⟩ := var_block k5 hv5
  obtain rfl := Option.some.inj (k3.symm.trans hg3)
  obtain rfl := Option.some.inj (k4.symm.trans hg4)
  obtain rfl := Option.some.inj (k5.symm.trans hg5)
  have T3 : (Tryd.prog.globals[3]?).map (·.type) = some t3 := ht3
  have T4 : (Tryd.prog.globals[2]?).map (·.type) = some t4 := ht4
  have T5 : (Tryd.prog.globals[1]?).map (·.type) = some t5 := ht5
  have err : ∀ {t : Nat} {cs : Array Value} {fuel : Nat} {nm : String} {d : DataW Unit} {p : List MemPlace} {g : Nat}, (Tryd.prog.globals[g]?).map (·.type) = some t → (g = 1 ∨ g = 2) → DataW.trod (fun _ => ()) Tryd.prog W 0 (fun _ => true) false fuel t cs.toList = some (.iface nm d, p) → isErr cs := by
    intro t cs fuel nm d p g hT hg hd
    have hu : ∃ ms, Tryd.prog.underlying t = some (.interface ms) := by
      rcases hg with rfl | rfl
      · obtain rfl := Option.some.inj ((show (Tryd.prog.globals[1]?).map (·.type) = some 113 by kernel_rfl).symm.trans hT)
        exact ⟨#[("Error", 153)], by kernel_rfl⟩
      · obtain rfl := Option.some.inj ((show (Tryd.prog.globals[2]?).map (·.type) = some 113 by kernel_rfl).symm.trans hT)
        exact ⟨#[("Error", 153)], by kernel_rfl⟩
    obtain ⟨ms, hu⟩ := hu
    obtain ⟨_, u, v, hcs, _⟩ := iface_of_trod hu hd
    refine ⟨u, v, ?_⟩
    rw [← Array.getElem?_toList, hcs]
    rfl
  have i4 := err T4 (.inr rfl) hd4
  have i5 := err T5 (.inl rfl) hd5
  have lt : ∀ {g : Nat} {o : Obj}, W.heap[g]? = some o → g < W.heap.size := fun h => (Array.getElem?_eq_some_iff.1 h).1
  intro g Q hQ
  match g, hQ with
  | 3, hQ =>
    cases hQ
    refine ⟨lt h3, c3, b3, z3, h3, ?_⟩
    obtain rfl := Option.some.inj ((show (Tryd.prog.globals[3]?).map (·.type) = some 140 by kernel_rfl).symm.trans T3)
    have := Lib.cells_of_tab (k := .u64) (zs := Lib.pow10Tab) (n := 20) (e := 127) (by kernel_rfl) (by kernel_rfl) (by kernel_rfl) (by kernel_rfl) (show _ = some (Lib.tabData .u64 Lib.pow10Tab, p3) from hd3)
    show c3 = _
    rw [← this]
  | 1, hQ =>
    cases hQ
    exact ⟨lt h5, c5, b5, z5, h5, i5⟩
  | 2, hQ =>
    cases hQ
    exact ⟨lt h4, c4, b4, z4, h4, i4⟩

end Go.Proofs.YtjlnaogechkjdaaDoor

namespace Go.Proofs.YtjlnaogechkjdaaDoor
open Go.Own
set_option maxHeartbeats 4000000
set_option maxRecDepth 100000

/-! ### What posted does -/
theorem sumA_le : ∀ {s : List Ent}, (∀ e ∈ s, rightE e = true) → sumA s ≤ 1000000000000000 * (s.length : Int)
  | [], _ => by simp [sumA]
  | e :: s, h => by
    have h1 := (rightE_iff.1 (h e (by simp))).2.2.2.2.2
    have h2 := sumA_le (s := s) fun x hx => h x (by simp [hx])
    rw [sumA, List.length_cons]
    omega
theorem atI_app {l : List Ent} {e : Ent} {n : Int} (h : e.id ≠ n) : (atI (l ++ [e]) n < 0) ↔ (atI l n < 0) := by
  rw [at_neg, at_neg]
  constructor
  · exact fun g x hx => g x (List.mem_append_left _ hx)
  · intro g x hx
    rcases List.mem_append.1 hx with hx | hx
    · exact g x hx
    · rw [List.mem_singleton] at hx
      rw [hx]; exact h
theorem post_new {l : List Ent} {e : Ent} (hl : OkL (l ++ [e])) (hn : (l ++ [e]).length ≤ 10000) (h : atI l e.id < 0) : postE l e = 0 := by
  have h1 : validB (l ++ [e]) = true := validB_iff.2 ⟨hn, hl⟩
  have h2 : validB l = true := (valid_left h1).1
  have h3 : rightE e = true := hl.right e (by simp)
  unfold postE
  rw [h1, h2, h3]
  have h4 : ¬ placeE l e.id < l.length := fun hp => by
    obtain ⟨x, hx, hid⟩ := placeE_lt.1 hp
    exact at_neg.1 h x hx hid
  simp [h4]
theorem pstd_ok : ∀ (s l : List Ent), OkL l → (∀ e ∈ s, rightE e = true) → (s.map (·.id)).Nodup → l.length + s.length ≤ 10000 → sumA l + sumA s ≤ 4000000000000000000 →
    pstd l s = (l ++ s.filter (fun e => decide (atI l e.id < 0)), true) ∧ OkL (l ++ s.filter (fun e => decide (atI l e.id < 0)))
  | [], l, hl, _, _, _, _ => by
    rw [pstd, List.filter_nil, List.append_nil]
    exact ⟨rfl, hl⟩
  | e :: s, l, hl, hr, hn, hlen, hs => by
    rw [List.map_cons, List.nodup_cons] at hn
    have hr' : ∀ x ∈ s, rightE x = true := fun x hx => hr x (by simp [hx])
    have hre := (rightE_iff.1 (hr e (by simp))).2.2.2.2.2
    rw [sumA] at hs
    simp only [List.length_cons] at hlen
    have hs0 := sumA_ge hr'
    rw [pstd]
    by_cases h : atI l e.id < 0
    · have hl2 : OkL (l ++ [e]) := by
        rw [OkL.snoc]
        refine ⟨hl, hr e (by simp), at_neg.1 h, by omega⟩
      rw [if_neg (by omega), if_pos (post_new hl2 (by simp; omega) h)]
      obtain ⟨i1, i2⟩ := pstd_ok s (l ++ [e]) hl2 hr' hn.2 (by simp; omega) (by rw [sumA_append, sumA, sumA]; omega)
      have hf : s.filter (fun x => decide (atI (l ++ [e]) x.id < 0)) = s.filter (fun x => decide (atI l x.id < 0)) := by
        apply List.filter_congr
        intro x hx
        have hne : e.id ≠ x.id := fun he => hn.1 (by rw [he]; exact List.mem_map_of_mem (f := fun x : Ent => x.id) hx)
        rw [Bool.eq_iff_iff, decide_eq_true_eq, decide_eq_true_eq]
        exact atI_app hne
      rw [hf, List.append_assoc] at i1 i2
      rw [List.filter_cons_of_pos (by simpa using h)]
      exact ⟨i1, i2⟩
    · rw [if_pos (by omega), List.filter_cons_of_neg (by simpa using h)]
      exact pstd_ok s l hl hr' hn.2 (by omega) (by omega)
theorem pstd_mem {s l : List Ent} {x : Ent} : x ∈ l ++ s.filter (fun e => decide (atI l e.id < 0)) ↔ x ∈ l ∨ (x ∈ s ∧ ∀ y ∈ l, y.id ≠ x.id) := by
  rw [List.mem_append, List.mem_filter, decide_eq_true_eq, at_neg]

/-! ### What is told as in flight -/
theorem in_split {a b : List Ent} {fl : List Msg} {x : Ent} (hx : x ∈ rawI a b fl) : (x ∈ a ∧ (∀ y ∈ b, y.id ≠ x.id) ∧ goIn b (wayM a b 1 fl) x = true) ∨ (x ∈ b ∧ (∀ y ∈ a, y.id ≠ x.id) ∧ goIn a (wayM a b 0 fl) x = true) := by
  unfold rawI at hx
  rcases List.mem_append.1 hx with h | h
  · obtain ⟨h1, h2⟩ := List.mem_filter.1 h
    refine .inl ⟨h1, ?_, h2⟩
    unfold goIn at h2
    rw [Bool.and_eq_true, Option.isNone_iff_eq_none] at h2
    exact (found_get b x.id).2 h2.1
  · obtain ⟨h1, h2⟩ := List.mem_filter.1 h
    refine .inr ⟨h1, ?_, h2⟩
    unfold goIn at h2
    rw [Bool.and_eq_true, Option.isNone_iff_eq_none] at h2
    exact (found_get a x.id).2 h2.1
theorem ids_filter {l : List Ent} (h : (l.map (·.id)).Nodup) (p : Ent → Bool) : ((l.filter p).map (·.id)).Nodup := h.sublist (List.filter_sublist.map _)
theorem in_nodup {a b : List Ent} (ha : OkL a) (hb : OkL b) (w w' : List (Int × Bool)) : ((a.filter (goIn b w) ++ b.filter (goIn a w')).map (·.id)).Nodup := by
  rw [List.map_append, List.nodup_append]
  refine ⟨ids_filter ha.nd _, ids_filter hb.nd _, ?_⟩
  intro i hi j hj
  obtain ⟨x, hx, rfl⟩ := List.mem_map.1 hi
  obtain ⟨y, hy, rfl⟩ := List.mem_map.1 hj
  exact in_far x hx y hy
theorem srt_ids {l : List Ent} (h : (l.map (·.id)).Nodup) : ((srt l).map (·.id)).Nodup := (((srt_ok l).2.perm).map _).nodup_iff.1 h
theorem srt_strict {l : List Ent} (h : (l.map (·.id)).Nodup) : (srt l).Pairwise (fun x y => x.id < y.id) := by
  have h1 := (srt_ok l).1
  have h2 := srt_ids h
  unfold Asc at h1
  rw [List.nodup_iff_pairwise_ne, List.pairwise_map] at h2
  exact (h1.and h2).imp fun ⟨a, b⟩ => by omega

/-! ### More messages -/
theorem way_more (a b : List Ent) (to : Int) (fl : List Msg) (m : Msg) (n : Int) (h : (mget (wayM a b to fl) n).getD false = true) : (mget (wayM a b to (fl ++ [m])) n).getD false = true := by
  rw [way_get] at h ⊢
  rw [List.any_append, h, Bool.true_or]
def goU (o : List Ent) (e : Ent) : Bool :=
  match mget (foundM o) e.id with
  | some x => !eqE x e
  | none => true
theorem go_count (o : List Ent) (w : List (Int × Bool)) : ∀ l : List Ent, (l.filter (goIn o w)).length + (l.filter (goOut o w)).length = (l.filter (goU o)).length
  | [] => rfl
  | e :: l => by
    have ih := go_count o w l
    have h : (goIn o w e = true ∧ goOut o w e = false ∧ goU o e = true) ∨ (goIn o w e = false ∧ goOut o w e = true ∧ goU o e = true) ∨ (goIn o w e = false ∧ goOut o w e = false ∧ goU o e = false) := by
      unfold goIn goOut goU
      cases mget (foundM o) e.id with
      | none => cases (mget w e.id).getD false <;> simp
      | some x => cases eqE x e <;> simp
    rcases h with ⟨h1, h2, h3⟩ | ⟨h1, h2, h3⟩ | ⟨h1, h2, h3⟩
    · rw [List.filter_cons_of_pos h1, List.filter_cons_of_neg (by rw [h2]; exact Bool.noConfusion), List.filter_cons_of_pos h3, List.length_cons, List.length_cons]
      omega
    · rw [List.filter_cons_of_neg (by rw [h1]; exact Bool.noConfusion), List.filter_cons_of_pos h2, List.filter_cons_of_pos h3, List.length_cons, List.length_cons]
      omega
    · rw [List.filter_cons_of_neg (by rw [h1]; exact Bool.noConfusion), List.filter_cons_of_neg (by rw [h2]; exact Bool.noConfusion), List.filter_cons_of_neg (by rw [h3]; exact Bool.noConfusion)]
      exact ih
theorem raw_count (a b : List Ent) (fl : List Msg) : (rawI a b fl).length + (rawO a b fl).length = (a.filter (goU b)).length + (b.filter (goU a)).length := by
  unfold rawI rawO
  rw [List.length_append, List.length_append, ← go_count b (wayM a b 1 fl) a, ← go_count a (wayM a b 0 fl) b]
  omega
theorem more_out {o : List Ent} {w w' : List (Int × Bool)} {e : Ent} (hw : (mget w e.id).getD false = true → (mget w' e.id).getD false = true) : (goOut o w' e = true → goOut o w e = true) ∧ (goOut o w e = true → goOut o w' e = true ∨ ((∀ y ∈ o, y.id ≠ e.id) ∧ goIn o w' e = true)) := by
  have hf := (found_get o e.id).2
  unfold goOut goIn
  cases hm : mget (foundM o) e.id with
  | some x => exact ⟨id, fun h => .inl h⟩
  | none =>
    simp only
    constructor
    · intro h
      cases hw1 : (mget w e.id).getD false with
      | false => rfl
      | true => rw [hw hw1] at h; exact Bool.noConfusion h
    · intro _
      cases hw1 : (mget w' e.id).getD false with
      | false => exact .inl rfl
      | true => exact .inr ⟨hf hm, rfl⟩
theorem raw_more (a b : List Ent) (fl : List Msg) (m : Msg) : (∀ x ∈ rawO a b (fl ++ [m]), x ∈ rawO a b fl) ∧ (∀ x ∈ rawO a b fl, x ∈ rawO a b (fl ++ [m]) ∨ (((∀ y ∈ a, y.id ≠ x.id) ∨ (∀ y ∈ b, y.id ≠ x.id)) ∧ x ∈ rawI a b (fl ++ [m]))) := by
  unfold rawO rawI
  constructor
  · intro x hx
    rcases List.mem_append.1 hx with h | h
    · obtain ⟨h1, h2⟩ := List.mem_filter.1 h
      exact List.mem_append_left _ (List.mem_filter.2 ⟨h1, (more_out (way_more a b 1 fl m x.id)).1 h2⟩)
    · obtain ⟨h1, h2⟩ := List.mem_filter.1 h
      exact List.mem_append_right _ (List.mem_filter.2 ⟨h1, (more_out (way_more a b 0 fl m x.id)).1 h2⟩)
  · intro x hx
    rcases List.mem_append.1 hx with h | h
    · obtain ⟨h1, h2⟩ := List.mem_filter.1 h
      rcases (more_out (way_more a b 1 fl m x.id)).2 h2 with h3 | ⟨h3, h4⟩
      · exact .inl (List.mem_append_left _ (List.mem_filter.2 ⟨h1, h3⟩))
      · exact .inr ⟨.inr h3, List.mem_append_left _ (List.mem_filter.2 ⟨h1, h4⟩)⟩
    · obtain ⟨h1, h2⟩ := List.mem_filter.1 h
      rcases (more_out (way_more a b 0 fl m x.id)).2 h2 with h3 | ⟨h3, h4⟩
      · exact .inl (List.mem_append_right _ (List.mem_filter.2 ⟨h1, h3⟩))
      · exact .inr ⟨.inl h3, List.mem_append_right _ (List.mem_filter.2 ⟨h1, h4⟩)⟩
theorem same_mem {l : List Ent} {x : Ent} : sameB l x = true ↔ x ∈ l := by
  unfold sameB
  rw [List.any_eq_true]
  constructor
  · rintro ⟨y, h1, h2⟩
    have : y = x := of_decide_eq_true h2
    rw [← this]; exact h1
  · exact fun h => ⟨x, h, decide_eq_true rfl⟩
/-- Each entry of the first list, and the ledgers without it. -/
structure InAt (a b : List Ent) (fl : List Msg) (l : List Ent) (i : Nat) : Prop where
  one : decide (atI a (l.getD i e0).id < 0) ≠ decide (atI b (l.getD i e0).id < 0)
  way : ((decide (0 ≤ atI a (l.getD i e0).id) && wayB fl 0 (atI a (l.getD i e0).id)) || (decide (0 ≤ atI b (l.getD i e0).id) && wayB fl 1 (atI b (l.getD i e0).id))) = true
  own : (sameB a (l.getD i e0) || sameB b (l.getD i e0)) = true
  pa : (pstd a (l.take i ++ l.drop (i + 1))).2 = true
  pb : (pstd b (l.take i ++ l.drop (i + 1))).2 = true
  dif : sameB (pstd a (l.take i ++ l.drop (i + 1))).1 (l.getD i e0) ≠ sameB (pstd b (l.take i ++ l.drop (i + 1))).1 (l.getD i e0)
  asc : ∀ j, j < i → (l.getD j e0).id < (l.getD i e0).id
theorem in_at {a b : List Ent} {fl : List Msg} (hok : okC a b fl = true) (hla : a.length ≤ 20) (hlb : b.length ≤ 20) {i : Nat} (hi : i < (srt (rawI a b fl)).length) : InAt a b fl (srt (rawI a b fl)) i := by
  have hok' := hok
  unfold okC at hok'
  simp only [Bool.and_eq_true] at hok'
  obtain ⟨hf, hva, hvb⟩ := hok'
  have ha := (validB_iff.1 hva).2
  have hb := (validB_iff.1 hvb).2
  obtain ⟨w1, w2⟩ := way_one ha hb hf
  have hnd := in_nodup ha hb (wayM a b 1 fl) (wayM a b 0 fl)
  have hst := srt_strict hnd
  have hids := srt_ids hnd
  have hlen : (srt (rawI a b fl)).length ≤ 40 := by
    rw [srt_len]
    unfold rawI
    rw [List.length_append]
    have := List.length_filter_le (goIn b (wayM a b 1 fl)) a
    have := List.length_filter_le (goIn a (wayM a b 0 fl)) b
    omega
  have hmem : ∀ x ∈ srt (rawI a b fl), x ∈ rawI a b fl := fun x hx => srt_mem.1 hx
  change (srt (rawI a b fl)).Pairwise _ at hst
  change ((srt (rawI a b fl)).map _).Nodup at hids
  have hsp := fun x hx => in_split (hmem x hx)
  generalize srt (rawI a b fl) = l at *
  have hx : l.getD i e0 ∈ l := getD_mem hi
  have hright : ∀ x ∈ l, rightE x = true := fun x hx => by
    rcases hsp x hx with h | h
    · exact ha.right x h.1
    · exact hb.right x h.1
  have hsplit : l = l.take i ++ l.getD i e0 :: l.drop (i + 1) := by
    have e : l.getD i e0 = l[i] := by simp [List.getD, List.getElem?_eq_getElem hi]
    conv => lhs; rw [← List.take_append_drop i l, List.drop_eq_getElem_cons hi]
    rw [e]
  have hrest : ∀ x ∈ l.take i ++ l.drop (i + 1), x ∈ l ∧ x.id ≠ (l.getD i e0).id := fun x hxr => by
    constructor
    · rcases List.mem_append.1 hxr with h | h
      · exact List.mem_of_mem_take h
      · exact List.mem_of_mem_drop h
    · rw [hsplit, List.map_append, List.map_cons, List.nodup_append, List.nodup_cons] at hids
      rcases List.mem_append.1 hxr with h | h
      · exact hids.2.2 _ (List.mem_map_of_mem (f := fun x : Ent => x.id) h) _ (by simp)
      · intro e
        exact hids.2.1.1 (by rw [← e]; exact List.mem_map_of_mem (f := fun x : Ent => x.id) h)
  have hrn : ((l.take i ++ l.drop (i + 1)).map (·.id)).Nodup := by
    refine hids.sublist (List.Sublist.map _ ?_)
    conv => rhs; rw [hsplit]
    exact List.Sublist.append (List.Sublist.refl _) (List.sublist_cons_self _ _)
  have hrr : ∀ x ∈ l.take i ++ l.drop (i + 1), rightE x = true := fun x hx => hright x (hrest x hx).1
  have hrl : (l.take i ++ l.drop (i + 1)).length ≤ 40 := by
    rw [List.length_append, List.length_take, List.length_drop]
    omega
  have hsr := sumA_le hrr
  have hsa := sumA_le ha.right
  have hsb := sumA_le hb.right
  obtain ⟨pa1, _⟩ := pstd_ok (l.take i ++ l.drop (i + 1)) a ha hrr hrn (by omega) (by omega)
  obtain ⟨pb1, _⟩ := pstd_ok (l.take i ++ l.drop (i + 1)) b hb hrr hrn (by omega) (by omega)
  have noin : ∀ o : List Ent, (l.getD i e0) ∉ o → ¬ (l.getD i e0) ∈ o ++ (l.take i ++ l.drop (i + 1)).filter (fun e => decide (atI o e.id < 0)) := by
    intro o h1 h2
    rcases pstd_mem.1 h2 with h | h
    · exact h1 h
    · exact (hrest _ h.1).2 rfl
  have yesin : ∀ o : List Ent, (l.getD i e0) ∈ o → (l.getD i e0) ∈ o ++ (l.take i ++ l.drop (i + 1)).filter (fun e => decide (atI o e.id < 0)) := fun o h => List.mem_append_left _ h
  have place : ∀ o : List Ent, OkL o → ∀ x ∈ o, ∃ k, k < o.length ∧ atI o x.id = (k : Int) ∧ o.getD k e0 = x := by
    intro o ho x hx
    have h0 : ¬ atI o x.id < 0 := fun h => at_neg.1 h x hx rfl
    obtain ⟨p1, p2⟩ := at_pos h0
    have h1 := atI_lt h0
    exact ⟨(atI o x.id).toNat, by omega, by omega, ids_inj ho p1 hx p2⟩
  refine ⟨?_, ?_, ?_, by rw [pa1], by rw [pb1], ?_, ?_⟩
  · rcases hsp _ hx with ⟨h1, h2, _⟩ | ⟨h1, h2, _⟩
    · rw [decide_eq_true (at_neg.2 h2), decide_eq_false (fun h => at_neg.1 h _ h1 rfl)]
      exact Bool.noConfusion
    · rw [decide_eq_true (at_neg.2 h2), decide_eq_false (fun h => at_neg.1 h _ h1 rfl)]
      exact Bool.noConfusion
  · rcases hsp _ hx with ⟨h1, h2, h3⟩ | ⟨h1, h2, h3⟩
    · obtain ⟨k, k1, k2, k3⟩ := place a ha _ h1
      unfold goIn at h3
      rw [Bool.and_eq_true] at h3
      have := w1 k k1
      rw [k3, h3.2] at this
      rw [k2, ← this, decide_eq_true (by omega)]
      rfl
    · obtain ⟨k, k1, k2, k3⟩ := place b hb _ h1
      unfold goIn at h3
      rw [Bool.and_eq_true] at h3
      have := w2 k k1
      rw [k3, h3.2] at this
      rw [k2, ← this, decide_eq_true (show 0 ≤ (k : Int) by omega), Bool.and_self, Bool.or_true]
  · rw [Bool.or_eq_true, same_mem, same_mem]
    rcases hsp _ hx with h | h
    · exact .inl h.1
    · exact .inr h.1
  · rw [pa1, pb1]
    simp only
    rcases hsp _ hx with ⟨h1, h2, _⟩ | ⟨h1, h2, _⟩
    · rw [same_mem.2 (yesin a h1)]
      intro e
      exact noin b (fun h => h2 _ h rfl) (same_mem.1 e.symm)
    · rw [same_mem.2 (yesin b h1)]
      intro e
      exact noin a (fun h => h2 _ h rfl) (same_mem.1 e)
  · intro j hj
    have e1 : l.getD i e0 = l[i] := by simp [List.getD, List.getElem?_eq_getElem hi]
    have e2 : l.getD j e0 = l[j] := by simp [List.getD, List.getElem?_eq_getElem (show j < l.length by omega)]
    rw [e1, e2]
    exact List.pairwise_iff_getElem.1 hst j i (by omega) hi hj

end Go.Proofs.YtjlnaogechkjdaaDoor

namespace Go.Proofs.YtjlnaogechkjdaaDoor
open Go.Own
set_option maxHeartbeats 4000000
set_option maxRecDepth 100000

theorem pstd_len : ∀ (s l : List Ent), (pstd l s).1.length ≤ l.length + s.length
  | [], l => by rw [pstd]; exact Nat.le_refl _
  | e :: s, l => by
    rw [pstd, List.length_cons]
    split
    · have := pstd_len s l
      omega
    · split
      · have := pstd_len s (l ++ [e])
        rw [List.length_append, List.length_singleton] at this
        omega
      · simp only
        omega
theorem law_least (a b : List Ent) (fl : List Msg) (m : Msg) (ha : a.length ≤ 9223372036854775807) (hb : b.length ≤ 9223372036854775807) (hfl : fl.length ≤ 9223372036854775807) : APureV Tryd.prog 6 [encEs a, encEs b, encMs fl, encM m] (.bool true) := by
  have f1 := few45_ok a b fl 20
  refine apure_of (C := cx 265 [0, 1, 2, 3, 7, 8, 9, 10, 11, 12, 13, 14, 15, 16, 17, 18, 19, 20, 21, 22, 23, 24, 25, 26, 27, 28, 39, 50, 55, 95, 131, 174, 189, 198, 207, 211, 250]) (cxOk _ _) Tryd.func6 rfl (by decide) rfl (by exact Nat.le_of_ble_eq_true rfl) (by decide) ?_
  conv => whnf
  refine .one _ _ _ (fun _ => small_ok) (by repeat (first | exact .nil | (apply BorL.cons; first | exact lS rfl | exact lR rfl | exact lM rfl rfl | exact lL rfl | exact lX rfl | exact lN | exact lNl | exact lSm rfl | exact lIm rfl | exact lGm rfl | exact lP rfl | exact lQ rfl | exact lB rfl rfl rfl))) (by first | exact .inl rfl | exact .inr (by repeat (first | exact flats_nil | refine flats_cons (by first | exact flat_val _ rfl | exact flat_row (fun _ => rfl) | exact flat_lst (fun _ => rfl)) ?_))) (by first | exact .inr rfl | exact .inl rfl) ?_
  conv => whnf
  refine .one _ _ _ (fun _ => f1) (by repeat (first | exact .nil | (apply BorL.cons; first | exact lS rfl | exact lR rfl | exact lM rfl rfl | exact lL rfl | exact lX rfl | exact lN | exact lNl | exact lSm rfl | exact lIm rfl | exact lGm rfl | exact lP rfl | exact lQ rfl | exact lB rfl rfl rfl))) (by first | exact .inl rfl | exact .inr (by repeat (first | exact flats_nil | refine flats_cons (by first | exact flat_val _ rfl | exact flat_row (fun _ => rfl) | exact flat_lst (fun _ => rfl)) ?_))) (by first | exact .inr rfl | exact .inl rfl) ?_
  conv => whnf
  refine ⟨fun hc => ?_, fun hc => ?_⟩
  · conv => whnf
    rfl
  have hc' : few45 a b fl 20 = true ∧ fl.length ≤ 19 := by
    simp only [Bool.or_eq_false_iff, Bool.not_eq_false', gt_iff_lt, decide_eq_false_iff_not] at hc
    exact ⟨hc.1, by omega⟩
  obtain ⟨h1, h2⟩ := hc'
  unfold few45 at h1
  simp only [Bool.and_eq_true, decide_eq_true_eq] at h1
  have hla : a.length ≤ 20 := by omega
  have hlb : b.length ≤ 20 := by omega
  have cmp := compare_ok a b fl hla hlb hfl
  have cmp2 := compare_ok a b (fl ++ [m]) hla hlb (by simp; omega)
  cases hok : okC a b fl with
  | false =>
    rw [if_neg (by rw [hok]; exact Bool.noConfusion)] at cmp
    conv => whnf
    refine .one _ _ _ (fun _ => cmp) (by repeat (first | exact .nil | (apply BorL.cons; first | exact lS rfl | exact lR rfl | exact lM rfl rfl | exact lL rfl | exact lX rfl | exact lN | exact lNl | exact lSm rfl | exact lIm rfl | exact lGm rfl | exact lP rfl | exact lQ rfl | exact lB rfl rfl rfl))) (by first | exact .inl rfl | exact .inr (by repeat (first | exact flats_nil | refine flats_cons (by first | exact flat_val _ rfl | exact flat_row (fun _ => rfl) | exact flat_lst (fun _ => rfl)) ?_))) (by first | exact .inr rfl | exact .inl rfl) ?_
    conv => whnf
    refine And.intro (fun _ => ?_) (fun h => absurd h (by decide)); conv => whnf
    rfl
  | true =>
  rw [if_pos hok] at cmp
  have hin : ∀ i, i < (srt (rawI a b fl)).length → InAt a b fl (srt (rawI a b fl)) i := fun i hi => in_at hok hla hlb hi
  have lI : (srt (rawI a b fl)).length ≤ 40 := by
    rw [srt_len]
    unfold rawI
    rw [List.length_append]
    have := List.length_filter_le (goIn b (wayM a b 1 fl)) a
    have := List.length_filter_le (goIn a (wayM a b 0 fl)) b
    omega
  have lO : (srt (rawO a b fl)).length ≤ 40 := by
    rw [srt_len]
    unfold rawO
    rw [List.length_append]
    have := List.length_filter_le (goOut b (wayM a b 1 fl)) a
    have := List.length_filter_le (goOut a (wayM a b 0 fl)) b
    omega
  have lI2 : (srt (rawI a b (fl ++ [m]))).length ≤ 40 := by
    rw [srt_len]
    unfold rawI
    rw [List.length_append]
    have := List.length_filter_le (goIn b (wayM a b 1 (fl ++ [m]))) a
    have := List.length_filter_le (goIn a (wayM a b 0 (fl ++ [m]))) b
    omega
  have lO2 : (srt (rawO a b (fl ++ [m]))).length ≤ 40 := by
    rw [srt_len]
    unfold rawO
    rw [List.length_append]
    have := List.length_filter_le (goOut b (wayM a b 1 (fl ++ [m]))) a
    have := List.length_filter_le (goOut a (wayM a b 0 (fl ++ [m]))) b
    omega
  have hcount : (srt (rawI a b (fl ++ [m]))).length + (srt (rawO a b (fl ++ [m]))).length = (srt (rawI a b fl)).length + (srt (rawO a b fl)).length := by
    rw [srt_len, srt_len, srt_len, srt_len, raw_count, raw_count]
  obtain ⟨m1, m2⟩ := raw_more a b fl m
  have m1' : ∀ x ∈ srt (rawO a b (fl ++ [m])), x ∈ srt (rawO a b fl) := fun x hx => srt_mem.2 (m1 x (srt_mem.1 hx))
  have m2' : ∀ x ∈ srt (rawO a b fl), x ∈ srt (rawO a b (fl ++ [m])) ∨ (((∀ y ∈ a, y.id ≠ x.id) ∨ (∀ y ∈ b, y.id ≠ x.id)) ∧ x ∈ srt (rawI a b (fl ++ [m]))) := fun x hx => by
    rcases m2 x (srt_mem.1 hx) with h | ⟨h, h'⟩
    · exact .inl (srt_mem.2 h)
    · exact .inr ⟨h, srt_mem.2 h'⟩
  generalize srt (rawI a b fl) = I at *
  generalize srt (rawO a b fl) = O at *
  generalize srt (rawI a b (fl ++ [m])) = I2 at *
  generalize srt (rawO a b (fl ++ [m])) = O2 at *
  have hata := fun n => at_ok a n (by omega)
  have hatb := fun n => at_ok b n (by omega)
  have hway := fun f n => way_ok fl f n hfl
  have hhas := fun (l : List Ent) e (h : l.length ≤ 1000000) => has_ok l e (by omega)
  have hpo := fun (l s : List Ent) (h : l.length ≤ 100000) (h' : s.length ≤ 100000) => posted_ok l s h h'
  conv => whnf
  refine .one _ _ _ (fun _ => cmp) (by repeat (first | exact .nil | (apply BorL.cons; first | exact lS rfl | exact lR rfl | exact lM rfl rfl | exact lL rfl | exact lX rfl | exact lN | exact lNl | exact lSm rfl | exact lIm rfl | exact lGm rfl | exact lP rfl | exact lQ rfl | exact lB rfl rfl rfl))) (by first | exact .inl rfl | exact .inr (by repeat (first | exact flats_nil | refine flats_cons (by first | exact flat_val _ rfl | exact flat_row (fun _ => rfl) | exact flat_lst (fun _ => rfl)) ?_))) (by first | exact .inr rfl | exact .inl rfl) ?_
  conv => whnf
  refine And.intro (fun h => absurd h (by decide)) (fun _ => ?_); conv => whnf
  refine loop_up (cxOk _ _) I.length (fun _ => True) (fun i => ⟨[(0, encEs a), (1, encEs b), (2, encMs fl), (7, .ptr 2 0), (9, .bool true), (10, .own 0), (11, .own 1), (13, .int .i64 (i : Nat))], [(0, .row 48 5 encE e0 I), (1, .row 48 5 encE e0 O), (2, .cells 54 [.int .i64 m.frm, .int .i64 m.to, .int .i64 m.seq, .int .i64 m.entry])], 3⟩) trivial ((wk_of [(0, .id 1), (1, .id 2), (2, .id 0)] rfl ⟨.base (.tree _ _ rfl rfl), .base (.tree _ _ rfl rfl), .base (.tree _ _ rfl rfl), .base (.ptr _ _ _ rfl), .base (.tree _ _ rfl rfl), (by first | exact .base (.own _ _ rfl) | exact .base (.nilown _ rfl) | exact .base (.trunc _ _ _ rfl)), (by first | exact .base (.own _ _ rfl) | exact .base (.nilown _ rfl) | exact .base (.trunc _ _ _ rfl)), .base (.tree _ _ rfl rfl), trivial⟩ ⟨⟨_, rfl, (by first | exact .row _ _ _ _ _ _ _ rfl rfl | exact .lstrow _ _ _ _ _ _ _ rfl rfl | exact .nilrow _ _ _ _ _ rfl | exact .truncrow _ _ _ _ _ _ _ _ rfl (by omega) rfl)⟩, ⟨_, rfl, (by first | exact .row _ _ _ _ _ _ _ rfl rfl | exact .lstrow _ _ _ _ _ _ _ rfl rfl | exact .nilrow _ _ _ _ _ rfl | exact .truncrow _ _ _ _ _ _ _ _ rfl (by omega) rfl)⟩, ⟨_, rfl, .cells _ _ _ _ rfl (by repeat (first | exact .nil | refine .cons (by first | exact .base (.tree _ _ rfl rfl) | exact .base (.own _ _ rfl) | exact .base (.ptr _ _ _ rfl) | exact .base (.map _ _ rfl) | exact .base (.nilown _ rfl) | exact .fn _ _ _ _ _ .nil (by repeat (first | exact .nil | refine .cons (by exact .ptr _ _ _ rfl) ?_))) ?_)) rfl⟩, trivial⟩)) ?_
  intro i hi _
  conv => whnf
  refine ⟨fun hc1 => ?_, fun hc1 => ?_⟩
  · simp only [decide_eq_true_eq] at hc1
    have hlt : i < I.length := by omega
    obtain ⟨g1, g2, g3, g4, g5, g6, g7⟩ := hin i hlt
    have hck : I.getD (i : Int).toNat e0 = I.getD i e0 := by rw [Int.toNat_natCast]
    generalize hx : I.getD i e0 = x at *
    conv => whnf
    refine And.intro ⟨by omega, by omega⟩ ?_; conv => whnf
    refine And.intro (by omega) (And.intro rfl ?_); conv => whnf
    rw [hck]
    refine .one _ _ _ (fun _ => hata x.id) (by repeat (first | exact .nil | (apply BorL.cons; first | exact lS rfl | exact lR rfl | exact lM rfl rfl | exact lL rfl | exact lX rfl | exact lN | exact lNl | exact lSm rfl | exact lIm rfl | exact lGm rfl | exact lP rfl | exact lQ rfl | exact lB rfl rfl rfl))) (by first | exact .inl rfl | exact .inr (by repeat (first | exact flats_nil | refine flats_cons (by first | exact flat_val _ rfl | exact flat_row (fun _ => rfl) | exact flat_lst (fun _ => rfl)) ?_))) (by first | exact .inr rfl | exact .inl rfl) ?_
    conv => whnf
    refine And.intro ⟨by omega, by omega⟩ ?_; conv => whnf
    refine And.intro (by omega) (And.intro rfl ?_); conv => whnf
    rw [hck]
    refine .one _ _ _ (fun _ => hatb x.id) (by repeat (first | exact .nil | (apply BorL.cons; first | exact lS rfl | exact lR rfl | exact lM rfl rfl | exact lL rfl | exact lX rfl | exact lN | exact lNl | exact lSm rfl | exact lIm rfl | exact lGm rfl | exact lP rfl | exact lQ rfl | exact lB rfl rfl rfl))) (by first | exact .inl rfl | exact .inr (by repeat (first | exact flats_nil | refine flats_cons (by first | exact flat_val _ rfl | exact flat_row (fun _ => rfl) | exact flat_lst (fun _ => rfl)) ?_))) (by first | exact .inr rfl | exact .inl rfl) ?_
    conv => whnf
    refine .quiet (by kernel_rfl) ?_; conv => whnf
    refine And.intro (fun _ => ⟨by omega, by omega⟩) ?_; conv => whnf
    refine And.intro (by omega) (And.intro rfl ?_); conv => whnf
    refine And.intro (fun _ => ⟨by omega, by omega⟩) ?_; conv => whnf
    refine And.intro (fun _ => ⟨by omega, by omega⟩) ?_; conv => whnf
    refine And.intro (by omega) (And.intro rfl ?_); conv => whnf
    rw [hck]
    refine ⟨fun hd1 => ?_, fun hd1 => ?_⟩
    · exfalso
      rw [Bool.or_eq_true] at hd1
      rcases hd1 with h | h
      · exact g1 (by simpa using h)
      · rw [Bool.and_eq_true, decide_eq_true_eq, decide_eq_true_eq] at h
        have e1 : (max ((i : Int) - 1) 0).toNat = i - 1 := by omega
        rw [e1] at h
        have := g7 (i - 1) (by omega)
        omega
    conv => whnf
    refine .one _ _ _ (fun _ => hway 0 (atI a x.id)) (by repeat (first | exact .nil | (apply BorL.cons; first | exact lS rfl | exact lR rfl | exact lM rfl rfl | exact lL rfl | exact lX rfl | exact lN | exact lNl | exact lSm rfl | exact lIm rfl | exact lGm rfl | exact lP rfl | exact lQ rfl | exact lB rfl rfl rfl))) (by first | exact .inl rfl | exact .inr (by repeat (first | exact flats_nil | refine flats_cons (by first | exact flat_val _ rfl | exact flat_row (fun _ => rfl) | exact flat_lst (fun _ => rfl)) ?_))) (by first | exact .inr rfl | exact .inl rfl) ?_
    conv => whnf
    refine .one _ _ _ (fun _ => hway 1 (atI b x.id)) (by repeat (first | exact .nil | (apply BorL.cons; first | exact lS rfl | exact lR rfl | exact lM rfl rfl | exact lL rfl | exact lX rfl | exact lN | exact lNl | exact lSm rfl | exact lIm rfl | exact lGm rfl | exact lP rfl | exact lQ rfl | exact lB rfl rfl rfl))) (by first | exact .inl rfl | exact .inr (by repeat (first | exact flats_nil | refine flats_cons (by first | exact flat_val _ rfl | exact flat_row (fun _ => rfl) | exact flat_lst (fun _ => rfl)) ?_))) (by first | exact .inr rfl | exact .inl rfl) ?_
    conv => whnf
    refine And.intro ⟨by omega, by omega⟩ ?_; conv => whnf
    refine And.intro (by omega) (And.intro rfl ?_); conv => whnf
    rw [hck]
    refine .one _ _ _ (fun _ => hhas a x (by omega)) (by repeat (first | exact .nil | (apply BorL.cons; first | exact lS rfl | exact lR rfl | exact lM rfl rfl | exact lL rfl | exact lX rfl | exact lN | exact lNl | exact lSm rfl | exact lIm rfl | exact lGm rfl | exact lP rfl | exact lQ rfl | exact lB rfl rfl rfl))) (by first | exact .inl rfl | exact .inr (by repeat (first | exact flats_nil | refine flats_cons (by first | exact flat_val _ rfl | exact flat_row (fun _ => rfl) | exact flat_lst (fun _ => rfl)) ?_))) (by first | exact .inr rfl | exact .inl rfl) ?_
    conv => whnf
    refine And.intro (fun _ => ⟨by omega, by omega⟩) ?_; conv => whnf
    refine And.intro (by omega) (And.intro rfl ?_); conv => whnf
    rw [hck]
    refine .one _ _ _ (fun _ => hhas b x (by omega)) (by repeat (first | exact .nil | (apply BorL.cons; first | exact lS rfl | exact lR rfl | exact lM rfl rfl | exact lL rfl | exact lX rfl | exact lN | exact lNl | exact lSm rfl | exact lIm rfl | exact lGm rfl | exact lP rfl | exact lQ rfl | exact lB rfl rfl rfl))) (by first | exact .inl rfl | exact .inr (by repeat (first | exact flats_nil | refine flats_cons (by first | exact flat_val _ rfl | exact flat_row (fun _ => rfl) | exact flat_lst (fun _ => rfl)) ?_))) (by first | exact .inr rfl | exact .inl rfl) ?_
    conv => whnf
    refine ⟨fun hd2 => ?_, fun hd2 => ?_⟩
    · exfalso
      rw [Bool.or_eq_true] at hd2
      have g2' : (decide (0 ≤ atI a x.id) && wayB fl 0 (atI a x.id) || decide (0 ≤ atI b x.id) && wayB fl 1 (atI b x.id)) = true := g2
      rw [g2', g3] at hd2
      simp at hd2
    have t1 : (I.take (i : Int).toNat).length = i := by rw [Int.toNat_natCast, List.length_take]; omega
    conv => whnf
    refine drawG_slack (cxOk _ _) ?_
    refine .eff (by first | exact cxOk _ _ | exact cxPOk _ _ _) ?_
    conv => whnf
    refine And.intro ⟨by omega, by omega⟩ ?_; conv => whnf
    refine And.intro rfl ?_; conv => whnf
    refine And.intro ⟨rfl, rfl⟩ (And.intro (show (0 + (I.take (i : Int).toNat).length) * 40 ≤ 140737488355328 by omega) ?_)
    have t2 : I.take (i : Int).toNat ++ (I.drop ((i : Int) + 1).toNat).take (((I.length : Nat) : Int).toNat - ((i : Int) + 1).toNat) = I.take i ++ I.drop (i + 1) := by
      rw [Int.toNat_natCast, Int.toNat_natCast, show ((i : Int) + 1).toNat = i + 1 by omega, List.take_of_length_le (l := I.drop (i + 1)) (by rw [List.length_drop]; exact Nat.le_refl _)]
    have t3 : ((I.drop ((i : Int) + 1).toNat).take (((I.length : Nat) : Int).toNat - ((i : Int) + 1).toNat)).length ≤ 40 := by
      rw [List.length_take, List.length_drop]
      omega
    have t4 : (I.take i ++ I.drop (i + 1)).length ≤ 1000 := by
      rw [List.length_append, List.length_take, List.length_drop]
      omega
    conv => whnf
    refine And.intro ⟨by omega, by omega⟩ ?_; conv => whnf
    refine And.intro ⟨by omega, by omega⟩ ?_; conv => whnf
    refine And.intro rfl ?_; conv => whnf
    refine And.intro rfl ?_; conv => whnf
    refine And.intro ⟨rfl, rfl⟩ (And.intro (show ((I.take (i : Int).toNat).length + ((I.drop ((i : Int) + 1).toNat).take (((I.length : Nat) : Int).toNat - ((i : Int) + 1).toNat)).length) * 40 ≤ 140737488355328 by omega) ?_)
    conv => whnf
    refine ⟨(I.drop ((i : Int) + 1).toNat).take (((I.length : Nat) : Int).toNat - ((i : Int) + 1).toNat), rfl, ?_⟩
    rw [t2]
    generalize I.take i ++ I.drop (i + 1) = R at *
    have hpa := hpo a R (by omega) (by omega)
    have hpb := hpo b R (by omega) (by omega)
    rw [g4] at hpa
    rw [g5] at hpb
    have lpa : (pstd a R).1.length ≤ 1000000 := by have := pstd_len R a; omega
    have lpb : (pstd b R).1.length ≤ 1000000 := by have := pstd_len R b; omega
    have hb1 := hhas (pstd a R).1 x lpa
    have hb2 := hhas (pstd b R).1 x lpb
    conv => whnf
    refine And.intro rfl ?_; conv => whnf
    refine ⟨_, wk_frz [5], ?_⟩
    conv => whnf
    refine .one _ _ _ (fun _ => hpa) (by repeat (first | exact .nil | (apply BorL.cons; first | exact lS rfl | exact lR rfl | exact lM rfl rfl | exact lL rfl | exact lX rfl | exact lN | exact lNl | exact lSm rfl | exact lIm rfl | exact lGm rfl | exact lP rfl | exact lQ rfl | exact lB rfl rfl rfl))) (by first | exact .inl rfl | exact .inr (by repeat (first | exact flats_nil | refine flats_cons (by first | exact flat_val _ rfl | exact flat_row (fun _ => rfl) | exact flat_lst (fun _ => rfl)) ?_))) (by first | exact .inr rfl | exact .inl rfl) ?_
    conv => whnf
    refine .one _ _ _ (fun _ => hpb) (by repeat (first | exact .nil | (apply BorL.cons; first | exact lS rfl | exact lR rfl | exact lM rfl rfl | exact lL rfl | exact lX rfl | exact lN | exact lNl | exact lSm rfl | exact lIm rfl | exact lGm rfl | exact lP rfl | exact lQ rfl | exact lB rfl rfl rfl))) (by first | exact .inl rfl | exact .inr (by repeat (first | exact flats_nil | refine flats_cons (by first | exact flat_val _ rfl | exact flat_row (fun _ => rfl) | exact flat_lst (fun _ => rfl)) ?_))) (by first | exact .inr rfl | exact .inl rfl) ?_
    conv => whnf
    refine .quiet (by kernel_rfl) ?_; conv => whnf
    refine And.intro (fun _ => ⟨by omega, by omega⟩) ?_; conv => whnf
    refine And.intro (by omega) (And.intro rfl ?_); conv => whnf
    rw [hck]
    refine .mk _ _ _ _ (fun _ => hb1) (by repeat (first | exact .nil | (apply BorL.cons; first | exact lS rfl | exact lR rfl | exact lM rfl rfl | exact lL rfl | exact lX rfl | exact lN | exact lNl | exact lSm rfl | exact lIm rfl | exact lGm rfl | exact lP rfl | exact lQ rfl | exact lB rfl rfl rfl))) rfl ?_
    conv => whnf
    refine And.intro (fun _ => ⟨by omega, by omega⟩) ?_; conv => whnf
    refine And.intro (by omega) (And.intro rfl ?_); conv => whnf
    rw [hck]
    refine .mk _ _ _ _ (fun _ => hb2) (by repeat (first | exact .nil | (apply BorL.cons; first | exact lS rfl | exact lR rfl | exact lM rfl rfl | exact lL rfl | exact lX rfl | exact lN | exact lNl | exact lSm rfl | exact lIm rfl | exact lGm rfl | exact lP rfl | exact lQ rfl | exact lB rfl rfl rfl))) rfl ?_
    conv => whnf
    refine ⟨fun hd3 => ?_, fun hd3 => ?_⟩
    · exfalso
      simp only [Bool.not_true, Bool.false_or] at hd3
      exact g6 (by simpa using hd3)
    conv => whnf
    refine And.intro ⟨by omega, by omega⟩ ?_; conv => whnf
    refine up hlt trivial ((wk_of [(0, .id 0), (1, .id 1), (2, .id 2)] rfl ⟨.base (.tree _ _ rfl rfl), .base (.tree _ _ rfl rfl), .base (.tree _ _ rfl rfl), .base (.ptr _ _ _ rfl), .base (.tree _ _ rfl rfl), (by first | exact .base (.own _ _ rfl) | exact .base (.nilown _ rfl) | exact .base (.trunc _ _ _ rfl)), (by first | exact .base (.own _ _ rfl) | exact .base (.nilown _ rfl) | exact .base (.trunc _ _ _ rfl)), .base (.tree _ _ rfl rfl), trivial⟩ ⟨⟨_, rfl, (by first | exact .row _ _ _ _ _ _ _ rfl rfl | exact .lstrow _ _ _ _ _ _ _ rfl rfl | exact .nilrow _ _ _ _ _ rfl | exact .truncrow _ _ _ _ _ _ _ _ rfl (by omega) rfl)⟩, ⟨_, rfl, (by first | exact .row _ _ _ _ _ _ _ rfl rfl | exact .lstrow _ _ _ _ _ _ _ rfl rfl | exact .nilrow _ _ _ _ _ rfl | exact .truncrow _ _ _ _ _ _ _ _ rfl (by omega) rfl)⟩, ⟨_, rfl, .cells _ _ _ _ rfl (by repeat (first | exact .nil | refine .cons (by first | exact .base (.tree _ _ rfl rfl) | exact .base (.own _ _ rfl) | exact .base (.ptr _ _ _ rfl) | exact .base (.map _ _ rfl) | exact .base (.nilown _ rfl) | exact .fn _ _ _ _ _ .nil (by repeat (first | exact .nil | refine .cons (by exact .ptr _ _ _ rfl) ?_))) ?_)) rfl⟩, trivial⟩))
  simp only [decide_eq_false_iff_not] at hc1
  cases hok2 : okC a b (fl ++ [m]) with
  | false =>
    rw [if_neg (by rw [hok2]; exact Bool.noConfusion)] at cmp2
    conv => whnf
    refine .eff (by first | exact cxOk _ _ | exact cxPOk _ _ _) ?_; conv => whnf
    refine And.intro rfl ?_; conv => whnf
    refine And.intro ⟨rfl, rfl⟩ (And.intro (show (0 + fl.length) * 32 ≤ 140737488355328 by omega) ?_)
    conv => whnf
    refine And.intro rfl ?_; conv => whnf
    refine And.intro ⟨rfl, rfl⟩ (And.intro (show (fl.length + 1) * 32 ≤ 140737488355328 by omega) ?_)
    conv => whnf
    refine ⟨m, rfl, ?_⟩
    conv => whnf
    refine .one _ _ _ (fun _ => cmp2) (by repeat (first | exact .nil | (apply BorL.cons; first | exact lS rfl | exact lR rfl | exact lM rfl rfl | exact lL rfl | exact lX rfl | exact lN | exact lNl | exact lSm rfl | exact lIm rfl | exact lGm rfl | exact lP rfl | exact lQ rfl | exact lB rfl rfl rfl))) (by first | exact .inl rfl | exact .inr (by repeat (first | exact flats_nil | refine flats_cons (by first | exact flat_val _ rfl | exact flat_row (fun _ => rfl) | exact flat_lst (fun _ => rfl)) ?_))) (by first | exact .inr rfl | exact .inl rfl) ?_
    conv => whnf
    refine And.intro rfl ?_; conv => whnf
    refine And.intro (fun _ => ?_) (fun h => absurd h (by decide)); conv => whnf
    rfl
  | true =>
    rw [if_pos hok2] at cmp2
    conv => whnf
    refine .eff (by first | exact cxOk _ _ | exact cxPOk _ _ _) ?_; conv => whnf
    refine And.intro rfl ?_; conv => whnf
    refine And.intro ⟨rfl, rfl⟩ (And.intro (show (0 + fl.length) * 32 ≤ 140737488355328 by omega) ?_)
    conv => whnf
    refine And.intro rfl ?_; conv => whnf
    refine And.intro ⟨rfl, rfl⟩ (And.intro (show (fl.length + 1) * 32 ≤ 140737488355328 by omega) ?_)
    conv => whnf
    refine ⟨m, rfl, ?_⟩
    conv => whnf
    refine .one _ _ _ (fun _ => cmp2) (by repeat (first | exact .nil | (apply BorL.cons; first | exact lS rfl | exact lR rfl | exact lM rfl rfl | exact lL rfl | exact lX rfl | exact lN | exact lNl | exact lSm rfl | exact lIm rfl | exact lGm rfl | exact lP rfl | exact lQ rfl | exact lB rfl rfl rfl))) (by first | exact .inl rfl | exact .inr (by repeat (first | exact flats_nil | refine flats_cons (by first | exact flat_val _ rfl | exact flat_row (fun _ => rfl) | exact flat_lst (fun _ => rfl)) ?_))) (by first | exact .inr rfl | exact .inl rfl) ?_
    conv => whnf
    refine And.intro rfl ?_; conv => whnf
    refine And.intro (fun h => absurd h (by decide)) (fun _ => ?_); conv => whnf
    refine loop_up (cxOk _ _) O2.length (fun _ => True) (fun i => ⟨[(0, encEs a), (1, encEs b), (9, .bool true), (10, .own 0), (11, .own 1), (23, .own 2), (24, .own 3), (26, .int .i64 (i : Nat))], [(0, .row 48 5 encE e0 I), (1, .row 48 5 encE e0 O), (2, .row 48 5 encE e0 I2), (3, .row 48 5 encE e0 O2)], 4⟩) trivial ((wk_of [(0, .id 0), (1, .id 1), (2, .id 7), (3, .id 8)] rfl ⟨.base (.tree _ _ rfl rfl), .base (.tree _ _ rfl rfl), .base (.tree _ _ rfl rfl), (by first | exact .base (.own _ _ rfl) | exact .base (.nilown _ rfl) | exact .base (.trunc _ _ _ rfl)), (by first | exact .base (.own _ _ rfl) | exact .base (.nilown _ rfl) | exact .base (.trunc _ _ _ rfl)), (by first | exact .base (.own _ _ rfl) | exact .base (.nilown _ rfl) | exact .base (.trunc _ _ _ rfl)), (by first | exact .base (.own _ _ rfl) | exact .base (.nilown _ rfl) | exact .base (.trunc _ _ _ rfl)), .base (.tree _ _ rfl rfl), trivial⟩ ⟨⟨_, rfl, (by first | exact .row _ _ _ _ _ _ _ rfl rfl | exact .lstrow _ _ _ _ _ _ _ rfl rfl | exact .nilrow _ _ _ _ _ rfl | exact .truncrow _ _ _ _ _ _ _ _ rfl (by omega) rfl)⟩, ⟨_, rfl, (by first | exact .row _ _ _ _ _ _ _ rfl rfl | exact .lstrow _ _ _ _ _ _ _ rfl rfl | exact .nilrow _ _ _ _ _ rfl | exact .truncrow _ _ _ _ _ _ _ _ rfl (by omega) rfl)⟩, ⟨_, rfl, (by first | exact .row _ _ _ _ _ _ _ rfl rfl | exact .lstrow _ _ _ _ _ _ _ rfl rfl | exact .nilrow _ _ _ _ _ rfl | exact .truncrow _ _ _ _ _ _ _ _ rfl (by omega) rfl)⟩, ⟨_, rfl, (by first | exact .row _ _ _ _ _ _ _ rfl rfl | exact .lstrow _ _ _ _ _ _ _ rfl rfl | exact .nilrow _ _ _ _ _ rfl | exact .truncrow _ _ _ _ _ _ _ _ rfl (by omega) rfl)⟩, trivial⟩)) ?_
    intro i hi _
    conv => whnf
    refine ⟨fun hc5 => ?_, fun hc5 => ?_⟩
    · simp only [decide_eq_true_eq] at hc5
      have hlt : i < O2.length := by omega
      have hck : O2.getD (i : Int).toNat e0 = O2.getD i e0 := by rw [Int.toNat_natCast]
      have hh := hhas O (O2.getD i e0) (by omega)
      rw [same_mem.2 (m1' _ (getD_mem hlt))] at hh
      conv => whnf
      refine And.intro ⟨by omega, by omega⟩ ?_; conv => whnf
      refine And.intro (by omega) (And.intro rfl ?_); conv => whnf
      rw [hck]
      refine .one _ _ _ (fun _ => hh) (by repeat (first | exact .nil | (apply BorL.cons; first | exact lS rfl | exact lR rfl | exact lM rfl rfl | exact lL rfl | exact lX rfl | exact lN | exact lNl | exact lSm rfl | exact lIm rfl | exact lGm rfl | exact lP rfl | exact lQ rfl | exact lB rfl rfl rfl))) (by first | exact .inl rfl | exact .inr (by repeat (first | exact flats_nil | refine flats_cons (by first | exact flat_val _ rfl | exact flat_row (fun _ => rfl) | exact flat_lst (fun _ => rfl)) ?_))) (by first | exact .inr rfl | exact .inl rfl) ?_
      conv => whnf
      refine And.intro (fun h => absurd h (by decide)) (fun _ => ?_); conv => whnf
      refine And.intro ⟨by omega, by omega⟩ ?_; conv => whnf
      refine up hlt trivial ((wk_of [(0, .id 0), (1, .id 1), (2, .id 2), (3, .id 3)] rfl ⟨.base (.tree _ _ rfl rfl), .base (.tree _ _ rfl rfl), .base (.tree _ _ rfl rfl), (by first | exact .base (.own _ _ rfl) | exact .base (.nilown _ rfl) | exact .base (.trunc _ _ _ rfl)), (by first | exact .base (.own _ _ rfl) | exact .base (.nilown _ rfl) | exact .base (.trunc _ _ _ rfl)), (by first | exact .base (.own _ _ rfl) | exact .base (.nilown _ rfl) | exact .base (.trunc _ _ _ rfl)), (by first | exact .base (.own _ _ rfl) | exact .base (.nilown _ rfl) | exact .base (.trunc _ _ _ rfl)), .base (.tree _ _ rfl rfl), trivial⟩ ⟨⟨_, rfl, (by first | exact .row _ _ _ _ _ _ _ rfl rfl | exact .lstrow _ _ _ _ _ _ _ rfl rfl | exact .nilrow _ _ _ _ _ rfl | exact .truncrow _ _ _ _ _ _ _ _ rfl (by omega) rfl)⟩, ⟨_, rfl, (by first | exact .row _ _ _ _ _ _ _ rfl rfl | exact .lstrow _ _ _ _ _ _ _ rfl rfl | exact .nilrow _ _ _ _ _ rfl | exact .truncrow _ _ _ _ _ _ _ _ rfl (by omega) rfl)⟩, ⟨_, rfl, (by first | exact .row _ _ _ _ _ _ _ rfl rfl | exact .lstrow _ _ _ _ _ _ _ rfl rfl | exact .nilrow _ _ _ _ _ rfl | exact .truncrow _ _ _ _ _ _ _ _ rfl (by omega) rfl)⟩, ⟨_, rfl, (by first | exact .row _ _ _ _ _ _ _ rfl rfl | exact .lstrow _ _ _ _ _ _ _ rfl rfl | exact .nilrow _ _ _ _ _ rfl | exact .truncrow _ _ _ _ _ _ _ _ rfl (by omega) rfl)⟩, trivial⟩))
    simp only [decide_eq_false_iff_not] at hc5
    conv => whnf
    refine loop_up (cxOk _ _) O.length (fun _ => True) (fun i => ⟨[(0, encEs a), (1, encEs b), (9, .bool true), (10, .own 0), (11, .own 1), (23, .own 2), (24, .own 3), (27, .int .i64 (i : Nat))], [(0, .row 48 5 encE e0 I), (1, .row 48 5 encE e0 O), (2, .row 48 5 encE e0 I2), (3, .row 48 5 encE e0 O2)], 4⟩) trivial ((wk_of [(0, .id 0), (1, .id 1), (2, .id 2), (3, .id 3)] rfl ⟨.base (.tree _ _ rfl rfl), .base (.tree _ _ rfl rfl), .base (.tree _ _ rfl rfl), (by first | exact .base (.own _ _ rfl) | exact .base (.nilown _ rfl) | exact .base (.trunc _ _ _ rfl)), (by first | exact .base (.own _ _ rfl) | exact .base (.nilown _ rfl) | exact .base (.trunc _ _ _ rfl)), (by first | exact .base (.own _ _ rfl) | exact .base (.nilown _ rfl) | exact .base (.trunc _ _ _ rfl)), (by first | exact .base (.own _ _ rfl) | exact .base (.nilown _ rfl) | exact .base (.trunc _ _ _ rfl)), .base (.tree _ _ rfl rfl), trivial⟩ ⟨⟨_, rfl, (by first | exact .row _ _ _ _ _ _ _ rfl rfl | exact .lstrow _ _ _ _ _ _ _ rfl rfl | exact .nilrow _ _ _ _ _ rfl | exact .truncrow _ _ _ _ _ _ _ _ rfl (by omega) rfl)⟩, ⟨_, rfl, (by first | exact .row _ _ _ _ _ _ _ rfl rfl | exact .lstrow _ _ _ _ _ _ _ rfl rfl | exact .nilrow _ _ _ _ _ rfl | exact .truncrow _ _ _ _ _ _ _ _ rfl (by omega) rfl)⟩, ⟨_, rfl, (by first | exact .row _ _ _ _ _ _ _ rfl rfl | exact .lstrow _ _ _ _ _ _ _ rfl rfl | exact .nilrow _ _ _ _ _ rfl | exact .truncrow _ _ _ _ _ _ _ _ rfl (by omega) rfl)⟩, ⟨_, rfl, (by first | exact .row _ _ _ _ _ _ _ rfl rfl | exact .lstrow _ _ _ _ _ _ _ rfl rfl | exact .nilrow _ _ _ _ _ rfl | exact .truncrow _ _ _ _ _ _ _ _ rfl (by omega) rfl)⟩, trivial⟩)) ?_
    intro i hi _
    conv => whnf
    refine ⟨fun hc6 => ?_, fun hc6 => ?_⟩
    · simp only [decide_eq_true_eq] at hc6
      have hlt : i < O.length := by omega
      have hck : O.getD (i : Int).toNat e0 = O.getD i e0 := by rw [Int.toNat_natCast]
      have hm := m2' _ (getD_mem (d := e0) hlt)
      generalize O.getD i e0 = x at *
      conv => whnf
      refine And.intro ⟨by omega, by omega⟩ ?_; conv => whnf
      refine And.intro (by omega) (And.intro rfl ?_); conv => whnf
      rw [hck]
      refine .one _ _ _ (fun _ => hata x.id) (by repeat (first | exact .nil | (apply BorL.cons; first | exact lS rfl | exact lR rfl | exact lM rfl rfl | exact lL rfl | exact lX rfl | exact lN | exact lNl | exact lSm rfl | exact lIm rfl | exact lGm rfl | exact lP rfl | exact lQ rfl | exact lB rfl rfl rfl))) (by first | exact .inl rfl | exact .inr (by repeat (first | exact flats_nil | refine flats_cons (by first | exact flat_val _ rfl | exact flat_row (fun _ => rfl) | exact flat_lst (fun _ => rfl)) ?_))) (by first | exact .inr rfl | exact .inl rfl) ?_
      conv => whnf
      refine And.intro (fun _ => ⟨by omega, by omega⟩) ?_; conv => whnf
      refine And.intro (by omega) (And.intro rfl ?_); conv => whnf
      rw [hck]
      refine .one _ _ _ (fun _ => hatb x.id) (by repeat (first | exact .nil | (apply BorL.cons; first | exact lS rfl | exact lR rfl | exact lM rfl rfl | exact lL rfl | exact lX rfl | exact lN | exact lNl | exact lSm rfl | exact lIm rfl | exact lGm rfl | exact lP rfl | exact lQ rfl | exact lB rfl rfl rfl))) (by first | exact .inl rfl | exact .inr (by repeat (first | exact flats_nil | refine flats_cons (by first | exact flat_val _ rfl | exact flat_row (fun _ => rfl) | exact flat_lst (fun _ => rfl)) ?_))) (by first | exact .inr rfl | exact .inl rfl) ?_
      conv => whnf
      refine And.intro ⟨by omega, by omega⟩ ?_; conv => whnf
      refine And.intro (by omega) (And.intro rfl ?_); conv => whnf
      rw [hck]
      refine .one _ _ _ (fun _ => hhas O2 x (by omega)) (by repeat (first | exact .nil | (apply BorL.cons; first | exact lS rfl | exact lR rfl | exact lM rfl rfl | exact lL rfl | exact lX rfl | exact lN | exact lNl | exact lSm rfl | exact lIm rfl | exact lGm rfl | exact lP rfl | exact lQ rfl | exact lB rfl rfl rfl))) (by first | exact .inl rfl | exact .inr (by repeat (first | exact flats_nil | refine flats_cons (by first | exact flat_val _ rfl | exact flat_row (fun _ => rfl) | exact flat_lst (fun _ => rfl)) ?_))) (by first | exact .inr rfl | exact .inl rfl) ?_
      conv => whnf
      refine And.intro (fun _ => ⟨by omega, by omega⟩) ?_; conv => whnf
      refine And.intro (by omega) (And.intro rfl ?_); conv => whnf
      rw [hck]
      refine .one _ _ _ (fun _ => hhas I2 x (by omega)) (by repeat (first | exact .nil | (apply BorL.cons; first | exact lS rfl | exact lR rfl | exact lM rfl rfl | exact lL rfl | exact lX rfl | exact lN | exact lNl | exact lSm rfl | exact lIm rfl | exact lGm rfl | exact lP rfl | exact lQ rfl | exact lB rfl rfl rfl))) (by first | exact .inl rfl | exact .inr (by repeat (first | exact flats_nil | refine flats_cons (by first | exact flat_val _ rfl | exact flat_row (fun _ => rfl) | exact flat_lst (fun _ => rfl)) ?_))) (by first | exact .inr rfl | exact .inl rfl) ?_
      conv => whnf
      refine ⟨fun hd4 => ?_, fun hd4 => ?_⟩
      · exfalso
        rw [Bool.and_eq_true, Bool.or_eq_true, Bool.and_eq_true, decide_eq_true_eq, decide_eq_true_eq, Bool.not_eq_true', Bool.not_eq_true'] at hd4
        obtain ⟨n1, n2⟩ := hd4
        rcases hm with h | ⟨h, h'⟩
        · rw [same_mem.2 h] at n1
          exact Bool.noConfusion n1
        · rcases n2 with n2 | n2
          · rcases h with h | h
            · have := at_neg.2 h
              omega
            · have := at_neg.2 h
              omega
          · rw [same_mem.2 h'] at n2
            exact Bool.noConfusion n2
      conv => whnf
      refine And.intro ⟨by omega, by omega⟩ ?_; conv => whnf
      refine up hlt trivial ((wk_of [(0, .id 0), (1, .id 1), (2, .id 2), (3, .id 3)] rfl ⟨.base (.tree _ _ rfl rfl), .base (.tree _ _ rfl rfl), .base (.tree _ _ rfl rfl), (by first | exact .base (.own _ _ rfl) | exact .base (.nilown _ rfl) | exact .base (.trunc _ _ _ rfl)), (by first | exact .base (.own _ _ rfl) | exact .base (.nilown _ rfl) | exact .base (.trunc _ _ _ rfl)), (by first | exact .base (.own _ _ rfl) | exact .base (.nilown _ rfl) | exact .base (.trunc _ _ _ rfl)), (by first | exact .base (.own _ _ rfl) | exact .base (.nilown _ rfl) | exact .base (.trunc _ _ _ rfl)), .base (.tree _ _ rfl rfl), trivial⟩ ⟨⟨_, rfl, (by first | exact .row _ _ _ _ _ _ _ rfl rfl | exact .lstrow _ _ _ _ _ _ _ rfl rfl | exact .nilrow _ _ _ _ _ rfl | exact .truncrow _ _ _ _ _ _ _ _ rfl (by omega) rfl)⟩, ⟨_, rfl, (by first | exact .row _ _ _ _ _ _ _ rfl rfl | exact .lstrow _ _ _ _ _ _ _ rfl rfl | exact .nilrow _ _ _ _ _ rfl | exact .truncrow _ _ _ _ _ _ _ _ rfl (by omega) rfl)⟩, ⟨_, rfl, (by first | exact .row _ _ _ _ _ _ _ rfl rfl | exact .lstrow _ _ _ _ _ _ _ rfl rfl | exact .nilrow _ _ _ _ _ rfl | exact .truncrow _ _ _ _ _ _ _ _ rfl (by omega) rfl)⟩, ⟨_, rfl, (by first | exact .row _ _ _ _ _ _ _ rfl rfl | exact .lstrow _ _ _ _ _ _ _ rfl rfl | exact .nilrow _ _ _ _ _ rfl | exact .truncrow _ _ _ _ _ _ _ _ rfl (by omega) rfl)⟩, trivial⟩))
    simp only [decide_eq_false_iff_not] at hc6
    conv => whnf
    refine And.intro (fun _ => ⟨by omega, by omega⟩) ?_; conv => whnf
    refine And.intro (fun _ => ⟨by omega, by omega⟩) ?_; conv => whnf
    rw [Bool.true_and, decide_eq_true (show ((I2.length : Nat) : Int) + (O2.length : Nat) = (I.length : Nat) + (O.length : Nat) by omega)]
    rfl

end Go.Proofs.YtjlnaogechkjdaaDoor
