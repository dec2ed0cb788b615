import Derived.Test.YtkldidgcgioceaaX1
namespace Go.Proofs.Ytkldidgcgioceaa
open Go.Own
set_option maxHeartbeats 1000000
set_option maxRecDepth 100000

/-- The place of the first one, or -1. -/
def firstI {T : Type} (p : T → Bool) (l : List T) : Int := if l.findIdx p < l.length then (l.findIdx p : Int) else -1

theorem firstI_at {T : Type} [Inhabited T] {p : T → Bool} {l : List T} {k : Nat} {d : T} (hk : k < l.length) (h : p (l.getD k d) = true) (hP : (l.take k).any p = false) : firstI p l = k := by
  have hg : l.getD k d = l[k] := by rw [List.getD_eq_getElem?_getD, List.getElem?_eq_getElem hk]; rfl
  have : l.findIdx p = k := by
    rw [List.findIdx_eq hk]
    refine ⟨by rw [← hg]; exact h, fun j hj => ?_⟩
    have := List.any_eq_false.1 hP l[j] (by
      rw [List.mem_take_iff_getElem]
      exact ⟨j, by omega, rfl⟩)
    simpa using this
  unfold firstI
  rw [this, if_pos hk]
theorem firstI_none {T : Type} {p : T → Bool} {l : List T} (h : l.any p = false) : firstI p l = -1 := by
  unfold firstI
  rw [if_neg]
  intro hlt
  have := List.findIdx_getElem (w := hlt)
  have h2 := List.any_eq_false.1 h _ (List.getElem_mem hlt)
  exact h2 this
theorem any_take_succ {T : Type} {p : T → Bool} {l : List T} {k : Nat} {d : T} (hk : k < l.length) (hP : (l.take k).any p = false) (h : p (l.getD k d) = false) : (l.take (k + 1)).any p = false := by
  rw [take_getD (d := d) hk, List.any_append, hP]
  simpa using h
theorem firstI_pos {T : Type} {p : T → Bool} {l : List T} : decide (0 ≤ firstI p l) = l.any p := by
  cases h : l.any p with
  | false => rw [firstI_none h]; rfl
  | true =>
    unfold firstI
    rw [if_pos (List.findIdx_lt_length.2 (by obtain ⟨x, hx, hp⟩ := List.any_eq_true.1 h; exact ⟨x, hx, hp⟩))]
    simp

theorem indexD_ok (l : List Debt) (hl : l.length ≤ 9223372036854775807) (n : Nat) (c1 : List AV) (p : Debt → Bool) (hp : ∀ x ∈ l, APureV Try.prog n [encD x, .rop c1] (.bool (p x))) :
    APureV Try.prog 41 [encDs l, .fn (.func n) [] [.rop c1]] (.int .i64 (firstI p l)) := by
  refine apure_of (C := cx 19 [0, 1, 4, 5, 7, 8, 9, 16]) (cxOk _ _) Try.func41 rfl (by decide) rfl (by exact Nat.le_of_ble_eq_true rfl) (by decide) ?_
  conv => whnf
  refine loop_up (cxOk _ _) l.length (fun k => (l.take k).any p = false) (fun k => ⟨[(0, encDs l), (1, .fn (.func n) [] [.rop c1]), (7, .int .i64 l.length), (8, .int .i64 (k : Nat))], [], 0⟩) (by simp) (wk_of [] rfl ⟨.base (.tree _ _ rfl rfl), .fn _ _ _ _ _ (by repeat (first | exact .nil | refine .cons (by first | exact .tree _ _ rfl rfl | exact .ptr _ _ _ rfl | exact .own _ _ rfl) ?_)) (by repeat (first | exact .nil | refine .cons (by first | exact .tree _ _ rfl rfl | exact .ptr _ _ _ rfl | exact .own _ _ rfl) ?_)), .base (.tree _ _ rfl rfl), .base (.tree _ _ rfl rfl), trivial⟩ trivial) ?_
  intro k hk hP
  conv => whnf
  refine ⟨fun hc => ?_, fun hc => ?_⟩
  · simp only [decide_eq_true_eq] at hc
    have hlt : k < l.length := by omega
    conv => whnf
    repeat (first | (refine And.intro ⟨by omega, by omega⟩ ?_; conv => whnf) | (refine And.intro (by omega) (And.intro rfl ?_); conv => whnf) | (refine And.intro rfl ?_; conv => whnf) | (refine And.intro (fun _ => ⟨by omega, by omega⟩) ?_; conv => whnf) | (refine And.intro (fun _ => by omega) (And.intro rfl ?_); conv => whnf) | (refine And.intro ⟨(by first | omega | (simp; omega)), (by first | omega | (simp; omega))⟩ ?_; conv => whnf) | (refine Exists.intro _ (And.intro rfl (And.intro (by first | omega | (simp; omega)) (And.intro ⟨rfl, rfl, rfl, rfl, rfl⟩ ?_))); conv => whnf) | (refine And.intro ⟨rfl, rfl⟩ (And.intro (by first | omega | (simp; omega)) ?_); conv => whnf) | (refine Exists.intro _ (And.intro rfl ?_); conv => whnf) | (refine And.intro (fun _ => ?_) (fun h => absurd h (by decide)); conv => whnf) | (refine And.intro (fun h => absurd h (by decide)) (fun _ => ?_); conv => whnf) | (refine .quiet (by kernel_rfl) ?_; conv => whnf))
    rw [Int.toNat_natCast]
    refine .one _ _ _ (fun _ => hp (l.getD k d0) (getD_mem hlt)) (by repeat (first | exact .nil | (apply BorL.cons; first | exact lS rfl | exact lR rfl | exact lM rfl rfl | exact lL rfl | exact lX rfl | exact lN | exact lNl | exact lSm rfl | exact lIm rfl | exact lP rfl | exact lQ rfl))) (by first | exact .inl rfl | exact .inr (by repeat (first | exact flats_nil | refine flats_cons (by first | exact flat_val _ rfl | exact flat_row (fun _ => rfl) | exact flat_lst (fun _ => rfl)) ?_))) (by first | exact .inl rfl | exact .inr rfl) ?_
    conv => whnf
    refine ⟨fun hd => ?_, fun hd => ?_⟩
    · rw [firstI_at hlt hd hP]
      conv => whnf
      rfl
    · conv => whnf
      repeat (first | (refine And.intro ⟨by omega, by omega⟩ ?_; conv => whnf) | (refine And.intro (by omega) (And.intro rfl ?_); conv => whnf) | (refine And.intro rfl ?_; conv => whnf) | (refine And.intro (fun _ => ⟨by omega, by omega⟩) ?_; conv => whnf) | (refine And.intro (fun _ => by omega) (And.intro rfl ?_); conv => whnf) | (refine And.intro ⟨(by first | omega | (simp; omega)), (by first | omega | (simp; omega))⟩ ?_; conv => whnf) | (refine Exists.intro _ (And.intro rfl (And.intro (by first | omega | (simp; omega)) (And.intro ⟨rfl, rfl, rfl, rfl, rfl⟩ ?_))); conv => whnf) | (refine And.intro ⟨rfl, rfl⟩ (And.intro (by first | omega | (simp; omega)) ?_); conv => whnf) | (refine Exists.intro _ (And.intro rfl ?_); conv => whnf) | (refine And.intro (fun _ => ?_) (fun h => absurd h (by decide)); conv => whnf) | (refine And.intro (fun h => absurd h (by decide)) (fun _ => ?_); conv => whnf) | (refine .quiet (by kernel_rfl) ?_; conv => whnf))
      refine up hlt ?_ (wk_of [] rfl ⟨.base (.tree _ _ rfl rfl), .fn _ _ _ _ _ (by repeat (first | exact .nil | refine .cons (by first | exact .tree _ _ rfl rfl | exact .ptr _ _ _ rfl | exact .own _ _ rfl) ?_)) (by repeat (first | exact .nil | refine .cons (by first | exact .tree _ _ rfl rfl | exact .ptr _ _ _ rfl | exact .own _ _ rfl) ?_)), .base (.tree _ _ rfl rfl), .base (.tree _ _ rfl rfl), trivial⟩ trivial)
      exact any_take_succ hlt hP hd
  · simp only [decide_eq_false_iff_not] at hc
    rw [List.take_of_length_le (by omega)] at hP
    rw [firstI_none hP]
    conv => whnf
    rfl
theorem containsD_ok (l : List Debt) (hl : l.length ≤ 9223372036854775807) (n : Nat) (c1 : List AV) (p : Debt → Bool) (hp : ∀ x ∈ l, APureV Try.prog n [encD x, .rop c1] (.bool (p x))) :
    APureV Try.prog 34 [encDs l, .fn (.func n) [] [.rop c1]] (.bool (l.any p)) := by
  refine apure_of (C := cx 9 [0, 1, 4]) (cxOk _ _) Try.func34 rfl (by decide) rfl (by exact Nat.le_of_ble_eq_true rfl) (by decide) ?_
  conv => whnf
  refine .one _ _ _ (fun _ => indexD_ok l hl n c1 p hp) (by repeat (first | exact .nil | (apply BorL.cons; first | exact lS rfl | exact lR rfl | exact lM rfl rfl | exact lL rfl | exact lX rfl | exact lN | exact lNl | exact lSm rfl | exact lIm rfl | exact lP rfl | exact lQ rfl | exact .fn _ _ _ _ _ _ _ (by repeat (first | exact .nil | (apply BorL.cons; first | exact .base (.same _ rfl) | exact .base (.row _ _ _ _ _ _ rfl) | exact .base (.smap _ _ _ _ rfl) | exact .base (.imap _ _ _ _ _ rfl) | exact .box _ _ _ _ _ _ rfl (by repeat (first | exact .nil | (apply BorL.cons; first | exact .same _ rfl | exact .row _ _ _ _ _ _ rfl | exact .lstrow _ _ _ _ _ _ _ rfl rfl | exact .lst _ _ _ _ rfl | exact .smap _ _ _ _ rfl | exact .imap _ _ _ _ _ rfl))) (by first | exact allOne_spec rfl | simp [AV.one])))) (by repeat (first | exact .nil | (apply BorL.cons; first | exact .base (.same _ rfl) | exact .base (.row _ _ _ _ _ _ rfl) | exact .base (.smap _ _ _ _ rfl) | exact .base (.imap _ _ _ _ _ rfl) | exact .box _ _ _ _ _ _ rfl (by repeat (first | exact .nil | (apply BorL.cons; first | exact .same _ rfl | exact .row _ _ _ _ _ _ rfl | exact .lstrow _ _ _ _ _ _ _ rfl rfl | exact .lst _ _ _ _ rfl | exact .smap _ _ _ _ rfl | exact .imap _ _ _ _ _ rfl))) (by first | exact allOne_spec rfl | simp [AV.one])))) | exact .box _ _ _ _ _ _ rfl (by repeat (first | exact .nil | (apply BorL.cons; first | exact .base (.same _ rfl) | exact .base (.row _ _ _ _ _ _ rfl) | exact .base (.smap _ _ _ _ rfl) | exact .base (.imap _ _ _ _ _ rfl) | exact .box _ _ _ _ _ _ rfl (by repeat (first | exact .nil | (apply BorL.cons; first | exact .same _ rfl | exact .row _ _ _ _ _ _ rfl | exact .lstrow _ _ _ _ _ _ _ rfl rfl | exact .lst _ _ _ _ rfl | exact .smap _ _ _ _ rfl | exact .imap _ _ _ _ _ rfl))) (by first | exact allOne_spec rfl | simp [AV.one])))) (by first | exact allOne_spec rfl | simp [AV.one]) | exact .agg _ _ _ (by repeat (first | exact .nil | (apply BorL.cons; first | exact .base (.same _ rfl) | exact .base (.row _ _ _ _ _ _ rfl) | exact .base (.smap _ _ _ _ rfl) | exact .base (.imap _ _ _ _ _ rfl) | exact .box _ _ _ _ _ _ rfl (by repeat (first | exact .nil | (apply BorL.cons; first | exact .same _ rfl | exact .row _ _ _ _ _ _ rfl | exact .lstrow _ _ _ _ _ _ _ rfl rfl | exact .lst _ _ _ _ rfl | exact .smap _ _ _ _ rfl | exact .imap _ _ _ _ _ rfl))) (by first | exact allOne_spec rfl | simp [AV.one]))))))) (by first | exact .inl rfl | exact .inr (by repeat (first | exact flats_nil | refine flats_cons (by first | exact flat_val _ rfl | exact flat_row (fun _ => rfl) | exact flat_lst (fun _ => rfl)) ?_))) (by first | exact .inl rfl | exact .inr rfl) ?_
  conv => whnf
  rw [firstI_pos]
  rfl

theorem indexI_ok (l : List Int) (hl : l.length ≤ 9223372036854775807) (n : Nat) (c1 c2 : List AV) (p : Int → Bool) (hp : ∀ x ∈ l, APureV Try.prog n [encI x, .rop c1, .rop c2] (.bool (p x))) :
    APureV Try.prog 37 [encIs l, .fn (.func n) [] [.rop c1, .rop c2]] (.int .i64 (firstI p l)) := by
  refine apure_of (C := cx 19 [0, 1, 4, 5, 7, 8, 9, 16]) (cxOk _ _) Try.func37 rfl (by decide) rfl (by exact Nat.le_of_ble_eq_true rfl) (by decide) ?_
  conv => whnf
  refine loop_up (cxOk _ _) l.length (fun k => (l.take k).any p = false) (fun k => ⟨[(0, encIs l), (1, .fn (.func n) [] [.rop c1, .rop c2]), (7, .int .i64 l.length), (8, .int .i64 (k : Nat))], [], 0⟩) (by simp) (wk_of [] rfl ⟨.base (.tree _ _ rfl rfl), .fn _ _ _ _ _ (by repeat (first | exact .nil | refine .cons (by first | exact .tree _ _ rfl rfl | exact .ptr _ _ _ rfl | exact .own _ _ rfl) ?_)) (by repeat (first | exact .nil | refine .cons (by first | exact .tree _ _ rfl rfl | exact .ptr _ _ _ rfl | exact .own _ _ rfl) ?_)), .base (.tree _ _ rfl rfl), .base (.tree _ _ rfl rfl), trivial⟩ trivial) ?_
  intro k hk hP
  conv => whnf
  refine ⟨fun hc => ?_, fun hc => ?_⟩
  · simp only [decide_eq_true_eq] at hc
    have hlt : k < l.length := by omega
    conv => whnf
    repeat (first | (refine And.intro ⟨by omega, by omega⟩ ?_; conv => whnf) | (refine And.intro (by omega) (And.intro rfl ?_); conv => whnf) | (refine And.intro rfl ?_; conv => whnf) | (refine And.intro (fun _ => ⟨by omega, by omega⟩) ?_; conv => whnf) | (refine And.intro (fun _ => by omega) (And.intro rfl ?_); conv => whnf) | (refine And.intro ⟨(by first | omega | (simp; omega)), (by first | omega | (simp; omega))⟩ ?_; conv => whnf) | (refine Exists.intro _ (And.intro rfl (And.intro (by first | omega | (simp; omega)) (And.intro ⟨rfl, rfl, rfl, rfl, rfl⟩ ?_))); conv => whnf) | (refine And.intro ⟨rfl, rfl⟩ (And.intro (by first | omega | (simp; omega)) ?_); conv => whnf) | (refine Exists.intro _ (And.intro rfl ?_); conv => whnf) | (refine And.intro (fun _ => ?_) (fun h => absurd h (by decide)); conv => whnf) | (refine And.intro (fun h => absurd h (by decide)) (fun _ => ?_); conv => whnf) | (refine .quiet (by kernel_rfl) ?_; conv => whnf))
    rw [Int.toNat_natCast]
    refine .one _ _ _ (fun _ => hp (l.getD k 0) (getD_mem hlt)) (by repeat (first | exact .nil | (apply BorL.cons; first | exact lS rfl | exact lR rfl | exact lM rfl rfl | exact lL rfl | exact lX rfl | exact lN | exact lNl | exact lSm rfl | exact lIm rfl | exact lP rfl | exact lQ rfl))) (by first | exact .inl rfl | exact .inr (by repeat (first | exact flats_nil | refine flats_cons (by first | exact flat_val _ rfl | exact flat_row (fun _ => rfl) | exact flat_lst (fun _ => rfl)) ?_))) (by first | exact .inl rfl | exact .inr rfl) ?_
    conv => whnf
    refine ⟨fun hd => ?_, fun hd => ?_⟩
    · rw [firstI_at hlt hd hP]
      conv => whnf
      rfl
    · conv => whnf
      repeat (first | (refine And.intro ⟨by omega, by omega⟩ ?_; conv => whnf) | (refine And.intro (by omega) (And.intro rfl ?_); conv => whnf) | (refine And.intro rfl ?_; conv => whnf) | (refine And.intro (fun _ => ⟨by omega, by omega⟩) ?_; conv => whnf) | (refine And.intro (fun _ => by omega) (And.intro rfl ?_); conv => whnf) | (refine And.intro ⟨(by first | omega | (simp; omega)), (by first | omega | (simp; omega))⟩ ?_; conv => whnf) | (refine Exists.intro _ (And.intro rfl (And.intro (by first | omega | (simp; omega)) (And.intro ⟨rfl, rfl, rfl, rfl, rfl⟩ ?_))); conv => whnf) | (refine And.intro ⟨rfl, rfl⟩ (And.intro (by first | omega | (simp; omega)) ?_); conv => whnf) | (refine Exists.intro _ (And.intro rfl ?_); conv => whnf) | (refine And.intro (fun _ => ?_) (fun h => absurd h (by decide)); conv => whnf) | (refine And.intro (fun h => absurd h (by decide)) (fun _ => ?_); conv => whnf) | (refine .quiet (by kernel_rfl) ?_; conv => whnf))
      refine up hlt ?_ (wk_of [] rfl ⟨.base (.tree _ _ rfl rfl), .fn _ _ _ _ _ (by repeat (first | exact .nil | refine .cons (by first | exact .tree _ _ rfl rfl | exact .ptr _ _ _ rfl | exact .own _ _ rfl) ?_)) (by repeat (first | exact .nil | refine .cons (by first | exact .tree _ _ rfl rfl | exact .ptr _ _ _ rfl | exact .own _ _ rfl) ?_)), .base (.tree _ _ rfl rfl), .base (.tree _ _ rfl rfl), trivial⟩ trivial)
      exact any_take_succ hlt hP hd
  · simp only [decide_eq_false_iff_not] at hc
    rw [List.take_of_length_le (by omega)] at hP
    rw [firstI_none hP]
    conv => whnf
    rfl

theorem indexC2_ok (l : List Cau) (hl : l.length ≤ 9223372036854775807) (n : Nat) (c1 c2 : List AV) (p : Cau → Bool) (hp : ∀ x ∈ l, APureV Try.prog n [encC x, .rop c1, .rop c2] (.bool (p x))) :
    APureV Try.prog 39 [encCs l, .fn (.func n) [] [.rop c1, .rop c2]] (.int .i64 (firstI p l)) := by
  refine apure_of (C := cx 19 [0, 1, 4, 5, 7, 8, 9, 16]) (cxOk _ _) Try.func39 rfl (by decide) rfl (by exact Nat.le_of_ble_eq_true rfl) (by decide) ?_
  conv => whnf
  refine loop_up (cxOk _ _) l.length (fun k => (l.take k).any p = false) (fun k => ⟨[(0, encCs l), (1, .fn (.func n) [] [.rop c1, .rop c2]), (7, .int .i64 l.length), (8, .int .i64 (k : Nat))], [], 0⟩) (by simp) (wk_of [] rfl ⟨.base (.tree _ _ rfl rfl), .fn _ _ _ _ _ (by repeat (first | exact .nil | refine .cons (by first | exact .tree _ _ rfl rfl | exact .ptr _ _ _ rfl | exact .own _ _ rfl) ?_)) (by repeat (first | exact .nil | refine .cons (by first | exact .tree _ _ rfl rfl | exact .ptr _ _ _ rfl | exact .own _ _ rfl) ?_)), .base (.tree _ _ rfl rfl), .base (.tree _ _ rfl rfl), trivial⟩ trivial) ?_
  intro k hk hP
  conv => whnf
  refine ⟨fun hc => ?_, fun hc => ?_⟩
  · simp only [decide_eq_true_eq] at hc
    have hlt : k < l.length := by omega
    conv => whnf
    repeat (first | (refine And.intro ⟨by omega, by omega⟩ ?_; conv => whnf) | (refine And.intro (by omega) (And.intro rfl ?_); conv => whnf) | (refine And.intro rfl ?_; conv => whnf) | (refine And.intro (fun _ => ⟨by omega, by omega⟩) ?_; conv => whnf) | (refine And.intro (fun _ => by omega) (And.intro rfl ?_); conv => whnf) | (refine And.intro ⟨(by first | omega | (simp; omega)), (by first | omega | (simp; omega))⟩ ?_; conv => whnf) | (refine Exists.intro _ (And.intro rfl (And.intro (by first | omega | (simp; omega)) (And.intro ⟨rfl, rfl, rfl, rfl, rfl⟩ ?_))); conv => whnf) | (refine And.intro ⟨rfl, rfl⟩ (And.intro (by first | omega | (simp; omega)) ?_); conv => whnf) | (refine Exists.intro _ (And.intro rfl ?_); conv => whnf) | (refine And.intro (fun _ => ?_) (fun h => absurd h (by decide)); conv => whnf) | (refine And.intro (fun h => absurd h (by decide)) (fun _ => ?_); conv => whnf) | (refine .quiet (by kernel_rfl) ?_; conv => whnf))
    rw [Int.toNat_natCast]
    refine .one _ _ _ (fun _ => hp (l.getD k c0) (getD_mem hlt)) (by repeat (first | exact .nil | (apply BorL.cons; first | exact lS rfl | exact lR rfl | exact lM rfl rfl | exact lL rfl | exact lX rfl | exact lN | exact lNl | exact lSm rfl | exact lIm rfl | exact lP rfl | exact lQ rfl))) (by first | exact .inl rfl | exact .inr (by repeat (first | exact flats_nil | refine flats_cons (by first | exact flat_val _ rfl | exact flat_row (fun _ => rfl) | exact flat_lst (fun _ => rfl)) ?_))) (by first | exact .inl rfl | exact .inr rfl) ?_
    conv => whnf
    refine ⟨fun hd => ?_, fun hd => ?_⟩
    · rw [firstI_at hlt hd hP]
      conv => whnf
      rfl
    · conv => whnf
      repeat (first | (refine And.intro ⟨by omega, by omega⟩ ?_; conv => whnf) | (refine And.intro (by omega) (And.intro rfl ?_); conv => whnf) | (refine And.intro rfl ?_; conv => whnf) | (refine And.intro (fun _ => ⟨by omega, by omega⟩) ?_; conv => whnf) | (refine And.intro (fun _ => by omega) (And.intro rfl ?_); conv => whnf) | (refine And.intro ⟨(by first | omega | (simp; omega)), (by first | omega | (simp; omega))⟩ ?_; conv => whnf) | (refine Exists.intro _ (And.intro rfl (And.intro (by first | omega | (simp; omega)) (And.intro ⟨rfl, rfl, rfl, rfl, rfl⟩ ?_))); conv => whnf) | (refine And.intro ⟨rfl, rfl⟩ (And.intro (by first | omega | (simp; omega)) ?_); conv => whnf) | (refine Exists.intro _ (And.intro rfl ?_); conv => whnf) | (refine And.intro (fun _ => ?_) (fun h => absurd h (by decide)); conv => whnf) | (refine And.intro (fun h => absurd h (by decide)) (fun _ => ?_); conv => whnf) | (refine .quiet (by kernel_rfl) ?_; conv => whnf))
      refine up hlt ?_ (wk_of [] rfl ⟨.base (.tree _ _ rfl rfl), .fn _ _ _ _ _ (by repeat (first | exact .nil | refine .cons (by first | exact .tree _ _ rfl rfl | exact .ptr _ _ _ rfl | exact .own _ _ rfl) ?_)) (by repeat (first | exact .nil | refine .cons (by first | exact .tree _ _ rfl rfl | exact .ptr _ _ _ rfl | exact .own _ _ rfl) ?_)), .base (.tree _ _ rfl rfl), .base (.tree _ _ rfl rfl), trivial⟩ trivial)
      exact any_take_succ hlt hP hd
  · simp only [decide_eq_false_iff_not] at hc
    rw [List.take_of_length_le (by omega)] at hP
    rw [firstI_none hP]
    conv => whnf
    rfl

def rightB (l : List Debt) : Bool := decide ((l.length : Int) ≤ 400) && !l.any badD
theorem right_ok (l : List Debt) (hl : l.length ≤ 9223372036854775807) : APureV Try.prog 20 [encDs l] (.bool (rightB l)) := by
  refine apure_of (C := cx 15 [0, 2, 3, 4]) (cxOk _ _) Try.func20 rfl (by decide) rfl (by exact Nat.le_of_ble_eq_true rfl) (by decide) ?_
  conv => whnf
  repeat (first | (refine And.intro ⟨by omega, by omega⟩ ?_; conv => whnf) | (refine And.intro (by omega) (And.intro rfl ?_); conv => whnf) | (refine And.intro rfl ?_; conv => whnf) | (refine And.intro (fun _ => ⟨by omega, by omega⟩) ?_; conv => whnf) | (refine And.intro (fun _ => by omega) (And.intro rfl ?_); conv => whnf) | (refine And.intro ⟨(by first | omega | (simp; omega)), (by first | omega | (simp; omega))⟩ ?_; conv => whnf) | (refine Exists.intro _ (And.intro rfl (And.intro (by first | omega | (simp; omega)) (And.intro ⟨rfl, rfl, rfl, rfl, rfl⟩ ?_))); conv => whnf) | (refine And.intro ⟨rfl, rfl⟩ (And.intro (by first | omega | (simp; omega)) ?_); conv => whnf) | (refine Exists.intro _ (And.intro rfl ?_); conv => whnf) | (refine And.intro (fun _ => ?_) (fun h => absurd h (by decide)); conv => whnf) | (refine And.intro (fun h => absurd h (by decide)) (fun _ => ?_); conv => whnf) | (refine .quiet (by kernel_rfl) ?_; conv => whnf))
  refine .one _ _ _ (fun _ => containsD_ok l hl 33 [.fn (.func 32) [] []] badD (fun x _ => bad_ok x)) (by repeat (first | exact .nil | (apply BorL.cons; first | exact lS rfl | exact lR rfl | exact lM rfl rfl | exact lL rfl | exact lX rfl | exact lN | exact lNl | exact lSm rfl | exact lIm rfl | exact lP rfl | exact lQ rfl | exact .fn _ _ _ _ _ _ _ (by repeat (first | exact .nil | (apply BorL.cons; first | exact .base (.same _ rfl) | exact .base (.row _ _ _ _ _ _ rfl) | exact .base (.smap _ _ _ _ rfl) | exact .base (.imap _ _ _ _ _ rfl) | exact .box _ _ _ _ _ _ rfl (by repeat (first | exact .nil | (apply BorL.cons; first | exact .same _ rfl | exact .row _ _ _ _ _ _ rfl | exact .lstrow _ _ _ _ _ _ _ rfl rfl | exact .lst _ _ _ _ rfl | exact .smap _ _ _ _ rfl | exact .imap _ _ _ _ _ rfl))) (by first | exact allOne_spec rfl | simp [AV.one])))) (by repeat (first | exact .nil | (apply BorL.cons; first | exact .base (.same _ rfl) | exact .base (.row _ _ _ _ _ _ rfl) | exact .base (.smap _ _ _ _ rfl) | exact .base (.imap _ _ _ _ _ rfl) | exact .box _ _ _ _ _ _ rfl (by repeat (first | exact .nil | (apply BorL.cons; first | exact .same _ rfl | exact .row _ _ _ _ _ _ rfl | exact .lstrow _ _ _ _ _ _ _ rfl rfl | exact .lst _ _ _ _ rfl | exact .smap _ _ _ _ rfl | exact .imap _ _ _ _ _ rfl))) (by first | exact allOne_spec rfl | simp [AV.one])))) | exact .box _ _ _ _ _ _ rfl (by repeat (first | exact .nil | (apply BorL.cons; first | exact .base (.same _ rfl) | exact .base (.row _ _ _ _ _ _ rfl) | exact .base (.smap _ _ _ _ rfl) | exact .base (.imap _ _ _ _ _ rfl) | exact .box _ _ _ _ _ _ rfl (by repeat (first | exact .nil | (apply BorL.cons; first | exact .same _ rfl | exact .row _ _ _ _ _ _ rfl | exact .lstrow _ _ _ _ _ _ _ rfl rfl | exact .lst _ _ _ _ rfl | exact .smap _ _ _ _ rfl | exact .imap _ _ _ _ _ rfl))) (by first | exact allOne_spec rfl | simp [AV.one])))) (by first | exact allOne_spec rfl | simp [AV.one]) | exact .agg _ _ _ (by repeat (first | exact .nil | (apply BorL.cons; first | exact .base (.same _ rfl) | exact .base (.row _ _ _ _ _ _ rfl) | exact .base (.smap _ _ _ _ rfl) | exact .base (.imap _ _ _ _ _ rfl) | exact .box _ _ _ _ _ _ rfl (by repeat (first | exact .nil | (apply BorL.cons; first | exact .same _ rfl | exact .row _ _ _ _ _ _ rfl | exact .lstrow _ _ _ _ _ _ _ rfl rfl | exact .lst _ _ _ _ rfl | exact .smap _ _ _ _ rfl | exact .imap _ _ _ _ _ rfl))) (by first | exact allOne_spec rfl | simp [AV.one]))))))) (by first | exact .inl rfl | exact .inr (by repeat (first | exact flats_nil | refine flats_cons (by first | exact flat_val _ rfl | exact flat_row (fun _ => rfl) | exact flat_lst (fun _ => rfl)) ?_))) (by first | exact .inl rfl | exact .inr rfl) ?_
  conv => whnf
  repeat (first | (refine And.intro ⟨by omega, by omega⟩ ?_; conv => whnf) | (refine And.intro (by omega) (And.intro rfl ?_); conv => whnf) | (refine And.intro rfl ?_; conv => whnf) | (refine And.intro (fun _ => ⟨by omega, by omega⟩) ?_; conv => whnf) | (refine And.intro (fun _ => by omega) (And.intro rfl ?_); conv => whnf) | (refine And.intro ⟨(by first | omega | (simp; omega)), (by first | omega | (simp; omega))⟩ ?_; conv => whnf) | (refine Exists.intro _ (And.intro rfl (And.intro (by first | omega | (simp; omega)) (And.intro ⟨rfl, rfl, rfl, rfl, rfl⟩ ?_))); conv => whnf) | (refine And.intro ⟨rfl, rfl⟩ (And.intro (by first | omega | (simp; omega)) ?_); conv => whnf) | (refine Exists.intro _ (And.intro rfl ?_); conv => whnf) | (refine And.intro (fun _ => ?_) (fun h => absurd h (by decide)); conv => whnf) | (refine And.intro (fun h => absurd h (by decide)) (fun _ => ?_); conv => whnf) | (refine .quiet (by kernel_rfl) ?_; conv => whnf))
  rfl

end Go.Proofs.Ytkldidgcgioceaa
