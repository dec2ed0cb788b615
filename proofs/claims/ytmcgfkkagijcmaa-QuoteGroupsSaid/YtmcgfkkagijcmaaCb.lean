import Derived.Test.YtmcgfkkagijcmaaCa
import Derived.Test.YtmcgfkkagijcmaaLc
import Derived.Test.YtmcgfkkagijcmaaProg
import Derived.WalkKit
import Derived.Deep.LoopGhost
import Derived.Deep.OwnRows
import Derived.Deep.Cut
import Derived.Deep.Light
import Derived.CellFam
import Derived.BigGuard
import Derived.KernelRfl
namespace Go.Proofs.Ytmcgfkkagijcmaa
open Go.Own
set_option maxHeartbeats 4000000
set_option maxRecDepth 100000

/-! ### How many nodes -/
def cntL (c : Exp → Nat → Nat) (m : Nat) : Nat → List Exp → Nat
  | n, [] => n
  | n, a :: l => cntL c m (if n ≤ m then n + c a (m - n) else n) l
def cntF : Nat → Exp → Nat → Nat
  | 0, _, m => m + 1
  | d + 1, e, m => cntL (cntF d) m 1 e.args
theorem cntL_snoc (c : Exp → Nat → Nat) (m : Nat) : ∀ (l : List Exp) (n : Nat) (a : Exp), cntL c m n (l ++ [a]) = if cntL c m n l ≤ m then cntL c m n l + c a (m - cntL c m n l) else cntL c m n l
  | [], n, a => rfl
  | b :: l, n, a => by rw [List.cons_append, cntL, cntL_snoc c m l]; rfl
theorem cntL_stop (c : Exp → Nat → Nat) (m : Nat) : ∀ (l : List Exp) (n : Nat), m < n → cntL c m n l = n
  | [], n, _ => rfl
  | b :: l, n, h => by rw [cntL, if_neg (by omega), cntL_stop c m l n h]
theorem cntL_app (c : Exp → Nat → Nat) (m : Nat) : ∀ (l r : List Exp) (n : Nat), cntL c m n (l ++ r) = cntL c m (cntL c m n l) r
  | [], r, n => rfl
  | b :: l, r, n => by rw [List.cons_append, cntL, cntL_app c m l, cntL]
theorem cntL_ge (c : Exp → Nat → Nat) (m : Nat) : ∀ (l : List Exp) (n : Nat), n ≤ cntL c m n l
  | [], n => Nat.le_refl _
  | b :: l, n => by
    rw [cntL]
    split
    · exact Nat.le_trans (Nat.le_add_right _ _) (cntL_ge c m l _)
    · exact cntL_ge c m l n
theorem cntF_bound : ∀ (d : Nat) (e : Exp) (m : Nat), 1 ≤ cntF d e m ∧ cntF d e m ≤ m + 1
  | 0, e, m => ⟨by rw [cntF]; omega, by rw [cntF]; exact Nat.le_refl _⟩
  | d + 1, e, m => by
    refine ⟨cntL_ge _ _ _ _, ?_⟩
    rw [cntF]
    have key : ∀ (l : List Exp) (n : Nat), n ≤ m + 1 → cntL (cntF d) m n l ≤ m + 1 := by
      intro l
      induction l with
      | nil => intro n h; exact h
      | cons a l ih =>
        intro n h
        rw [cntL]
        refine ih _ ?_
        split
        · have := (cntF_bound d a (m - n)).2
          omega
        · exact h
    exact key _ _ (by omega)
theorem cntF_subs : ∀ (d : Nat) (e : Exp) (m : Nat), cntF d e m ≤ m → (subs e).length = cntF d e m
  | 0, e, m, h => by rw [cntF] at h; omega
  | d + 1, e, m, h => by
    rw [cntF] at h ⊢
    rw [subs_eq, List.length_cons]
    have key : ∀ (l : List Exp) (n : Nat), cntL (cntF d) m n l ≤ m → (subsL l).length + n = cntL (cntF d) m n l := by
      intro l
      induction l with
      | nil => intro n _; simp [subsL, cntL]
      | cons a l ih =>
        intro n h
        rw [cntL] at h ⊢
        have h1 := cntL_ge (cntF d) m l (if n ≤ m then n + cntF d a (m - n) else n)
        have hn : n ≤ m := by
          by_cases hn : n ≤ m
          · exact hn
          · rw [if_neg hn] at h h1
            omega
        rw [if_pos hn] at h h1 ⊢
        rw [← ih _ h, subsL, List.length_append, cntF_subs d a (m - n) (by omega)]
        omega
    have := key e.args 1 h
    omega

theorem count_ok : ∀ (d : Nat) (e : Exp) (m : Nat) (D M : Int), OkE e → m ≤ 1000 → d ≤ 1000 → D = (d : Int) → M = (m : Int) → APureV Try.prog 20 [encE e, .int .i64 D, .int .i64 M] (.int .i64 ((cntF d e m : Nat) : Int))
  | 0, e, m, D, M, _, hm, _, hD, hM => by
    subst hD hM
    refine apure_of (C := cx 39 [0, 1, 2, 3, 6, 7, 8, 10, 22]) (cxOk _ _) Try.func20 rfl (by decide) rfl (by exact Nat.le_of_ble_eq_true rfl) (by decide) ?_
    conv => whnf
    repeat (first | (refine And.intro ⟨by omega, by omega⟩ ?_; conv => whnf) | (refine And.intro (by omega) (And.intro rfl ?_); conv => whnf) | (refine And.intro rfl ?_; conv => whnf) | (refine And.intro (fun _ => ⟨by omega, by omega⟩) ?_; conv => whnf) | (refine And.intro (fun _ => by omega) (And.intro rfl ?_); conv => whnf) | (refine And.intro ⟨(by first | omega | (simp; omega)), (by first | omega | (simp; omega))⟩ ?_; conv => whnf) | (refine Exists.intro _ (And.intro rfl (And.intro (by first | omega | (simp; omega)) (And.intro ⟨rfl, rfl, rfl, rfl, rfl⟩ ?_))); conv => whnf) | (refine And.intro ⟨rfl, rfl⟩ (And.intro (by first | omega | (simp; omega)) ?_); conv => whnf) | (refine Exists.intro _ (And.intro rfl ?_); conv => whnf) | (refine And.intro (fun _ => ?_) (fun h => absurd h (by decide)); conv => whnf) | (refine And.intro (fun h => absurd h (by decide)) (fun _ => ?_); conv => whnf) | (refine .quiet (by kernel_rfl) ?_; conv => whnf))
    rfl
  | d + 1, e, m, D, M, he, hm, hd, hD, hM => by
    have hal := argsE_len e
    have hlen := he.alen
    refine apure_of (C := cx 39 [0, 1, 2, 3, 6, 7, 8, 10, 22]) (cxOk _ _) Try.func20 rfl (by decide) rfl (by exact Nat.le_of_ble_eq_true rfl) (by decide) ?_
    conv => whnf
    refine ⟨fun hc => ?_, fun hc => ?_⟩
    · have := of_decide_eq_true hc
      omega
    conv => whnf
    repeat (first | (refine And.intro ⟨by omega, by omega⟩ ?_; conv => whnf) | (refine And.intro (by omega) (And.intro rfl ?_); conv => whnf) | (refine And.intro rfl ?_; conv => whnf) | (refine And.intro (fun _ => ⟨by omega, by omega⟩) ?_; conv => whnf) | (refine And.intro (fun _ => by omega) (And.intro rfl ?_); conv => whnf) | (refine And.intro ⟨(by first | omega | (simp; omega)), (by first | omega | (simp; omega))⟩ ?_; conv => whnf) | (refine Exists.intro _ (And.intro rfl (And.intro (by first | omega | (simp; omega)) (And.intro ⟨rfl, rfl, rfl, rfl, rfl⟩ ?_))); conv => whnf) | (refine And.intro ⟨rfl, rfl⟩ (And.intro (by first | omega | (simp; omega)) ?_); conv => whnf) | (refine Exists.intro _ (And.intro rfl ?_); conv => whnf) | (refine And.intro (fun _ => ?_) (fun h => absurd h (by decide)); conv => whnf) | (refine And.intro (fun h => absurd h (by decide)) (fun _ => ?_); conv => whnf) | (refine .quiet (by kernel_rfl) ?_; conv => whnf))
    refine loop_up (cxOk _ _) e.args.length (fun k => True) (fun k => ⟨[(1, .int .i64 D), (2, .int .i64 M), (3, .ptr 0 0), (7, .int .i64 ((cntL (cntF d) m 1 (e.args.take k) : Nat) : Int)), (8, .int .i64 (k : Nat))], [(0, .cells 40 [.int .i64 e.op, .int .i64 e.n, .int .i64 e.unit, .str e.s, .lsl 5 (argsE e)])], 1⟩) trivial ((wk_of [(0, .id 0)] rfl ⟨.base (.tree _ _ rfl rfl), .base (.tree _ _ rfl rfl), .base (.ptr _ _ _ rfl), .base (.tree _ _ rfl rfl), .base (.tree _ _ rfl rfl), trivial⟩ ⟨⟨_, rfl, .cells _ _ _ _ rfl (by repeat (first | exact .nil | refine .cons (by first | exact .base (.tree _ _ rfl rfl) | exact .base (.own _ _ rfl) | exact .base (.ptr _ _ _ rfl) | exact .base (.map _ _ rfl) | exact .base (.nilown _ rfl) | exact .fn _ _ _ _ _ .nil (by repeat (first | exact .nil | refine .cons (by exact .ptr _ _ _ rfl) ?_))) ?_)) rfl⟩, trivial⟩)) ?_
    intro k hk _
    have hek : (k : Int).toNat = k := Int.toNat_natCast k
    have hcn : cntL (cntF d) m 1 (e.args.take k) ≤ m + 1 := by
      have h1 := cntL_app (cntF d) m (e.args.take k) (e.args.drop k) 1
      rw [List.take_append_drop] at h1
      have h2 := cntL_ge (cntF d) m (e.args.drop k) (cntL (cntF d) m 1 (e.args.take k))
      have h3 := (cntF_bound (d + 1) e m).2
      rw [cntF] at h3
      omega
    have hc1 := cntL_ge (cntF d) m (e.args.take k) 1
    conv => whnf
    repeat (first | (refine And.intro ⟨by omega, by omega⟩ ?_; conv => whnf) | (refine And.intro (by omega) (And.intro rfl ?_); conv => whnf) | (refine And.intro rfl ?_; conv => whnf) | (refine And.intro (fun _ => ⟨by omega, by omega⟩) ?_; conv => whnf) | (refine And.intro (fun _ => by omega) (And.intro rfl ?_); conv => whnf) | (refine And.intro ⟨(by first | omega | (simp; omega)), (by first | omega | (simp; omega))⟩ ?_; conv => whnf) | (refine Exists.intro _ (And.intro rfl (And.intro (by first | omega | (simp; omega)) (And.intro ⟨rfl, rfl, rfl, rfl, rfl⟩ ?_))); conv => whnf) | (refine And.intro ⟨rfl, rfl⟩ (And.intro (by first | omega | (simp; omega)) ?_); conv => whnf) | (refine Exists.intro _ (And.intro rfl ?_); conv => whnf) | (refine And.intro (fun _ => ?_) (fun h => absurd h (by decide)); conv => whnf) | (refine And.intro (fun h => absurd h (by decide)) (fun _ => ?_); conv => whnf) | (refine .quiet (by kernel_rfl) ?_; conv => whnf))
    refine ⟨fun hf => ?_, fun hf => ?_⟩
    · simp only [Bool.and_eq_true, decide_eq_true_eq] at hf
      have hlt : k < e.args.length := by omega
      have hmem : e.args.getD k ex0 ∈ e.args := getD_mem hlt
      have hget := argsE_get e hlt
      have hn : cntL (cntF d) m 1 (e.args.take k) ≤ m := by omega
      have hst : cntL (cntF d) m 1 (e.args.take (k + 1)) = cntL (cntF d) m 1 (e.args.take k) + cntF d (e.args.getD k ex0) (m - cntL (cntF d) m 1 (e.args.take k)) := by
        rw [take_getD (d := ex0) hlt, cntL_snoc, if_pos hn]
      have hcb := (cntF_bound d (e.args.getD k ex0) (m - cntL (cntF d) m 1 (e.args.take k))).2
      have hih := count_ok d (e.args.getD k ex0) (m - cntL (cntF d) m 1 (e.args.take k)) (D - 1) (M - ((cntL (cntF d) m 1 (e.args.take k) : Nat) : Int)) (he.arg _ hmem) (by omega) (by omega) (by omega) (by omega)
      generalize hN : cntL (cntF d) m 1 (e.args.take k) = N at *
      generalize hN' : cntL (cntF d) m 1 (e.args.take (k + 1)) = N' at *
      generalize hC : cntF d (e.args.getD k ex0) (m - N) = C at *
      generalize e.args.getD k ex0 = a at *
      conv => whnf
      repeat (first | (refine And.intro ⟨by omega, by omega⟩ ?_; conv => whnf) | (refine And.intro (by omega) (And.intro rfl ?_); conv => whnf) | (refine And.intro rfl ?_; conv => whnf) | (refine And.intro (fun _ => ⟨by omega, by omega⟩) ?_; conv => whnf) | (refine And.intro (fun _ => by omega) (And.intro rfl ?_); conv => whnf) | (refine And.intro ⟨(by first | omega | (simp; omega)), (by first | omega | (simp; omega))⟩ ?_; conv => whnf) | (refine Exists.intro _ (And.intro rfl (And.intro (by first | omega | (simp; omega)) (And.intro ⟨rfl, rfl, rfl, rfl, rfl⟩ ?_))); conv => whnf) | (refine And.intro ⟨rfl, rfl⟩ (And.intro (by first | omega | (simp; omega)) ?_); conv => whnf) | (refine Exists.intro _ (And.intro rfl ?_); conv => whnf) | (refine And.intro (fun _ => ?_) (fun h => absurd h (by decide)); conv => whnf) | (refine And.intro (fun h => absurd h (by decide)) (fun _ => ?_); conv => whnf) | (refine .quiet (by kernel_rfl) ?_; conv => whnf))
      rw [hek, hget]
      conv => whnf
      repeat (first | (refine And.intro ⟨by omega, by omega⟩ ?_; conv => whnf) | (refine And.intro (by omega) (And.intro rfl ?_); conv => whnf) | (refine And.intro rfl ?_; conv => whnf) | (refine And.intro (fun _ => ⟨by omega, by omega⟩) ?_; conv => whnf) | (refine And.intro (fun _ => by omega) (And.intro rfl ?_); conv => whnf) | (refine And.intro ⟨(by first | omega | (simp; omega)), (by first | omega | (simp; omega))⟩ ?_; conv => whnf) | (refine Exists.intro _ (And.intro rfl (And.intro (by first | omega | (simp; omega)) (And.intro ⟨rfl, rfl, rfl, rfl, rfl⟩ ?_))); conv => whnf) | (refine And.intro ⟨rfl, rfl⟩ (And.intro (by first | omega | (simp; omega)) ?_); conv => whnf) | (refine Exists.intro _ (And.intro rfl ?_); conv => whnf) | (refine And.intro (fun _ => ?_) (fun h => absurd h (by decide)); conv => whnf) | (refine And.intro (fun h => absurd h (by decide)) (fun _ => ?_); conv => whnf) | (refine .quiet (by kernel_rfl) ?_; conv => whnf))
      refine .one _ _ _ (fun _ => hih) (by repeat (first | exact .nil | (apply BorL.cons; first | exact lS rfl | exact lR rfl | exact lM rfl rfl | exact lL rfl | exact lX rfl | exact lN | exact lNl | exact lSm rfl | exact lIm rfl | exact lP rfl | exact lQ rfl | exact lB rfl rfl rfl))) (by first | exact .inl rfl | exact .inr (by repeat (first | exact flats_nil | refine flats_cons (by first | exact flat_val _ rfl | exact flat_row (fun _ => rfl) | exact flat_lst (fun _ => rfl)) ?_))) (by first | exact .inr rfl | exact .inl rfl) ?_
      conv => whnf
      repeat (first | (refine And.intro ⟨by omega, by omega⟩ ?_; conv => whnf) | (refine And.intro (by omega) (And.intro rfl ?_); conv => whnf) | (refine And.intro rfl ?_; conv => whnf) | (refine And.intro (fun _ => ⟨by omega, by omega⟩) ?_; conv => whnf) | (refine And.intro (fun _ => by omega) (And.intro rfl ?_); conv => whnf) | (refine And.intro ⟨(by first | omega | (simp; omega)), (by first | omega | (simp; omega))⟩ ?_; conv => whnf) | (refine Exists.intro _ (And.intro rfl (And.intro (by first | omega | (simp; omega)) (And.intro ⟨rfl, rfl, rfl, rfl, rfl⟩ ?_))); conv => whnf) | (refine And.intro ⟨rfl, rfl⟩ (And.intro (by first | omega | (simp; omega)) ?_); conv => whnf) | (refine Exists.intro _ (And.intro rfl ?_); conv => whnf) | (refine And.intro (fun _ => ?_) (fun h => absurd h (by decide)); conv => whnf) | (refine And.intro (fun h => absurd h (by decide)) (fun _ => ?_); conv => whnf) | (refine .quiet (by kernel_rfl) ?_; conv => whnf))
      refine up hlt trivial ((wk_of [(0, .id 0)] rfl ⟨.base (.tree _ _ rfl rfl), .base (.tree _ _ rfl rfl), .base (.ptr _ _ _ rfl), .base (.tree _ _ (show AV.int .i64 _ = AV.int .i64 _ by rw [hN', hst]; rfl) rfl), .base (.tree _ _ rfl rfl), trivial⟩ ⟨⟨_, rfl, .cells _ _ _ _ rfl (by repeat (first | exact .nil | refine .cons (by first | exact .base (.tree _ _ rfl rfl) | exact .base (.own _ _ rfl) | exact .base (.ptr _ _ _ rfl) | exact .base (.map _ _ rfl) | exact .base (.nilown _ rfl) | exact .fn _ _ _ _ _ .nil (by repeat (first | exact .nil | refine .cons (by exact .ptr _ _ _ rfl) ?_))) ?_)) rfl⟩, trivial⟩))
    · have hfin : cntL (cntF d) m 1 (e.args.take k) = cntF (d + 1) e m := by
        rw [cntF]
        simp only [Bool.and_eq_false_iff, decide_eq_false_iff_not] at hf
        rcases hf with hf | hf
        · rw [List.take_of_length_le (by omega)]
        · have h1 := cntL_app (cntF d) m (e.args.take k) (e.args.drop k) 1
          rw [List.take_append_drop] at h1
          have h2 := cntL_stop (cntF d) m (e.args.drop k) (cntL (cntF d) m 1 (e.args.take k)) (by omega)
          rw [h1, h2]
      rw [hfin]
      conv => whnf
      rfl

/-! ### Few -/
def fewX (x : Ind) : Bool := decide (x.lets.length ≤ 5) && decide (cntF 12 x.coupon 30 ≤ 30) && decide (x.name.length ≤ 60) && x.lets.all fun l => decide (cntF 12 l.body 30 ≤ 30)
def fewB (l : List Ind) (n : Int) : Bool := decide ((l.length : Int) ≤ n) && l.all fewX
/-- What is read of the machine. -/
structure InX (x : Ind) : Prop where
  name : x.name.length ≤ 9223372036854775807
  lets : x.lets.length ≤ 9223372036854775807
  body : ∀ l ∈ x.lets, OkE l.body
  coupon : OkE x.coupon
theorem few_okX {x : Ind} (h : InX x) (hf : fewX x = true) : OkX x := by
  simp only [fewX, Bool.and_eq_true, decide_eq_true_eq, List.all_eq_true] at hf
  obtain ⟨⟨⟨h1, h2⟩, _⟩, h4⟩ := hf
  refine ⟨by omega, h.body, h.coupon, ?_⟩
  unfold allX
  rw [List.length_append, cntF_subs 12 x.coupon 30 h2]
  have key : ∀ l : List LetE, (∀ y ∈ l, cntF 12 y.body 30 ≤ 30) → (l.flatMap fun l => subs l.body).length ≤ 30 * l.length := by
    intro l
    induction l with
    | nil => intro _; simp
    | cons a l ih =>
      intro h
      have h5 := h a (by simp)
      have := ih fun y hy => h y (by simp [hy])
      rw [List.flatMap_cons, List.length_append, cntF_subs 12 a.body 30 h5, List.length_cons]
      omega
  have := key x.lets h4
  omega
theorem few_ok (l : List Ind) (n : Int) (hl : l.length ≤ 9223372036854775807) (hx : ∀ x ∈ l, InX x) : APureV Try.prog 8 [encXs l, .int .i64 n] (.bool (fewB l n)) := by
  refine apure_of (C := cx 63 [0, 1, 4, 5, 6, 10, 14, 41, 49, 62]) (cxOk _ _) Try.func8 rfl (by decide) rfl (by exact Nat.le_of_ble_eq_true rfl) (by decide) ?_
  conv => whnf
  refine ⟨fun hc => ?_, fun hc => ?_⟩
  · have hc := of_decide_eq_true hc
    conv => whnf
    unfold fewB
    rw [decide_eq_false (by omega)]
    rfl
  have hc := of_decide_eq_false hc
  have hln : ∀ b, fewB l n = b ↔ l.all fewX = b := fun b => by unfold fewB; rw [decide_eq_true (by omega), Bool.true_and]
  conv => whnf
  refine loop_up (cxOk _ _) l.length (fun k => ∀ j, j < k → fewX (l.getD j i0) = true) (fun k => ⟨[(0, encXs l), (5, .int .i64 (k : Nat))], [], 0⟩) (by intro j hj; omega) ((wk_of [] rfl ⟨.base (.tree _ _ rfl rfl), .base (.tree _ _ rfl rfl), trivial⟩ trivial)) ?_
  intro k hk hP
  conv => whnf
  refine ⟨fun hd => ?_, fun hd => ?_⟩
  · have hd := of_decide_eq_true hd
    have hlt : k < l.length := by omega
    have hek : (k : Int).toNat = k := Int.toNat_natCast k
    have hmem : l.getD k i0 ∈ l := getD_mem hlt
    have hix := hx _ hmem
    have hil := hix.lets
    have hin := hix.name
    have hno : fewX (l.getD k i0) = false → fewB l n = false := fun h => (hln false).2 (List.all_eq_false.2 ⟨_, hmem, by rw [h]; decide⟩)
    have hcb := (cntF_bound 12 (l.getD k i0).coupon 30).2
    conv => whnf
    repeat (first | (refine And.intro ⟨by omega, by omega⟩ ?_; conv => whnf) | (refine And.intro (by omega) (And.intro rfl ?_); conv => whnf) | (refine And.intro rfl ?_; conv => whnf) | (refine And.intro (fun _ => ⟨by omega, by omega⟩) ?_; conv => whnf) | (refine And.intro (fun _ => by omega) (And.intro rfl ?_); conv => whnf) | (refine And.intro ⟨(by first | omega | (simp; omega)), (by first | omega | (simp; omega))⟩ ?_; conv => whnf) | (refine Exists.intro _ (And.intro rfl (And.intro (by first | omega | (simp; omega)) (And.intro ⟨rfl, rfl, rfl, rfl, rfl⟩ ?_))); conv => whnf) | (refine And.intro ⟨rfl, rfl⟩ (And.intro (by first | omega | (simp; omega)) ?_); conv => whnf) | (refine Exists.intro _ (And.intro rfl ?_); conv => whnf) | (refine And.intro (fun _ => ?_) (fun h => absurd h (by decide)); conv => whnf) | (refine And.intro (fun h => absurd h (by decide)) (fun _ => ?_); conv => whnf) | (refine .quiet (by kernel_rfl) ?_; conv => whnf))
    rw [hek]
    conv => whnf
    repeat (first | (refine And.intro ⟨by omega, by omega⟩ ?_; conv => whnf) | (refine And.intro (by omega) (And.intro rfl ?_); conv => whnf) | (refine And.intro rfl ?_; conv => whnf) | (refine And.intro (fun _ => ⟨by omega, by omega⟩) ?_; conv => whnf) | (refine And.intro (fun _ => by omega) (And.intro rfl ?_); conv => whnf) | (refine And.intro ⟨(by first | omega | (simp; omega)), (by first | omega | (simp; omega))⟩ ?_; conv => whnf) | (refine Exists.intro _ (And.intro rfl (And.intro (by first | omega | (simp; omega)) (And.intro ⟨rfl, rfl, rfl, rfl, rfl⟩ ?_))); conv => whnf) | (refine And.intro ⟨rfl, rfl⟩ (And.intro (by first | omega | (simp; omega)) ?_); conv => whnf) | (refine Exists.intro _ (And.intro rfl ?_); conv => whnf) | (refine And.intro (fun _ => ?_) (fun h => absurd h (by decide)); conv => whnf) | (refine And.intro (fun h => absurd h (by decide)) (fun _ => ?_); conv => whnf) | (refine .quiet (by kernel_rfl) ?_; conv => whnf))
    refine .one _ _ _ (fun _ => (count_ok 12 (l.getD k i0).coupon 30 12 30 hix.coupon (by omega) (by omega) rfl rfl)) (by repeat (first | exact .nil | (apply BorL.cons; first | exact lS rfl | exact lR rfl | exact lM rfl rfl | exact lL rfl | exact lX rfl | exact lN | exact lNl | exact lSm rfl | exact lIm rfl | exact lP rfl | exact lQ rfl | exact lB rfl rfl rfl))) (by first | exact .inl rfl | exact .inr (by repeat (first | exact flats_nil | refine flats_cons (by first | exact flat_val _ rfl | exact flat_row (fun _ => rfl) | exact flat_lst (fun _ => rfl)) ?_))) (by first | exact .inr rfl | exact .inl rfl) ?_
    conv => whnf
    repeat (first | (refine And.intro ⟨by omega, by omega⟩ ?_; conv => whnf) | (refine And.intro (by omega) (And.intro rfl ?_); conv => whnf) | (refine And.intro rfl ?_; conv => whnf) | (refine And.intro (fun _ => ⟨by omega, by omega⟩) ?_; conv => whnf) | (refine And.intro (fun _ => by omega) (And.intro rfl ?_); conv => whnf) | (refine And.intro ⟨(by first | omega | (simp; omega)), (by first | omega | (simp; omega))⟩ ?_; conv => whnf) | (refine Exists.intro _ (And.intro rfl (And.intro (by first | omega | (simp; omega)) (And.intro ⟨rfl, rfl, rfl, rfl, rfl⟩ ?_))); conv => whnf) | (refine And.intro ⟨rfl, rfl⟩ (And.intro (by first | omega | (simp; omega)) ?_); conv => whnf) | (refine Exists.intro _ (And.intro rfl ?_); conv => whnf) | (refine And.intro (fun _ => ?_) (fun h => absurd h (by decide)); conv => whnf) | (refine And.intro (fun h => absurd h (by decide)) (fun _ => ?_); conv => whnf) | (refine .quiet (by kernel_rfl) ?_; conv => whnf))
    rw [hek]
    refine ⟨fun hf => ?_, fun hf => ?_⟩
    · have hf : fewX (l.getD k i0) = false := by
        unfold fewX
        simp only [Bool.or_eq_true, decide_eq_true_eq] at hf
        rcases hf with (h1 | h1) | h1
        · rw [decide_eq_false (by omega)]; rfl
        · rw [decide_eq_false (show ¬ cntF 12 (l.getD k i0).coupon 30 ≤ 30 by omega)]; simp
        · rw [decide_eq_false (show ¬ (l.getD k i0).name.length ≤ 60 by omega)]; simp
      conv => whnf
      rw [hno hf]
      rfl
    · simp only [Bool.or_eq_false_iff, decide_eq_false_iff_not] at hf
      have hfx : fewX (l.getD k i0) = (l.getD k i0).lets.all fun l => decide (cntF 12 l.body 30 ≤ 30) := by
        unfold fewX
        rw [decide_eq_true (by omega), decide_eq_true (by omega), decide_eq_true (by omega)]
        rfl
      conv => whnf
      repeat (first | (refine And.intro ⟨by omega, by omega⟩ ?_; conv => whnf) | (refine And.intro (by omega) (And.intro rfl ?_); conv => whnf) | (refine And.intro rfl ?_; conv => whnf) | (refine And.intro (fun _ => ⟨by omega, by omega⟩) ?_; conv => whnf) | (refine And.intro (fun _ => by omega) (And.intro rfl ?_); conv => whnf) | (refine And.intro ⟨(by first | omega | (simp; omega)), (by first | omega | (simp; omega))⟩ ?_; conv => whnf) | (refine Exists.intro _ (And.intro rfl (And.intro (by first | omega | (simp; omega)) (And.intro ⟨rfl, rfl, rfl, rfl, rfl⟩ ?_))); conv => whnf) | (refine And.intro ⟨rfl, rfl⟩ (And.intro (by first | omega | (simp; omega)) ?_); conv => whnf) | (refine Exists.intro _ (And.intro rfl ?_); conv => whnf) | (refine And.intro (fun _ => ?_) (fun h => absurd h (by decide)); conv => whnf) | (refine And.intro (fun h => absurd h (by decide)) (fun _ => ?_); conv => whnf) | (refine .quiet (by kernel_rfl) ?_; conv => whnf))
      refine loop_up (cxOk _ _) (l.getD k i0).lets.length (fun m => ∀ j, j < m → cntF 12 ((l.getD k i0).lets.getD j l0).body 30 ≤ 30) (fun m => ⟨[(0, encXs l), (5, .int .i64 (k : Nat)), (6, .int .i64 (m : Nat))], [], 0⟩) (by intro j hj; omega) ((wk_of [] rfl ⟨.base (.tree _ _ rfl rfl), .base (.tree _ _ rfl rfl), .base (.tree _ _ rfl rfl), trivial⟩ trivial)) ?_
      intro m hm hP2
      conv => whnf
      repeat (first | (refine And.intro ⟨by omega, by omega⟩ ?_; conv => whnf) | (refine And.intro (by omega) (And.intro rfl ?_); conv => whnf) | (refine And.intro rfl ?_; conv => whnf) | (refine And.intro (fun _ => ⟨by omega, by omega⟩) ?_; conv => whnf) | (refine And.intro (fun _ => by omega) (And.intro rfl ?_); conv => whnf) | (refine And.intro ⟨(by first | omega | (simp; omega)), (by first | omega | (simp; omega))⟩ ?_; conv => whnf) | (refine Exists.intro _ (And.intro rfl (And.intro (by first | omega | (simp; omega)) (And.intro ⟨rfl, rfl, rfl, rfl, rfl⟩ ?_))); conv => whnf) | (refine And.intro ⟨rfl, rfl⟩ (And.intro (by first | omega | (simp; omega)) ?_); conv => whnf) | (refine Exists.intro _ (And.intro rfl ?_); conv => whnf) | (refine And.intro (fun _ => ?_) (fun h => absurd h (by decide)); conv => whnf) | (refine And.intro (fun h => absurd h (by decide)) (fun _ => ?_); conv => whnf) | (refine .quiet (by kernel_rfl) ?_; conv => whnf))
      rw [hek]
      conv => whnf
      refine ⟨fun hg => ?_, fun hg => ?_⟩
      · have hg := of_decide_eq_true hg
        have hlm : m < (l.getD k i0).lets.length := by omega
        have hem : (m : Int).toNat = m := Int.toNat_natCast m
        have hmem2 : (l.getD k i0).lets.getD m l0 ∈ (l.getD k i0).lets := getD_mem hlm
        have hbo := hix.body _ hmem2
        have hcb2 := (cntF_bound 12 ((l.getD k i0).lets.getD m l0).body 30).2
        conv => whnf
        repeat (first | (refine And.intro ⟨by omega, by omega⟩ ?_; conv => whnf) | (refine And.intro (by omega) (And.intro rfl ?_); conv => whnf) | (refine And.intro rfl ?_; conv => whnf) | (refine And.intro (fun _ => ⟨by omega, by omega⟩) ?_; conv => whnf) | (refine And.intro (fun _ => by omega) (And.intro rfl ?_); conv => whnf) | (refine And.intro ⟨(by first | omega | (simp; omega)), (by first | omega | (simp; omega))⟩ ?_; conv => whnf) | (refine Exists.intro _ (And.intro rfl (And.intro (by first | omega | (simp; omega)) (And.intro ⟨rfl, rfl, rfl, rfl, rfl⟩ ?_))); conv => whnf) | (refine And.intro ⟨rfl, rfl⟩ (And.intro (by first | omega | (simp; omega)) ?_); conv => whnf) | (refine Exists.intro _ (And.intro rfl ?_); conv => whnf) | (refine And.intro (fun _ => ?_) (fun h => absurd h (by decide)); conv => whnf) | (refine And.intro (fun h => absurd h (by decide)) (fun _ => ?_); conv => whnf) | (refine .quiet (by kernel_rfl) ?_; conv => whnf))
        rw [hek]
        conv => whnf
        repeat (first | (refine And.intro ⟨by omega, by omega⟩ ?_; conv => whnf) | (refine And.intro (by omega) (And.intro rfl ?_); conv => whnf) | (refine And.intro rfl ?_; conv => whnf) | (refine And.intro (fun _ => ⟨by omega, by omega⟩) ?_; conv => whnf) | (refine And.intro (fun _ => by omega) (And.intro rfl ?_); conv => whnf) | (refine And.intro ⟨(by first | omega | (simp; omega)), (by first | omega | (simp; omega))⟩ ?_; conv => whnf) | (refine Exists.intro _ (And.intro rfl (And.intro (by first | omega | (simp; omega)) (And.intro ⟨rfl, rfl, rfl, rfl, rfl⟩ ?_))); conv => whnf) | (refine And.intro ⟨rfl, rfl⟩ (And.intro (by first | omega | (simp; omega)) ?_); conv => whnf) | (refine Exists.intro _ (And.intro rfl ?_); conv => whnf) | (refine And.intro (fun _ => ?_) (fun h => absurd h (by decide)); conv => whnf) | (refine And.intro (fun h => absurd h (by decide)) (fun _ => ?_); conv => whnf) | (refine .quiet (by kernel_rfl) ?_; conv => whnf))
        rw [hem]
        conv => whnf
        repeat (first | (refine And.intro ⟨by omega, by omega⟩ ?_; conv => whnf) | (refine And.intro (by omega) (And.intro rfl ?_); conv => whnf) | (refine And.intro rfl ?_; conv => whnf) | (refine And.intro (fun _ => ⟨by omega, by omega⟩) ?_; conv => whnf) | (refine And.intro (fun _ => by omega) (And.intro rfl ?_); conv => whnf) | (refine And.intro ⟨(by first | omega | (simp; omega)), (by first | omega | (simp; omega))⟩ ?_; conv => whnf) | (refine Exists.intro _ (And.intro rfl (And.intro (by first | omega | (simp; omega)) (And.intro ⟨rfl, rfl, rfl, rfl, rfl⟩ ?_))); conv => whnf) | (refine And.intro ⟨rfl, rfl⟩ (And.intro (by first | omega | (simp; omega)) ?_); conv => whnf) | (refine Exists.intro _ (And.intro rfl ?_); conv => whnf) | (refine And.intro (fun _ => ?_) (fun h => absurd h (by decide)); conv => whnf) | (refine And.intro (fun h => absurd h (by decide)) (fun _ => ?_); conv => whnf) | (refine .quiet (by kernel_rfl) ?_; conv => whnf))
        refine .one _ _ _ (fun _ => (count_ok 12 ((l.getD k i0).lets.getD m l0).body 30 12 30 hbo (by omega) (by omega) rfl rfl)) (by repeat (first | exact .nil | (apply BorL.cons; first | exact lS rfl | exact lR rfl | exact lM rfl rfl | exact lL rfl | exact lX rfl | exact lN | exact lNl | exact lSm rfl | exact lIm rfl | exact lP rfl | exact lQ rfl | exact lB rfl rfl rfl))) (by first | exact .inl rfl | exact .inr (by repeat (first | exact flats_nil | refine flats_cons (by first | exact flat_val _ rfl | exact flat_row (fun _ => rfl) | exact flat_lst (fun _ => rfl)) ?_))) (by first | exact .inr rfl | exact .inl rfl) ?_
        conv => whnf
        repeat (first | (refine And.intro ⟨by omega, by omega⟩ ?_; conv => whnf) | (refine And.intro (by omega) (And.intro rfl ?_); conv => whnf) | (refine And.intro rfl ?_; conv => whnf) | (refine And.intro (fun _ => ⟨by omega, by omega⟩) ?_; conv => whnf) | (refine And.intro (fun _ => by omega) (And.intro rfl ?_); conv => whnf) | (refine And.intro ⟨(by first | omega | (simp; omega)), (by first | omega | (simp; omega))⟩ ?_; conv => whnf) | (refine Exists.intro _ (And.intro rfl (And.intro (by first | omega | (simp; omega)) (And.intro ⟨rfl, rfl, rfl, rfl, rfl⟩ ?_))); conv => whnf) | (refine And.intro ⟨rfl, rfl⟩ (And.intro (by first | omega | (simp; omega)) ?_); conv => whnf) | (refine Exists.intro _ (And.intro rfl ?_); conv => whnf) | (refine And.intro (fun _ => ?_) (fun h => absurd h (by decide)); conv => whnf) | (refine And.intro (fun h => absurd h (by decide)) (fun _ => ?_); conv => whnf) | (refine .quiet (by kernel_rfl) ?_; conv => whnf))
        refine ⟨fun hh => ?_, fun hh => ?_⟩
        · have hh := of_decide_eq_true hh
          conv => whnf
          rw [hno (by rw [hfx]; exact List.all_eq_false.2 ⟨_, hmem2, by rw [decide_eq_false (by omega)]; decide⟩)]
          rfl
        · have hh := of_decide_eq_false hh
          conv => whnf
          repeat (first | (refine And.intro ⟨by omega, by omega⟩ ?_; conv => whnf) | (refine And.intro (by omega) (And.intro rfl ?_); conv => whnf) | (refine And.intro rfl ?_; conv => whnf) | (refine And.intro (fun _ => ⟨by omega, by omega⟩) ?_; conv => whnf) | (refine And.intro (fun _ => by omega) (And.intro rfl ?_); conv => whnf) | (refine And.intro ⟨(by first | omega | (simp; omega)), (by first | omega | (simp; omega))⟩ ?_; conv => whnf) | (refine Exists.intro _ (And.intro rfl (And.intro (by first | omega | (simp; omega)) (And.intro ⟨rfl, rfl, rfl, rfl, rfl⟩ ?_))); conv => whnf) | (refine And.intro ⟨rfl, rfl⟩ (And.intro (by first | omega | (simp; omega)) ?_); conv => whnf) | (refine Exists.intro _ (And.intro rfl ?_); conv => whnf) | (refine And.intro (fun _ => ?_) (fun h => absurd h (by decide)); conv => whnf) | (refine And.intro (fun h => absurd h (by decide)) (fun _ => ?_); conv => whnf) | (refine .quiet (by kernel_rfl) ?_; conv => whnf))
          refine up hlm (fun j hj => ?_) ((wk_of [] rfl ⟨.base (.tree _ _ rfl rfl), .base (.tree _ _ rfl rfl), .base (.tree _ _ rfl rfl), trivial⟩ trivial))
          by_cases e : j = m
          · subst e; omega
          · exact hP2 j (by omega)
      · have hg := of_decide_eq_false hg
        obtain rfl : m = (l.getD k i0).lets.length := by omega
        conv => whnf
        repeat (first | (refine And.intro ⟨by omega, by omega⟩ ?_; conv => whnf) | (refine And.intro (by omega) (And.intro rfl ?_); conv => whnf) | (refine And.intro rfl ?_; conv => whnf) | (refine And.intro (fun _ => ⟨by omega, by omega⟩) ?_; conv => whnf) | (refine And.intro (fun _ => by omega) (And.intro rfl ?_); conv => whnf) | (refine And.intro ⟨(by first | omega | (simp; omega)), (by first | omega | (simp; omega))⟩ ?_; conv => whnf) | (refine Exists.intro _ (And.intro rfl (And.intro (by first | omega | (simp; omega)) (And.intro ⟨rfl, rfl, rfl, rfl, rfl⟩ ?_))); conv => whnf) | (refine And.intro ⟨rfl, rfl⟩ (And.intro (by first | omega | (simp; omega)) ?_); conv => whnf) | (refine Exists.intro _ (And.intro rfl ?_); conv => whnf) | (refine And.intro (fun _ => ?_) (fun h => absurd h (by decide)); conv => whnf) | (refine And.intro (fun h => absurd h (by decide)) (fun _ => ?_); conv => whnf) | (refine .quiet (by kernel_rfl) ?_; conv => whnf))
        refine up hlt (fun j hj => ?_) ((wk_of [] rfl ⟨.base (.tree _ _ rfl rfl), .base (.tree _ _ rfl rfl), trivial⟩ trivial))
        by_cases e : j = k
        · subst e
          rw [hfx, List.all_eq_true]
          intro y hy
          obtain ⟨j', hj', rfl⟩ := mem_getD (d := l0) hy
          exact decide_eq_true (hP2 j' hj')
        · exact hP j (by omega)
  · have hd := of_decide_eq_false hd
    obtain rfl : k = l.length := by omega
    conv => whnf
    rw [(hln true).2 (List.all_eq_true.2 fun x hx => by obtain ⟨j, hj, rfl⟩ := mem_getD (d := i0) hx; exact hP j hj)]
    rfl

/-! ### The name that nobody uses -/
def uu : List UInt8 := [46, 46, 117, 110, 117, 115, 101, 100]
open Classical in
noncomputable def nmB (e : Exp) : Bool := decide (∃ x, Sub e x ∧ x.s = uu)
theorem nmB_iff {e : Exp} : nmB e = true ↔ ∃ x, Sub e x ∧ x.s = uu := by simp only [nmB, decide_eq_true_eq]
theorem nmB_arg {e a : Exp} (h : a ∈ e.args) (hn : nmB a = true) : nmB e = true := by
  obtain ⟨x, hx, h1⟩ := nmB_iff.1 hn
  exact nmB_iff.2 ⟨x, .arg h hx, h1⟩
theorem nmB_rest {e : Exp} (h : ∀ a ∈ e.args, nmB a = false) : nmB e = decide (e.s = uu) := by
  by_cases he : e.s = uu
  · rw [decide_eq_true he]
    exact nmB_iff.2 ⟨e, .refl e, he⟩
  · rw [decide_eq_false he]
    cases hb : nmB e with
    | false => rfl
    | true =>
      obtain ⟨x, hx, h1⟩ := nmB_iff.1 hb
      cases hx with
      | refl => exact absurd h1 he
      | arg ha ht =>
        have := h _ ha
        rw [nmB_iff.2 ⟨x, ht, h1⟩] at this
        cases this
theorem named_ok : ∀ (z : Nat) (e : Exp), SizeOf.sizeOf e ≤ z → OkE e → APureV Try.prog 28 [encE e] (.bool (nmB e)) := by
  intro z
  induction z using Nat.strongRecOn with
  | _ z ih =>
  intro e hz he
  have hal := argsE_len e
  have hlen := he.alen
  refine apure_of (C := cx 20 [0, 1, 2, 3, 8, 16]) (cxOk _ _) Try.func28 rfl (by decide) rfl (by exact Nat.le_of_ble_eq_true rfl) (by decide) ?_
  conv => whnf
  repeat (first | (refine And.intro ⟨by omega, by omega⟩ ?_; conv => whnf) | (refine And.intro (by omega) (And.intro rfl ?_); conv => whnf) | (refine And.intro rfl ?_; conv => whnf) | (refine And.intro (fun _ => ⟨by omega, by omega⟩) ?_; conv => whnf) | (refine And.intro (fun _ => by omega) (And.intro rfl ?_); conv => whnf) | (refine And.intro ⟨(by first | omega | (simp; omega)), (by first | omega | (simp; omega))⟩ ?_; conv => whnf) | (refine Exists.intro _ (And.intro rfl (And.intro (by first | omega | (simp; omega)) (And.intro ⟨rfl, rfl, rfl, rfl, rfl⟩ ?_))); conv => whnf) | (refine And.intro ⟨rfl, rfl⟩ (And.intro (by first | omega | (simp; omega)) ?_); conv => whnf) | (refine Exists.intro _ (And.intro rfl ?_); conv => whnf) | (refine And.intro (fun _ => ?_) (fun h => absurd h (by decide)); conv => whnf) | (refine And.intro (fun h => absurd h (by decide)) (fun _ => ?_); conv => whnf) | (refine .quiet (by kernel_rfl) ?_; conv => whnf))
  refine loop_up (cxOk _ _) e.args.length (fun k => ∀ j, j < k → nmB (e.args.getD j ex0) = false) (fun k => ⟨[(1, .ptr 0 0), (3, .int .i64 (k : Nat))], [(0, .cells 40 [.int .i64 e.op, .int .i64 e.n, .int .i64 e.unit, .str e.s, .lsl 5 (argsE e)])], 1⟩) (by intro j hj; omega) ((wk_of [(0, .id 0)] rfl ⟨.base (.ptr _ _ _ rfl), .base (.tree _ _ rfl rfl), trivial⟩ ⟨⟨_, rfl, .cells _ _ _ _ rfl (by repeat (first | exact .nil | refine .cons (by first | exact .base (.tree _ _ rfl rfl) | exact .base (.own _ _ rfl) | exact .base (.ptr _ _ _ rfl) | exact .base (.map _ _ rfl) | exact .base (.nilown _ rfl) | exact .fn _ _ _ _ _ .nil (by repeat (first | exact .nil | refine .cons (by exact .ptr _ _ _ rfl) ?_))) ?_)) rfl⟩, trivial⟩)) ?_
  intro k hk hP
  have hek : (k : Int).toNat = k := Int.toNat_natCast k
  conv => whnf
  repeat (first | (refine And.intro ⟨by omega, by omega⟩ ?_; conv => whnf) | (refine And.intro (by omega) (And.intro rfl ?_); conv => whnf) | (refine And.intro rfl ?_; conv => whnf) | (refine And.intro (fun _ => ⟨by omega, by omega⟩) ?_; conv => whnf) | (refine And.intro (fun _ => by omega) (And.intro rfl ?_); conv => whnf) | (refine And.intro ⟨(by first | omega | (simp; omega)), (by first | omega | (simp; omega))⟩ ?_; conv => whnf) | (refine Exists.intro _ (And.intro rfl (And.intro (by first | omega | (simp; omega)) (And.intro ⟨rfl, rfl, rfl, rfl, rfl⟩ ?_))); conv => whnf) | (refine And.intro ⟨rfl, rfl⟩ (And.intro (by first | omega | (simp; omega)) ?_); conv => whnf) | (refine Exists.intro _ (And.intro rfl ?_); conv => whnf) | (refine And.intro (fun _ => ?_) (fun h => absurd h (by decide)); conv => whnf) | (refine And.intro (fun h => absurd h (by decide)) (fun _ => ?_); conv => whnf) | (refine .quiet (by kernel_rfl) ?_; conv => whnf))
  refine ⟨fun hf => ?_, fun hf => ?_⟩
  · have hf := of_decide_eq_true hf
    have hlt : k < e.args.length := by omega
    have hmem : e.args.getD k ex0 ∈ e.args := getD_mem hlt
    have hget := argsE_get e hlt
    have hsz := args_lt e hmem
    have hih := ih _ (Nat.lt_of_lt_of_le hsz hz) _ (Nat.le_refl _) (he.arg _ hmem)
    have hyes := nmB_arg hmem
    generalize hb : nmB (e.args.getD k ex0) = b at *
    generalize hga : e.args.getD k ex0 = a at *
    conv => whnf
    repeat (first | (refine And.intro ⟨by omega, by omega⟩ ?_; conv => whnf) | (refine And.intro (by omega) (And.intro rfl ?_); conv => whnf) | (refine And.intro rfl ?_; conv => whnf) | (refine And.intro (fun _ => ⟨by omega, by omega⟩) ?_; conv => whnf) | (refine And.intro (fun _ => by omega) (And.intro rfl ?_); conv => whnf) | (refine And.intro ⟨(by first | omega | (simp; omega)), (by first | omega | (simp; omega))⟩ ?_; conv => whnf) | (refine Exists.intro _ (And.intro rfl (And.intro (by first | omega | (simp; omega)) (And.intro ⟨rfl, rfl, rfl, rfl, rfl⟩ ?_))); conv => whnf) | (refine And.intro ⟨rfl, rfl⟩ (And.intro (by first | omega | (simp; omega)) ?_); conv => whnf) | (refine Exists.intro _ (And.intro rfl ?_); conv => whnf) | (refine And.intro (fun _ => ?_) (fun h => absurd h (by decide)); conv => whnf) | (refine And.intro (fun h => absurd h (by decide)) (fun _ => ?_); conv => whnf) | (refine .quiet (by kernel_rfl) ?_; conv => whnf))
    rw [hek, hget]
    conv => whnf
    repeat (first | (refine And.intro ⟨by omega, by omega⟩ ?_; conv => whnf) | (refine And.intro (by omega) (And.intro rfl ?_); conv => whnf) | (refine And.intro rfl ?_; conv => whnf) | (refine And.intro (fun _ => ⟨by omega, by omega⟩) ?_; conv => whnf) | (refine And.intro (fun _ => by omega) (And.intro rfl ?_); conv => whnf) | (refine And.intro ⟨(by first | omega | (simp; omega)), (by first | omega | (simp; omega))⟩ ?_; conv => whnf) | (refine Exists.intro _ (And.intro rfl (And.intro (by first | omega | (simp; omega)) (And.intro ⟨rfl, rfl, rfl, rfl, rfl⟩ ?_))); conv => whnf) | (refine And.intro ⟨rfl, rfl⟩ (And.intro (by first | omega | (simp; omega)) ?_); conv => whnf) | (refine Exists.intro _ (And.intro rfl ?_); conv => whnf) | (refine And.intro (fun _ => ?_) (fun h => absurd h (by decide)); conv => whnf) | (refine And.intro (fun h => absurd h (by decide)) (fun _ => ?_); conv => whnf) | (refine .quiet (by kernel_rfl) ?_; conv => whnf))
    refine .one _ _ _ (fun _ => hih) (by repeat (first | exact .nil | (apply BorL.cons; first | exact lS rfl | exact lR rfl | exact lM rfl rfl | exact lL rfl | exact lX rfl | exact lN | exact lNl | exact lSm rfl | exact lIm rfl | exact lP rfl | exact lQ rfl | exact lB rfl rfl rfl))) (by first | exact .inl rfl | exact .inr (by repeat (first | exact flats_nil | refine flats_cons (by first | exact flat_val _ rfl | exact flat_row (fun _ => rfl) | exact flat_lst (fun _ => rfl)) ?_))) (by first | exact .inr rfl | exact .inl rfl) ?_
    conv => whnf
    refine ⟨fun hc => ?_, fun hc => ?_⟩
    · conv => whnf
      rw [hyes hc]
      rfl
    · conv => whnf
      repeat (first | (refine And.intro ⟨by omega, by omega⟩ ?_; conv => whnf) | (refine And.intro (by omega) (And.intro rfl ?_); conv => whnf) | (refine And.intro rfl ?_; conv => whnf) | (refine And.intro (fun _ => ⟨by omega, by omega⟩) ?_; conv => whnf) | (refine And.intro (fun _ => by omega) (And.intro rfl ?_); conv => whnf) | (refine And.intro ⟨(by first | omega | (simp; omega)), (by first | omega | (simp; omega))⟩ ?_; conv => whnf) | (refine Exists.intro _ (And.intro rfl (And.intro (by first | omega | (simp; omega)) (And.intro ⟨rfl, rfl, rfl, rfl, rfl⟩ ?_))); conv => whnf) | (refine And.intro ⟨rfl, rfl⟩ (And.intro (by first | omega | (simp; omega)) ?_); conv => whnf) | (refine Exists.intro _ (And.intro rfl ?_); conv => whnf) | (refine And.intro (fun _ => ?_) (fun h => absurd h (by decide)); conv => whnf) | (refine And.intro (fun h => absurd h (by decide)) (fun _ => ?_); conv => whnf) | (refine .quiet (by kernel_rfl) ?_; conv => whnf))
      refine up hlt (fun j hj => ?_) ((wk_of [(0, .id 0)] rfl ⟨.base (.ptr _ _ _ rfl), .base (.tree _ _ rfl rfl), trivial⟩ ⟨⟨_, rfl, .cells _ _ _ _ rfl (by repeat (first | exact .nil | refine .cons (by first | exact .base (.tree _ _ rfl rfl) | exact .base (.own _ _ rfl) | exact .base (.ptr _ _ _ rfl) | exact .base (.map _ _ rfl) | exact .base (.nilown _ rfl) | exact .fn _ _ _ _ _ .nil (by repeat (first | exact .nil | refine .cons (by exact .ptr _ _ _ rfl) ?_))) ?_)) rfl⟩, trivial⟩))
      by_cases e' : j = k
      · subst e'; rw [hga, hb]; exact hc
      · exact hP j (by omega)
  · have hf := of_decide_eq_false hf
    obtain rfl : k = e.args.length := by omega
    conv => whnf
    rw [nmB_rest fun a ha => by obtain ⟨j, hj, rfl⟩ := mem_getD (d := ex0) ha; exact hP j hj]
    rfl
noncomputable def unuX (x : Ind) : Bool := nmB x.coupon || x.lets.any fun l => nmB l.body
noncomputable def unuB (l : List Ind) : Bool := l.any unuX
theorem unused_ok (l : List Ind) (hl : l.length ≤ 9223372036854775807) (hx : ∀ x ∈ l, InX x) : APureV Try.prog 18 [encXs l] (.bool (unuB l)) := by
  refine apure_of (C := cx 37 [0, 2, 3, 4, 8, 16, 24, 36]) (cxOk _ _) Try.func18 rfl (by decide) rfl (by exact Nat.le_of_ble_eq_true rfl) (by decide) ?_
  conv => whnf
  refine loop_up (cxOk _ _) l.length (fun k => ∀ j, j < k → unuX (l.getD j i0) = false) (fun k => ⟨[(0, encXs l), (3, .int .i64 (k : Nat))], [], 0⟩) (by intro j hj; omega) ((wk_of [] rfl ⟨.base (.tree _ _ rfl rfl), .base (.tree _ _ rfl rfl), trivial⟩ trivial)) ?_
  intro k hk hP
  conv => whnf
  refine ⟨fun hd => ?_, fun hd => ?_⟩
  · have hd := of_decide_eq_true hd
    have hlt : k < l.length := by omega
    have hek : (k : Int).toNat = k := Int.toNat_natCast k
    have hmem : l.getD k i0 ∈ l := getD_mem hlt
    have hix := hx _ hmem
    have hil := hix.lets
    have hyes : unuX (l.getD k i0) = true → unuB l = true := fun h => List.any_eq_true.2 ⟨_, hmem, h⟩
    conv => whnf
    repeat (first | (refine And.intro ⟨by omega, by omega⟩ ?_; conv => whnf) | (refine And.intro (by omega) (And.intro rfl ?_); conv => whnf) | (refine And.intro rfl ?_; conv => whnf) | (refine And.intro (fun _ => ⟨by omega, by omega⟩) ?_; conv => whnf) | (refine And.intro (fun _ => by omega) (And.intro rfl ?_); conv => whnf) | (refine And.intro ⟨(by first | omega | (simp; omega)), (by first | omega | (simp; omega))⟩ ?_; conv => whnf) | (refine Exists.intro _ (And.intro rfl (And.intro (by first | omega | (simp; omega)) (And.intro ⟨rfl, rfl, rfl, rfl, rfl⟩ ?_))); conv => whnf) | (refine And.intro ⟨rfl, rfl⟩ (And.intro (by first | omega | (simp; omega)) ?_); conv => whnf) | (refine Exists.intro _ (And.intro rfl ?_); conv => whnf) | (refine And.intro (fun _ => ?_) (fun h => absurd h (by decide)); conv => whnf) | (refine And.intro (fun h => absurd h (by decide)) (fun _ => ?_); conv => whnf) | (refine .quiet (by kernel_rfl) ?_; conv => whnf))
    rw [hek]
    conv => whnf
    repeat (first | (refine And.intro ⟨by omega, by omega⟩ ?_; conv => whnf) | (refine And.intro (by omega) (And.intro rfl ?_); conv => whnf) | (refine And.intro rfl ?_; conv => whnf) | (refine And.intro (fun _ => ⟨by omega, by omega⟩) ?_; conv => whnf) | (refine And.intro (fun _ => by omega) (And.intro rfl ?_); conv => whnf) | (refine And.intro ⟨(by first | omega | (simp; omega)), (by first | omega | (simp; omega))⟩ ?_; conv => whnf) | (refine Exists.intro _ (And.intro rfl (And.intro (by first | omega | (simp; omega)) (And.intro ⟨rfl, rfl, rfl, rfl, rfl⟩ ?_))); conv => whnf) | (refine And.intro ⟨rfl, rfl⟩ (And.intro (by first | omega | (simp; omega)) ?_); conv => whnf) | (refine Exists.intro _ (And.intro rfl ?_); conv => whnf) | (refine And.intro (fun _ => ?_) (fun h => absurd h (by decide)); conv => whnf) | (refine And.intro (fun h => absurd h (by decide)) (fun _ => ?_); conv => whnf) | (refine .quiet (by kernel_rfl) ?_; conv => whnf))
    refine .one _ _ _ (fun _ => (named_ok _ (l.getD k i0).coupon (Nat.le_refl _) hix.coupon)) (by repeat (first | exact .nil | (apply BorL.cons; first | exact lS rfl | exact lR rfl | exact lM rfl rfl | exact lL rfl | exact lX rfl | exact lN | exact lNl | exact lSm rfl | exact lIm rfl | exact lP rfl | exact lQ rfl | exact lB rfl rfl rfl))) (by first | exact .inl rfl | exact .inr (by repeat (first | exact flats_nil | refine flats_cons (by first | exact flat_val _ rfl | exact flat_row (fun _ => rfl) | exact flat_lst (fun _ => rfl)) ?_))) (by first | exact .inr rfl | exact .inl rfl) ?_
    conv => whnf
    refine ⟨fun hc => ?_, fun hc => ?_⟩
    · conv => whnf
      rw [hyes (by unfold unuX; rw [hc]; rfl)]
      rfl
    · conv => whnf
      repeat (first | (refine And.intro ⟨by omega, by omega⟩ ?_; conv => whnf) | (refine And.intro (by omega) (And.intro rfl ?_); conv => whnf) | (refine And.intro rfl ?_; conv => whnf) | (refine And.intro (fun _ => ⟨by omega, by omega⟩) ?_; conv => whnf) | (refine And.intro (fun _ => by omega) (And.intro rfl ?_); conv => whnf) | (refine And.intro ⟨(by first | omega | (simp; omega)), (by first | omega | (simp; omega))⟩ ?_; conv => whnf) | (refine Exists.intro _ (And.intro rfl (And.intro (by first | omega | (simp; omega)) (And.intro ⟨rfl, rfl, rfl, rfl, rfl⟩ ?_))); conv => whnf) | (refine And.intro ⟨rfl, rfl⟩ (And.intro (by first | omega | (simp; omega)) ?_); conv => whnf) | (refine Exists.intro _ (And.intro rfl ?_); conv => whnf) | (refine And.intro (fun _ => ?_) (fun h => absurd h (by decide)); conv => whnf) | (refine And.intro (fun h => absurd h (by decide)) (fun _ => ?_); conv => whnf) | (refine .quiet (by kernel_rfl) ?_; conv => whnf))
      refine loop_up (cxOk _ _) (l.getD k i0).lets.length (fun m => ∀ j, j < m → nmB ((l.getD k i0).lets.getD j l0).body = false) (fun m => ⟨[(0, encXs l), (3, .int .i64 (k : Nat)), (4, .int .i64 (m : Nat))], [], 0⟩) (by intro j hj; omega) ((wk_of [] rfl ⟨.base (.tree _ _ rfl rfl), .base (.tree _ _ rfl rfl), .base (.tree _ _ rfl rfl), trivial⟩ trivial)) ?_
      intro m hm hP2
      conv => whnf
      repeat (first | (refine And.intro ⟨by omega, by omega⟩ ?_; conv => whnf) | (refine And.intro (by omega) (And.intro rfl ?_); conv => whnf) | (refine And.intro rfl ?_; conv => whnf) | (refine And.intro (fun _ => ⟨by omega, by omega⟩) ?_; conv => whnf) | (refine And.intro (fun _ => by omega) (And.intro rfl ?_); conv => whnf) | (refine And.intro ⟨(by first | omega | (simp; omega)), (by first | omega | (simp; omega))⟩ ?_; conv => whnf) | (refine Exists.intro _ (And.intro rfl (And.intro (by first | omega | (simp; omega)) (And.intro ⟨rfl, rfl, rfl, rfl, rfl⟩ ?_))); conv => whnf) | (refine And.intro ⟨rfl, rfl⟩ (And.intro (by first | omega | (simp; omega)) ?_); conv => whnf) | (refine Exists.intro _ (And.intro rfl ?_); conv => whnf) | (refine And.intro (fun _ => ?_) (fun h => absurd h (by decide)); conv => whnf) | (refine And.intro (fun h => absurd h (by decide)) (fun _ => ?_); conv => whnf) | (refine .quiet (by kernel_rfl) ?_; conv => whnf))
      rw [hek]
      conv => whnf
      refine ⟨fun hg => ?_, fun hg => ?_⟩
      · have hg := of_decide_eq_true hg
        have hlm : m < (l.getD k i0).lets.length := by omega
        have hem : (m : Int).toNat = m := Int.toNat_natCast m
        have hmem2 : (l.getD k i0).lets.getD m l0 ∈ (l.getD k i0).lets := getD_mem hlm
        have hbo := hix.body _ hmem2
        conv => whnf
        repeat (first | (refine And.intro ⟨by omega, by omega⟩ ?_; conv => whnf) | (refine And.intro (by omega) (And.intro rfl ?_); conv => whnf) | (refine And.intro rfl ?_; conv => whnf) | (refine And.intro (fun _ => ⟨by omega, by omega⟩) ?_; conv => whnf) | (refine And.intro (fun _ => by omega) (And.intro rfl ?_); conv => whnf) | (refine And.intro ⟨(by first | omega | (simp; omega)), (by first | omega | (simp; omega))⟩ ?_; conv => whnf) | (refine Exists.intro _ (And.intro rfl (And.intro (by first | omega | (simp; omega)) (And.intro ⟨rfl, rfl, rfl, rfl, rfl⟩ ?_))); conv => whnf) | (refine And.intro ⟨rfl, rfl⟩ (And.intro (by first | omega | (simp; omega)) ?_); conv => whnf) | (refine Exists.intro _ (And.intro rfl ?_); conv => whnf) | (refine And.intro (fun _ => ?_) (fun h => absurd h (by decide)); conv => whnf) | (refine And.intro (fun h => absurd h (by decide)) (fun _ => ?_); conv => whnf) | (refine .quiet (by kernel_rfl) ?_; conv => whnf))
        rw [hek]
        conv => whnf
        repeat (first | (refine And.intro ⟨by omega, by omega⟩ ?_; conv => whnf) | (refine And.intro (by omega) (And.intro rfl ?_); conv => whnf) | (refine And.intro rfl ?_; conv => whnf) | (refine And.intro (fun _ => ⟨by omega, by omega⟩) ?_; conv => whnf) | (refine And.intro (fun _ => by omega) (And.intro rfl ?_); conv => whnf) | (refine And.intro ⟨(by first | omega | (simp; omega)), (by first | omega | (simp; omega))⟩ ?_; conv => whnf) | (refine Exists.intro _ (And.intro rfl (And.intro (by first | omega | (simp; omega)) (And.intro ⟨rfl, rfl, rfl, rfl, rfl⟩ ?_))); conv => whnf) | (refine And.intro ⟨rfl, rfl⟩ (And.intro (by first | omega | (simp; omega)) ?_); conv => whnf) | (refine Exists.intro _ (And.intro rfl ?_); conv => whnf) | (refine And.intro (fun _ => ?_) (fun h => absurd h (by decide)); conv => whnf) | (refine And.intro (fun h => absurd h (by decide)) (fun _ => ?_); conv => whnf) | (refine .quiet (by kernel_rfl) ?_; conv => whnf))
        rw [hem]
        conv => whnf
        repeat (first | (refine And.intro ⟨by omega, by omega⟩ ?_; conv => whnf) | (refine And.intro (by omega) (And.intro rfl ?_); conv => whnf) | (refine And.intro rfl ?_; conv => whnf) | (refine And.intro (fun _ => ⟨by omega, by omega⟩) ?_; conv => whnf) | (refine And.intro (fun _ => by omega) (And.intro rfl ?_); conv => whnf) | (refine And.intro ⟨(by first | omega | (simp; omega)), (by first | omega | (simp; omega))⟩ ?_; conv => whnf) | (refine Exists.intro _ (And.intro rfl (And.intro (by first | omega | (simp; omega)) (And.intro ⟨rfl, rfl, rfl, rfl, rfl⟩ ?_))); conv => whnf) | (refine And.intro ⟨rfl, rfl⟩ (And.intro (by first | omega | (simp; omega)) ?_); conv => whnf) | (refine Exists.intro _ (And.intro rfl ?_); conv => whnf) | (refine And.intro (fun _ => ?_) (fun h => absurd h (by decide)); conv => whnf) | (refine And.intro (fun h => absurd h (by decide)) (fun _ => ?_); conv => whnf) | (refine .quiet (by kernel_rfl) ?_; conv => whnf))
        refine .one _ _ _ (fun _ => (named_ok _ ((l.getD k i0).lets.getD m l0).body (Nat.le_refl _) hbo)) (by repeat (first | exact .nil | (apply BorL.cons; first | exact lS rfl | exact lR rfl | exact lM rfl rfl | exact lL rfl | exact lX rfl | exact lN | exact lNl | exact lSm rfl | exact lIm rfl | exact lP rfl | exact lQ rfl | exact lB rfl rfl rfl))) (by first | exact .inl rfl | exact .inr (by repeat (first | exact flats_nil | refine flats_cons (by first | exact flat_val _ rfl | exact flat_row (fun _ => rfl) | exact flat_lst (fun _ => rfl)) ?_))) (by first | exact .inr rfl | exact .inl rfl) ?_
        conv => whnf
        refine ⟨fun hh => ?_, fun hh => ?_⟩
        · conv => whnf
          rw [hyes (by unfold unuX; rw [List.any_eq_true.2 ⟨_, hmem2, hh⟩, Bool.or_true])]
          rfl
        · conv => whnf
          repeat (first | (refine And.intro ⟨by omega, by omega⟩ ?_; conv => whnf) | (refine And.intro (by omega) (And.intro rfl ?_); conv => whnf) | (refine And.intro rfl ?_; conv => whnf) | (refine And.intro (fun _ => ⟨by omega, by omega⟩) ?_; conv => whnf) | (refine And.intro (fun _ => by omega) (And.intro rfl ?_); conv => whnf) | (refine And.intro ⟨(by first | omega | (simp; omega)), (by first | omega | (simp; omega))⟩ ?_; conv => whnf) | (refine Exists.intro _ (And.intro rfl (And.intro (by first | omega | (simp; omega)) (And.intro ⟨rfl, rfl, rfl, rfl, rfl⟩ ?_))); conv => whnf) | (refine And.intro ⟨rfl, rfl⟩ (And.intro (by first | omega | (simp; omega)) ?_); conv => whnf) | (refine Exists.intro _ (And.intro rfl ?_); conv => whnf) | (refine And.intro (fun _ => ?_) (fun h => absurd h (by decide)); conv => whnf) | (refine And.intro (fun h => absurd h (by decide)) (fun _ => ?_); conv => whnf) | (refine .quiet (by kernel_rfl) ?_; conv => whnf))
          refine up hlm (fun j hj => ?_) ((wk_of [] rfl ⟨.base (.tree _ _ rfl rfl), .base (.tree _ _ rfl rfl), .base (.tree _ _ rfl rfl), trivial⟩ trivial))
          by_cases e : j = m
          · subst e; exact hh
          · exact hP2 j (by omega)
      · have hg := of_decide_eq_false hg
        obtain rfl : m = (l.getD k i0).lets.length := by omega
        conv => whnf
        repeat (first | (refine And.intro ⟨by omega, by omega⟩ ?_; conv => whnf) | (refine And.intro (by omega) (And.intro rfl ?_); conv => whnf) | (refine And.intro rfl ?_; conv => whnf) | (refine And.intro (fun _ => ⟨by omega, by omega⟩) ?_; conv => whnf) | (refine And.intro (fun _ => by omega) (And.intro rfl ?_); conv => whnf) | (refine And.intro ⟨(by first | omega | (simp; omega)), (by first | omega | (simp; omega))⟩ ?_; conv => whnf) | (refine Exists.intro _ (And.intro rfl (And.intro (by first | omega | (simp; omega)) (And.intro ⟨rfl, rfl, rfl, rfl, rfl⟩ ?_))); conv => whnf) | (refine And.intro ⟨rfl, rfl⟩ (And.intro (by first | omega | (simp; omega)) ?_); conv => whnf) | (refine Exists.intro _ (And.intro rfl ?_); conv => whnf) | (refine And.intro (fun _ => ?_) (fun h => absurd h (by decide)); conv => whnf) | (refine And.intro (fun h => absurd h (by decide)) (fun _ => ?_); conv => whnf) | (refine .quiet (by kernel_rfl) ?_; conv => whnf))
        refine up hlt (fun j hj => ?_) ((wk_of [] rfl ⟨.base (.tree _ _ rfl rfl), .base (.tree _ _ rfl rfl), trivial⟩ trivial))
        by_cases e : j = k
        · subst e
          unfold unuX
          rw [hc, Bool.false_or, List.any_eq_false]
          intro y hy
          obtain ⟨j', hj', rfl⟩ := mem_getD (d := l0) hy
          rw [hP2 j' hj']
          decide
        · exact hP j (by omega)
  · have hd := of_decide_eq_false hd
    obtain rfl : k = l.length := by omega
    have hfin : unuB l = false := List.any_eq_false.2 fun x hx => by
      obtain ⟨j, hj, rfl⟩ := mem_getD (d := i0) hx
      rw [hP j hj]
      decide
    conv => whnf
    rw [hfin]
    rfl

end Go.Proofs.Ytmcgfkkagijcmaa

namespace Go.Proofs.Ytmcgfkkagijcmaa
open Go.Own
set_option maxHeartbeats 4000000
set_option maxRecDepth 100000

theorem LeT.nils_lsl (E : Nat) : LeT .nils (.lsl E []) := fun S w v h => by
  cases h
  exact .lslnil E
theorem LeT.agg {l r : List AV} (h : LeTs l r) : LeT (.agg l) (.agg r) := fun S w v hr => by
  cases hr with
  | agg cs l hl hh =>
    refine .agg cs r (by rw [hl, h.len]) fun j c b hc hb => ?_
    obtain ⟨a, ha, hab⟩ := h.get hb
    exact hab S w c (hh j c a hc ha)
theorem apure_args [Tabs] {P : Program} {f : FuncId} {args args' : List AV} {R : List AR → Prop} (h : APure P f args R) (hl : LeTs args' args) : APure P f args' R :=
  ⟨h.1, fun S w vs hS hT hv => h.2 S w vs hS hT ⟨hv.1.trans hl.len.symm, fun j v a hj ha => by
    obtain ⟨b, hb, hba⟩ := hl.get ha
    exact hba S w v (hv.2 j v b hj hb)⟩⟩
def rawE (o n u : Int) (s : List UInt8) : AV := .agg [.int .i64 o, .int .i64 n, .int .i64 u, .str s, .nils]
theorem rawE_le (o n u : Int) (s : List UInt8) : LeT (rawE o n u s) (encE (.mk o n u s [])) := LeT.agg (.cons (.refl _) (.cons (.refl _) (.cons (.refl _) (.cons (.refl _) (.cons (LeT.nils_lsl 5) .nil)))))
def rateE (s : List UInt8) : Exp := .mk 3 0 0 s []
def bothE (op : Int) (a b : Exp) : Exp := .mk op 0 0 [] [a, b]
theorem rate_ok (s : List UInt8) : APureV Try.prog 29 [.str s] (encE (rateE s)) := by
  refine APure.leT (a := .agg [.int .i64 3, .int .i64 0, .int .i64 0, .str s, .nils]) ?_ (LeT.agg (.cons (.refl _) (.cons (.refl _) (.cons (.refl _) (.cons (.refl _) (.cons (LeT.nils_lsl 5) .nil))))))
  refine apure_of (C := cx 5 [0, 2]) (cxOk _ _) Try.func29 rfl (by decide) rfl (by exact Nat.le_of_ble_eq_true rfl) (by decide) ?_
  conv => whnf
  repeat (first | (refine And.intro ⟨by omega, by omega⟩ ?_; conv => whnf) | (refine And.intro (by omega) (And.intro rfl ?_); conv => whnf) | (refine And.intro rfl ?_; conv => whnf) | (refine And.intro (fun _ => ⟨by omega, by omega⟩) ?_; conv => whnf) | (refine And.intro (fun _ => by omega) (And.intro rfl ?_); conv => whnf) | (refine And.intro ⟨(by first | omega | (simp; omega)), (by first | omega | (simp; omega))⟩ ?_; conv => whnf) | (refine Exists.intro _ (And.intro rfl (And.intro (by first | omega | (simp; omega)) (And.intro ⟨rfl, rfl, rfl, rfl, rfl⟩ ?_))); conv => whnf) | (refine And.intro ⟨rfl, rfl⟩ (And.intro (by first | omega | (simp; omega)) ?_); conv => whnf) | (refine Exists.intro _ (And.intro rfl ?_); conv => whnf) | (refine And.intro (fun _ => ?_) (fun h => absurd h (by decide)); conv => whnf) | (refine And.intro (fun h => absurd h (by decide)) (fun _ => ?_); conv => whnf) | (refine .quiet (by kernel_rfl) ?_; conv => whnf))
  rfl
theorem both_ok (op : Int) (a b : Exp) : APureV Try.prog 17 [.int .i64 op, encE a, encE b] (encE (bothE op a b)) := by
  have he : encE (bothE op a b) = .agg [.int .i64 op, .int .i64 0, .int .i64 0, .str [], .lsl 5 [encE a, encE b]] := by
    show AV.agg [_, _, _, _, .lsl 5 (argsE _)] = _
    rw [argsE_eq]
    rfl
  rw [he]
  refine apure_ofw (C := cx 12 [0, 1, 2, 4, 5, 6]) (cxOk _ _) Try.func17 rfl (by decide) rfl (by exact Nat.le_of_ble_eq_true rfl) (by decide) ?_
  conv => whnf
  repeat (first | (refine And.intro ⟨by omega, by omega⟩ ?_; conv => whnf) | (refine And.intro (by omega) (And.intro rfl ?_); conv => whnf) | (refine And.intro rfl ?_; conv => whnf) | (refine And.intro (fun _ => ⟨by omega, by omega⟩) ?_; conv => whnf) | (refine And.intro (fun _ => by omega) (And.intro rfl ?_); conv => whnf) | (refine And.intro ⟨(by first | omega | (simp; omega)), (by first | omega | (simp; omega))⟩ ?_; conv => whnf) | (refine Exists.intro _ (And.intro rfl (And.intro (by first | omega | (simp; omega)) (And.intro ⟨rfl, rfl, rfl, rfl, rfl⟩ ?_))); conv => whnf) | (refine And.intro ⟨rfl, rfl⟩ (And.intro (by first | omega | (simp; omega)) ?_); conv => whnf) | (refine Exists.intro _ (And.intro rfl ?_); conv => whnf) | (refine And.intro (fun _ => ?_) (fun h => absurd h (by decide)); conv => whnf) | (refine And.intro (fun h => absurd h (by decide)) (fun _ => ?_); conv => whnf) | (refine .quiet (by kernel_rfl) ?_; conv => whnf))
  refine ⟨_, wk_frz [3], ?_⟩
  conv => whnf
  rfl
def issA (n : List UInt8) (lets c : AV) (o k u : Int) (s : List UInt8) : AV := .agg [.str n, .str [], .int .i64 0, .int .i64 0, .int .i64 0, .int .i64 0, .int .i64 0, .int .i64 0, .int .i64 0, .int .i64 0, lets, .int .i64 o, .int .i64 k, .int .i64 u, .str s, c, .int .i64 0, .nils, .nils, .int .i64 0, .nils, .int .i64 0, .int .i64 0, .int .i64 0, .int .i64 0]
def mkI (n : List UInt8) (lets : List LetE) (c : Exp) : Ind := ⟨n, [], 0, 0, 0, 0, 0, 0, 0, 0, lets, c, 0, [], [], 0, [], 0, 0, 0, 0⟩
def smp : List Ind := [mkI [97] [] (.mk 0 30 2 [] []), mkI [98] [] (bothE 4 (rateE [97]) (rateE [99])), mkI [99] [] (bothE 9 (rateE [98]) (.mk 0 10 2 [] [])), mkI [100] [⟨[120], rateE [97]⟩] (bothE 4 (.mk 1 0 0 [120] []) (rateE [101])), mkI [101] [] (rateE [101])]
def smpA : List AV := [issA [97] .nils .nils 0 30 2 [], issA [98] .nils (.lsl 5 (argsE (bothE 4 (rateE [97]) (rateE [99])))) 4 0 0 [], issA [99] .nils (.lsl 5 (argsE (bothE 9 (rateE [98]) (.mk 0 10 2 [] [])))) 9 0 0 [],
  issA [100] (.lsl 6 [encL ⟨[120], rateE [97]⟩]) (.lsl 5 (argsE (bothE 4 (.mk 1 0 0 [120] []) (rateE [101])))) 4 0 0 [], issA [101] .nils (.lsl 5 (argsE (rateE [101]))) 3 0 0 [101]]
theorem sample_raw : APure Try.prog 19 [] (fun rs => rs = [.new (.lst 45 25 smpA)]) := by
  refine apure_of (C := cx 21 [0]) (cxOk _ _) Try.func19 rfl (by decide) rfl (by exact Nat.le_of_ble_eq_true rfl) (by decide) ?_
  conv => whnf
  refine .one _ _ _ (fun _ => (rate_ok [97])) (by repeat (first | exact .nil | (apply BorL.cons; first | exact lS rfl | exact lR rfl | exact lM rfl rfl | exact lL rfl | exact lX rfl | exact lN | exact lNl | exact lSm rfl | exact lIm rfl | exact lP rfl | exact lQ rfl | exact lB rfl rfl rfl))) (by first | exact .inl rfl | exact .inr (by repeat (first | exact flats_nil | refine flats_cons (by first | exact flat_val _ rfl | exact flat_row (fun _ => rfl) | exact flat_lst (fun _ => rfl)) ?_))) (by first | exact .inr rfl | exact .inl rfl) ?_
  conv => whnf
  refine .one _ _ _ (fun _ => (rate_ok [99])) (by repeat (first | exact .nil | (apply BorL.cons; first | exact lS rfl | exact lR rfl | exact lM rfl rfl | exact lL rfl | exact lX rfl | exact lN | exact lNl | exact lSm rfl | exact lIm rfl | exact lP rfl | exact lQ rfl | exact lB rfl rfl rfl))) (by first | exact .inl rfl | exact .inr (by repeat (first | exact flats_nil | refine flats_cons (by first | exact flat_val _ rfl | exact flat_row (fun _ => rfl) | exact flat_lst (fun _ => rfl)) ?_))) (by first | exact .inr rfl | exact .inl rfl) ?_
  conv => whnf
  refine .one _ _ _ (fun _ => (both_ok 4 (rateE [97]) (rateE [99]))) (by repeat (first | exact .nil | (apply BorL.cons; first | exact lS rfl | exact lR rfl | exact lM rfl rfl | exact lL rfl | exact lX rfl | exact lN | exact lNl | exact lSm rfl | exact lIm rfl | exact lP rfl | exact lQ rfl | exact lB rfl rfl rfl))) (by first | exact .inl rfl | exact .inr (by repeat (first | exact flats_nil | refine flats_cons (by first | exact flat_val _ rfl | exact flat_row (fun _ => rfl) | exact flat_lst (fun _ => rfl)) ?_))) (by first | exact .inr rfl | exact .inl rfl) ?_
  conv => whnf
  repeat (first | (refine And.intro ⟨by omega, by omega⟩ ?_; conv => whnf) | (refine And.intro (by omega) (And.intro rfl ?_); conv => whnf) | (refine And.intro rfl ?_; conv => whnf) | (refine And.intro (fun _ => ⟨by omega, by omega⟩) ?_; conv => whnf) | (refine And.intro (fun _ => by omega) (And.intro rfl ?_); conv => whnf) | (refine And.intro ⟨(by first | omega | (simp; omega)), (by first | omega | (simp; omega))⟩ ?_; conv => whnf) | (refine Exists.intro _ (And.intro rfl (And.intro (by first | omega | (simp; omega)) (And.intro ⟨rfl, rfl, rfl, rfl, rfl⟩ ?_))); conv => whnf) | (refine And.intro ⟨rfl, rfl⟩ (And.intro (by first | omega | (simp; omega)) ?_); conv => whnf) | (refine Exists.intro _ (And.intro rfl ?_); conv => whnf) | (refine And.intro (fun _ => ?_) (fun h => absurd h (by decide)); conv => whnf) | (refine And.intro (fun h => absurd h (by decide)) (fun _ => ?_); conv => whnf) | (refine .quiet (by kernel_rfl) ?_; conv => whnf))
  refine .one _ _ _ (fun _ => (rate_ok [98])) (by repeat (first | exact .nil | (apply BorL.cons; first | exact lS rfl | exact lR rfl | exact lM rfl rfl | exact lL rfl | exact lX rfl | exact lN | exact lNl | exact lSm rfl | exact lIm rfl | exact lP rfl | exact lQ rfl | exact lB rfl rfl rfl))) (by first | exact .inl rfl | exact .inr (by repeat (first | exact flats_nil | refine flats_cons (by first | exact flat_val _ rfl | exact flat_row (fun _ => rfl) | exact flat_lst (fun _ => rfl)) ?_))) (by first | exact .inr rfl | exact .inl rfl) ?_
  conv => whnf
  repeat (first | (refine And.intro ⟨by omega, by omega⟩ ?_; conv => whnf) | (refine And.intro (by omega) (And.intro rfl ?_); conv => whnf) | (refine And.intro rfl ?_; conv => whnf) | (refine And.intro (fun _ => ⟨by omega, by omega⟩) ?_; conv => whnf) | (refine And.intro (fun _ => by omega) (And.intro rfl ?_); conv => whnf) | (refine And.intro ⟨(by first | omega | (simp; omega)), (by first | omega | (simp; omega))⟩ ?_; conv => whnf) | (refine Exists.intro _ (And.intro rfl (And.intro (by first | omega | (simp; omega)) (And.intro ⟨rfl, rfl, rfl, rfl, rfl⟩ ?_))); conv => whnf) | (refine And.intro ⟨rfl, rfl⟩ (And.intro (by first | omega | (simp; omega)) ?_); conv => whnf) | (refine Exists.intro _ (And.intro rfl ?_); conv => whnf) | (refine And.intro (fun _ => ?_) (fun h => absurd h (by decide)); conv => whnf) | (refine And.intro (fun h => absurd h (by decide)) (fun _ => ?_); conv => whnf) | (refine .quiet (by kernel_rfl) ?_; conv => whnf))
  refine .one _ _ _ (fun _ => (apure_args (both_ok 9 (rateE [98]) (.mk 0 10 2 [] [])) (.cons (.refl _) (.cons (.refl _) (.cons (rawE_le 0 10 2 []) .nil))))) (by repeat (first | exact .nil | (apply BorL.cons; first | exact lS rfl | exact lR rfl | exact lM rfl rfl | exact lL rfl | exact lX rfl | exact lN | exact lNl | exact lSm rfl | exact lIm rfl | exact lP rfl | exact lQ rfl | exact lB rfl rfl rfl))) (by first | exact .inl rfl | exact .inr (by repeat (first | exact flats_nil | refine flats_cons (by first | exact flat_val _ rfl | exact flat_row (fun _ => rfl) | exact flat_lst (fun _ => rfl)) ?_))) (by first | exact .inr rfl | exact .inl rfl) ?_
  conv => whnf
  repeat (first | (refine And.intro ⟨by omega, by omega⟩ ?_; conv => whnf) | (refine And.intro (by omega) (And.intro rfl ?_); conv => whnf) | (refine And.intro rfl ?_; conv => whnf) | (refine And.intro (fun _ => ⟨by omega, by omega⟩) ?_; conv => whnf) | (refine And.intro (fun _ => by omega) (And.intro rfl ?_); conv => whnf) | (refine And.intro ⟨(by first | omega | (simp; omega)), (by first | omega | (simp; omega))⟩ ?_; conv => whnf) | (refine Exists.intro _ (And.intro rfl (And.intro (by first | omega | (simp; omega)) (And.intro ⟨rfl, rfl, rfl, rfl, rfl⟩ ?_))); conv => whnf) | (refine And.intro ⟨rfl, rfl⟩ (And.intro (by first | omega | (simp; omega)) ?_); conv => whnf) | (refine Exists.intro _ (And.intro rfl ?_); conv => whnf) | (refine And.intro (fun _ => ?_) (fun h => absurd h (by decide)); conv => whnf) | (refine And.intro (fun h => absurd h (by decide)) (fun _ => ?_); conv => whnf) | (refine .quiet (by kernel_rfl) ?_; conv => whnf))
  refine .one _ _ _ (fun _ => (rate_ok [97])) (by repeat (first | exact .nil | (apply BorL.cons; first | exact lS rfl | exact lR rfl | exact lM rfl rfl | exact lL rfl | exact lX rfl | exact lN | exact lNl | exact lSm rfl | exact lIm rfl | exact lP rfl | exact lQ rfl | exact lB rfl rfl rfl))) (by first | exact .inl rfl | exact .inr (by repeat (first | exact flats_nil | refine flats_cons (by first | exact flat_val _ rfl | exact flat_row (fun _ => rfl) | exact flat_lst (fun _ => rfl)) ?_))) (by first | exact .inr rfl | exact .inl rfl) ?_
  conv => whnf
  repeat (first | (refine And.intro ⟨by omega, by omega⟩ ?_; conv => whnf) | (refine And.intro (by omega) (And.intro rfl ?_); conv => whnf) | (refine And.intro rfl ?_; conv => whnf) | (refine And.intro (fun _ => ⟨by omega, by omega⟩) ?_; conv => whnf) | (refine And.intro (fun _ => by omega) (And.intro rfl ?_); conv => whnf) | (refine And.intro ⟨(by first | omega | (simp; omega)), (by first | omega | (simp; omega))⟩ ?_; conv => whnf) | (refine Exists.intro _ (And.intro rfl (And.intro (by first | omega | (simp; omega)) (And.intro ⟨rfl, rfl, rfl, rfl, rfl⟩ ?_))); conv => whnf) | (refine And.intro ⟨rfl, rfl⟩ (And.intro (by first | omega | (simp; omega)) ?_); conv => whnf) | (refine Exists.intro _ (And.intro rfl ?_); conv => whnf) | (refine And.intro (fun _ => ?_) (fun h => absurd h (by decide)); conv => whnf) | (refine And.intro (fun h => absurd h (by decide)) (fun _ => ?_); conv => whnf) | (refine .quiet (by kernel_rfl) ?_; conv => whnf))
  refine .one _ _ _ (fun _ => (rate_ok [101])) (by repeat (first | exact .nil | (apply BorL.cons; first | exact lS rfl | exact lR rfl | exact lM rfl rfl | exact lL rfl | exact lX rfl | exact lN | exact lNl | exact lSm rfl | exact lIm rfl | exact lP rfl | exact lQ rfl | exact lB rfl rfl rfl))) (by first | exact .inl rfl | exact .inr (by repeat (first | exact flats_nil | refine flats_cons (by first | exact flat_val _ rfl | exact flat_row (fun _ => rfl) | exact flat_lst (fun _ => rfl)) ?_))) (by first | exact .inr rfl | exact .inl rfl) ?_
  conv => whnf
  repeat (first | (refine And.intro ⟨by omega, by omega⟩ ?_; conv => whnf) | (refine And.intro (by omega) (And.intro rfl ?_); conv => whnf) | (refine And.intro rfl ?_; conv => whnf) | (refine And.intro (fun _ => ⟨by omega, by omega⟩) ?_; conv => whnf) | (refine And.intro (fun _ => by omega) (And.intro rfl ?_); conv => whnf) | (refine And.intro ⟨(by first | omega | (simp; omega)), (by first | omega | (simp; omega))⟩ ?_; conv => whnf) | (refine Exists.intro _ (And.intro rfl (And.intro (by first | omega | (simp; omega)) (And.intro ⟨rfl, rfl, rfl, rfl, rfl⟩ ?_))); conv => whnf) | (refine And.intro ⟨rfl, rfl⟩ (And.intro (by first | omega | (simp; omega)) ?_); conv => whnf) | (refine Exists.intro _ (And.intro rfl ?_); conv => whnf) | (refine And.intro (fun _ => ?_) (fun h => absurd h (by decide)); conv => whnf) | (refine And.intro (fun h => absurd h (by decide)) (fun _ => ?_); conv => whnf) | (refine .quiet (by kernel_rfl) ?_; conv => whnf))
  refine .one _ _ _ (fun _ => (apure_args (both_ok 4 (.mk 1 0 0 [120] []) (rateE [101])) (.cons (.refl _) (.cons (rawE_le 1 0 0 [120]) (.cons (.refl _) .nil))))) (by repeat (first | exact .nil | (apply BorL.cons; first | exact lS rfl | exact lR rfl | exact lM rfl rfl | exact lL rfl | exact lX rfl | exact lN | exact lNl | exact lSm rfl | exact lIm rfl | exact lP rfl | exact lQ rfl | exact lB rfl rfl rfl))) (by first | exact .inl rfl | exact .inr (by repeat (first | exact flats_nil | refine flats_cons (by first | exact flat_val _ rfl | exact flat_row (fun _ => rfl) | exact flat_lst (fun _ => rfl)) ?_))) (by first | exact .inr rfl | exact .inl rfl) ?_
  conv => whnf
  repeat (first | (refine And.intro ⟨by omega, by omega⟩ ?_; conv => whnf) | (refine And.intro (by omega) (And.intro rfl ?_); conv => whnf) | (refine And.intro rfl ?_; conv => whnf) | (refine And.intro (fun _ => ⟨by omega, by omega⟩) ?_; conv => whnf) | (refine And.intro (fun _ => by omega) (And.intro rfl ?_); conv => whnf) | (refine And.intro ⟨(by first | omega | (simp; omega)), (by first | omega | (simp; omega))⟩ ?_; conv => whnf) | (refine Exists.intro _ (And.intro rfl (And.intro (by first | omega | (simp; omega)) (And.intro ⟨rfl, rfl, rfl, rfl, rfl⟩ ?_))); conv => whnf) | (refine And.intro ⟨rfl, rfl⟩ (And.intro (by first | omega | (simp; omega)) ?_); conv => whnf) | (refine Exists.intro _ (And.intro rfl ?_); conv => whnf) | (refine And.intro (fun _ => ?_) (fun h => absurd h (by decide)); conv => whnf) | (refine And.intro (fun h => absurd h (by decide)) (fun _ => ?_); conv => whnf) | (refine .quiet (by kernel_rfl) ?_; conv => whnf))
  refine .one _ _ _ (fun _ => (rate_ok [101])) (by repeat (first | exact .nil | (apply BorL.cons; first | exact lS rfl | exact lR rfl | exact lM rfl rfl | exact lL rfl | exact lX rfl | exact lN | exact lNl | exact lSm rfl | exact lIm rfl | exact lP rfl | exact lQ rfl | exact lB rfl rfl rfl))) (by first | exact .inl rfl | exact .inr (by repeat (first | exact flats_nil | refine flats_cons (by first | exact flat_val _ rfl | exact flat_row (fun _ => rfl) | exact flat_lst (fun _ => rfl)) ?_))) (by first | exact .inr rfl | exact .inl rfl) ?_
  conv => whnf
  repeat (first | (refine And.intro ⟨by omega, by omega⟩ ?_; conv => whnf) | (refine And.intro (by omega) (And.intro rfl ?_); conv => whnf) | (refine And.intro rfl ?_; conv => whnf) | (refine And.intro (fun _ => ⟨by omega, by omega⟩) ?_; conv => whnf) | (refine And.intro (fun _ => by omega) (And.intro rfl ?_); conv => whnf) | (refine And.intro ⟨(by first | omega | (simp; omega)), (by first | omega | (simp; omega))⟩ ?_; conv => whnf) | (refine Exists.intro _ (And.intro rfl (And.intro (by first | omega | (simp; omega)) (And.intro ⟨rfl, rfl, rfl, rfl, rfl⟩ ?_))); conv => whnf) | (refine And.intro ⟨rfl, rfl⟩ (And.intro (by first | omega | (simp; omega)) ?_); conv => whnf) | (refine Exists.intro _ (And.intro rfl ?_); conv => whnf) | (refine And.intro (fun _ => ?_) (fun h => absurd h (by decide)); conv => whnf) | (refine And.intro (fun h => absurd h (by decide)) (fun _ => ?_); conv => whnf) | (refine .quiet (by kernel_rfl) ?_; conv => whnf))
  rfl

theorem flat_ones {X : Type} {enc : X → AV} {L : List X} (h : ∀ x ∈ L, ∀ a ∈ (enc x).cells, a.one = true) : ∀ a ∈ flat (L.map enc), a.one = true := fun a ha => by
  obtain ⟨x, hx, hax⟩ := List.mem_flatMap.1 ha
  obtain ⟨y, hy, rfl⟩ := List.mem_map.1 hx
  exact h y hy a hax
theorem sample_ok : APureV Try.prog 19 [] (encXs smp) := by
  refine sample_raw.freeze1.leT ?_
  intro S w v h
  have h' : RelT S w v (.lsl 25 smpA) := h
  refine .sl _ _ _ _ _ (LeT.lsl (l := smpA) (r := smp.map encX) rfl (fun x hx => ?_) (flat_ones fun y hy a ha => ?_) ?_ S w v h')
  · obtain ⟨y, _, rfl⟩ := List.mem_map.1 hx
    rfl
  · simp [encX, AV.cells] at ha
    rcases ha with rfl | rfl | rfl | rfl | rfl | rfl | rfl | rfl | rfl | rfl | rfl | rfl | rfl | rfl | rfl | rfl | rfl | rfl | rfl | rfl | rfl | rfl | rfl | rfl | rfl <;> rfl
  · show LeTs (flat smpA) (flat [encX (mkI [97] [] (.mk 0 30 2 [] [])), encX (mkI [98] [] (bothE 4 (rateE [97]) (rateE [99]))), encX (mkI [99] [] (bothE 9 (rateE [98]) (.mk 0 10 2 [] []))), encX (mkI [100] [⟨[120], rateE [97]⟩] (bothE 4 (.mk 1 0 0 [120] []) (rateE [101]))), encX (mkI [101] [] (rateE [101]))])
    repeat (first | exact .nil | refine .cons (by first | exact LeT.refl _ | exact LeT.nils_sl _ _ _ | exact LeT.lsl_sl _ _ _ rfl | exact LeT.nils_lsl _) ?_)

end Go.Proofs.Ytmcgfkkagijcmaa

namespace Go.Proofs.Ytmcgfkkagijcmaa
open Go.Own

/-! ### Which lead to which, by longer and longer ways -/
def stB (g : List (List Int)) (i k : Nat) : Bool := decide ((k : Int) ∈ g.getD i [])
def wsh (g : List (List Int)) : Nat → Nat → Nat → Bool
  | 0, i, k => stB g i k
  | b + 1, i, k => wsh g b i k || (wsh g b i b && wsh g b b k)
theorem wsh_succ {g : List (List Int)} {b i k : Nat} : wsh g (b + 1) i k = true ↔ wsh g b i k = true ∨ (wsh g b i b = true ∧ wsh g b b k = true) := by
  rw [wsh, Bool.or_eq_true, Bool.and_eq_true]
theorem wsh_le {g : List (List Int)} {b i k : Nat} (h : stB g i k = true) : wsh g b i k = true := by
  induction b with
  | zero => exact h
  | succ b ih => exact wsh_succ.2 (.inl ih)
theorem wsh_sound {g : List (List Int)} : ∀ {b i k : Nat}, wsh g b i k = true → Lds g i k
  | 0, i, k, h => .one (of_decide_eq_true (p := (k : Int) ∈ g.getD i []) h)
  | b + 1, i, k, h => by
    rcases wsh_succ.1 h with h | ⟨h1, h2⟩
    · exact wsh_sound h
    · exact lds_trans (wsh_sound h1) (wsh_sound h2)
theorem wsh_row {g : List (List Int)} {b i : Nat} : wsh g (b + 1) i b = wsh g b i b := by
  rw [wsh]; cases wsh g b i b <;> rfl
theorem wsh_col {g : List (List Int)} {b k : Nat} : wsh g (b + 1) b k = wsh g b b k := by
  rw [wsh]; cases wsh g b b k <;> simp
theorem wsh_trans {g : List (List Int)} : ∀ {b i j k : Nat}, j < b → wsh g b i j = true → wsh g b j k = true → wsh g b i k = true
  | 0, i, j, k, hj, _, _ => by omega
  | b + 1, i, j, k, hj, h1, h2 => by
    by_cases e : j = b
    · subst e
      rw [wsh_row] at h1
      rw [wsh_col] at h2
      exact wsh_succ.2 (.inr ⟨h1, h2⟩)
    · have hj' : j < b := by omega
      rcases wsh_succ.1 h1 with h1 | ⟨h1, h1'⟩
      · rcases wsh_succ.1 h2 with h2 | ⟨h2, h2'⟩
        · exact wsh_succ.2 (.inl (wsh_trans hj' h1 h2))
        · exact wsh_succ.2 (.inr ⟨wsh_trans hj' h1 h2, h2'⟩)
      · rcases wsh_succ.1 h2 with h2 | ⟨h2, h2'⟩
        · exact wsh_succ.2 (.inr ⟨h1, wsh_trans hj' h1' h2⟩)
        · exact wsh_succ.2 (.inr ⟨h1, h2'⟩)
theorem ldB_wsh {g : List (List Int)} (hg : InR g) (i k : Nat) : ldB g i k = wsh g g.length i k := by
  have key : ∀ k, Lds g i k → wsh g g.length i k = true := by
    intro k h
    induction h with
    | one s => exact wsh_le (decide_eq_true (p := (_ : Int) ∈ g.getD _ []) s)
    | more h s ih => exact wsh_trans (lds_lt hg h).2 ih (wsh_le (decide_eq_true (p := (_ : Int) ∈ g.getD _ []) s))
  cases hw : wsh g g.length i k with
  | true => exact ldB_iff.2 (wsh_sound hw)
  | false =>
    cases hl : ldB g i k with
    | false => rfl
    | true => rw [key k (ldB_iff.1 hl)] at hw; cases hw

/-! ### The groups, reckoned -/
def bothW (W : Nat → Nat → Bool) (i k : Nat) : Bool := W i k && W k i && !decide (i = k)
def okW (W : Nat → Nat → Bool) (P : List Bool) (i k : Nat) : Bool := bothW W i k || decide (k = i) || P.getD k false || !W i k
def rdyW (W : Nat → Nat → Bool) (P : List Bool) (i : Nat) : Nat → Bool
  | 0 => !P.getD i false
  | k + 1 => rdyW W P i k && okW W P i k
def clsW (W : Nat → Nat → Bool) (n i : Nat) : List Nat := (List.range n).filter fun k => decide (k = i) || bothW W i k
def grpW (W : Nat → Nat → Bool) (n : Nat) : Nat → List Bool → List (List Int)
  | 0, _ => []
  | f + 1, P => match (List.range n).find? (fun i => rdyW W P i n) with
    | none => []
    | some i => cs (clsW W n i) :: grpW W n f (putL P (clsW W n i))
theorem rdyW_eq (g : List (List Int)) (P : List Bool) (i : Nat) : ∀ n, rdyN g P i n = rdyW (ldB g) P i n
  | 0 => rfl
  | n + 1 => by rw [rdyN, rdyW, rdyW_eq g P i n]; rfl
theorem grpW_eq (g : List (List Int)) : ∀ (f : Nat) (P : List Bool), grpF g f P = grpW (ldB g) g.length f P
  | 0, _ => rfl
  | f + 1, P => by
    have h : firstR g P = (List.range g.length).find? (fun i => rdyW (ldB g) P i g.length) := by
      unfold firstR rdy
      congr 1
      funext i
      exact rdyW_eq g P i g.length
    rw [grpF, grpW, h]
    cases hf : (List.range g.length).find? (fun i => rdyW (ldB g) P i g.length) with
    | none => rfl
    | some i =>
      show cs (cls g i) :: grpF g f (putL P (cls g i)) = cs (clsW (ldB g) g.length i) :: grpW (ldB g) g.length f (putL P (clsW (ldB g) g.length i))
      rw [grpW_eq g f]
      rfl
theorem gs_wsh {g : List (List Int)} (hg : InR g) : gs g = grpW (wsh g g.length) g.length g.length (none0 g.length) := by
  unfold gs
  rw [grpW_eq, show ldB g = wsh g g.length from funext fun i => funext fun k => ldB_wsh hg i k]

/-! ### The example -/
theorem reach_mk {lets : List LetE} {op n u : Int} {s : List UInt8} {args : List Exp} {y : Exp} : Reach lets (.mk op n u s args) y ↔ y = .mk op n u s args ∨ (∃ a ∈ args, Reach lets a y) ∨ (op = 1 ∧ ∃ b, bodyOf lets s = some b ∧ Reach lets b y) := by
  constructor
  · intro h
    cases h with
    | refl => exact .inl rfl
    | arg ha t => exact .inr (.inl ⟨_, ha, t⟩)
    | body h1 hb t => exact .inr (.inr ⟨h1, _, hb, t⟩)
  · rintro (rfl | ⟨a, ha, t⟩ | ⟨h1, b, hb, t⟩)
    · exact .refl _
    · exact .arg ha t
    · exact .body h1 hb t
theorem nxt_of {l : List Ind} {i : Nat} {N : List (List UInt8)} (h : ∀ s, Qt (l.getD i i0) s ↔ s ∈ N) : nxt l i = (List.range l.length).filter fun k => decide ((l.getD k i0).name ∈ N) := by
  unfold nxt
  congr 1
  funext k
  simp only [h]
theorem q0 (s : List UInt8) : Qt (smp.getD 0 i0) s ↔ s ∈ ([] : List (List UInt8)) := by
  show Qt (mkI [97] [] (.mk 0 30 2 [] [])) s ↔ _
  simp [Qt, mkI, reach_mk, Exp.op, Exp.s]
theorem q1 (s : List UInt8) : Qt (smp.getD 1 i0) s ↔ s ∈ ([[97], [99]] : List (List UInt8)) := by
  show Qt (mkI [98] [] (bothE 4 (rateE [97]) (rateE [99]))) s ↔ _
  simp [Qt, mkI, bothE, rateE, reach_mk, Exp.op, Exp.s, or_and_right, exists_or, eq_comm]
theorem q2 (s : List UInt8) : Qt (smp.getD 2 i0) s ↔ s ∈ ([[98]] : List (List UInt8)) := by
  show Qt (mkI [99] [] (bothE 9 (rateE [98]) (.mk 0 10 2 [] []))) s ↔ _
  simp [Qt, mkI, bothE, rateE, reach_mk, Exp.op, Exp.s, or_and_right, exists_or, eq_comm]
theorem q3 (s : List UInt8) : Qt (smp.getD 3 i0) s ↔ s ∈ ([[97], [101]] : List (List UInt8)) := by
  show Qt (mkI [100] [⟨[120], rateE [97]⟩] (bothE 4 (.mk 1 0 0 [120] []) (rateE [101]))) s ↔ _
  simp [Qt, mkI, bothE, rateE, reach_mk, Exp.op, Exp.s, or_and_right, exists_or, eq_comm, bodyOf]
theorem q4 (s : List UInt8) : Qt (smp.getD 4 i0) s ↔ s ∈ ([[101]] : List (List UInt8)) := by
  show Qt (mkI [101] [] (rateE [101])) s ↔ _
  simp [Qt, mkI, bothE, rateE, reach_mk, Exp.op, Exp.s, eq_comm]
def smpG : List (List Int) := [[], [0, 2], [1], [0, 4], [4]]
theorem smp_gl : gl smp = smpG := by
  show [cs (nxt smp 0), cs (nxt smp 1), cs (nxt smp 2), cs (nxt smp 3), cs (nxt smp 4)] = _
  rw [nxt_of q0, nxt_of q1, nxt_of q2, nxt_of q3, nxt_of q4]
  rfl
theorem smp_once : Once smp := by unfold Once; decide
theorem smp_known : Known smp := by
  intro i hi s hs
  have : i < 5 := hi
  have key : ∀ N : List (List UInt8), s ∈ N → (∀ s ∈ N, ∃ k, k < smp.length ∧ (smp.getD k i0).name = s) → ∃ k, k < smp.length ∧ (smp.getD k i0).name = s := fun N h h' => h' s h
  rcases (show i = 0 ∨ i = 1 ∨ i = 2 ∨ i = 3 ∨ i = 4 by omega) with rfl | rfl | rfl | rfl | rfl
  · have := (q0 s).1 hs; cases this
  · have := (q1 s).1 hs
    simp at this
    rcases this with rfl | rfl
    · exact ⟨0, by decide, rfl⟩
    · exact ⟨2, by decide, rfl⟩
  · have := (q2 s).1 hs
    simp at this
    subst this
    exact ⟨1, by decide, rfl⟩
  · have := (q3 s).1 hs
    simp at this
    rcases this with rfl | rfl
    · exact ⟨0, by decide, rfl⟩
    · exact ⟨4, by decide, rfl⟩
  · have := (q4 s).1 hs
    simp at this
    subst this
    exact ⟨4, by decide, rfl⟩
theorem smp_err : errG smp = 0 := by unfold errG; rw [if_pos (by decide), if_pos smp_once, if_pos smp_known]
theorem smp_in : InR smpG := by unfold InR; decide
theorem smp_gs : gs (gl smp) = [[0], [1, 2], [4], [3]] := by
  rw [smp_gl, gs_wsh smp_in]
  decide
theorem smp_err1 : errG (smp.drop 1) = 11 := by
  have ho : Once (smp.drop 1) := by unfold Once; decide
  have hk : ¬ Known (smp.drop 1) := fun h => by
    obtain ⟨k, hk, e⟩ := h 0 (by decide) [97] ((q1 [97]).2 (by simp))
    have : k < 4 := hk
    rcases (show k = 0 ∨ k = 1 ∨ k = 2 ∨ k = 3 by omega) with rfl | rfl | rfl | rfl <;> revert e <;> decide
  unfold errG
  rw [if_pos (by decide), if_pos ho, if_neg hk]
theorem smp_err2 : errG [mkI [97] [] (.mk 0 30 2 [] []), mkI [97] [] (.mk 0 30 2 [] [])] = 5 := by
  have ho : ¬ Once [mkI [97] [] (.mk 0 30 2 [] []), mkI [97] [] (.mk 0 30 2 [] [])] := by unfold Once; decide
  unfold errG
  rw [if_pos (by decide), if_neg ho]

end Go.Proofs.Ytmcgfkkagijcmaa

namespace Go.Proofs.Ytmcgfkkagijcmaa
open Go.Own
set_option maxHeartbeats 4000000
set_option maxRecDepth 100000

theorem okE_leaf (o n u : Int) (s : List UInt8) (h1 : in64 o) (h2 : in64 n) (h3 : in64 u) (h4 : s.length ≤ 100) : OkE (.mk o n u s []) :=
  .mk h1 h2 h3 (Nat.le_trans h4 (by decide)) (Nat.zero_le _) (fun a ha => by cases ha)
theorem okE_both (o : Int) (h1 : in64 o) {a b : Exp} (ha : OkE a) (hb : OkE b) : OkE (bothE o a b) :=
    .mk h1 (show in64 0 by unfold in64; decide) (show in64 0 by unfold in64; decide) (Nat.zero_le _) (show (2 : Nat) ≤ 9223372036854775807 by decide) (fun x hx => by
    rcases List.mem_cons.1 hx with rfl | hx
    · exact ha
    · rcases List.mem_cons.1 hx with rfl | hx
      · exact hb
      · cases hx)
theorem okE_rate (s : List UInt8) (h : s.length ≤ 100) : OkE (rateE s) := okE_leaf 3 0 0 s (by unfold in64; decide) (by unfold in64; decide) (by unfold in64; decide) h
theorem smp_inx : ∀ x ∈ smp, InX x := by
  intro x hx
  simp only [smp, List.mem_cons, List.not_mem_nil, or_false] at hx
  rcases hx with rfl | rfl | rfl | rfl | rfl
  · exact ⟨by decide, by decide, fun l hl => (by cases hl), okE_leaf 0 30 2 [] (by unfold in64; decide) (by unfold in64; decide) (by unfold in64; decide) (by decide)⟩
  · exact ⟨by decide, by decide, fun l hl => (by cases hl), okE_both 4 (by unfold in64; decide) (okE_rate _ (by decide)) (okE_rate _ (by decide))⟩
  · exact ⟨by decide, by decide, fun l hl => (by cases hl), okE_both 9 (by unfold in64; decide) (okE_rate _ (by decide)) (okE_leaf 0 10 2 [] (by unfold in64; decide) (by unfold in64; decide) (by unfold in64; decide) (by decide))⟩
  · exact ⟨by decide, by decide, fun l hl => (by rcases List.mem_cons.1 hl with rfl | hl; exact okE_rate _ (by decide); cases hl), okE_both 4 (by unfold in64; decide) (okE_leaf 1 0 0 [120] (by unfold in64; decide) (by unfold in64; decide) (by unfold in64; decide) (by decide)) (okE_rate _ (by decide))⟩
  · exact ⟨by decide, by decide, fun l hl => (by cases hl), okE_rate _ (by decide)⟩
theorem smp_few : ∀ x ∈ smp, fewX x = true := by decide
theorem smp_okx : ∀ x ∈ smp, OkX x := fun x hx => few_okX (smp_inx x hx) (smp_few x hx)

theorem lists_let (L : List (List Int)) (l : List AV) (hlen : l.length = L.length) (h : LeTs (flat l) (flat (L.map encIs))) : LeT (.lsl 1 l) (.sl 1 encIs [] L) :=
  LeT.trans (LeT.lsl (by rw [List.length_map]; exact hlen.symm) (fun x hx => by obtain ⟨y, _, rfl⟩ := List.mem_map.1 hx; rfl) (flat_ones fun x _ a ha => by simp [encIs, AV.cells] at ha; subst ha; rfl) h) (LeT.lsl_sl encIs [] L rfl)
theorem small_ok : APureV Try.prog 7 [] (.bool true) := by
  have g1 := graph_ok smp (by decide) (fun _ => smp_okx)
  have g2 := groups_ok smp (by decide) (fun _ => smp_okx)
  have g3 := graph_ok (smp.drop 1) (by decide) (fun _ x hx => smp_okx x (List.mem_of_mem_drop hx))
  have g4 := graph_ok [mkI [97] [] (.mk 0 30 2 [] []), mkI [97] [] (.mk 0 30 2 [] [])] (by decide) (fun _ x hx => smp_okx x (by
    simp only [List.mem_cons, List.not_mem_nil, or_false] at hx
    have : x = mkI [97] [] (.mk 0 30 2 [] []) := by rcases hx with h | h <;> exact h
    rw [this]
    exact List.mem_cons_self ..))
  unfold rG at g1 g3 g4
  unfold rGr at g2
  rw [smp_err, if_pos rfl, smp_gl] at g1
  rw [smp_err, if_pos rfl, smp_gs] at g2
  rw [smp_err1, if_neg (by decide)] at g3
  rw [smp_err2, if_neg (by decide)] at g4
  have l1 := lists_ok smpG smpG (by unfold LenOk; decide) (by unfold LenOk; decide)
  have l2 := lists_ok [[0], [1, 2], [4], [3]] [[0], [1, 2], [4], [3]] (by unfold LenOk; decide) (by unfold LenOk; decide)
  rw [decide_eq_true rfl] at l1 l2
  have l1 := apure_args (args' := [.sl 1 encIs [] smpG, .lsl 1 [.nils, .lsl 1 [.int .i64 0, .int .i64 2], .lsl 1 [.int .i64 1], .lsl 1 [.int .i64 0, .int .i64 4], .lsl 1 [.int .i64 4]]]) l1 (.cons (.refl _) (.cons (lists_let smpG _ rfl (by
    show LeTs [.nils, .lsl 1 [.int .i64 0, .int .i64 2], .lsl 1 [.int .i64 1], .lsl 1 [.int .i64 0, .int .i64 4], .lsl 1 [.int .i64 4]] [encIs [], encIs [0, 2], encIs [1], encIs [0, 4], encIs [4]]
    repeat (first | exact .nil | refine .cons (by first | exact LeT.nils_sl _ _ _ | exact LeT.lsl_sl _ _ _ rfl) ?_))) .nil))
  have l2 := apure_args (args' := [.sl 1 encIs [] [[0], [1, 2], [4], [3]], .lsl 1 [.lsl 1 [.int .i64 0], .lsl 1 [.int .i64 1, .int .i64 2], .lsl 1 [.int .i64 4], .lsl 1 [.int .i64 3]]]) l2 (.cons (.refl _) (.cons (lists_let [[0], [1, 2], [4], [3]] _ rfl (by
    show LeTs [.lsl 1 [.int .i64 0], .lsl 1 [.int .i64 1, .int .i64 2], .lsl 1 [.int .i64 4], .lsl 1 [.int .i64 3]] [encIs [0], encIs [1, 2], encIs [4], encIs [3]]
    repeat (first | exact .nil | refine .cons (by first | exact LeT.nils_sl _ _ _ | exact LeT.lsl_sl _ _ _ rfl) ?_))) .nil))
  have c1 := circle_ok smpG [0] (by unfold LenOk; decide) (by decide)
  have c2 := circle_ok smpG [1, 2] (by unfold LenOk; decide) (by decide)
  have c3 := circle_ok smpG [4] (by unfold LenOk; decide) (by decide)
  have c4 := circle_ok smpG [3] (by unfold LenOk; decide) (by decide)
  rw [show circB smpG [0] = false by decide] at c1
  rw [show circB smpG [1, 2] = true by decide] at c2
  rw [show circB smpG [4] = true by decide] at c3
  rw [show circB smpG [3] = false by decide] at c4
  refine apure_of (C := cx 94 [0, 1, 2, 3, 4, 5, 7, 9, 10]) (cxOk _ _) Try.func7 rfl (by decide) rfl (by exact Nat.le_of_ble_eq_true rfl) (by decide) ?_
  conv => whnf
  refine .one _ _ _ (fun _ => sample_ok) (by repeat (first | exact .nil | (apply BorL.cons; first | exact lS rfl | exact lR rfl | exact lM rfl rfl | exact lL rfl | exact lX rfl | exact lN | exact lNl | exact lSm rfl | exact lIm rfl | exact lP rfl | exact lQ rfl | exact lB rfl rfl rfl))) (by first | exact .inl rfl | exact .inr (by repeat (first | exact flats_nil | refine flats_cons (by first | exact flat_val _ rfl | exact flat_row (fun _ => rfl) | exact flat_lst (fun _ => rfl)) ?_))) (by first | exact .inr rfl | exact .inl rfl) ?_
  conv => whnf
  repeat (first | (refine And.intro ⟨by omega, by omega⟩ ?_; conv => whnf) | (refine And.intro (by omega) (And.intro rfl ?_); conv => whnf) | (refine And.intro rfl ?_; conv => whnf) | (refine And.intro (fun _ => ⟨by omega, by omega⟩) ?_; conv => whnf) | (refine And.intro (fun _ => by omega) (And.intro rfl ?_); conv => whnf) | (refine And.intro ⟨(by first | omega | (simp; omega)), (by first | omega | (simp; omega))⟩ ?_; conv => whnf) | (refine Exists.intro _ (And.intro rfl (And.intro (by first | omega | (simp; omega)) (And.intro ⟨rfl, rfl, rfl, rfl, rfl⟩ ?_))); conv => whnf) | (refine And.intro ⟨rfl, rfl⟩ (And.intro (by first | omega | (simp; omega)) ?_); conv => whnf) | (refine Exists.intro _ (And.intro rfl ?_); conv => whnf) | (refine And.intro (fun _ => ?_) (fun h => absurd h (by decide)); conv => whnf) | (refine And.intro (fun h => absurd h (by decide)) (fun _ => ?_); conv => whnf) | (refine .quiet (by kernel_rfl) ?_; conv => whnf))
  refine .one _ _ _ (fun _ => g1) (by repeat (first | exact .nil | (apply BorL.cons; first | exact lS rfl | exact lR rfl | exact lM rfl rfl | exact lL rfl | exact lX rfl | exact lN | exact lNl | exact lSm rfl | exact lIm rfl | exact lP rfl | exact lQ rfl | exact lB rfl rfl rfl))) (by first | exact .inl rfl | exact .inr (by repeat (first | exact flats_nil | refine flats_cons (by first | exact flat_val _ rfl | exact flat_row (fun _ => rfl) | exact flat_lst (fun _ => rfl)) ?_))) (by first | exact .inr rfl | exact .inl rfl) ?_
  conv => whnf
  repeat (first | (refine And.intro ⟨by omega, by omega⟩ ?_; conv => whnf) | (refine And.intro (by omega) (And.intro rfl ?_); conv => whnf) | (refine And.intro rfl ?_; conv => whnf) | (refine And.intro (fun _ => ⟨by omega, by omega⟩) ?_; conv => whnf) | (refine And.intro (fun _ => by omega) (And.intro rfl ?_); conv => whnf) | (refine And.intro ⟨(by first | omega | (simp; omega)), (by first | omega | (simp; omega))⟩ ?_; conv => whnf) | (refine Exists.intro _ (And.intro rfl (And.intro (by first | omega | (simp; omega)) (And.intro ⟨rfl, rfl, rfl, rfl, rfl⟩ ?_))); conv => whnf) | (refine And.intro ⟨rfl, rfl⟩ (And.intro (by first | omega | (simp; omega)) ?_); conv => whnf) | (refine Exists.intro _ (And.intro rfl ?_); conv => whnf) | (refine And.intro (fun _ => ?_) (fun h => absurd h (by decide)); conv => whnf) | (refine And.intro (fun h => absurd h (by decide)) (fun _ => ?_); conv => whnf) | (refine .quiet (by kernel_rfl) ?_; conv => whnf))
  refine .one _ _ _ (fun _ => g2) (by repeat (first | exact .nil | (apply BorL.cons; first | exact lS rfl | exact lR rfl | exact lM rfl rfl | exact lL rfl | exact lX rfl | exact lN | exact lNl | exact lSm rfl | exact lIm rfl | exact lP rfl | exact lQ rfl | exact lB rfl rfl rfl))) (by first | exact .inl rfl | exact .inr (by repeat (first | exact flats_nil | refine flats_cons (by first | exact flat_val _ rfl | exact flat_row (fun _ => rfl) | exact flat_lst (fun _ => rfl)) ?_))) (by first | exact .inr rfl | exact .inl rfl) ?_
  conv => whnf
  repeat (first | (refine And.intro ⟨by omega, by omega⟩ ?_; conv => whnf) | (refine And.intro (by omega) (And.intro rfl ?_); conv => whnf) | (refine And.intro rfl ?_; conv => whnf) | (refine And.intro (fun _ => ⟨by omega, by omega⟩) ?_; conv => whnf) | (refine And.intro (fun _ => by omega) (And.intro rfl ?_); conv => whnf) | (refine And.intro ⟨(by first | omega | (simp; omega)), (by first | omega | (simp; omega))⟩ ?_; conv => whnf) | (refine Exists.intro _ (And.intro rfl (And.intro (by first | omega | (simp; omega)) (And.intro ⟨rfl, rfl, rfl, rfl, rfl⟩ ?_))); conv => whnf) | (refine And.intro ⟨rfl, rfl⟩ (And.intro (by first | omega | (simp; omega)) ?_); conv => whnf) | (refine Exists.intro _ (And.intro rfl ?_); conv => whnf) | (refine And.intro (fun _ => ?_) (fun h => absurd h (by decide)); conv => whnf) | (refine And.intro (fun h => absurd h (by decide)) (fun _ => ?_); conv => whnf) | (refine .quiet (by kernel_rfl) ?_; conv => whnf))
  refine ⟨⟨by decide, by decide, by decide⟩, rfl, ?_⟩
  conv => whnf
  refine .one _ _ _ (fun _ => g3) (by repeat (first | exact .nil | (apply BorL.cons; first | exact lS rfl | exact lR rfl | exact lM rfl rfl | exact lL rfl | exact lX rfl | exact lN | exact lNl | exact lSm rfl | exact lIm rfl | exact lP rfl | exact lQ rfl | exact lB rfl rfl rfl))) (by first | exact .inl rfl | exact .inr (by repeat (first | exact flats_nil | refine flats_cons (by first | exact flat_val _ rfl | exact flat_row (fun _ => rfl) | exact flat_lst (fun _ => rfl)) ?_))) (by first | exact .inr rfl | exact .inl rfl) ?_
  conv => whnf
  repeat (first | (refine And.intro ⟨by omega, by omega⟩ ?_; conv => whnf) | (refine And.intro (by omega) (And.intro rfl ?_); conv => whnf) | (refine And.intro rfl ?_; conv => whnf) | (refine And.intro (fun _ => ⟨by omega, by omega⟩) ?_; conv => whnf) | (refine And.intro (fun _ => by omega) (And.intro rfl ?_); conv => whnf) | (refine And.intro ⟨(by first | omega | (simp; omega)), (by first | omega | (simp; omega))⟩ ?_; conv => whnf) | (refine Exists.intro _ (And.intro rfl (And.intro (by first | omega | (simp; omega)) (And.intro ⟨rfl, rfl, rfl, rfl, rfl⟩ ?_))); conv => whnf) | (refine And.intro ⟨rfl, rfl⟩ (And.intro (by first | omega | (simp; omega)) ?_); conv => whnf) | (refine Exists.intro _ (And.intro rfl ?_); conv => whnf) | (refine And.intro (fun _ => ?_) (fun h => absurd h (by decide)); conv => whnf) | (refine And.intro (fun h => absurd h (by decide)) (fun _ => ?_); conv => whnf) | (refine .eff (by first | exact cxOk _ _ | exact cxPOk _ _ _) ?_; conv => whnf))
  repeat (first | (refine And.intro ⟨by first | omega | decide, by first | omega | decide⟩ ?_; conv => whnf) | (refine And.intro (by first | omega | decide) (And.intro rfl ?_); conv => whnf) | (refine And.intro rfl ?_; conv => whnf) | (refine And.intro (fun _ => ⟨by first | omega | decide, by first | omega | decide⟩) ?_; conv => whnf) | (refine And.intro (fun _ => by first | omega | decide) (And.intro rfl ?_); conv => whnf) | (refine And.intro ⟨(by first | omega | (simp; omega)), (by first | omega | (simp; omega))⟩ ?_; conv => whnf) | (refine Exists.intro _ (And.intro rfl (And.intro (by first | omega | (simp; omega)) (And.intro ⟨rfl, rfl, rfl, rfl, rfl⟩ ?_))); conv => whnf) | (refine And.intro ⟨rfl, rfl⟩ (And.intro (by first | omega | (simp; omega)) ?_); conv => whnf) | (refine Exists.intro _ (And.intro rfl ?_); conv => whnf) | (refine And.intro (fun _ => ?_) (fun h => absurd h (by decide)); conv => whnf) | (refine And.intro (fun h => absurd h (by decide)) (fun _ => ?_); conv => whnf) | (refine .quiet (by kernel_rfl) ?_; conv => whnf))
  refine .one _ _ _ (fun _ => g4) (by repeat (first | exact .nil | (apply BorL.cons; first | exact lS rfl | exact lR rfl | exact lM rfl rfl | exact lL rfl | exact lX rfl | exact lN | exact lNl | exact lSm rfl | exact lIm rfl | exact lP rfl | exact lQ rfl | exact lB rfl rfl rfl))) (by first | exact .inl rfl | exact .inr (by repeat (first | exact flats_nil | refine flats_cons (by first | exact flat_val _ rfl | exact flat_row (fun _ => rfl) | exact flat_lst (fun _ => rfl)) ?_))) (by first | exact .inr rfl | exact .inl rfl) ?_
  conv => whnf
  repeat (first | (refine And.intro ⟨by first | omega | decide, by first | omega | decide⟩ ?_; conv => whnf) | (refine And.intro (by first | omega | decide) (And.intro rfl ?_); conv => whnf) | (refine And.intro rfl ?_; conv => whnf) | (refine And.intro (fun _ => ⟨by first | omega | decide, by first | omega | decide⟩) ?_; conv => whnf) | (refine And.intro (fun _ => by first | omega | decide) (And.intro rfl ?_); conv => whnf) | (refine And.intro ⟨(by first | omega | (simp; omega)), (by first | omega | (simp; omega))⟩ ?_; conv => whnf) | (refine Exists.intro _ (And.intro rfl (And.intro (by first | omega | (simp; omega)) (And.intro ⟨rfl, rfl, rfl, rfl, rfl⟩ ?_))); conv => whnf) | (refine And.intro ⟨rfl, rfl⟩ (And.intro (by first | omega | (simp; omega)) ?_); conv => whnf) | (refine Exists.intro _ (And.intro rfl ?_); conv => whnf) | (refine And.intro (fun _ => ?_) (fun h => absurd h (by decide)); conv => whnf) | (refine And.intro (fun h => absurd h (by decide)) (fun _ => ?_); conv => whnf) | (refine .quiet (by kernel_rfl) ?_; conv => whnf))
  refine .one _ _ _ (fun _ => l1) (by repeat (first | exact .nil | (apply BorL.cons; first | exact lS rfl | exact lR rfl | exact lM rfl rfl | exact lL rfl | exact lX rfl | exact lN | exact lNl | exact lSm rfl | exact lIm rfl | exact lP rfl | exact lQ rfl | exact lB rfl rfl rfl))) (by first | exact .inl rfl | exact .inr (by repeat (first | exact flats_nil | refine flats_cons (by first | exact flat_val _ rfl | exact flat_row (fun _ => rfl) | exact flat_lst (fun _ => rfl)) ?_))) (by first | exact .inr rfl | exact .inl rfl) ?_
  conv => whnf
  repeat (first | (refine And.intro ⟨by first | omega | decide, by first | omega | decide⟩ ?_; conv => whnf) | (refine And.intro (by first | omega | decide) (And.intro rfl ?_); conv => whnf) | (refine And.intro rfl ?_; conv => whnf) | (refine And.intro (fun _ => ⟨by first | omega | decide, by first | omega | decide⟩) ?_; conv => whnf) | (refine And.intro (fun _ => by first | omega | decide) (And.intro rfl ?_); conv => whnf) | (refine And.intro ⟨(by first | omega | (simp; omega)), (by first | omega | (simp; omega))⟩ ?_; conv => whnf) | (refine Exists.intro _ (And.intro rfl (And.intro (by first | omega | (simp; omega)) (And.intro ⟨rfl, rfl, rfl, rfl, rfl⟩ ?_))); conv => whnf) | (refine And.intro ⟨rfl, rfl⟩ (And.intro (by first | omega | (simp; omega)) ?_); conv => whnf) | (refine Exists.intro _ (And.intro rfl ?_); conv => whnf) | (refine And.intro (fun _ => ?_) (fun h => absurd h (by decide)); conv => whnf) | (refine And.intro (fun h => absurd h (by decide)) (fun _ => ?_); conv => whnf) | (refine .quiet (by kernel_rfl) ?_; conv => whnf))
  refine .one _ _ _ (fun _ => l2) (by repeat (first | exact .nil | (apply BorL.cons; first | exact lS rfl | exact lR rfl | exact lM rfl rfl | exact lL rfl | exact lX rfl | exact lN | exact lNl | exact lSm rfl | exact lIm rfl | exact lP rfl | exact lQ rfl | exact lB rfl rfl rfl))) (by first | exact .inl rfl | exact .inr (by repeat (first | exact flats_nil | refine flats_cons (by first | exact flat_val _ rfl | exact flat_row (fun _ => rfl) | exact flat_lst (fun _ => rfl)) ?_))) (by first | exact .inr rfl | exact .inl rfl) ?_
  conv => whnf
  repeat (first | (refine And.intro ⟨by first | omega | decide, by first | omega | decide⟩ ?_; conv => whnf) | (refine And.intro (by first | omega | decide) (And.intro rfl ?_); conv => whnf) | (refine And.intro rfl ?_; conv => whnf) | (refine And.intro (fun _ => ⟨by first | omega | decide, by first | omega | decide⟩) ?_; conv => whnf) | (refine And.intro (fun _ => by first | omega | decide) (And.intro rfl ?_); conv => whnf) | (refine And.intro ⟨(by first | omega | (simp; omega)), (by first | omega | (simp; omega))⟩ ?_; conv => whnf) | (refine Exists.intro _ (And.intro rfl (And.intro (by first | omega | (simp; omega)) (And.intro ⟨rfl, rfl, rfl, rfl, rfl⟩ ?_))); conv => whnf) | (refine And.intro ⟨rfl, rfl⟩ (And.intro (by first | omega | (simp; omega)) ?_); conv => whnf) | (refine Exists.intro _ (And.intro rfl ?_); conv => whnf) | (refine And.intro (fun _ => ?_) (fun h => absurd h (by decide)); conv => whnf) | (refine And.intro (fun h => absurd h (by decide)) (fun _ => ?_); conv => whnf) | (refine .quiet (by kernel_rfl) ?_; conv => whnf))
  refine .one _ _ _ (fun _ => c1) (by repeat (first | exact .nil | (apply BorL.cons; first | exact lS rfl | exact lR rfl | exact lM rfl rfl | exact lL rfl | exact lX rfl | exact lN | exact lNl | exact lSm rfl | exact lIm rfl | exact lP rfl | exact lQ rfl | exact lB rfl rfl rfl))) (by first | exact .inl rfl | exact .inr (by repeat (first | exact flats_nil | refine flats_cons (by first | exact flat_val _ rfl | exact flat_row (fun _ => rfl) | exact flat_lst (fun _ => rfl)) ?_))) (by first | exact .inr rfl | exact .inl rfl) ?_
  conv => whnf
  repeat (first | (refine And.intro ⟨by first | omega | decide, by first | omega | decide⟩ ?_; conv => whnf) | (refine And.intro (by first | omega | decide) (And.intro rfl ?_); conv => whnf) | (refine And.intro rfl ?_; conv => whnf) | (refine And.intro (fun _ => ⟨by first | omega | decide, by first | omega | decide⟩) ?_; conv => whnf) | (refine And.intro (fun _ => by first | omega | decide) (And.intro rfl ?_); conv => whnf) | (refine And.intro ⟨(by first | omega | (simp; omega)), (by first | omega | (simp; omega))⟩ ?_; conv => whnf) | (refine Exists.intro _ (And.intro rfl (And.intro (by first | omega | (simp; omega)) (And.intro ⟨rfl, rfl, rfl, rfl, rfl⟩ ?_))); conv => whnf) | (refine And.intro ⟨rfl, rfl⟩ (And.intro (by first | omega | (simp; omega)) ?_); conv => whnf) | (refine Exists.intro _ (And.intro rfl ?_); conv => whnf) | (refine And.intro (fun _ => ?_) (fun h => absurd h (by decide)); conv => whnf) | (refine And.intro (fun h => absurd h (by decide)) (fun _ => ?_); conv => whnf) | (refine .quiet (by kernel_rfl) ?_; conv => whnf))
  refine .one _ _ _ (fun _ => c2) (by repeat (first | exact .nil | (apply BorL.cons; first | exact lS rfl | exact lR rfl | exact lM rfl rfl | exact lL rfl | exact lX rfl | exact lN | exact lNl | exact lSm rfl | exact lIm rfl | exact lP rfl | exact lQ rfl | exact lB rfl rfl rfl))) (by first | exact .inl rfl | exact .inr (by repeat (first | exact flats_nil | refine flats_cons (by first | exact flat_val _ rfl | exact flat_row (fun _ => rfl) | exact flat_lst (fun _ => rfl)) ?_))) (by first | exact .inr rfl | exact .inl rfl) ?_
  conv => whnf
  repeat (first | (refine And.intro ⟨by first | omega | decide, by first | omega | decide⟩ ?_; conv => whnf) | (refine And.intro (by first | omega | decide) (And.intro rfl ?_); conv => whnf) | (refine And.intro rfl ?_; conv => whnf) | (refine And.intro (fun _ => ⟨by first | omega | decide, by first | omega | decide⟩) ?_; conv => whnf) | (refine And.intro (fun _ => by first | omega | decide) (And.intro rfl ?_); conv => whnf) | (refine And.intro ⟨(by first | omega | (simp; omega)), (by first | omega | (simp; omega))⟩ ?_; conv => whnf) | (refine Exists.intro _ (And.intro rfl (And.intro (by first | omega | (simp; omega)) (And.intro ⟨rfl, rfl, rfl, rfl, rfl⟩ ?_))); conv => whnf) | (refine And.intro ⟨rfl, rfl⟩ (And.intro (by first | omega | (simp; omega)) ?_); conv => whnf) | (refine Exists.intro _ (And.intro rfl ?_); conv => whnf) | (refine And.intro (fun _ => ?_) (fun h => absurd h (by decide)); conv => whnf) | (refine And.intro (fun h => absurd h (by decide)) (fun _ => ?_); conv => whnf) | (refine .quiet (by kernel_rfl) ?_; conv => whnf))
  refine .one _ _ _ (fun _ => c3) (by repeat (first | exact .nil | (apply BorL.cons; first | exact lS rfl | exact lR rfl | exact lM rfl rfl | exact lL rfl | exact lX rfl | exact lN | exact lNl | exact lSm rfl | exact lIm rfl | exact lP rfl | exact lQ rfl | exact lB rfl rfl rfl))) (by first | exact .inl rfl | exact .inr (by repeat (first | exact flats_nil | refine flats_cons (by first | exact flat_val _ rfl | exact flat_row (fun _ => rfl) | exact flat_lst (fun _ => rfl)) ?_))) (by first | exact .inr rfl | exact .inl rfl) ?_
  conv => whnf
  repeat (first | (refine And.intro ⟨by first | omega | decide, by first | omega | decide⟩ ?_; conv => whnf) | (refine And.intro (by first | omega | decide) (And.intro rfl ?_); conv => whnf) | (refine And.intro rfl ?_; conv => whnf) | (refine And.intro (fun _ => ⟨by first | omega | decide, by first | omega | decide⟩) ?_; conv => whnf) | (refine And.intro (fun _ => by first | omega | decide) (And.intro rfl ?_); conv => whnf) | (refine And.intro ⟨(by first | omega | (simp; omega)), (by first | omega | (simp; omega))⟩ ?_; conv => whnf) | (refine Exists.intro _ (And.intro rfl (And.intro (by first | omega | (simp; omega)) (And.intro ⟨rfl, rfl, rfl, rfl, rfl⟩ ?_))); conv => whnf) | (refine And.intro ⟨rfl, rfl⟩ (And.intro (by first | omega | (simp; omega)) ?_); conv => whnf) | (refine Exists.intro _ (And.intro rfl ?_); conv => whnf) | (refine And.intro (fun _ => ?_) (fun h => absurd h (by decide)); conv => whnf) | (refine And.intro (fun h => absurd h (by decide)) (fun _ => ?_); conv => whnf) | (refine .quiet (by kernel_rfl) ?_; conv => whnf))
  refine .one _ _ _ (fun _ => c4) (by repeat (first | exact .nil | (apply BorL.cons; first | exact lS rfl | exact lR rfl | exact lM rfl rfl | exact lL rfl | exact lX rfl | exact lN | exact lNl | exact lSm rfl | exact lIm rfl | exact lP rfl | exact lQ rfl | exact lB rfl rfl rfl))) (by first | exact .inl rfl | exact .inr (by repeat (first | exact flats_nil | refine flats_cons (by first | exact flat_val _ rfl | exact flat_row (fun _ => rfl) | exact flat_lst (fun _ => rfl)) ?_))) (by first | exact .inr rfl | exact .inl rfl) ?_
  conv => whnf
  repeat (first | (refine And.intro ⟨by first | omega | decide, by first | omega | decide⟩ ?_; conv => whnf) | (refine And.intro (by first | omega | decide) (And.intro rfl ?_); conv => whnf) | (refine And.intro rfl ?_; conv => whnf) | (refine And.intro (fun _ => ⟨by first | omega | decide, by first | omega | decide⟩) ?_; conv => whnf) | (refine And.intro (fun _ => by first | omega | decide) (And.intro rfl ?_); conv => whnf) | (refine And.intro ⟨(by first | omega | (simp; omega)), (by first | omega | (simp; omega))⟩ ?_; conv => whnf) | (refine Exists.intro _ (And.intro rfl (And.intro (by first | omega | (simp; omega)) (And.intro ⟨rfl, rfl, rfl, rfl, rfl⟩ ?_))); conv => whnf) | (refine And.intro ⟨rfl, rfl⟩ (And.intro (by first | omega | (simp; omega)) ?_); conv => whnf) | (refine Exists.intro _ (And.intro rfl ?_); conv => whnf) | (refine And.intro (fun _ => ?_) (fun h => absurd h (by decide)); conv => whnf) | (refine And.intro (fun h => absurd h (by decide)) (fun _ => ?_); conv => whnf) | (refine .quiet (by kernel_rfl) ?_; conv => whnf))
  rfl

end Go.Proofs.Ytmcgfkkagijcmaa

namespace Go.Proofs.Ytmcgfkkagijcmaa
open Go.Own

/-! ### The groups are there -/
theorem grp_go {g : List (List Int)} (hg : InR g) : ∀ (u : Nat) (P : List Bool) (L : List (List Int)), unmet P ≤ u → Grp g (none0 g.length) L P → ∃ L' Q, Grp g (none0 g.length) L' Q ∧ unmet Q = 0 := by
  intro u
  induction u with
  | zero => exact fun P L h hG => ⟨L, P, hG, by omega⟩
  | succ u ih =>
    intro P L h hG
    by_cases h0 : unmet P = 0
    · exact ⟨L, P, hG, h0⟩
    · have hP := hG.plc hg (plc0 g)
      have key : ∀ n, (∃ i, i < n ∧ i < g.length ∧ rdy g P i = true) → ∃ i, i < g.length ∧ rdy g P i = true ∧ ∀ j, j < i → rdy g P j = false := by
        intro n
        induction n with
        | zero => rintro ⟨i, hi, _⟩; omega
        | succ n ihn =>
          rintro ⟨i, hi, h1, h2⟩
          by_cases hex : ∃ i, i < n ∧ i < g.length ∧ rdy g P i = true
          · exact ihn hex
          · have hin : i = n := by
              rcases Nat.lt_or_ge i n with h | h
              · exact (hex ⟨i, h, h1, h2⟩).elim
              · omega
            subst hin
            refine ⟨i, h1, h2, fun j hj => ?_⟩
            cases hb : rdy g P j with
            | false => rfl
            | true => exact (hex ⟨j, hj, by omega, hb⟩).elim
      obtain ⟨i, hi, hr⟩ := rdy_ex hg hP.len (show 0 < unmet P by omega)
      obtain ⟨i, hi, hr, hmin⟩ := key g.length ⟨i, hi, hi, hr⟩
      have hun := putL_unmet (cls_free hP ((rdy_iff hg).1 hr).1) (List.nodup_iff_pairwise_ne.2 ((cls_asc g i).imp fun h => by omega))
      have := List.length_pos_of_mem (cls_mem.2 ⟨hi, .inl rfl⟩)
      exact ih _ _ (by omega) (hG.snoc hi hr hmin)
theorem isGroups_gs {g : List (List Int)} (hg : InR g) : IsGroups g (gs g) := by
  obtain ⟨L, Q, h1, h2⟩ := grp_go hg _ _ _ (Nat.le_refl _) (Grp.nil (none0 g.length))
  have h : IsGroups g L := ⟨Q, h1, h2⟩
  rw [← h.eq hg]
  exact h

/-! ### One issue more that nobody quotes -/
structure Less (g g' : List (List Int)) : Prop where
  len : g'.length = g.length + 1
  row : ∀ i, i < g.length → g'.getD i [] = g.getD i []
theorem Less.stp {g g' : List (List Int)} (h : Less g g') {i k : Nat} (hi : i < g.length) : Stp g' i k ↔ Stp g i k := by unfold Stp; rw [h.row i hi]
theorem Less.lds {g g' : List (List Int)} (hg : InR g) (h : Less g g') {i k : Nat} (hi : i < g.length) : Lds g' i k ↔ Lds g i k := by
  constructor
  · intro hl
    induction hl with
    | one s => exact .one ((h.stp hi).1 s)
    | more _ s ih => exact .more ih ((h.stp (lds_lt hg ih).2).1 s)
  · intro hl
    induction hl with
    | one s => exact .one ((h.stp hi).2 s)
    | more h0 s ih => exact .more ih ((h.stp (lds_lt hg h0).2).2 s)
theorem Less.no {g g' : List (List Int)} (hg : InR g) (h : Less g g') {i : Nat} (hi : i < g.length) : ¬ Lds g' i g.length := fun hl => by
  have := (lds_lt hg ((h.lds hg hi).1 hl)).2
  omega
theorem getD_snoc {P : List Bool} {k : Nat} : (P ++ [false]).getD k false = P.getD k false := by
  rw [List.getD_eq_getElem?_getD, List.getD_eq_getElem?_getD, List.getElem?_append]
  split
  · rfl
  · rename_i h
    rw [List.getElem?_eq_none (by omega : P.length ≤ k)]
    cases hk : k - P.length with
    | zero => rfl
    | succ n => rfl
theorem Less.rdyE {g g' : List (List Int)} (hg : InR g) (hg' : InR g') (h : Less g g') {i : Nat} (hi : i < g.length) {P : List Bool} : rdy g' (P ++ [false]) i = rdy g P i := by
  have : rdy g' (P ++ [false]) i = true ↔ rdy g P i = true := by
    rw [rdy_iff hg', rdy_iff hg, getD_snoc]
    refine and_congr Iff.rfl ?_
    constructor
    · intro hh k hk
      rcases hh k ((h.lds hg hi).2 hk) with h1 | h1 | h1
      · exact .inl ((h.lds hg (lds_lt hg hk).2).1 h1)
      · exact .inr (.inl h1)
      · rw [getD_snoc] at h1; exact .inr (.inr h1)
    · intro hh k hk
      have hk' := (h.lds hg hi).1 hk
      rcases hh k hk' with h1 | h1 | h1
      · exact .inl ((h.lds hg (lds_lt hg hk').2).2 h1)
      · exact .inr (.inl h1)
      · rw [getD_snoc]; exact .inr (.inr h1)
  cases h1 : rdy g' (P ++ [false]) i with
  | true => exact (this.1 h1).symm
  | false =>
    cases h2 : rdy g P i with
    | false => rfl
    | true => rw [this.2 h2] at h1; cases h1
theorem ascN_eq : ∀ {a b : List Nat}, a.Pairwise (· < ·) → b.Pairwise (· < ·) → (∀ x, x ∈ a ↔ x ∈ b) → a = b
  | [], [], _, _, _ => rfl
  | [], y :: b, _, _, h => by simpa using (h y).2 (by simp)
  | x :: a, [], _, _, h => by simpa using (h x).1 (by simp)
  | x :: a, y :: b, ha, hb, h => by
    rw [List.pairwise_cons] at ha hb
    have hxy : x = y := by
      rcases List.mem_cons.1 ((h x).1 (by simp)) with e | e
      · exact e
      · rcases List.mem_cons.1 ((h y).2 (by simp)) with e2 | e2
        · exact e2.symm
        · have := hb.1 x e
          have := ha.1 y e2
          omega
    subst hxy
    rw [ascN_eq ha.2 hb.2 fun z => ?_]
    constructor
    · intro hz
      have := ha.1 z hz
      rcases List.mem_cons.1 ((h z).1 (by simp [hz])) with e | e
      · omega
      · exact e
    · intro hz
      have := hb.1 z hz
      rcases List.mem_cons.1 ((h z).2 (by simp [hz])) with e | e
      · omega
      · exact e
theorem Less.clsE {g g' : List (List Int)} (hg : InR g) (h : Less g g') {i : Nat} (hi : i < g.length) : cls g' i = cls g i := by
  refine ascN_eq (cls_asc g' i) (cls_asc g i) fun k => ?_
  rw [cls_mem, cls_mem, h.len]
  constructor
  · rintro ⟨h1, h2⟩
    have hk : k < g.length := by
      rcases h2 with rfl | ⟨h2, _⟩
      · exact hi
      · exact (lds_lt hg ((h.lds hg hi).1 h2)).2
    exact ⟨hk, h2.imp id fun ⟨a, b⟩ => ⟨(h.lds hg hi).1 a, (h.lds hg hk).1 b⟩⟩
  · rintro ⟨hk, h2⟩
    exact ⟨by omega, h2.imp id fun ⟨a, b⟩ => ⟨(h.lds hg hi).2 a, (h.lds hg hk).2 b⟩⟩
theorem putL_app : ∀ {c : List Nat} {P : List Bool}, (∀ k ∈ c, k < P.length) → putL (P ++ [false]) c = putL P c ++ [false]
  | [], _, _ => rfl
  | k :: c, P, h => by
    rw [putL, putL, List.set_append_left _ _ (h k (by simp)), putL_app fun k' hk => by rw [List.length_set]; exact h k' (by simp [hk])]
theorem none0_succ (n : Nat) : none0 (n + 1) = none0 n ++ [false] := by
  unfold none0; rw [List.replicate_succ']
theorem Less.grp {g g' : List (List Int)} (hg : InR g) (hg' : InR g') (h : Less g g') {P Q : List Bool} {L : List (List Int)} (hG : Grp g P L Q) (hP : Plc g P) : Grp g' (P ++ [false]) L (Q ++ [false]) := by
  induction hG with
  | nil => exact .nil _
  | snoc hG hi hr hmin ih =>
    rename_i Q L i
    have hQ := hG.plc hg hP
    have := ih.snoc (i := i) (by rw [h.len]; omega) (by rw [h.rdyE hg hg' hi]; exact hr) (fun j hj => by rw [h.rdyE hg hg' (by omega)]; exact hmin j hj)
    rw [h.clsE hg hi, putL_app fun k hk => (cls_free hQ ((rdy_iff hg).1 hr).1 k hk).1] at this
    exact this
theorem Less.gsE {g g' : List (List Int)} (hg : InR g) (hg' : InR g') (h : Less g g') : gs g' = gs g ++ [[(g.length : Int)]] := by
  obtain ⟨Q, h1, h2⟩ := isGroups_gs hg
  have hQ := h1.plc hg (plc0 g)
  have hG := h.grp hg hg' h1 (plc0 g)
  rw [← none0_succ, ← h.len] at hG
  have hall := unmet_zero h2
  have hc : cls g' g.length = [g.length] := by
    refine ascN_eq (cls_asc _ _) (List.pairwise_singleton _ _) fun k => ?_
    rw [cls_mem, List.mem_singleton, h.len]
    constructor
    · rintro ⟨h3, h4 | ⟨_, h4⟩⟩
      · exact h4
      · rcases Nat.lt_or_ge k g.length with h5 | h5
        · exact (h.no hg h5 h4).elim
        · omega
    · rintro rfl
      exact ⟨by omega, .inl rfl⟩
  have hr : rdy g' (Q ++ [false]) g.length = true := by
    rw [rdy_iff hg']
    refine ⟨?_, fun k hk => ?_⟩
    · rw [getD_snoc]
      cases hb : Q.getD g.length false with
      | false => rfl
      | true => have := getD_ltB hb; have := hQ.len; omega
    · have hk2 := (lds_lt hg' hk).2
      rw [h.len] at hk2
      by_cases e : k = g.length
      · exact .inr (.inl e)
      · exact .inr (.inr (by rw [getD_snoc]; exact hall k (by rw [hQ.len]; omega)))
  have hG2 := hG.snoc (i := g.length) (by rw [h.len]; omega) hr (fun j hj => by
    rw [h.rdyE hg hg' hj]
    cases hb : rdy g Q j with
    | false => rfl
    | true =>
      have := ((rdy_iff hg).1 hb).1
      rw [hall j (by rw [hQ.len]; omega)] at this
      cases this)
  rw [hc] at hG2
  have hun : unmet (putL (Q ++ [false]) [g.length]) = 0 := by
    have := putL_unmet (c := [g.length]) (P := Q ++ [false]) (fun k hk => by
      rw [List.mem_singleton] at hk
      subst hk
      refine ⟨by rw [List.length_append, List.length_singleton, hQ.len]; omega, ?_⟩
      exact ((rdy_iff hg').1 hr).1) (by simp)
    have h3 : unmet (Q ++ [false]) = unmet Q + 1 := by unfold unmet; simp
    rw [List.length_singleton] at this
    omega
  exact (IsGroups.eq hg' ⟨_, hG2, hun⟩).symm

theorem less_of {l : List Ind} {m : Ind} (h1 : Once (l ++ [m])) (h2 : Known l) : Less (gl l) (gl (l ++ [m])) ∧ ∀ i, i < l.length → (gl (l ++ [m])).getD i [] = (gl l).getD i [] := by
  have hg : ∀ k, k < l.length → (l ++ [m]).getD k i0 = l.getD k i0 := fun k hk => by
    rw [List.getD_eq_getElem?_getD, List.getD_eq_getElem?_getD, List.getElem?_append_left hk]
  have hm : (l ++ [m]).getD l.length i0 = m := by simp
  have hlen : (l ++ [m]).length = l.length + 1 := by simp
  have hrow : ∀ (l : List Ind) (i : Nat), i < l.length → (gl l).getD i [] = cs (nxt l i) := fun l i hi => by
    unfold gl glN
    rw [List.getD_eq_getElem?_getD, List.getElem?_map, List.getElem?_range hi]
    rfl
  have key : ∀ i, i < l.length → (gl (l ++ [m])).getD i [] = (gl l).getD i [] := by
    intro i hi
    rw [hrow _ _ (by omega), hrow _ _ hi]
    congr 1
    refine ascN_eq (nxt_asc _ _) (nxt_asc _ _) fun k => ?_
    rw [nxt_mem, nxt_mem, hg i hi, hlen]
    constructor
    · rintro ⟨hk, hq⟩
      rcases Nat.lt_or_ge k l.length with h | h
      · rw [hg k h] at hq; exact ⟨h, hq⟩
      · have hkl : k = l.length := by omega
        subst hkl
        obtain ⟨j, hj, e⟩ := h2 i hi _ hq
        have := h1.uniq (a := j) (b := l.length) (by omega) (by omega) (by rw [hg j hj]; exact e)
        omega
    · rintro ⟨hk, hq⟩
      exact ⟨by omega, by rw [hg k hk]; exact hq⟩
  exact ⟨⟨by rw [gl_len, gl_len, hlen], fun i hi => key i (by rw [gl_len] at hi; exact hi)⟩, key⟩
theorem once_less {l : List Ind} {m : Ind} (h : Once (l ++ [m])) : Once l := by
  intro i hi k hk
  have := h i (by simp; omega) k hk
  rwa [List.getD_eq_getElem?_getD, List.getD_eq_getElem?_getD, List.getElem?_append_left hi, List.getElem?_append_left (by omega), ← List.getD_eq_getElem?_getD, ← List.getD_eq_getElem?_getD] at this
theorem errG_zero {l : List Ind} (h : errG l = 0) : Once l ∧ Known l := by
  unfold errG at h
  split at h
  · split at h
    · split at h
      · exact ⟨by assumption, by assumption⟩
      · cases h
    · cases h
  · cases h
/-- All groups' numbers are places. -/
theorem gs_mem {g : List (List Int)} (hg : InR g) : ∀ c ∈ gs g, ∀ v ∈ c, 0 ≤ v ∧ v < (g.length : Int) := by
  obtain ⟨Q, h1, _⟩ := isGroups_gs hg
  have key : ∀ {P Q : List Bool} {L : List (List Int)}, Grp g P L Q → ∀ c ∈ L, ∀ v ∈ c, 0 ≤ v ∧ v < (g.length : Int) := by
    intro P Q L h
    induction h with
    | nil => intro c hc; cases hc
    | snoc _ hi _ _ ih =>
      intro c hc v hv
      rcases List.mem_append.1 hc with h | h
      · exact ih c h v hv
      · rw [List.mem_singleton] at h
        subst h
        unfold cs at hv
        obtain ⟨k, hk, rfl⟩ := List.mem_map.1 hv
        exact ⟨Int.natCast_nonneg k, Int.ofNat_lt.2 (cls_mem.1 hk).1⟩
  exact key h1
theorem gs_len {g : List (List Int)} (hg : InR g) : (gs g).length ≤ g.length ∧ ∀ c ∈ gs g, 0 < c.length ∧ c.length ≤ g.length := by
  obtain ⟨Q, h1, _⟩ := isGroups_gs hg
  have hr := h1.room hg (plc0 g)
  rw [unmet0] at hr
  refine ⟨by omega, ?_⟩
  have key : ∀ {P Q : List Bool} {L : List (List Int)}, Grp g P L Q → ∀ c ∈ L, 0 < c.length ∧ c.length ≤ g.length := by
    intro P Q L h
    induction h with
    | nil => intro c hc; cases hc
    | snoc _ hi _ _ ih =>
      rename_i i
      intro c hc
      rcases List.mem_append.1 hc with h | h
      · exact ih c h
      · rw [List.mem_singleton] at h
        subst h
        unfold cs
        rw [List.length_map]
        refine ⟨List.length_pos_of_mem (cls_mem.2 ⟨hi, .inl rfl⟩), ?_⟩
        unfold cls
        exact Nat.le_trans (List.length_filter_le _ _) (by rw [List.length_range]; exact Nat.le_refl _)
  exact key h1
theorem gs_ok {g : List (List Int)} (hg : InR g) (hl : g.length ≤ 1000) : LenOk (gs g) := by
  obtain ⟨h1, h2⟩ := gs_len hg
  exact ⟨by omega, fun c hc => by have := (h2 c hc).2; omega⟩
theorem gl_ok (l : List Ind) (h : l.length ≤ 1000) : LenOk (gl l) := by
  refine ⟨by rw [gl_len]; omega, fun r hr => ?_⟩
  have := (gl_in l (by omega) r hr).1
  omega

end Go.Proofs.Ytmcgfkkagijcmaa

namespace Go.Proofs.Ytmcgfkkagijcmaa
open Go.Own
set_option maxHeartbeats 4000000
set_option maxRecDepth 100000

noncomputable def glE (l : List Ind) : List (List Int) := if errG l = 0 then gl l else []
noncomputable def gsE (l : List Ind) : List (List Int) := if errG l = 0 then gs (gl l) else []
theorem apure_2 {f : FuncId} {args : List AV} {a a' b : AV} (h : APure Try.prog f args (fun rs => rs = [.val a, .val b])) (hl : LeT a a') : APure Try.prog f args (fun rs => rs = [.val a', .val b]) :=
  ⟨h.1, fun S w vs hS hT hv => (h.2 S w vs hS hT hv).mono fun e w' ⟨us, rs, S', he, hR, hL⟩ => by
    subst hR
    refine ⟨us, _, S', he, rfl, ⟨hL.len, fun j u r hj hr => ?_, hL.below, hL.ros, hL.fresh, hL.lt, fun i u b k h1 h2 h3 => ?_⟩⟩
    · cases j with
      | zero => simp at hr; subst hr; exact hl _ _ _ (hL.rel 0 u _ hj rfl)
      | succ j => exact hL.rel (j + 1) u r hj hr
    · cases i with
      | zero => simp at h2
      | succ i => cases i with
        | zero => simp at h2
        | succ i => simp at h2⟩
theorem graph2_ok (l : List Ind) (hl1 : l.length ≤ 9223372036854775807) (hx : l.length ≤ 400 → ∀ x ∈ l, OkX x) : APure Try.prog 9 [encXs l] (fun rs => rs = [.val (.sl 1 encIs [] (glE l)), .val (.int .i64 (errG l))]) := by
  have h := graph_ok l hl1 hx
  unfold rG at h
  unfold glE
  split
  · rename_i he
    rw [if_pos he] at h
    rw [he]
    exact h
  · rename_i he
    rw [if_neg he] at h
    exact apure_2 h (LeT.nils_sl _ _ _)
theorem groups2_ok (l : List Ind) (hl1 : l.length ≤ 9223372036854775807) (hx : l.length ≤ 400 → ∀ x ∈ l, OkX x) : APure Try.prog 11 [encXs l] (fun rs => rs = [.val (.sl 1 encIs [] (gsE l)), .val (.int .i64 (errG l))]) := by
  have h := groups_ok l hl1 hx
  unfold rGr at h
  unfold gsE
  split
  · rename_i he
    rw [if_pos he] at h
    rw [he]
    exact h
  · rename_i he
    rw [if_neg he] at h
    exact apure_2 h (LeT.nils_sl _ _ _)

theorem law_fewer (l : List Ind) (m : Ind) (hl : l.length * 304 ≤ 140737488351232) (hx : ∀ x ∈ l, InX x) (hm : InX m) : APureV Try.prog 5 [encXs l, encX m] (.bool true) := by
  have hw : ∀ x ∈ l ++ [m], InX x := fun x h => by
    rcases List.mem_append.1 h with h | h
    · exact hx x h
    · rw [List.mem_singleton] at h
      rw [h]
      exact hm
  have hwl : (l ++ [m]).length = l.length + 1 := by simp
  have hfew := few_ok (l ++ [m]) 11 (by omega) hw
  have hok : fewB (l ++ [m]) 11 = true → l.length ≤ 10 ∧ ∀ x ∈ l ++ [m], OkX x := fun h => by
    unfold fewB at h
    rw [Bool.and_eq_true, decide_eq_true_eq, List.all_eq_true] at h
    exact ⟨by omega, fun x hx => few_okX (hw x hx) (h.2 x hx)⟩
  refine apure_of (C := cx 142 [0, 1, 3, 4, 5, 6, 7, 8, 9, 10, 11, 12, 13, 14, 15, 16, 17, 18, 28, 55, 103, 107, 125]) (cxOk _ _) Try.func5 rfl (by decide) rfl (by exact Nat.le_of_ble_eq_true rfl) (by decide) ?_
  conv => whnf
  repeat (first | (refine And.intro ⟨by omega, by omega⟩ ?_; conv => whnf) | (refine And.intro (by omega) (And.intro rfl ?_); conv => whnf) | (refine And.intro rfl ?_; conv => whnf) | (refine And.intro (fun _ => ⟨by omega, by omega⟩) ?_; conv => whnf) | (refine And.intro (fun _ => by omega) (And.intro rfl ?_); conv => whnf) | (refine And.intro ⟨(by first | omega | (simp; omega)), (by first | omega | (simp; omega))⟩ ?_; conv => whnf) | (refine Exists.intro _ (And.intro rfl (And.intro (by first | omega | (simp; omega)) (And.intro ⟨rfl, rfl, rfl, rfl, rfl⟩ ?_))); conv => whnf) | (refine And.intro ⟨rfl, rfl⟩ (And.intro (by first | omega | (simp; omega)) ?_); conv => whnf) | (refine Exists.intro _ (And.intro rfl ?_); conv => whnf) | (refine And.intro (fun _ => ?_) (fun h => absurd h (by decide)); conv => whnf) | (refine And.intro (fun h => absurd h (by decide)) (fun _ => ?_); conv => whnf) | (refine .quiet (by kernel_rfl) ?_; conv => whnf))
  refine .one _ _ _ (fun _ => small_ok) (by repeat (first | exact .nil | (apply BorL.cons; first | exact lS rfl | exact lR rfl | exact lM rfl rfl | exact lL rfl | exact lX rfl | exact lN | exact lNl | exact lSm rfl | exact lIm rfl | exact lP rfl | exact lQ rfl | exact lB rfl rfl rfl))) (by first | exact .inl rfl | exact .inr (by repeat (first | exact flats_nil | refine flats_cons (by first | exact flat_val _ rfl | exact flat_row (fun _ => rfl) | exact flat_lst (fun _ => rfl)) ?_))) (by first | exact .inr rfl | exact .inl rfl) ?_
  conv => whnf
  refine drawG_frz (cxOk _ _) [4] ?_
  refine .eff (by first | exact cxOk _ _ | exact cxPOk _ _ _) ?_
  conv => whnf
  repeat (first | (refine And.intro ⟨by omega, by omega⟩ ?_; conv => whnf) | (refine And.intro (by omega) (And.intro rfl ?_); conv => whnf) | (refine And.intro rfl ?_; conv => whnf) | (refine And.intro (fun _ => ⟨by omega, by omega⟩) ?_; conv => whnf) | (refine And.intro (fun _ => by omega) (And.intro rfl ?_); conv => whnf) | (refine And.intro ⟨(by first | omega | (simp; omega)), (by first | omega | (simp; omega))⟩ ?_; conv => whnf) | (refine Exists.intro _ (And.intro rfl (And.intro (by first | omega | (simp; omega)) (And.intro ⟨rfl, rfl, rfl, rfl, rfl⟩ ?_))); conv => whnf) | (refine And.intro ⟨rfl, rfl⟩ (And.intro (by first | omega | (simp; omega)) ?_); conv => whnf) | (refine Exists.intro _ (And.intro rfl ?_); conv => whnf) | (refine And.intro (fun _ => ?_) (fun h => absurd h (by decide)); conv => whnf) | (refine And.intro (fun h => absurd h (by decide)) (fun _ => ?_); conv => whnf) | (refine .quiet (by kernel_rfl) ?_; conv => whnf))
  refine ⟨⟨rfl, rfl⟩, (show (0 + l.length) * 304 ≤ 140737488355328 by omega), ?_⟩
  conv => whnf
  refine ⟨rfl, ?_⟩
  conv => whnf
  repeat (first | (refine And.intro ⟨by omega, by omega⟩ ?_; conv => whnf) | (refine And.intro (by omega) (And.intro rfl ?_); conv => whnf) | (refine And.intro rfl ?_; conv => whnf) | (refine And.intro (fun _ => ⟨by omega, by omega⟩) ?_; conv => whnf) | (refine And.intro (fun _ => by omega) (And.intro rfl ?_); conv => whnf) | (refine And.intro ⟨(by first | omega | (simp; omega)), (by first | omega | (simp; omega))⟩ ?_; conv => whnf) | (refine Exists.intro _ (And.intro rfl (And.intro (by first | omega | (simp; omega)) (And.intro ⟨rfl, rfl, rfl, rfl, rfl⟩ ?_))); conv => whnf) | (refine And.intro ⟨rfl, rfl⟩ (And.intro (by first | omega | (simp; omega)) ?_); conv => whnf) | (refine Exists.intro _ (And.intro rfl ?_); conv => whnf) | (refine And.intro (fun _ => ?_) (fun h => absurd h (by decide)); conv => whnf) | (refine And.intro (fun h => absurd h (by decide)) (fun _ => ?_); conv => whnf) | (refine .eff (by first | exact cxOk _ _ | exact cxPOk _ _ _) ?_; conv => whnf))
  refine ⟨⟨rfl, rfl⟩, (show (l.length + 1) * 304 ≤ 140737488355328 by omega), ?_⟩
  conv => whnf
  refine ⟨m, rfl, ?_⟩
  conv => whnf
  repeat (first | (refine And.intro ⟨by omega, by omega⟩ ?_; conv => whnf) | (refine And.intro (by omega) (And.intro rfl ?_); conv => whnf) | (refine And.intro rfl ?_; conv => whnf) | (refine And.intro (fun _ => ⟨by omega, by omega⟩) ?_; conv => whnf) | (refine And.intro (fun _ => by omega) (And.intro rfl ?_); conv => whnf) | (refine And.intro ⟨(by first | omega | (simp; omega)), (by first | omega | (simp; omega))⟩ ?_; conv => whnf) | (refine Exists.intro _ (And.intro rfl (And.intro (by first | omega | (simp; omega)) (And.intro ⟨rfl, rfl, rfl, rfl, rfl⟩ ?_))); conv => whnf) | (refine And.intro ⟨rfl, rfl⟩ (And.intro (by first | omega | (simp; omega)) ?_); conv => whnf) | (refine Exists.intro _ (And.intro rfl ?_); conv => whnf) | (refine And.intro (fun _ => ?_) (fun h => absurd h (by decide)); conv => whnf) | (refine And.intro (fun h => absurd h (by decide)) (fun _ => ?_); conv => whnf) | (refine .eff (by first | exact cxOk _ _ | exact cxPOk _ _ _) ?_; conv => whnf))
  refine .one _ _ _ (fun _ => hfew) (by repeat (first | exact .nil | (apply BorL.cons; first | exact lS rfl | exact lR rfl | exact lM rfl rfl | exact lL rfl | exact lX rfl | exact lN | exact lNl | exact lSm rfl | exact lIm rfl | exact lP rfl | exact lQ rfl | exact lB rfl rfl rfl))) (by first | exact .inl rfl | exact .inr (by repeat (first | exact flats_nil | refine flats_cons (by first | exact flat_val _ rfl | exact flat_row (fun _ => rfl) | exact flat_lst (fun _ => rfl)) ?_))) (by first | exact .inr rfl | exact .inl rfl) ?_
  conv => whnf
  repeat (first | (refine And.intro ⟨by omega, by omega⟩ ?_; conv => whnf) | (refine And.intro (by omega) (And.intro rfl ?_); conv => whnf) | (refine And.intro rfl ?_; conv => whnf) | (refine And.intro (fun _ => ⟨by omega, by omega⟩) ?_; conv => whnf) | (refine And.intro (fun _ => by omega) (And.intro rfl ?_); conv => whnf) | (refine And.intro ⟨(by first | omega | (simp; omega)), (by first | omega | (simp; omega))⟩ ?_; conv => whnf) | (refine Exists.intro _ (And.intro rfl (And.intro (by first | omega | (simp; omega)) (And.intro ⟨rfl, rfl, rfl, rfl, rfl⟩ ?_))); conv => whnf) | (refine And.intro ⟨rfl, rfl⟩ (And.intro (by first | omega | (simp; omega)) ?_); conv => whnf) | (refine Exists.intro _ (And.intro rfl ?_); conv => whnf) | (refine And.intro (fun _ => ?_) (fun h => absurd h (by decide)); conv => whnf) | (refine And.intro (fun h => absurd h (by decide)) (fun _ => ?_); conv => whnf) | (refine .eff (by first | exact cxOk _ _ | exact cxPOk _ _ _) ?_; conv => whnf))
  cases hfb : fewB (l ++ [m]) 11 with
  | false =>
    conv => whnf
    refine ⟨fun _ => ?_, fun h => (by cases h)⟩
    conv => whnf
    rfl
  | true =>
  obtain ⟨hl10, hokx⟩ := hok hfb
  refine ⟨fun h => (by cases h), fun _ => ?_⟩
  have hg1 := graph2_ok l (by omega) (fun _ x hx => hokx x (List.mem_append_left _ hx))
  have hg2 := graph2_ok (l ++ [m]) (by omega) (fun _ => hokx)
  have hg3 := groups2_ok l (by omega) (fun _ x hx => hokx x (List.mem_append_left _ hx))
  have hg4 := groups2_ok (l ++ [m]) (by omega) (fun _ => hokx)
  by_cases h0 : errG l = 0 ∧ errG (l ++ [m]) = 0
  · obtain ⟨h1, h2⟩ := h0
    obtain ⟨ho1, hk1⟩ := errG_zero h1
    obtain ⟨ho2, hk2⟩ := errG_zero h2
    obtain ⟨hless, hrows⟩ := less_of ho2 hk1
    have hi1 := gl_in l (by omega)
    have hi2 := gl_in (l ++ [m]) (by omega)
    have hgs := hless.gsE hi1 hi2
    have hgl1 := gl_len l
    have hgl2 := gl_len (l ++ [m])
    have hlk1 := gl_ok l (by omega)
    have hlk3 := gs_ok hi1 (by omega)
    have hmem := gs_mem hi1
    have htake : (gl (l ++ [m])).take l.length = gl l := by
      refine lists_eq (by rw [List.length_take, hgl2, hgl1]; omega) fun k hk => ?_
      rw [List.length_take] at hk
      rw [List.getD_eq_getElem?_getD, List.getElem?_take, if_pos (by omega), ← List.getD_eq_getElem?_getD]
      exact hrows k (by omega)
    have hc1 : ∀ Z, Z = gl l → APureV Try.prog 13 [.sl 1 encIs [] (gl l), .sl 1 encIs [] Z] (.bool true) := fun Z e => by
      rw [e]
      have := lists_ok (gl l) (gl l) hlk1 hlk1
      rwa [decide_eq_true rfl] at this
    have hc2 := lists_ok (gs (gl l)) (gs (gl l)) hlk3 hlk3
    rw [decide_eq_true rfl] at hc2
    rw [show glE l = gl l by unfold glE; rw [if_pos h1], h1] at hg1
    rw [show glE (l ++ [m]) = gl (l ++ [m]) by unfold glE; rw [if_pos h2], h2] at hg2
    rw [show gsE l = gs (gl l) by unfold gsE; rw [if_pos h1], h1] at hg3
    rw [show gsE (l ++ [m]) = gs (gl (l ++ [m])) by unfold gsE; rw [if_pos h2], h2, hgs, hgl1] at hg4
    have hDl : (gs (gl l) ++ [[(l.length : Int)]]).length = (gs (gl l)).length + 1 := by simp
    have hcl := (gs_len hi1).1
    have hcl2 := (gs_len hi1).2
    generalize gs (gl l) = C at *
    generalize hG1 : gl l = A at *
    generalize hG2 : gl (l ++ [m]) = B at *
    have hDk : ∀ k, k < C.length → (C ++ [[(l.length : Int)]]).getD k [] = C.getD k [] := fun k hk => by
      rw [List.getD_eq_getElem?_getD, List.getD_eq_getElem?_getD, List.getElem?_append_left hk]
    have hDn : (C ++ [[(l.length : Int)]]).getD C.length [] = [(l.length : Int)] := by simp
    generalize hD : C ++ [[(l.length : Int)]] = D at *
    conv => whnf
    refine .one _ _ _ (fun _ => hg1) (by repeat (first | exact .nil | (apply BorL.cons; first | exact lS rfl | exact lR rfl | exact lM rfl rfl | exact lL rfl | exact lX rfl | exact lN | exact lNl | exact lSm rfl | exact lIm rfl | exact lP rfl | exact lQ rfl | exact lB rfl rfl rfl))) (by first | exact .inl rfl | exact .inr (by repeat (first | exact flats_nil | refine flats_cons (by first | exact flat_val _ rfl | exact flat_row (fun _ => rfl) | exact flat_lst (fun _ => rfl)) ?_))) (by first | exact .inr rfl | exact .inl rfl) ?_
    conv => whnf
    repeat (first | (refine And.intro ⟨by omega, by omega⟩ ?_; conv => whnf) | (refine And.intro (by omega) (And.intro rfl ?_); conv => whnf) | (refine And.intro rfl ?_; conv => whnf) | (refine And.intro (fun _ => ⟨by omega, by omega⟩) ?_; conv => whnf) | (refine And.intro (fun _ => by omega) (And.intro rfl ?_); conv => whnf) | (refine And.intro ⟨(by first | omega | (simp; omega)), (by first | omega | (simp; omega))⟩ ?_; conv => whnf) | (refine Exists.intro _ (And.intro rfl (And.intro (by first | omega | (simp; omega)) (And.intro ⟨rfl, rfl, rfl, rfl, rfl⟩ ?_))); conv => whnf) | (refine And.intro ⟨rfl, rfl⟩ (And.intro (by first | omega | (simp; omega)) ?_); conv => whnf) | (refine Exists.intro _ (And.intro rfl ?_); conv => whnf) | (refine And.intro (fun _ => ?_) (fun h => absurd h (by decide)); conv => whnf) | (refine And.intro (fun h => absurd h (by decide)) (fun _ => ?_); conv => whnf) | (refine .quiet (by kernel_rfl) ?_; conv => whnf))
    refine .one _ _ _ (fun _ => hg2) (by repeat (first | exact .nil | (apply BorL.cons; first | exact lS rfl | exact lR rfl | exact lM rfl rfl | exact lL rfl | exact lX rfl | exact lN | exact lNl | exact lSm rfl | exact lIm rfl | exact lP rfl | exact lQ rfl | exact lB rfl rfl rfl))) (by first | exact .inl rfl | exact .inr (by repeat (first | exact flats_nil | refine flats_cons (by first | exact flat_val _ rfl | exact flat_row (fun _ => rfl) | exact flat_lst (fun _ => rfl)) ?_))) (by first | exact .inr rfl | exact .inl rfl) ?_
    conv => whnf
    repeat (first | (refine And.intro ⟨by omega, by omega⟩ ?_; conv => whnf) | (refine And.intro (by omega) (And.intro rfl ?_); conv => whnf) | (refine And.intro rfl ?_; conv => whnf) | (refine And.intro (fun _ => ⟨by omega, by omega⟩) ?_; conv => whnf) | (refine And.intro (fun _ => by omega) (And.intro rfl ?_); conv => whnf) | (refine And.intro ⟨(by first | omega | (simp; omega)), (by first | omega | (simp; omega))⟩ ?_; conv => whnf) | (refine Exists.intro _ (And.intro rfl (And.intro (by first | omega | (simp; omega)) (And.intro ⟨rfl, rfl, rfl, rfl, rfl⟩ ?_))); conv => whnf) | (refine And.intro ⟨rfl, rfl⟩ (And.intro (by first | omega | (simp; omega)) ?_); conv => whnf) | (refine Exists.intro _ (And.intro rfl ?_); conv => whnf) | (refine And.intro (fun _ => ?_) (fun h => absurd h (by decide)); conv => whnf) | (refine And.intro (fun h => absurd h (by decide)) (fun _ => ?_); conv => whnf) | (refine .quiet (by kernel_rfl) ?_; conv => whnf))
    refine .one _ _ _ (fun _ => hg3) (by repeat (first | exact .nil | (apply BorL.cons; first | exact lS rfl | exact lR rfl | exact lM rfl rfl | exact lL rfl | exact lX rfl | exact lN | exact lNl | exact lSm rfl | exact lIm rfl | exact lP rfl | exact lQ rfl | exact lB rfl rfl rfl))) (by first | exact .inl rfl | exact .inr (by repeat (first | exact flats_nil | refine flats_cons (by first | exact flat_val _ rfl | exact flat_row (fun _ => rfl) | exact flat_lst (fun _ => rfl)) ?_))) (by first | exact .inr rfl | exact .inl rfl) ?_
    conv => whnf
    repeat (first | (refine And.intro ⟨by omega, by omega⟩ ?_; conv => whnf) | (refine And.intro (by omega) (And.intro rfl ?_); conv => whnf) | (refine And.intro rfl ?_; conv => whnf) | (refine And.intro (fun _ => ⟨by omega, by omega⟩) ?_; conv => whnf) | (refine And.intro (fun _ => by omega) (And.intro rfl ?_); conv => whnf) | (refine And.intro ⟨(by first | omega | (simp; omega)), (by first | omega | (simp; omega))⟩ ?_; conv => whnf) | (refine Exists.intro _ (And.intro rfl (And.intro (by first | omega | (simp; omega)) (And.intro ⟨rfl, rfl, rfl, rfl, rfl⟩ ?_))); conv => whnf) | (refine And.intro ⟨rfl, rfl⟩ (And.intro (by first | omega | (simp; omega)) ?_); conv => whnf) | (refine Exists.intro _ (And.intro rfl ?_); conv => whnf) | (refine And.intro (fun _ => ?_) (fun h => absurd h (by decide)); conv => whnf) | (refine And.intro (fun h => absurd h (by decide)) (fun _ => ?_); conv => whnf) | (refine .quiet (by kernel_rfl) ?_; conv => whnf))
    refine .one _ _ _ (fun _ => hg4) (by repeat (first | exact .nil | (apply BorL.cons; first | exact lS rfl | exact lR rfl | exact lM rfl rfl | exact lL rfl | exact lX rfl | exact lN | exact lNl | exact lSm rfl | exact lIm rfl | exact lP rfl | exact lQ rfl | exact lB rfl rfl rfl))) (by first | exact .inl rfl | exact .inr (by repeat (first | exact flats_nil | refine flats_cons (by first | exact flat_val _ rfl | exact flat_row (fun _ => rfl) | exact flat_lst (fun _ => rfl)) ?_))) (by first | exact .inr rfl | exact .inl rfl) ?_
    conv => whnf
    repeat (first | (refine And.intro ⟨by omega, by omega⟩ ?_; conv => whnf) | (refine And.intro (by omega) (And.intro rfl ?_); conv => whnf) | (refine And.intro rfl ?_; conv => whnf) | (refine And.intro (fun _ => ⟨by omega, by omega⟩) ?_; conv => whnf) | (refine And.intro (fun _ => by omega) (And.intro rfl ?_); conv => whnf) | (refine And.intro ⟨(by first | omega | (simp; omega)), (by first | omega | (simp; omega))⟩ ?_; conv => whnf) | (refine Exists.intro _ (And.intro rfl (And.intro (by first | omega | (simp; omega)) (And.intro ⟨rfl, rfl, rfl, rfl, rfl⟩ ?_))); conv => whnf) | (refine And.intro ⟨rfl, rfl⟩ (And.intro (by first | omega | (simp; omega)) ?_); conv => whnf) | (refine Exists.intro _ (And.intro rfl ?_); conv => whnf) | (refine And.intro (fun _ => ?_) (fun h => absurd h (by decide)); conv => whnf) | (refine And.intro (fun h => absurd h (by decide)) (fun _ => ?_); conv => whnf) | (refine .quiet (by kernel_rfl) ?_; conv => whnf))
    refine .one _ _ _ (fun _ => (hc1 _ (by show List.take ((l.length : Int).toNat - 0) (List.drop 0 B) = A; rw [Int.toNat_natCast]; exact htake))) (by repeat (first | exact .nil | (apply BorL.cons; first | exact lS rfl | exact lR rfl | exact lM rfl rfl | exact lL rfl | exact lX rfl | exact lN | exact lNl | exact lSm rfl | exact lIm rfl | exact lP rfl | exact lQ rfl | exact lB rfl rfl rfl))) (by first | exact .inl rfl | exact .inr (by repeat (first | exact flats_nil | refine flats_cons (by first | exact flat_val _ rfl | exact flat_row (fun _ => rfl) | exact flat_lst (fun _ => rfl)) ?_))) (by first | exact .inr rfl | exact .inl rfl) ?_
    conv => whnf
    repeat (first | (refine And.intro ⟨by omega, by omega⟩ ?_; conv => whnf) | (refine And.intro (by omega) (And.intro rfl ?_); conv => whnf) | (refine And.intro rfl ?_; conv => whnf) | (refine And.intro (fun _ => ⟨by omega, by omega⟩) ?_; conv => whnf) | (refine And.intro (fun _ => by omega) (And.intro rfl ?_); conv => whnf) | (refine And.intro ⟨(by first | omega | (simp; omega)), (by first | omega | (simp; omega))⟩ ?_; conv => whnf) | (refine Exists.intro _ (And.intro rfl (And.intro (by first | omega | (simp; omega)) (And.intro ⟨rfl, rfl, rfl, rfl, rfl⟩ ?_))); conv => whnf) | (refine And.intro ⟨rfl, rfl⟩ (And.intro (by first | omega | (simp; omega)) ?_); conv => whnf) | (refine Exists.intro _ (And.intro rfl ?_); conv => whnf) | (refine And.intro (fun _ => ?_) (fun h => absurd h (by decide)); conv => whnf) | (refine And.intro (fun h => absurd h (by decide)) (fun _ => ?_); conv => whnf) | (refine .quiet (by kernel_rfl) ?_; conv => whnf))
    have hb2 : (!decide ((0 : Int) = 0) || !decide ((0 : Int) = 0) || !decide ((A.length : Int) = (l.length : Int)) || !decide ((B.length : Int) = (l.length : Int) + 1) || !true || !decide ((D.length : Int) = (C.length : Int) + 1)) = false := by
      rw [decide_eq_true (by omega : (A.length : Int) = (l.length : Int)), decide_eq_true (by omega : (B.length : Int) = (l.length : Int) + 1), decide_eq_true (by omega : (D.length : Int) = (C.length : Int) + 1)]
      rfl
    refine ⟨fun h => (by rw [hb2] at h; cases h), fun _ => ?_⟩
    conv => whnf
    repeat (first | (refine And.intro ⟨by omega, by omega⟩ ?_; conv => whnf) | (refine And.intro (by omega) (And.intro rfl ?_); conv => whnf) | (refine And.intro rfl ?_; conv => whnf) | (refine And.intro (fun _ => ⟨by omega, by omega⟩) ?_; conv => whnf) | (refine And.intro (fun _ => by omega) (And.intro rfl ?_); conv => whnf) | (refine And.intro ⟨(by first | omega | (simp; omega)), (by first | omega | (simp; omega))⟩ ?_; conv => whnf) | (refine Exists.intro _ (And.intro rfl (And.intro (by first | omega | (simp; omega)) (And.intro ⟨rfl, rfl, rfl, rfl, rfl⟩ ?_))); conv => whnf) | (refine And.intro ⟨rfl, rfl⟩ (And.intro (by first | omega | (simp; omega)) ?_); conv => whnf) | (refine Exists.intro _ (And.intro rfl ?_); conv => whnf) | (refine And.intro (fun _ => ?_) (fun h => absurd h (by decide)); conv => whnf) | (refine And.intro (fun h => absurd h (by decide)) (fun _ => ?_); conv => whnf) | (refine .quiet (by kernel_rfl) ?_; conv => whnf))
    refine loop_up (cxOk _ _) D.length (fun _ => True) (fun k => ⟨[(5, .bool true), (11, .sl 1 encIs [] C), (13, .sl 1 encIs [] D), (15, .int .i64 (l.length : Nat)), (16, .own 0), (17, .bool (decide (C.length < k))), (18, .int .i64 (k : Nat))], [(0, .row 24 1 encIs [] (C.take k))], 1⟩) trivial ((wk_of [(0, .nil)] rfl ⟨.base (.tree _ _ rfl rfl), .base (.tree _ _ rfl rfl), .base (.tree _ _ rfl rfl), .base (.tree _ _ rfl rfl), (by first | exact .base (.own _ _ rfl) | exact .base (.nilown _ rfl) | exact .base (.trunc _ _ _ rfl)), .base (.tree _ _ (show AV.bool _ = AV.bool _ by rw [decide_eq_false (Nat.not_lt_zero _)]) rfl), .base (.tree _ _ rfl rfl), trivial⟩ ⟨⟨_, rfl, (by first | exact .row _ _ _ _ _ _ _ rfl rfl | exact .lstrow _ _ _ _ _ _ _ rfl rfl | exact .nilrow _ _ _ _ _ rfl | exact .truncrow _ _ _ _ _ _ _ _ rfl (by omega) rfl)⟩, trivial⟩)) ?_
    intro k hk _
    conv => whnf
    refine ⟨fun hd => ?_, fun hd => ?_⟩
    · have hd := of_decide_eq_true hd
      have hlt : k < D.length := by omega
      have hek : (k : Int).toNat = k := Int.toNat_natCast k
      have hdk : (D.getD k []).length ≤ 1000 ∧ 0 < (D.getD k []).length := by
        by_cases hkc : k < C.length
        · rw [hDk k hkc]
          have := hcl2 _ (getD_mem (d := []) hkc)
          omega
        · rw [show k = C.length by omega, hDn]
          exact ⟨Nat.le_trans (Nat.le_refl 1) (by decide), Nat.zero_lt_one⟩
      conv => whnf
      repeat (first | (refine And.intro ⟨by omega, by omega⟩ ?_; conv => whnf) | (refine And.intro (by omega) (And.intro rfl ?_); conv => whnf) | (refine And.intro rfl ?_; conv => whnf) | (refine And.intro (fun _ => ⟨by omega, by omega⟩) ?_; conv => whnf) | (refine And.intro (fun _ => by omega) (And.intro rfl ?_); conv => whnf) | (refine And.intro ⟨(by first | omega | (simp; omega)), (by first | omega | (simp; omega))⟩ ?_; conv => whnf) | (refine Exists.intro _ (And.intro rfl (And.intro (by first | omega | (simp; omega)) (And.intro ⟨rfl, rfl, rfl, rfl, rfl⟩ ?_))); conv => whnf) | (refine And.intro ⟨rfl, rfl⟩ (And.intro (by first | omega | (simp; omega)) ?_); conv => whnf) | (refine Exists.intro _ (And.intro rfl ?_); conv => whnf) | (refine And.intro (fun _ => ?_) (fun h => absurd h (by decide)); conv => whnf) | (refine And.intro (fun h => absurd h (by decide)) (fun _ => ?_); conv => whnf) | (refine .quiet (by kernel_rfl) ?_; conv => whnf))
      rw [hek]
      conv => whnf
      repeat (first | (refine And.intro ⟨by omega, by omega⟩ ?_; conv => whnf) | (refine And.intro (by omega) (And.intro rfl ?_); conv => whnf) | (refine And.intro rfl ?_; conv => whnf) | (refine And.intro (fun _ => ⟨by omega, by omega⟩) ?_; conv => whnf) | (refine And.intro (fun _ => by omega) (And.intro rfl ?_); conv => whnf) | (refine And.intro ⟨(by first | omega | (simp; omega)), (by first | omega | (simp; omega))⟩ ?_; conv => whnf) | (refine Exists.intro _ (And.intro rfl (And.intro (by first | omega | (simp; omega)) (And.intro ⟨rfl, rfl, rfl, rfl, rfl⟩ ?_))); conv => whnf) | (refine And.intro ⟨rfl, rfl⟩ (And.intro (by first | omega | (simp; omega)) ?_); conv => whnf) | (refine Exists.intro _ (And.intro rfl ?_); conv => whnf) | (refine And.intro (fun _ => ?_) (fun h => absurd h (by decide)); conv => whnf) | (refine And.intro (fun h => absurd h (by decide)) (fun _ => ?_); conv => whnf) | (refine .quiet (by kernel_rfl) ?_; conv => whnf))
      have hv : (decide (((D.getD k []).length : Int) = 1) && decide ((D.getD k []).getD (Int.toNat 0) 0 = (l.length : Int))) = decide (k = C.length) := by
        by_cases hkc : k < C.length
        · rw [decide_eq_false (by omega : ¬ k = C.length), Bool.and_eq_false_iff, decide_eq_false_iff_not, decide_eq_false_iff_not]
          rw [show Int.toNat 0 = 0 from rfl]
          by_cases h1 : ((D.getD k []).length : Int) = 1
          · right
            rw [hDk k hkc] at hdk ⊢
            have := (hmem _ (getD_mem (d := []) hkc) _ (getD_mem (d := 0) hdk.2)).2
            omega
          · exact .inl h1
        · have hkn : k = C.length := by omega
          rw [hkn, hDn, decide_eq_true rfl]
          simp
      rw [hv]
      refine ⟨fun he => ?_, fun he => ?_⟩
      · have he := of_decide_eq_true he
        subst he
        conv => whnf
        repeat (first | (refine And.intro ⟨by omega, by omega⟩ ?_; conv => whnf) | (refine And.intro (by omega) (And.intro rfl ?_); conv => whnf) | (refine And.intro rfl ?_; conv => whnf) | (refine And.intro (fun _ => ⟨by omega, by omega⟩) ?_; conv => whnf) | (refine And.intro (fun _ => by omega) (And.intro rfl ?_); conv => whnf) | (refine And.intro ⟨(by first | omega | (simp; omega)), (by first | omega | (simp; omega))⟩ ?_; conv => whnf) | (refine Exists.intro _ (And.intro rfl (And.intro (by first | omega | (simp; omega)) (And.intro ⟨rfl, rfl, rfl, rfl, rfl⟩ ?_))); conv => whnf) | (refine And.intro ⟨rfl, rfl⟩ (And.intro (by first | omega | (simp; omega)) ?_); conv => whnf) | (refine Exists.intro _ (And.intro rfl ?_); conv => whnf) | (refine And.intro (fun _ => ?_) (fun h => absurd h (by decide)); conv => whnf) | (refine And.intro (fun h => absurd h (by decide)) (fun _ => ?_); conv => whnf) | (refine .quiet (by kernel_rfl) ?_; conv => whnf))
        refine up hlt trivial ((wk_of [(0, .id 0)] rfl ⟨.base (.tree _ _ rfl rfl), .base (.tree _ _ rfl rfl), .base (.tree _ _ rfl rfl), .base (.tree _ _ rfl rfl), (by first | exact .base (.own _ _ rfl) | exact .base (.nilown _ rfl) | exact .base (.trunc _ _ _ rfl)), .base (.tree _ _ (show AV.bool _ = AV.bool _ by rw [decide_eq_true (Nat.lt_succ_self _)]) rfl), .base (.tree _ _ rfl rfl), trivial⟩ ⟨⟨_, rfl, (by first | exact .row _ _ _ _ _ _ _ rfl (by rw [List.take_of_length_le (Nat.le_refl _), List.take_of_length_le (Nat.le_succ _)]) | exact .lstrow _ _ _ _ _ _ _ rfl (by rw [List.take_of_length_le (Nat.le_refl _), List.take_of_length_le (Nat.le_succ _)]) | exact .nilrow _ _ _ _ _ (by rw [List.take_of_length_le (Nat.le_refl _), List.take_of_length_le (Nat.le_succ _)]) | exact .truncrow _ _ _ _ _ _ _ _ rfl (by omega) (by rw [List.take_of_length_le (Nat.le_refl _), List.take_of_length_le (Nat.le_succ _)]))⟩, trivial⟩))
      · have he := of_decide_eq_false he
        have hkc : k < C.length := by omega
        have hcd := hDk k hkc
        have htl : (C.take k).length = k := by rw [List.length_take]; omega
        conv => whnf
        repeat (first | (refine And.intro ⟨by omega, by omega⟩ ?_; conv => whnf) | (refine And.intro (by omega) (And.intro rfl ?_); conv => whnf) | (refine And.intro rfl ?_; conv => whnf) | (refine And.intro (fun _ => ⟨by omega, by omega⟩) ?_; conv => whnf) | (refine And.intro (fun _ => by omega) (And.intro rfl ?_); conv => whnf) | (refine And.intro ⟨(by first | omega | (simp; omega)), (by first | omega | (simp; omega))⟩ ?_; conv => whnf) | (refine Exists.intro _ (And.intro rfl (And.intro (by first | omega | (simp; omega)) (And.intro ⟨rfl, rfl, rfl, rfl, rfl⟩ ?_))); conv => whnf) | (refine And.intro ⟨rfl, rfl⟩ (And.intro (by first | omega | (simp; omega)) ?_); conv => whnf) | (refine Exists.intro _ (And.intro rfl ?_); conv => whnf) | (refine And.intro (fun _ => ?_) (fun h => absurd h (by decide)); conv => whnf) | (refine And.intro (fun h => absurd h (by decide)) (fun _ => ?_); conv => whnf) | (refine .quiet (by kernel_rfl) ?_; conv => whnf))
        rw [hek, hcd]
        conv => whnf
        refine ⟨⟨rfl, rfl⟩, (show ((C.take k).length + 1) * 24 ≤ 140737488355328 by omega), ?_⟩
        conv => whnf
        refine ⟨C.getD k [], rfl, ?_⟩
        conv => whnf
        repeat (first | (refine And.intro ⟨by omega, by omega⟩ ?_; conv => whnf) | (refine And.intro (by omega) (And.intro rfl ?_); conv => whnf) | (refine And.intro rfl ?_; conv => whnf) | (refine And.intro (fun _ => ⟨by omega, by omega⟩) ?_; conv => whnf) | (refine And.intro (fun _ => by omega) (And.intro rfl ?_); conv => whnf) | (refine And.intro ⟨(by first | omega | (simp; omega)), (by first | omega | (simp; omega))⟩ ?_; conv => whnf) | (refine Exists.intro _ (And.intro rfl (And.intro (by first | omega | (simp; omega)) (And.intro ⟨rfl, rfl, rfl, rfl, rfl⟩ ?_))); conv => whnf) | (refine And.intro ⟨rfl, rfl⟩ (And.intro (by first | omega | (simp; omega)) ?_); conv => whnf) | (refine Exists.intro _ (And.intro rfl ?_); conv => whnf) | (refine And.intro (fun _ => ?_) (fun h => absurd h (by decide)); conv => whnf) | (refine And.intro (fun h => absurd h (by decide)) (fun _ => ?_); conv => whnf) | (refine .quiet (by kernel_rfl) ?_; conv => whnf))
        refine up hlt trivial ((wk_of [(0, .id 2)] rfl ⟨.base (.tree _ _ rfl rfl), .base (.tree _ _ rfl rfl), .base (.tree _ _ rfl rfl), .base (.tree _ _ rfl rfl), (by first | exact .base (.own _ _ rfl) | exact .base (.nilown _ rfl) | exact .base (.trunc _ _ _ rfl)), .base (.tree _ _ (show AV.bool _ = AV.bool _ by rw [decide_eq_false (by omega), decide_eq_false (by omega)]) rfl), .base (.tree _ _ rfl rfl), trivial⟩ ⟨⟨_, rfl, (by first | exact .row _ _ _ _ _ _ _ rfl (by rw [take_getD (d := []) hkc]) | exact .lstrow _ _ _ _ _ _ _ rfl (by rw [take_getD (d := []) hkc]) | exact .nilrow _ _ _ _ _ (by rw [take_getD (d := []) hkc]) | exact .truncrow _ _ _ _ _ _ _ _ rfl (by omega) (by rw [take_getD (d := []) hkc]))⟩, trivial⟩))
    · have hd := of_decide_eq_false hd
      have hkd : k = C.length + 1 := by omega
      subst hkd
      have hfin : (C.take (C.length + 1)) = C := List.take_of_length_le (Nat.le_succ _)
      rw [hfin, decide_eq_true (Nat.lt_succ_self _)]
      conv => whnf
      refine .one _ _ _ (fun _ => hc2) (by repeat (first | exact .nil | (apply BorL.cons; first | exact lS rfl | exact lR rfl | exact lM rfl rfl | exact lL rfl | exact lX rfl | exact lN | exact lNl | exact lSm rfl | exact lIm rfl | exact lP rfl | exact lQ rfl | exact lB rfl rfl rfl))) (by first | exact .inl rfl | exact .inr (by repeat (first | exact flats_nil | refine flats_cons (by first | exact flat_val _ rfl | exact flat_row (fun _ => rfl) | exact flat_lst (fun _ => rfl)) ?_))) (by first | exact .inr rfl | exact .inl rfl) ?_
      conv => whnf
      repeat (first | (refine And.intro ⟨by omega, by omega⟩ ?_; conv => whnf) | (refine And.intro (by omega) (And.intro rfl ?_); conv => whnf) | (refine And.intro rfl ?_; conv => whnf) | (refine And.intro (fun _ => ⟨by omega, by omega⟩) ?_; conv => whnf) | (refine And.intro (fun _ => by omega) (And.intro rfl ?_); conv => whnf) | (refine And.intro ⟨(by first | omega | (simp; omega)), (by first | omega | (simp; omega))⟩ ?_; conv => whnf) | (refine Exists.intro _ (And.intro rfl (And.intro (by first | omega | (simp; omega)) (And.intro ⟨rfl, rfl, rfl, rfl, rfl⟩ ?_))); conv => whnf) | (refine And.intro ⟨rfl, rfl⟩ (And.intro (by first | omega | (simp; omega)) ?_); conv => whnf) | (refine Exists.intro _ (And.intro rfl ?_); conv => whnf) | (refine And.intro (fun _ => ?_) (fun h => absurd h (by decide)); conv => whnf) | (refine And.intro (fun h => absurd h (by decide)) (fun _ => ?_); conv => whnf) | (refine .quiet (by kernel_rfl) ?_; conv => whnf))
      rfl
  · conv => whnf
    refine .one _ _ _ (fun _ => hg1) (by repeat (first | exact .nil | (apply BorL.cons; first | exact lS rfl | exact lR rfl | exact lM rfl rfl | exact lL rfl | exact lX rfl | exact lN | exact lNl | exact lSm rfl | exact lIm rfl | exact lP rfl | exact lQ rfl | exact lB rfl rfl rfl))) (by first | exact .inl rfl | exact .inr (by repeat (first | exact flats_nil | refine flats_cons (by first | exact flat_val _ rfl | exact flat_row (fun _ => rfl) | exact flat_lst (fun _ => rfl)) ?_))) (by first | exact .inr rfl | exact .inl rfl) ?_
    conv => whnf
    repeat (first | (refine And.intro ⟨by omega, by omega⟩ ?_; conv => whnf) | (refine And.intro (by omega) (And.intro rfl ?_); conv => whnf) | (refine And.intro rfl ?_; conv => whnf) | (refine And.intro (fun _ => ⟨by omega, by omega⟩) ?_; conv => whnf) | (refine And.intro (fun _ => by omega) (And.intro rfl ?_); conv => whnf) | (refine And.intro ⟨(by first | omega | (simp; omega)), (by first | omega | (simp; omega))⟩ ?_; conv => whnf) | (refine Exists.intro _ (And.intro rfl (And.intro (by first | omega | (simp; omega)) (And.intro ⟨rfl, rfl, rfl, rfl, rfl⟩ ?_))); conv => whnf) | (refine And.intro ⟨rfl, rfl⟩ (And.intro (by first | omega | (simp; omega)) ?_); conv => whnf) | (refine Exists.intro _ (And.intro rfl ?_); conv => whnf) | (refine And.intro (fun _ => ?_) (fun h => absurd h (by decide)); conv => whnf) | (refine And.intro (fun h => absurd h (by decide)) (fun _ => ?_); conv => whnf) | (refine .quiet (by kernel_rfl) ?_; conv => whnf))
    refine .one _ _ _ (fun _ => hg2) (by repeat (first | exact .nil | (apply BorL.cons; first | exact lS rfl | exact lR rfl | exact lM rfl rfl | exact lL rfl | exact lX rfl | exact lN | exact lNl | exact lSm rfl | exact lIm rfl | exact lP rfl | exact lQ rfl | exact lB rfl rfl rfl))) (by first | exact .inl rfl | exact .inr (by repeat (first | exact flats_nil | refine flats_cons (by first | exact flat_val _ rfl | exact flat_row (fun _ => rfl) | exact flat_lst (fun _ => rfl)) ?_))) (by first | exact .inr rfl | exact .inl rfl) ?_
    conv => whnf
    repeat (first | (refine And.intro ⟨by omega, by omega⟩ ?_; conv => whnf) | (refine And.intro (by omega) (And.intro rfl ?_); conv => whnf) | (refine And.intro rfl ?_; conv => whnf) | (refine And.intro (fun _ => ⟨by omega, by omega⟩) ?_; conv => whnf) | (refine And.intro (fun _ => by omega) (And.intro rfl ?_); conv => whnf) | (refine And.intro ⟨(by first | omega | (simp; omega)), (by first | omega | (simp; omega))⟩ ?_; conv => whnf) | (refine Exists.intro _ (And.intro rfl (And.intro (by first | omega | (simp; omega)) (And.intro ⟨rfl, rfl, rfl, rfl, rfl⟩ ?_))); conv => whnf) | (refine And.intro ⟨rfl, rfl⟩ (And.intro (by first | omega | (simp; omega)) ?_); conv => whnf) | (refine Exists.intro _ (And.intro rfl ?_); conv => whnf) | (refine And.intro (fun _ => ?_) (fun h => absurd h (by decide)); conv => whnf) | (refine And.intro (fun h => absurd h (by decide)) (fun _ => ?_); conv => whnf) | (refine .quiet (by kernel_rfl) ?_; conv => whnf))
    refine .one _ _ _ (fun _ => hg3) (by repeat (first | exact .nil | (apply BorL.cons; first | exact lS rfl | exact lR rfl | exact lM rfl rfl | exact lL rfl | exact lX rfl | exact lN | exact lNl | exact lSm rfl | exact lIm rfl | exact lP rfl | exact lQ rfl | exact lB rfl rfl rfl))) (by first | exact .inl rfl | exact .inr (by repeat (first | exact flats_nil | refine flats_cons (by first | exact flat_val _ rfl | exact flat_row (fun _ => rfl) | exact flat_lst (fun _ => rfl)) ?_))) (by first | exact .inr rfl | exact .inl rfl) ?_
    conv => whnf
    repeat (first | (refine And.intro ⟨by omega, by omega⟩ ?_; conv => whnf) | (refine And.intro (by omega) (And.intro rfl ?_); conv => whnf) | (refine And.intro rfl ?_; conv => whnf) | (refine And.intro (fun _ => ⟨by omega, by omega⟩) ?_; conv => whnf) | (refine And.intro (fun _ => by omega) (And.intro rfl ?_); conv => whnf) | (refine And.intro ⟨(by first | omega | (simp; omega)), (by first | omega | (simp; omega))⟩ ?_; conv => whnf) | (refine Exists.intro _ (And.intro rfl (And.intro (by first | omega | (simp; omega)) (And.intro ⟨rfl, rfl, rfl, rfl, rfl⟩ ?_))); conv => whnf) | (refine And.intro ⟨rfl, rfl⟩ (And.intro (by first | omega | (simp; omega)) ?_); conv => whnf) | (refine Exists.intro _ (And.intro rfl ?_); conv => whnf) | (refine And.intro (fun _ => ?_) (fun h => absurd h (by decide)); conv => whnf) | (refine And.intro (fun h => absurd h (by decide)) (fun _ => ?_); conv => whnf) | (refine .quiet (by kernel_rfl) ?_; conv => whnf))
    refine .one _ _ _ (fun _ => hg4) (by repeat (first | exact .nil | (apply BorL.cons; first | exact lS rfl | exact lR rfl | exact lM rfl rfl | exact lL rfl | exact lX rfl | exact lN | exact lNl | exact lSm rfl | exact lIm rfl | exact lP rfl | exact lQ rfl | exact lB rfl rfl rfl))) (by first | exact .inl rfl | exact .inr (by repeat (first | exact flats_nil | refine flats_cons (by first | exact flat_val _ rfl | exact flat_row (fun _ => rfl) | exact flat_lst (fun _ => rfl)) ?_))) (by first | exact .inr rfl | exact .inl rfl) ?_
    conv => whnf
    repeat (first | (refine And.intro ⟨by omega, by omega⟩ ?_; conv => whnf) | (refine And.intro (by omega) (And.intro rfl ?_); conv => whnf) | (refine And.intro rfl ?_; conv => whnf) | (refine And.intro (fun _ => ⟨by omega, by omega⟩) ?_; conv => whnf) | (refine And.intro (fun _ => by omega) (And.intro rfl ?_); conv => whnf) | (refine And.intro ⟨(by first | omega | (simp; omega)), (by first | omega | (simp; omega))⟩ ?_; conv => whnf) | (refine Exists.intro _ (And.intro rfl (And.intro (by first | omega | (simp; omega)) (And.intro ⟨rfl, rfl, rfl, rfl, rfl⟩ ?_))); conv => whnf) | (refine And.intro ⟨rfl, rfl⟩ (And.intro (by first | omega | (simp; omega)) ?_); conv => whnf) | (refine Exists.intro _ (And.intro rfl ?_); conv => whnf) | (refine And.intro (fun _ => ?_) (fun h => absurd h (by decide)); conv => whnf) | (refine And.intro (fun h => absurd h (by decide)) (fun _ => ?_); conv => whnf) | (refine .quiet (by kernel_rfl) ?_; conv => whnf))
    have hb : (!decide (errG l = 0) || !decide (errG (l ++ [m]) = 0)) = true := by
      by_cases e : errG l = 0
      · have : errG (l ++ [m]) ≠ 0 := fun e2 => h0 ⟨e, e2⟩
        simp [this]
      · simp [e]
    refine ⟨fun _ => ?_, fun h => by rw [hb] at h; cases h⟩
    conv => whnf
    repeat (first | (refine And.intro ⟨by omega, by omega⟩ ?_; conv => whnf) | (refine And.intro (by omega) (And.intro rfl ?_); conv => whnf) | (refine And.intro rfl ?_; conv => whnf) | (refine And.intro (fun _ => ⟨by omega, by omega⟩) ?_; conv => whnf) | (refine And.intro (fun _ => by omega) (And.intro rfl ?_); conv => whnf) | (refine And.intro ⟨(by first | omega | (simp; omega)), (by first | omega | (simp; omega))⟩ ?_; conv => whnf) | (refine Exists.intro _ (And.intro rfl (And.intro (by first | omega | (simp; omega)) (And.intro ⟨rfl, rfl, rfl, rfl, rfl⟩ ?_))); conv => whnf) | (refine And.intro ⟨rfl, rfl⟩ (And.intro (by first | omega | (simp; omega)) ?_); conv => whnf) | (refine Exists.intro _ (And.intro rfl ?_); conv => whnf) | (refine And.intro (fun _ => ?_) (fun h => absurd h (by decide)); conv => whnf) | (refine And.intro (fun h => absurd h (by decide)) (fun _ => ?_); conv => whnf) | (refine .quiet (by kernel_rfl) ?_; conv => whnf))
    simp

end Go.Proofs.Ytmcgfkkagijcmaa

namespace Go.Proofs.Ytmcgfkkagijcmaa
open Go.Own

/-! ### Each class is one group -/
structure Cover (g : List (List Int)) (L : List (List Int)) (P : List Bool) : Prop where
  of : ∀ c ∈ L, ∃ i, i < g.length ∧ c = cs (cls g i)
  at_ : ∀ i, P.getD i false = true ↔ ∃ c ∈ L, (i : Int) ∈ c
  once : L.Nodup
theorem cs_mem {c : List Nat} {i : Nat} : (i : Int) ∈ cs c ↔ i ∈ c := by
  unfold cs
  rw [List.mem_map]
  constructor
  · rintro ⟨k, hk, e⟩
    have : k = i := Int.ofNat.inj e
    subst this
    exact hk
  · exact fun h => ⟨i, h, rfl⟩
theorem Grp.cover {g : List (List Int)} (hg : InR g) {Q : List Bool} {L : List (List Int)} (h : Grp g (none0 g.length) L Q) : Cover g L Q := by
  generalize hP0 : none0 g.length = P0 at h
  induction h with
  | nil =>
    subst hP0
    exact ⟨fun c hc => (by cases hc), fun i => (by rw [none0_get]; simp), List.nodup_nil⟩
  | snoc h hi hr hmin ih =>
    rename_i Q L i
    subst hP0
    have hQ := h.plc hg (plc0 g)
    have hf := cls_free hQ ((rdy_iff hg).1 hr).1
    refine ⟨fun c hc => ?_, fun k => ?_, ?_⟩
    · rcases List.mem_append.1 hc with h1 | h1
      · exact ih.of c h1
      · rw [List.mem_singleton] at h1
        exact ⟨i, hi, h1⟩
    · rw [putL_get fun k hk => (hf k hk).1, ih.at_]
      constructor
      · rintro (⟨c, hc, h1⟩ | h1)
        · exact ⟨c, List.mem_append_left _ hc, h1⟩
        · exact ⟨_, List.mem_append_right _ (by simp), cs_mem.2 h1⟩
      · rintro ⟨c, hc, h1⟩
        rcases List.mem_append.1 hc with h2 | h2
        · exact .inl ⟨c, h2, h1⟩
        · rw [List.mem_singleton] at h2
          subst h2
          exact .inr (cs_mem.1 h1)
    · refine List.nodup_append.2 ⟨ih.once, by simp, fun a ha b hb e => ?_⟩
      rw [List.mem_singleton] at hb
      subst hb
      subst e
      have h1 : Q.getD i false = true := (ih.at_ i).2 ⟨_, ha, cs_mem.2 (cls_mem.2 ⟨hi, .inl rfl⟩)⟩
      rw [((rdy_iff hg).1 hr).1] at h1
      cases h1
theorem cls_eq {g : List (List Int)} (hg : InR g) {i k : Nat} (h : k ∈ cls g i) (hi : i < g.length) : cls g k = cls g i := by
  obtain ⟨hk, h1⟩ := cls_mem.1 h
  refine ascN_eq (cls_asc _ _) (cls_asc _ _) fun x => ?_
  rw [cls_mem, cls_mem]
  refine and_congr Iff.rfl ?_
  rcases h1 with rfl | ⟨h1, h2⟩
  · exact Iff.rfl
  · constructor
    · rintro (rfl | ⟨a, b⟩)
      · exact .inr ⟨h1, h2⟩
      · exact .inr ⟨lds_trans h1 a, lds_trans b h2⟩
    · rintro (rfl | ⟨a, b⟩)
      · exact .inr ⟨h2, h1⟩
      · exact .inr ⟨lds_trans h2 a, lds_trans b h1⟩
theorem gs_cover {g : List (List Int)} (hg : InR g) : (∀ c, c ∈ gs g ↔ ∃ i, i < g.length ∧ c = cs (cls g i)) ∧ (gs g).Nodup := by
  obtain ⟨Q, h1, h2⟩ := isGroups_gs hg
  have hc := h1.cover hg
  have hl := (h1.plc hg (plc0 g)).len
  refine ⟨fun c => ⟨hc.of c, ?_⟩, hc.once⟩
  rintro ⟨i, hi, rfl⟩
  obtain ⟨c, hcm, hic⟩ := (hc.at_ i).1 (unmet_zero h2 i (by rw [hl]; exact hi))
  obtain ⟨j, hj, rfl⟩ := hc.of c hcm
  rw [cls_eq hg (cs_mem.1 hic) hj]
  exact hcm

/-! ### The opposite order -/
/-- One graph is another one backwards. -/
structure Back (g g' : List (List Int)) : Prop where
  len : g'.length = g.length
  stp : ∀ i k, i < g.length → k < g.length → (Stp g' i k ↔ Stp g (g.length - 1 - i) (g.length - 1 - k))
theorem Back.symm {g g' : List (List Int)} (h : Back g g') : Back g' g := by
  refine ⟨h.len.symm, fun i k hi hk => ?_⟩
  rw [h.len] at hi hk ⊢
  rw [h.stp _ _ (by omega) (by omega), show g.length - 1 - (g.length - 1 - i) = i by omega, show g.length - 1 - (g.length - 1 - k) = k by omega]
theorem Back.lds1 {g g' : List (List Int)} (hg' : InR g') (h : Back g g') {i k : Nat} (hl : Lds g' i k) : Lds g (g.length - 1 - i) (g.length - 1 - k) := by
  have hlen := h.len
  induction hl with
  | one s =>
    have := lds_lt hg' (.one s)
    exact .one ((h.stp _ _ (by omega) (by omega)).1 s)
  | more h0 s ih =>
    have h1 := lds_lt hg' h0
    have h2 := lds_lt hg' (.one s)
    exact .more ih ((h.stp _ _ (by omega) (by omega)).1 s)
theorem Back.lds {g g' : List (List Int)} (hg : InR g) (hg' : InR g') (h : Back g g') {i k : Nat} (hi : i < g.length) (hk : k < g.length) : Lds g' i k ↔ Lds g (g.length - 1 - i) (g.length - 1 - k) := by
  constructor
  · exact h.lds1 hg'
  · intro hl
    have := h.symm.lds1 hg hl
    rw [h.len, show g.length - 1 - (g.length - 1 - i) = i by omega, show g.length - 1 - (g.length - 1 - k) = k by omega] at this
    exact this
/-- A group, turned. -/
def turn (n : Nat) (c : List Int) : List Int := c.reverse.map fun v => (n : Int) - 1 - v
theorem turn_cls {g g' : List (List Int)} (hg : InR g) (hg' : InR g') (h : Back g g') {i : Nat} (hi : i < g.length) : turn g.length (cs (cls g' i)) = cs (cls g (g.length - 1 - i)) := by
  refine ascI_eq ?_ (cs_asc (cls_asc _ _)) fun z => ?_
  · unfold turn cs
    rw [← List.map_reverse, List.map_map, List.pairwise_map, List.pairwise_reverse]
    exact (cls_asc g' i).imp fun h => by
      show (g.length : Int) - 1 - Int.ofNat _ < (g.length : Int) - 1 - Int.ofNat _
      have := Int.ofNat_lt.2 h
      simp only [Int.ofNat_eq_natCast] at *
      omega
  · unfold turn cs
    rw [List.mem_map, List.mem_map]
    have hlen := h.len
    constructor
    · rintro ⟨v, hv, rfl⟩
      rw [List.mem_reverse, List.mem_map] at hv
      obtain ⟨k, hk, rfl⟩ := hv
      obtain ⟨hk1, hk2⟩ := cls_mem.1 hk
      refine ⟨g.length - 1 - k, cls_mem.2 ⟨by omega, ?_⟩, by simp only [Int.ofNat_eq_natCast]; omega⟩
      rcases hk2 with rfl | ⟨a, b⟩
      · exact .inl rfl
      · exact .inr ⟨(h.lds hg hg' hi (by omega)).1 a, (h.lds hg hg' (by omega) hi).1 b⟩
    · rintro ⟨k, hk, rfl⟩
      obtain ⟨hk1, hk2⟩ := cls_mem.1 hk
      refine ⟨((g.length - 1 - k : Nat) : Int), ?_, by simp only [Int.ofNat_eq_natCast]; omega⟩
      rw [List.mem_reverse, List.mem_map]
      refine ⟨g.length - 1 - k, cls_mem.2 ⟨by omega, ?_⟩, rfl⟩
      rcases hk2 with rfl | ⟨a, b⟩
      · exact .inl (by omega)
      · refine .inr ⟨(h.lds hg hg' hi (by omega)).2 ?_, (h.lds hg hg' (by omega) hi).2 ?_⟩
        · rw [show g.length - 1 - (g.length - 1 - k) = k by omega]; exact a
        · rw [show g.length - 1 - (g.length - 1 - k) = k by omega]; exact b
theorem turn_inj {n : Nat} {a b : List Int} (h : turn n a = turn n b) : a = b := by
  have h2 : turn n (turn n a) = turn n (turn n b) := by rw [h]
  have key : ∀ c : List Int, turn n (turn n c) = c := fun c => by
    unfold turn
    rw [← List.map_reverse, List.reverse_reverse, List.map_map]
    refine (List.map_congr_left fun v _ => ?_).trans (List.map_id c)
    show (n : Int) - 1 - ((n : Int) - 1 - v) = id v
    show (n : Int) - 1 - ((n : Int) - 1 - v) = v
    omega
  rw [key, key] at h2
  exact h2
theorem back_gs {g g' : List (List Int)} (hg : InR g) (hg' : InR g') (h : Back g g') : (gs g').length = (gs g).length ∧ ∀ c ∈ gs g, ∃ c' ∈ gs g', turn g.length c' = c := by
  obtain ⟨m1, n1⟩ := gs_cover hg
  obtain ⟨m2, n2⟩ := gs_cover hg'
  have h1 : ∀ c ∈ gs g, ∃ c' ∈ gs g', turn g.length c' = c := by
    intro c hc
    obtain ⟨i, hi, rfl⟩ := (m1 c).1 hc
    refine ⟨cs (cls g' (g.length - 1 - i)), (m2 _).2 ⟨g.length - 1 - i, by rw [h.len]; omega, rfl⟩, ?_⟩
    rw [turn_cls hg hg' h (by omega), show g.length - 1 - (g.length - 1 - i) = i by omega]
  refine ⟨?_, h1⟩
  have hn : ((gs g').map (turn g.length)).Nodup := by
    rw [List.nodup_iff_pairwise_ne, List.pairwise_map]
    exact (List.nodup_iff_pairwise_ne.1 n2).imp fun hab e => hab (turn_inj e)
  have le1 := nodup_le hn (r := gs g) fun c hc => by
    obtain ⟨c', hc', rfl⟩ := List.mem_map.1 hc
    obtain ⟨i, hi, rfl⟩ := (m2 c').1 hc'
    rw [h.len] at hi
    rw [turn_cls hg hg' h hi]
    exact (m1 _).2 ⟨_, by omega, rfl⟩
  have le2 := nodup_le n1 (r := (gs g').map (turn g.length)) fun c hc => by
    obtain ⟨c', hc', e⟩ := h1 c hc
    exact List.mem_map.2 ⟨c', hc', e⟩
  rw [List.length_map] at le1 le2
  omega
theorem rev_getD {l : List Ind} {i : Nat} (hi : i < l.length) : l.reverse.getD i i0 = l.getD (l.length - 1 - i) i0 := by
  rw [List.getD_eq_getElem?_getD, List.getD_eq_getElem?_getD, List.getElem?_reverse hi]
theorem rev_once {l : List Ind} (h : Once l) : Once l.reverse := by
  intro i hi k hk e
  rw [List.length_reverse] at hi
  rw [rev_getD hi, rev_getD (by omega)] at e
  have := h.uniq (by omega) (by omega) e
  omega
theorem rev_known {l : List Ind} (h : Known l) : Known l.reverse := by
  intro i hi s hs
  rw [List.length_reverse] at hi ⊢
  rw [rev_getD hi] at hs
  obtain ⟨k, hk, e⟩ := h _ (by omega) s hs
  exact ⟨l.length - 1 - k, by omega, by rw [rev_getD (by omega), show l.length - 1 - (l.length - 1 - k) = k by omega]; exact e⟩
theorem errG_iff {l : List Ind} : errG l = 0 ↔ l.length ≤ 400 ∧ Once l ∧ Known l := by
  constructor
  · exact fun h => ⟨errG_len h, errG_zero h⟩
  · rintro ⟨h1, h2, h3⟩
    unfold errG
    rw [if_pos h1, if_pos h2, if_pos h3]
theorem rev_err {l : List Ind} : errG l.reverse = 0 ↔ errG l = 0 := by
  rw [errG_iff, errG_iff, List.length_reverse]
  constructor
  · rintro ⟨h1, h2, h3⟩
    have a := rev_once h2
    have b := rev_known h3
    rw [List.reverse_reverse] at a b
    exact ⟨h1, a, b⟩
  · rintro ⟨h1, h2, h3⟩
    exact ⟨h1, rev_once h2, rev_known h3⟩
theorem gl_row {l : List Ind} {i : Nat} (hi : i < l.length) : (gl l).getD i [] = cs (nxt l i) := by
  unfold gl glN
  rw [List.getD_eq_getElem?_getD, List.getElem?_map, List.getElem?_range hi]
  rfl
theorem gl_stp {l : List Ind} {i k : Nat} (hi : i < l.length) : Stp (gl l) i k ↔ k < l.length ∧ Qt (l.getD i i0) (l.getD k i0).name := by
  unfold Stp
  rw [gl_row hi, cs_mem, nxt_mem]
theorem rev_back (l : List Ind) : Back (gl l) (gl l.reverse) := by
  have h1 := gl_len l
  have h2 := gl_len l.reverse
  rw [List.length_reverse] at h2
  refine ⟨by omega, fun i k hi hk => ?_⟩
  rw [h1] at hi hk ⊢
  rw [gl_stp (by rw [List.length_reverse]; exact hi), gl_stp (by omega), List.length_reverse, rev_getD hi, rev_getD hk]
  exact and_congr (by omega) Iff.rfl

/-! ### What is no coupon -/
/-- An indenture with another covenant, a definition that is not used, and a coupon of two parts. -/
def othX (x : Ind) (cap : Int) (cov : List Cov) (e : Exp) : Ind := { x with cap := cap, cov := cov, lets := x.lets ++ [⟨uu, e⟩], coupon := bothE 4 x.coupon (.mk 0 1 0 [] []) }
theorem bodyOf_app {lets : List LetE} {e : Exp} {s : List UInt8} (hs : s ≠ uu) : bodyOf (lets ++ [⟨uu, e⟩]) s = bodyOf lets s := by
  unfold bodyOf
  rw [List.find?_append]
  have : [(⟨uu, e⟩ : LetE)].find? (fun l => decide (l.name = s)) = none := by
    rw [List.find?_eq_none]
    intro l hl
    rw [List.mem_singleton] at hl
    subst hl
    simpa using fun h => hs h.symm
  rw [this, Option.or_none]
theorem nmB_false {e : Exp} (h : nmB e = false) {x : Exp} (hx : Sub e x) : x.s ≠ uu := fun hs => by
  rw [nmB_iff.2 ⟨x, hx, hs⟩] at h
  cases h
theorem reach_oth {lets : List LetE} {e : Exp} (hl : ∀ l ∈ lets, nmB l.body = false) : ∀ {a y : Exp}, nmB a = false → (Reach (lets ++ [⟨uu, e⟩]) a y ↔ Reach lets a y) := by
  intro a y ha
  have harg : ∀ {a b : Exp}, nmB a = false → b ∈ a.args → nmB b = false := fun {a b} h hb => by
    cases hn : nmB b with
    | false => rfl
    | true => rw [nmB_arg hb hn] at h; cases h
  constructor
  · intro h
    induction h with
    | refl => exact .refl _
    | arg hm _ ih => exact .arg hm (ih (harg ha hm))
    | body h1 hb _ ih =>
      rw [bodyOf_app (nmB_false ha (.refl _))] at hb
      obtain ⟨l, hlm, _, rfl⟩ := bodyOf_mem hb
      exact .body h1 hb (ih (hl l hlm))
  · intro h
    induction h with
    | refl => exact .refl _
    | arg hm _ ih => exact .arg hm (ih (harg ha hm))
    | body h1 hb _ ih =>
      obtain ⟨l, hlm, _, rfl⟩ := bodyOf_mem hb
      exact .body h1 (by rw [bodyOf_app (nmB_false ha (.refl _))]; exact hb) (ih (hl l hlm))
theorem qt_oth {x : Ind} {cap : Int} {cov : List Cov} {e : Exp} (h : unuX x = false) (s : List UInt8) : Qt (othX x cap cov e) s ↔ Qt x s := by
  unfold unuX at h
  rw [Bool.or_eq_false_iff, List.any_eq_false] at h
  obtain ⟨hc, hl⟩ := h
  have hl' : ∀ l ∈ x.lets, nmB l.body = false := fun l hm => by
    have := hl l hm
    cases hb : nmB l.body with
    | false => rfl
    | true => exact absurd hb this
  constructor
  · rintro ⟨y, hy, h3, hs⟩
    rcases (reach_mk (y := y)).1 (show Reach _ (Exp.mk 4 0 0 [] [x.coupon, .mk 0 1 0 [] []]) y from hy) with rfl | ⟨a, ha, t⟩ | ⟨h1, _⟩
    · exact absurd h3 (show ¬ (4 : Int) = 3 by decide)
    · rcases List.mem_cons.1 ha with rfl | ha
      · exact ⟨y, (reach_oth hl' hc).1 t, h3, hs⟩
      · rw [List.mem_singleton] at ha
        subst ha
        rcases reach_mk.1 t with rfl | ⟨b, hb, _⟩ | ⟨h1, _⟩
        · exact absurd h3 (by decide)
        · cases hb
        · exact absurd h1 (by decide)
    · exact absurd h1 (by decide)
  · rintro ⟨y, hy, h3, hs⟩
    refine ⟨y, ?_, h3, hs⟩
    show Reach (x.lets ++ [⟨uu, e⟩]) (Exp.mk 4 0 0 [] [x.coupon, .mk 0 1 0 [] []]) y
    exact reach_mk.2 (.inr (.inl ⟨x.coupon, by simp, (reach_oth hl' hc).2 hy⟩))
/-- Two lists of which nobody tells the difference. -/
structure Alike (l l' : List Ind) : Prop where
  len : l'.length = l.length
  name : ∀ i, i < l.length → (l'.getD i i0).name = (l.getD i i0).name
  qt : ∀ i, i < l.length → ∀ s, Qt (l'.getD i i0) s ↔ Qt (l.getD i i0) s
theorem Alike.once {l l' : List Ind} (h : Alike l l') : Once l' ↔ Once l := by
  unfold Once
  rw [h.len]
  constructor
  · intro ho i hi k hk
    have := ho i hi k hk
    rwa [h.name i hi, h.name k (by omega)] at this
  · intro ho i hi k hk
    rw [h.name i hi, h.name k (by omega)]
    exact ho i hi k hk
theorem Alike.known {l l' : List Ind} (h : Alike l l') : Known l' ↔ Known l := by
  unfold Known
  rw [h.len]
  constructor
  · intro ho i hi s hs
    obtain ⟨k, hk, e⟩ := ho i hi s ((h.qt i hi s).2 hs)
    exact ⟨k, hk, by rw [← h.name k hk]; exact e⟩
  · intro ho i hi s hs
    obtain ⟨k, hk, e⟩ := ho i hi s ((h.qt i hi s).1 hs)
    exact ⟨k, hk, by rw [h.name k hk]; exact e⟩
theorem Alike.err {l l' : List Ind} (h : Alike l l') : errG l' = errG l := by
  have e1 : Once l' = Once l := propext h.once
  have e2 : Known l' = Known l := propext h.known
  unfold errG
  rw [h.len, e1, e2]
theorem Alike.glE {l l' : List Ind} (h : Alike l l') : gl l' = gl l := by
  refine lists_eq (by rw [gl_len, gl_len, h.len]) fun k hk => ?_
  rw [gl_len] at hk
  rw [gl_row hk, gl_row (by rw [← h.len]; exact hk)]
  congr 1
  refine ascN_eq (nxt_asc _ _) (nxt_asc _ _) fun j => ?_
  rw [nxt_mem, nxt_mem, h.len]
  have hk' : k < l.length := by rw [← h.len]; exact hk
  constructor
  · rintro ⟨h1, h2⟩
    exact ⟨h1, by rw [← h.name j h1]; exact (h.qt k hk' _).1 h2⟩
  · rintro ⟨h1, h2⟩
    exact ⟨h1, by rw [h.name j h1]; exact (h.qt k hk' _).2 h2⟩

end Go.Proofs.Ytmcgfkkagijcmaa

namespace Go.Proofs.Ytmcgfkkagijcmaa
open Go.Own
set_option maxHeartbeats 4000000
set_option maxRecDepth 100000

noncomputable abbrev cxW (N : Nat) (keep : List Nat) : Cx := ⟨Try.prog, tab, N, keep, 0, true⟩
theorem cxWOk (N : Nat) (keep : List Nat) : CxOk (cxW N keep) := ⟨tabOk, mixed⟩
theorem w64_in {x : Int} (h : -9223372036854775808 ≤ x ∧ x ≤ 9223372036854775807) : IntKind.i64.wrap x = x := wrap64_in' h
theorem wrap1 {i : Nat} (h : i ≤ 1000000) : IntKind.i64.wrap ((i : Int) + 1) = ((i + 1 : Nat) : Int) := w64_in (x := (i : Int) + 1) ⟨by omega, by omega⟩
def othF (x : Exp) (y : Ind) : Ind := othX y (IntKind.i64.wrap (y.cap + 1)) [⟨[109], x, 0⟩] x
theorem oth_len {x : Exp} {l : List Ind} {k : Nat} : ((l.take k).map (othF x)).length ≤ k := by rw [List.length_map, List.length_take]; omega

theorem few_all {x : Ind} (hf : fewX x = true) : (allX x).length ≤ 180 := by
  simp only [fewX, Bool.and_eq_true, decide_eq_true_eq, List.all_eq_true] at hf
  obtain ⟨⟨⟨h1, h2⟩, _⟩, h4⟩ := hf
  unfold allX
  rw [List.length_append, cntF_subs 12 x.coupon 30 h2]
  have key : ∀ l : List LetE, (∀ y ∈ l, cntF 12 y.body 30 ≤ 30) → (l.flatMap fun l => subs l.body).length ≤ 30 * l.length := by
    intro l
    induction l with
    | nil => intro _; simp
    | cons a l ih =>
      intro h
      have h5 := h a (by simp)
      have := ih fun y hy => h y (by simp [hy])
      rw [List.flatMap_cons, List.length_append, cntF_subs 12 a.body 30 h5, List.length_cons]
      omega
  have := key x.lets h4
  omega
theorem oth_okX {x : Exp} (he : OkE x) (hxs : (subs x).length ≤ 30) {y : Ind} (h : InX y) (hf : fewX y = true) : OkX (othF x y) := by
  have hl : y.lets.length ≤ 5 := by
    simp only [fewX, Bool.and_eq_true, decide_eq_true_eq] at hf
    exact hf.1.1.1
  refine ⟨?_, fun l hl => ?_, okE_both 4 (by unfold in64; decide) h.coupon (okE_leaf 0 1 0 [] (by unfold in64; decide) (by unfold in64; decide) (by unfold in64; decide) (by decide)), ?_⟩
  · show (y.lets ++ [(⟨uu, x⟩ : LetE)]).length ≤ _
    rw [List.length_append, List.length_singleton]
    omega
  · rcases List.mem_append.1 (show l ∈ y.lets ++ [(⟨uu, x⟩ : LetE)] from hl) with h1 | h1
    · exact h.body l h1
    · rw [List.mem_singleton] at h1
      subst h1
      exact he
  · have h1 := few_all hf
    show (subs (bothE 4 y.coupon (.mk 0 1 0 [] [])) ++ (y.lets ++ [(⟨uu, x⟩ : LetE)]).flatMap fun l => subs l.body).length ≤ _
    unfold allX at h1
    rw [List.length_append] at h1 ⊢
    rw [List.flatMap_append, List.length_append, subs_eq]
    show (subsL [y.coupon, .mk 0 1 0 [] []]).length + 1 + ((y.lets.flatMap fun l => subs l.body).length + (subs x ++ []).length) ≤ _
    rw [subsL, subsL, subsL, List.length_append, List.length_append, subs_eq (Exp.mk 0 1 0 [] [])]
    show (subs y.coupon).length + ((subsL []).length + 1 + 0) + 1 + ((y.lets.flatMap fun l => subs l.body).length + (subs x ++ []).length) ≤ _
    rw [subsL, List.append_nil]
    simp only [List.length_nil]
    omega
theorem one_let (x : Exp) : LeT (.lsl 25 [issA [] .nils (.lsl 5 (argsE x)) x.op x.n x.unit x.s]) (encXs [mkI [] [] x]) := by
  refine LeT.trans (LeT.lsl (r := [mkI [] [] x].map encX) rfl (fun y hy => ?_) (flat_ones fun y hy a ha => ?_) ?_) (LeT.lsl_sl encX i0 [mkI [] [] x] rfl)
  · obtain ⟨z, _, rfl⟩ := List.mem_map.1 hy
    rfl
  · simp [encX, AV.cells] at ha
    rcases ha with rfl | rfl | rfl | rfl | rfl | rfl | rfl | rfl | rfl | rfl | rfl | rfl | rfl | rfl | rfl | rfl | rfl | rfl | rfl | rfl | rfl | rfl | rfl | rfl | rfl <;> rfl
  · show LeTs (flat [issA [] .nils (.lsl 5 (argsE x)) x.op x.n x.unit x.s]) (flat [encX (mkI [] [] x)])
    repeat (first | exact .nil | refine .cons (by first | exact LeT.refl _ | exact LeT.nils_sl _ _ _) ?_)
theorem turnT_succ {n : Nat} {c : List Int} {t : Nat} (h : t < c.length) : ((c.reverse.take (t + 1)).map fun v => (n : Int) - 1 - v) = ((c.reverse.take t).map fun v => (n : Int) - 1 - v) ++ [(n : Int) - 1 - c.getD (c.length - 1 - t) 0] := by
  rw [take_getD (d := 0) (by rw [List.length_reverse]; exact h), List.map_append]
  congr 1
  show [(n : Int) - 1 - c.reverse.getD t 0] = _
  rw [List.getD_eq_getElem?_getD, List.getElem?_reverse h, ← List.getD_eq_getElem?_getD]
theorem turnT_all {n : Nat} {c : List Int} : ((c.reverse.take c.length).map fun v => (n : Int) - 1 - v) = turn n c := by
  rw [List.take_of_length_le (by rw [List.length_reverse]; exact Nat.le_refl _)]; rfl
/-- What the law compares. -/
theorem order_plain (l : List Ind) (hl : l.length ≤ 10) (x : Exp) : (errG l = 0 ↔ errG l.reverse = 0) ∧ (gsE l.reverse).length = (gsE l).length ∧ (∀ c ∈ gsE l, ∃ c' ∈ gsE l.reverse, turn l.length c' = c) ∧
    (unuB l = false → errG (l.map (othF x)) = errG l ∧ gsE (l.map (othF x)) = gsE l) ∧ (∀ c ∈ gsE l, c.length ≤ 10) ∧ (gsE l).length ≤ 10 ∧ ∀ c ∈ gsE l.reverse, c.length ≤ 10 ∧ ∀ v ∈ c, 0 ≤ v ∧ v < (l.length : Int) := by
  have hi := gl_in l (by omega)
  have hi' := gl_in l.reverse (by rw [List.length_reverse]; omega)
  have hlen := gl_len l
  have hlen' := gl_len l.reverse
  rw [List.length_reverse] at hlen'
  have hb := back_gs hi hi' (rev_back l)
  have hg := gs_len hi
  have hg' := gs_len hi'
  have hm' := gs_mem hi'
  have he : errG l = 0 ↔ errG l.reverse = 0 := rev_err.symm
  refine ⟨he, ?_, ?_, fun hu => ?_, ?_, ?_, ?_⟩
  · unfold gsE
    by_cases h : errG l = 0
    · rw [if_pos h, if_pos (he.1 h)]; exact hb.1
    · rw [if_neg h, if_neg (fun h' => h (he.2 h'))]
  · unfold gsE
    by_cases h : errG l = 0
    · rw [if_pos h, if_pos (he.1 h), ← hlen]; exact hb.2
    · rw [if_neg h]; intro c hc; cases hc
  · have hu' : ∀ y ∈ l, unuX y = false := fun y hy => by
      cases hb : unuX y with
      | false => rfl
      | true =>
        unfold unuB at hu
        rw [List.any_eq_true.2 ⟨y, hy, hb⟩] at hu
        cases hu
    have hgm : ∀ i, i < l.length → (l.map (othF x)).getD i i0 = othF x (l.getD i i0) := fun i hi => by
      rw [List.getD_eq_getElem?_getD, List.getElem?_map, List.getD_eq_getElem?_getD, List.getElem?_eq_getElem hi]; rfl
    have ha : Alike l (l.map (othF x)) := ⟨by rw [List.length_map], fun i hi => by rw [hgm i hi]; rfl, fun i hi s => by rw [hgm i hi]; exact qt_oth (hu' _ (getD_mem hi)) s⟩
    refine ⟨ha.err, ?_⟩
    unfold gsE
    rw [ha.err, ha.glE]
  · unfold gsE
    intro c hc
    split at hc
    · have := (hg.2 c hc).2
      omega
    · cases hc
  · unfold gsE
    split
    · have := hg.1
      omega
    · exact Nat.zero_le _
  · unfold gsE
    intro c hc
    split at hc
    · refine ⟨by have := (hg'.2 c hc).2; omega, fun v hv => ?_⟩
      have := hm' c hc v hv
      omega
    · cases hc
theorem law_order (l : List Ind) (x : Exp) (hl : l.length ≤ 9223372036854775807) (hx : ∀ x ∈ l, InX x) (he : OkE x) : APureV Try.prog 6 [encXs l, encE x] (.bool true) := by
  have hfew := few_ok l 10 hl hx
  have hfew2 := few_ok [mkI [] [] x] 1 (show (1 : Nat) ≤ 9223372036854775807 by decide) (fun y hy => by
    rw [List.mem_singleton] at hy
    subst hy
    exact ⟨Nat.zero_le _, Nat.zero_le _, fun l hl => (by cases hl), he⟩)
  have hfew2 := apure_args (args' := [.lsl 25 [issA [] .nils (.lsl 5 (argsE x)) x.op x.n x.unit x.s], .int .i64 1]) hfew2 (.cons (one_let x) (.cons (.refl _) .nil))
  refine apure_of (C := cxW 177 [0, 1, 3, 4, 5, 6, 7, 8, 9, 10, 11, 12, 13, 14, 15, 16, 17, 18, 19, 20, 21, 32, 38, 113, 117, 123, 133, 161]) (cxWOk _ _) Try.func6 rfl (by decide) rfl (by exact Nat.le_of_ble_eq_true rfl) (by decide) ?_
  conv => whnf
  repeat (first | (refine And.intro ⟨by omega, by omega⟩ ?_; conv => whnf) | (refine And.intro (by omega) (And.intro rfl ?_); conv => whnf) | (refine And.intro rfl ?_; conv => whnf) | (refine And.intro (fun _ => ⟨by omega, by omega⟩) ?_; conv => whnf) | (refine And.intro (fun _ => by omega) (And.intro rfl ?_); conv => whnf) | (refine And.intro ⟨(by first | omega | (simp; omega)), (by first | omega | (simp; omega))⟩ ?_; conv => whnf) | (refine Exists.intro _ (And.intro rfl (And.intro (by first | omega | (simp; omega)) (And.intro ⟨rfl, rfl, rfl, rfl, rfl⟩ ?_))); conv => whnf) | (refine And.intro ⟨rfl, rfl⟩ (And.intro (by first | omega | (simp; omega)) ?_); conv => whnf) | (refine Exists.intro _ (And.intro rfl ?_); conv => whnf) | (refine And.intro (fun _ => ?_) (fun h => absurd h (by decide)); conv => whnf) | (refine And.intro (fun h => absurd h (by decide)) (fun _ => ?_); conv => whnf) | (refine .quiet (by kernel_rfl) ?_; conv => whnf))
  refine .one _ _ _ (fun _ => small_ok) (by repeat (first | exact .nil | (apply BorL.cons; first | exact lS rfl | exact lR rfl | exact lM rfl rfl | exact lL rfl | exact lX rfl | exact lN | exact lNl | exact lSm rfl | exact lIm rfl | exact lP rfl | exact lQ rfl | exact lB rfl rfl rfl))) (by first | exact .inl rfl | exact .inr (by repeat (first | exact flats_nil | refine flats_cons (by first | exact flat_val _ rfl | exact flat_row (fun _ => rfl) | exact flat_lst (fun _ => rfl)) ?_))) (by first | exact .inr rfl | exact .inl rfl) ?_
  conv => whnf
  repeat (first | (refine And.intro ⟨by omega, by omega⟩ ?_; conv => whnf) | (refine And.intro (by omega) (And.intro rfl ?_); conv => whnf) | (refine And.intro rfl ?_; conv => whnf) | (refine And.intro (fun _ => ⟨by omega, by omega⟩) ?_; conv => whnf) | (refine And.intro (fun _ => by omega) (And.intro rfl ?_); conv => whnf) | (refine And.intro ⟨(by first | omega | (simp; omega)), (by first | omega | (simp; omega))⟩ ?_; conv => whnf) | (refine Exists.intro _ (And.intro rfl (And.intro (by first | omega | (simp; omega)) (And.intro ⟨rfl, rfl, rfl, rfl, rfl⟩ ?_))); conv => whnf) | (refine And.intro ⟨rfl, rfl⟩ (And.intro (by first | omega | (simp; omega)) ?_); conv => whnf) | (refine Exists.intro _ (And.intro rfl ?_); conv => whnf) | (refine And.intro (fun _ => ?_) (fun h => absurd h (by decide)); conv => whnf) | (refine And.intro (fun h => absurd h (by decide)) (fun _ => ?_); conv => whnf) | (refine .quiet (by kernel_rfl) ?_; conv => whnf))
  refine .one _ _ _ (fun _ => hfew) (by repeat (first | exact .nil | (apply BorL.cons; first | exact lS rfl | exact lR rfl | exact lM rfl rfl | exact lL rfl | exact lX rfl | exact lN | exact lNl | exact lSm rfl | exact lIm rfl | exact lP rfl | exact lQ rfl | exact lB rfl rfl rfl))) (by first | exact .inl rfl | exact .inr (by repeat (first | exact flats_nil | refine flats_cons (by first | exact flat_val _ rfl | exact flat_row (fun _ => rfl) | exact flat_lst (fun _ => rfl)) ?_))) (by first | exact .inr rfl | exact .inl rfl) ?_
  conv => whnf
  cases hf1 : fewB l 10 with
  | false =>
    conv => whnf
    repeat (first | (refine And.intro ⟨by omega, by omega⟩ ?_; conv => whnf) | (refine And.intro (by omega) (And.intro rfl ?_); conv => whnf) | (refine And.intro rfl ?_; conv => whnf) | (refine And.intro (fun _ => ⟨by omega, by omega⟩) ?_; conv => whnf) | (refine And.intro (fun _ => by omega) (And.intro rfl ?_); conv => whnf) | (refine And.intro ⟨(by first | omega | (simp; omega)), (by first | omega | (simp; omega))⟩ ?_; conv => whnf) | (refine Exists.intro _ (And.intro rfl (And.intro (by first | omega | (simp; omega)) (And.intro ⟨rfl, rfl, rfl, rfl, rfl⟩ ?_))); conv => whnf) | (refine And.intro ⟨rfl, rfl⟩ (And.intro (by first | omega | (simp; omega)) ?_); conv => whnf) | (refine Exists.intro _ (And.intro rfl ?_); conv => whnf) | (refine And.intro (fun _ => ?_) (fun h => absurd h (by decide)); conv => whnf) | (refine And.intro (fun h => absurd h (by decide)) (fun _ => ?_); conv => whnf) | (refine .quiet (by kernel_rfl) ?_; conv => whnf))
    refine .one [.undef, .int .i64 1] _ [.val (.bool true)] (fun h => (by have h0 : (false : Bool) = true := h; cases h0)) (by repeat (first | exact .nil | (apply BorL.cons; first | exact lS rfl | exact lR rfl | exact lM rfl rfl | exact lL rfl | exact lX rfl | exact lN | exact lNl | exact lSm rfl | exact lIm rfl | exact lP rfl | exact lQ rfl | exact lB rfl rfl rfl))) (by first | exact .inl rfl | exact .inr (by repeat (first | exact flats_nil | refine flats_cons (by first | exact flat_val _ rfl | exact flat_row (fun _ => rfl) | exact flat_lst (fun _ => rfl)) ?_))) (by first | exact .inr rfl | exact .inl rfl) ?_
    conv => whnf
    repeat (first | (refine And.intro ⟨by omega, by omega⟩ ?_; conv => whnf) | (refine And.intro (by omega) (And.intro rfl ?_); conv => whnf) | (refine And.intro rfl ?_; conv => whnf) | (refine And.intro (fun _ => ⟨by omega, by omega⟩) ?_; conv => whnf) | (refine And.intro (fun _ => by omega) (And.intro rfl ?_); conv => whnf) | (refine And.intro ⟨(by first | omega | (simp; omega)), (by first | omega | (simp; omega))⟩ ?_; conv => whnf) | (refine Exists.intro _ (And.intro rfl (And.intro (by first | omega | (simp; omega)) (And.intro ⟨rfl, rfl, rfl, rfl, rfl⟩ ?_))); conv => whnf) | (refine And.intro ⟨rfl, rfl⟩ (And.intro (by first | omega | (simp; omega)) ?_); conv => whnf) | (refine Exists.intro _ (And.intro rfl ?_); conv => whnf) | (refine And.intro (fun _ => ?_) (fun h => absurd h (by decide)); conv => whnf) | (refine And.intro (fun h => absurd h (by decide)) (fun _ => ?_); conv => whnf) | (refine .quiet (by kernel_rfl) ?_; conv => whnf))
    rfl
  | true =>
    conv => whnf
    repeat (first | (refine And.intro ⟨by omega, by omega⟩ ?_; conv => whnf) | (refine And.intro (by omega) (And.intro rfl ?_); conv => whnf) | (refine And.intro rfl ?_; conv => whnf) | (refine And.intro (fun _ => ⟨by omega, by omega⟩) ?_; conv => whnf) | (refine And.intro (fun _ => by omega) (And.intro rfl ?_); conv => whnf) | (refine And.intro ⟨(by first | omega | (simp; omega)), (by first | omega | (simp; omega))⟩ ?_; conv => whnf) | (refine Exists.intro _ (And.intro rfl (And.intro (by first | omega | (simp; omega)) (And.intro ⟨rfl, rfl, rfl, rfl, rfl⟩ ?_))); conv => whnf) | (refine And.intro ⟨rfl, rfl⟩ (And.intro (by first | omega | (simp; omega)) ?_); conv => whnf) | (refine Exists.intro _ (And.intro rfl ?_); conv => whnf) | (refine And.intro (fun _ => ?_) (fun h => absurd h (by decide)); conv => whnf) | (refine And.intro (fun h => absurd h (by decide)) (fun _ => ?_); conv => whnf) | (refine .quiet (by kernel_rfl) ?_; conv => whnf))
    refine .one _ _ _ (fun _ => hfew2) (by repeat (first | exact .nil | (apply BorL.cons; first | exact lS rfl | exact lR rfl | exact lM rfl rfl | exact lL rfl | exact lX rfl | exact lN | exact lNl | exact lSm rfl | exact lIm rfl | exact lP rfl | exact lQ rfl | exact lB rfl rfl rfl))) (by first | exact .inl rfl | exact .inr (by repeat (first | exact flats_nil | refine flats_cons (by first | exact flat_val _ rfl | exact flat_row (fun _ => rfl) | exact flat_lst (fun _ => rfl)) ?_))) (by first | exact .inr rfl | exact .inl rfl) ?_
    conv => whnf
    repeat (first | (refine And.intro ⟨by omega, by omega⟩ ?_; conv => whnf) | (refine And.intro (by omega) (And.intro rfl ?_); conv => whnf) | (refine And.intro rfl ?_; conv => whnf) | (refine And.intro (fun _ => ⟨by omega, by omega⟩) ?_; conv => whnf) | (refine And.intro (fun _ => by omega) (And.intro rfl ?_); conv => whnf) | (refine And.intro ⟨(by first | omega | (simp; omega)), (by first | omega | (simp; omega))⟩ ?_; conv => whnf) | (refine Exists.intro _ (And.intro rfl (And.intro (by first | omega | (simp; omega)) (And.intro ⟨rfl, rfl, rfl, rfl, rfl⟩ ?_))); conv => whnf) | (refine And.intro ⟨rfl, rfl⟩ (And.intro (by first | omega | (simp; omega)) ?_); conv => whnf) | (refine Exists.intro _ (And.intro rfl ?_); conv => whnf) | (refine And.intro (fun _ => ?_) (fun h => absurd h (by decide)); conv => whnf) | (refine And.intro (fun h => absurd h (by decide)) (fun _ => ?_); conv => whnf) | (refine .quiet (by kernel_rfl) ?_; conv => whnf))
    cases hf2 : fewB [mkI [] [] x] 1 with
    | false =>
      refine ⟨fun _ => ?_, fun h => (by cases h)⟩
      conv => whnf
      rfl
    | true =>
    refine ⟨fun h => (by cases h), fun _ => ?_⟩
    unfold fewB at hf1 hf2
    rw [Bool.and_eq_true, decide_eq_true_eq, List.all_eq_true] at hf1 hf2
    obtain ⟨hl10, hfx⟩ := hf1
    have hfe := hf2.2 _ (List.mem_singleton.2 rfl)
    have hokx : ∀ y ∈ l, OkX y := fun y hy => few_okX (hx y hy) (hfx y hy)
    have hlet : ∀ y ∈ l, y.lets.length ≤ 5 := fun y hy => by
      have := hfx y hy
      simp only [fewX, Bool.and_eq_true, decide_eq_true_eq] at this
      exact this.1.1.1
    have hrl : l.reverse.length = l.length := List.length_reverse
    have hxs : (subs x).length ≤ 30 := by
      have : fewX (mkI [] [] x) = true := hfe
      simp only [fewX, Bool.and_eq_true, decide_eq_true_eq] at this
      have h2 : cntF 12 x 30 ≤ 30 := this.1.1.2
      rw [cntF_subs 12 x 30 h2]
      exact h2
    have hg1 := groups2_ok l hl (fun _ => hokx)
    have hg2 := groups2_ok l.reverse (by omega) (fun _ y hy => hokx y (List.mem_reverse.1 hy))
    have hg3 := groups2_ok (l.map (othF x)) (by rw [List.length_map]; omega) (fun _ y hy => by
      obtain ⟨z, hz, rfl⟩ := List.mem_map.1 hy
      exact oth_okX he hxs (hx z hz) (hfx z hz))
    have hun := unused_ok l hl hx
    clear hokx hfew hfew2
    conv => whnf
    repeat (first | (refine And.intro ⟨by omega, by omega⟩ ?_; conv => whnf) | (refine And.intro (by omega) (And.intro rfl ?_); conv => whnf) | (refine And.intro rfl ?_; conv => whnf) | (refine And.intro (fun _ => ⟨by omega, by omega⟩) ?_; conv => whnf) | (refine And.intro (fun _ => by omega) (And.intro rfl ?_); conv => whnf) | (refine And.intro ⟨(by first | omega | (simp; omega)), (by first | omega | (simp; omega))⟩ ?_; conv => whnf) | (refine Exists.intro _ (And.intro rfl (And.intro (by first | omega | (simp; omega)) (And.intro ⟨rfl, rfl, rfl, rfl, rfl⟩ ?_))); conv => whnf) | (refine And.intro ⟨rfl, rfl⟩ (And.intro (by first | omega | (simp; omega)) ?_); conv => whnf) | (refine Exists.intro _ (And.intro rfl ?_); conv => whnf) | (refine And.intro (fun _ => ?_) (fun h => absurd h (by decide)); conv => whnf) | (refine And.intro (fun h => absurd h (by decide)) (fun _ => ?_); conv => whnf) | (refine .quiet (by kernel_rfl) ?_; conv => whnf))
    have hb0 : (l.reverse.take 0) = [] := List.take_zero
    have ho0 : ((l.take 0).map (othF x)) = [] := rfl
    refine loopG_slack ?_
    refine loop_up (cxWOk _ _) l.length (fun _ => True) (fun k => ⟨[(0, encXs l), (3, .ptr 0 0), (5, .bool true), (6, .int .i64 (l.length : Nat)), (7, .own 1), (8, .own 2), (9, .int .i64 (k : Nat))], [(0, .cells 40 [.int .i64 x.op, .int .i64 x.n, .int .i64 x.unit, .str x.s, .lsl 5 (argsE x)]), (1, .row 45 25 encX i0 (l.reverse.take k)), (2, .row 45 25 encX i0 ((l.take k).map (othF x)))], 3⟩) trivial ((wk_of [(0, .id 0), (1, .nil), (2, .nil)] rfl ⟨.base (.tree _ _ rfl rfl), .base (.ptr _ _ _ rfl), .base (.tree _ _ rfl rfl), .base (.tree _ _ rfl rfl), (by first | exact .base (.own _ _ rfl) | exact .base (.nilown _ rfl) | exact .base (.trunc _ _ _ rfl)), (by first | exact .base (.own _ _ rfl) | exact .base (.nilown _ rfl) | exact .base (.trunc _ _ _ rfl)), .base (.tree _ _ rfl rfl), trivial⟩ ⟨⟨_, rfl, .cells _ _ _ _ rfl (by repeat (first | exact .nil | refine .cons (by first | exact .base (.tree _ _ rfl rfl) | exact .base (.own _ _ rfl) | exact .base (.ptr _ _ _ rfl) | exact .base (.map _ _ rfl) | exact .base (.nilown _ rfl) | exact .fn _ _ _ _ _ .nil (by repeat (first | exact .nil | refine .cons (by exact .ptr _ _ _ rfl) ?_))) ?_)) rfl⟩, ⟨_, rfl, (by first | exact .row _ _ _ _ _ _ _ rfl rfl | exact .lstrow _ _ _ _ _ _ _ rfl rfl | exact .nilrow _ _ _ _ _ rfl | exact .truncrow _ _ _ _ _ _ _ _ rfl (by omega) rfl)⟩, ⟨_, rfl, (by first | exact .row _ _ _ _ _ _ _ rfl rfl | exact .lstrow _ _ _ _ _ _ _ rfl rfl | exact .nilrow _ _ _ _ _ rfl | exact .truncrow _ _ _ _ _ _ _ _ rfl (by omega) rfl)⟩, trivial⟩)) ?_
    intro k hk _
    conv => whnf
    refine ⟨fun hd => ?_, fun hd => ?_⟩
    · have hd := of_decide_eq_true hd
      have hlt : k < l.length := by omega
      have hek : (k : Int).toNat = k := Int.toNat_natCast k
      have hw1 : IntKind.i64.wrap ((l.length : Int) - 1) = (l.length : Int) - 1 := w64_in ⟨by omega, by omega⟩
      have hw2 : IntKind.i64.wrap ((l.length : Int) - 1 - (k : Int)) = ((l.length - 1 - k : Nat) : Int) := by rw [w64_in ⟨by omega, by omega⟩]; omega
      have hrl2 : (l.reverse.take k).length = k := by rw [List.length_take, hrl]; omega
      have hol2 : ((l.take k).map (othF x)).length = k := by rw [List.length_map, List.length_take]; omega
      have hrs : l.reverse.take (k + 1) = l.reverse.take k ++ [l.getD (l.length - 1 - k) i0] := by rw [take_getD (d := i0) (by omega), rev_getD hlt]
      have hos : (l.take (k + 1)).map (othF x) = (l.take k).map (othF x) ++ [othF x (l.getD k i0)] := by rw [take_getD (d := i0) hlt, List.map_append]; rfl
      have hrt : ((l.length - 1 - k : Nat) : Int).toNat = l.length - 1 - k := Int.toNat_natCast _
      have hlk : (l.getD k i0).lets.length ≤ 5 := hlet _ (getD_mem hlt)
      generalize hR : l.reverse.take k = R at *
      generalize hR' : l.reverse.take (k + 1) = R' at *
      generalize hO : (l.take k).map (othF x) = O at *
      generalize hO' : (l.take (k + 1)).map (othF x) = O' at *
      conv => whnf
      rw [hw1, hw2]
      repeat (first | (refine And.intro ⟨by omega, by omega⟩ ?_; conv => whnf) | (refine And.intro (by omega) (And.intro rfl ?_); conv => whnf) | (refine And.intro rfl ?_; conv => whnf) | (refine And.intro (fun _ => ⟨by omega, by omega⟩) ?_; conv => whnf) | (refine And.intro (fun _ => by omega) (And.intro rfl ?_); conv => whnf) | (refine And.intro ⟨(by first | omega | (simp; omega)), (by first | omega | (simp; omega))⟩ ?_; conv => whnf) | (refine Exists.intro _ (And.intro rfl (And.intro (by first | omega | (simp; omega)) (And.intro ⟨rfl, rfl, rfl, rfl, rfl⟩ ?_))); conv => whnf) | (refine And.intro ⟨rfl, rfl⟩ (And.intro (by first | omega | (simp; omega)) ?_); conv => whnf) | (refine Exists.intro _ (And.intro rfl ?_); conv => whnf) | (refine And.intro (fun _ => ?_) (fun h => absurd h (by decide)); conv => whnf) | (refine And.intro (fun h => absurd h (by decide)) (fun _ => ?_); conv => whnf) | (refine .quiet (by kernel_rfl) ?_; conv => whnf))
      rw [hrt]
      refine ⟨⟨rfl, rfl⟩, (show (R.length + 1) * 304 ≤ 140737488355328 by omega), ?_⟩
      conv => whnf
      refine ⟨l.getD (l.length - 1 - k) i0, rfl, ?_⟩
      conv => whnf
      repeat (first | (refine And.intro ⟨by omega, by omega⟩ ?_; conv => whnf) | (refine And.intro (by omega) (And.intro rfl ?_); conv => whnf) | (refine And.intro rfl ?_; conv => whnf) | (refine And.intro (fun _ => ⟨by omega, by omega⟩) ?_; conv => whnf) | (refine And.intro (fun _ => by omega) (And.intro rfl ?_); conv => whnf) | (refine And.intro ⟨(by first | omega | (simp; omega)), (by first | omega | (simp; omega))⟩ ?_; conv => whnf) | (refine Exists.intro _ (And.intro rfl (And.intro (by first | omega | (simp; omega)) (And.intro ⟨rfl, rfl, rfl, rfl, rfl⟩ ?_))); conv => whnf) | (refine And.intro ⟨rfl, rfl⟩ (And.intro (by first | omega | (simp; omega)) ?_); conv => whnf) | (refine Exists.intro _ (And.intro rfl ?_); conv => whnf) | (refine And.intro (fun _ => ?_) (fun h => absurd h (by decide)); conv => whnf) | (refine And.intro (fun h => absurd h (by decide)) (fun _ => ?_); conv => whnf))
      rw [hek]
      generalize hy : l.getD k i0 = y at *
      refine drawG_slack (cxWOk _ _) ?_
      refine .eff (cxWOk _ _) ?_
      conv => whnf
      repeat (first | (refine And.intro ⟨by omega, by omega⟩ ?_; conv => whnf) | (refine And.intro (by omega) (And.intro rfl ?_); conv => whnf) | (refine And.intro rfl ?_; conv => whnf) | (refine And.intro (fun _ => ⟨by omega, by omega⟩) ?_; conv => whnf) | (refine And.intro (fun _ => by omega) (And.intro rfl ?_); conv => whnf) | (refine And.intro ⟨(by first | omega | (simp; omega)), (by first | omega | (simp; omega))⟩ ?_; conv => whnf) | (refine Exists.intro _ (And.intro rfl (And.intro (by first | omega | (simp; omega)) (And.intro ⟨rfl, rfl, rfl, rfl, rfl⟩ ?_))); conv => whnf) | (refine And.intro ⟨rfl, rfl⟩ (And.intro (by first | omega | (simp; omega)) ?_); conv => whnf) | (refine Exists.intro _ (And.intro rfl ?_); conv => whnf) | (refine And.intro (fun _ => ?_) (fun h => absurd h (by decide)); conv => whnf) | (refine And.intro (fun h => absurd h (by decide)) (fun _ => ?_); conv => whnf))
      refine ⟨⟨rfl, rfl⟩, (show (0 + y.lets.length) * 80 ≤ 140737488355328 by omega), ?_⟩
      conv => whnf
      refine ⟨rfl, ?_⟩
      conv => whnf
      repeat (first | (refine And.intro ⟨by omega, by omega⟩ ?_; conv => whnf) | (refine And.intro (by omega) (And.intro rfl ?_); conv => whnf) | (refine And.intro rfl ?_; conv => whnf) | (refine And.intro (fun _ => ⟨by omega, by omega⟩) ?_; conv => whnf) | (refine And.intro (fun _ => by omega) (And.intro rfl ?_); conv => whnf) | (refine And.intro ⟨(by first | omega | (simp; omega)), (by first | omega | (simp; omega))⟩ ?_; conv => whnf) | (refine Exists.intro _ (And.intro rfl (And.intro (by first | omega | (simp; omega)) (And.intro ⟨rfl, rfl, rfl, rfl, rfl⟩ ?_))); conv => whnf) | (refine And.intro ⟨rfl, rfl⟩ (And.intro (by first | omega | (simp; omega)) ?_); conv => whnf) | (refine Exists.intro _ (And.intro rfl ?_); conv => whnf) | (refine And.intro (fun _ => ?_) (fun h => absurd h (by decide)); conv => whnf) | (refine And.intro (fun h => absurd h (by decide)) (fun _ => ?_); conv => whnf))
      refine ⟨⟨rfl, rfl⟩, (show (y.lets.length + 1) * 80 ≤ 140737488355328 by omega), ?_⟩
      conv => whnf
      refine ⟨⟨uu, x⟩, rfl, ?_⟩
      conv => whnf
      repeat (first | (refine And.intro ⟨by omega, by omega⟩ ?_; conv => whnf) | (refine And.intro (by omega) (And.intro rfl ?_); conv => whnf) | (refine And.intro rfl ?_; conv => whnf) | (refine And.intro (fun _ => ⟨by omega, by omega⟩) ?_; conv => whnf) | (refine And.intro (fun _ => by omega) (And.intro rfl ?_); conv => whnf) | (refine And.intro ⟨(by first | omega | (simp; omega)), (by first | omega | (simp; omega))⟩ ?_; conv => whnf) | (refine Exists.intro _ (And.intro rfl (And.intro (by first | omega | (simp; omega)) (And.intro ⟨rfl, rfl, rfl, rfl, rfl⟩ ?_))); conv => whnf) | (refine And.intro ⟨rfl, rfl⟩ (And.intro (by first | omega | (simp; omega)) ?_); conv => whnf) | (refine Exists.intro _ (And.intro rfl ?_); conv => whnf) | (refine And.intro (fun _ => ?_) (fun h => absurd h (by decide)); conv => whnf) | (refine And.intro (fun h => absurd h (by decide)) (fun _ => ?_); conv => whnf))
      refine ⟨⟨[(0, encXs l), (3, .ptr 0 0), (5, .bool true), (6, .int .i64 (l.length : Nat)), (7, .own 1), (8, .own 2), (9, .int .i64 (k : Nat)), (10, .ptr 3 0)], [(0, .cells 40 [.int .i64 x.op, .int .i64 x.n, .int .i64 x.unit, .str x.s, .lsl 5 (argsE x)]), (1, .row 45 25 encX i0 (R')), (2, .row 45 25 encX i0 O), (3, .cells 45 [.str y.name, .str y.issuer, .int .i64 y.face, .int .i64 y.frm, .int .i64 y.to, .int .i64 y.every, .int .i64 y.count, .int .i64 y.adjust, .int .i64 y.record, .int .i64 y.rank, .own 4, .int .i64 y.coupon.op, .int .i64 y.coupon.n, .int .i64 y.coupon.unit, .str y.coupon.s, .lsl 5 (argsE y.coupon), .int .i64 (IntKind.i64.wrap (y.cap + 1)), .own 5, .sl 1 encS [] y.favour, .int .i64 y.cross, .sl 2 encK k0 y.calls, .int .i64 y.notice, .int .i64 y.sink, .int .i64 y.majority, .int .i64 y.fast]), (4, .row 50 6 encL l0 (y.lets ++ [⟨uu, x⟩])), (5, .row 48 7 encC c0 [⟨[109], x, 0⟩])], 6⟩, (wk_of [(0, .id 0), (1, .id 4), (2, .id 2), (3, .id 5), (4, .id 10), (5, .id 6)] rfl ⟨.base (.tree _ _ rfl rfl), .base (.ptr _ _ _ rfl), .base (.tree _ _ rfl rfl), .base (.tree _ _ rfl rfl), (by first | exact .base (.own _ _ rfl) | exact .base (.nilown _ rfl) | exact .base (.trunc _ _ _ rfl)), (by first | exact .base (.own _ _ rfl) | exact .base (.nilown _ rfl) | exact .base (.trunc _ _ _ rfl)), .base (.tree _ _ rfl rfl), .base (.ptr _ _ _ rfl), trivial⟩ ⟨⟨_, rfl, .cells _ _ _ _ rfl (by repeat (first | exact .nil | refine .cons (by first | exact .base (.tree _ _ rfl rfl) | exact .base (.own _ _ rfl) | exact .base (.ptr _ _ _ rfl) | exact .base (.map _ _ rfl) | exact .base (.nilown _ rfl) | exact .fn _ _ _ _ _ .nil (by repeat (first | exact .nil | refine .cons (by exact .ptr _ _ _ rfl) ?_))) ?_)) rfl⟩, ⟨_, rfl, (by first | exact .row _ _ _ _ _ _ _ rfl (hrs.symm) | exact .lstrow _ _ _ _ _ _ _ rfl (hrs.symm) | exact .nilrow _ _ _ _ _ (hrs.symm) | exact .truncrow _ _ _ _ _ _ _ _ rfl (by omega) (hrs.symm))⟩, ⟨_, rfl, (by first | exact .row _ _ _ _ _ _ _ rfl rfl | exact .lstrow _ _ _ _ _ _ _ rfl rfl | exact .nilrow _ _ _ _ _ rfl | exact .truncrow _ _ _ _ _ _ _ _ rfl (by omega) rfl)⟩, ⟨_, rfl, .cells _ _ _ _ rfl (by repeat (first | exact .nil | refine .cons (by first | exact .base (.tree _ _ rfl rfl) | exact .base (.own _ _ rfl) | exact .base (.ptr _ _ _ rfl) | exact .base (.map _ _ rfl) | exact .base (.nilown _ rfl) | exact .fn _ _ _ _ _ .nil (by repeat (first | exact .nil | refine .cons (by exact .ptr _ _ _ rfl) ?_))) ?_)) rfl⟩, ⟨_, rfl, (by first | exact .row _ _ _ _ _ _ _ rfl rfl | exact .lstrow _ _ _ _ _ _ _ rfl rfl | exact .nilrow _ _ _ _ _ rfl | exact .truncrow _ _ _ _ _ _ _ _ rfl (by omega) rfl)⟩, ⟨_, rfl, (by first | exact .row _ _ _ _ _ _ _ rfl rfl | exact .lstrow _ _ _ _ _ _ _ rfl rfl | exact .nilrow _ _ _ _ _ rfl | exact .truncrow _ _ _ _ _ _ _ _ rfl (by omega) rfl)⟩, trivial⟩), ?_⟩
      conv => whnf
      repeat (first | (refine And.intro ⟨by omega, by omega⟩ ?_; conv => whnf) | (refine And.intro (by omega) (And.intro rfl ?_); conv => whnf) | (refine And.intro rfl ?_; conv => whnf) | (refine And.intro (fun _ => ⟨by omega, by omega⟩) ?_; conv => whnf) | (refine And.intro (fun _ => by omega) (And.intro rfl ?_); conv => whnf) | (refine And.intro ⟨(by first | omega | (simp; omega)), (by first | omega | (simp; omega))⟩ ?_; conv => whnf) | (refine Exists.intro _ (And.intro rfl (And.intro (by first | omega | (simp; omega)) (And.intro ⟨rfl, rfl, rfl, rfl, rfl⟩ ?_))); conv => whnf) | (refine And.intro ⟨rfl, rfl⟩ (And.intro (by first | omega | (simp; omega)) ?_); conv => whnf) | (refine Exists.intro _ (And.intro rfl ?_); conv => whnf) | (refine And.intro (fun _ => ?_) (fun h => absurd h (by decide)); conv => whnf) | (refine And.intro (fun h => absurd h (by decide)) (fun _ => ?_); conv => whnf) | (refine .quiet (by kernel_rfl) ?_; conv => whnf))
      refine .one _ _ _ (fun _ => (apure_args (both_ok 4 y.coupon (.mk 0 1 0 [] [])) (.cons (.refl _) (.cons (.refl _) (.cons (rawE_le 0 1 0 []) .nil))))) (by repeat (first | exact .nil | (apply BorL.cons; first | exact lS rfl | exact lR rfl | exact lM rfl rfl | exact lL rfl | exact lX rfl | exact lN | exact lNl | exact lSm rfl | exact lIm rfl | exact lP rfl | exact lQ rfl | exact lB rfl rfl rfl))) (by first | exact .inl rfl | exact .inr (by repeat (first | exact flats_nil | refine flats_cons (by first | exact flat_val _ rfl | exact flat_row (fun _ => rfl) | exact flat_lst (fun _ => rfl)) ?_))) (by first | exact .inr rfl | exact .inl rfl) ?_
      conv => whnf
      repeat (first | (refine And.intro ⟨by omega, by omega⟩ ?_; conv => whnf) | (refine And.intro (by omega) (And.intro rfl ?_); conv => whnf) | (refine And.intro rfl ?_; conv => whnf) | (refine And.intro (fun _ => ⟨by omega, by omega⟩) ?_; conv => whnf) | (refine And.intro (fun _ => by omega) (And.intro rfl ?_); conv => whnf) | (refine And.intro ⟨(by first | omega | (simp; omega)), (by first | omega | (simp; omega))⟩ ?_; conv => whnf) | (refine Exists.intro _ (And.intro rfl (And.intro (by first | omega | (simp; omega)) (And.intro ⟨rfl, rfl, rfl, rfl, rfl⟩ ?_))); conv => whnf) | (refine And.intro ⟨rfl, rfl⟩ (And.intro (by first | omega | (simp; omega)) ?_); conv => whnf) | (refine Exists.intro _ (And.intro rfl ?_); conv => whnf) | (refine And.intro (fun _ => ?_) (fun h => absurd h (by decide)); conv => whnf) | (refine And.intro (fun h => absurd h (by decide)) (fun _ => ?_); conv => whnf) | (refine .quiet (by kernel_rfl) ?_; conv => whnf))
      refine ⟨⟨rfl, rfl⟩, (show (O.length + 1) * 304 ≤ 140737488355328 by omega), ?_⟩
      conv => whnf
      refine ⟨othF x y, rfl, ?_⟩
      conv => whnf
      repeat (first | (refine And.intro ⟨by omega, by omega⟩ ?_; conv => whnf) | (refine And.intro (by omega) (And.intro rfl ?_); conv => whnf) | (refine And.intro rfl ?_; conv => whnf) | (refine And.intro (fun _ => ⟨by omega, by omega⟩) ?_; conv => whnf) | (refine And.intro (fun _ => by omega) (And.intro rfl ?_); conv => whnf) | (refine And.intro ⟨(by first | omega | (simp; omega)), (by first | omega | (simp; omega))⟩ ?_; conv => whnf) | (refine Exists.intro _ (And.intro rfl (And.intro (by first | omega | (simp; omega)) (And.intro ⟨rfl, rfl, rfl, rfl, rfl⟩ ?_))); conv => whnf) | (refine And.intro ⟨rfl, rfl⟩ (And.intro (by first | omega | (simp; omega)) ?_); conv => whnf) | (refine Exists.intro _ (And.intro rfl ?_); conv => whnf) | (refine And.intro (fun _ => ?_) (fun h => absurd h (by decide)); conv => whnf) | (refine And.intro (fun h => absurd h (by decide)) (fun _ => ?_); conv => whnf) | (refine .quiet (by kernel_rfl) ?_; conv => whnf))
      refine up hlt trivial ((wk_of [(0, .id 0), (1, .id 1), (2, .id 7)] rfl ⟨.base (.tree _ _ rfl rfl), .base (.ptr _ _ _ rfl), .base (.tree _ _ rfl rfl), .base (.tree _ _ rfl rfl), (by first | exact .base (.own _ _ rfl) | exact .base (.nilown _ rfl) | exact .base (.trunc _ _ _ rfl)), (by first | exact .base (.own _ _ rfl) | exact .base (.nilown _ rfl) | exact .base (.trunc _ _ _ rfl)), .base (.tree _ _ (show AV.int .i64 _ = AV.int .i64 _ by rw [wrap1 (by omega)]) rfl), trivial⟩ ⟨⟨_, rfl, .cells _ _ _ _ rfl (by repeat (first | exact .nil | refine .cons (by first | exact .base (.tree _ _ rfl rfl) | exact .base (.own _ _ rfl) | exact .base (.ptr _ _ _ rfl) | exact .base (.map _ _ rfl) | exact .base (.nilown _ rfl) | exact .fn _ _ _ _ _ .nil (by repeat (first | exact .nil | refine .cons (by exact .ptr _ _ _ rfl) ?_))) ?_)) rfl⟩, ⟨_, rfl, (by first | exact .row _ _ _ _ _ _ _ rfl (hR'.symm) | exact .lstrow _ _ _ _ _ _ _ rfl (hR'.symm) | exact .nilrow _ _ _ _ _ (hR'.symm) | exact .truncrow _ _ _ _ _ _ _ _ rfl (by omega) (hR'.symm))⟩, ⟨_, rfl, (by first | exact .row _ _ _ _ _ _ _ rfl (hos.symm.trans hO'.symm) | exact .lstrow _ _ _ _ _ _ _ rfl (hos.symm.trans hO'.symm) | exact .nilrow _ _ _ _ _ (hos.symm.trans hO'.symm) | exact .truncrow _ _ _ _ _ _ _ _ rfl (by omega) (hos.symm.trans hO'.symm))⟩, trivial⟩))
    · have hd := of_decide_eq_false hd
      obtain rfl : k = l.length := by omega
      have hba : l.reverse.take l.length = l.reverse := List.take_of_length_le (by omega)
      have hota : (l.take l.length).map (othF x) = l.map (othF x) := by rw [List.take_length]
      rw [hba, hota]
      refine ⟨_, wk_frz [1, 2], ?_⟩
      conv => whnf
      refine .one _ _ _ (fun _ => hg1) (by repeat (first | exact .nil | (apply BorL.cons; first | exact lS rfl | exact lR rfl | exact lM rfl rfl | exact lL rfl | exact lX rfl | exact lN | exact lNl | exact lSm rfl | exact lIm rfl | exact lP rfl | exact lQ rfl | exact lB rfl rfl rfl))) (by first | exact .inl rfl | exact .inr (by repeat (first | exact flats_nil | refine flats_cons (by first | exact flat_val _ rfl | exact flat_row (fun _ => rfl) | exact flat_lst (fun _ => rfl)) ?_))) (by first | exact .inr rfl | exact .inl rfl) ?_
      conv => whnf
      repeat (first | (refine And.intro ⟨by omega, by omega⟩ ?_; conv => whnf) | (refine And.intro (by omega) (And.intro rfl ?_); conv => whnf) | (refine And.intro rfl ?_; conv => whnf) | (refine And.intro (fun _ => ⟨by omega, by omega⟩) ?_; conv => whnf) | (refine And.intro (fun _ => by omega) (And.intro rfl ?_); conv => whnf) | (refine And.intro ⟨(by first | omega | (simp; omega)), (by first | omega | (simp; omega))⟩ ?_; conv => whnf) | (refine Exists.intro _ (And.intro rfl (And.intro (by first | omega | (simp; omega)) (And.intro ⟨rfl, rfl, rfl, rfl, rfl⟩ ?_))); conv => whnf) | (refine And.intro ⟨rfl, rfl⟩ (And.intro (by first | omega | (simp; omega)) ?_); conv => whnf) | (refine Exists.intro _ (And.intro rfl ?_); conv => whnf) | (refine And.intro (fun _ => ?_) (fun h => absurd h (by decide)); conv => whnf) | (refine And.intro (fun h => absurd h (by decide)) (fun _ => ?_); conv => whnf) | (refine .quiet (by kernel_rfl) ?_; conv => whnf))
      refine .one _ _ _ (fun _ => hg2) (by repeat (first | exact .nil | (apply BorL.cons; first | exact lS rfl | exact lR rfl | exact lM rfl rfl | exact lL rfl | exact lX rfl | exact lN | exact lNl | exact lSm rfl | exact lIm rfl | exact lP rfl | exact lQ rfl | exact lB rfl rfl rfl))) (by first | exact .inl rfl | exact .inr (by repeat (first | exact flats_nil | refine flats_cons (by first | exact flat_val _ rfl | exact flat_row (fun _ => rfl) | exact flat_lst (fun _ => rfl)) ?_))) (by first | exact .inr rfl | exact .inl rfl) ?_
      conv => whnf
      repeat (first | (refine And.intro ⟨by omega, by omega⟩ ?_; conv => whnf) | (refine And.intro (by omega) (And.intro rfl ?_); conv => whnf) | (refine And.intro rfl ?_; conv => whnf) | (refine And.intro (fun _ => ⟨by omega, by omega⟩) ?_; conv => whnf) | (refine And.intro (fun _ => by omega) (And.intro rfl ?_); conv => whnf) | (refine And.intro ⟨(by first | omega | (simp; omega)), (by first | omega | (simp; omega))⟩ ?_; conv => whnf) | (refine Exists.intro _ (And.intro rfl (And.intro (by first | omega | (simp; omega)) (And.intro ⟨rfl, rfl, rfl, rfl, rfl⟩ ?_))); conv => whnf) | (refine And.intro ⟨rfl, rfl⟩ (And.intro (by first | omega | (simp; omega)) ?_); conv => whnf) | (refine Exists.intro _ (And.intro rfl ?_); conv => whnf) | (refine And.intro (fun _ => ?_) (fun h => absurd h (by decide)); conv => whnf) | (refine And.intro (fun h => absurd h (by decide)) (fun _ => ?_); conv => whnf) | (refine .quiet (by kernel_rfl) ?_; conv => whnf))
      refine .one _ _ _ (fun _ => hg3) (by repeat (first | exact .nil | (apply BorL.cons; first | exact lS rfl | exact lR rfl | exact lM rfl rfl | exact lL rfl | exact lX rfl | exact lN | exact lNl | exact lSm rfl | exact lIm rfl | exact lP rfl | exact lQ rfl | exact lB rfl rfl rfl))) (by first | exact .inl rfl | exact .inr (by repeat (first | exact flats_nil | refine flats_cons (by first | exact flat_val _ rfl | exact flat_row (fun _ => rfl) | exact flat_lst (fun _ => rfl)) ?_))) (by first | exact .inr rfl | exact .inl rfl) ?_
      conv => whnf
      repeat (first | (refine And.intro ⟨by omega, by omega⟩ ?_; conv => whnf) | (refine And.intro (by omega) (And.intro rfl ?_); conv => whnf) | (refine And.intro rfl ?_; conv => whnf) | (refine And.intro (fun _ => ⟨by omega, by omega⟩) ?_; conv => whnf) | (refine And.intro (fun _ => by omega) (And.intro rfl ?_); conv => whnf) | (refine And.intro ⟨(by first | omega | (simp; omega)), (by first | omega | (simp; omega))⟩ ?_; conv => whnf) | (refine Exists.intro _ (And.intro rfl (And.intro (by first | omega | (simp; omega)) (And.intro ⟨rfl, rfl, rfl, rfl, rfl⟩ ?_))); conv => whnf) | (refine And.intro ⟨rfl, rfl⟩ (And.intro (by first | omega | (simp; omega)) ?_); conv => whnf) | (refine Exists.intro _ (And.intro rfl ?_); conv => whnf) | (refine And.intro (fun _ => ?_) (fun h => absurd h (by decide)); conv => whnf) | (refine And.intro (fun h => absurd h (by decide)) (fun _ => ?_); conv => whnf) | (refine .quiet (by kernel_rfl) ?_; conv => whnf))
      obtain ⟨p1, p2, p3, p4, p5, p6, p7⟩ := order_plain l (by omega) x
      have hls := lists_ok (gsE l) (gsE (l.map (othF x))) ⟨by omega, fun c hc => by have := p5 c hc; omega⟩
      have hb1 : (!decide (errG l = errG l.reverse) && (decide (errG l = 0) || decide (errG l.reverse = 0)) || !decide (((gsE l).length : Int) = ((gsE l.reverse).length : Int))) = false := by
        rw [p2]
        by_cases h : errG l = 0
        · rw [h, p1.1 h, decide_eq_true rfl, decide_eq_true rfl]; rfl
        · rw [decide_eq_false h, decide_eq_false (fun h' => h (p1.2 h'))]; simp
      generalize hO : l.map (othF x) = other at *
      refine ⟨fun h => (by rw [hb1] at h; cases h), fun _ => ?_⟩
      generalize hA : gsE l = A at *
      generalize hB : gsE l.reverse = B at *
      generalize hC : gsE other = C at *
      generalize hE1 : errG l = e1 at *
      generalize hE3 : errG other = e3 at *
      conv => whnf
      repeat (first | (refine And.intro ⟨by omega, by omega⟩ ?_; conv => whnf) | (refine And.intro (by omega) (And.intro rfl ?_); conv => whnf) | (refine And.intro rfl ?_; conv => whnf) | (refine And.intro (fun _ => ⟨by omega, by omega⟩) ?_; conv => whnf) | (refine And.intro (fun _ => by omega) (And.intro rfl ?_); conv => whnf) | (refine And.intro ⟨(by first | omega | (simp; omega)), (by first | omega | (simp; omega))⟩ ?_; conv => whnf) | (refine Exists.intro _ (And.intro rfl (And.intro (by first | omega | (simp; omega)) (And.intro ⟨rfl, rfl, rfl, rfl, rfl⟩ ?_))); conv => whnf) | (refine And.intro ⟨rfl, rfl⟩ (And.intro (by first | omega | (simp; omega)) ?_); conv => whnf) | (refine Exists.intro _ (And.intro rfl ?_); conv => whnf) | (refine And.intro (fun _ => ?_) (fun h => absurd h (by decide)); conv => whnf) | (refine And.intro (fun h => absurd h (by decide)) (fun _ => ?_); conv => whnf) | (refine .quiet (by kernel_rfl) ?_; conv => whnf))
      refine loop_up (cxWOk _ _) A.length (fun _ => True) (fun i => ⟨[(0, encXs l), (5, .bool true), (6, .int .i64 (l.length : Nat)), (11, .sl 1 encIs [] A), (12, .int .i64 e1), (13, .sl 1 encIs [] B), (15, .sl 1 encIs [] C), (16, .int .i64 e3), (17, .int .i64 (i : Nat))], [], 0⟩) trivial ((wk_of [] rfl ⟨.base (.tree _ _ rfl rfl), .base (.tree _ _ rfl rfl), .base (.tree _ _ rfl rfl), .base (.tree _ _ rfl rfl), .base (.tree _ _ rfl rfl), .base (.tree _ _ rfl rfl), .base (.tree _ _ rfl rfl), .base (.tree _ _ rfl rfl), .base (.tree _ _ rfl rfl), trivial⟩ trivial)) ?_
      intro i hi _
      conv => whnf
      refine ⟨fun hd1 => ?_, fun hd1 => ?_⟩
      · have hd1 := of_decide_eq_true hd1
        have hli : i < A.length := by omega
        have hei : (i : Int).toNat = i := Int.toNat_natCast i
        have hAi := p3 _ (getD_mem (d := []) hli)
        have hAl := p5 _ (getD_mem (d := []) hli)
        have hFs : ∀ k, k < B.length → (B.take (k + 1)).any (fun c => decide (turn l.length c = A.getD i [])) = ((B.take k).any (fun c => decide (turn l.length c = A.getD i [])) || decide (turn l.length (B.getD k []) = A.getD i [])) := fun k hk => by
          rw [take_getD (d := []) hk, List.any_append]; simp
        have hFn : (B.take B.length).any (fun c => decide (turn l.length c = A.getD i [])) = true := by
          rw [List.take_length, List.any_eq_true]
          obtain ⟨c', h1, h2⟩ := hAi
          exact ⟨c', h1, decide_eq_true h2⟩
        have hF0 : (B.take 0).any (fun c => decide (turn l.length c = A.getD i [])) = false := rfl
        generalize hF : (fun k => (B.take k).any (fun c => decide (turn l.length c = A.getD i []))) = F at *
        have hF : ∀ k, (B.take k).any (fun c => decide (turn l.length c = A.getD i [])) = F k := fun k => by rw [← hF]
        simp only [hF] at hFs hFn hF0
        conv => whnf
        repeat (first | (refine And.intro ⟨by omega, by omega⟩ ?_; conv => whnf) | (refine And.intro (by omega) (And.intro rfl ?_); conv => whnf) | (refine And.intro rfl ?_; conv => whnf) | (refine And.intro (fun _ => ⟨by omega, by omega⟩) ?_; conv => whnf) | (refine And.intro (fun _ => by omega) (And.intro rfl ?_); conv => whnf) | (refine And.intro ⟨(by first | omega | (simp; omega)), (by first | omega | (simp; omega))⟩ ?_; conv => whnf) | (refine Exists.intro _ (And.intro rfl (And.intro (by first | omega | (simp; omega)) (And.intro ⟨rfl, rfl, rfl, rfl, rfl⟩ ?_))); conv => whnf) | (refine And.intro ⟨rfl, rfl⟩ (And.intro (by first | omega | (simp; omega)) ?_); conv => whnf) | (refine Exists.intro _ (And.intro rfl ?_); conv => whnf) | (refine And.intro (fun _ => ?_) (fun h => absurd h (by decide)); conv => whnf) | (refine And.intro (fun h => absurd h (by decide)) (fun _ => ?_); conv => whnf) | (refine .quiet (by kernel_rfl) ?_; conv => whnf))
        refine loop_up (cxWOk _ _) B.length (fun _ => True) (fun k => ⟨[(0, encXs l), (5, .bool true), (6, .int .i64 (l.length : Nat)), (11, .sl 1 encIs [] A), (12, .int .i64 e1), (13, .sl 1 encIs [] B), (15, .sl 1 encIs [] C), (16, .int .i64 e3), (17, .int .i64 (i : Nat)), (18, .bool (F k)), (19, .int .i64 (k : Nat))], [], 0⟩) trivial ((wk_of [] rfl ⟨.base (.tree _ _ rfl rfl), .base (.tree _ _ rfl rfl), .base (.tree _ _ rfl rfl), .base (.tree _ _ rfl rfl), .base (.tree _ _ rfl rfl), .base (.tree _ _ rfl rfl), .base (.tree _ _ rfl rfl), .base (.tree _ _ rfl rfl), .base (.tree _ _ rfl rfl), .base (.tree _ _ (show AV.bool _ = AV.bool _ by rw [hF0]) rfl), .base (.tree _ _ rfl rfl), trivial⟩ trivial)) ?_
        intro k hk _
        conv => whnf
        refine ⟨fun hd2 => ?_, fun hd2 => ?_⟩
        · have hd2 := of_decide_eq_true hd2
          have hlk : k < B.length := by omega
          have hek : (k : Int).toNat = k := Int.toNat_natCast k
          have hBk := p7 _ (getD_mem (d := []) hlk)
          have hFk := hFs k hlk
          conv => whnf
          repeat (first | (refine And.intro ⟨by omega, by omega⟩ ?_; conv => whnf) | (refine And.intro (by omega) (And.intro rfl ?_); conv => whnf) | (refine And.intro rfl ?_; conv => whnf) | (refine And.intro (fun _ => ⟨by omega, by omega⟩) ?_; conv => whnf) | (refine And.intro (fun _ => by omega) (And.intro rfl ?_); conv => whnf) | (refine And.intro ⟨(by first | omega | (simp; omega)), (by first | omega | (simp; omega))⟩ ?_; conv => whnf) | (refine Exists.intro _ (And.intro rfl (And.intro (by first | omega | (simp; omega)) (And.intro ⟨rfl, rfl, rfl, rfl, rfl⟩ ?_))); conv => whnf) | (refine And.intro ⟨rfl, rfl⟩ (And.intro (by first | omega | (simp; omega)) ?_); conv => whnf) | (refine Exists.intro _ (And.intro rfl ?_); conv => whnf) | (refine And.intro (fun _ => ?_) (fun h => absurd h (by decide)); conv => whnf) | (refine And.intro (fun h => absurd h (by decide)) (fun _ => ?_); conv => whnf) | (refine .quiet (by kernel_rfl) ?_; conv => whnf))
          rw [hek]
          conv => whnf
          repeat (first | (refine And.intro ⟨by omega, by omega⟩ ?_; conv => whnf) | (refine And.intro (by omega) (And.intro rfl ?_); conv => whnf) | (refine And.intro rfl ?_; conv => whnf) | (refine And.intro (fun _ => ⟨by omega, by omega⟩) ?_; conv => whnf) | (refine And.intro (fun _ => by omega) (And.intro rfl ?_); conv => whnf) | (refine And.intro ⟨(by first | omega | (simp; omega)), (by first | omega | (simp; omega))⟩ ?_; conv => whnf) | (refine Exists.intro _ (And.intro rfl (And.intro (by first | omega | (simp; omega)) (And.intro ⟨rfl, rfl, rfl, rfl, rfl⟩ ?_))); conv => whnf) | (refine And.intro ⟨rfl, rfl⟩ (And.intro (by first | omega | (simp; omega)) ?_); conv => whnf) | (refine Exists.intro _ (And.intro rfl ?_); conv => whnf) | (refine And.intro (fun _ => ?_) (fun h => absurd h (by decide)); conv => whnf) | (refine And.intro (fun h => absurd h (by decide)) (fun _ => ?_); conv => whnf) | (refine .quiet (by kernel_rfl) ?_; conv => whnf))
          have hTs : ∀ t, t < (B.getD k []).length → (((B.getD k []).reverse.take (t + 1)).map fun v => (l.length : Int) - 1 - v) = (((B.getD k []).reverse.take t).map fun v => (l.length : Int) - 1 - v) ++ [(l.length : Int) - 1 - (B.getD k []).getD ((B.getD k []).length - 1 - t) 0] := fun t ht => turnT_succ ht
          have hTn : (((B.getD k []).reverse.take (B.getD k []).length).map fun v => (l.length : Int) - 1 - v) = turn l.length (B.getD k []) := turnT_all
          have hTl : ∀ t, (((B.getD k []).reverse.take t).map fun v => (l.length : Int) - 1 - v).length ≤ t := fun t => by rw [List.length_map, List.length_take]; omega
          have hlk2 := lists_ok [turn l.length (B.getD k [])] [A.getD i []] ⟨Nat.le_trans (Nat.le_refl 1) (by decide), fun c hc => by
            rw [List.mem_singleton] at hc
            subst hc
            unfold turn
            rw [List.length_map, List.length_reverse]
            omega⟩ ⟨Nat.le_trans (Nat.le_refl 1) (by decide), fun c hc => by
            rw [List.mem_singleton] at hc
            subst hc
            omega⟩
          rw [show decide ([turn l.length (B.getD k [])] = [A.getD i []]) = decide (turn l.length (B.getD k []) = A.getD i []) by simp] at hlk2
          generalize hbk : B.getD k [] = c at *
          generalize hT : (fun t => (c.reverse.take t).map fun v => (l.length : Int) - 1 - v) = T at *
          have hT : ∀ t, ((c.reverse.take t).map fun v => (l.length : Int) - 1 - v) = T t := fun t => by rw [← hT]
          simp only [hT] at hTs hTn hTl
          have hT0 : T 0 = [] := by rw [← hT]; rfl
          have hw4 : IntKind.i64.wrap ((c.length : Int) - 1) = (c.length : Int) - 1 - ((0 : Nat) : Int) := by rw [w64_in ⟨by omega, by omega⟩]; omega
          have hw5 : IntKind.i64.wrap ((l.length : Int) - 1) = (l.length : Int) - 1 := w64_in ⟨by omega, by omega⟩
          refine loop_up (cxWOk _ _) c.length (fun _ => True) (fun t => ⟨[(0, encXs l), (5, .bool true), (6, .int .i64 (l.length : Nat)), (11, .sl 1 encIs [] A), (12, .int .i64 e1), (13, .sl 1 encIs [] B), (15, .sl 1 encIs [] C), (16, .int .i64 e3), (17, .int .i64 (i : Nat)), (18, .bool (F k)), (19, .int .i64 (k : Nat)), (20, .own 0), (21, .int .i64 ((c.length : Int) - 1 - ((t : Nat) : Int)))], [(0, .row 3 1 encI 0 (T t))], 1⟩) trivial ((wk_of [(0, .nil)] rfl ⟨.base (.tree _ _ rfl rfl), .base (.tree _ _ rfl rfl), .base (.tree _ _ rfl rfl), .base (.tree _ _ rfl rfl), .base (.tree _ _ rfl rfl), .base (.tree _ _ rfl rfl), .base (.tree _ _ rfl rfl), .base (.tree _ _ rfl rfl), .base (.tree _ _ rfl rfl), .base (.tree _ _ rfl rfl), .base (.tree _ _ rfl rfl), (by first | exact .base (.own _ _ rfl) | exact .base (.nilown _ rfl) | exact .base (.trunc _ _ _ rfl)), .base (.tree _ _ (show AV.int .i64 _ = AV.int .i64 _ by rw [hw4]) rfl), trivial⟩ ⟨⟨_, rfl, (by first | exact .row _ _ _ _ _ _ _ rfl hT0 | exact .lstrow _ _ _ _ _ _ _ rfl hT0 | exact .nilrow _ _ _ _ _ hT0 | exact .truncrow _ _ _ _ _ _ _ _ rfl (by omega) hT0)⟩, trivial⟩)) ?_
          intro t ht _
          conv => whnf
          refine ⟨fun hd3 => ?_, fun hd3 => ?_⟩
          · have hd3 := of_decide_eq_true hd3
            have hlt : t < c.length := by omega
            have hTst := hTs t hlt
            have hTlt := hTl t
            have hidx : ((c.length : Int) - 1 - (t : Int)).toNat = c.length - 1 - t := by omega
            have hbv := hBk.2 (c.getD (c.length - 1 - t) 0) (getD_mem (by omega))
            have hw6 : IntKind.i64.wrap ((l.length : Int) - 1 - c.getD (c.length - 1 - t) 0) = (l.length : Int) - 1 - c.getD (c.length - 1 - t) 0 := w64_in ⟨by omega, by omega⟩
            have hw7 : IntKind.i64.wrap ((c.length : Int) - 1 - (t : Int) - 1) = (c.length : Int) - 1 - ((t + 1 : Nat) : Int) := by rw [w64_in ⟨by omega, by omega⟩]; omega
            conv => whnf
            repeat (first | (refine And.intro ⟨by omega, by omega⟩ ?_; conv => whnf) | (refine And.intro (by omega) (And.intro rfl ?_); conv => whnf) | (refine And.intro rfl ?_; conv => whnf) | (refine And.intro (fun _ => ⟨by omega, by omega⟩) ?_; conv => whnf) | (refine And.intro (fun _ => by omega) (And.intro rfl ?_); conv => whnf) | (refine And.intro ⟨(by first | omega | (simp; omega)), (by first | omega | (simp; omega))⟩ ?_; conv => whnf) | (refine Exists.intro _ (And.intro rfl (And.intro (by first | omega | (simp; omega)) (And.intro ⟨rfl, rfl, rfl, rfl, rfl⟩ ?_))); conv => whnf) | (refine And.intro ⟨rfl, rfl⟩ (And.intro (by first | omega | (simp; omega)) ?_); conv => whnf) | (refine Exists.intro _ (And.intro rfl ?_); conv => whnf) | (refine And.intro (fun _ => ?_) (fun h => absurd h (by decide)); conv => whnf) | (refine And.intro (fun h => absurd h (by decide)) (fun _ => ?_); conv => whnf) | (refine .quiet (by kernel_rfl) ?_; conv => whnf))
            rw [hek, hbk]
            conv => whnf
            repeat (first | (refine And.intro ⟨by omega, by omega⟩ ?_; conv => whnf) | (refine And.intro (by omega) (And.intro rfl ?_); conv => whnf) | (refine And.intro rfl ?_; conv => whnf) | (refine And.intro (fun _ => ⟨by omega, by omega⟩) ?_; conv => whnf) | (refine And.intro (fun _ => by omega) (And.intro rfl ?_); conv => whnf) | (refine And.intro ⟨(by first | omega | (simp; omega)), (by first | omega | (simp; omega))⟩ ?_; conv => whnf) | (refine Exists.intro _ (And.intro rfl (And.intro (by first | omega | (simp; omega)) (And.intro ⟨rfl, rfl, rfl, rfl, rfl⟩ ?_))); conv => whnf) | (refine And.intro ⟨rfl, rfl⟩ (And.intro (by first | omega | (simp; omega)) ?_); conv => whnf) | (refine Exists.intro _ (And.intro rfl ?_); conv => whnf) | (refine And.intro (fun _ => ?_) (fun h => absurd h (by decide)); conv => whnf) | (refine And.intro (fun h => absurd h (by decide)) (fun _ => ?_); conv => whnf) | (refine .quiet (by kernel_rfl) ?_; conv => whnf))
            rw [hidx, hw5, hw6]
            refine ⟨⟨rfl, rfl⟩, (show ((T t).length + 1) * 8 ≤ 140737488355328 by omega), ?_⟩
            conv => whnf
            refine ⟨_, rfl, ?_⟩
            conv => whnf
            repeat (first | (refine And.intro ⟨by omega, by omega⟩ ?_; conv => whnf) | (refine And.intro (by omega) (And.intro rfl ?_); conv => whnf) | (refine And.intro rfl ?_; conv => whnf) | (refine And.intro (fun _ => ⟨by omega, by omega⟩) ?_; conv => whnf) | (refine And.intro (fun _ => by omega) (And.intro rfl ?_); conv => whnf) | (refine And.intro ⟨(by first | omega | (simp; omega)), (by first | omega | (simp; omega))⟩ ?_; conv => whnf) | (refine Exists.intro _ (And.intro rfl (And.intro (by first | omega | (simp; omega)) (And.intro ⟨rfl, rfl, rfl, rfl, rfl⟩ ?_))); conv => whnf) | (refine And.intro ⟨rfl, rfl⟩ (And.intro (by first | omega | (simp; omega)) ?_); conv => whnf) | (refine Exists.intro _ (And.intro rfl ?_); conv => whnf) | (refine And.intro (fun _ => ?_) (fun h => absurd h (by decide)); conv => whnf) | (refine And.intro (fun h => absurd h (by decide)) (fun _ => ?_); conv => whnf) | (refine .quiet (by kernel_rfl) ?_; conv => whnf))
            refine up hlt trivial ((wk_of [(0, .id 2)] rfl ⟨.base (.tree _ _ rfl rfl), .base (.tree _ _ rfl rfl), .base (.tree _ _ rfl rfl), .base (.tree _ _ rfl rfl), .base (.tree _ _ rfl rfl), .base (.tree _ _ rfl rfl), .base (.tree _ _ rfl rfl), .base (.tree _ _ rfl rfl), .base (.tree _ _ rfl rfl), .base (.tree _ _ rfl rfl), .base (.tree _ _ rfl rfl), (by first | exact .base (.own _ _ rfl) | exact .base (.nilown _ rfl) | exact .base (.trunc _ _ _ rfl)), .base (.tree _ _ (show AV.int .i64 _ = AV.int .i64 _ by rw [hw7]) rfl), trivial⟩ ⟨⟨_, rfl, (by first | exact .row _ _ _ _ _ _ _ rfl (hTst.symm) | exact .lstrow _ _ _ _ _ _ _ rfl (hTst.symm) | exact .nilrow _ _ _ _ _ (hTst.symm) | exact .truncrow _ _ _ _ _ _ _ _ rfl (by omega) (hTst.symm))⟩, trivial⟩))
          · have hd3 := of_decide_eq_false hd3
            obtain rfl : t = c.length := by omega
            rw [hTn]
            cases hb : F k with
            | true =>
              conv => whnf
              repeat (first | (refine And.intro ⟨by omega, by omega⟩ ?_; conv => whnf) | (refine And.intro (by omega) (And.intro rfl ?_); conv => whnf) | (refine And.intro rfl ?_; conv => whnf) | (refine And.intro (fun _ => ⟨by omega, by omega⟩) ?_; conv => whnf) | (refine And.intro (fun _ => by omega) (And.intro rfl ?_); conv => whnf) | (refine And.intro ⟨(by first | omega | (simp; omega)), (by first | omega | (simp; omega))⟩ ?_; conv => whnf) | (refine Exists.intro _ (And.intro rfl (And.intro (by first | omega | (simp; omega)) (And.intro ⟨rfl, rfl, rfl, rfl, rfl⟩ ?_))); conv => whnf) | (refine And.intro ⟨rfl, rfl⟩ (And.intro (by first | omega | (simp; omega)) ?_); conv => whnf) | (refine Exists.intro _ (And.intro rfl ?_); conv => whnf) | (refine And.intro (fun _ => ?_) (fun h => absurd h (by decide)); conv => whnf) | (refine And.intro (fun h => absurd h (by decide)) (fun _ => ?_); conv => whnf) | (refine .quiet (by kernel_rfl) ?_; conv => whnf))
              refine .one [.undef, .undef] _ [.val (.bool true)] (fun h => (by have h0 : (false : Bool) = true := h; cases h0)) (by repeat (first | exact .nil | (apply BorL.cons; first | exact lS rfl | exact lR rfl | exact lM rfl rfl | exact lL rfl | exact lX rfl | exact lN | exact lNl | exact lSm rfl | exact lIm rfl | exact lP rfl | exact lQ rfl | exact lB rfl rfl rfl))) (by first | exact .inl rfl | exact .inr (by repeat (first | exact flats_nil | refine flats_cons (by first | exact flat_val _ rfl | exact flat_row (fun _ => rfl) | exact flat_lst (fun _ => rfl)) ?_))) (by first | exact .inr rfl | exact .inl rfl) ?_
              conv => whnf
              repeat (first | (refine And.intro ⟨by omega, by omega⟩ ?_; conv => whnf) | (refine And.intro (by omega) (And.intro rfl ?_); conv => whnf) | (refine And.intro rfl ?_; conv => whnf) | (refine And.intro (fun _ => ⟨by omega, by omega⟩) ?_; conv => whnf) | (refine And.intro (fun _ => by omega) (And.intro rfl ?_); conv => whnf) | (refine And.intro ⟨(by first | omega | (simp; omega)), (by first | omega | (simp; omega))⟩ ?_; conv => whnf) | (refine Exists.intro _ (And.intro rfl (And.intro (by first | omega | (simp; omega)) (And.intro ⟨rfl, rfl, rfl, rfl, rfl⟩ ?_))); conv => whnf) | (refine And.intro ⟨rfl, rfl⟩ (And.intro (by first | omega | (simp; omega)) ?_); conv => whnf) | (refine Exists.intro _ (And.intro rfl ?_); conv => whnf) | (refine And.intro (fun _ => ?_) (fun h => absurd h (by decide)); conv => whnf) | (refine And.intro (fun h => absurd h (by decide)) (fun _ => ?_); conv => whnf) | (refine .quiet (by kernel_rfl) ?_; conv => whnf))
              refine up hlk trivial ((wk_of [] rfl ⟨.base (.tree _ _ rfl rfl), .base (.tree _ _ rfl rfl), .base (.tree _ _ rfl rfl), .base (.tree _ _ rfl rfl), .base (.tree _ _ rfl rfl), .base (.tree _ _ rfl rfl), .base (.tree _ _ rfl rfl), .base (.tree _ _ rfl rfl), .base (.tree _ _ rfl rfl), .base (.tree _ _ (show AV.bool _ = AV.bool _ by rw [hFk, hb]; rfl) rfl), .base (.tree _ _ (show AV.int .i64 _ = AV.int .i64 _ by rw [wrap1 (by omega)]) rfl), trivial⟩ trivial))
            | false =>
              conv => whnf
              repeat (first | (refine And.intro ⟨by omega, by omega⟩ ?_; conv => whnf) | (refine And.intro (by omega) (And.intro rfl ?_); conv => whnf) | (refine And.intro rfl ?_; conv => whnf) | (refine And.intro (fun _ => ⟨by omega, by omega⟩) ?_; conv => whnf) | (refine And.intro (fun _ => by omega) (And.intro rfl ?_); conv => whnf) | (refine And.intro ⟨(by first | omega | (simp; omega)), (by first | omega | (simp; omega))⟩ ?_; conv => whnf) | (refine Exists.intro _ (And.intro rfl (And.intro (by first | omega | (simp; omega)) (And.intro ⟨rfl, rfl, rfl, rfl, rfl⟩ ?_))); conv => whnf) | (refine And.intro ⟨rfl, rfl⟩ (And.intro (by first | omega | (simp; omega)) ?_); conv => whnf) | (refine Exists.intro _ (And.intro rfl ?_); conv => whnf) | (refine And.intro (fun _ => ?_) (fun h => absurd h (by decide)); conv => whnf) | (refine And.intro (fun h => absurd h (by decide)) (fun _ => ?_); conv => whnf) | (refine .quiet (by kernel_rfl) ?_; conv => whnf))
              rw [hei]
              conv => whnf
              repeat (first | (refine And.intro ⟨by omega, by omega⟩ ?_; conv => whnf) | (refine And.intro (by omega) (And.intro rfl ?_); conv => whnf) | (refine And.intro rfl ?_; conv => whnf) | (refine And.intro (fun _ => ⟨by omega, by omega⟩) ?_; conv => whnf) | (refine And.intro (fun _ => by omega) (And.intro rfl ?_); conv => whnf) | (refine And.intro ⟨(by first | omega | (simp; omega)), (by first | omega | (simp; omega))⟩ ?_; conv => whnf) | (refine Exists.intro _ (And.intro rfl (And.intro (by first | omega | (simp; omega)) (And.intro ⟨rfl, rfl, rfl, rfl, rfl⟩ ?_))); conv => whnf) | (refine And.intro ⟨rfl, rfl⟩ (And.intro (by first | omega | (simp; omega)) ?_); conv => whnf) | (refine Exists.intro _ (And.intro rfl ?_); conv => whnf) | (refine And.intro (fun _ => ?_) (fun h => absurd h (by decide)); conv => whnf) | (refine And.intro (fun h => absurd h (by decide)) (fun _ => ?_); conv => whnf) | (refine .quiet (by kernel_rfl) ?_; conv => whnf))
              refine .one _ _ _ (fun _ => hlk2) (by repeat (first | exact .nil | (apply BorL.cons; first | exact lS rfl | exact lR rfl | exact lM rfl rfl | exact lL rfl | exact lX rfl | exact lN | exact lNl | exact lSm rfl | exact lIm rfl | exact lP rfl | exact lQ rfl | exact lB rfl rfl rfl))) (by first | exact .inl rfl | exact .inr (by repeat (first | exact flats_nil | refine flats_cons (by first | exact flat_val _ rfl | exact flat_row (fun _ => rfl) | exact flat_lst (fun _ => rfl)) ?_))) (by first | exact .inr rfl | exact .inl rfl) ?_
              conv => whnf
              repeat (first | (refine And.intro ⟨by omega, by omega⟩ ?_; conv => whnf) | (refine And.intro (by omega) (And.intro rfl ?_); conv => whnf) | (refine And.intro rfl ?_; conv => whnf) | (refine And.intro (fun _ => ⟨by omega, by omega⟩) ?_; conv => whnf) | (refine And.intro (fun _ => by omega) (And.intro rfl ?_); conv => whnf) | (refine And.intro ⟨(by first | omega | (simp; omega)), (by first | omega | (simp; omega))⟩ ?_; conv => whnf) | (refine Exists.intro _ (And.intro rfl (And.intro (by first | omega | (simp; omega)) (And.intro ⟨rfl, rfl, rfl, rfl, rfl⟩ ?_))); conv => whnf) | (refine And.intro ⟨rfl, rfl⟩ (And.intro (by first | omega | (simp; omega)) ?_); conv => whnf) | (refine Exists.intro _ (And.intro rfl ?_); conv => whnf) | (refine And.intro (fun _ => ?_) (fun h => absurd h (by decide)); conv => whnf) | (refine And.intro (fun h => absurd h (by decide)) (fun _ => ?_); conv => whnf) | (refine .quiet (by kernel_rfl) ?_; conv => whnf))
              refine up hlk trivial ((wk_of [] rfl ⟨.base (.tree _ _ rfl rfl), .base (.tree _ _ rfl rfl), .base (.tree _ _ rfl rfl), .base (.tree _ _ rfl rfl), .base (.tree _ _ rfl rfl), .base (.tree _ _ rfl rfl), .base (.tree _ _ rfl rfl), .base (.tree _ _ rfl rfl), .base (.tree _ _ rfl rfl), .base (.tree _ _ (show AV.bool _ = AV.bool _ by rw [hFk, hb]) rfl), .base (.tree _ _ (show AV.int .i64 _ = AV.int .i64 _ by rw [wrap1 (by omega)]) rfl), trivial⟩ trivial))
        · have hd2 := of_decide_eq_false hd2
          obtain rfl : k = B.length := by omega
          rw [hFn]
          conv => whnf
          refine ⟨fun h => (by cases h), fun _ => ?_⟩
          conv => whnf
          repeat (first | (refine And.intro ⟨by omega, by omega⟩ ?_; conv => whnf) | (refine And.intro (by omega) (And.intro rfl ?_); conv => whnf) | (refine And.intro rfl ?_; conv => whnf) | (refine And.intro (fun _ => ⟨by omega, by omega⟩) ?_; conv => whnf) | (refine And.intro (fun _ => by omega) (And.intro rfl ?_); conv => whnf) | (refine And.intro ⟨(by first | omega | (simp; omega)), (by first | omega | (simp; omega))⟩ ?_; conv => whnf) | (refine Exists.intro _ (And.intro rfl (And.intro (by first | omega | (simp; omega)) (And.intro ⟨rfl, rfl, rfl, rfl, rfl⟩ ?_))); conv => whnf) | (refine And.intro ⟨rfl, rfl⟩ (And.intro (by first | omega | (simp; omega)) ?_); conv => whnf) | (refine Exists.intro _ (And.intro rfl ?_); conv => whnf) | (refine And.intro (fun _ => ?_) (fun h => absurd h (by decide)); conv => whnf) | (refine And.intro (fun h => absurd h (by decide)) (fun _ => ?_); conv => whnf) | (refine .quiet (by kernel_rfl) ?_; conv => whnf))
          refine up hli trivial ((wk_of [] rfl ⟨.base (.tree _ _ rfl rfl), .base (.tree _ _ rfl rfl), .base (.tree _ _ rfl rfl), .base (.tree _ _ rfl rfl), .base (.tree _ _ rfl rfl), .base (.tree _ _ rfl rfl), .base (.tree _ _ rfl rfl), .base (.tree _ _ rfl rfl), .base (.tree _ _ (show AV.int .i64 _ = AV.int .i64 _ by rw [wrap1 (by omega)]) rfl), trivial⟩ trivial))
      · have hd1 := of_decide_eq_false hd1
        obtain rfl : i = A.length := by omega
        conv => whnf
        refine .one _ _ _ (fun _ => hun) (by repeat (first | exact .nil | (apply BorL.cons; first | exact lS rfl | exact lR rfl | exact lM rfl rfl | exact lL rfl | exact lX rfl | exact lN | exact lNl | exact lSm rfl | exact lIm rfl | exact lP rfl | exact lQ rfl | exact lB rfl rfl rfl))) (by first | exact .inl rfl | exact .inr (by repeat (first | exact flats_nil | refine flats_cons (by first | exact flat_val _ rfl | exact flat_row (fun _ => rfl) | exact flat_lst (fun _ => rfl)) ?_))) (by first | exact .inr rfl | exact .inl rfl) ?_
        conv => whnf
        cases hu : unuB l with
        | true =>
          conv => whnf
          repeat (first | (refine And.intro ⟨by omega, by omega⟩ ?_; conv => whnf) | (refine And.intro (by omega) (And.intro rfl ?_); conv => whnf) | (refine And.intro rfl ?_; conv => whnf) | (refine And.intro (fun _ => ⟨by omega, by omega⟩) ?_; conv => whnf) | (refine And.intro (fun _ => by omega) (And.intro rfl ?_); conv => whnf) | (refine And.intro ⟨(by first | omega | (simp; omega)), (by first | omega | (simp; omega))⟩ ?_; conv => whnf) | (refine Exists.intro _ (And.intro rfl (And.intro (by first | omega | (simp; omega)) (And.intro ⟨rfl, rfl, rfl, rfl, rfl⟩ ?_))); conv => whnf) | (refine And.intro ⟨rfl, rfl⟩ (And.intro (by first | omega | (simp; omega)) ?_); conv => whnf) | (refine Exists.intro _ (And.intro rfl ?_); conv => whnf) | (refine And.intro (fun _ => ?_) (fun h => absurd h (by decide)); conv => whnf) | (refine And.intro (fun h => absurd h (by decide)) (fun _ => ?_); conv => whnf) | (refine .quiet (by kernel_rfl) ?_; conv => whnf))
          refine .one [.sl 1 encIs [] A, .sl 1 encIs [] C] _ [.val (.bool true)] (fun h => (by have h0 : (false : Bool) = true := h; cases h0)) (by repeat (first | exact .nil | (apply BorL.cons; first | exact lS rfl | exact lR rfl | exact lM rfl rfl | exact lL rfl | exact lX rfl | exact lN | exact lNl | exact lSm rfl | exact lIm rfl | exact lP rfl | exact lQ rfl | exact lB rfl rfl rfl))) (by first | exact .inl rfl | exact .inr (by repeat (first | exact flats_nil | refine flats_cons (by first | exact flat_val _ rfl | exact flat_row (fun _ => rfl) | exact flat_lst (fun _ => rfl)) ?_))) (by first | exact .inr rfl | exact .inl rfl) ?_
          conv => whnf
          repeat (first | (refine And.intro ⟨by omega, by omega⟩ ?_; conv => whnf) | (refine And.intro (by omega) (And.intro rfl ?_); conv => whnf) | (refine And.intro rfl ?_; conv => whnf) | (refine And.intro (fun _ => ⟨by omega, by omega⟩) ?_; conv => whnf) | (refine And.intro (fun _ => by omega) (And.intro rfl ?_); conv => whnf) | (refine And.intro ⟨(by first | omega | (simp; omega)), (by first | omega | (simp; omega))⟩ ?_; conv => whnf) | (refine Exists.intro _ (And.intro rfl (And.intro (by first | omega | (simp; omega)) (And.intro ⟨rfl, rfl, rfl, rfl, rfl⟩ ?_))); conv => whnf) | (refine And.intro ⟨rfl, rfl⟩ (And.intro (by first | omega | (simp; omega)) ?_); conv => whnf) | (refine Exists.intro _ (And.intro rfl ?_); conv => whnf) | (refine And.intro (fun _ => ?_) (fun h => absurd h (by decide)); conv => whnf) | (refine And.intro (fun h => absurd h (by decide)) (fun _ => ?_); conv => whnf) | (refine .quiet (by kernel_rfl) ?_; conv => whnf))
          rfl
        | false =>
          obtain ⟨q1, q2⟩ := p4 hu
          have hk : LenOk A := ⟨by omega, fun c hc => by have := p5 c hc; omega⟩
          subst q1 q2
          have hls := hls hk
          rw [decide_eq_true rfl] at hls
          conv => whnf
          repeat (first | (refine And.intro ⟨by omega, by omega⟩ ?_; conv => whnf) | (refine And.intro (by omega) (And.intro rfl ?_); conv => whnf) | (refine And.intro rfl ?_; conv => whnf) | (refine And.intro (fun _ => ⟨by omega, by omega⟩) ?_; conv => whnf) | (refine And.intro (fun _ => by omega) (And.intro rfl ?_); conv => whnf) | (refine And.intro ⟨(by first | omega | (simp; omega)), (by first | omega | (simp; omega))⟩ ?_; conv => whnf) | (refine Exists.intro _ (And.intro rfl (And.intro (by first | omega | (simp; omega)) (And.intro ⟨rfl, rfl, rfl, rfl, rfl⟩ ?_))); conv => whnf) | (refine And.intro ⟨rfl, rfl⟩ (And.intro (by first | omega | (simp; omega)) ?_); conv => whnf) | (refine Exists.intro _ (And.intro rfl ?_); conv => whnf) | (refine And.intro (fun _ => ?_) (fun h => absurd h (by decide)); conv => whnf) | (refine And.intro (fun h => absurd h (by decide)) (fun _ => ?_); conv => whnf) | (refine .quiet (by kernel_rfl) ?_; conv => whnf))
          rw [decide_eq_true (rfl : e3 = e3)]
          refine .one _ _ _ (fun _ => hls) (by repeat (first | exact .nil | (apply BorL.cons; first | exact lS rfl | exact lR rfl | exact lM rfl rfl | exact lL rfl | exact lX rfl | exact lN | exact lNl | exact lSm rfl | exact lIm rfl | exact lP rfl | exact lQ rfl | exact lB rfl rfl rfl))) (by first | exact .inl rfl | exact .inr (by repeat (first | exact flats_nil | refine flats_cons (by first | exact flat_val _ rfl | exact flat_row (fun _ => rfl) | exact flat_lst (fun _ => rfl)) ?_))) (by first | exact .inr rfl | exact .inl rfl) ?_
          conv => whnf
          repeat (first | (refine And.intro ⟨by omega, by omega⟩ ?_; conv => whnf) | (refine And.intro (by omega) (And.intro rfl ?_); conv => whnf) | (refine And.intro rfl ?_; conv => whnf) | (refine And.intro (fun _ => ⟨by omega, by omega⟩) ?_; conv => whnf) | (refine And.intro (fun _ => by omega) (And.intro rfl ?_); conv => whnf) | (refine And.intro ⟨(by first | omega | (simp; omega)), (by first | omega | (simp; omega))⟩ ?_; conv => whnf) | (refine Exists.intro _ (And.intro rfl (And.intro (by first | omega | (simp; omega)) (And.intro ⟨rfl, rfl, rfl, rfl, rfl⟩ ?_))); conv => whnf) | (refine And.intro ⟨rfl, rfl⟩ (And.intro (by first | omega | (simp; omega)) ?_); conv => whnf) | (refine Exists.intro _ (And.intro rfl ?_); conv => whnf) | (refine And.intro (fun _ => ?_) (fun h => absurd h (by decide)); conv => whnf) | (refine And.intro (fun h => absurd h (by decide)) (fun _ => ?_); conv => whnf) | (refine .quiet (by kernel_rfl) ?_; conv => whnf))
          rfl
end Go.Proofs.Ytmcgfkkagijcmaa

namespace Go.Proofs.Ytmcgfkkagijcmaa
open Go.ChangeShapes Go.WideShapes Go.RowKit Go.Own
set_option maxRecDepth 100000

/-! ### What is read of the arguments -/
theorem Try.own : ownKnob Try.prog.godebug = none := by kernel_rfl
theorem Try.laidOut : laidOutB Try.prog = true := by kernel_rfl
theorem undBool : Try.prog.underlying 4 = some .bool := by kernel_rfl
theorem und3' : Try.prog.underlying 3 = some (.int .i64) := by kernel_rfl
theorem und9' : Try.prog.underlying 9 = some .string := by kernel_rfl
theorem und22' : Try.prog.underlying 22 = some (.slice 45) := by kernel_rfl
theorem und23' : Try.prog.underlying 23 = some (.slice 24) := by kernel_rfl
theorem und24' : Try.prog.underlying 24 = some (.slice 3) := by kernel_rfl
theorem und37' : Try.prog.underlying 37 = some (.slice 50) := by kernel_rfl
theorem und38' : Try.prog.underlying 38 = some (.slice 40) := by kernel_rfl
theorem und41' : Try.prog.underlying 41 = some (.slice 48) := by kernel_rfl
theorem und42' : Try.prog.underlying 42 = some (.slice 9) := by kernel_rfl
theorem und43' : Try.prog.underlying 43 = some (.slice 117) := by kernel_rfl
def fieldsE : Array Field := #[{ name := "Op", type := 3, offset := 0, embedded := false, tag := "", pkgPath := "", byteOffset := 0 }, { name := "N", type := 3, offset := 1, embedded := false, tag := "", pkgPath := "", byteOffset := 8 }, { name := "Unit", type := 3, offset := 2, embedded := false, tag := "", pkgPath := "", byteOffset := 16 }, { name := "S", type := 9, offset := 3, embedded := false, tag := "", pkgPath := "", byteOffset := 24 }, { name := "Args", type := 38, offset := 4, embedded := false, tag := "", pkgPath := "", byteOffset := 40 }]
theorem und40' : Try.prog.underlying 40 = some (.struct fieldsE) := by kernel_rfl
def fieldsL : Array Field := #[{ name := "Name", type := 9, offset := 0, embedded := false, tag := "", pkgPath := "", byteOffset := 0 }, { name := "Body", type := 40, offset := 1, embedded := false, tag := "", pkgPath := "", byteOffset := 16 }]
theorem und50' : Try.prog.underlying 50 = some (.struct fieldsL) := by kernel_rfl
def fieldsC : Array Field := #[{ name := "Name", type := 9, offset := 0, embedded := false, tag := "", pkgPath := "", byteOffset := 0 }, { name := "Must", type := 40, offset := 1, embedded := false, tag := "", pkgPath := "", byteOffset := 16 }, { name := "Grace", type := 3, offset := 6, embedded := false, tag := "", pkgPath := "", byteOffset := 80 }]
theorem und48' : Try.prog.underlying 48 = some (.struct fieldsC) := by kernel_rfl
def fieldsK : Array Field := #[{ name := "From", type := 3, offset := 0, embedded := false, tag := "", pkgPath := "", byteOffset := 0 }, { name := "Price", type := 3, offset := 1, embedded := false, tag := "", pkgPath := "", byteOffset := 8 }]
theorem und117' : Try.prog.underlying 117 = some (.struct fieldsK) := by kernel_rfl
abbrev PI : List AV → Prop := fun l => ∃ n, (IntKind.i64.min ≤ n ∧ n ≤ IntKind.i64.max) ∧ l = [.int .i64 n]
abbrev PS : List AV → Prop := fun l => ∃ s : List UInt8, s.length ≤ 9223372036854775807 ∧ l = [.str s]
theorem oInt : OpensR Try.prog 3 1 PI := opensR_int und3' (by kernel_rfl)
theorem oStr : OpensR Try.prog 9 1 PS := opensR_str und9' (by kernel_rfl)
abbrev PE : List AV → Prop := fun l => ∃ e : Exp, OkE e ∧ l = (encE e).cells
theorem c64 {n : Int} (h : IntKind.i64.min ≤ n ∧ n ≤ IntKind.i64.max) : in64 n := h
theorem oExpS : ∀ N, OpensS Try.prog 40 5 PE N
  | 0 => opensS_zero (by kernel_rfl)
  | N + 1 => by
    have hargs : OpensS Try.prog 38 1 (fun l => ∃ xs : List Exp, (∀ a ∈ xs, OkE a) ∧ xs.length ≤ 9223372036854775807 ∧ l = [.lsl 5 (xs.map encE)]) N :=
      match N with
      | 0 => opensS_zero (by kernel_rfl)
      | M + 1 => opensS_slice und38' (by kernel_rfl) (oExpS M |>.le (by omega)) (by decide) (fun l ⟨e, h1, h2⟩ => ⟨e, h1, h2.symm⟩) (fun e => rfl)
    refine (opensS_struct und40' (by kernel_rfl) (Rs := [(1, PI), (1, PI), (1, PI), (1, PS), (1, _)]) ⟨rfl, oInt.at N, rfl, oInt.at N, rfl, oInt.at N, rfl, oStr.at N, rfl, hargs, rfl⟩).mono fun l hl => ?_
    obtain ⟨_, _, ⟨n0, h0, rfl⟩, ⟨_, _, ⟨n1, h1, rfl⟩, ⟨_, _, ⟨n2, h2, rfl⟩, ⟨_, _, ⟨s3, h3, rfl⟩, ⟨_, _, ⟨xs, h4, h5, rfl⟩, rfl, rfl⟩, rfl⟩, rfl⟩, rfl⟩, rfl⟩ := hl
    refine ⟨.mk n0 n1 n2 s3 xs, .mk (c64 h0) (c64 h1) (c64 h2) h3 h5 h4, ?_⟩
    show _ = [AV.int .i64 n0, .int .i64 n1, .int .i64 n2, .str s3, .lsl 5 (argsE (.mk n0 n1 n2 s3 xs))]
    rw [argsE_eq]
    rfl
theorem oExp : OpensR Try.prog 40 5 PE := opensR_all oExpS
theorem oLets : OpensR Try.prog 37 1 (fun l => ∃ xs : List LetE, (∀ a ∈ xs, OkE a.body) ∧ xs.length ≤ 9223372036854775807 ∧ l = [.sl 6 encL l0 xs]) :=
  opensR_slice l0 und37' (by kernel_rfl) (opensR_struct und50' (by kernel_rfl) (Rs := [(1, PS), (5, PE)]) ⟨rfl, oStr, rfl, oExp, rfl⟩) (by decide) (fun l hl => by
    obtain ⟨_, _, ⟨s, h1, rfl⟩, ⟨_, _, ⟨e, h2, rfl⟩, rfl, rfl⟩, rfl⟩ := hl
    exact ⟨⟨s, e⟩, h2, rfl⟩) (fun _ => rfl)
theorem oCovs : OpensR Try.prog 41 1 (fun l => ∃ xs : List Cov, (∀ a ∈ xs, True) ∧ xs.length ≤ 9223372036854775807 ∧ l = [.sl 7 encC c0 xs]) :=
  opensR_slice c0 und41' (by kernel_rfl) (opensR_struct und48' (by kernel_rfl) (Rs := [(1, PS), (5, PE), (1, PI)]) ⟨rfl, oStr, rfl, oExp, rfl, oInt, rfl⟩) (by decide) (fun l hl => by
    obtain ⟨_, _, ⟨s, h1, rfl⟩, ⟨_, _, ⟨e, h2, rfl⟩, ⟨_, _, ⟨n, _, rfl⟩, rfl, rfl⟩, rfl⟩, rfl⟩ := hl
    exact ⟨⟨s, e, n⟩, trivial, rfl⟩) (fun _ => rfl)
theorem oStrs : OpensR Try.prog 42 1 (fun l => ∃ xs : List (List UInt8), (∀ a ∈ xs, True) ∧ xs.length ≤ 9223372036854775807 ∧ l = [.sl 1 encS [] xs]) :=
  opensR_slice [] und42' (by kernel_rfl) oStr (by decide) (fun l hl => by obtain ⟨s, _, rfl⟩ := hl; exact ⟨s, trivial, rfl⟩) (fun _ => rfl)
theorem oCalls : OpensR Try.prog 43 1 (fun l => ∃ xs : List CallE, (∀ a ∈ xs, True) ∧ xs.length ≤ 9223372036854775807 ∧ l = [.sl 2 encK k0 xs]) :=
  opensR_slice k0 und43' (by kernel_rfl) (opensR_struct und117' (by kernel_rfl) (Rs := [(1, PI), (1, PI)]) ⟨rfl, oInt, rfl, oInt, rfl⟩) (by decide) (fun l hl => by
    obtain ⟨_, _, ⟨a, _, rfl⟩, ⟨_, _, ⟨b, _, rfl⟩, rfl, rfl⟩, rfl⟩ := hl
    exact ⟨⟨a, b⟩, trivial, rfl⟩) (fun _ => rfl)
def fieldsX : Array Field := #[{ name := "Name", type := 9, offset := 0, embedded := false, tag := "", pkgPath := "", byteOffset := 0 }, { name := "Issuer", type := 9, offset := 1, embedded := false, tag := "", pkgPath := "", byteOffset := 16 }, { name := "Face", type := 3, offset := 2, embedded := false, tag := "", pkgPath := "", byteOffset := 32 }, { name := "From", type := 3, offset := 3, embedded := false, tag := "", pkgPath := "", byteOffset := 40 }, { name := "To", type := 3, offset := 4, embedded := false, tag := "", pkgPath := "", byteOffset := 48 }, { name := "Every", type := 3, offset := 5, embedded := false, tag := "", pkgPath := "", byteOffset := 56 }, { name := "Count", type := 3, offset := 6, embedded := false, tag := "", pkgPath := "", byteOffset := 64 }, { name := "Adjust", type := 3, offset := 7, embedded := false, tag := "", pkgPath := "", byteOffset := 72 }, { name := "Record", type := 3, offset := 8, embedded := false, tag := "", pkgPath := "", byteOffset := 80 }, { name := "Rank", type := 3, offset := 9, embedded := false, tag := "", pkgPath := "", byteOffset := 88 }, { name := "Lets", type := 37, offset := 10, embedded := false, tag := "", pkgPath := "", byteOffset := 96 }, { name := "Coupon", type := 40, offset := 11, embedded := false, tag := "", pkgPath := "", byteOffset := 120 }, { name := "Cap", type := 3, offset := 16, embedded := false, tag := "", pkgPath := "", byteOffset := 184 }, { name := "Covenants", type := 41, offset := 17, embedded := false, tag := "", pkgPath := "", byteOffset := 192 }, { name := "Favour", type := 42, offset := 18, embedded := false, tag := "", pkgPath := "", byteOffset := 216 }, { name := "Cross", type := 3, offset := 19, embedded := false, tag := "", pkgPath := "", byteOffset := 240 }, { name := "Calls", type := 43, offset := 20, embedded := false, tag := "", pkgPath := "", byteOffset := 248 }, { name := "Notice", type := 3, offset := 21, embedded := false, tag := "", pkgPath := "", byteOffset := 272 }, { name := "Sink", type := 3, offset := 22, embedded := false, tag := "", pkgPath := "", byteOffset := 280 }, { name := "Majority", type := 3, offset := 23, embedded := false, tag := "", pkgPath := "", byteOffset := 288 }, { name := "Fast", type := 3, offset := 24, embedded := false, tag := "", pkgPath := "", byteOffset := 296 }]
theorem und45' : Try.prog.underlying 45 = some (.struct fieldsX) := by kernel_rfl
abbrev PX : List AV → Prop := fun l => ∃ x : Ind, InX x ∧ l = (encX x).cells
theorem oInd : OpensR Try.prog 45 25 PX := by
  refine (opensR_struct und45' (by kernel_rfl) (Rs := [(1, PS), (1, PS), (1, PI), (1, PI), (1, PI), (1, PI), (1, PI), (1, PI), (1, PI), (1, PI), (1, _), (5, PE), (1, PI), (1, _), (1, _), (1, PI), (1, _), (1, PI), (1, PI), (1, PI), (1, PI)])
    ⟨rfl, oStr, rfl, oStr, rfl, oInt, rfl, oInt, rfl, oInt, rfl, oInt, rfl, oInt, rfl, oInt, rfl, oInt, rfl, oInt, rfl, oLets, rfl, oExp, rfl, oInt, rfl, oCovs, rfl, oStrs, rfl, oInt, rfl, oCalls, rfl, oInt, rfl, oInt, rfl, oInt, rfl, oInt, rfl⟩).mono fun l hl => ?_
  obtain ⟨_, _, ⟨s0, h0, rfl⟩, ⟨_, _, ⟨s1, h1, rfl⟩, ⟨_, _, ⟨n2, _, rfl⟩, ⟨_, _, ⟨n3, _, rfl⟩, ⟨_, _, ⟨n4, _, rfl⟩, ⟨_, _, ⟨n5, _, rfl⟩, ⟨_, _, ⟨n6, _, rfl⟩, ⟨_, _, ⟨n7, _, rfl⟩, ⟨_, _, ⟨n8, _, rfl⟩, ⟨_, _, ⟨n9, _, rfl⟩, hl⟩, rfl⟩, rfl⟩, rfl⟩, rfl⟩, rfl⟩, rfl⟩, rfl⟩, rfl⟩, rfl⟩ := hl
  obtain ⟨⟨_, _, ⟨xs, hx1, hx2, rfl⟩, ⟨_, _, ⟨e, he, rfl⟩, ⟨_, _, ⟨n12, _, rfl⟩, ⟨_, _, ⟨cv, _, _, rfl⟩, ⟨_, _, ⟨fv, _, _, rfl⟩, ⟨_, _, ⟨n15, _, rfl⟩, ⟨_, _, ⟨cl, _, _, rfl⟩, ⟨_, _, ⟨n17, _, rfl⟩, ⟨_, _, ⟨n18, _, rfl⟩, ⟨_, _, ⟨n19, _, rfl⟩, ⟨_, _, ⟨n20, _, rfl⟩, rfl, rfl⟩, rfl⟩, rfl⟩, rfl⟩, rfl⟩, rfl⟩, rfl⟩, rfl⟩, rfl⟩, rfl⟩, rfl⟩, rfl⟩ := hl
  exact ⟨⟨s0, s1, n2, n3, n4, n5, n6, n7, n8, n9, xs, e, n12, cv, fv, n15, cl, n17, n18, n19, n20⟩, ⟨h0, hx2, hx1, he⟩, rfl⟩
theorem oInds : OpensR Try.prog 22 1 (fun l => ∃ xs : List Ind, ((∀ a ∈ xs, InX a) ∧ xs.length ≤ 9223372036854775807) ∧ l = [.sl 25 encX i0 xs]) :=
  (opensR_slice i0 und22' (by kernel_rfl) oInd (by decide) (fun l hl => by obtain ⟨x, h, rfl⟩ := hl; exact ⟨x, h, rfl⟩) (fun _ => rfl)).mono fun l ⟨xs, h1, h2, h3⟩ => ⟨xs, ⟨h1, h2⟩, h3⟩
theorem vInds : OpVz Try.prog 22 (fun a => ∃ xs : List Ind, (((∀ a ∈ xs, InX a) ∧ xs.length ≤ 9223372036854775807) ∧ xs.length * 304 ≤ 140737488351232) ∧ a = .sl 25 encX i0 xs) :=
  opVz_slice und22' (by kernel_rfl) oInds
theorem vInd : OpVz Try.prog 45 (fun a => ∃ x : Ind, InX x ∧ a = encX x) :=
  OpV.z (OpV.mono (opV_struct und45' oInd) fun a ⟨l, ⟨x, h, hl⟩, ha⟩ => ⟨x, h, by rw [ha, hl]; rfl⟩)
theorem vExp : OpVz Try.prog 40 (fun a => ∃ x : Exp, OkE x ∧ a = encE x) :=
  OpV.z (OpV.mono (opV_struct und40' oExp) fun a ⟨l, ⟨x, h, hl⟩, ha⟩ => ⟨x, h, by rw [ha, hl]; rfl⟩)
theorem oInts : OpensR Try.prog 24 1 (fun l => ∃ xs : List Int, (∀ a ∈ xs, True) ∧ xs.length ≤ 9223372036854775807 ∧ l = [.sl 1 encI 0 xs]) :=
  opensR_slice 0 und24' (by kernel_rfl) oInt (by decide) (fun l hl => by obtain ⟨n, _, rfl⟩ := hl; exact ⟨n, trivial, rfl⟩) (fun _ => rfl)
theorem vInts : OpVz Try.prog 24 (fun a => ∃ xs : List Int, xs.length ≤ 9223372036854775807 ∧ a = encIs xs) :=
  OpV.z (OpV.mono (opV_slice (R := fun a => ∃ xs : List Int, xs.length ≤ 9223372036854775807 ∧ a = encIs xs) und24' (oInts.mono fun l ⟨xs, _, h2, h3⟩ => ⟨_, ⟨xs, h2, rfl⟩, h3⟩)) fun a h => h)
theorem oGraph : OpensR Try.prog 23 1 (fun l => ∃ xs : List (List Int), (∀ a ∈ xs, a.length ≤ 9223372036854775807) ∧ xs.length ≤ 9223372036854775807 ∧ l = [.sl 1 encIs [] xs]) :=
  opensR_slice [] und23' (by kernel_rfl) oInts (by decide) (fun l hl => by obtain ⟨n, _, h, rfl⟩ := hl; exact ⟨n, h, rfl⟩) (fun _ => rfl)
theorem vGraph : OpVz Try.prog 23 (fun a => ∃ xs : List (List Int), LenOk xs ∧ a = .sl 1 encIs [] xs) :=
  OpV.z (OpV.mono (opV_slice (R := fun a => ∃ xs : List (List Int), LenOk xs ∧ a = .sl 1 encIs [] xs) und23' (oGraph.mono fun l ⟨xs, h1, h2, h3⟩ => ⟨_, ⟨xs, ⟨h2, h1⟩, rfl⟩, h3⟩)) fun a h => h)

end Go.Proofs.Ytmcgfkkagijcmaa

/-
  The reference's Leads, by longer and longer ways: the worlds on its way.
-/
namespace Go.Proofs.Ytmcgfkkagijcmaa.Lead
open Go.RowKit

/-- The list of rows, when r of them are made. -/
def top (N n r : Nat) : Nat → Value := fun j => if j < r then .slice (some ⟨N + 1 + j, 0, none⟩) n n else .slice none 0 0
/-- r rows are made. -/
structure Out (w wr : World) (n r : Nat) (Z : Nat → Nat → Bool) : Prop where
  since : w.Since w.heap.size wr
  size : wr.heap.size = w.heap.size + 1 + r
  top : wr.rowIs w.heap.size 35 n (top w.heap.size n r)
  done : ∀ j, j < r → wr.rowIs (w.heap.size + 1 + j) 4 n (fun c => .bool (Z j c))
/-- One more is being filled. -/
structure Inn (w wi : World) (n r : Nat) (Z : Nat → Nat → Bool) (X : Nat → Bool) : Prop where
  since : w.Since w.heap.size wi
  size : wi.heap.size = w.heap.size + 1 + r + 1
  top : wi.rowIs w.heap.size 35 n (top w.heap.size n (r + 1))
  done : ∀ j, j < r → wi.rowIs (w.heap.size + 1 + j) 4 n (fun c => .bool (Z j c))
  cur : wi.rowIs (w.heap.size + 1 + r) 4 n (fun i => .bool (X i))
theorem out_start (w : World) (n : Nat) (Z : Nat → Nat → Bool) : Out w (w.alloc (.cells (madeCells #[.slice none 0 0] n) 35)) n 0 Z :=
  ⟨(World.Since.refl _ _).alloc (Nat.le_refl _) _, by simp, (World.rowIs_made w _ n 35).congr (fun j _ => by simp [Lead.top]), fun j hj => absurd hj (Nat.not_lt_zero _)⟩
theorem inn_start {w wr : World} {n r : Nat} {Z : Nat → Nat → Bool} (h : Out w wr n r Z) :
    Inn w ((wr.alloc (.cells (madeCells #[.bool false] n) 4)).setCell ⟨w.heap.size, r, none⟩ (.slice (some ⟨w.heap.size + 1 + r, 0, none⟩) n n)) n r Z (fun _ => false) := by
  have hnew := World.rowIs_made wr (.bool false) n 4
  rw [h.size] at hnew
  refine ⟨(h.since.alloc (by rw [h.size]; omega) _).setCell (Nat.le_refl _) _, by simp [h.size], ((h.top.alloc _).set r _).congr (fun j _ => ?_), fun j hj => ((h.done j hj).alloc _).setOther (by show w.heap.size + 1 + j ≠ w.heap.size; omega) _,
    hnew.setOther (by show w.heap.size + 1 + r ≠ w.heap.size; omega) _⟩
  simp only [Lead.top]
  by_cases e : j = r
  · subst e; simp
  · rw [if_neg e]
    by_cases hlt : j < r
    · rw [if_pos hlt, if_pos (by omega)]
    · rw [if_neg hlt, if_neg (by omega)]
theorem inn_step {w wi : World} {n r : Nat} {Z : Nat → Nat → Bool} {X X' : Nat → Bool} (h : Inn w wi n r Z X) (q : Nat) (hX : ∀ i, X' i = if i = q then true else X i) :
    Inn w (wi.setCell ⟨w.heap.size + 1 + r, q, none⟩ (.bool true)).drew n r Z X' := by
  refine ⟨(h.since.setCell (by show w.heap.size ≤ w.heap.size + 1 + r; omega) _).drew, by simp [h.size], (h.top.setOther (by show w.heap.size ≠ w.heap.size + 1 + r; omega) _).drew,
    fun j hj => ((h.done j hj).setOther (by show w.heap.size + 1 + j ≠ w.heap.size + 1 + r; omega) _).drew, ((h.cur.set q _).congr (fun i _ => ?_)).drew⟩
  rw [hX]
  split <;> rfl
theorem inn_done {w wi : World} {n r : Nat} {Z : Nat → Nat → Bool} {X : Nat → Bool} (h : Inn w wi n r Z X) (hX : ∀ i, X i = Z r i) : Out w wi n (r + 1) Z :=
  ⟨h.since, by rw [h.size]; omega, h.top, fun j hj => by
    by_cases e : j = r
    · subst e
      exact h.cur.congr (fun i _ => by rw [hX])
    · exact h.done j (by omega)⟩
/-- A cell is written. -/
theorem out_set {w wr : World} {n : Nat} {Z Z' : Nat → Nat → Bool} (h : Out w wr n n Z) {i k : Nat} {v : Bool} (hi : i < n) (hZ : ∀ j c, Z' j c = if j = i ∧ c = k then v else Z j c) :
    Out w (wr.setCell ⟨w.heap.size + 1 + i, k, none⟩ (.bool v)).drew n n Z' := by
  refine ⟨(h.since.setCell (by show w.heap.size ≤ w.heap.size + 1 + i; omega) _).drew, by simp [h.size], (h.top.setOther (by show w.heap.size ≠ w.heap.size + 1 + i; omega) _).drew, fun j hj => ?_⟩
  by_cases e : j = i
  · subst e
    refine (((h.done j hj).set k _).congr (fun c _ => ?_)).drew
    rw [hZ]
    by_cases e2 : c = k
    · rw [if_pos e2, if_pos ⟨rfl, e2⟩]
    · rw [if_neg e2, if_neg (fun hh => e2 hh.2)]
  · refine (((h.done j hj).setOther (by show w.heap.size + 1 + j ≠ w.heap.size + 1 + i; omega) _).congr (fun c _ => ?_)).drew
    rw [hZ, if_neg (fun hh => e hh.1)]
theorem out_congr {w wr : World} {n r : Nat} {Z Z' : Nat → Nat → Bool} (h : Out w wr n r Z) (hZ : ∀ j c, j < r → c < n → Z' j c = Z j c) : Out w wr n r Z' :=
  ⟨h.since, h.size, h.top, fun j hj => (h.done j hj).congr fun c hc => by rw [hZ j c hj hc]⟩

/-- The graph, as it lies. -/
structure Lies (w : World) (gb go n : Nat) (A : Nat → Option Addr) (L C RB RO : Nat → Nat) (B : Nat → Nat → Nat) : Prop where
  row : ∀ r, r < n → w.cell? ⟨gb, go + r, none⟩ = some (.slice (A r) (L r) (C r))
  cell : ∀ r, r < n → ∀ c, c < L r → A r = some ⟨RB r, RO r, none⟩ ∧ w.cell? ⟨RB r, RO r + c, none⟩ = some (.int .i64 (B r c : Nat))
  lt : ∀ r, r < n → ∀ c, c < L r → B r c < n

theorem Try.info4' : (Try.prog.info? 4).map (fun i => (i.zero, i.size, i.bytes)) = some (some (.bool false), 1, 1) := by kernel_rfl
theorem Try.info35' : (Try.prog.info? 35).map (fun i => (i.zero, i.size, i.bytes)) = some (some (.slice none 0 0), 1, 24) := by kernel_rfl

end Go.Proofs.Ytmcgfkkagijcmaa.Lead

/-
  The reference's Leads: its walk.
-/
namespace Go.Proofs.Ytmcgfkkagijcmaa.Lead
open Go.RowKit

/-- Among the first k. -/
def pre (B : Nat → Nat → Nat) (r : Nat) : Nat → Nat → Bool
  | 0, _ => false
  | k + 1, c => if c = B r k then true else pre B r k c
def wf (L : Nat → Nat) (B : Nat → Nat → Nat) : Nat → Nat → Nat → Bool
  | 0, i, k => pre B i (L i) k
  | b + 1, i, k => wf L B b i k || (wf L B b i b && wf L B b b k)
/-- Within a round. -/
def mid (L : Nat → Nat) (B : Nat → Nat → Nat) (b i k : Nat) : Nat → Nat → Bool := fun j c => if j < i ∨ (j = i ∧ c < k) then wf L B (b + 1) j c else wf L B b j c
theorem wf_row {L : Nat → Nat} {B : Nat → Nat → Nat} {b i : Nat} : wf L B (b + 1) i b = wf L B b i b := by
  rw [wf]; cases wf L B b i b <;> rfl
theorem wf_col {L : Nat → Nat} {B : Nat → Nat → Nat} {b k : Nat} : wf L B (b + 1) b k = wf L B b b k := by
  rw [wf]; cases wf L B b b k <;> simp
theorem mid_at {L : Nat → Nat} {B : Nat → Nat → Nat} {b i k : Nat} : mid L B b i k i k = wf L B b i k := by
  unfold mid; rw [if_neg (by omega)]
theorem mid_row {L : Nat → Nat} {B : Nat → Nat → Nat} {b i k : Nat} : mid L B b i k i b = wf L B b i b := by
  unfold mid; split
  · exact wf_row
  · rfl
theorem mid_col {L : Nat → Nat} {B : Nat → Nat → Nat} {b i k : Nat} : mid L B b i k b k = wf L B b b k := by
  unfold mid; split
  · exact wf_col
  · rfl
theorem mid_step {L : Nat → Nat} {B : Nat → Nat → Nat} {b i k : Nat} (v : Bool) (hv : v = (wf L B b i k || (wf L B b i b && wf L B b b k))) (j c : Nat) :
    mid L B b i (k + 1) j c = if j = i ∧ c = k then v else mid L B b i k j c := by
  by_cases h : j = i ∧ c = k
  · obtain ⟨rfl, rfl⟩ := h
    rw [if_pos ⟨rfl, rfl⟩]
    unfold mid
    rw [if_pos (by omega), hv, wf]
  · rw [if_neg h]
    unfold mid
    by_cases h2 : j < i ∨ (j = i ∧ c < k)
    · rw [if_pos h2, if_pos (by omega)]
    · rw [if_neg h2, if_neg (by omega)]
theorem mid_next {L : Nat → Nat} {B : Nat → Nat → Nat} {b i n : Nat} (j c : Nat) (hc : c < n) : mid L B b (i + 1) 0 j c = mid L B b i n j c := by
  unfold mid
  by_cases h : j < i + 1
  · rw [if_pos (by omega), if_pos (by omega)]
  · rw [if_neg (by omega), if_neg (by omega)]
theorem mid_zero {L : Nat → Nat} {B : Nat → Nat → Nat} {b : Nat} (j c : Nat) : mid L B b 0 0 j c = wf L B b j c := by
  unfold mid; rw [if_neg (by omega)]
theorem mid_end {L : Nat → Nat} {B : Nat → Nat → Nat} {b n : Nat} (j c : Nat) (hj : j < n) : wf L B (b + 1) j c = mid L B b n 0 j c := by
  unfold mid; rw [if_pos (by omega)]

set_option maxHeartbeats 6400000 in
set_option maxRecDepth 1000000 in
theorem lead_walk (ga : Option Addr) (gb go n Gc : Nat) (A : Nat → Option Addr) (L C RB RO : Nat → Nat) (B : Nat → Nat → Nat) (w : World) (hga : 0 < n → ga = some ⟨gb, go, none⟩) (hn : n ≤ 1000) (hL : ∀ r, r < n → L r ≤ 1000000) (hLies : Lies w gb go n A L C RB RO B) :
    Calls Try.prog 16 #[.slice ga n Gc] w fun e w' => e = .returned (.slice (some ⟨w.heap.size, 0, none⟩) n n) ∧ Out w w' n n (wf L B n) := by
  have hmk33 := run_make_row' (P := Try.prog) 33 35 (.slice none 0 0) 24 Try.underlying33 Try.info35' rfl .i64 .i64 n (by omega) (by omega)
  go_enter Try.func16, Try.ntmps16
  go_wp2
  clear hmk33
  go_loopg [5] n (fun g i wr => ∃ r : Nat, r ≤ n ∧ g = n - r ∧ i = .int .i64 r ∧ Out w wr n r (wf L B 0))
  case atStart => exact ⟨0, Nat.zero_le _, rfl, rfl, out_start w n _⟩
  case round =>
    obtain ⟨r, hr, rfl, rfl, hO⟩ := hrel
    by_cases hrG : r < n
    · obtain rfl := hga (by omega)
      have hrz : (r : Int) < (n : Int) := by omega
      have hgb : gb < w.heap.size := World.block_lt_of_cell? _ _ (hLies.row r hrG)
      have hsize := hO.size
      have hmk4 := run_make_row' (P := Try.prog) 35 4 (.bool false) 1 Try.underlying35 Try.info4' rfl .i64 .i64 n (by omega) (by omega)
      have hst1 : ∀ o, (wr.alloc o).cell? ⟨w.heap.size, r, none⟩ = some (top w.heap.size n r r) := fun o => (hO.top.alloc o).cell hrG
      have hst2 : ∀ o, (wr.alloc o).frozen? ⟨w.heap.size, r, none⟩ = false := fun o => (hO.top.alloc o).frozen r
      go_wp2
      have hI0 := inn_start hO
      clear hmk4 hst1 hst2 hsize hO
      go_loopg [6] (L r) (fun g i wi => ∃ k : Nat, k ≤ L r ∧ g = L r - k ∧ i = .int .i64 k ∧ Inn w wi n r (wf L B 0) (pre B r k))
      case atStart => exact ⟨0, Nat.zero_le _, rfl, rfl, hI0⟩
      case round =>
        obtain ⟨k, hk, rfl, rfl, hI⟩ := hrel
        clear hI0
        have hLr := hL r hrG
        have t2 : wr.cell? ⟨gb, go + r, none⟩ = some (.slice (A r) (L r) (C r)) := by rw [hI.since.cell (a := ⟨gb, go + r, none⟩) hgb]; exact hLies.row r hrG
        by_cases hkL : k < L r
        · have hkz : (k : Int) < (L r : Int) := by omega
          obtain ⟨hAr, hcell⟩ := hLies.cell r hrG k hkL
          have hBlt := hLies.lt r hrG k hkL
          have hbz : ((B r k : Nat) : Int) < (n : Int) := by omega
          have t2' : wr.cell? ⟨gb, go + r, none⟩ = some (.slice (some ⟨RB r, RO r, none⟩) (L r) (C r)) := by rw [t2, hAr]
          have t1 : wr.cell? ⟨w.heap.size, r, none⟩ = some (.slice (some ⟨w.heap.size + 1 + r, 0, none⟩) n n) := by simpa [top] using hI.top.cell hrG
          have hrb : RB r < w.heap.size := World.block_lt_of_cell? _ _ hcell
          have t3 : wr.cell? ⟨RB r, RO r + k, none⟩ = some (.int .i64 (B r k : Nat)) := by rw [hI.since.cell (a := ⟨RB r, RO r + k, none⟩) hrb]; exact hcell
          have t4 : wr.cell? ⟨w.heap.size + 1 + r, B r k, none⟩ = some (.bool (pre B r k (B r k))) := hI.cur.cell hBlt
          have t5 : wr.frozen? ⟨w.heap.size + 1 + r, B r k, none⟩ = false := hI.cur.frozen _
          clear t2 hAr hcell
          go_wp2
          go_big_region
          go_wp2
          go_roundg (L r - (k + 1))
          case measure => go_light; omega
          case rel => go_light; exact ⟨k + 1, by omega, rfl, by simp, inn_step hI (B r k) (fun i => rfl)⟩
        · have hkz : ¬ ((k : Int) < (L r : Int)) := by omega
          go_wp2
          go_roundg (n - (r + 1))
          case measure => go_light; omega
          case rel => go_light; exact ⟨r + 1, by omega, rfl, by simp, inn_done hI (fun i => by rw [show k = L r by omega]; rfl)⟩
    · have hrz : ¬ ((r : Int) < (n : Int)) := by omega
      have hO2 : Out w wr n n (wf L B 0) := by rw [show n = r by omega] at hO ⊢; exact hO
      clear hO hL hLies hga
      go_wp2
      go_loopg [7] n (fun g i wb => ∃ b : Nat, b ≤ n ∧ g = n - b ∧ i = .int .i64 b ∧ Out w wb n n (wf L B b))
      case atStart => exact ⟨0, Nat.zero_le _, rfl, rfl, hO2⟩
      case round =>
        obtain ⟨b, hb, rfl, rfl, hB⟩ := hrel
        by_cases hbG : b < n
        · have hbz : (b : Int) < (n : Int) := by omega
          have hM0 : Out w wr n n (mid L B b 0 0) := out_congr hB fun j c _ _ => mid_zero j c
          clear hB
          go_wp2
          go_loopg [8] n (fun g i wi => ∃ q : Nat, q ≤ n ∧ g = n - q ∧ i = .int .i64 q ∧ Out w wi n n (mid L B b q 0))
          case atStart => exact ⟨0, Nat.zero_le _, rfl, rfl, hM0⟩
          case round =>
            obtain ⟨q, hq, rfl, rfl, hQ⟩ := hrel
            clear hM0
            by_cases hqG : q < n
            · have hqz : (q : Int) < (n : Int) := by omega
              go_wp2
              go_loopg [9] n (fun g i wk => ∃ k : Nat, k ≤ n ∧ g = n - k ∧ i = .int .i64 k ∧ Out w wk n n (mid L B b q k))
              case atStart => exact ⟨0, Nat.zero_le _, rfl, rfl, hQ⟩
              case round =>
                obtain ⟨k, hk, rfl, rfl, hK⟩ := hrel
                clear hQ
                by_cases hkG : k < n
                · have hkz : (k : Int) < (n : Int) := by omega
                  have t1 : wr.cell? ⟨w.heap.size, q, none⟩ = some (.slice (some ⟨w.heap.size + 1 + q, 0, none⟩) n n) := by simpa [top, hqG] using hK.top.cell hqG
                  have t2 : wr.cell? ⟨w.heap.size, b, none⟩ = some (.slice (some ⟨w.heap.size + 1 + b, 0, none⟩) n n) := by simpa [top, hbG] using hK.top.cell hbG
                  have t3 : wr.cell? ⟨w.heap.size + 1 + q, k, none⟩ = some (.bool (wf L B b q k)) := by rw [(hK.done q hqG).cell hkG, mid_at]
                  have t4 : wr.cell? ⟨w.heap.size + 1 + q, b, none⟩ = some (.bool (wf L B b q b)) := by rw [(hK.done q hqG).cell hbG, mid_row]
                  have t5 : wr.cell? ⟨w.heap.size + 1 + b, k, none⟩ = some (.bool (wf L B b b k)) := by rw [(hK.done b hbG).cell hkG, mid_col]
                  have t6 : wr.frozen? ⟨w.heap.size + 1 + q, k, none⟩ = false := (hK.done q hqG).frozen _
                  have hst : ∀ v : Bool, v = (wf L B b q k || (wf L B b q b && wf L B b b k)) → Out w (wr.setCell ⟨w.heap.size + 1 + q, k, none⟩ (.bool v)).drew n n (mid L B b q (k + 1)) := fun v hv => out_set hK hqG (mid_step v hv)
                  have Hst : Aside (∀ v : Bool, v = (wf L B b q k || (wf L B b q b && wf L B b b k)) → Out w (wr.setCell ⟨w.heap.size + 1 + q, k, none⟩ (.bool v)).drew n n (mid L B b q (k + 1))) := hst
                  clear hst hK
                  generalize h1 : wf L B b q k = x1 at *
                  generalize h2 : wf L B b q b = x2 at *
                  generalize h3 : wf L B b b k = x3 at *
                  clear h1 h2 h3
                  go_wp2
                  cases x1 <;> cases x2
                  all_goals
                    go_big_region
                    go_wp2
                    go_roundg (n - (k + 1))
                    case measure => go_light; omega
                    case rel => go_light; exact ⟨k + 1, by omega, rfl, by simp, Hst.out _ (by simp)⟩
                · have hkz : ¬ ((k : Int) < (n : Int)) := by omega
                  have hN : Out w wr n n (mid L B b (q + 1) 0) := out_congr hK fun j c _ hc => by rw [show k = n by omega]; exact mid_next j c hc
                  clear hK
                  go_wp2
                  go_roundg (n - (q + 1))
                  case measure => go_light; omega
                  case rel => go_light; exact ⟨q + 1, by omega, rfl, by simp, hN⟩
            · have hqz : ¬ ((q : Int) < (n : Int)) := by omega
              have hN : Out w wr n n (wf L B (b + 1)) := out_congr hQ fun j c hj _ => by rw [show q = n by omega]; exact mid_end j c hj
              clear hQ
              go_wp2
              go_roundg (n - (b + 1))
              case measure => go_light; omega
              case rel => go_light; exact ⟨b + 1, by omega, rfl, by simp, hN⟩
        · have hbz : ¬ ((b : Int) < (n : Int)) := by omega
          go_wp2
          go_ret
          obtain rfl : b = n := by omega
          exact ⟨rfl, hB⟩
end Go.Proofs.Ytmcgfkkagijcmaa.Lead
