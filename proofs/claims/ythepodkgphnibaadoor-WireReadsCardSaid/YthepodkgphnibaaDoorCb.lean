import Derived.Test.YthepodkgphnibaaDoorCa
import Derived.Test.YthepodkgphnibaaDoorLc
import Derived.Lay
import Derived.Lib.LaidTab
import Derived.LaidLaws
import Derived.KernelRfl
import Derived.Test.YthepodkgphnibaaDoorRows
namespace Go.Proofs.YthepodkgphnibaaDoor
open Go.Own
set_option maxHeartbeats 2000000
set_option maxRecDepth 100000

theorem kind_zero (k : Int) (hk : in64 k) : APureV Tryd.prog 22 [.agg [.int .i64 k, .int .i64 0, .str [], .nils, .nils]] (.int .i64 (kindZ k)) := by
  obtain ⟨h0, h1⟩ := hk
  unfold kindZ
  refine apure_of (C := cx 12 [0, 1, 2, 3, 8]) (cxOk _ _) Tryd.func22 rfl (by decide) rfl (by exact Nat.le_of_ble_eq_true rfl) (by decide) ?_
  conv => whnf
  repeat (first | (refine And.intro ⟨by omega, by omega⟩ ?_; conv => whnf) | (refine And.intro (by omega) (And.intro rfl ?_); conv => whnf) | (refine And.intro rfl ?_; conv => whnf) | (refine And.intro (fun _ => ⟨by omega, by omega⟩) ?_; conv => whnf) | (refine And.intro (fun _ => by omega) (And.intro rfl ?_); conv => whnf) | (refine And.intro ⟨(by first | omega | (simp; omega)), (by first | omega | (simp; omega))⟩ ?_; conv => whnf) | (refine Exists.intro _ (And.intro rfl (And.intro (by first | omega | (simp; omega)) (And.intro ⟨rfl, rfl, rfl, rfl, rfl⟩ ?_))); conv => whnf) | (refine And.intro ⟨rfl, rfl⟩ (And.intro (by first | omega | (simp; omega)) ?_); conv => whnf) | (refine Exists.intro _ (And.intro rfl ?_); conv => whnf) | (refine And.intro (fun _ => ?_) (fun h => absurd h (by decide)); conv => whnf) | (refine And.intro (fun h => absurd h (by decide)) (fun _ => ?_); conv => whnf) | (refine .quiet (by kernel_rfl) ?_; conv => whnf))
  refine And.intro (by decide) ?_
  conv => whnf
  refine ⟨fun hc => ?_, fun hc => ?_⟩
  · have hc' := of_decide_eq_true hc
    rw [if_pos hc']
    have h5 : -5 < k.tmod 5 := Int.lt_tmod_of_pos k (by decide)
    conv => whnf
    repeat (first | (refine And.intro ⟨by omega, by omega⟩ ?_; conv => whnf) | (refine And.intro (by omega) (And.intro rfl ?_); conv => whnf) | (refine And.intro rfl ?_; conv => whnf) | (refine And.intro (fun _ => ⟨by omega, by omega⟩) ?_; conv => whnf) | (refine And.intro (fun _ => by omega) (And.intro rfl ?_); conv => whnf) | (refine And.intro ⟨(by first | omega | (simp; omega)), (by first | omega | (simp; omega))⟩ ?_; conv => whnf) | (refine Exists.intro _ (And.intro rfl (And.intro (by first | omega | (simp; omega)) (And.intro ⟨rfl, rfl, rfl, rfl, rfl⟩ ?_))); conv => whnf) | (refine And.intro ⟨rfl, rfl⟩ (And.intro (by first | omega | (simp; omega)) ?_); conv => whnf) | (refine Exists.intro _ (And.intro rfl ?_); conv => whnf) | (refine And.intro (fun _ => ?_) (fun h => absurd h (by decide)); conv => whnf) | (refine And.intro (fun h => absurd h (by decide)) (fun _ => ?_); conv => whnf) | (refine .quiet (by kernel_rfl) ?_; conv => whnf))
    rfl
  · rw [if_neg (of_decide_eq_false hc)]
    conv => whnf
    rfl

theorem numQ_in (c least : Int) (q : RS) (h0 : least ≤ 0) (h1 : -9223372036854775808 ≤ least) : in64 (numQ c least q).1 := by
  have h2 := (numQ_le c least q h0).1
  have h3 := numQ_hi c least q
  exact ⟨by omega, h3⟩

/-! ### What is read of a short string is short -/
theorem numQ_small (c least : Int) (q : RS) : (numQ c least q).2.rest.length ≤ q.rest.length := by
  unfold numQ
  cases h : numR c least q.rest with
  | none => exact Nat.zero_le _
  | some x => exact Nat.le_of_lt (numR_lt (r := x.2) (n := x.1) h)
theorem textQ_short (q : RS) : (textQ q).1.length ≤ q.rest.length := by
  have h1 := numQ_small 58 0 q
  unfold textQ
  simp only
  split
  · exact Nat.zero_le _
  · cases hcl : closeR [44] ((numQ 58 0 q).2.rest.drop (numQ 58 0 q).1.toNat) with
    | none => exact Nat.zero_le _
    | some r =>
      show (if (numQ 58 0 q).2.bad = true then [] else (numQ 58 0 q).2.rest.take (numQ 58 0 q).1.toNat).length ≤ _
      split
      · exact Nat.zero_le _
      · rw [List.length_take]
        omega
theorem textQ_len (s : List UInt8) (h : s.length ≤ 400) : (textQ ⟨s, false⟩).1.length ≤ 9223372036854775000 := by
  have := textQ_short ⟨s, false⟩
  have e : (RS.mk s false).rest = s := rfl
  rw [e] at this
  omega
/-- Every element of what was read was read. -/
theorem stK_all {T : Type} {one : RS → T × RS} {Q : T → Prop} {N : Nat} (h : ∀ q, q.rest.length ≤ N → Q (one q).1) (hle : ∀ q, (one q).2.rest.length ≤ q.rest.length) {q : RS} (hq : q.rest.length ≤ N) : ∀ k, ∀ x ∈ (stK one q k).2, Q x
  | 0, x, hx => by simp [stK] at hx
  | k + 1, x, hx => by
    have ih := stK_all h hle hq k
    unfold stK at hx
    split at hx
    · exact ih x hx
    · rw [List.mem_append] at hx
      rcases hx with hx | hx
      · exact ih x hx
      · simp only [List.mem_cons, List.not_mem_nil, or_false] at hx
        subst hx
        exact h _ (Nat.le_trans (stK_rest hle q k) hq)
theorem items_all {T : Type} {one : RS → T × RS} {Q : T → Prop} {N : Nat} (h : ∀ q, q.rest.length ≤ N → Q (one q).1) (hle : ∀ q, (one q).2.rest.length ≤ q.rest.length) {q : RS} (hq : q.rest.length ≤ N) : ∀ x ∈ listOf (itemsQ one q).1, Q x := by
  intro x hx
  have h1 := numQ_small 91 0 q
  unfold itemsQ at hx
  simp only at hx
  split at hx
  · split at hx
    · cases hx
    · exact stK_all h hle (Nat.le_trans h1 hq) _ x hx
  · cases hx
theorem flat_le {T : Type} {f : T → List UInt8} {M : Nat} : ∀ {l : List T}, (∀ x ∈ l, (f x).length ≤ M) → (l.flatMap f).length ≤ l.length * M
  | [], _ => Nat.zero_le _
  | a :: l, h => by
    have h1 := flat_le (l := l) fun x hx => h x (List.mem_cons_of_mem _ hx)
    have h2 := h a (List.mem_cons_self ..)
    rw [List.flatMap_cons, List.length_append, List.length_cons, Nat.add_mul]
    omega
theorem listS_le {T : Type} {f : T → List UInt8} {l : List T} {M : Nat} (h : ∀ x ∈ l, (f x).length ≤ M) (hl : l.length ≤ 9223372036854775807) : (listS f l).length ≤ l.length * M + 22 := by
  have h1 := flat_le h
  have h2 := itoa_len (l.length : Int) ⟨by omega, by omega⟩
  unfold listS headS
  simp only [List.length_append, List.length_singleton]
  omega
theorem list_fitsI (s : List UInt8) (h : s.length ≤ 400) : (∀ x ∈ listOf (itemsQ oneI ⟨s, false⟩).1, in64 x) ∧ (listOf (itemsQ oneI ⟨s, false⟩).1).length ≤ 9223372036854775807 ∧ (listS intS (listOf (itemsQ oneI ⟨s, false⟩).1)).length ≤ 140737488355328 ∧ True := by
  have h1 := items_all (one := oneI) (Q := in64) (N := 400) (fun q _ => numQ_in _ _ q (by omega) (by omega)) oneI_le (q := ⟨s, false⟩) h
  have h2 : (listOf (itemsQ oneI ⟨s, false⟩).1).length ≤ 1000000000001 := by
    cases ho : (itemsQ oneI ⟨s, false⟩).1 with
    | none => exact Nat.zero_le _
    | some l => exact items_len (accI ⟨s, false⟩ (by show s.length ≤ _; omega)) ho
  refine ⟨h1, by omega, ?_, trivial⟩
  have := listS_le (f := intS) (M := 21) (fun x hx => by
    have := itoa_len x (h1 x hx)
    unfold intS
    rw [List.length_append, List.length_singleton]
    omega) (by omega : (listOf (itemsQ oneI ⟨s, false⟩).1).length ≤ 9223372036854775807)
  omega
theorem textS_len (s : List UInt8) (h : s.length ≤ 9223372036854775807) : (textS s).length ≤ s.length + 22 := by
  have := itoa_len (s.length : Int) ⟨by omega, by omega⟩
  unfold textS
  simp only [List.length_append, List.length_singleton]
  omega
/-- A list that is read of a short string is short. -/
theorem items_short {T : Type} {one : RS → T × RS} (hone : ∀ q, q.bad = false → (one q).2.bad = false → (one q).2.rest.length < q.rest.length) (hle : ∀ q, (one q).2.rest.length ≤ q.rest.length) (q : RS) : (listOf (itemsQ one q).1).length ≤ q.rest.length + 1 := by
  have h1 := numQ_small 91 0 q
  unfold itemsQ
  simp only
  split
  · rename_i r hr
    split
    · exact Nat.zero_le _
    · rename_i hb
      show (stK one (numQ 91 0 q).2 (numQ 91 0 q).1.toNat).2.length ≤ _
      cases hb0 : (numQ 91 0 q).2.bad with
      | false =>
        have := (stK_len hone (fun q _ => .inr (hle q)) hb0 (numQ 91 0 q).1.toNat).1
        omega
      | true =>
        have := stK_stay (one := one) (k := 0) (q := (numQ 91 0 q).2) hb0 (numQ 91 0 q).1.toNat
        rw [Nat.zero_add] at this
        rw [this]
        exact Nat.zero_le _
  · exact Nat.zero_le _
theorem list_fitsT (s : List UInt8) (h : s.length ≤ 400) : (∀ x ∈ listOf (itemsQ textQ ⟨s, false⟩).1, x.length ≤ 9223372036854775000) ∧ (listOf (itemsQ textQ ⟨s, false⟩).1).length ≤ 9223372036854775807 ∧ (listS textS (listOf (itemsQ textQ ⟨s, false⟩).1)).length ≤ 140737488355328 ∧ True := by
  have h1 := items_all (one := textQ) (Q := fun x => x.length ≤ 400) (N := 400) (fun q hq => Nat.le_trans (textQ_short q) hq) textQ_le (q := ⟨s, false⟩) h
  have h2 := items_short (one := textQ) (fun q _ h => textQ_lt h) textQ_le ⟨s, false⟩
  have e : (RS.mk s false).rest = s := rfl
  rw [e] at h2
  have h3 : (listOf (itemsQ textQ ⟨s, false⟩).1).length ≤ 9223372036854775807 := by omega
  refine ⟨fun x hx => ?_, h3, ?_, trivial⟩
  · have h4 : x.length ≤ 400 := h1 x hx
    omega
  · have := listS_le (f := textS) (M := 422) (fun x hx => by
      have h4 : x.length ≤ 400 := h1 x hx
      have := textS_len x (by omega)
      omega) h3
    omega

/-- What the end of WireAgain says. -/
theorem again_plain {T : Type} {one : RS → T × RS} {f : T → List UInt8} {P : T → Prop} (hc : Codec one f P) (s : List UInt8)
    (hb : (decide (((one ⟨s, false⟩).2.rest.length : Int) = 0) && !(!(one ⟨s, false⟩).2.bad && decide ((one ⟨s, false⟩).2.rest = []))) = false) :
    (one ⟨s, false⟩).2.rest.length ≤ s.length ∧ f (one ⟨s, false⟩).1 = s.take (max 0 (min ((s.length : Int) - (one ⟨s, false⟩).2.rest.length) s.length)).toNat := by
  rcases codec_again hc s with ⟨h1, h2⟩ | ⟨h1, h2, h3⟩
  · rw [h1, h2] at hb
    cases hb
  · refine ⟨h2, ?_⟩
    rw [h3]
    congr 1
    omega

theorem rint' (q : RS) (hs : q.rest.length ≤ 9223372036854775000) : AIO Tryd.prog 24 [.ptr 0 0] [ro q] (fun bs rs => bs = [ro (oneI q).2] ∧ rs = [.val (.int .i64 (oneI q).1)]) := rint_ok q hs
theorem law_again (s : List UInt8) (what : Int) (hs : s.length ≤ 9223372036854775807) (hw : in64 what) : APureV Tryd.prog 4 [.str s, .int .i64 what] (.bool true) := by
  refine apure_of (C := cx 80 [0, 1, 4, 5, 6, 7, 8, 12, 17, 20, 24, 29, 34, 39, 51]) (cxOk _ _) Tryd.func4 rfl (by decide) rfl (by exact Nat.le_of_ble_eq_true rfl) (by decide) ?_
  conv => whnf
  refine .one _ _ _ (fun _ => small_ok) (by repeat (first | exact .nil | (apply BorL.cons; first | exact lS rfl | exact lR rfl | exact lM rfl rfl | exact lL rfl | exact lX rfl | exact lN | exact lNl | exact lSm rfl | exact lIm rfl | exact lP rfl | exact lQ rfl | exact lB rfl rfl rfl))) (by first | exact .inl rfl | exact .inr (by repeat (first | exact flats_nil | refine flats_cons (by first | exact flat_val _ rfl | exact flat_row (fun _ => rfl) | exact flat_lst (fun _ => rfl)) ?_))) (by first | exact .inl rfl | exact .inr rfl) ?_
  conv => whnf
  refine ⟨fun hc => ?_, fun hc => ?_⟩
  · conv => whnf
    rfl
  have hs4 : s.length ≤ 400 := by
    have := of_decide_eq_false hc
    omega
  have h0 := open_ok s
  have hk := kind_zero what hw
  conv => whnf
  refine .one _ _ _ (fun _ => h0) (by repeat (first | exact .nil | (apply BorL.cons; first | exact lS rfl | exact lR rfl | exact lM rfl rfl | exact lL rfl | exact lX rfl | exact lN | exact lNl | exact lSm rfl | exact lIm rfl | exact lP rfl | exact lQ rfl | exact lB rfl rfl rfl))) (by first | exact .inl rfl | exact .inr (by repeat (first | exact flats_nil | refine flats_cons (by first | exact flat_val _ rfl | exact flat_row (fun _ => rfl) | exact flat_lst (fun _ => rfl)) ?_))) (by first | exact .inl rfl | exact .inr rfl) ?_
  conv => whnf
  repeat (first | (refine And.intro ⟨by omega, by omega⟩ ?_; conv => whnf) | (refine And.intro (by omega) (And.intro rfl ?_); conv => whnf) | (refine And.intro rfl ?_; conv => whnf) | (refine And.intro (fun _ => ⟨by omega, by omega⟩) ?_; conv => whnf) | (refine And.intro (fun _ => by omega) (And.intro rfl ?_); conv => whnf) | (refine And.intro ⟨(by first | omega | (simp; omega)), (by first | omega | (simp; omega))⟩ ?_; conv => whnf) | (refine Exists.intro _ (And.intro rfl (And.intro (by first | omega | (simp; omega)) (And.intro ⟨rfl, rfl, rfl, rfl, rfl⟩ ?_))); conv => whnf) | (refine And.intro ⟨rfl, rfl⟩ (And.intro (by first | omega | (simp; omega)) ?_); conv => whnf) | (refine Exists.intro _ (And.intro rfl ?_); conv => whnf) | (refine And.intro (fun _ => ?_) (fun h => absurd h (by decide)); conv => whnf) | (refine And.intro (fun h => absurd h (by decide)) (fun _ => ?_); conv => whnf) | (refine .quiet (by kernel_rfl) ?_; conv => whnf))
  refine .one _ _ _ (fun _ => hk) (by repeat (first | exact .nil | (apply BorL.cons; first | exact lS rfl | exact lR rfl | exact lM rfl rfl | exact lL rfl | exact lX rfl | exact lN | exact lNl | exact lSm rfl | exact lIm rfl | exact lP rfl | exact lQ rfl | exact lB rfl rfl rfl))) (by first | exact .inl rfl | exact .inr (by repeat (first | exact flats_nil | refine flats_cons (by first | exact flat_val _ rfl | exact flat_row (fun _ => rfl) | exact flat_lst (fun _ => rfl)) ?_))) (by first | exact .inl rfl | exact .inr rfl) ?_
  conv => whnf
  repeat (first | (refine And.intro ⟨by omega, by omega⟩ ?_; conv => whnf) | (refine And.intro (by omega) (And.intro rfl ?_); conv => whnf) | (refine And.intro rfl ?_; conv => whnf) | (refine And.intro (fun _ => ⟨by omega, by omega⟩) ?_; conv => whnf) | (refine And.intro (fun _ => by omega) (And.intro rfl ?_); conv => whnf) | (refine And.intro ⟨(by first | omega | (simp; omega)), (by first | omega | (simp; omega))⟩ ?_; conv => whnf) | (refine Exists.intro _ (And.intro rfl (And.intro (by first | omega | (simp; omega)) (And.intro ⟨rfl, rfl, rfl, rfl, rfl⟩ ?_))); conv => whnf) | (refine And.intro ⟨rfl, rfl⟩ (And.intro (by first | omega | (simp; omega)) ?_); conv => whnf) | (refine Exists.intro _ (And.intro rfl ?_); conv => whnf) | (refine And.intro (fun _ => ?_) (fun h => absurd h (by decide)); conv => whnf) | (refine And.intro (fun h => absurd h (by decide)) (fun _ => ?_); conv => whnf) | (refine .quiet (by kernel_rfl) ?_; conv => whnf))
  generalize kindZ what = z at *
  refine ⟨fun c0 => ?_, fun c0 => ?_⟩
  · have h1 := rnum_ok ⟨s, false⟩ (by show s.length ≤ _; omega)
    have h2 := num_ok (numQ 59 0 ⟨s, false⟩).1 (numQ_in _ _ _ (by omega) (by omega))
    have hp := again_plain codecN s
    generalize numQ 59 0 ⟨s, false⟩ = x at *
    obtain ⟨n, r, b⟩ := x
    have h3 := left_p r b
    have h4 := done_p r b
    conv => whnf
    refine .raw _ _ rfl (fun h => by cases h) (callio_sem (h1) [0] _ rfl rfl ⟨rfl, trivial⟩ (by repeat (first | exact .nil | (apply BorL.cons; first | exact .map _ _ rfl | exact .ptr _ _ _ rfl | exact .own _ _ rfl | exact .fnp _ _ _ _ rfl | (apply BorIO.lend; first | exact lS rfl | exact lR rfl | exact lM rfl rfl | exact lL rfl | exact lX rfl | exact lN | exact lNl | exact lSm rfl | exact lIm rfl | exact lP rfl | exact lQ rfl | exact lB rfl rfl rfl)))) rfl (by first | exact .inl rfl | exact .inr (fun b rs h => by obtain ⟨rfl, rfl⟩ := h; exact ⟨by repeat (first | exact flats_nil | refine flats_cons (by first | exact flat_val _ rfl | exact flat_row (fun _ => rfl) | exact flat_lst (fun _ => rfl)) ?_), by repeat (first | exact flats0 | refine flats1 (by first | exact flatB_row (fun _ => rfl) | exact flatB_lst (fun _ => rfl) | exact flatB_smap (fun _ => rfl) | exact flatB_imap (fun _ => rfl) | exact flatB_cells rfl) ?_)⟩))) ?_
    rintro w ⟨b', rs, ⟨rfl, rfl⟩, rfl⟩
    refine ⟨tn_ge _ _, ?_⟩
    conv => whnf
    refine .one _ _ _ (fun _ => h2) (by repeat (first | exact .nil | (apply BorL.cons; first | exact lS rfl | exact lR rfl | exact lM rfl rfl | exact lL rfl | exact lX rfl | exact lN | exact lNl | exact lSm rfl | exact lIm rfl | exact lP rfl | exact lQ rfl | exact lB rfl rfl rfl))) (by first | exact .inl rfl | exact .inr (by repeat (first | exact flats_nil | refine flats_cons (by first | exact flat_val _ rfl | exact flat_row (fun _ => rfl) | exact flat_lst (fun _ => rfl)) ?_))) (by first | exact .inl rfl | exact .inr rfl) ?_
    conv => whnf
    repeat (first | (refine And.intro ⟨by omega, by omega⟩ ?_; conv => whnf) | (refine And.intro (by omega) (And.intro rfl ?_); conv => whnf) | (refine And.intro rfl ?_; conv => whnf) | (refine And.intro (fun _ => ⟨by omega, by omega⟩) ?_; conv => whnf) | (refine And.intro (fun _ => by omega) (And.intro rfl ?_); conv => whnf) | (refine And.intro ⟨(by first | omega | (simp; omega)), (by first | omega | (simp; omega))⟩ ?_; conv => whnf) | (refine Exists.intro _ (And.intro rfl (And.intro (by first | omega | (simp; omega)) (And.intro ⟨rfl, rfl, rfl, rfl, rfl⟩ ?_))); conv => whnf) | (refine And.intro ⟨rfl, rfl⟩ (And.intro (by first | omega | (simp; omega)) ?_); conv => whnf) | (refine Exists.intro _ (And.intro rfl ?_); conv => whnf) | (refine And.intro (fun _ => ?_) (fun h => absurd h (by decide)); conv => whnf) | (refine And.intro (fun h => absurd h (by decide)) (fun _ => ?_); conv => whnf) | (refine .quiet (by kernel_rfl) ?_; conv => whnf))
    refine .one _ _ _ (fun _ => h3) (by repeat (first | exact .nil | (apply BorL.cons; first | exact lS rfl | exact lR rfl | exact lM rfl rfl | exact lL rfl | exact lX rfl | exact lN | exact lNl | exact lSm rfl | exact lIm rfl | exact lP rfl | exact lQ rfl | exact lB rfl rfl rfl))) (by first | exact .inl rfl | exact .inr (by repeat (first | exact flats_nil | refine flats_cons (by first | exact flat_val _ rfl | exact flat_row (fun _ => rfl) | exact flat_lst (fun _ => rfl)) ?_))) (by first | exact .inl rfl | exact .inr rfl) ?_
    conv => whnf
    repeat (first | (refine And.intro ⟨by omega, by omega⟩ ?_; conv => whnf) | (refine And.intro (by omega) (And.intro rfl ?_); conv => whnf) | (refine And.intro rfl ?_; conv => whnf) | (refine And.intro (fun _ => ⟨by omega, by omega⟩) ?_; conv => whnf) | (refine And.intro (fun _ => by omega) (And.intro rfl ?_); conv => whnf) | (refine And.intro ⟨(by first | omega | (simp; omega)), (by first | omega | (simp; omega))⟩ ?_; conv => whnf) | (refine Exists.intro _ (And.intro rfl (And.intro (by first | omega | (simp; omega)) (And.intro ⟨rfl, rfl, rfl, rfl, rfl⟩ ?_))); conv => whnf) | (refine And.intro ⟨rfl, rfl⟩ (And.intro (by first | omega | (simp; omega)) ?_); conv => whnf) | (refine Exists.intro _ (And.intro rfl ?_); conv => whnf) | (refine And.intro (fun _ => ?_) (fun h => absurd h (by decide)); conv => whnf) | (refine And.intro (fun h => absurd h (by decide)) (fun _ => ?_); conv => whnf) | (refine .quiet (by kernel_rfl) ?_; conv => whnf))
    refine .one _ _ _ (fun _ => h4) (by repeat (first | exact .nil | (apply BorL.cons; first | exact lS rfl | exact lR rfl | exact lM rfl rfl | exact lL rfl | exact lX rfl | exact lN | exact lNl | exact lSm rfl | exact lIm rfl | exact lP rfl | exact lQ rfl | exact lB rfl rfl rfl))) (by first | exact .inl rfl | exact .inr (by repeat (first | exact flats_nil | refine flats_cons (by first | exact flat_val _ rfl | exact flat_row (fun _ => rfl) | exact flat_lst (fun _ => rfl)) ?_))) (by first | exact .inl rfl | exact .inr rfl) ?_
    conv => whnf
    repeat (first | (refine And.intro ⟨by omega, by omega⟩ ?_; conv => whnf) | (refine And.intro (by omega) (And.intro rfl ?_); conv => whnf) | (refine And.intro rfl ?_; conv => whnf) | (refine And.intro (fun _ => ⟨by omega, by omega⟩) ?_; conv => whnf) | (refine And.intro (fun _ => by omega) (And.intro rfl ?_); conv => whnf) | (refine And.intro ⟨(by first | omega | (simp; omega)), (by first | omega | (simp; omega))⟩ ?_; conv => whnf) | (refine Exists.intro _ (And.intro rfl (And.intro (by first | omega | (simp; omega)) (And.intro ⟨rfl, rfl, rfl, rfl, rfl⟩ ?_))); conv => whnf) | (refine And.intro ⟨rfl, rfl⟩ (And.intro (by first | omega | (simp; omega)) ?_); conv => whnf) | (refine Exists.intro _ (And.intro rfl ?_); conv => whnf) | (refine And.intro (fun _ => ?_) (fun h => absurd h (by decide)); conv => whnf) | (refine And.intro (fun h => absurd h (by decide)) (fun _ => ?_); conv => whnf) | (refine .quiet (by kernel_rfl) ?_; conv => whnf))
    refine ⟨fun hb => ?_, fun hb => ?_⟩
    · conv => whnf
      rfl
    obtain ⟨p1, p2⟩ := hp hb
    simp only at p1 p2
    conv => whnf
    refine .one _ _ _ (fun _ => h3) (by repeat (first | exact .nil | (apply BorL.cons; first | exact lS rfl | exact lR rfl | exact lM rfl rfl | exact lL rfl | exact lX rfl | exact lN | exact lNl | exact lSm rfl | exact lIm rfl | exact lP rfl | exact lQ rfl | exact lB rfl rfl rfl))) (by first | exact .inl rfl | exact .inr (by repeat (first | exact flats_nil | refine flats_cons (by first | exact flat_val _ rfl | exact flat_row (fun _ => rfl) | exact flat_lst (fun _ => rfl)) ?_))) (by first | exact .inl rfl | exact .inr rfl) ?_
    conv => whnf
    repeat (first | (refine And.intro ⟨by omega, by omega⟩ ?_; conv => whnf) | (refine And.intro (by omega) (And.intro rfl ?_); conv => whnf) | (refine And.intro rfl ?_; conv => whnf) | (refine And.intro (fun _ => ⟨by omega, by omega⟩) ?_; conv => whnf) | (refine And.intro (fun _ => by omega) (And.intro rfl ?_); conv => whnf) | (refine And.intro ⟨(by first | omega | (simp; omega)), (by first | omega | (simp; omega))⟩ ?_; conv => whnf) | (refine Exists.intro _ (And.intro rfl (And.intro (by first | omega | (simp; omega)) (And.intro ⟨rfl, rfl, rfl, rfl, rfl⟩ ?_))); conv => whnf) | (refine And.intro ⟨rfl, rfl⟩ (And.intro (by first | omega | (simp; omega)) ?_); conv => whnf) | (refine Exists.intro _ (And.intro rfl ?_); conv => whnf) | (refine And.intro (fun _ => ?_) (fun h => absurd h (by decide)); conv => whnf) | (refine And.intro (fun h => absurd h (by decide)) (fun _ => ?_); conv => whnf) | (refine .quiet (by kernel_rfl) ?_; conv => whnf))
    show [AR.val (.bool (true && decide (0 ≤ (s.length : Int) - r.length) && decide ((s.length : Int) - r.length ≤ s.length) && decide (numS n = s.take (max 0 (min ((s.length : Int) - r.length) s.length)).toNat)))] = _
    rw [← p2, decide_eq_true (show (0 : Int) ≤ (s.length : Int) - r.length by omega), decide_eq_true (show (s.length : Int) - r.length ≤ s.length by omega), decide_eq_true rfl]
    rfl
  conv => whnf
  refine ⟨fun c1 => ?_, fun c1 => ?_⟩
  · have h1 := rint' ⟨s, false⟩ (by show s.length ≤ _; omega)
    have h2 := int_ok (oneI ⟨s, false⟩).1 (numQ_in _ _ _ (by omega) (by omega))
    have hp := again_plain codecI s
    generalize oneI ⟨s, false⟩ = x at *
    obtain ⟨n, r, b⟩ := x
    have h3 := left_p r b
    have h4 := done_p r b
    conv => whnf
    refine .raw _ _ rfl (fun h => by cases h) (callio_sem (h1) [0] _ rfl rfl ⟨rfl, trivial⟩ (by repeat (first | exact .nil | (apply BorL.cons; first | exact .map _ _ rfl | exact .ptr _ _ _ rfl | exact .own _ _ rfl | exact .fnp _ _ _ _ rfl | (apply BorIO.lend; first | exact lS rfl | exact lR rfl | exact lM rfl rfl | exact lL rfl | exact lX rfl | exact lN | exact lNl | exact lSm rfl | exact lIm rfl | exact lP rfl | exact lQ rfl | exact lB rfl rfl rfl)))) rfl (by first | exact .inl rfl | exact .inr (fun b rs h => by obtain ⟨rfl, rfl⟩ := h; exact ⟨by repeat (first | exact flats_nil | refine flats_cons (by first | exact flat_val _ rfl | exact flat_row (fun _ => rfl) | exact flat_lst (fun _ => rfl)) ?_), by repeat (first | exact flats0 | refine flats1 (by first | exact flatB_row (fun _ => rfl) | exact flatB_lst (fun _ => rfl) | exact flatB_smap (fun _ => rfl) | exact flatB_imap (fun _ => rfl) | exact flatB_cells rfl) ?_)⟩))) ?_
    rintro w ⟨b', rs, ⟨rfl, rfl⟩, rfl⟩
    refine ⟨tn_ge _ _, ?_⟩
    conv => whnf
    refine .one _ _ _ (fun _ => h2) (by repeat (first | exact .nil | (apply BorL.cons; first | exact lS rfl | exact lR rfl | exact lM rfl rfl | exact lL rfl | exact lX rfl | exact lN | exact lNl | exact lSm rfl | exact lIm rfl | exact lP rfl | exact lQ rfl | exact lB rfl rfl rfl))) (by first | exact .inl rfl | exact .inr (by repeat (first | exact flats_nil | refine flats_cons (by first | exact flat_val _ rfl | exact flat_row (fun _ => rfl) | exact flat_lst (fun _ => rfl)) ?_))) (by first | exact .inl rfl | exact .inr rfl) ?_
    conv => whnf
    repeat (first | (refine And.intro ⟨by omega, by omega⟩ ?_; conv => whnf) | (refine And.intro (by omega) (And.intro rfl ?_); conv => whnf) | (refine And.intro rfl ?_; conv => whnf) | (refine And.intro (fun _ => ⟨by omega, by omega⟩) ?_; conv => whnf) | (refine And.intro (fun _ => by omega) (And.intro rfl ?_); conv => whnf) | (refine And.intro ⟨(by first | omega | (simp; omega)), (by first | omega | (simp; omega))⟩ ?_; conv => whnf) | (refine Exists.intro _ (And.intro rfl (And.intro (by first | omega | (simp; omega)) (And.intro ⟨rfl, rfl, rfl, rfl, rfl⟩ ?_))); conv => whnf) | (refine And.intro ⟨rfl, rfl⟩ (And.intro (by first | omega | (simp; omega)) ?_); conv => whnf) | (refine Exists.intro _ (And.intro rfl ?_); conv => whnf) | (refine And.intro (fun _ => ?_) (fun h => absurd h (by decide)); conv => whnf) | (refine And.intro (fun h => absurd h (by decide)) (fun _ => ?_); conv => whnf) | (refine .quiet (by kernel_rfl) ?_; conv => whnf))
    refine .one _ _ _ (fun _ => h3) (by repeat (first | exact .nil | (apply BorL.cons; first | exact lS rfl | exact lR rfl | exact lM rfl rfl | exact lL rfl | exact lX rfl | exact lN | exact lNl | exact lSm rfl | exact lIm rfl | exact lP rfl | exact lQ rfl | exact lB rfl rfl rfl))) (by first | exact .inl rfl | exact .inr (by repeat (first | exact flats_nil | refine flats_cons (by first | exact flat_val _ rfl | exact flat_row (fun _ => rfl) | exact flat_lst (fun _ => rfl)) ?_))) (by first | exact .inl rfl | exact .inr rfl) ?_
    conv => whnf
    repeat (first | (refine And.intro ⟨by omega, by omega⟩ ?_; conv => whnf) | (refine And.intro (by omega) (And.intro rfl ?_); conv => whnf) | (refine And.intro rfl ?_; conv => whnf) | (refine And.intro (fun _ => ⟨by omega, by omega⟩) ?_; conv => whnf) | (refine And.intro (fun _ => by omega) (And.intro rfl ?_); conv => whnf) | (refine And.intro ⟨(by first | omega | (simp; omega)), (by first | omega | (simp; omega))⟩ ?_; conv => whnf) | (refine Exists.intro _ (And.intro rfl (And.intro (by first | omega | (simp; omega)) (And.intro ⟨rfl, rfl, rfl, rfl, rfl⟩ ?_))); conv => whnf) | (refine And.intro ⟨rfl, rfl⟩ (And.intro (by first | omega | (simp; omega)) ?_); conv => whnf) | (refine Exists.intro _ (And.intro rfl ?_); conv => whnf) | (refine And.intro (fun _ => ?_) (fun h => absurd h (by decide)); conv => whnf) | (refine And.intro (fun h => absurd h (by decide)) (fun _ => ?_); conv => whnf) | (refine .quiet (by kernel_rfl) ?_; conv => whnf))
    refine .one _ _ _ (fun _ => h4) (by repeat (first | exact .nil | (apply BorL.cons; first | exact lS rfl | exact lR rfl | exact lM rfl rfl | exact lL rfl | exact lX rfl | exact lN | exact lNl | exact lSm rfl | exact lIm rfl | exact lP rfl | exact lQ rfl | exact lB rfl rfl rfl))) (by first | exact .inl rfl | exact .inr (by repeat (first | exact flats_nil | refine flats_cons (by first | exact flat_val _ rfl | exact flat_row (fun _ => rfl) | exact flat_lst (fun _ => rfl)) ?_))) (by first | exact .inl rfl | exact .inr rfl) ?_
    conv => whnf
    repeat (first | (refine And.intro ⟨by omega, by omega⟩ ?_; conv => whnf) | (refine And.intro (by omega) (And.intro rfl ?_); conv => whnf) | (refine And.intro rfl ?_; conv => whnf) | (refine And.intro (fun _ => ⟨by omega, by omega⟩) ?_; conv => whnf) | (refine And.intro (fun _ => by omega) (And.intro rfl ?_); conv => whnf) | (refine And.intro ⟨(by first | omega | (simp; omega)), (by first | omega | (simp; omega))⟩ ?_; conv => whnf) | (refine Exists.intro _ (And.intro rfl (And.intro (by first | omega | (simp; omega)) (And.intro ⟨rfl, rfl, rfl, rfl, rfl⟩ ?_))); conv => whnf) | (refine And.intro ⟨rfl, rfl⟩ (And.intro (by first | omega | (simp; omega)) ?_); conv => whnf) | (refine Exists.intro _ (And.intro rfl ?_); conv => whnf) | (refine And.intro (fun _ => ?_) (fun h => absurd h (by decide)); conv => whnf) | (refine And.intro (fun h => absurd h (by decide)) (fun _ => ?_); conv => whnf) | (refine .quiet (by kernel_rfl) ?_; conv => whnf))
    refine ⟨fun hb => ?_, fun hb => ?_⟩
    · conv => whnf
      rfl
    obtain ⟨p1, p2⟩ := hp hb
    simp only at p1 p2
    conv => whnf
    refine .one _ _ _ (fun _ => h3) (by repeat (first | exact .nil | (apply BorL.cons; first | exact lS rfl | exact lR rfl | exact lM rfl rfl | exact lL rfl | exact lX rfl | exact lN | exact lNl | exact lSm rfl | exact lIm rfl | exact lP rfl | exact lQ rfl | exact lB rfl rfl rfl))) (by first | exact .inl rfl | exact .inr (by repeat (first | exact flats_nil | refine flats_cons (by first | exact flat_val _ rfl | exact flat_row (fun _ => rfl) | exact flat_lst (fun _ => rfl)) ?_))) (by first | exact .inl rfl | exact .inr rfl) ?_
    conv => whnf
    repeat (first | (refine And.intro ⟨by omega, by omega⟩ ?_; conv => whnf) | (refine And.intro (by omega) (And.intro rfl ?_); conv => whnf) | (refine And.intro rfl ?_; conv => whnf) | (refine And.intro (fun _ => ⟨by omega, by omega⟩) ?_; conv => whnf) | (refine And.intro (fun _ => by omega) (And.intro rfl ?_); conv => whnf) | (refine And.intro ⟨(by first | omega | (simp; omega)), (by first | omega | (simp; omega))⟩ ?_; conv => whnf) | (refine Exists.intro _ (And.intro rfl (And.intro (by first | omega | (simp; omega)) (And.intro ⟨rfl, rfl, rfl, rfl, rfl⟩ ?_))); conv => whnf) | (refine And.intro ⟨rfl, rfl⟩ (And.intro (by first | omega | (simp; omega)) ?_); conv => whnf) | (refine Exists.intro _ (And.intro rfl ?_); conv => whnf) | (refine And.intro (fun _ => ?_) (fun h => absurd h (by decide)); conv => whnf) | (refine And.intro (fun h => absurd h (by decide)) (fun _ => ?_); conv => whnf) | (refine .quiet (by kernel_rfl) ?_; conv => whnf))
    show [AR.val (.bool (true && decide (0 ≤ (s.length : Int) - r.length) && decide ((s.length : Int) - r.length ≤ s.length) && decide (intS n = s.take (max 0 (min ((s.length : Int) - r.length) s.length)).toNat)))] = _
    rw [← p2, decide_eq_true (show (0 : Int) ≤ (s.length : Int) - r.length by omega), decide_eq_true (show (s.length : Int) - r.length ≤ s.length by omega), decide_eq_true rfl]
    rfl
  conv => whnf
  refine ⟨fun c2 => ?_, fun c2 => ?_⟩
  · have h1 := rtext_ok ⟨s, false⟩ (by show s.length ≤ _; omega)
    have h2 := text_ok (textQ ⟨s, false⟩).1 (textQ_len s hs4)
    have hp := again_plain codecT s
    generalize textQ ⟨s, false⟩ = x at *
    obtain ⟨n, r, b⟩ := x
    have h3 := left_p r b
    have h4 := done_p r b
    conv => whnf
    refine .raw _ _ rfl (fun h => by cases h) (callio_sem (h1) [0] _ rfl rfl ⟨rfl, trivial⟩ (by repeat (first | exact .nil | (apply BorL.cons; first | exact .map _ _ rfl | exact .ptr _ _ _ rfl | exact .own _ _ rfl | exact .fnp _ _ _ _ rfl | (apply BorIO.lend; first | exact lS rfl | exact lR rfl | exact lM rfl rfl | exact lL rfl | exact lX rfl | exact lN | exact lNl | exact lSm rfl | exact lIm rfl | exact lP rfl | exact lQ rfl | exact lB rfl rfl rfl)))) rfl (by first | exact .inl rfl | exact .inr (fun b rs h => by obtain ⟨rfl, rfl⟩ := h; exact ⟨by repeat (first | exact flats_nil | refine flats_cons (by first | exact flat_val _ rfl | exact flat_row (fun _ => rfl) | exact flat_lst (fun _ => rfl)) ?_), by repeat (first | exact flats0 | refine flats1 (by first | exact flatB_row (fun _ => rfl) | exact flatB_lst (fun _ => rfl) | exact flatB_smap (fun _ => rfl) | exact flatB_imap (fun _ => rfl) | exact flatB_cells rfl) ?_)⟩))) ?_
    rintro w ⟨b', rs, ⟨rfl, rfl⟩, rfl⟩
    refine ⟨tn_ge _ _, ?_⟩
    conv => whnf
    refine .one _ _ _ (fun _ => h2) (by repeat (first | exact .nil | (apply BorL.cons; first | exact lS rfl | exact lR rfl | exact lM rfl rfl | exact lL rfl | exact lX rfl | exact lN | exact lNl | exact lSm rfl | exact lIm rfl | exact lP rfl | exact lQ rfl | exact lB rfl rfl rfl))) (by first | exact .inl rfl | exact .inr (by repeat (first | exact flats_nil | refine flats_cons (by first | exact flat_val _ rfl | exact flat_row (fun _ => rfl) | exact flat_lst (fun _ => rfl)) ?_))) (by first | exact .inl rfl | exact .inr rfl) ?_
    conv => whnf
    repeat (first | (refine And.intro ⟨by omega, by omega⟩ ?_; conv => whnf) | (refine And.intro (by omega) (And.intro rfl ?_); conv => whnf) | (refine And.intro rfl ?_; conv => whnf) | (refine And.intro (fun _ => ⟨by omega, by omega⟩) ?_; conv => whnf) | (refine And.intro (fun _ => by omega) (And.intro rfl ?_); conv => whnf) | (refine And.intro ⟨(by first | omega | (simp; omega)), (by first | omega | (simp; omega))⟩ ?_; conv => whnf) | (refine Exists.intro _ (And.intro rfl (And.intro (by first | omega | (simp; omega)) (And.intro ⟨rfl, rfl, rfl, rfl, rfl⟩ ?_))); conv => whnf) | (refine And.intro ⟨rfl, rfl⟩ (And.intro (by first | omega | (simp; omega)) ?_); conv => whnf) | (refine Exists.intro _ (And.intro rfl ?_); conv => whnf) | (refine And.intro (fun _ => ?_) (fun h => absurd h (by decide)); conv => whnf) | (refine And.intro (fun h => absurd h (by decide)) (fun _ => ?_); conv => whnf) | (refine .quiet (by kernel_rfl) ?_; conv => whnf))
    refine .one _ _ _ (fun _ => h3) (by repeat (first | exact .nil | (apply BorL.cons; first | exact lS rfl | exact lR rfl | exact lM rfl rfl | exact lL rfl | exact lX rfl | exact lN | exact lNl | exact lSm rfl | exact lIm rfl | exact lP rfl | exact lQ rfl | exact lB rfl rfl rfl))) (by first | exact .inl rfl | exact .inr (by repeat (first | exact flats_nil | refine flats_cons (by first | exact flat_val _ rfl | exact flat_row (fun _ => rfl) | exact flat_lst (fun _ => rfl)) ?_))) (by first | exact .inl rfl | exact .inr rfl) ?_
    conv => whnf
    repeat (first | (refine And.intro ⟨by omega, by omega⟩ ?_; conv => whnf) | (refine And.intro (by omega) (And.intro rfl ?_); conv => whnf) | (refine And.intro rfl ?_; conv => whnf) | (refine And.intro (fun _ => ⟨by omega, by omega⟩) ?_; conv => whnf) | (refine And.intro (fun _ => by omega) (And.intro rfl ?_); conv => whnf) | (refine And.intro ⟨(by first | omega | (simp; omega)), (by first | omega | (simp; omega))⟩ ?_; conv => whnf) | (refine Exists.intro _ (And.intro rfl (And.intro (by first | omega | (simp; omega)) (And.intro ⟨rfl, rfl, rfl, rfl, rfl⟩ ?_))); conv => whnf) | (refine And.intro ⟨rfl, rfl⟩ (And.intro (by first | omega | (simp; omega)) ?_); conv => whnf) | (refine Exists.intro _ (And.intro rfl ?_); conv => whnf) | (refine And.intro (fun _ => ?_) (fun h => absurd h (by decide)); conv => whnf) | (refine And.intro (fun h => absurd h (by decide)) (fun _ => ?_); conv => whnf) | (refine .quiet (by kernel_rfl) ?_; conv => whnf))
    refine .one _ _ _ (fun _ => h4) (by repeat (first | exact .nil | (apply BorL.cons; first | exact lS rfl | exact lR rfl | exact lM rfl rfl | exact lL rfl | exact lX rfl | exact lN | exact lNl | exact lSm rfl | exact lIm rfl | exact lP rfl | exact lQ rfl | exact lB rfl rfl rfl))) (by first | exact .inl rfl | exact .inr (by repeat (first | exact flats_nil | refine flats_cons (by first | exact flat_val _ rfl | exact flat_row (fun _ => rfl) | exact flat_lst (fun _ => rfl)) ?_))) (by first | exact .inl rfl | exact .inr rfl) ?_
    conv => whnf
    repeat (first | (refine And.intro ⟨by omega, by omega⟩ ?_; conv => whnf) | (refine And.intro (by omega) (And.intro rfl ?_); conv => whnf) | (refine And.intro rfl ?_; conv => whnf) | (refine And.intro (fun _ => ⟨by omega, by omega⟩) ?_; conv => whnf) | (refine And.intro (fun _ => by omega) (And.intro rfl ?_); conv => whnf) | (refine And.intro ⟨(by first | omega | (simp; omega)), (by first | omega | (simp; omega))⟩ ?_; conv => whnf) | (refine Exists.intro _ (And.intro rfl (And.intro (by first | omega | (simp; omega)) (And.intro ⟨rfl, rfl, rfl, rfl, rfl⟩ ?_))); conv => whnf) | (refine And.intro ⟨rfl, rfl⟩ (And.intro (by first | omega | (simp; omega)) ?_); conv => whnf) | (refine Exists.intro _ (And.intro rfl ?_); conv => whnf) | (refine And.intro (fun _ => ?_) (fun h => absurd h (by decide)); conv => whnf) | (refine And.intro (fun h => absurd h (by decide)) (fun _ => ?_); conv => whnf) | (refine .quiet (by kernel_rfl) ?_; conv => whnf))
    refine ⟨fun hb => ?_, fun hb => ?_⟩
    · conv => whnf
      rfl
    obtain ⟨p1, p2⟩ := hp hb
    simp only at p1 p2
    conv => whnf
    refine .one _ _ _ (fun _ => h3) (by repeat (first | exact .nil | (apply BorL.cons; first | exact lS rfl | exact lR rfl | exact lM rfl rfl | exact lL rfl | exact lX rfl | exact lN | exact lNl | exact lSm rfl | exact lIm rfl | exact lP rfl | exact lQ rfl | exact lB rfl rfl rfl))) (by first | exact .inl rfl | exact .inr (by repeat (first | exact flats_nil | refine flats_cons (by first | exact flat_val _ rfl | exact flat_row (fun _ => rfl) | exact flat_lst (fun _ => rfl)) ?_))) (by first | exact .inl rfl | exact .inr rfl) ?_
    conv => whnf
    repeat (first | (refine And.intro ⟨by omega, by omega⟩ ?_; conv => whnf) | (refine And.intro (by omega) (And.intro rfl ?_); conv => whnf) | (refine And.intro rfl ?_; conv => whnf) | (refine And.intro (fun _ => ⟨by omega, by omega⟩) ?_; conv => whnf) | (refine And.intro (fun _ => by omega) (And.intro rfl ?_); conv => whnf) | (refine And.intro ⟨(by first | omega | (simp; omega)), (by first | omega | (simp; omega))⟩ ?_; conv => whnf) | (refine Exists.intro _ (And.intro rfl (And.intro (by first | omega | (simp; omega)) (And.intro ⟨rfl, rfl, rfl, rfl, rfl⟩ ?_))); conv => whnf) | (refine And.intro ⟨rfl, rfl⟩ (And.intro (by first | omega | (simp; omega)) ?_); conv => whnf) | (refine Exists.intro _ (And.intro rfl ?_); conv => whnf) | (refine And.intro (fun _ => ?_) (fun h => absurd h (by decide)); conv => whnf) | (refine And.intro (fun h => absurd h (by decide)) (fun _ => ?_); conv => whnf) | (refine .quiet (by kernel_rfl) ?_; conv => whnf))
    show [AR.val (.bool (true && decide (0 ≤ (s.length : Int) - r.length) && decide ((s.length : Int) - r.length ≤ s.length) && decide (textS n = s.take (max 0 (min ((s.length : Int) - r.length) s.length)).toNat)))] = _
    rw [← p2, decide_eq_true (show (0 : Int) ≤ (s.length : Int) - r.length by omega), decide_eq_true (show (s.length : Int) - r.length ≤ s.length by omega), decide_eq_true rfl]
    rfl
  conv => whnf
  refine ⟨fun c3 => ?_, fun c3 => ?_⟩
  · have h1 := rnums ⟨s, false⟩ (by show s.length ≤ _; omega)
    obtain ⟨w1, w2, w3, w4⟩ := list_fitsI s hs4
    have hp := again_plain (codecL codecI) s
    unfold listQ at hp
    simp only at hp
    generalize itemsQ oneI ⟨s, false⟩ = x at *
    obtain ⟨o, r, b⟩ := x
    have h3 := left_p r b
    have h4 := done_p r b
    have h2 := nums_ok (listOf o) w1 w2 w3
    cases o with
    | none =>
      replace h1 : AIO Tryd.prog 26 [.ptr 0 0] [ro ⟨s, false⟩] (fun bs rs => bs = [.cells 54 [.str r, .bool b]] ∧ rs = [.val .nils]) := h1
      conv => whnf
      refine .raw _ _ rfl (fun h => by cases h) (callio_sem (h1) [0] _ rfl rfl ⟨rfl, trivial⟩ (by repeat (first | exact .nil | (apply BorL.cons; first | exact .map _ _ rfl | exact .ptr _ _ _ rfl | exact .own _ _ rfl | exact .fnp _ _ _ _ rfl | (apply BorIO.lend; first | exact lS rfl | exact lR rfl | exact lM rfl rfl | exact lL rfl | exact lX rfl | exact lN | exact lNl | exact lSm rfl | exact lIm rfl | exact lP rfl | exact lQ rfl | exact lB rfl rfl rfl)))) rfl (by first | exact .inl rfl | exact .inr (fun b rs h => by obtain ⟨rfl, rfl⟩ := h; exact ⟨by repeat (first | exact flats_nil | refine flats_cons (by first | exact flat_val _ rfl | exact flat_row (fun _ => rfl) | exact flat_lst (fun _ => rfl)) ?_), by repeat (first | exact flats0 | refine flats1 (by first | exact flatB_row (fun _ => rfl) | exact flatB_lst (fun _ => rfl) | exact flatB_smap (fun _ => rfl) | exact flatB_imap (fun _ => rfl) | exact flatB_cells rfl) ?_)⟩))) ?_
      rintro w ⟨b', rs, ⟨rfl, rfl⟩, rfl⟩
      refine ⟨tn_ge _ _, ?_⟩
      conv => whnf
      refine .one _ _ _ (fun _ => h2) (by repeat (first | exact .nil | (apply BorL.cons; first | exact lS rfl | exact lR rfl | exact lM rfl rfl | exact lL rfl | exact lX rfl | exact lN | exact lNl | exact lSm rfl | exact lIm rfl | exact lP rfl | exact lQ rfl | exact lB rfl rfl rfl))) (by first | exact .inl rfl | exact .inr (by repeat (first | exact flats_nil | refine flats_cons (by first | exact flat_val _ rfl | exact flat_row (fun _ => rfl) | exact flat_lst (fun _ => rfl)) ?_))) (by first | exact .inl rfl | exact .inr rfl) ?_
      conv => whnf
      repeat (first | (refine And.intro ⟨by omega, by omega⟩ ?_; conv => whnf) | (refine And.intro (by omega) (And.intro rfl ?_); conv => whnf) | (refine And.intro rfl ?_; conv => whnf) | (refine And.intro (fun _ => ⟨by omega, by omega⟩) ?_; conv => whnf) | (refine And.intro (fun _ => by omega) (And.intro rfl ?_); conv => whnf) | (refine And.intro ⟨(by first | omega | (simp; omega)), (by first | omega | (simp; omega))⟩ ?_; conv => whnf) | (refine Exists.intro _ (And.intro rfl (And.intro (by first | omega | (simp; omega)) (And.intro ⟨rfl, rfl, rfl, rfl, rfl⟩ ?_))); conv => whnf) | (refine And.intro ⟨rfl, rfl⟩ (And.intro (by first | omega | (simp; omega)) ?_); conv => whnf) | (refine Exists.intro _ (And.intro rfl ?_); conv => whnf) | (refine And.intro (fun _ => ?_) (fun h => absurd h (by decide)); conv => whnf) | (refine And.intro (fun h => absurd h (by decide)) (fun _ => ?_); conv => whnf) | (refine .quiet (by kernel_rfl) ?_; conv => whnf))
      refine .one _ _ _ (fun _ => h3) (by repeat (first | exact .nil | (apply BorL.cons; first | exact lS rfl | exact lR rfl | exact lM rfl rfl | exact lL rfl | exact lX rfl | exact lN | exact lNl | exact lSm rfl | exact lIm rfl | exact lP rfl | exact lQ rfl | exact lB rfl rfl rfl))) (by first | exact .inl rfl | exact .inr (by repeat (first | exact flats_nil | refine flats_cons (by first | exact flat_val _ rfl | exact flat_row (fun _ => rfl) | exact flat_lst (fun _ => rfl)) ?_))) (by first | exact .inl rfl | exact .inr rfl) ?_
      conv => whnf
      repeat (first | (refine And.intro ⟨by omega, by omega⟩ ?_; conv => whnf) | (refine And.intro (by omega) (And.intro rfl ?_); conv => whnf) | (refine And.intro rfl ?_; conv => whnf) | (refine And.intro (fun _ => ⟨by omega, by omega⟩) ?_; conv => whnf) | (refine And.intro (fun _ => by omega) (And.intro rfl ?_); conv => whnf) | (refine And.intro ⟨(by first | omega | (simp; omega)), (by first | omega | (simp; omega))⟩ ?_; conv => whnf) | (refine Exists.intro _ (And.intro rfl (And.intro (by first | omega | (simp; omega)) (And.intro ⟨rfl, rfl, rfl, rfl, rfl⟩ ?_))); conv => whnf) | (refine And.intro ⟨rfl, rfl⟩ (And.intro (by first | omega | (simp; omega)) ?_); conv => whnf) | (refine Exists.intro _ (And.intro rfl ?_); conv => whnf) | (refine And.intro (fun _ => ?_) (fun h => absurd h (by decide)); conv => whnf) | (refine And.intro (fun h => absurd h (by decide)) (fun _ => ?_); conv => whnf) | (refine .quiet (by kernel_rfl) ?_; conv => whnf))
      refine .one _ _ _ (fun _ => h4) (by repeat (first | exact .nil | (apply BorL.cons; first | exact lS rfl | exact lR rfl | exact lM rfl rfl | exact lL rfl | exact lX rfl | exact lN | exact lNl | exact lSm rfl | exact lIm rfl | exact lP rfl | exact lQ rfl | exact lB rfl rfl rfl))) (by first | exact .inl rfl | exact .inr (by repeat (first | exact flats_nil | refine flats_cons (by first | exact flat_val _ rfl | exact flat_row (fun _ => rfl) | exact flat_lst (fun _ => rfl)) ?_))) (by first | exact .inl rfl | exact .inr rfl) ?_
      conv => whnf
      repeat (first | (refine And.intro ⟨by omega, by omega⟩ ?_; conv => whnf) | (refine And.intro (by omega) (And.intro rfl ?_); conv => whnf) | (refine And.intro rfl ?_; conv => whnf) | (refine And.intro (fun _ => ⟨by omega, by omega⟩) ?_; conv => whnf) | (refine And.intro (fun _ => by omega) (And.intro rfl ?_); conv => whnf) | (refine And.intro ⟨(by first | omega | (simp; omega)), (by first | omega | (simp; omega))⟩ ?_; conv => whnf) | (refine Exists.intro _ (And.intro rfl (And.intro (by first | omega | (simp; omega)) (And.intro ⟨rfl, rfl, rfl, rfl, rfl⟩ ?_))); conv => whnf) | (refine And.intro ⟨rfl, rfl⟩ (And.intro (by first | omega | (simp; omega)) ?_); conv => whnf) | (refine Exists.intro _ (And.intro rfl ?_); conv => whnf) | (refine And.intro (fun _ => ?_) (fun h => absurd h (by decide)); conv => whnf) | (refine And.intro (fun h => absurd h (by decide)) (fun _ => ?_); conv => whnf) | (refine .quiet (by kernel_rfl) ?_; conv => whnf))
      refine ⟨fun hb => ?_, fun hb => ?_⟩
      · conv => whnf
        rfl
      obtain ⟨p1, p2⟩ := hp hb
      simp only at p1 p2
      conv => whnf
      refine .one _ _ _ (fun _ => h3) (by repeat (first | exact .nil | (apply BorL.cons; first | exact lS rfl | exact lR rfl | exact lM rfl rfl | exact lL rfl | exact lX rfl | exact lN | exact lNl | exact lSm rfl | exact lIm rfl | exact lP rfl | exact lQ rfl | exact lB rfl rfl rfl))) (by first | exact .inl rfl | exact .inr (by repeat (first | exact flats_nil | refine flats_cons (by first | exact flat_val _ rfl | exact flat_row (fun _ => rfl) | exact flat_lst (fun _ => rfl)) ?_))) (by first | exact .inl rfl | exact .inr rfl) ?_
      conv => whnf
      repeat (first | (refine And.intro ⟨by omega, by omega⟩ ?_; conv => whnf) | (refine And.intro (by omega) (And.intro rfl ?_); conv => whnf) | (refine And.intro rfl ?_; conv => whnf) | (refine And.intro (fun _ => ⟨by omega, by omega⟩) ?_; conv => whnf) | (refine And.intro (fun _ => by omega) (And.intro rfl ?_); conv => whnf) | (refine And.intro ⟨(by first | omega | (simp; omega)), (by first | omega | (simp; omega))⟩ ?_; conv => whnf) | (refine Exists.intro _ (And.intro rfl (And.intro (by first | omega | (simp; omega)) (And.intro ⟨rfl, rfl, rfl, rfl, rfl⟩ ?_))); conv => whnf) | (refine And.intro ⟨rfl, rfl⟩ (And.intro (by first | omega | (simp; omega)) ?_); conv => whnf) | (refine Exists.intro _ (And.intro rfl ?_); conv => whnf) | (refine And.intro (fun _ => ?_) (fun h => absurd h (by decide)); conv => whnf) | (refine And.intro (fun h => absurd h (by decide)) (fun _ => ?_); conv => whnf) | (refine .quiet (by kernel_rfl) ?_; conv => whnf))
      show [AR.val (.bool (true && decide (0 ≤ (s.length : Int) - r.length) && decide ((s.length : Int) - r.length ≤ s.length) && decide (listS intS (listOf none) = s.take (max 0 (min ((s.length : Int) - r.length) s.length)).toNat)))] = _
      rw [← p2, decide_eq_true (show (0 : Int) ≤ (s.length : Int) - r.length by omega), decide_eq_true (show (s.length : Int) - r.length ≤ s.length by omega), decide_eq_true rfl]
      rfl
    | some l =>
      replace h1 : AIO Tryd.prog 26 [.ptr 0 0] [ro ⟨s, false⟩] (fun bs rs => bs = [.cells 54 [.str r, .bool b]] ∧ rs = [.new (.row 3 1 encI 0 l)]) := h1
      conv => whnf
      refine .raw _ _ rfl (fun h => by cases h) (callio_sem (h1) [0] _ rfl rfl ⟨rfl, trivial⟩ (by repeat (first | exact .nil | (apply BorL.cons; first | exact .map _ _ rfl | exact .ptr _ _ _ rfl | exact .own _ _ rfl | exact .fnp _ _ _ _ rfl | (apply BorIO.lend; first | exact lS rfl | exact lR rfl | exact lM rfl rfl | exact lL rfl | exact lX rfl | exact lN | exact lNl | exact lSm rfl | exact lIm rfl | exact lP rfl | exact lQ rfl | exact lB rfl rfl rfl)))) rfl (by first | exact .inl rfl | exact .inr (fun b rs h => by obtain ⟨rfl, rfl⟩ := h; exact ⟨by repeat (first | exact flats_nil | refine flats_cons (by first | exact flat_val _ rfl | exact flat_row (fun _ => rfl) | exact flat_lst (fun _ => rfl)) ?_), by repeat (first | exact flats0 | refine flats1 (by first | exact flatB_row (fun _ => rfl) | exact flatB_lst (fun _ => rfl) | exact flatB_smap (fun _ => rfl) | exact flatB_imap (fun _ => rfl) | exact flatB_cells rfl) ?_)⟩))) ?_
      rintro w ⟨b', rs, ⟨rfl, rfl⟩, rfl⟩
      refine ⟨tn_ge _ _, ?_⟩
      conv => whnf
      refine .one _ _ _ (fun _ => h2) (by repeat (first | exact .nil | (apply BorL.cons; first | exact lS rfl | exact lR rfl | exact lM rfl rfl | exact lL rfl | exact lX rfl | exact lN | exact lNl | exact lSm rfl | exact lIm rfl | exact lP rfl | exact lQ rfl | exact lB rfl rfl rfl))) (by first | exact .inl rfl | exact .inr (by repeat (first | exact flats_nil | refine flats_cons (by first | exact flat_val _ rfl | exact flat_row (fun _ => rfl) | exact flat_lst (fun _ => rfl)) ?_))) (by first | exact .inl rfl | exact .inr rfl) ?_
      conv => whnf
      repeat (first | (refine And.intro ⟨by omega, by omega⟩ ?_; conv => whnf) | (refine And.intro (by omega) (And.intro rfl ?_); conv => whnf) | (refine And.intro rfl ?_; conv => whnf) | (refine And.intro (fun _ => ⟨by omega, by omega⟩) ?_; conv => whnf) | (refine And.intro (fun _ => by omega) (And.intro rfl ?_); conv => whnf) | (refine And.intro ⟨(by first | omega | (simp; omega)), (by first | omega | (simp; omega))⟩ ?_; conv => whnf) | (refine Exists.intro _ (And.intro rfl (And.intro (by first | omega | (simp; omega)) (And.intro ⟨rfl, rfl, rfl, rfl, rfl⟩ ?_))); conv => whnf) | (refine And.intro ⟨rfl, rfl⟩ (And.intro (by first | omega | (simp; omega)) ?_); conv => whnf) | (refine Exists.intro _ (And.intro rfl ?_); conv => whnf) | (refine And.intro (fun _ => ?_) (fun h => absurd h (by decide)); conv => whnf) | (refine And.intro (fun h => absurd h (by decide)) (fun _ => ?_); conv => whnf) | (refine .quiet (by kernel_rfl) ?_; conv => whnf))
      refine .one _ _ _ (fun _ => h3) (by repeat (first | exact .nil | (apply BorL.cons; first | exact lS rfl | exact lR rfl | exact lM rfl rfl | exact lL rfl | exact lX rfl | exact lN | exact lNl | exact lSm rfl | exact lIm rfl | exact lP rfl | exact lQ rfl | exact lB rfl rfl rfl))) (by first | exact .inl rfl | exact .inr (by repeat (first | exact flats_nil | refine flats_cons (by first | exact flat_val _ rfl | exact flat_row (fun _ => rfl) | exact flat_lst (fun _ => rfl)) ?_))) (by first | exact .inl rfl | exact .inr rfl) ?_
      conv => whnf
      repeat (first | (refine And.intro ⟨by omega, by omega⟩ ?_; conv => whnf) | (refine And.intro (by omega) (And.intro rfl ?_); conv => whnf) | (refine And.intro rfl ?_; conv => whnf) | (refine And.intro (fun _ => ⟨by omega, by omega⟩) ?_; conv => whnf) | (refine And.intro (fun _ => by omega) (And.intro rfl ?_); conv => whnf) | (refine And.intro ⟨(by first | omega | (simp; omega)), (by first | omega | (simp; omega))⟩ ?_; conv => whnf) | (refine Exists.intro _ (And.intro rfl (And.intro (by first | omega | (simp; omega)) (And.intro ⟨rfl, rfl, rfl, rfl, rfl⟩ ?_))); conv => whnf) | (refine And.intro ⟨rfl, rfl⟩ (And.intro (by first | omega | (simp; omega)) ?_); conv => whnf) | (refine Exists.intro _ (And.intro rfl ?_); conv => whnf) | (refine And.intro (fun _ => ?_) (fun h => absurd h (by decide)); conv => whnf) | (refine And.intro (fun h => absurd h (by decide)) (fun _ => ?_); conv => whnf) | (refine .quiet (by kernel_rfl) ?_; conv => whnf))
      refine .one _ _ _ (fun _ => h4) (by repeat (first | exact .nil | (apply BorL.cons; first | exact lS rfl | exact lR rfl | exact lM rfl rfl | exact lL rfl | exact lX rfl | exact lN | exact lNl | exact lSm rfl | exact lIm rfl | exact lP rfl | exact lQ rfl | exact lB rfl rfl rfl))) (by first | exact .inl rfl | exact .inr (by repeat (first | exact flats_nil | refine flats_cons (by first | exact flat_val _ rfl | exact flat_row (fun _ => rfl) | exact flat_lst (fun _ => rfl)) ?_))) (by first | exact .inl rfl | exact .inr rfl) ?_
      conv => whnf
      repeat (first | (refine And.intro ⟨by omega, by omega⟩ ?_; conv => whnf) | (refine And.intro (by omega) (And.intro rfl ?_); conv => whnf) | (refine And.intro rfl ?_; conv => whnf) | (refine And.intro (fun _ => ⟨by omega, by omega⟩) ?_; conv => whnf) | (refine And.intro (fun _ => by omega) (And.intro rfl ?_); conv => whnf) | (refine And.intro ⟨(by first | omega | (simp; omega)), (by first | omega | (simp; omega))⟩ ?_; conv => whnf) | (refine Exists.intro _ (And.intro rfl (And.intro (by first | omega | (simp; omega)) (And.intro ⟨rfl, rfl, rfl, rfl, rfl⟩ ?_))); conv => whnf) | (refine And.intro ⟨rfl, rfl⟩ (And.intro (by first | omega | (simp; omega)) ?_); conv => whnf) | (refine Exists.intro _ (And.intro rfl ?_); conv => whnf) | (refine And.intro (fun _ => ?_) (fun h => absurd h (by decide)); conv => whnf) | (refine And.intro (fun h => absurd h (by decide)) (fun _ => ?_); conv => whnf) | (refine .quiet (by kernel_rfl) ?_; conv => whnf))
      refine ⟨fun hb => ?_, fun hb => ?_⟩
      · conv => whnf
        rfl
      obtain ⟨p1, p2⟩ := hp hb
      simp only at p1 p2
      conv => whnf
      refine .one _ _ _ (fun _ => h3) (by repeat (first | exact .nil | (apply BorL.cons; first | exact lS rfl | exact lR rfl | exact lM rfl rfl | exact lL rfl | exact lX rfl | exact lN | exact lNl | exact lSm rfl | exact lIm rfl | exact lP rfl | exact lQ rfl | exact lB rfl rfl rfl))) (by first | exact .inl rfl | exact .inr (by repeat (first | exact flats_nil | refine flats_cons (by first | exact flat_val _ rfl | exact flat_row (fun _ => rfl) | exact flat_lst (fun _ => rfl)) ?_))) (by first | exact .inl rfl | exact .inr rfl) ?_
      conv => whnf
      repeat (first | (refine And.intro ⟨by omega, by omega⟩ ?_; conv => whnf) | (refine And.intro (by omega) (And.intro rfl ?_); conv => whnf) | (refine And.intro rfl ?_; conv => whnf) | (refine And.intro (fun _ => ⟨by omega, by omega⟩) ?_; conv => whnf) | (refine And.intro (fun _ => by omega) (And.intro rfl ?_); conv => whnf) | (refine And.intro ⟨(by first | omega | (simp; omega)), (by first | omega | (simp; omega))⟩ ?_; conv => whnf) | (refine Exists.intro _ (And.intro rfl (And.intro (by first | omega | (simp; omega)) (And.intro ⟨rfl, rfl, rfl, rfl, rfl⟩ ?_))); conv => whnf) | (refine And.intro ⟨rfl, rfl⟩ (And.intro (by first | omega | (simp; omega)) ?_); conv => whnf) | (refine Exists.intro _ (And.intro rfl ?_); conv => whnf) | (refine And.intro (fun _ => ?_) (fun h => absurd h (by decide)); conv => whnf) | (refine And.intro (fun h => absurd h (by decide)) (fun _ => ?_); conv => whnf) | (refine .quiet (by kernel_rfl) ?_; conv => whnf))
      show [AR.val (.bool (true && decide (0 ≤ (s.length : Int) - r.length) && decide ((s.length : Int) - r.length ≤ s.length) && decide (listS intS (listOf (some l)) = s.take (max 0 (min ((s.length : Int) - r.length) s.length)).toNat)))] = _
      rw [← p2, decide_eq_true (show (0 : Int) ≤ (s.length : Int) - r.length by omega), decide_eq_true (show (s.length : Int) - r.length ≤ s.length by omega), decide_eq_true rfl]
      rfl
  conv => whnf
  have h1 := rtexts ⟨s, false⟩ (by show s.length ≤ _; omega)
  obtain ⟨w1, w2, w3, w4⟩ := list_fitsT s hs4
  have hp := again_plain (codecL codecT) s
  unfold listQ at hp
  simp only at hp
  generalize itemsQ textQ ⟨s, false⟩ = x at *
  obtain ⟨o, r, b⟩ := x
  have h3 := left_p r b
  have h4 := done_p r b
  have h2 := texts_ok (listOf o) w1 w2 w3
  cases o with
  | none =>
    replace h1 : AIO Tryd.prog 27 [.ptr 0 0] [ro ⟨s, false⟩] (fun bs rs => bs = [.cells 54 [.str r, .bool b]] ∧ rs = [.val .nils]) := h1
    conv => whnf
    refine .raw _ _ rfl (fun h => by cases h) (callio_sem (h1) [0] _ rfl rfl ⟨rfl, trivial⟩ (by repeat (first | exact .nil | (apply BorL.cons; first | exact .map _ _ rfl | exact .ptr _ _ _ rfl | exact .own _ _ rfl | exact .fnp _ _ _ _ rfl | (apply BorIO.lend; first | exact lS rfl | exact lR rfl | exact lM rfl rfl | exact lL rfl | exact lX rfl | exact lN | exact lNl | exact lSm rfl | exact lIm rfl | exact lP rfl | exact lQ rfl | exact lB rfl rfl rfl)))) rfl (by first | exact .inl rfl | exact .inr (fun b rs h => by obtain ⟨rfl, rfl⟩ := h; exact ⟨by repeat (first | exact flats_nil | refine flats_cons (by first | exact flat_val _ rfl | exact flat_row (fun _ => rfl) | exact flat_lst (fun _ => rfl)) ?_), by repeat (first | exact flats0 | refine flats1 (by first | exact flatB_row (fun _ => rfl) | exact flatB_lst (fun _ => rfl) | exact flatB_smap (fun _ => rfl) | exact flatB_imap (fun _ => rfl) | exact flatB_cells rfl) ?_)⟩))) ?_
    rintro w ⟨b', rs, ⟨rfl, rfl⟩, rfl⟩
    refine ⟨tn_ge _ _, ?_⟩
    conv => whnf
    refine .one _ _ _ (fun _ => h2) (by repeat (first | exact .nil | (apply BorL.cons; first | exact lS rfl | exact lR rfl | exact lM rfl rfl | exact lL rfl | exact lX rfl | exact lN | exact lNl | exact lSm rfl | exact lIm rfl | exact lP rfl | exact lQ rfl | exact lB rfl rfl rfl))) (by first | exact .inl rfl | exact .inr (by repeat (first | exact flats_nil | refine flats_cons (by first | exact flat_val _ rfl | exact flat_row (fun _ => rfl) | exact flat_lst (fun _ => rfl)) ?_))) (by first | exact .inl rfl | exact .inr rfl) ?_
    conv => whnf
    repeat (first | (refine And.intro ⟨by omega, by omega⟩ ?_; conv => whnf) | (refine And.intro (by omega) (And.intro rfl ?_); conv => whnf) | (refine And.intro rfl ?_; conv => whnf) | (refine And.intro (fun _ => ⟨by omega, by omega⟩) ?_; conv => whnf) | (refine And.intro (fun _ => by omega) (And.intro rfl ?_); conv => whnf) | (refine And.intro ⟨(by first | omega | (simp; omega)), (by first | omega | (simp; omega))⟩ ?_; conv => whnf) | (refine Exists.intro _ (And.intro rfl (And.intro (by first | omega | (simp; omega)) (And.intro ⟨rfl, rfl, rfl, rfl, rfl⟩ ?_))); conv => whnf) | (refine And.intro ⟨rfl, rfl⟩ (And.intro (by first | omega | (simp; omega)) ?_); conv => whnf) | (refine Exists.intro _ (And.intro rfl ?_); conv => whnf) | (refine And.intro (fun _ => ?_) (fun h => absurd h (by decide)); conv => whnf) | (refine And.intro (fun h => absurd h (by decide)) (fun _ => ?_); conv => whnf) | (refine .quiet (by kernel_rfl) ?_; conv => whnf))
    refine .one _ _ _ (fun _ => h3) (by repeat (first | exact .nil | (apply BorL.cons; first | exact lS rfl | exact lR rfl | exact lM rfl rfl | exact lL rfl | exact lX rfl | exact lN | exact lNl | exact lSm rfl | exact lIm rfl | exact lP rfl | exact lQ rfl | exact lB rfl rfl rfl))) (by first | exact .inl rfl | exact .inr (by repeat (first | exact flats_nil | refine flats_cons (by first | exact flat_val _ rfl | exact flat_row (fun _ => rfl) | exact flat_lst (fun _ => rfl)) ?_))) (by first | exact .inl rfl | exact .inr rfl) ?_
    conv => whnf
    repeat (first | (refine And.intro ⟨by omega, by omega⟩ ?_; conv => whnf) | (refine And.intro (by omega) (And.intro rfl ?_); conv => whnf) | (refine And.intro rfl ?_; conv => whnf) | (refine And.intro (fun _ => ⟨by omega, by omega⟩) ?_; conv => whnf) | (refine And.intro (fun _ => by omega) (And.intro rfl ?_); conv => whnf) | (refine And.intro ⟨(by first | omega | (simp; omega)), (by first | omega | (simp; omega))⟩ ?_; conv => whnf) | (refine Exists.intro _ (And.intro rfl (And.intro (by first | omega | (simp; omega)) (And.intro ⟨rfl, rfl, rfl, rfl, rfl⟩ ?_))); conv => whnf) | (refine And.intro ⟨rfl, rfl⟩ (And.intro (by first | omega | (simp; omega)) ?_); conv => whnf) | (refine Exists.intro _ (And.intro rfl ?_); conv => whnf) | (refine And.intro (fun _ => ?_) (fun h => absurd h (by decide)); conv => whnf) | (refine And.intro (fun h => absurd h (by decide)) (fun _ => ?_); conv => whnf) | (refine .quiet (by kernel_rfl) ?_; conv => whnf))
    refine .one _ _ _ (fun _ => h4) (by repeat (first | exact .nil | (apply BorL.cons; first | exact lS rfl | exact lR rfl | exact lM rfl rfl | exact lL rfl | exact lX rfl | exact lN | exact lNl | exact lSm rfl | exact lIm rfl | exact lP rfl | exact lQ rfl | exact lB rfl rfl rfl))) (by first | exact .inl rfl | exact .inr (by repeat (first | exact flats_nil | refine flats_cons (by first | exact flat_val _ rfl | exact flat_row (fun _ => rfl) | exact flat_lst (fun _ => rfl)) ?_))) (by first | exact .inl rfl | exact .inr rfl) ?_
    conv => whnf
    repeat (first | (refine And.intro ⟨by omega, by omega⟩ ?_; conv => whnf) | (refine And.intro (by omega) (And.intro rfl ?_); conv => whnf) | (refine And.intro rfl ?_; conv => whnf) | (refine And.intro (fun _ => ⟨by omega, by omega⟩) ?_; conv => whnf) | (refine And.intro (fun _ => by omega) (And.intro rfl ?_); conv => whnf) | (refine And.intro ⟨(by first | omega | (simp; omega)), (by first | omega | (simp; omega))⟩ ?_; conv => whnf) | (refine Exists.intro _ (And.intro rfl (And.intro (by first | omega | (simp; omega)) (And.intro ⟨rfl, rfl, rfl, rfl, rfl⟩ ?_))); conv => whnf) | (refine And.intro ⟨rfl, rfl⟩ (And.intro (by first | omega | (simp; omega)) ?_); conv => whnf) | (refine Exists.intro _ (And.intro rfl ?_); conv => whnf) | (refine And.intro (fun _ => ?_) (fun h => absurd h (by decide)); conv => whnf) | (refine And.intro (fun h => absurd h (by decide)) (fun _ => ?_); conv => whnf) | (refine .quiet (by kernel_rfl) ?_; conv => whnf))
    refine ⟨fun hb => ?_, fun hb => ?_⟩
    · conv => whnf
      rfl
    obtain ⟨p1, p2⟩ := hp hb
    simp only at p1 p2
    conv => whnf
    refine .one _ _ _ (fun _ => h3) (by repeat (first | exact .nil | (apply BorL.cons; first | exact lS rfl | exact lR rfl | exact lM rfl rfl | exact lL rfl | exact lX rfl | exact lN | exact lNl | exact lSm rfl | exact lIm rfl | exact lP rfl | exact lQ rfl | exact lB rfl rfl rfl))) (by first | exact .inl rfl | exact .inr (by repeat (first | exact flats_nil | refine flats_cons (by first | exact flat_val _ rfl | exact flat_row (fun _ => rfl) | exact flat_lst (fun _ => rfl)) ?_))) (by first | exact .inl rfl | exact .inr rfl) ?_
    conv => whnf
    repeat (first | (refine And.intro ⟨by omega, by omega⟩ ?_; conv => whnf) | (refine And.intro (by omega) (And.intro rfl ?_); conv => whnf) | (refine And.intro rfl ?_; conv => whnf) | (refine And.intro (fun _ => ⟨by omega, by omega⟩) ?_; conv => whnf) | (refine And.intro (fun _ => by omega) (And.intro rfl ?_); conv => whnf) | (refine And.intro ⟨(by first | omega | (simp; omega)), (by first | omega | (simp; omega))⟩ ?_; conv => whnf) | (refine Exists.intro _ (And.intro rfl (And.intro (by first | omega | (simp; omega)) (And.intro ⟨rfl, rfl, rfl, rfl, rfl⟩ ?_))); conv => whnf) | (refine And.intro ⟨rfl, rfl⟩ (And.intro (by first | omega | (simp; omega)) ?_); conv => whnf) | (refine Exists.intro _ (And.intro rfl ?_); conv => whnf) | (refine And.intro (fun _ => ?_) (fun h => absurd h (by decide)); conv => whnf) | (refine And.intro (fun h => absurd h (by decide)) (fun _ => ?_); conv => whnf) | (refine .quiet (by kernel_rfl) ?_; conv => whnf))
    show [AR.val (.bool (true && decide (0 ≤ (s.length : Int) - r.length) && decide ((s.length : Int) - r.length ≤ s.length) && decide (listS textS (listOf none) = s.take (max 0 (min ((s.length : Int) - r.length) s.length)).toNat)))] = _
    rw [← p2, decide_eq_true (show (0 : Int) ≤ (s.length : Int) - r.length by omega), decide_eq_true (show (s.length : Int) - r.length ≤ s.length by omega), decide_eq_true rfl]
    rfl
  | some l =>
    replace h1 : AIO Tryd.prog 27 [.ptr 0 0] [ro ⟨s, false⟩] (fun bs rs => bs = [.cells 54 [.str r, .bool b]] ∧ rs = [.new (.row 9 1 encS [] l)]) := h1
    conv => whnf
    refine .raw _ _ rfl (fun h => by cases h) (callio_sem (h1) [0] _ rfl rfl ⟨rfl, trivial⟩ (by repeat (first | exact .nil | (apply BorL.cons; first | exact .map _ _ rfl | exact .ptr _ _ _ rfl | exact .own _ _ rfl | exact .fnp _ _ _ _ rfl | (apply BorIO.lend; first | exact lS rfl | exact lR rfl | exact lM rfl rfl | exact lL rfl | exact lX rfl | exact lN | exact lNl | exact lSm rfl | exact lIm rfl | exact lP rfl | exact lQ rfl | exact lB rfl rfl rfl)))) rfl (by first | exact .inl rfl | exact .inr (fun b rs h => by obtain ⟨rfl, rfl⟩ := h; exact ⟨by repeat (first | exact flats_nil | refine flats_cons (by first | exact flat_val _ rfl | exact flat_row (fun _ => rfl) | exact flat_lst (fun _ => rfl)) ?_), by repeat (first | exact flats0 | refine flats1 (by first | exact flatB_row (fun _ => rfl) | exact flatB_lst (fun _ => rfl) | exact flatB_smap (fun _ => rfl) | exact flatB_imap (fun _ => rfl) | exact flatB_cells rfl) ?_)⟩))) ?_
    rintro w ⟨b', rs, ⟨rfl, rfl⟩, rfl⟩
    refine ⟨tn_ge _ _, ?_⟩
    conv => whnf
    refine .one _ _ _ (fun _ => h2) (by repeat (first | exact .nil | (apply BorL.cons; first | exact lS rfl | exact lR rfl | exact lM rfl rfl | exact lL rfl | exact lX rfl | exact lN | exact lNl | exact lSm rfl | exact lIm rfl | exact lP rfl | exact lQ rfl | exact lB rfl rfl rfl))) (by first | exact .inl rfl | exact .inr (by repeat (first | exact flats_nil | refine flats_cons (by first | exact flat_val _ rfl | exact flat_row (fun _ => rfl) | exact flat_lst (fun _ => rfl)) ?_))) (by first | exact .inl rfl | exact .inr rfl) ?_
    conv => whnf
    repeat (first | (refine And.intro ⟨by omega, by omega⟩ ?_; conv => whnf) | (refine And.intro (by omega) (And.intro rfl ?_); conv => whnf) | (refine And.intro rfl ?_; conv => whnf) | (refine And.intro (fun _ => ⟨by omega, by omega⟩) ?_; conv => whnf) | (refine And.intro (fun _ => by omega) (And.intro rfl ?_); conv => whnf) | (refine And.intro ⟨(by first | omega | (simp; omega)), (by first | omega | (simp; omega))⟩ ?_; conv => whnf) | (refine Exists.intro _ (And.intro rfl (And.intro (by first | omega | (simp; omega)) (And.intro ⟨rfl, rfl, rfl, rfl, rfl⟩ ?_))); conv => whnf) | (refine And.intro ⟨rfl, rfl⟩ (And.intro (by first | omega | (simp; omega)) ?_); conv => whnf) | (refine Exists.intro _ (And.intro rfl ?_); conv => whnf) | (refine And.intro (fun _ => ?_) (fun h => absurd h (by decide)); conv => whnf) | (refine And.intro (fun h => absurd h (by decide)) (fun _ => ?_); conv => whnf) | (refine .quiet (by kernel_rfl) ?_; conv => whnf))
    refine .one _ _ _ (fun _ => h3) (by repeat (first | exact .nil | (apply BorL.cons; first | exact lS rfl | exact lR rfl | exact lM rfl rfl | exact lL rfl | exact lX rfl | exact lN | exact lNl | exact lSm rfl | exact lIm rfl | exact lP rfl | exact lQ rfl | exact lB rfl rfl rfl))) (by first | exact .inl rfl | exact .inr (by repeat (first | exact flats_nil | refine flats_cons (by first | exact flat_val _ rfl | exact flat_row (fun _ => rfl) | exact flat_lst (fun _ => rfl)) ?_))) (by first | exact .inl rfl | exact .inr rfl) ?_
    conv => whnf
    repeat (first | (refine And.intro ⟨by omega, by omega⟩ ?_; conv => whnf) | (refine And.intro (by omega) (And.intro rfl ?_); conv => whnf) | (refine And.intro rfl ?_; conv => whnf) | (refine And.intro (fun _ => ⟨by omega, by omega⟩) ?_; conv => whnf) | (refine And.intro (fun _ => by omega) (And.intro rfl ?_); conv => whnf) | (refine And.intro ⟨(by first | omega | (simp; omega)), (by first | omega | (simp; omega))⟩ ?_; conv => whnf) | (refine Exists.intro _ (And.intro rfl (And.intro (by first | omega | (simp; omega)) (And.intro ⟨rfl, rfl, rfl, rfl, rfl⟩ ?_))); conv => whnf) | (refine And.intro ⟨rfl, rfl⟩ (And.intro (by first | omega | (simp; omega)) ?_); conv => whnf) | (refine Exists.intro _ (And.intro rfl ?_); conv => whnf) | (refine And.intro (fun _ => ?_) (fun h => absurd h (by decide)); conv => whnf) | (refine And.intro (fun h => absurd h (by decide)) (fun _ => ?_); conv => whnf) | (refine .quiet (by kernel_rfl) ?_; conv => whnf))
    refine .one _ _ _ (fun _ => h4) (by repeat (first | exact .nil | (apply BorL.cons; first | exact lS rfl | exact lR rfl | exact lM rfl rfl | exact lL rfl | exact lX rfl | exact lN | exact lNl | exact lSm rfl | exact lIm rfl | exact lP rfl | exact lQ rfl | exact lB rfl rfl rfl))) (by first | exact .inl rfl | exact .inr (by repeat (first | exact flats_nil | refine flats_cons (by first | exact flat_val _ rfl | exact flat_row (fun _ => rfl) | exact flat_lst (fun _ => rfl)) ?_))) (by first | exact .inl rfl | exact .inr rfl) ?_
    conv => whnf
    repeat (first | (refine And.intro ⟨by omega, by omega⟩ ?_; conv => whnf) | (refine And.intro (by omega) (And.intro rfl ?_); conv => whnf) | (refine And.intro rfl ?_; conv => whnf) | (refine And.intro (fun _ => ⟨by omega, by omega⟩) ?_; conv => whnf) | (refine And.intro (fun _ => by omega) (And.intro rfl ?_); conv => whnf) | (refine And.intro ⟨(by first | omega | (simp; omega)), (by first | omega | (simp; omega))⟩ ?_; conv => whnf) | (refine Exists.intro _ (And.intro rfl (And.intro (by first | omega | (simp; omega)) (And.intro ⟨rfl, rfl, rfl, rfl, rfl⟩ ?_))); conv => whnf) | (refine And.intro ⟨rfl, rfl⟩ (And.intro (by first | omega | (simp; omega)) ?_); conv => whnf) | (refine Exists.intro _ (And.intro rfl ?_); conv => whnf) | (refine And.intro (fun _ => ?_) (fun h => absurd h (by decide)); conv => whnf) | (refine And.intro (fun h => absurd h (by decide)) (fun _ => ?_); conv => whnf) | (refine .quiet (by kernel_rfl) ?_; conv => whnf))
    refine ⟨fun hb => ?_, fun hb => ?_⟩
    · conv => whnf
      rfl
    obtain ⟨p1, p2⟩ := hp hb
    simp only at p1 p2
    conv => whnf
    refine .one _ _ _ (fun _ => h3) (by repeat (first | exact .nil | (apply BorL.cons; first | exact lS rfl | exact lR rfl | exact lM rfl rfl | exact lL rfl | exact lX rfl | exact lN | exact lNl | exact lSm rfl | exact lIm rfl | exact lP rfl | exact lQ rfl | exact lB rfl rfl rfl))) (by first | exact .inl rfl | exact .inr (by repeat (first | exact flats_nil | refine flats_cons (by first | exact flat_val _ rfl | exact flat_row (fun _ => rfl) | exact flat_lst (fun _ => rfl)) ?_))) (by first | exact .inl rfl | exact .inr rfl) ?_
    conv => whnf
    repeat (first | (refine And.intro ⟨by omega, by omega⟩ ?_; conv => whnf) | (refine And.intro (by omega) (And.intro rfl ?_); conv => whnf) | (refine And.intro rfl ?_; conv => whnf) | (refine And.intro (fun _ => ⟨by omega, by omega⟩) ?_; conv => whnf) | (refine And.intro (fun _ => by omega) (And.intro rfl ?_); conv => whnf) | (refine And.intro ⟨(by first | omega | (simp; omega)), (by first | omega | (simp; omega))⟩ ?_; conv => whnf) | (refine Exists.intro _ (And.intro rfl (And.intro (by first | omega | (simp; omega)) (And.intro ⟨rfl, rfl, rfl, rfl, rfl⟩ ?_))); conv => whnf) | (refine And.intro ⟨rfl, rfl⟩ (And.intro (by first | omega | (simp; omega)) ?_); conv => whnf) | (refine Exists.intro _ (And.intro rfl ?_); conv => whnf) | (refine And.intro (fun _ => ?_) (fun h => absurd h (by decide)); conv => whnf) | (refine And.intro (fun h => absurd h (by decide)) (fun _ => ?_); conv => whnf) | (refine .quiet (by kernel_rfl) ?_; conv => whnf))
    show [AR.val (.bool (true && decide (0 ≤ (s.length : Int) - r.length) && decide ((s.length : Int) - r.length ≤ s.length) && decide (listS textS (listOf (some l)) = s.take (max 0 (min ((s.length : Int) - r.length) s.length)).toNat)))] = _
    rw [← p2, decide_eq_true (show (0 : Int) ≤ (s.length : Int) - r.length by omega), decide_eq_true (show (s.length : Int) - r.length ≤ s.length by omega), decide_eq_true rfl]
    rfl

end Go.Proofs.YthepodkgphnibaaDoor

namespace Go.Proofs.YthepodkgphnibaaDoor
open Go.Own
set_option maxHeartbeats 2000000
set_option maxRecDepth 100000

/-- What every value that is handed over has. -/
structure ValIn (v : Val) : Prop where
  kind : in64 v.kind
  n : in64 v.n
  l : ∀ x ∈ v.l, in64 x
theorem valOk {v : Val} (h : ValIn v) (hf : FewV v) : ValOk v := by
  have hs := hf.s
  have hl := hf.l
  have ht := hf.t
  have htk : ∀ x ∈ v.t, x.length ≤ 400 := fun x hx => by
    obtain ⟨k, hk, he⟩ := List.mem_iff_getElem.1 hx
    have := hf.tk k hk
    rw [List.getD_eq_getElem?_getD, List.getElem?_eq_getElem hk] at this
    rw [← he]
    exact this
  refine ⟨h.kind, h.n, by omega, h.l, by omega, ?_, fun x hx => by have := htk x hx; omega, by omega, ?_⟩
  · have := listS_le (f := intS) (M := 21) (fun x hx => by
      have := itoa_len x (h.l x hx)
      unfold intS
      rw [List.length_append, List.length_singleton]
      omega) (by omega : v.l.length ≤ 9223372036854775807)
    omega
  · have := listS_le (f := textS) (M := 422) (fun x hx => by
      have h4 : x.length ≤ 400 := htk x hx
      have := textS_len x (by omega)
      omega) (by omega : v.t.length ≤ 9223372036854775807)
    omega
theorem few_one {v : Val} (h : fewB [v] = true) : FewV v := (few_of h).each 0 (by simp)

theorem write_short {v : Val} (hf : FewV v) (h : ValIn v) : (writeS v).length ≤ 200000 := by
  have hs := hf.s
  have hl := hf.l
  have ht := hf.t
  have htk : ∀ x ∈ v.t, x.length ≤ 400 := fun x hx => by
    obtain ⟨k, hk, he⟩ := List.mem_iff_getElem.1 hx
    have := hf.tk k hk
    rw [List.getD_eq_getElem?_getD, List.getElem?_eq_getElem hk] at this
    rw [← he]
    exact this
  unfold writeS
  split
  · unfold numS intS
    split
    · exact Nat.zero_le _
    · have := itoa_len _ (numberZ_in h.n)
      rw [List.length_append, List.length_singleton]
      omega
  split
  · have := itoa_len _ h.n
    unfold intS
    rw [List.length_append, List.length_singleton]
    omega
  split
  · have := textS_len v.s (by omega)
    omega
  split
  · have := listS_le (f := intS) (M := 21) (fun x hx => by
      have := itoa_len x (h.l x hx)
      unfold intS
      rw [List.length_append, List.length_singleton]
      omega) (by omega : v.l.length ≤ 9223372036854775807)
    omega
  · have := listS_le (f := textS) (M := 422) (fun x hx => by
      have h4 : x.length ≤ 400 := htk x hx
      have := textS_len x (by omega)
      omega) (by omega : v.t.length ≤ 9223372036854775807)
    omega

theorem law_prefix (v w : Val) (hv : ValIn v) (hw : ValIn w) : APureV Tryd.prog 5 [encV v, encV w] (.bool true) := by
  have f1 := few_ok [v] (by simp)
  have f2 := few_ok [w] (by simp)
  refine apure_of (C := cx 66 [0, 1, 2, 3, 4, 5, 6, 7, 8, 26, 47]) (cxOk _ _) Tryd.func5 rfl (by decide) rfl (by exact Nat.le_of_ble_eq_true rfl) (by decide) ?_
  conv => whnf
  refine .one _ _ _ (fun _ => small_ok) (by repeat (first | exact .nil | (apply BorL.cons; first | exact lS rfl | exact lR rfl | exact lM rfl rfl | exact lL rfl | exact lX rfl | exact lN | exact lNl | exact lSm rfl | exact lIm rfl | exact lP rfl | exact lQ rfl | exact lB rfl rfl rfl))) (by first | exact .inl rfl | exact .inr (by repeat (first | exact flats_nil | refine flats_cons (by first | exact flat_val _ rfl | exact flat_row (fun _ => rfl) | exact flat_lst (fun _ => rfl)) ?_))) (by first | exact .inl rfl | exact .inr rfl) ?_
  conv => whnf
  cases b1 : fewB [v] with
  | false =>
    rw [b1] at f1
    refine .eff (by first | exact cxOk _ _ | exact cxPOk _ _ _) ?_
    conv => whnf
    refine .one _ _ _ (fun _ => f1) (by repeat (first | exact .nil | (apply BorL.cons; first | exact lS rfl | exact lR rfl | exact lM rfl rfl | exact lL rfl | exact lX rfl | exact lN | exact lNl | exact lSm rfl | exact lIm rfl | exact lP rfl | exact lQ rfl | exact lB rfl rfl rfl))) (by first | exact .inl rfl | exact .inr (by repeat (first | exact flats_nil | refine flats_cons (by first | exact flat_val _ rfl | exact flat_row (fun _ => rfl) | exact flat_lst (fun _ => rfl)) ?_))) (by first | exact .inl rfl | exact .inr rfl) ?_
    conv => whnf
    repeat (first | (refine And.intro ⟨by omega, by omega⟩ ?_; conv => whnf) | (refine And.intro (by omega) (And.intro rfl ?_); conv => whnf) | (refine And.intro rfl ?_; conv => whnf) | (refine And.intro (fun _ => ⟨by omega, by omega⟩) ?_; conv => whnf) | (refine And.intro (fun _ => by omega) (And.intro rfl ?_); conv => whnf) | (refine And.intro ⟨(by first | omega | (simp; omega)), (by first | omega | (simp; omega))⟩ ?_; conv => whnf) | (refine Exists.intro _ (And.intro rfl (And.intro (by first | omega | (simp; omega)) (And.intro ⟨rfl, rfl, rfl, rfl, rfl⟩ ?_))); conv => whnf) | (refine And.intro ⟨rfl, rfl⟩ (And.intro (by first | omega | (simp; omega)) ?_); conv => whnf) | (refine Exists.intro _ (And.intro rfl ?_); conv => whnf) | (refine And.intro (fun _ => ?_) (fun h => absurd h (by decide)); conv => whnf) | (refine And.intro (fun h => absurd h (by decide)) (fun _ => ?_); conv => whnf) | (refine .eff (by first | exact cxOk _ _ | exact cxPOk _ _ _) ?_; conv => whnf))
    rfl
  | true =>
    rw [b1] at f1
    have hvo := valOk hv (few_one b1)
    cases b2 : fewB [w] with
    | false =>
      rw [b2] at f2
      refine .eff (by first | exact cxOk _ _ | exact cxPOk _ _ _) ?_
      conv => whnf
      refine .one _ _ _ (fun _ => f1) (by repeat (first | exact .nil | (apply BorL.cons; first | exact lS rfl | exact lR rfl | exact lM rfl rfl | exact lL rfl | exact lX rfl | exact lN | exact lNl | exact lSm rfl | exact lIm rfl | exact lP rfl | exact lQ rfl | exact lB rfl rfl rfl))) (by first | exact .inl rfl | exact .inr (by repeat (first | exact flats_nil | refine flats_cons (by first | exact flat_val _ rfl | exact flat_row (fun _ => rfl) | exact flat_lst (fun _ => rfl)) ?_))) (by first | exact .inl rfl | exact .inr rfl) ?_
      conv => whnf
      repeat (first | (refine And.intro ⟨by omega, by omega⟩ ?_; conv => whnf) | (refine And.intro (by omega) (And.intro rfl ?_); conv => whnf) | (refine And.intro rfl ?_; conv => whnf) | (refine And.intro (fun _ => ⟨by omega, by omega⟩) ?_; conv => whnf) | (refine And.intro (fun _ => by omega) (And.intro rfl ?_); conv => whnf) | (refine And.intro ⟨(by first | omega | (simp; omega)), (by first | omega | (simp; omega))⟩ ?_; conv => whnf) | (refine Exists.intro _ (And.intro rfl (And.intro (by first | omega | (simp; omega)) (And.intro ⟨rfl, rfl, rfl, rfl, rfl⟩ ?_))); conv => whnf) | (refine And.intro ⟨rfl, rfl⟩ (And.intro (by first | omega | (simp; omega)) ?_); conv => whnf) | (refine Exists.intro _ (And.intro rfl ?_); conv => whnf) | (refine And.intro (fun _ => ?_) (fun h => absurd h (by decide)); conv => whnf) | (refine And.intro (fun h => absurd h (by decide)) (fun _ => ?_); conv => whnf) | (refine .eff (by first | exact cxOk _ _ | exact cxPOk _ _ _) ?_; conv => whnf))
      refine .one _ _ _ (fun _ => f2) (by repeat (first | exact .nil | (apply BorL.cons; first | exact lS rfl | exact lR rfl | exact lM rfl rfl | exact lL rfl | exact lX rfl | exact lN | exact lNl | exact lSm rfl | exact lIm rfl | exact lP rfl | exact lQ rfl | exact lB rfl rfl rfl))) (by first | exact .inl rfl | exact .inr (by repeat (first | exact flats_nil | refine flats_cons (by first | exact flat_val _ rfl | exact flat_row (fun _ => rfl) | exact flat_lst (fun _ => rfl)) ?_))) (by first | exact .inl rfl | exact .inr rfl) ?_
      conv => whnf
      repeat (first | (refine And.intro ⟨by omega, by omega⟩ ?_; conv => whnf) | (refine And.intro (by omega) (And.intro rfl ?_); conv => whnf) | (refine And.intro rfl ?_; conv => whnf) | (refine And.intro (fun _ => ⟨by omega, by omega⟩) ?_; conv => whnf) | (refine And.intro (fun _ => by omega) (And.intro rfl ?_); conv => whnf) | (refine And.intro ⟨(by first | omega | (simp; omega)), (by first | omega | (simp; omega))⟩ ?_; conv => whnf) | (refine Exists.intro _ (And.intro rfl (And.intro (by first | omega | (simp; omega)) (And.intro ⟨rfl, rfl, rfl, rfl, rfl⟩ ?_))); conv => whnf) | (refine And.intro ⟨rfl, rfl⟩ (And.intro (by first | omega | (simp; omega)) ?_); conv => whnf) | (refine Exists.intro _ (And.intro rfl ?_); conv => whnf) | (refine And.intro (fun _ => ?_) (fun h => absurd h (by decide)); conv => whnf) | (refine And.intro (fun h => absurd h (by decide)) (fun _ => ?_); conv => whnf) | (refine .eff (by first | exact cxOk _ _ | exact cxPOk _ _ _) ?_; conv => whnf))
      rfl
    | true =>
      rw [b2] at f2
      have hwo := valOk hw (few_one b2)
      have k1 := kind_ok v hv.kind
      have k2 := kind_ok w hw.kind
      refine .eff (by first | exact cxOk _ _ | exact cxPOk _ _ _) ?_
      conv => whnf
      refine .one _ _ _ (fun _ => f1) (by repeat (first | exact .nil | (apply BorL.cons; first | exact lS rfl | exact lR rfl | exact lM rfl rfl | exact lL rfl | exact lX rfl | exact lN | exact lNl | exact lSm rfl | exact lIm rfl | exact lP rfl | exact lQ rfl | exact lB rfl rfl rfl))) (by first | exact .inl rfl | exact .inr (by repeat (first | exact flats_nil | refine flats_cons (by first | exact flat_val _ rfl | exact flat_row (fun _ => rfl) | exact flat_lst (fun _ => rfl)) ?_))) (by first | exact .inl rfl | exact .inr rfl) ?_
      conv => whnf
      repeat (first | (refine And.intro ⟨by omega, by omega⟩ ?_; conv => whnf) | (refine And.intro (by omega) (And.intro rfl ?_); conv => whnf) | (refine And.intro rfl ?_; conv => whnf) | (refine And.intro (fun _ => ⟨by omega, by omega⟩) ?_; conv => whnf) | (refine And.intro (fun _ => by omega) (And.intro rfl ?_); conv => whnf) | (refine And.intro ⟨(by first | omega | (simp; omega)), (by first | omega | (simp; omega))⟩ ?_; conv => whnf) | (refine Exists.intro _ (And.intro rfl (And.intro (by first | omega | (simp; omega)) (And.intro ⟨rfl, rfl, rfl, rfl, rfl⟩ ?_))); conv => whnf) | (refine And.intro ⟨rfl, rfl⟩ (And.intro (by first | omega | (simp; omega)) ?_); conv => whnf) | (refine Exists.intro _ (And.intro rfl ?_); conv => whnf) | (refine And.intro (fun _ => ?_) (fun h => absurd h (by decide)); conv => whnf) | (refine And.intro (fun h => absurd h (by decide)) (fun _ => ?_); conv => whnf) | (refine .eff (by first | exact cxOk _ _ | exact cxPOk _ _ _) ?_; conv => whnf))
      refine .one _ _ _ (fun _ => f2) (by repeat (first | exact .nil | (apply BorL.cons; first | exact lS rfl | exact lR rfl | exact lM rfl rfl | exact lL rfl | exact lX rfl | exact lN | exact lNl | exact lSm rfl | exact lIm rfl | exact lP rfl | exact lQ rfl | exact lB rfl rfl rfl))) (by first | exact .inl rfl | exact .inr (by repeat (first | exact flats_nil | refine flats_cons (by first | exact flat_val _ rfl | exact flat_row (fun _ => rfl) | exact flat_lst (fun _ => rfl)) ?_))) (by first | exact .inl rfl | exact .inr rfl) ?_
      conv => whnf
      repeat (first | (refine And.intro ⟨by omega, by omega⟩ ?_; conv => whnf) | (refine And.intro (by omega) (And.intro rfl ?_); conv => whnf) | (refine And.intro rfl ?_; conv => whnf) | (refine And.intro (fun _ => ⟨by omega, by omega⟩) ?_; conv => whnf) | (refine And.intro (fun _ => by omega) (And.intro rfl ?_); conv => whnf) | (refine And.intro ⟨(by first | omega | (simp; omega)), (by first | omega | (simp; omega))⟩ ?_; conv => whnf) | (refine Exists.intro _ (And.intro rfl (And.intro (by first | omega | (simp; omega)) (And.intro ⟨rfl, rfl, rfl, rfl, rfl⟩ ?_))); conv => whnf) | (refine And.intro ⟨rfl, rfl⟩ (And.intro (by first | omega | (simp; omega)) ?_); conv => whnf) | (refine Exists.intro _ (And.intro rfl ?_); conv => whnf) | (refine And.intro (fun _ => ?_) (fun h => absurd h (by decide)); conv => whnf) | (refine And.intro (fun h => absurd h (by decide)) (fun _ => ?_); conv => whnf) | (refine .eff (by first | exact cxOk _ _ | exact cxPOk _ _ _) ?_; conv => whnf))
      refine .one _ _ _ (fun _ => k1) (by repeat (first | exact .nil | (apply BorL.cons; first | exact lS rfl | exact lR rfl | exact lM rfl rfl | exact lL rfl | exact lX rfl | exact lN | exact lNl | exact lSm rfl | exact lIm rfl | exact lP rfl | exact lQ rfl | exact lB rfl rfl rfl))) (by first | exact .inl rfl | exact .inr (by repeat (first | exact flats_nil | refine flats_cons (by first | exact flat_val _ rfl | exact flat_row (fun _ => rfl) | exact flat_lst (fun _ => rfl)) ?_))) (by first | exact .inl rfl | exact .inr rfl) ?_
      conv => whnf
      repeat (first | (refine And.intro ⟨by omega, by omega⟩ ?_; conv => whnf) | (refine And.intro (by omega) (And.intro rfl ?_); conv => whnf) | (refine And.intro rfl ?_; conv => whnf) | (refine And.intro (fun _ => ⟨by omega, by omega⟩) ?_; conv => whnf) | (refine And.intro (fun _ => by omega) (And.intro rfl ?_); conv => whnf) | (refine And.intro ⟨(by first | omega | (simp; omega)), (by first | omega | (simp; omega))⟩ ?_; conv => whnf) | (refine Exists.intro _ (And.intro rfl (And.intro (by first | omega | (simp; omega)) (And.intro ⟨rfl, rfl, rfl, rfl, rfl⟩ ?_))); conv => whnf) | (refine And.intro ⟨rfl, rfl⟩ (And.intro (by first | omega | (simp; omega)) ?_); conv => whnf) | (refine Exists.intro _ (And.intro rfl ?_); conv => whnf) | (refine And.intro (fun _ => ?_) (fun h => absurd h (by decide)); conv => whnf) | (refine And.intro (fun h => absurd h (by decide)) (fun _ => ?_); conv => whnf) | (refine .eff (by first | exact cxOk _ _ | exact cxPOk _ _ _) ?_; conv => whnf))
      refine .one _ _ _ (fun _ => k2) (by repeat (first | exact .nil | (apply BorL.cons; first | exact lS rfl | exact lR rfl | exact lM rfl rfl | exact lL rfl | exact lX rfl | exact lN | exact lNl | exact lSm rfl | exact lIm rfl | exact lP rfl | exact lQ rfl | exact lB rfl rfl rfl))) (by first | exact .inl rfl | exact .inr (by repeat (first | exact flats_nil | refine flats_cons (by first | exact flat_val _ rfl | exact flat_row (fun _ => rfl) | exact flat_lst (fun _ => rfl)) ?_))) (by first | exact .inl rfl | exact .inr rfl) ?_
      conv => whnf
      repeat (first | (refine And.intro ⟨by omega, by omega⟩ ?_; conv => whnf) | (refine And.intro (by omega) (And.intro rfl ?_); conv => whnf) | (refine And.intro rfl ?_; conv => whnf) | (refine And.intro (fun _ => ⟨by omega, by omega⟩) ?_; conv => whnf) | (refine And.intro (fun _ => by omega) (And.intro rfl ?_); conv => whnf) | (refine And.intro ⟨(by first | omega | (simp; omega)), (by first | omega | (simp; omega))⟩ ?_; conv => whnf) | (refine Exists.intro _ (And.intro rfl (And.intro (by first | omega | (simp; omega)) (And.intro ⟨rfl, rfl, rfl, rfl, rfl⟩ ?_))); conv => whnf) | (refine And.intro ⟨rfl, rfl⟩ (And.intro (by first | omega | (simp; omega)) ?_); conv => whnf) | (refine Exists.intro _ (And.intro rfl ?_); conv => whnf) | (refine And.intro (fun _ => ?_) (fun h => absurd h (by decide)); conv => whnf) | (refine And.intro (fun h => absurd h (by decide)) (fun _ => ?_); conv => whnf) | (refine .eff (by first | exact cxOk _ _ | exact cxPOk _ _ _) ?_; conv => whnf))
      refine ⟨fun hk => ?_, fun hk => ?_⟩
      · conv => whnf
        rfl
      have hk : kindZ v.kind = kindZ w.kind := by simpa using hk
      have hwv := write_ok v hvo
      have hww := write_ok w hwo
      have hlen := write_short (few_one b1) hv
      have hpre := fun r => write_prefix hvo hwo hk (r := r)
      have heq := equalQ_back w hwo []
      rw [List.append_nil] at heq
      generalize writeS v = s at *
      generalize writeS w = t at *
      have hop := open_ok s
      conv => whnf
      refine .one _ _ _ (fun _ => hwv) (by repeat (first | exact .nil | (apply BorL.cons; first | exact lS rfl | exact lR rfl | exact lM rfl rfl | exact lL rfl | exact lX rfl | exact lN | exact lNl | exact lSm rfl | exact lIm rfl | exact lP rfl | exact lQ rfl | exact lB rfl rfl rfl))) (by first | exact .inl rfl | exact .inr (by repeat (first | exact flats_nil | refine flats_cons (by first | exact flat_val _ rfl | exact flat_row (fun _ => rfl) | exact flat_lst (fun _ => rfl)) ?_))) (by first | exact .inl rfl | exact .inr rfl) ?_
      conv => whnf
      repeat (first | (refine And.intro ⟨by omega, by omega⟩ ?_; conv => whnf) | (refine And.intro (by omega) (And.intro rfl ?_); conv => whnf) | (refine And.intro rfl ?_; conv => whnf) | (refine And.intro (fun _ => ⟨by omega, by omega⟩) ?_; conv => whnf) | (refine And.intro (fun _ => by omega) (And.intro rfl ?_); conv => whnf) | (refine And.intro ⟨(by first | omega | (simp; omega)), (by first | omega | (simp; omega))⟩ ?_; conv => whnf) | (refine Exists.intro _ (And.intro rfl (And.intro (by first | omega | (simp; omega)) (And.intro ⟨rfl, rfl, rfl, rfl, rfl⟩ ?_))); conv => whnf) | (refine And.intro ⟨rfl, rfl⟩ (And.intro (by first | omega | (simp; omega)) ?_); conv => whnf) | (refine Exists.intro _ (And.intro rfl ?_); conv => whnf) | (refine And.intro (fun _ => ?_) (fun h => absurd h (by decide)); conv => whnf) | (refine And.intro (fun h => absurd h (by decide)) (fun _ => ?_); conv => whnf) | (refine .quiet (by kernel_rfl) ?_; conv => whnf))
      refine .one _ _ _ (fun _ => hww) (by repeat (first | exact .nil | (apply BorL.cons; first | exact lS rfl | exact lR rfl | exact lM rfl rfl | exact lL rfl | exact lX rfl | exact lN | exact lNl | exact lSm rfl | exact lIm rfl | exact lP rfl | exact lQ rfl | exact lB rfl rfl rfl))) (by first | exact .inl rfl | exact .inr (by repeat (first | exact flats_nil | refine flats_cons (by first | exact flat_val _ rfl | exact flat_row (fun _ => rfl) | exact flat_lst (fun _ => rfl)) ?_))) (by first | exact .inl rfl | exact .inr rfl) ?_
      conv => whnf
      repeat (first | (refine And.intro ⟨by omega, by omega⟩ ?_; conv => whnf) | (refine And.intro (by omega) (And.intro rfl ?_); conv => whnf) | (refine And.intro rfl ?_; conv => whnf) | (refine And.intro (fun _ => ⟨by omega, by omega⟩) ?_; conv => whnf) | (refine And.intro (fun _ => by omega) (And.intro rfl ?_); conv => whnf) | (refine And.intro ⟨(by first | omega | (simp; omega)), (by first | omega | (simp; omega))⟩ ?_; conv => whnf) | (refine Exists.intro _ (And.intro rfl (And.intro (by first | omega | (simp; omega)) (And.intro ⟨rfl, rfl, rfl, rfl, rfl⟩ ?_))); conv => whnf) | (refine And.intro ⟨rfl, rfl⟩ (And.intro (by first | omega | (simp; omega)) ?_); conv => whnf) | (refine Exists.intro _ (And.intro rfl ?_); conv => whnf) | (refine And.intro (fun _ => ?_) (fun h => absurd h (by decide)); conv => whnf) | (refine And.intro (fun h => absurd h (by decide)) (fun _ => ?_); conv => whnf) | (refine .quiet (by kernel_rfl) ?_; conv => whnf))
      refine ⟨fun hp => ?_, fun hp => ?_⟩
      · conv => whnf
        rfl
      replace hp : (decide ((t.length : Int) < s.length) || !decide (t.take (min (s.length : Int) t.length).toNat = s)) = false := hp
      simp only [Bool.or_eq_false_iff, decide_eq_false_iff_not, Bool.not_eq_false', decide_eq_true_eq] at hp
      obtain ⟨hp1, hp2⟩ := hp
      have hmin : (min (s.length : Int) t.length).toNat = s.length := by omega
      rw [hmin] at hp2
      have hst : s = t := hpre (t.drop s.length) (by
        conv => lhs; lhs; rw [← hp2]
        exact List.take_append_drop _ _)
      subst hst
      have he := equal_ok w ⟨s, false⟩ hwo (by show s.length ≤ _; omega)
      rw [heq] at he
      conv => whnf
      refine .one _ _ _ (fun _ => hop) (by repeat (first | exact .nil | (apply BorL.cons; first | exact lS rfl | exact lR rfl | exact lM rfl rfl | exact lL rfl | exact lX rfl | exact lN | exact lNl | exact lSm rfl | exact lIm rfl | exact lP rfl | exact lQ rfl | exact lB rfl rfl rfl))) (by first | exact .inl rfl | exact .inr (by repeat (first | exact flats_nil | refine flats_cons (by first | exact flat_val _ rfl | exact flat_row (fun _ => rfl) | exact flat_lst (fun _ => rfl)) ?_))) (by first | exact .inl rfl | exact .inr rfl) ?_
      conv => whnf
      repeat (first | (refine And.intro ⟨by omega, by omega⟩ ?_; conv => whnf) | (refine And.intro (by omega) (And.intro rfl ?_); conv => whnf) | (refine And.intro rfl ?_; conv => whnf) | (refine And.intro (fun _ => ⟨by omega, by omega⟩) ?_; conv => whnf) | (refine And.intro (fun _ => by omega) (And.intro rfl ?_); conv => whnf) | (refine And.intro ⟨(by first | omega | (simp; omega)), (by first | omega | (simp; omega))⟩ ?_; conv => whnf) | (refine Exists.intro _ (And.intro rfl (And.intro (by first | omega | (simp; omega)) (And.intro ⟨rfl, rfl, rfl, rfl, rfl⟩ ?_))); conv => whnf) | (refine And.intro ⟨rfl, rfl⟩ (And.intro (by first | omega | (simp; omega)) ?_); conv => whnf) | (refine Exists.intro _ (And.intro rfl ?_); conv => whnf) | (refine And.intro (fun _ => ?_) (fun h => absurd h (by decide)); conv => whnf) | (refine And.intro (fun h => absurd h (by decide)) (fun _ => ?_); conv => whnf) | (refine .quiet (by kernel_rfl) ?_; conv => whnf))
      rw [decide_eq_true (rfl : s = s)]
      refine .raw _ _ rfl (fun h => by cases h) (callio_sem (he) [4] _ rfl rfl ⟨rfl, trivial⟩ (by repeat (first | exact .nil | (apply BorL.cons; first | exact .map _ _ rfl | exact .ptr _ _ _ rfl | exact .own _ _ rfl | exact .fnp _ _ _ _ rfl | (apply BorIO.lend; first | exact lS rfl | exact lR rfl | exact lM rfl rfl | exact lL rfl | exact lX rfl | exact lN | exact lNl | exact lSm rfl | exact lIm rfl | exact lP rfl | exact lQ rfl | exact lB rfl rfl rfl)))) rfl (by first | exact .inl rfl | exact .inr (fun b rs h => by obtain ⟨rfl, rfl⟩ := h; exact ⟨by repeat (first | exact flats_nil | refine flats_cons (by first | exact flat_val _ rfl | exact flat_row (fun _ => rfl) | exact flat_lst (fun _ => rfl)) ?_), by repeat (first | exact flats0 | refine flats1 (by first | exact flatB_row (fun _ => rfl) | exact flatB_lst (fun _ => rfl) | exact flatB_smap (fun _ => rfl) | exact flatB_imap (fun _ => rfl) | exact flatB_cells rfl) ?_)⟩))) ?_
      rintro r ⟨b', rs, ⟨rfl, rfl⟩, rfl⟩
      refine ⟨tn_ge _ _, ?_⟩
      conv => whnf
      rfl

end Go.Proofs.YthepodkgphnibaaDoor

namespace Go.Proofs.YthepodkgphnibaaDoor
open Go.Own
set_option maxHeartbeats 2000000
set_option maxRecDepth 100000

def partsOf (l : List Val) (k : Nat) : List (List UInt8) := (l.take k).map writeS
theorem partsOf_succ {l : List Val} {k : Nat} (h : k < l.length) : partsOf l (k + 1) = partsOf l k ++ [writeS (l.getD k v0)] := by
  unfold partsOf
  rw [take_getD (d := v0) h, List.map_append]
  rfl
theorem partsOf_len {l : List Val} {k : Nat} (h : k ≤ l.length) : (partsOf l k).length = k := by
  unfold partsOf
  rw [List.length_map, List.length_take]
  omega
theorem partsOf_get {l : List Val} {k : Nat} (h : k < l.length) : (partsOf l l.length).getD k [] = writeS (l.getD k v0) := by
  unfold partsOf
  rw [List.take_length, List.getD_eq_getElem?_getD, List.getElem?_map, List.getElem?_eq_getElem h, List.getD_eq_getElem?_getD, List.getElem?_eq_getElem h]
  rfl

theorem items_some {T : Type} {one : RS → T × RS} {q : RS} (h : (itemsQ one q).2.bad = false) : ∃ l, (itemsQ one q).1 = some l := by
  unfold itemsQ at h ⊢
  simp only at h ⊢
  split at h
  · simp only at h
    refine ⟨(stK one (numQ 91 0 q).2 (numQ 91 0 q).1.toNat).2, ?_⟩
    show (if (stK one (numQ 91 0 q).2 (numQ 91 0 q).1.toNat).1.bad = true then none else some (stK one (numQ 91 0 q).2 (numQ 91 0 q).1.toNat).2) = _
    rw [h, if_neg (by simp)]
  · cases h
theorem law_nests (l : List Val) (hl : l.length ≤ 9223372036854775807) (hin : ∀ v ∈ l, ValIn v) : APureV Tryd.prog 6 [encVs l] (.bool true) := by
  have f1 := few_ok l hl
  refine apure_of (C := cx 86 [0, 2, 3, 4, 5, 6, 7, 8, 9, 10, 14, 19, 35, 45, 57, 61, 84]) (cxOk _ _) Tryd.func6 rfl (by decide) rfl (by exact Nat.le_of_ble_eq_true rfl) (by decide) ?_
  conv => whnf
  refine .one _ _ _ (fun _ => small_ok) (by repeat (first | exact .nil | (apply BorL.cons; first | exact lS rfl | exact lR rfl | exact lM rfl rfl | exact lL rfl | exact lX rfl | exact lN | exact lNl | exact lSm rfl | exact lIm rfl | exact lP rfl | exact lQ rfl | exact lB rfl rfl rfl))) (by first | exact .inl rfl | exact .inr (by repeat (first | exact flats_nil | refine flats_cons (by first | exact flat_val _ rfl | exact flat_row (fun _ => rfl) | exact flat_lst (fun _ => rfl)) ?_))) (by first | exact .inl rfl | exact .inr rfl) ?_
  conv => whnf
  refine .one _ _ _ (fun _ => f1) (by repeat (first | exact .nil | (apply BorL.cons; first | exact lS rfl | exact lR rfl | exact lM rfl rfl | exact lL rfl | exact lX rfl | exact lN | exact lNl | exact lSm rfl | exact lIm rfl | exact lP rfl | exact lQ rfl | exact lB rfl rfl rfl))) (by first | exact .inl rfl | exact .inr (by repeat (first | exact flats_nil | refine flats_cons (by first | exact flat_val _ rfl | exact flat_row (fun _ => rfl) | exact flat_lst (fun _ => rfl)) ?_))) (by first | exact .inl rfl | exact .inr rfl) ?_
  conv => whnf
  repeat (first | (refine And.intro ⟨by omega, by omega⟩ ?_; conv => whnf) | (refine And.intro (by omega) (And.intro rfl ?_); conv => whnf) | (refine And.intro rfl ?_; conv => whnf) | (refine And.intro (fun _ => ⟨by omega, by omega⟩) ?_; conv => whnf) | (refine And.intro (fun _ => by omega) (And.intro rfl ?_); conv => whnf) | (refine And.intro ⟨(by first | omega | (simp; omega)), (by first | omega | (simp; omega))⟩ ?_; conv => whnf) | (refine Exists.intro _ (And.intro rfl (And.intro (by first | omega | (simp; omega)) (And.intro ⟨rfl, rfl, rfl, rfl, rfl⟩ ?_))); conv => whnf) | (refine And.intro ⟨rfl, rfl⟩ (And.intro (by first | omega | (simp; omega)) ?_); conv => whnf) | (refine Exists.intro _ (And.intro rfl ?_); conv => whnf) | (refine And.intro (fun _ => ?_) (fun h => absurd h (by decide)); conv => whnf) | (refine And.intro (fun h => absurd h (by decide)) (fun _ => ?_); conv => whnf) | (refine .quiet (by kernel_rfl) ?_; conv => whnf))
  refine ⟨fun hf => ?_, fun hf => ?_⟩
  · conv => whnf
    rfl
  have hf : Few l := few_of (by simpa using hf)
  have hn := hf.len
  have hget : ∀ i, i < l.length → ValIn (l.getD i v0) := fun i hi => by
    rw [List.getD_eq_getElem?_getD, List.getElem?_eq_getElem hi]
    exact hin _ (List.getElem_mem hi)
  have hok : ∀ i, i < l.length → ValOk (l.getD i v0) := fun i hi => valOk (hget i hi) (hf.each i hi)
  have hsh : ∀ i, i < l.length → (writeS (l.getD i v0)).length ≤ 200000 := fun i hi => write_short (hf.each i hi) (hget i hi)
  conv => whnf
  refine loop_up (cxOk _ _) l.length (fun _ => True) (fun i => ⟨[(0, encVs l), (3, .bool true), (4, .own 0), (5, .int .i64 ((i : Nat) : Int))], [(0, .row 9 1 encS [] (partsOf l i))], 1⟩) trivial ((wk_of [(0, .nil)] rfl ⟨.base (.tree _ _ rfl rfl), .base (.tree _ _ rfl rfl), (by first | exact .base (.own _ _ rfl) | exact .base (.nilown _ rfl) | exact .base (.trunc _ _ _ rfl)), .base (.tree _ _ rfl rfl), trivial⟩ ⟨⟨_, rfl, (by first | exact .row _ _ _ _ _ _ _ rfl rfl | exact .lstrow _ _ _ _ _ _ _ rfl rfl | exact .nilrow _ _ _ _ _ rfl | exact .truncrow _ _ _ _ _ _ _ _ rfl (by omega) rfl)⟩, trivial⟩)) ?_
  intro i hi _
  have hei : (i : Int).toNat = i := Int.toNat_natCast i
  have hpl := partsOf_len hi
  conv => whnf
  refine ⟨fun hd => ?_, fun hd => ?_⟩
  · have hil : i < l.length := by
      have := of_decide_eq_true hd
      omega
    have hw := write_ok _ (hok i hil)
    have hps := partsOf_succ hil
    conv => whnf
    repeat (first | (refine And.intro ⟨by omega, by omega⟩ ?_; conv => whnf) | (refine And.intro (by omega) (And.intro rfl ?_); conv => whnf) | (refine And.intro rfl ?_; conv => whnf) | (refine And.intro (fun _ => ⟨by omega, by omega⟩) ?_; conv => whnf) | (refine And.intro (fun _ => by omega) (And.intro rfl ?_); conv => whnf) | (refine And.intro ⟨(by first | omega | (simp; omega)), (by first | omega | (simp; omega))⟩ ?_; conv => whnf) | (refine Exists.intro _ (And.intro rfl (And.intro (by first | omega | (simp; omega)) (And.intro ⟨rfl, rfl, rfl, rfl, rfl⟩ ?_))); conv => whnf) | (refine And.intro ⟨rfl, rfl⟩ (And.intro (by first | omega | (simp; omega)) ?_); conv => whnf) | (refine Exists.intro _ (And.intro rfl ?_); conv => whnf) | (refine And.intro (fun _ => ?_) (fun h => absurd h (by decide)); conv => whnf) | (refine And.intro (fun h => absurd h (by decide)) (fun _ => ?_); conv => whnf) | (refine .quiet (by kernel_rfl) ?_; conv => whnf))
    rw [hei]
    refine .one _ _ _ (fun _ => hw) (by repeat (first | exact .nil | (apply BorL.cons; first | exact lS rfl | exact lR rfl | exact lM rfl rfl | exact lL rfl | exact lX rfl | exact lN | exact lNl | exact lSm rfl | exact lIm rfl | exact lP rfl | exact lQ rfl | exact lB rfl rfl rfl))) (by first | exact .inl rfl | exact .inr (by repeat (first | exact flats_nil | refine flats_cons (by first | exact flat_val _ rfl | exact flat_row (fun _ => rfl) | exact flat_lst (fun _ => rfl)) ?_))) (by first | exact .inl rfl | exact .inr rfl) ?_
    conv => whnf
    repeat (first | (refine And.intro ⟨by omega, by omega⟩ ?_; conv => whnf) | (refine And.intro (by omega) (And.intro rfl ?_); conv => whnf) | (refine And.intro rfl ?_; conv => whnf) | (refine And.intro (fun _ => ⟨by omega, by omega⟩) ?_; conv => whnf) | (refine And.intro (fun _ => by omega) (And.intro rfl ?_); conv => whnf) | (refine And.intro ⟨(by first | omega | (simp; omega)), (by first | omega | (simp; omega))⟩ ?_; conv => whnf) | (refine Exists.intro _ (And.intro rfl (And.intro (by first | omega | (simp; omega)) (And.intro ⟨rfl, rfl, rfl, rfl, rfl⟩ ?_))); conv => whnf) | (refine And.intro ⟨rfl, rfl⟩ (And.intro (by first | omega | (simp; omega)) ?_); conv => whnf) | (refine Exists.intro _ (And.intro rfl ?_); conv => whnf) | (refine And.intro (fun _ => ?_) (fun h => absurd h (by decide)); conv => whnf) | (refine And.intro (fun h => absurd h (by decide)) (fun _ => ?_); conv => whnf) | (refine .quiet (by kernel_rfl) ?_; conv => whnf))
    refine And.intro ⟨rfl, rfl⟩ (And.intro (show ((partsOf l i).length + 1) * 16 ≤ 140737488355328 by omega) ?_)
    conv => whnf
    refine ⟨writeS (l.getD i v0), rfl, ?_⟩
    conv => whnf
    repeat (first | (refine And.intro ⟨by omega, by omega⟩ ?_; conv => whnf) | (refine And.intro (by omega) (And.intro rfl ?_); conv => whnf) | (refine And.intro rfl ?_; conv => whnf) | (refine And.intro (fun _ => ⟨by omega, by omega⟩) ?_; conv => whnf) | (refine And.intro (fun _ => by omega) (And.intro rfl ?_); conv => whnf) | (refine And.intro ⟨(by first | omega | (simp; omega)), (by first | omega | (simp; omega))⟩ ?_; conv => whnf) | (refine Exists.intro _ (And.intro rfl (And.intro (by first | omega | (simp; omega)) (And.intro ⟨rfl, rfl, rfl, rfl, rfl⟩ ?_))); conv => whnf) | (refine And.intro ⟨rfl, rfl⟩ (And.intro (by first | omega | (simp; omega)) ?_); conv => whnf) | (refine Exists.intro _ (And.intro rfl ?_); conv => whnf) | (refine And.intro (fun _ => ?_) (fun h => absurd h (by decide)); conv => whnf) | (refine And.intro (fun h => absurd h (by decide)) (fun _ => ?_); conv => whnf) | (refine .quiet (by kernel_rfl) ?_; conv => whnf))
    refine up hil trivial ((wk_of [(0, .id 2)] rfl ⟨.base (.tree _ _ rfl rfl), .base (.tree _ _ rfl rfl), (by first | exact .base (.own _ _ rfl) | exact .base (.nilown _ rfl) | exact .base (.trunc _ _ _ rfl)), .base (.tree _ _ rfl rfl), trivial⟩ ⟨⟨_, rfl, (by first | exact .row _ _ _ _ _ _ _ rfl (hps.symm) | exact .lstrow _ _ _ _ _ _ _ rfl (hps.symm) | exact .nilrow _ _ _ _ _ (hps.symm) | exact .truncrow _ _ _ _ _ _ _ _ rfl (by omega) (hps.symm))⟩, trivial⟩))
  · have hil : i = l.length := by
      have := of_decide_eq_false hd
      omega
    subst hil
    have hpa : ∀ x ∈ partsOf l l.length, x.length ≤ 200000 := fun x hx => by
      unfold partsOf at hx
      rw [List.take_length] at hx
      obtain ⟨v, hv, rfl⟩ := List.mem_map.1 hx
      obtain ⟨j, hj, rfl⟩ := List.mem_iff_getElem.1 hv
      have := hsh j hj
      rw [List.getD_eq_getElem?_getD, List.getElem?_eq_getElem hj] at this
      exact this
    have hpg := fun (i : Nat) (h : i < l.length) => partsOf_get h
    have hT : (listS textS (partsOf l l.length)).length ≤ 140737488355328 := by
      have := listS_le (f := textS) (M := 200022) (fun x hx => by
        have h4 := hpa x hx
        have := textS_len x (by omega)
        omega) (by omega : (partsOf l l.length).length ≤ 9223372036854775807)
      omega
    have ht := texts_ok (partsOf l l.length) (fun x hx => by have := hpa x hx; omega) (by omega) hT
    have hx := text_ok (listS textS (partsOf l l.length)) (by omega)
    have hb1 := codecT.back (listS textS (partsOf l l.length)) [] (by show _ ≤ _; omega)
    have hb2 := (codecL codecT).back (partsOf l l.length) [] ⟨fun x hx => by show _ ≤ _; have := hpa x hx; omega, by omega⟩
    rw [List.append_nil] at hb1 hb2
    generalize hY : partsOf l l.length = Y at *
    have hX' : (listS textS Y).length ≤ 100000000000 := by
      have := listS_le (f := textS) (M := 200022) (fun x hx => by
        have h4 := hpa x hx
        have := textS_len x (by omega)
        omega) (by omega : Y.length ≤ 9223372036854775807)
      omega
    have htl := textS_len (listS textS Y) (by omega)
    have hr1 := rtext_ok ⟨textS (listS textS Y), false⟩ (by show (textS (listS textS Y)).length ≤ _; omega)
    rw [hb1] at hr1
    have hr2 := rtexts ⟨listS textS Y, false⟩ (by show (listS textS Y).length ≤ _; omega)
    unfold listQ at hb2
    simp only [Prod.mk.injEq] at hb2
    obtain ⟨Z, hZ⟩ := items_some (one := textQ) (q := ⟨listS textS Y, false⟩) (by rw [hb2.2])
    have hZY : Z = Y := by
      have := hb2.1
      rw [hZ] at this
      exact this
    subst hZY
    rw [hZ, hb2.2] at hr2
    replace hr2 : AIO Tryd.prog 27 [.ptr 0 0] [.cells 54 [.str (listS textS Z), .bool false]] (fun bs rs => bs = [.cells 54 [.str [], .bool false]] ∧ rs = [.new (.row 9 1 encS [] Z)]) := hr2
    clear hb1 hb2 hZ
    have ho1 := open_ok (textS (listS textS Z))
    have ho2 := open_ok (listS textS Z)
    generalize listS textS Z = X at *
    generalize textS X = XX at *
    conv => whnf
    refine .one _ _ _ (fun _ => ht) (by repeat (first | exact .nil | (apply BorL.cons; first | exact lS rfl | exact lR rfl | exact lM rfl rfl | exact lL rfl | exact lX rfl | exact lN | exact lNl | exact lSm rfl | exact lIm rfl | exact lP rfl | exact lQ rfl | exact lB rfl rfl rfl))) (by first | exact .inl rfl | exact .inr (by repeat (first | exact flats_nil | refine flats_cons (by first | exact flat_val _ rfl | exact flat_row (fun _ => rfl) | exact flat_lst (fun _ => rfl)) ?_))) (by first | exact .inl rfl | exact .inr rfl) ?_
    conv => whnf
    refine .one _ _ _ (fun _ => hx) (by repeat (first | exact .nil | (apply BorL.cons; first | exact lS rfl | exact lR rfl | exact lM rfl rfl | exact lL rfl | exact lX rfl | exact lN | exact lNl | exact lSm rfl | exact lIm rfl | exact lP rfl | exact lQ rfl | exact lB rfl rfl rfl))) (by first | exact .inl rfl | exact .inr (by repeat (first | exact flats_nil | refine flats_cons (by first | exact flat_val _ rfl | exact flat_row (fun _ => rfl) | exact flat_lst (fun _ => rfl)) ?_))) (by first | exact .inl rfl | exact .inr rfl) ?_
    conv => whnf
    refine .one _ _ _ (fun _ => ho1) (by repeat (first | exact .nil | (apply BorL.cons; first | exact lS rfl | exact lR rfl | exact lM rfl rfl | exact lL rfl | exact lX rfl | exact lN | exact lNl | exact lSm rfl | exact lIm rfl | exact lP rfl | exact lQ rfl | exact lB rfl rfl rfl))) (by first | exact .inl rfl | exact .inr (by repeat (first | exact flats_nil | refine flats_cons (by first | exact flat_val _ rfl | exact flat_row (fun _ => rfl) | exact flat_lst (fun _ => rfl)) ?_))) (by first | exact .inl rfl | exact .inr rfl) ?_
    conv => whnf
    repeat (first | (refine And.intro ⟨by omega, by omega⟩ ?_; conv => whnf) | (refine And.intro (by omega) (And.intro rfl ?_); conv => whnf) | (refine And.intro rfl ?_; conv => whnf) | (refine And.intro (fun _ => ⟨by omega, by omega⟩) ?_; conv => whnf) | (refine And.intro (fun _ => by omega) (And.intro rfl ?_); conv => whnf) | (refine And.intro ⟨(by first | omega | (simp; omega)), (by first | omega | (simp; omega))⟩ ?_; conv => whnf) | (refine Exists.intro _ (And.intro rfl (And.intro (by first | omega | (simp; omega)) (And.intro ⟨rfl, rfl, rfl, rfl, rfl⟩ ?_))); conv => whnf) | (refine And.intro ⟨rfl, rfl⟩ (And.intro (by first | omega | (simp; omega)) ?_); conv => whnf) | (refine Exists.intro _ (And.intro rfl ?_); conv => whnf) | (refine And.intro (fun _ => ?_) (fun h => absurd h (by decide)); conv => whnf) | (refine And.intro (fun h => absurd h (by decide)) (fun _ => ?_); conv => whnf) | (refine .quiet (by kernel_rfl) ?_; conv => whnf))
    refine .raw _ _ rfl (fun h => by cases h) (callio_sem (hr1) [1] _ rfl rfl ⟨rfl, trivial⟩ (by repeat (first | exact .nil | (apply BorL.cons; first | exact .map _ _ rfl | exact .ptr _ _ _ rfl | exact .own _ _ rfl | exact .fnp _ _ _ _ rfl | (apply BorIO.lend; first | exact lS rfl | exact lR rfl | exact lM rfl rfl | exact lL rfl | exact lX rfl | exact lN | exact lNl | exact lSm rfl | exact lIm rfl | exact lP rfl | exact lQ rfl | exact lB rfl rfl rfl)))) rfl (by first | exact .inl rfl | exact .inr (fun b rs h => by obtain ⟨rfl, rfl⟩ := h; exact ⟨by repeat (first | exact flats_nil | refine flats_cons (by first | exact flat_val _ rfl | exact flat_row (fun _ => rfl) | exact flat_lst (fun _ => rfl)) ?_), by repeat (first | exact flats0 | refine flats1 (by first | exact flatB_row (fun _ => rfl) | exact flatB_lst (fun _ => rfl) | exact flatB_smap (fun _ => rfl) | exact flatB_imap (fun _ => rfl) | exact flatB_cells rfl) ?_)⟩))) ?_
    rintro r ⟨b', rs, ⟨rfl, rfl⟩, rfl⟩
    refine ⟨tn_ge _ _, ?_⟩
    conv => whnf
    refine .one _ _ _ (fun _ => ho2) (by repeat (first | exact .nil | (apply BorL.cons; first | exact lS rfl | exact lR rfl | exact lM rfl rfl | exact lL rfl | exact lX rfl | exact lN | exact lNl | exact lSm rfl | exact lIm rfl | exact lP rfl | exact lQ rfl | exact lB rfl rfl rfl))) (by first | exact .inl rfl | exact .inr (by repeat (first | exact flats_nil | refine flats_cons (by first | exact flat_val _ rfl | exact flat_row (fun _ => rfl) | exact flat_lst (fun _ => rfl)) ?_))) (by first | exact .inl rfl | exact .inr rfl) ?_
    conv => whnf
    repeat (first | (refine And.intro ⟨by omega, by omega⟩ ?_; conv => whnf) | (refine And.intro (by omega) (And.intro rfl ?_); conv => whnf) | (refine And.intro rfl ?_; conv => whnf) | (refine And.intro (fun _ => ⟨by omega, by omega⟩) ?_; conv => whnf) | (refine And.intro (fun _ => by omega) (And.intro rfl ?_); conv => whnf) | (refine And.intro ⟨(by first | omega | (simp; omega)), (by first | omega | (simp; omega))⟩ ?_; conv => whnf) | (refine Exists.intro _ (And.intro rfl (And.intro (by first | omega | (simp; omega)) (And.intro ⟨rfl, rfl, rfl, rfl, rfl⟩ ?_))); conv => whnf) | (refine And.intro ⟨rfl, rfl⟩ (And.intro (by first | omega | (simp; omega)) ?_); conv => whnf) | (refine Exists.intro _ (And.intro rfl ?_); conv => whnf) | (refine And.intro (fun _ => ?_) (fun h => absurd h (by decide)); conv => whnf) | (refine And.intro (fun h => absurd h (by decide)) (fun _ => ?_); conv => whnf) | (refine .quiet (by kernel_rfl) ?_; conv => whnf))
    have hd1 := done_p [] false
    refine .one _ _ _ (fun _ => hd1) (by repeat (first | exact .nil | (apply BorL.cons; first | exact lS rfl | exact lR rfl | exact lM rfl rfl | exact lL rfl | exact lX rfl | exact lN | exact lNl | exact lSm rfl | exact lIm rfl | exact lP rfl | exact lQ rfl | exact lB rfl rfl rfl))) (by first | exact .inl rfl | exact .inr (by repeat (first | exact flats_nil | refine flats_cons (by first | exact flat_val _ rfl | exact flat_row (fun _ => rfl) | exact flat_lst (fun _ => rfl)) ?_))) (by first | exact .inl rfl | exact .inr rfl) ?_
    conv => whnf
    repeat (first | (refine And.intro ⟨by omega, by omega⟩ ?_; conv => whnf) | (refine And.intro (by omega) (And.intro rfl ?_); conv => whnf) | (refine And.intro rfl ?_; conv => whnf) | (refine And.intro (fun _ => ⟨by omega, by omega⟩) ?_; conv => whnf) | (refine And.intro (fun _ => by omega) (And.intro rfl ?_); conv => whnf) | (refine And.intro ⟨(by first | omega | (simp; omega)), (by first | omega | (simp; omega))⟩ ?_; conv => whnf) | (refine Exists.intro _ (And.intro rfl (And.intro (by first | omega | (simp; omega)) (And.intro ⟨rfl, rfl, rfl, rfl, rfl⟩ ?_))); conv => whnf) | (refine And.intro ⟨rfl, rfl⟩ (And.intro (by first | omega | (simp; omega)) ?_); conv => whnf) | (refine Exists.intro _ (And.intro rfl ?_); conv => whnf) | (refine And.intro (fun _ => ?_) (fun h => absurd h (by decide)); conv => whnf) | (refine And.intro (fun h => absurd h (by decide)) (fun _ => ?_); conv => whnf) | (refine .quiet (by kernel_rfl) ?_; conv => whnf))
    refine .raw _ _ rfl (fun h => by cases h) (callio_sem (hr2) [2] _ rfl rfl ⟨rfl, trivial⟩ (by repeat (first | exact .nil | (apply BorL.cons; first | exact .map _ _ rfl | exact .ptr _ _ _ rfl | exact .own _ _ rfl | exact .fnp _ _ _ _ rfl | (apply BorIO.lend; first | exact lS rfl | exact lR rfl | exact lM rfl rfl | exact lL rfl | exact lX rfl | exact lN | exact lNl | exact lSm rfl | exact lIm rfl | exact lP rfl | exact lQ rfl | exact lB rfl rfl rfl)))) rfl (by first | exact .inl rfl | exact .inr (fun b rs h => by obtain ⟨rfl, rfl⟩ := h; exact ⟨by repeat (first | exact flats_nil | refine flats_cons (by first | exact flat_val _ rfl | exact flat_row (fun _ => rfl) | exact flat_lst (fun _ => rfl)) ?_), by repeat (first | exact flats0 | refine flats1 (by first | exact flatB_row (fun _ => rfl) | exact flatB_lst (fun _ => rfl) | exact flatB_smap (fun _ => rfl) | exact flatB_imap (fun _ => rfl) | exact flatB_cells rfl) ?_)⟩))) ?_
    rintro r ⟨b', rs, ⟨rfl, rfl⟩, rfl⟩
    refine ⟨tn_ge _ _, ?_⟩
    conv => whnf
    repeat (first | (refine And.intro ⟨by omega, by omega⟩ ?_; conv => whnf) | (refine And.intro (by omega) (And.intro rfl ?_); conv => whnf) | (refine And.intro rfl ?_; conv => whnf) | (refine And.intro (fun _ => ⟨by omega, by omega⟩) ?_; conv => whnf) | (refine And.intro (fun _ => by omega) (And.intro rfl ?_); conv => whnf) | (refine And.intro ⟨(by first | omega | (simp; omega)), (by first | omega | (simp; omega))⟩ ?_; conv => whnf) | (refine Exists.intro _ (And.intro rfl (And.intro (by first | omega | (simp; omega)) (And.intro ⟨rfl, rfl, rfl, rfl, rfl⟩ ?_))); conv => whnf) | (refine And.intro ⟨rfl, rfl⟩ (And.intro (by first | omega | (simp; omega)) ?_); conv => whnf) | (refine Exists.intro _ (And.intro rfl ?_); conv => whnf) | (refine And.intro (fun _ => ?_) (fun h => absurd h (by decide)); conv => whnf) | (refine And.intro (fun h => absurd h (by decide)) (fun _ => ?_); conv => whnf) | (refine .quiet (by kernel_rfl) ?_; conv => whnf))
    refine .one _ _ _ (fun _ => hd1) (by repeat (first | exact .nil | (apply BorL.cons; first | exact lS rfl | exact lR rfl | exact lM rfl rfl | exact lL rfl | exact lX rfl | exact lN | exact lNl | exact lSm rfl | exact lIm rfl | exact lP rfl | exact lQ rfl | exact lB rfl rfl rfl))) (by first | exact .inl rfl | exact .inr (by repeat (first | exact flats_nil | refine flats_cons (by first | exact flat_val _ rfl | exact flat_row (fun _ => rfl) | exact flat_lst (fun _ => rfl)) ?_))) (by first | exact .inl rfl | exact .inr rfl) ?_
    conv => whnf
    have hlz : (Z.length : Int) = l.length := by omega
    rw [decide_eq_true hlz]
    conv => whnf
    repeat (first | (refine And.intro ⟨by omega, by omega⟩ ?_; conv => whnf) | (refine And.intro (by omega) (And.intro rfl ?_); conv => whnf) | (refine And.intro rfl ?_; conv => whnf) | (refine And.intro (fun _ => ⟨by omega, by omega⟩) ?_; conv => whnf) | (refine And.intro (fun _ => by omega) (And.intro rfl ?_); conv => whnf) | (refine And.intro ⟨(by first | omega | (simp; omega)), (by first | omega | (simp; omega))⟩ ?_; conv => whnf) | (refine Exists.intro _ (And.intro rfl (And.intro (by first | omega | (simp; omega)) (And.intro ⟨rfl, rfl, rfl, rfl, rfl⟩ ?_))); conv => whnf) | (refine And.intro ⟨rfl, rfl⟩ (And.intro (by first | omega | (simp; omega)) ?_); conv => whnf) | (refine Exists.intro _ (And.intro rfl ?_); conv => whnf) | (refine And.intro (fun _ => ?_) (fun h => absurd h (by decide)); conv => whnf) | (refine And.intro (fun h => absurd h (by decide)) (fun _ => ?_); conv => whnf) | (refine .quiet (by kernel_rfl) ?_; conv => whnf))
    refine loop_up (cxOk _ _) l.length (fun _ => True) (fun k => ⟨[(0, encVs l), (3, .bool true), (8, .own 0), (9, .int .i64 ((k : Nat) : Int))], [(0, .row 9 1 encS [] Z)], 1⟩) trivial ((wk_of [(0, .id 3)] rfl ⟨.base (.tree _ _ rfl rfl), .base (.tree _ _ rfl rfl), (by first | exact .base (.own _ _ rfl) | exact .base (.nilown _ rfl) | exact .base (.trunc _ _ _ rfl)), .base (.tree _ _ rfl rfl), trivial⟩ ⟨⟨_, rfl, (by first | exact .row _ _ _ _ _ _ _ rfl rfl | exact .lstrow _ _ _ _ _ _ _ rfl rfl | exact .nilrow _ _ _ _ _ rfl | exact .truncrow _ _ _ _ _ _ _ _ rfl (by omega) rfl)⟩, trivial⟩)) ?_
    intro k hk _
    have hek : (k : Int).toNat = k := Int.toNat_natCast k
    conv => whnf
    refine ⟨fun hd2 => ?_, fun hd2 => ?_⟩
    · have hkl : k < l.length := by
        have := of_decide_eq_true hd2
        omega
      have hv := hok k hkl
      have hsk := hsh k hkl
      have ho := open_ok (Z.getD k [])
      rw [hpg k hkl] at ho
      have heq := equalQ_back _ hv []
      rw [List.append_nil] at heq
      have he := equal_ok (l.getD k v0) ⟨writeS (l.getD k v0), false⟩ hv (by show (writeS (l.getD k v0)).length ≤ _; omega)
      rw [heq] at he
      conv => whnf
      repeat (first | (refine And.intro ⟨by omega, by omega⟩ ?_; conv => whnf) | (refine And.intro (by omega) (And.intro rfl ?_); conv => whnf) | (refine And.intro rfl ?_; conv => whnf) | (refine And.intro (fun _ => ⟨by omega, by omega⟩) ?_; conv => whnf) | (refine And.intro (fun _ => by omega) (And.intro rfl ?_); conv => whnf) | (refine And.intro ⟨(by first | omega | (simp; omega)), (by first | omega | (simp; omega))⟩ ?_; conv => whnf) | (refine Exists.intro _ (And.intro rfl (And.intro (by first | omega | (simp; omega)) (And.intro ⟨rfl, rfl, rfl, rfl, rfl⟩ ?_))); conv => whnf) | (refine And.intro ⟨rfl, rfl⟩ (And.intro (by first | omega | (simp; omega)) ?_); conv => whnf) | (refine Exists.intro _ (And.intro rfl ?_); conv => whnf) | (refine And.intro (fun _ => ?_) (fun h => absurd h (by decide)); conv => whnf) | (refine And.intro (fun h => absurd h (by decide)) (fun _ => ?_); conv => whnf) | (refine .quiet (by kernel_rfl) ?_; conv => whnf))
      rw [hek, hpg k hkl]
      generalize writeS (l.getD k v0) = y at *
      refine .one _ _ _ (fun _ => ho) (by repeat (first | exact .nil | (apply BorL.cons; first | exact lS rfl | exact lR rfl | exact lM rfl rfl | exact lL rfl | exact lX rfl | exact lN | exact lNl | exact lSm rfl | exact lIm rfl | exact lP rfl | exact lQ rfl | exact lB rfl rfl rfl))) (by first | exact .inl rfl | exact .inr (by repeat (first | exact flats_nil | refine flats_cons (by first | exact flat_val _ rfl | exact flat_row (fun _ => rfl) | exact flat_lst (fun _ => rfl)) ?_))) (by first | exact .inl rfl | exact .inr rfl) ?_
      conv => whnf
      repeat (first | (refine And.intro ⟨by omega, by omega⟩ ?_; conv => whnf) | (refine And.intro (by omega) (And.intro rfl ?_); conv => whnf) | (refine And.intro rfl ?_; conv => whnf) | (refine And.intro (fun _ => ⟨by omega, by omega⟩) ?_; conv => whnf) | (refine And.intro (fun _ => by omega) (And.intro rfl ?_); conv => whnf) | (refine And.intro ⟨(by first | omega | (simp; omega)), (by first | omega | (simp; omega))⟩ ?_; conv => whnf) | (refine Exists.intro _ (And.intro rfl (And.intro (by first | omega | (simp; omega)) (And.intro ⟨rfl, rfl, rfl, rfl, rfl⟩ ?_))); conv => whnf) | (refine And.intro ⟨rfl, rfl⟩ (And.intro (by first | omega | (simp; omega)) ?_); conv => whnf) | (refine Exists.intro _ (And.intro rfl ?_); conv => whnf) | (refine And.intro (fun _ => ?_) (fun h => absurd h (by decide)); conv => whnf) | (refine And.intro (fun h => absurd h (by decide)) (fun _ => ?_); conv => whnf) | (refine .quiet (by kernel_rfl) ?_; conv => whnf))
      rw [hek]
      refine .raw _ _ rfl (fun h => by cases h) (callio_sem (he) [1] _ rfl rfl ⟨rfl, trivial⟩ (by repeat (first | exact .nil | (apply BorL.cons; first | exact .map _ _ rfl | exact .ptr _ _ _ rfl | exact .own _ _ rfl | exact .fnp _ _ _ _ rfl | (apply BorIO.lend; first | exact lS rfl | exact lR rfl | exact lM rfl rfl | exact lL rfl | exact lX rfl | exact lN | exact lNl | exact lSm rfl | exact lIm rfl | exact lP rfl | exact lQ rfl | exact lB rfl rfl rfl)))) rfl (by first | exact .inl rfl | exact .inr (fun b rs h => by obtain ⟨rfl, rfl⟩ := h; exact ⟨by repeat (first | exact flats_nil | refine flats_cons (by first | exact flat_val _ rfl | exact flat_row (fun _ => rfl) | exact flat_lst (fun _ => rfl)) ?_), by repeat (first | exact flats0 | refine flats1 (by first | exact flatB_row (fun _ => rfl) | exact flatB_lst (fun _ => rfl) | exact flatB_smap (fun _ => rfl) | exact flatB_imap (fun _ => rfl) | exact flatB_cells rfl) ?_)⟩))) ?_
      rintro r ⟨b', rs, ⟨rfl, rfl⟩, rfl⟩
      refine ⟨tn_ge _ _, ?_⟩
      conv => whnf
      repeat (first | (refine And.intro ⟨by omega, by omega⟩ ?_; conv => whnf) | (refine And.intro (by omega) (And.intro rfl ?_); conv => whnf) | (refine And.intro rfl ?_; conv => whnf) | (refine And.intro (fun _ => ⟨by omega, by omega⟩) ?_; conv => whnf) | (refine And.intro (fun _ => by omega) (And.intro rfl ?_); conv => whnf) | (refine And.intro ⟨(by first | omega | (simp; omega)), (by first | omega | (simp; omega))⟩ ?_; conv => whnf) | (refine Exists.intro _ (And.intro rfl (And.intro (by first | omega | (simp; omega)) (And.intro ⟨rfl, rfl, rfl, rfl, rfl⟩ ?_))); conv => whnf) | (refine And.intro ⟨rfl, rfl⟩ (And.intro (by first | omega | (simp; omega)) ?_); conv => whnf) | (refine Exists.intro _ (And.intro rfl ?_); conv => whnf) | (refine And.intro (fun _ => ?_) (fun h => absurd h (by decide)); conv => whnf) | (refine And.intro (fun h => absurd h (by decide)) (fun _ => ?_); conv => whnf) | (refine .quiet (by kernel_rfl) ?_; conv => whnf))
      refine .one _ _ _ (fun _ => hd1) (by repeat (first | exact .nil | (apply BorL.cons; first | exact lS rfl | exact lR rfl | exact lM rfl rfl | exact lL rfl | exact lX rfl | exact lN | exact lNl | exact lSm rfl | exact lIm rfl | exact lP rfl | exact lQ rfl | exact lB rfl rfl rfl))) (by first | exact .inl rfl | exact .inr (by repeat (first | exact flats_nil | refine flats_cons (by first | exact flat_val _ rfl | exact flat_row (fun _ => rfl) | exact flat_lst (fun _ => rfl)) ?_))) (by first | exact .inl rfl | exact .inr rfl) ?_
      conv => whnf
      repeat (first | (refine And.intro ⟨by omega, by omega⟩ ?_; conv => whnf) | (refine And.intro (by omega) (And.intro rfl ?_); conv => whnf) | (refine And.intro rfl ?_; conv => whnf) | (refine And.intro (fun _ => ⟨by omega, by omega⟩) ?_; conv => whnf) | (refine And.intro (fun _ => by omega) (And.intro rfl ?_); conv => whnf) | (refine And.intro ⟨(by first | omega | (simp; omega)), (by first | omega | (simp; omega))⟩ ?_; conv => whnf) | (refine Exists.intro _ (And.intro rfl (And.intro (by first | omega | (simp; omega)) (And.intro ⟨rfl, rfl, rfl, rfl, rfl⟩ ?_))); conv => whnf) | (refine And.intro ⟨rfl, rfl⟩ (And.intro (by first | omega | (simp; omega)) ?_); conv => whnf) | (refine Exists.intro _ (And.intro rfl ?_); conv => whnf) | (refine And.intro (fun _ => ?_) (fun h => absurd h (by decide)); conv => whnf) | (refine And.intro (fun h => absurd h (by decide)) (fun _ => ?_); conv => whnf) | (refine .quiet (by kernel_rfl) ?_; conv => whnf))
      refine up hkl trivial (wk_of [(0, .id 0)] rfl ⟨.base (.tree _ _ rfl rfl), .base (.tree _ _ rfl rfl), (by first | exact .base (.own _ _ rfl) | exact .base (.nilown _ rfl) | exact .base (.trunc _ _ _ rfl)), .base (.tree _ _ rfl rfl), trivial⟩ ⟨⟨_, rfl, (by first | exact .row _ _ _ _ _ _ _ rfl rfl | exact .lstrow _ _ _ _ _ _ _ rfl rfl | exact .nilrow _ _ _ _ _ rfl | exact .truncrow _ _ _ _ _ _ _ _ rfl (by omega) rfl)⟩, trivial⟩)
    · conv => whnf
      rfl

end Go.Proofs.YthepodkgphnibaaDoor

namespace Go.Proofs.YthepodkgphnibaaDoor
open Go.Own
set_option maxHeartbeats 2000000
set_option maxRecDepth 100000

def wr (l : List Val) (k : Nat) : List UInt8 := (l.take k).flatMap writeS
theorem wr_succ {l : List Val} {k : Nat} (h : k < l.length) : wr l (k + 1) = wr l k ++ writeS (l.getD k v0) := by
  unfold wr
  rw [take_getD (d := v0) h, List.flatMap_append]
  simp
theorem wr_le {l : List Val} (h : ∀ i, i < l.length → (writeS (l.getD i v0)).length ≤ 200000) : ∀ k, k ≤ l.length → (wr l k).length ≤ k * 200000
  | 0, _ => Nat.le_refl _
  | k + 1, hk => by
    rw [wr_succ (by omega), List.length_append]
    have h1 := wr_le h k (by omega)
    have h2 := h k (by omega)
    omega
def wd (l : List Val) (tail : List UInt8) (k : Nat) : List UInt8 := (l.drop k).flatMap writeS ++ tail
theorem wd_step {l : List Val} {tail : List UInt8} {k : Nat} (h : k < l.length) : wd l tail k = writeS (l.getD k v0) ++ wd l tail (k + 1) := by
  unfold wd
  rw [List.drop_eq_getElem_cons h, List.flatMap_cons, List.append_assoc, List.getD_eq_getElem?_getD, List.getElem?_eq_getElem h]
  rfl
theorem wd_zero (l : List Val) (tail : List UInt8) : wr l l.length ++ tail = wd l tail 0 := by
  unfold wd wr
  rw [List.take_length, List.drop_zero]
theorem wd_end (l : List Val) (tail : List UInt8) : wd l tail l.length = tail := by
  unfold wd
  rw [List.drop_length]
  rfl
theorem wd_le {l : List Val} {tail : List UInt8} (k : Nat) : (wd l tail k).length ≤ (wd l tail 0).length := by
  have h : l.flatMap writeS = (l.take k).flatMap writeS ++ (l.drop k).flatMap writeS := by rw [← List.flatMap_append, List.take_append_drop]
  unfold wd
  rw [List.drop_zero, h]
  simp only [List.length_append]
  omega

theorem law_back (l : List Val) (tail : List UInt8) (hl : l.length ≤ 9223372036854775807) (ht : tail.length ≤ 9223372036854775807) (hin : ∀ v ∈ l, ValIn v) : APureV Tryd.prog 8 [encVs l, .str tail] (.bool true) := by
  have f1 := few_ok l hl
  refine apure_of (C := cx 86 [0, 1, 4, 5, 6, 7, 8, 9, 10, 11, 20, 25, 40, 44, 53]) (cxOk _ _) Tryd.func8 rfl (by decide) rfl (by exact Nat.le_of_ble_eq_true rfl) (by decide) ?_
  conv => whnf
  refine .one _ _ _ (fun _ => small_ok) (by repeat (first | exact .nil | (apply BorL.cons; first | exact lS rfl | exact lR rfl | exact lM rfl rfl | exact lL rfl | exact lX rfl | exact lN | exact lNl | exact lSm rfl | exact lIm rfl | exact lP rfl | exact lQ rfl | exact lB rfl rfl rfl))) (by first | exact .inl rfl | exact .inr (by repeat (first | exact flats_nil | refine flats_cons (by first | exact flat_val _ rfl | exact flat_row (fun _ => rfl) | exact flat_lst (fun _ => rfl)) ?_))) (by first | exact .inl rfl | exact .inr rfl) ?_
  conv => whnf
  refine .one _ _ _ (fun _ => f1) (by repeat (first | exact .nil | (apply BorL.cons; first | exact lS rfl | exact lR rfl | exact lM rfl rfl | exact lL rfl | exact lX rfl | exact lN | exact lNl | exact lSm rfl | exact lIm rfl | exact lP rfl | exact lQ rfl | exact lB rfl rfl rfl))) (by first | exact .inl rfl | exact .inr (by repeat (first | exact flats_nil | refine flats_cons (by first | exact flat_val _ rfl | exact flat_row (fun _ => rfl) | exact flat_lst (fun _ => rfl)) ?_))) (by first | exact .inl rfl | exact .inr rfl) ?_
  conv => whnf
  repeat (first | (refine And.intro ⟨by omega, by omega⟩ ?_; conv => whnf) | (refine And.intro (by omega) (And.intro rfl ?_); conv => whnf) | (refine And.intro rfl ?_; conv => whnf) | (refine And.intro (fun _ => ⟨by omega, by omega⟩) ?_; conv => whnf) | (refine And.intro (fun _ => by omega) (And.intro rfl ?_); conv => whnf) | (refine And.intro ⟨(by first | omega | (simp; omega)), (by first | omega | (simp; omega))⟩ ?_; conv => whnf) | (refine Exists.intro _ (And.intro rfl (And.intro (by first | omega | (simp; omega)) (And.intro ⟨rfl, rfl, rfl, rfl, rfl⟩ ?_))); conv => whnf) | (refine And.intro ⟨rfl, rfl⟩ (And.intro (by first | omega | (simp; omega)) ?_); conv => whnf) | (refine Exists.intro _ (And.intro rfl ?_); conv => whnf) | (refine And.intro (fun _ => ?_) (fun h => absurd h (by decide)); conv => whnf) | (refine And.intro (fun h => absurd h (by decide)) (fun _ => ?_); conv => whnf) | (refine .quiet (by kernel_rfl) ?_; conv => whnf))
  refine ⟨fun hf => ?_, fun hf => ?_⟩
  · conv => whnf
    rfl
  replace hf : (!fewB l || decide (400 < (tail.length : Int))) = false := hf
  simp only [Bool.or_eq_false_iff, Bool.not_eq_false', decide_eq_false_iff_not] at hf
  obtain ⟨hf, ht4⟩ := hf
  replace hf : Few l := few_of hf
  have hn := hf.len
  have hget : ∀ i, i < l.length → ValIn (l.getD i v0) := fun i hi => by
    rw [List.getD_eq_getElem?_getD, List.getElem?_eq_getElem hi]
    exact hin _ (List.getElem_mem hi)
  have hok : ∀ i, i < l.length → ValOk (l.getD i v0) := fun i hi => valOk (hget i hi) (hf.each i hi)
  have hsh : ∀ i, i < l.length → (writeS (l.getD i v0)).length ≤ 200000 := fun i hi => write_short (hf.each i hi) (hget i hi)
  conv => whnf
  refine loop_up (cxOk _ _) l.length (fun _ => True) (fun i => ⟨[(0, encVs l), (1, .str tail), (5, .bool true), (6, .str (wr l i)), (7, .int .i64 ((i : Nat) : Int))], [], 0⟩) trivial ((wk_of [] rfl ⟨.base (.tree _ _ rfl rfl), .base (.tree _ _ rfl rfl), .base (.tree _ _ rfl rfl), .base (.tree _ _ rfl rfl), .base (.tree _ _ rfl rfl), trivial⟩ trivial)) ?_
  intro i hi _
  have hei : (i : Int).toNat = i := Int.toNat_natCast i
  have hwl := wr_le hsh i hi
  conv => whnf
  refine ⟨fun hd => ?_, fun hd => ?_⟩
  · have hil : i < l.length := by
      have := of_decide_eq_true hd
      omega
    have hw := write_ok _ (hok i hil)
    have hws := wr_succ hil
    have hsi := hsh i hil
    conv => whnf
    repeat (first | (refine And.intro ⟨by omega, by omega⟩ ?_; conv => whnf) | (refine And.intro (by omega) (And.intro rfl ?_); conv => whnf) | (refine And.intro rfl ?_; conv => whnf) | (refine And.intro (fun _ => ⟨by omega, by omega⟩) ?_; conv => whnf) | (refine And.intro (fun _ => by omega) (And.intro rfl ?_); conv => whnf) | (refine And.intro ⟨(by first | omega | (simp; omega)), (by first | omega | (simp; omega))⟩ ?_; conv => whnf) | (refine Exists.intro _ (And.intro rfl (And.intro (by first | omega | (simp; omega)) (And.intro ⟨rfl, rfl, rfl, rfl, rfl⟩ ?_))); conv => whnf) | (refine And.intro ⟨rfl, rfl⟩ (And.intro (by first | omega | (simp; omega)) ?_); conv => whnf) | (refine Exists.intro _ (And.intro rfl ?_); conv => whnf) | (refine And.intro (fun _ => ?_) (fun h => absurd h (by decide)); conv => whnf) | (refine And.intro (fun h => absurd h (by decide)) (fun _ => ?_); conv => whnf) | (refine .quiet (by kernel_rfl) ?_; conv => whnf))
    rw [hei]
    refine .one _ _ _ (fun _ => hw) (by repeat (first | exact .nil | (apply BorL.cons; first | exact lS rfl | exact lR rfl | exact lM rfl rfl | exact lL rfl | exact lX rfl | exact lN | exact lNl | exact lSm rfl | exact lIm rfl | exact lP rfl | exact lQ rfl | exact lB rfl rfl rfl))) (by first | exact .inl rfl | exact .inr (by repeat (first | exact flats_nil | refine flats_cons (by first | exact flat_val _ rfl | exact flat_row (fun _ => rfl) | exact flat_lst (fun _ => rfl)) ?_))) (by first | exact .inl rfl | exact .inr rfl) ?_
    conv => whnf
    repeat (first | (refine And.intro ⟨by omega, by omega⟩ ?_; conv => whnf) | (refine And.intro (by omega) (And.intro rfl ?_); conv => whnf) | (refine And.intro rfl ?_; conv => whnf) | (refine And.intro (fun _ => ⟨by omega, by omega⟩) ?_; conv => whnf) | (refine And.intro (fun _ => by omega) (And.intro rfl ?_); conv => whnf) | (refine And.intro ⟨(by first | omega | (simp; omega)), (by first | omega | (simp; omega))⟩ ?_; conv => whnf) | (refine Exists.intro _ (And.intro rfl (And.intro (by first | omega | (simp; omega)) (And.intro ⟨rfl, rfl, rfl, rfl, rfl⟩ ?_))); conv => whnf) | (refine And.intro ⟨rfl, rfl⟩ (And.intro (by first | omega | (simp; omega)) ?_); conv => whnf) | (refine Exists.intro _ (And.intro rfl ?_); conv => whnf) | (refine And.intro (fun _ => ?_) (fun h => absurd h (by decide)); conv => whnf) | (refine And.intro (fun h => absurd h (by decide)) (fun _ => ?_); conv => whnf) | (refine .quiet (by kernel_rfl) ?_; conv => whnf))
    refine And.intro (show (((wr l i).length + (writeS (l.getD i v0)).length : Nat) : Int) ≤ 9223372036854775807 by omega) ?_
    conv => whnf
    repeat (first | (refine And.intro ⟨by omega, by omega⟩ ?_; conv => whnf) | (refine And.intro (by omega) (And.intro rfl ?_); conv => whnf) | (refine And.intro rfl ?_; conv => whnf) | (refine And.intro (fun _ => ⟨by omega, by omega⟩) ?_; conv => whnf) | (refine And.intro (fun _ => by omega) (And.intro rfl ?_); conv => whnf) | (refine And.intro ⟨(by first | omega | (simp; omega)), (by first | omega | (simp; omega))⟩ ?_; conv => whnf) | (refine Exists.intro _ (And.intro rfl (And.intro (by first | omega | (simp; omega)) (And.intro ⟨rfl, rfl, rfl, rfl, rfl⟩ ?_))); conv => whnf) | (refine And.intro ⟨rfl, rfl⟩ (And.intro (by first | omega | (simp; omega)) ?_); conv => whnf) | (refine Exists.intro _ (And.intro rfl ?_); conv => whnf) | (refine And.intro (fun _ => ?_) (fun h => absurd h (by decide)); conv => whnf) | (refine And.intro (fun h => absurd h (by decide)) (fun _ => ?_); conv => whnf) | (refine .quiet (by kernel_rfl) ?_; conv => whnf))
    refine up hil trivial ((wk_of [] rfl ⟨.base (.tree _ _ rfl rfl), .base (.tree _ _ rfl rfl), .base (.tree _ _ rfl rfl), .base (.tree _ _ (show AV.str _ = AV.str _ by rw [hws]) rfl), .base (.tree _ _ rfl rfl), trivial⟩ trivial))
  · have hil : i = l.length := by
      have := of_decide_eq_false hd
      omega
    subst hil
    have ho := open_ok (wr l l.length ++ tail)
    have hlen0 : (wd l tail 0).length ≤ 10000000 := by
      rw [← wd_zero, List.length_append]
      omega
    have hz := wd_zero l tail
    have hend := wd_end l tail
    have hwd := fun k => wd_le (l := l) (tail := tail) k
    have hstep := fun (k : Nat) (h : k < l.length) => wd_step (tail := tail) h
    conv => whnf
    refine And.intro (show (((wr l l.length).length + tail.length : Nat) : Int) ≤ 9223372036854775807 by omega) ?_
    conv => whnf
    refine .one _ _ _ (fun _ => ho) (by repeat (first | exact .nil | (apply BorL.cons; first | exact lS rfl | exact lR rfl | exact lM rfl rfl | exact lL rfl | exact lX rfl | exact lN | exact lNl | exact lSm rfl | exact lIm rfl | exact lP rfl | exact lQ rfl | exact lB rfl rfl rfl))) (by first | exact .inl rfl | exact .inr (by repeat (first | exact flats_nil | refine flats_cons (by first | exact flat_val _ rfl | exact flat_row (fun _ => rfl) | exact flat_lst (fun _ => rfl)) ?_))) (by first | exact .inl rfl | exact .inr rfl) ?_
    conv => whnf
    repeat (first | (refine And.intro ⟨by omega, by omega⟩ ?_; conv => whnf) | (refine And.intro (by omega) (And.intro rfl ?_); conv => whnf) | (refine And.intro rfl ?_; conv => whnf) | (refine And.intro (fun _ => ⟨by omega, by omega⟩) ?_; conv => whnf) | (refine And.intro (fun _ => by omega) (And.intro rfl ?_); conv => whnf) | (refine And.intro ⟨(by first | omega | (simp; omega)), (by first | omega | (simp; omega))⟩ ?_; conv => whnf) | (refine Exists.intro _ (And.intro rfl (And.intro (by first | omega | (simp; omega)) (And.intro ⟨rfl, rfl, rfl, rfl, rfl⟩ ?_))); conv => whnf) | (refine And.intro ⟨rfl, rfl⟩ (And.intro (by first | omega | (simp; omega)) ?_); conv => whnf) | (refine Exists.intro _ (And.intro rfl ?_); conv => whnf) | (refine And.intro (fun _ => ?_) (fun h => absurd h (by decide)); conv => whnf) | (refine And.intro (fun h => absurd h (by decide)) (fun _ => ?_); conv => whnf) | (refine .quiet (by kernel_rfl) ?_; conv => whnf))
    refine loop_up (cxOk _ _) l.length (fun _ => True) (fun k => ⟨[(0, encVs l), (1, .str tail), (5, .bool true), (8, .ptr 0 0), (9, .int .i64 ((k : Nat) : Int))], [(0, .cells 54 [.str (wd l tail k), .bool false])], 1⟩) trivial ((wk_of [(0, .id 0)] rfl ⟨.base (.tree _ _ rfl rfl), .base (.tree _ _ rfl rfl), .base (.tree _ _ rfl rfl), .base (.ptr _ _ _ rfl), .base (.tree _ _ rfl rfl), trivial⟩ ⟨⟨_, rfl, .cells _ _ _ _ rfl (by repeat (first | exact .nil | refine .cons (by first | exact .base (.tree _ _ rfl rfl) | exact .base (.own _ _ rfl) | exact .base (.ptr _ _ _ rfl) | exact .base (.map _ _ rfl) | exact .base (.nilown _ rfl) | exact .base (.tree _ _ (by rw [hz]) rfl)) ?_)) rfl⟩, trivial⟩)) ?_
    intro k hk _
    have hek : (k : Int).toNat = k := Int.toNat_natCast k
    have hwk := hwd k
    conv => whnf
    refine ⟨fun hd2 => ?_, fun hd2 => ?_⟩
    · have hkl : k < l.length := by
        have := of_decide_eq_true hd2
        omega
      have hv := hok k hkl
      have heq := equalQ_back _ hv (wd l tail (k + 1))
      rw [← hstep k hkl] at heq
      have he := equal_ok (l.getD k v0) ⟨wd l tail k, false⟩ hv (by show (wd l tail k).length ≤ _; omega)
      rw [heq] at he
      conv => whnf
      repeat (first | (refine And.intro ⟨by omega, by omega⟩ ?_; conv => whnf) | (refine And.intro (by omega) (And.intro rfl ?_); conv => whnf) | (refine And.intro rfl ?_; conv => whnf) | (refine And.intro (fun _ => ⟨by omega, by omega⟩) ?_; conv => whnf) | (refine And.intro (fun _ => by omega) (And.intro rfl ?_); conv => whnf) | (refine And.intro ⟨(by first | omega | (simp; omega)), (by first | omega | (simp; omega))⟩ ?_; conv => whnf) | (refine Exists.intro _ (And.intro rfl (And.intro (by first | omega | (simp; omega)) (And.intro ⟨rfl, rfl, rfl, rfl, rfl⟩ ?_))); conv => whnf) | (refine And.intro ⟨rfl, rfl⟩ (And.intro (by first | omega | (simp; omega)) ?_); conv => whnf) | (refine Exists.intro _ (And.intro rfl ?_); conv => whnf) | (refine And.intro (fun _ => ?_) (fun h => absurd h (by decide)); conv => whnf) | (refine And.intro (fun h => absurd h (by decide)) (fun _ => ?_); conv => whnf) | (refine .quiet (by kernel_rfl) ?_; conv => whnf))
      rw [hek]
      refine .raw _ _ rfl (fun h => by cases h) (callio_sem (he) [0] _ rfl rfl ⟨rfl, trivial⟩ (by repeat (first | exact .nil | (apply BorL.cons; first | exact .map _ _ rfl | exact .ptr _ _ _ rfl | exact .own _ _ rfl | exact .fnp _ _ _ _ rfl | (apply BorIO.lend; first | exact lS rfl | exact lR rfl | exact lM rfl rfl | exact lL rfl | exact lX rfl | exact lN | exact lNl | exact lSm rfl | exact lIm rfl | exact lP rfl | exact lQ rfl | exact lB rfl rfl rfl)))) rfl (by first | exact .inl rfl | exact .inr (fun b rs h => by obtain ⟨rfl, rfl⟩ := h; exact ⟨by repeat (first | exact flats_nil | refine flats_cons (by first | exact flat_val _ rfl | exact flat_row (fun _ => rfl) | exact flat_lst (fun _ => rfl)) ?_), by repeat (first | exact flats0 | refine flats1 (by first | exact flatB_row (fun _ => rfl) | exact flatB_lst (fun _ => rfl) | exact flatB_smap (fun _ => rfl) | exact flatB_imap (fun _ => rfl) | exact flatB_cells rfl) ?_)⟩))) ?_
      rintro r ⟨b', rs, ⟨rfl, rfl⟩, rfl⟩
      refine ⟨tn_ge _ _, ?_⟩
      conv => whnf
      refine ⟨fun h => (by cases h), fun _ => ?_⟩
      conv => whnf
      repeat (first | (refine And.intro ⟨by omega, by omega⟩ ?_; conv => whnf) | (refine And.intro (by omega) (And.intro rfl ?_); conv => whnf) | (refine And.intro rfl ?_; conv => whnf) | (refine And.intro (fun _ => ⟨by omega, by omega⟩) ?_; conv => whnf) | (refine And.intro (fun _ => by omega) (And.intro rfl ?_); conv => whnf) | (refine And.intro ⟨(by first | omega | (simp; omega)), (by first | omega | (simp; omega))⟩ ?_; conv => whnf) | (refine Exists.intro _ (And.intro rfl (And.intro (by first | omega | (simp; omega)) (And.intro ⟨rfl, rfl, rfl, rfl, rfl⟩ ?_))); conv => whnf) | (refine And.intro ⟨rfl, rfl⟩ (And.intro (by first | omega | (simp; omega)) ?_); conv => whnf) | (refine Exists.intro _ (And.intro rfl ?_); conv => whnf) | (refine And.intro (fun _ => ?_) (fun h => absurd h (by decide)); conv => whnf) | (refine And.intro (fun h => absurd h (by decide)) (fun _ => ?_); conv => whnf) | (refine .quiet (by kernel_rfl) ?_; conv => whnf))
      refine up hkl trivial ((wk_of [(0, .id 0)] rfl ⟨.base (.tree _ _ rfl rfl), .base (.tree _ _ rfl rfl), .base (.tree _ _ rfl rfl), .base (.ptr _ _ _ rfl), .base (.tree _ _ rfl rfl), trivial⟩ ⟨⟨_, rfl, .cells _ _ _ _ rfl (by repeat (first | exact .nil | refine .cons (by first | exact .base (.tree _ _ rfl rfl) | exact .base (.own _ _ rfl) | exact .base (.ptr _ _ _ rfl) | exact .base (.map _ _ rfl) | exact .base (.nilown _ rfl)) ?_)) rfl⟩, trivial⟩))
    · have hkl : k = l.length := by
        have := of_decide_eq_false hd2
        omega
      subst hkl
      rw [hend]
      have h1 := left_p tail false
      have h2 := done_p tail false
      have h3 := rrest_ok ⟨tail, false⟩
      have h4 := done_p [] false
      have h5 := left_p [] false
      conv => whnf
      refine .one _ _ _ (fun _ => h1) (by repeat (first | exact .nil | (apply BorL.cons; first | exact lS rfl | exact lR rfl | exact lM rfl rfl | exact lL rfl | exact lX rfl | exact lN | exact lNl | exact lSm rfl | exact lIm rfl | exact lP rfl | exact lQ rfl | exact lB rfl rfl rfl))) (by first | exact .inl rfl | exact .inr (by repeat (first | exact flats_nil | refine flats_cons (by first | exact flat_val _ rfl | exact flat_row (fun _ => rfl) | exact flat_lst (fun _ => rfl)) ?_))) (by first | exact .inl rfl | exact .inr rfl) ?_
      conv => whnf
      refine .one _ _ _ (fun _ => h2) (by repeat (first | exact .nil | (apply BorL.cons; first | exact lS rfl | exact lR rfl | exact lM rfl rfl | exact lL rfl | exact lX rfl | exact lN | exact lNl | exact lSm rfl | exact lIm rfl | exact lP rfl | exact lQ rfl | exact lB rfl rfl rfl))) (by first | exact .inl rfl | exact .inr (by repeat (first | exact flats_nil | refine flats_cons (by first | exact flat_val _ rfl | exact flat_row (fun _ => rfl) | exact flat_lst (fun _ => rfl)) ?_))) (by first | exact .inl rfl | exact .inr rfl) ?_
      conv => whnf
      repeat (first | (refine And.intro ⟨by omega, by omega⟩ ?_; conv => whnf) | (refine And.intro (by omega) (And.intro rfl ?_); conv => whnf) | (refine And.intro rfl ?_; conv => whnf) | (refine And.intro (fun _ => ⟨by omega, by omega⟩) ?_; conv => whnf) | (refine And.intro (fun _ => by omega) (And.intro rfl ?_); conv => whnf) | (refine And.intro ⟨(by first | omega | (simp; omega)), (by first | omega | (simp; omega))⟩ ?_; conv => whnf) | (refine Exists.intro _ (And.intro rfl (And.intro (by first | omega | (simp; omega)) (And.intro ⟨rfl, rfl, rfl, rfl, rfl⟩ ?_))); conv => whnf) | (refine And.intro ⟨rfl, rfl⟩ (And.intro (by first | omega | (simp; omega)) ?_); conv => whnf) | (refine Exists.intro _ (And.intro rfl ?_); conv => whnf) | (refine And.intro (fun _ => ?_) (fun h => absurd h (by decide)); conv => whnf) | (refine And.intro (fun h => absurd h (by decide)) (fun _ => ?_); conv => whnf) | (refine .quiet (by kernel_rfl) ?_; conv => whnf))
      have hq : (true && decide ((tail.length : Int) = tail.length) && ((!false && decide (tail = [])) == decide (tail = (ByteArray.mk #[]).data.toList))) = true := by simp
      rw [hq]
      refine .raw _ _ rfl (fun h => by cases h) (callio_sem (h3) [0] _ rfl rfl ⟨rfl, trivial⟩ (by repeat (first | exact .nil | (apply BorL.cons; first | exact .map _ _ rfl | exact .ptr _ _ _ rfl | exact .own _ _ rfl | exact .fnp _ _ _ _ rfl | (apply BorIO.lend; first | exact lS rfl | exact lR rfl | exact lM rfl rfl | exact lL rfl | exact lX rfl | exact lN | exact lNl | exact lSm rfl | exact lIm rfl | exact lP rfl | exact lQ rfl | exact lB rfl rfl rfl)))) rfl (by first | exact .inl rfl | exact .inr (fun b rs h => by obtain ⟨rfl, rfl⟩ := h; exact ⟨by repeat (first | exact flats_nil | refine flats_cons (by first | exact flat_val _ rfl | exact flat_row (fun _ => rfl) | exact flat_lst (fun _ => rfl)) ?_), by repeat (first | exact flats0 | refine flats1 (by first | exact flatB_row (fun _ => rfl) | exact flatB_lst (fun _ => rfl) | exact flatB_smap (fun _ => rfl) | exact flatB_imap (fun _ => rfl) | exact flatB_cells rfl) ?_)⟩))) ?_
      rintro r ⟨b', rs, ⟨rfl, rfl⟩, rfl⟩
      refine ⟨tn_ge _ _, ?_⟩
      conv => whnf
      refine .one _ _ _ (fun _ => h4) (by repeat (first | exact .nil | (apply BorL.cons; first | exact lS rfl | exact lR rfl | exact lM rfl rfl | exact lL rfl | exact lX rfl | exact lN | exact lNl | exact lSm rfl | exact lIm rfl | exact lP rfl | exact lQ rfl | exact lB rfl rfl rfl))) (by first | exact .inl rfl | exact .inr (by repeat (first | exact flats_nil | refine flats_cons (by first | exact flat_val _ rfl | exact flat_row (fun _ => rfl) | exact flat_lst (fun _ => rfl)) ?_))) (by first | exact .inl rfl | exact .inr rfl) ?_
      conv => whnf
      refine .one _ _ _ (fun _ => h5) (by repeat (first | exact .nil | (apply BorL.cons; first | exact lS rfl | exact lR rfl | exact lM rfl rfl | exact lL rfl | exact lX rfl | exact lN | exact lNl | exact lSm rfl | exact lIm rfl | exact lP rfl | exact lQ rfl | exact lB rfl rfl rfl))) (by first | exact .inl rfl | exact .inr (by repeat (first | exact flats_nil | refine flats_cons (by first | exact flat_val _ rfl | exact flat_row (fun _ => rfl) | exact flat_lst (fun _ => rfl)) ?_))) (by first | exact .inl rfl | exact .inr rfl) ?_
      conv => whnf
      rw [decide_eq_true (rfl : tail = tail)]
      rfl

end Go.Proofs.YthepodkgphnibaaDoor

/-
  What the rows of the wire share: how parameters are opened, a world in which the listed tables lie, and what the tables say.
-/
namespace Go.Proofs.YthepodkgphnibaaDoor
open Go.ChangeShapes Go.WideShapes Go.RowKit Go.Own

theorem Tryd.own : ownKnob Tryd.prog.godebug = none := by kernel_rfl
theorem Tryd.laidOut : laidOutB Tryd.prog = true := by kernel_rfl
theorem undBool : Tryd.prog.underlying 4 = some .bool := by kernel_rfl
theorem und3' : Tryd.prog.underlying 3 = some (.int .i64) := by kernel_rfl
theorem und9' : Tryd.prog.underlying 9 = some .string := by kernel_rfl
theorem und22' : Tryd.prog.underlying 22 = some (.slice 3) := by kernel_rfl
theorem und23' : Tryd.prog.underlying 23 = some (.slice 9) := by kernel_rfl
theorem und28' : Tryd.prog.underlying 28 = some (.slice 25) := by kernel_rfl
def fieldsV : Array Field := #[{ name := "Kind", type := 3, offset := 0, embedded := false, tag := "", pkgPath := "", byteOffset := 0 }, { name := "N", type := 3, offset := 1, embedded := false, tag := "", pkgPath := "", byteOffset := 8 }, { name := "S", type := 9, offset := 2, embedded := false, tag := "", pkgPath := "", byteOffset := 16 }, { name := "L", type := 22, offset := 3, embedded := false, tag := "", pkgPath := "", byteOffset := 32 }, { name := "T", type := 23, offset := 4, embedded := false, tag := "", pkgPath := "", byteOffset := 56 }]
theorem und25' : Tryd.prog.underlying 25 = some (.struct fieldsV) := by kernel_rfl
theorem in64_of {n : Int} (h : IntKind.i64.min ≤ n ∧ n ≤ IntKind.i64.max) : in64 n := by
  have e1 : IntKind.i64.min = -9223372036854775808 := by rfl
  have e2 : IntKind.i64.max = 9223372036854775807 := by rfl
  rw [e1, e2] at h
  exact h
abbrev rInt : List AV → Prop := fun l => ∃ n, (IntKind.i64.min ≤ n ∧ n ≤ IntKind.i64.max) ∧ l = [.int .i64 n]
abbrev rStr : List AV → Prop := fun l => ∃ s : List UInt8, s.length ≤ 9223372036854775807 ∧ l = [.str s]
theorem oInt : OpensR Tryd.prog 3 1 rInt := opensR_int und3' (by kernel_rfl)
theorem oStr : OpensR Tryd.prog 9 1 rStr := opensR_str und9' (by kernel_rfl)
abbrev rInts : List AV → Prop := fun l => ∃ xs : List Int, (∀ a ∈ xs, in64 a) ∧ xs.length ≤ 9223372036854775807 ∧ l = [.sl 1 encI 0 xs]
abbrev rStrs : List AV → Prop := fun l => ∃ xs : List (List UInt8), (∀ a ∈ xs, a.length ≤ 9223372036854775807) ∧ xs.length ≤ 9223372036854775807 ∧ l = [.sl 1 encS [] xs]
theorem oInts : OpensR Tryd.prog 22 1 rInts :=
  opensR_slice (X := Int) 0 und22' (by kernel_rfl) oInt (by decide) (fun l hl => by
    obtain ⟨n0, h0, rfl⟩ := hl
    exact ⟨n0, in64_of h0, rfl⟩) (fun _ => rfl)
theorem oStrs : OpensR Tryd.prog 23 1 rStrs :=
  opensR_slice (X := List UInt8) [] und23' (by kernel_rfl) oStr (by decide) (fun l hl => by
    obtain ⟨s, h0, rfl⟩ := hl
    exact ⟨s, h0, rfl⟩) (fun _ => rfl)
instance : Inhabited Val := ⟨v0⟩
theorem oVal : OpensR Tryd.prog 25 5 (StrR [(1, rInt), (1, rInt), (1, rStr), (1, rInts), (1, rStrs)]) :=
  opensR_struct und25' (by kernel_rfl) ⟨rfl, oInt, rfl, oInt, rfl, oStr, rfl, oInts, rfl, oStrs, rfl⟩
theorem oVals : OpensR Tryd.prog 28 1 (fun l => ∃ xs : List Val, (∀ a ∈ xs, ValIn a) ∧ xs.length ≤ 9223372036854775807 ∧ l = [.sl 5 encV v0 xs]) :=
  opensR_slice v0 und28' (by kernel_rfl) oVal (by decide) (fun l hl => by
    obtain ⟨_, _, ⟨n0, h0, rfl⟩, ⟨_, _, ⟨n1, h1, rfl⟩, ⟨_, _, ⟨s, _, rfl⟩, ⟨_, _, ⟨xs, h3, _, rfl⟩, ⟨_, _, ⟨ts, _, _, rfl⟩, rfl, rfl⟩, rfl⟩, rfl⟩, rfl⟩, rfl⟩ := hl
    exact ⟨⟨n0, n1, s, xs, ts⟩, ⟨in64_of h0, in64_of h1, h3⟩, rfl⟩) (fun _ => rfl)
theorem vVals : OpV Tryd.prog 28 (fun a => ∃ l : List Val, (∀ x ∈ l, ValIn x) ∧ l.length ≤ 9223372036854775807 ∧ a = encVs l) :=
  OpV.mono (opV_slice (R := fun a => ∃ xs : List Val, (∀ x ∈ xs, ValIn x) ∧ xs.length ≤ 9223372036854775807 ∧ a = .sl 5 encV v0 xs) und28' (oVals.mono fun _ ⟨xs, h1, h2, h3⟩ => ⟨_, ⟨xs, h1, h2, rfl⟩, h3⟩)) fun _ ⟨xs, h1, h2, h3⟩ => ⟨xs, h1, h2, h3⟩
theorem vInts : OpV Tryd.prog 22 (fun a => ∃ l : List Int, (∀ x ∈ l, in64 x) ∧ l.length ≤ 9223372036854775807 ∧ a = .sl 1 encI 0 l) :=
  opV_slice und22' (oInts.mono fun _ ⟨xs, h1, h2, h3⟩ => ⟨_, ⟨xs, h1, h2, rfl⟩, h3⟩)
theorem vVal : OpV Tryd.prog 25 (fun a => ∃ v : Val, ValIn v ∧ a = encV v) :=
  OpV.mono (opV_struct und25' oVal) fun a ⟨l, hl, h⟩ => by
    obtain ⟨_, _, ⟨n0, h0, rfl⟩, ⟨_, _, ⟨n1, h1, rfl⟩, ⟨_, _, ⟨s, _, rfl⟩, ⟨_, _, ⟨xs, h3, _, rfl⟩, ⟨_, _, ⟨ts, _, _, rfl⟩, rfl, rfl⟩, rfl⟩, rfl⟩, rfl⟩, rfl⟩ := hl
    exact ⟨⟨n0, n1, s, xs, ts⟩, ⟨in64_of h0, in64_of h1, h3⟩, h⟩
theorem vStr : OpV Tryd.prog 9 (fun a => ∃ s : List UInt8, s.length ≤ 9223372036854775807 ∧ a = .str s) := opV_str und9'
theorem vInt : OpV Tryd.prog 3 (fun a => ∃ n, in64 n ∧ a = .int .i64 n) := OpV.mono (opV_int und3') fun _ ⟨n, h, e⟩ => ⟨n, in64_of h, e⟩

/-! ### The listed variables -/
abbrev laidL : List (String × DataW Unit) := Rows.wireBackRow.laid
noncomputable def laidWorld (os : Os) : World := World.laidAll Tryd.prog os laidL
theorem laid_met (os : Os) (args : Array Value) : laidMet Tryd.prog laidL ((laidWorld os).forCall (fun _ _ => 0) ⟨#[], args, []⟩).memory :=
  laidMet_laidAll args (by kernel_rfl) (by kernel_rfl)
theorem var_block {P : Program} {w : World} {n : String} {g : Nat} {cs : Array Value} (hg : P.globalNamed n = some g) (h : w.var? P n = some cs) : ∃ e fz, w.heap[g]? = some (.cells cs e fz) := by
  unfold World.var? at h
  rw [hg] at h
  simp only [Option.bind_some] at h
  split at h
  · rename_i c e fz hh
    cases h
    exact ⟨_, _, hh⟩
  · cases h
theorem laid_tabs (W : World) (h : laidMet Tryd.prog laidL W) : TabAt (All W) W := by
  obtain ⟨ps, ⟨g1, t1, c1, f1, p1, q1, hg1, ht1, hv1, hd1, ⟨g2, t2, c2, f2, p2, q2, hg2, ht2, hv2, hd2, ⟨g3, t3, c3, f3, p3, q3, hg3, ht3, hv3, hd3, ⟨g4, t4, c4, f4, p4, q4, hg4, ht4, hv4, hd4, ⟨g5, t5, c5, f5, p5, q5, hg5, ht5, hv5, hd5, hnil, e5⟩, e4⟩, e3⟩, e2⟩, e1⟩, _, _⟩ := h
  have k3 : Tryd.prog.globalNamed "internal/strconv.uint64pow10" = some 0 := by kernel_rfl
  have k5 : Tryd.prog.globalNamed "strconv.ErrSyntax" = some 2 := by kernel_rfl
  have k4 : Tryd.prog.globalNamed "strconv.ErrRange" = some 3 := by kernel_rfl
  obtain ⟨b3, z3, h3⟩ := var_block k3 hv3
  obtain ⟨b4, z4, h4⟩ := var_block k4 hv4
  obtain ⟨b5, z5, h5⟩ := var_block k5 hv5
  obtain rfl := Option.some.inj (k3.symm.trans hg3)
  obtain rfl := Option.some.inj (k4.symm.trans hg4)
  obtain rfl := Option.some.inj (k5.symm.trans hg5)
  have T3 : (Tryd.prog.globals[0]?).map (·.type) = some t3 := ht3
  have T4 : (Tryd.prog.globals[3]?).map (·.type) = some t4 := ht4
  have T5 : (Tryd.prog.globals[2]?).map (·.type) = some t5 := ht5
  have err : ∀ {t : Nat} {cs : Array Value} {fuel : Nat} {nm : String} {d : DataW Unit} {p : List MemPlace} {g : Nat}, (Tryd.prog.globals[g]?).map (·.type) = some t → (g = 2 ∨ g = 3) → DataW.trod (fun _ => ()) Tryd.prog W 0 (fun _ => true) false fuel t cs.toList = some (.iface nm d, p) → isErr cs := by
    intro t cs fuel nm d p g hT hg hd
    have hu : ∃ ms, Tryd.prog.underlying t = some (.interface ms) := by
      rcases hg with rfl | rfl
      · obtain rfl := Option.some.inj ((show (Tryd.prog.globals[2]?).map (·.type) = some 69 by kernel_rfl).symm.trans hT)
        exact ⟨#[("Error", 38)], by kernel_rfl⟩
      · obtain rfl := Option.some.inj ((show (Tryd.prog.globals[3]?).map (·.type) = some 69 by kernel_rfl).symm.trans hT)
        exact ⟨#[("Error", 38)], by kernel_rfl⟩
    obtain ⟨ms, hu⟩ := hu
    obtain ⟨_, u, v, hcs, _⟩ := iface_of_trod hu hd
    refine ⟨u, v, ?_⟩
    rw [← Array.getElem?_toList, hcs]
    rfl
  have i4 := err T4 (.inr rfl) hd4
  have i5 := err T5 (.inl rfl) hd5
  have lt : ∀ {g : Nat} {o : Obj}, W.heap[g]? = some o → g < W.heap.size := fun h => (Array.getElem?_eq_some_iff.1 h).1
  intro g Q hQ
  match g, hQ with
  | 0, hQ =>
    cases hQ
    refine ⟨lt h3, c3, b3, z3, h3, ?_⟩
    obtain rfl := Option.some.inj ((show (Tryd.prog.globals[0]?).map (·.type) = some 96 by kernel_rfl).symm.trans T3)
    have := Lib.cells_of_tab (k := .u64) (zs := Lib.pow10Tab) (n := 20) (e := 81) (by kernel_rfl) (by kernel_rfl) (by kernel_rfl) (by kernel_rfl) (show _ = some (Lib.tabData .u64 Lib.pow10Tab, p3) from hd3)
    show c3 = _
    rw [← this]
  | 2, hQ =>
    cases hQ
    exact ⟨lt h5, c5, b5, z5, h5, i5⟩
  | 3, hQ =>
    cases hQ
    exact ⟨lt h4, c4, b4, z4, h4, i4⟩

end Go.Proofs.YthepodkgphnibaaDoor

namespace Go.Proofs.YthepodkgphnibaaDoor
open Go.Own
set_option maxHeartbeats 2000000
set_option maxRecDepth 100000

/-! ### The reference's encodings -/
theorem digits_ok (u : Nat) : u ≤ 9223372036854775808 → APureV Tryd.prog 45 [.int .i64 (-(u : Int))] (.str (Lib.decDigits u)) := by
  induction u using Nat.strongRecOn with
  | _ u ih =>
    intro hu
    have hm : (-(u : Int)).tmod 10 = -((u % 10 : Nat) : Int) := by
      rw [Int.neg_tmod, Int.tmod_eq_emod_of_nonneg (by omega)]
      omega
    have hq : (-(u : Int)).tdiv 10 = -((u / 10 : Nat) : Int) := by
      rw [Int.neg_tdiv, Int.tdiv_eq_ediv_of_nonneg (by omega)]
      omega
    have hlt : u % 10 < 10 := Nat.mod_lt _ (by decide)
    have hrec := decDigits_rec u
    have hlen : (Lib.decDigits (u / 10)).length ≤ 20 := by
      rw [Lib.decDigits_length]
      have := nDigits_le 19 (u / 10) (by omega) (by omega)
      omega
    refine apure_of (C := cx 18 [0, 2, 3, 11]) (cxOk _ _) Tryd.func45 rfl (by decide) rfl (by exact Nat.le_of_ble_eq_true rfl) (by decide) ?_
    conv => whnf
    repeat (first | (refine And.intro ⟨by omega, by omega⟩ ?_; conv => whnf) | (refine And.intro (by omega) (And.intro rfl ?_); conv => whnf) | (refine And.intro rfl ?_; conv => whnf) | (refine And.intro (fun _ => ⟨by omega, by omega⟩) ?_; conv => whnf) | (refine And.intro (fun _ => by omega) (And.intro rfl ?_); conv => whnf) | (refine And.intro ⟨(by first | omega | (simp; omega)), (by first | omega | (simp; omega))⟩ ?_; conv => whnf) | (refine Exists.intro _ (And.intro rfl (And.intro (by first | omega | (simp; omega)) (And.intro ⟨rfl, rfl, rfl, rfl, rfl⟩ ?_))); conv => whnf) | (refine And.intro ⟨rfl, rfl⟩ (And.intro (by first | omega | (simp; omega)) ?_); conv => whnf) | (refine Exists.intro _ (And.intro rfl ?_); conv => whnf) | (refine And.intro (fun _ => ?_) (fun h => absurd h (by decide)); conv => whnf) | (refine And.intro (fun h => absurd h (by decide)) (fun _ => ?_); conv => whnf) | (refine .quiet (by kernel_rfl) ?_; conv => whnf))
    refine And.intro (by decide) ?_
    conv => whnf
    rw [hm]
    repeat (first | (refine And.intro ⟨by omega, by omega⟩ ?_; conv => whnf) | (refine And.intro (by omega) (And.intro rfl ?_); conv => whnf) | (refine And.intro rfl ?_; conv => whnf) | (refine And.intro (fun _ => ⟨by omega, by omega⟩) ?_; conv => whnf) | (refine And.intro (fun _ => by omega) (And.intro rfl ?_); conv => whnf) | (refine And.intro ⟨(by first | omega | (simp; omega)), (by first | omega | (simp; omega))⟩ ?_; conv => whnf) | (refine Exists.intro _ (And.intro rfl (And.intro (by first | omega | (simp; omega)) (And.intro ⟨rfl, rfl, rfl, rfl, rfl⟩ ?_))); conv => whnf) | (refine And.intro ⟨rfl, rfl⟩ (And.intro (by first | omega | (simp; omega)) ?_); conv => whnf) | (refine Exists.intro _ (And.intro rfl ?_); conv => whnf) | (refine And.intro (fun _ => ?_) (fun h => absurd h (by decide)); conv => whnf) | (refine And.intro (fun h => absurd h (by decide)) (fun _ => ?_); conv => whnf) | (refine .quiet (by kernel_rfl) ?_; conv => whnf))
    refine ⟨[UInt8.ofNat (48 + u % 10)], ?_, ?_⟩
    · show [AV.int .u8 (IntKind.u8.wrap (48 - -((u % 10 : Nat) : Int)))] = [AV.int .u8 ((UInt8.ofNat (48 + u % 10)).toNat : Int)]
      rw [dig_nat _ hlt, IntWalk.u8_in _ (by omega)]
      congr 2
      omega
    conv => whnf
    refine ⟨fun hc => ?_, fun hc => ?_⟩
    · have hc := of_decide_eq_true hc
      rw [if_pos (by omega)] at hrec
      conv => whnf
      rw [hrec, show u % 10 = u by omega]
      rfl
    · have hc := of_decide_eq_false hc
      rw [if_neg (by omega)] at hrec
      have h1 := ih (u / 10) (by omega) (by omega)
      rw [← hq] at h1
      conv => whnf
      refine And.intro (by decide) ?_
      conv => whnf
      repeat (first | (refine And.intro ⟨by omega, by omega⟩ ?_; conv => whnf) | (refine And.intro (by omega) (And.intro rfl ?_); conv => whnf) | (refine And.intro rfl ?_; conv => whnf) | (refine And.intro (fun _ => ⟨by omega, by omega⟩) ?_; conv => whnf) | (refine And.intro (fun _ => by omega) (And.intro rfl ?_); conv => whnf) | (refine And.intro ⟨(by first | omega | (simp; omega)), (by first | omega | (simp; omega))⟩ ?_; conv => whnf) | (refine Exists.intro _ (And.intro rfl (And.intro (by first | omega | (simp; omega)) (And.intro ⟨rfl, rfl, rfl, rfl, rfl⟩ ?_))); conv => whnf) | (refine And.intro ⟨rfl, rfl⟩ (And.intro (by first | omega | (simp; omega)) ?_); conv => whnf) | (refine Exists.intro _ (And.intro rfl ?_); conv => whnf) | (refine And.intro (fun _ => ?_) (fun h => absurd h (by decide)); conv => whnf) | (refine And.intro (fun h => absurd h (by decide)) (fun _ => ?_); conv => whnf) | (refine .quiet (by kernel_rfl) ?_; conv => whnf))
      refine .one _ _ _ (fun _ => h1) (by repeat (first | exact .nil | (apply BorL.cons; first | exact lS rfl | exact lR rfl | exact lM rfl rfl | exact lL rfl | exact lX rfl | exact lN | exact lNl | exact lSm rfl | exact lIm rfl | exact lP rfl | exact lQ rfl | exact lB rfl rfl rfl))) (by first | exact .inl rfl | exact .inr (by repeat (first | exact flats_nil | refine flats_cons (by first | exact flat_val _ rfl | exact flat_row (fun _ => rfl) | exact flat_lst (fun _ => rfl)) ?_))) (by first | exact .inl rfl | exact .inr rfl) ?_
      conv => whnf
      repeat (first | (refine And.intro ⟨by omega, by omega⟩ ?_; conv => whnf) | (refine And.intro (by omega) (And.intro rfl ?_); conv => whnf) | (refine And.intro rfl ?_; conv => whnf) | (refine And.intro (fun _ => ⟨by omega, by omega⟩) ?_; conv => whnf) | (refine And.intro (fun _ => by omega) (And.intro rfl ?_); conv => whnf) | (refine And.intro ⟨(by first | omega | (simp; omega)), (by first | omega | (simp; omega))⟩ ?_; conv => whnf) | (refine Exists.intro _ (And.intro rfl (And.intro (by first | omega | (simp; omega)) (And.intro ⟨rfl, rfl, rfl, rfl, rfl⟩ ?_))); conv => whnf) | (refine And.intro ⟨rfl, rfl⟩ (And.intro (by first | omega | (simp; omega)) ?_); conv => whnf) | (refine Exists.intro _ (And.intro rfl ?_); conv => whnf) | (refine And.intro (fun _ => ?_) (fun h => absurd h (by decide)); conv => whnf) | (refine And.intro (fun h => absurd h (by decide)) (fun _ => ?_); conv => whnf) | (refine .quiet (by kernel_rfl) ?_; conv => whnf))
      refine And.intro (show (((Lib.decDigits (u / 10)).length + 1 : Nat) : Int) ≤ 9223372036854775807 by omega) ?_
      conv => whnf
      rw [hrec]
      rfl

theorem digits_neg (u : Nat) (h : u ≤ 9223372036854775808) : APureV Tryd.prog 45 [.int .i64 (0 - (u : Int))] (.str (Lib.decDigits u)) := by
  have := digits_ok u h
  rw [show -(u : Int) = 0 - u by omega] at this
  exact this
theorem rint_enc (n : Int) (hn : in64 n) : APureV Tryd.prog 14 [.int .i64 n] (.str (intS n)) := by
  have hl := itoa_len n hn
  obtain ⟨h0, h1⟩ := hn
  unfold intS
  by_cases hneg : n < 0
  · obtain ⟨u, rfl⟩ : ∃ u : Nat, n = -(u : Int) := ⟨n.natAbs, by omega⟩
    rw [Lib.itoa_neg u (by omega)] at hl ⊢
    rw [List.length_cons] at hl
    have hd := digits_ok u (by omega)
    refine apure_of (C := cx 13 [0, 2, 4]) (cxOk _ _) Tryd.func14 rfl (by decide) rfl (by exact Nat.le_of_ble_eq_true rfl) (by decide) ?_
    conv => whnf
    refine ⟨fun hc => ?_, fun hc => ?_⟩
    · conv => whnf
      refine .one _ _ _ (fun _ => hd) (by repeat (first | exact .nil | (apply BorL.cons; first | exact lS rfl | exact lR rfl | exact lM rfl rfl | exact lL rfl | exact lX rfl | exact lN | exact lNl | exact lSm rfl | exact lIm rfl | exact lP rfl | exact lQ rfl | exact lB rfl rfl rfl))) (by first | exact .inl rfl | exact .inr (by repeat (first | exact flats_nil | refine flats_cons (by first | exact flat_val _ rfl | exact flat_row (fun _ => rfl) | exact flat_lst (fun _ => rfl)) ?_))) (by first | exact .inl rfl | exact .inr rfl) ?_
      conv => whnf
      refine And.intro (show ((1 + (Lib.decDigits u).length : Nat) : Int) ≤ 9223372036854775807 by omega) ?_
      conv => whnf
      refine And.intro (show ((((45 :: Lib.decDigits u).length + 1 : Nat)) : Int) ≤ 9223372036854775807 by rw [List.length_cons]; omega) ?_
      conv => whnf
      rfl
    · have := of_decide_eq_false hc
      omega
  · obtain ⟨u, rfl⟩ : ∃ u : Nat, n = u := ⟨n.toNat, by omega⟩
    rw [Lib.itoa_nonneg] at hl ⊢
    have hd := digits_neg u (by omega)
    refine apure_of (C := cx 13 [0, 2, 4]) (cxOk _ _) Tryd.func14 rfl (by decide) rfl (by exact Nat.le_of_ble_eq_true rfl) (by decide) ?_
    conv => whnf
    refine ⟨fun hc => ?_, fun hc => ?_⟩
    · have := of_decide_eq_true hc
      omega
    · conv => whnf
      repeat (first | (refine And.intro ⟨by omega, by omega⟩ ?_; conv => whnf) | (refine And.intro (by omega) (And.intro rfl ?_); conv => whnf) | (refine And.intro rfl ?_; conv => whnf) | (refine And.intro (fun _ => ⟨by omega, by omega⟩) ?_; conv => whnf) | (refine And.intro (fun _ => by omega) (And.intro rfl ?_); conv => whnf) | (refine And.intro ⟨(by first | omega | (simp; omega)), (by first | omega | (simp; omega))⟩ ?_; conv => whnf) | (refine Exists.intro _ (And.intro rfl (And.intro (by first | omega | (simp; omega)) (And.intro ⟨rfl, rfl, rfl, rfl, rfl⟩ ?_))); conv => whnf) | (refine And.intro ⟨rfl, rfl⟩ (And.intro (by first | omega | (simp; omega)) ?_); conv => whnf) | (refine Exists.intro _ (And.intro rfl ?_); conv => whnf) | (refine And.intro (fun _ => ?_) (fun h => absurd h (by decide)); conv => whnf) | (refine And.intro (fun h => absurd h (by decide)) (fun _ => ?_); conv => whnf) | (refine .quiet (by kernel_rfl) ?_; conv => whnf))
      refine .one _ _ _ (fun _ => hd) (by repeat (first | exact .nil | (apply BorL.cons; first | exact lS rfl | exact lR rfl | exact lM rfl rfl | exact lL rfl | exact lX rfl | exact lN | exact lNl | exact lSm rfl | exact lIm rfl | exact lP rfl | exact lQ rfl | exact lB rfl rfl rfl))) (by first | exact .inl rfl | exact .inr (by repeat (first | exact flats_nil | refine flats_cons (by first | exact flat_val _ rfl | exact flat_row (fun _ => rfl) | exact flat_lst (fun _ => rfl)) ?_))) (by first | exact .inl rfl | exact .inr rfl) ?_
      conv => whnf
      refine And.intro (show (((Lib.decDigits u).length + 1 : Nat) : Int) ≤ 9223372036854775807 by omega) ?_
      conv => whnf
      rfl
theorem rnum_enc (n : Int) (hn : in64 n) : APureV Tryd.prog 12 [.int .i64 n] (.str (numS n)) := by
  have hi := rint_enc n hn
  refine apure_of (C := cx 7 [0, 2, 4]) (cxOk _ _) Tryd.func12 rfl (by decide) rfl (by exact Nat.le_of_ble_eq_true rfl) (by decide) ?_
  conv => whnf
  refine ⟨fun hc => ?_, fun hc => ?_⟩
  · conv => whnf
    unfold numS
    rw [if_pos (of_decide_eq_true hc)]
    rfl
  · conv => whnf
    refine .one _ _ _ (fun _ => hi) (by repeat (first | exact .nil | (apply BorL.cons; first | exact lS rfl | exact lR rfl | exact lM rfl rfl | exact lL rfl | exact lX rfl | exact lN | exact lNl | exact lSm rfl | exact lIm rfl | exact lP rfl | exact lQ rfl | exact lB rfl rfl rfl))) (by first | exact .inl rfl | exact .inr (by repeat (first | exact flats_nil | refine flats_cons (by first | exact flat_val _ rfl | exact flat_row (fun _ => rfl) | exact flat_lst (fun _ => rfl)) ?_))) (by first | exact .inl rfl | exact .inr rfl) ?_
    conv => whnf
    repeat (first | (refine And.intro ⟨by omega, by omega⟩ ?_; conv => whnf) | (refine And.intro (by omega) (And.intro rfl ?_); conv => whnf) | (refine And.intro rfl ?_; conv => whnf) | (refine And.intro (fun _ => ⟨by omega, by omega⟩) ?_; conv => whnf) | (refine And.intro (fun _ => by omega) (And.intro rfl ?_); conv => whnf) | (refine And.intro ⟨(by first | omega | (simp; omega)), (by first | omega | (simp; omega))⟩ ?_; conv => whnf) | (refine Exists.intro _ (And.intro rfl (And.intro (by first | omega | (simp; omega)) (And.intro ⟨rfl, rfl, rfl, rfl, rfl⟩ ?_))); conv => whnf) | (refine And.intro ⟨rfl, rfl⟩ (And.intro (by first | omega | (simp; omega)) ?_); conv => whnf) | (refine Exists.intro _ (And.intro rfl ?_); conv => whnf) | (refine And.intro (fun _ => ?_) (fun h => absurd h (by decide)); conv => whnf) | (refine And.intro (fun h => absurd h (by decide)) (fun _ => ?_); conv => whnf) | (refine .quiet (by kernel_rfl) ?_; conv => whnf))
    unfold numS
    rw [if_neg (of_decide_eq_false hc)]
    rfl
theorem rtext_enc (s : List UInt8) (hs : s.length ≤ 9223372036854775000) : APureV Tryd.prog 16 [.str s] (.str (textS s)) := by
  have hl := itoa_len s.length ⟨by omega, by omega⟩
  rw [Lib.itoa_nonneg] at hl
  have hd := digits_neg s.length (by omega)
  unfold textS
  rw [Lib.itoa_nonneg]
  refine apure_of (C := cx 11 [0, 2]) (cxOk _ _) Tryd.func16 rfl (by decide) rfl (by exact Nat.le_of_ble_eq_true rfl) (by decide) ?_
  conv => whnf
  repeat (first | (refine And.intro ⟨by omega, by omega⟩ ?_; conv => whnf) | (refine And.intro (by omega) (And.intro rfl ?_); conv => whnf) | (refine And.intro rfl ?_; conv => whnf) | (refine And.intro (fun _ => ⟨by omega, by omega⟩) ?_; conv => whnf) | (refine And.intro (fun _ => by omega) (And.intro rfl ?_); conv => whnf) | (refine And.intro ⟨(by first | omega | (simp; omega)), (by first | omega | (simp; omega))⟩ ?_; conv => whnf) | (refine Exists.intro _ (And.intro rfl (And.intro (by first | omega | (simp; omega)) (And.intro ⟨rfl, rfl, rfl, rfl, rfl⟩ ?_))); conv => whnf) | (refine And.intro ⟨rfl, rfl⟩ (And.intro (by first | omega | (simp; omega)) ?_); conv => whnf) | (refine Exists.intro _ (And.intro rfl ?_); conv => whnf) | (refine And.intro (fun _ => ?_) (fun h => absurd h (by decide)); conv => whnf) | (refine And.intro (fun h => absurd h (by decide)) (fun _ => ?_); conv => whnf) | (refine .quiet (by kernel_rfl) ?_; conv => whnf))
  refine .one _ _ _ (fun _ => hd) (by repeat (first | exact .nil | (apply BorL.cons; first | exact lS rfl | exact lR rfl | exact lM rfl rfl | exact lL rfl | exact lX rfl | exact lN | exact lNl | exact lSm rfl | exact lIm rfl | exact lP rfl | exact lQ rfl | exact lB rfl rfl rfl))) (by first | exact .inl rfl | exact .inr (by repeat (first | exact flats_nil | refine flats_cons (by first | exact flat_val _ rfl | exact flat_row (fun _ => rfl) | exact flat_lst (fun _ => rfl)) ?_))) (by first | exact .inl rfl | exact .inr rfl) ?_
  conv => whnf
  refine And.intro (show (((Lib.decDigits s.length).length + 1 : Nat) : Int) ≤ 9223372036854775807 by omega) ?_
  conv => whnf
  have e1 : (Lib.decDigits s.length ++ [58]).length = (Lib.decDigits s.length).length + 1 := by rw [List.length_append]; rfl
  refine And.intro (show (((Lib.decDigits s.length ++ [58]).length + s.length : Nat) : Int) ≤ 9223372036854775807 by omega) ?_
  conv => whnf
  have e2 : ((Lib.decDigits s.length ++ [58]) ++ s).length = (Lib.decDigits s.length).length + 1 + s.length := by rw [List.length_append, e1]
  refine And.intro (by simp; omega) ?_
  conv => whnf
  rfl

theorem rnums_enc (l : List Int) (hl : ∀ n ∈ l, in64 n) (hn : l.length ≤ 9223372036854775807) (hT : (listS intS l).length ≤ 9223372036854775807) : APureV Tryd.prog 18 [.sl 1 encI 0 l] (.str (listS intS l)) := by
  have hil := itoa_len l.length ⟨by omega, by omega⟩
  have hd := digits_neg l.length (by omega)
  have hh : headS l.length = Lib.decDigits l.length ++ [91] := by unfold headS; rw [Lib.itoa_nonneg]
  rw [Lib.itoa_nonneg] at hil
  refine apure_of (C := cx 25 [0, 2, 3, 4, 13]) (cxOk _ _) Tryd.func18 rfl (by decide) rfl (by exact Nat.le_of_ble_eq_true rfl) (by decide) ?_
  conv => whnf
  repeat (first | (refine And.intro ⟨by omega, by omega⟩ ?_; conv => whnf) | (refine And.intro (by omega) (And.intro rfl ?_); conv => whnf) | (refine And.intro rfl ?_; conv => whnf) | (refine And.intro (fun _ => ⟨by omega, by omega⟩) ?_; conv => whnf) | (refine And.intro (fun _ => by omega) (And.intro rfl ?_); conv => whnf) | (refine And.intro ⟨(by first | omega | (simp; omega)), (by first | omega | (simp; omega))⟩ ?_; conv => whnf) | (refine Exists.intro _ (And.intro rfl (And.intro (by first | omega | (simp; omega)) (And.intro ⟨rfl, rfl, rfl, rfl, rfl⟩ ?_))); conv => whnf) | (refine And.intro ⟨rfl, rfl⟩ (And.intro (by first | omega | (simp; omega)) ?_); conv => whnf) | (refine Exists.intro _ (And.intro rfl ?_); conv => whnf) | (refine And.intro (fun _ => ?_) (fun h => absurd h (by decide)); conv => whnf) | (refine And.intro (fun h => absurd h (by decide)) (fun _ => ?_); conv => whnf) | (refine .quiet (by kernel_rfl) ?_; conv => whnf))
  refine .one _ _ _ (fun _ => hd) (by repeat (first | exact .nil | (apply BorL.cons; first | exact lS rfl | exact lR rfl | exact lM rfl rfl | exact lL rfl | exact lX rfl | exact lN | exact lNl | exact lSm rfl | exact lIm rfl | exact lP rfl | exact lQ rfl | exact lB rfl rfl rfl))) (by first | exact .inl rfl | exact .inr (by repeat (first | exact flats_nil | refine flats_cons (by first | exact flat_val _ rfl | exact flat_row (fun _ => rfl) | exact flat_lst (fun _ => rfl)) ?_))) (by first | exact .inl rfl | exact .inr rfl) ?_
  conv => whnf
  refine And.intro (show (((Lib.decDigits l.length).length + 1 : Nat) : Int) ≤ 9223372036854775807 by omega) ?_
  conv => whnf
  have hp0 : Lib.decDigits l.length ++ [91] = partS intS l 0 := by unfold partS; rw [hh]; simp
  refine loop_up (cxOk _ _) l.length (fun _ => True) (fun k => ⟨[(0, .sl 1 encI 0 l), (3, .str (partS intS l k)), (4, .int .i64 (k : Nat))], [], 0⟩) trivial ((wk_of [] rfl ⟨.base (.tree _ _ rfl rfl), .base (.tree _ _ (show AV.str _ = AV.str _ by rw [← hp0]) rfl), .base (.tree _ _ rfl rfl), trivial⟩ trivial)) ?_
  intro k hk _
  have hps := fun h : k < l.length => partS_succ (f := intS) (d := 0) h
  have hpl := partS_len (f := intS) (l := l) k
  have hpl1 := partS_len (f := intS) (l := l) (k + 1)
  conv => whnf
  refine ⟨fun hd2 => ?_, fun hd2 => ?_⟩
  · have hkl : k < l.length := by
      have := of_decide_eq_true hd2
      omega
    have hps := hps hkl
    have hek : (k : Int).toNat = k := Int.toNat_natCast k
    have hx := rint_enc (l.getD k 0) (hl _ (by rw [List.getD_eq_getElem?_getD, List.getElem?_eq_getElem hkl]; exact List.getElem_mem hkl))
    conv => whnf
    repeat (first | (refine And.intro ⟨by omega, by omega⟩ ?_; conv => whnf) | (refine And.intro (by omega) (And.intro rfl ?_); conv => whnf) | (refine And.intro rfl ?_; conv => whnf) | (refine And.intro (fun _ => ⟨by omega, by omega⟩) ?_; conv => whnf) | (refine And.intro (fun _ => by omega) (And.intro rfl ?_); conv => whnf) | (refine And.intro ⟨(by first | omega | (simp; omega)), (by first | omega | (simp; omega))⟩ ?_; conv => whnf) | (refine Exists.intro _ (And.intro rfl (And.intro (by first | omega | (simp; omega)) (And.intro ⟨rfl, rfl, rfl, rfl, rfl⟩ ?_))); conv => whnf) | (refine And.intro ⟨rfl, rfl⟩ (And.intro (by first | omega | (simp; omega)) ?_); conv => whnf) | (refine Exists.intro _ (And.intro rfl ?_); conv => whnf) | (refine And.intro (fun _ => ?_) (fun h => absurd h (by decide)); conv => whnf) | (refine And.intro (fun h => absurd h (by decide)) (fun _ => ?_); conv => whnf) | (refine .quiet (by kernel_rfl) ?_; conv => whnf))
    rw [hek]
    refine .one _ _ _ (fun _ => hx) (by repeat (first | exact .nil | (apply BorL.cons; first | exact lS rfl | exact lR rfl | exact lM rfl rfl | exact lL rfl | exact lX rfl | exact lN | exact lNl | exact lSm rfl | exact lIm rfl | exact lP rfl | exact lQ rfl | exact lB rfl rfl rfl))) (by first | exact .inl rfl | exact .inr (by repeat (first | exact flats_nil | refine flats_cons (by first | exact flat_val _ rfl | exact flat_row (fun _ => rfl) | exact flat_lst (fun _ => rfl)) ?_))) (by first | exact .inl rfl | exact .inr rfl) ?_
    conv => whnf
    repeat (first | (refine And.intro ⟨by omega, by omega⟩ ?_; conv => whnf) | (refine And.intro (by omega) (And.intro rfl ?_); conv => whnf) | (refine And.intro rfl ?_; conv => whnf) | (refine And.intro (fun _ => ⟨by omega, by omega⟩) ?_; conv => whnf) | (refine And.intro (fun _ => by omega) (And.intro rfl ?_); conv => whnf) | (refine And.intro ⟨(by first | omega | (simp; omega)), (by first | omega | (simp; omega))⟩ ?_; conv => whnf) | (refine Exists.intro _ (And.intro rfl (And.intro (by first | omega | (simp; omega)) (And.intro ⟨rfl, rfl, rfl, rfl, rfl⟩ ?_))); conv => whnf) | (refine And.intro ⟨rfl, rfl⟩ (And.intro (by first | omega | (simp; omega)) ?_); conv => whnf) | (refine Exists.intro _ (And.intro rfl ?_); conv => whnf) | (refine And.intro (fun _ => ?_) (fun h => absurd h (by decide)); conv => whnf) | (refine And.intro (fun h => absurd h (by decide)) (fun _ => ?_); conv => whnf) | (refine .quiet (by kernel_rfl) ?_; conv => whnf))
    rw [hps, List.length_append] at hpl1
    refine And.intro (show (((partS intS l k).length + (intS (l.getD k 0)).length : Nat) : Int) ≤ 9223372036854775807 by omega) ?_
    conv => whnf
    repeat (first | (refine And.intro ⟨by omega, by omega⟩ ?_; conv => whnf) | (refine And.intro (by omega) (And.intro rfl ?_); conv => whnf) | (refine And.intro rfl ?_; conv => whnf) | (refine And.intro (fun _ => ⟨by omega, by omega⟩) ?_; conv => whnf) | (refine And.intro (fun _ => by omega) (And.intro rfl ?_); conv => whnf) | (refine And.intro ⟨(by first | omega | (simp; omega)), (by first | omega | (simp; omega))⟩ ?_; conv => whnf) | (refine Exists.intro _ (And.intro rfl (And.intro (by first | omega | (simp; omega)) (And.intro ⟨rfl, rfl, rfl, rfl, rfl⟩ ?_))); conv => whnf) | (refine And.intro ⟨rfl, rfl⟩ (And.intro (by first | omega | (simp; omega)) ?_); conv => whnf) | (refine Exists.intro _ (And.intro rfl ?_); conv => whnf) | (refine And.intro (fun _ => ?_) (fun h => absurd h (by decide)); conv => whnf) | (refine And.intro (fun h => absurd h (by decide)) (fun _ => ?_); conv => whnf) | (refine .quiet (by kernel_rfl) ?_; conv => whnf))
    refine up hkl trivial ((wk_of [] rfl ⟨.base (.tree _ _ rfl rfl), .base (.tree _ _ (show AV.str _ = AV.str _ by rw [hps]) rfl), .base (.tree _ _ rfl rfl), trivial⟩ trivial))
  · have hke : k = l.length := by
      have := of_decide_eq_false hd2
      omega
    have hfe : partS intS l k ++ [93] = listS intS l := by
      unfold partS listS
      rw [hke, List.take_length]
    have hfl : (partS intS l k).length + 1 = (listS intS l).length := by rw [← hfe, List.length_append]; rfl
    conv => whnf
    refine And.intro (show (((partS intS l k).length + 1 : Nat) : Int) ≤ 9223372036854775807 by omega) ?_
    conv => whnf
    rw [← hfe]
    rfl
theorem rtexts_enc (l : List (List UInt8)) (hl : ∀ s ∈ l, s.length ≤ 9223372036854775000) (hn : l.length ≤ 9223372036854775807) (hT : (listS textS l).length ≤ 9223372036854775807) : APureV Tryd.prog 20 [.sl 1 encS [] l] (.str (listS textS l)) := by
  have hil := itoa_len l.length ⟨by omega, by omega⟩
  have hd := digits_neg l.length (by omega)
  have hh : headS l.length = Lib.decDigits l.length ++ [91] := by unfold headS; rw [Lib.itoa_nonneg]
  rw [Lib.itoa_nonneg] at hil
  refine apure_of (C := cx 25 [0, 2, 3, 4, 13]) (cxOk _ _) Tryd.func20 rfl (by decide) rfl (by exact Nat.le_of_ble_eq_true rfl) (by decide) ?_
  conv => whnf
  repeat (first | (refine And.intro ⟨by omega, by omega⟩ ?_; conv => whnf) | (refine And.intro (by omega) (And.intro rfl ?_); conv => whnf) | (refine And.intro rfl ?_; conv => whnf) | (refine And.intro (fun _ => ⟨by omega, by omega⟩) ?_; conv => whnf) | (refine And.intro (fun _ => by omega) (And.intro rfl ?_); conv => whnf) | (refine And.intro ⟨(by first | omega | (simp; omega)), (by first | omega | (simp; omega))⟩ ?_; conv => whnf) | (refine Exists.intro _ (And.intro rfl (And.intro (by first | omega | (simp; omega)) (And.intro ⟨rfl, rfl, rfl, rfl, rfl⟩ ?_))); conv => whnf) | (refine And.intro ⟨rfl, rfl⟩ (And.intro (by first | omega | (simp; omega)) ?_); conv => whnf) | (refine Exists.intro _ (And.intro rfl ?_); conv => whnf) | (refine And.intro (fun _ => ?_) (fun h => absurd h (by decide)); conv => whnf) | (refine And.intro (fun h => absurd h (by decide)) (fun _ => ?_); conv => whnf) | (refine .quiet (by kernel_rfl) ?_; conv => whnf))
  refine .one _ _ _ (fun _ => hd) (by repeat (first | exact .nil | (apply BorL.cons; first | exact lS rfl | exact lR rfl | exact lM rfl rfl | exact lL rfl | exact lX rfl | exact lN | exact lNl | exact lSm rfl | exact lIm rfl | exact lP rfl | exact lQ rfl | exact lB rfl rfl rfl))) (by first | exact .inl rfl | exact .inr (by repeat (first | exact flats_nil | refine flats_cons (by first | exact flat_val _ rfl | exact flat_row (fun _ => rfl) | exact flat_lst (fun _ => rfl)) ?_))) (by first | exact .inl rfl | exact .inr rfl) ?_
  conv => whnf
  refine And.intro (show (((Lib.decDigits l.length).length + 1 : Nat) : Int) ≤ 9223372036854775807 by omega) ?_
  conv => whnf
  have hp0 : Lib.decDigits l.length ++ [91] = partS textS l 0 := by unfold partS; rw [hh]; simp
  refine loop_up (cxOk _ _) l.length (fun _ => True) (fun k => ⟨[(0, .sl 1 encS [] l), (3, .str (partS textS l k)), (4, .int .i64 (k : Nat))], [], 0⟩) trivial ((wk_of [] rfl ⟨.base (.tree _ _ rfl rfl), .base (.tree _ _ (show AV.str _ = AV.str _ by rw [← hp0]) rfl), .base (.tree _ _ rfl rfl), trivial⟩ trivial)) ?_
  intro k hk _
  have hps := fun h : k < l.length => partS_succ (f := textS) (d := []) h
  have hpl := partS_len (f := textS) (l := l) k
  have hpl1 := partS_len (f := textS) (l := l) (k + 1)
  conv => whnf
  refine ⟨fun hd2 => ?_, fun hd2 => ?_⟩
  · have hkl : k < l.length := by
      have := of_decide_eq_true hd2
      omega
    have hps := hps hkl
    have hek : (k : Int).toNat = k := Int.toNat_natCast k
    have hx := rtext_enc (l.getD k []) (hl _ (by rw [List.getD_eq_getElem?_getD, List.getElem?_eq_getElem hkl]; exact List.getElem_mem hkl))
    conv => whnf
    repeat (first | (refine And.intro ⟨by omega, by omega⟩ ?_; conv => whnf) | (refine And.intro (by omega) (And.intro rfl ?_); conv => whnf) | (refine And.intro rfl ?_; conv => whnf) | (refine And.intro (fun _ => ⟨by omega, by omega⟩) ?_; conv => whnf) | (refine And.intro (fun _ => by omega) (And.intro rfl ?_); conv => whnf) | (refine And.intro ⟨(by first | omega | (simp; omega)), (by first | omega | (simp; omega))⟩ ?_; conv => whnf) | (refine Exists.intro _ (And.intro rfl (And.intro (by first | omega | (simp; omega)) (And.intro ⟨rfl, rfl, rfl, rfl, rfl⟩ ?_))); conv => whnf) | (refine And.intro ⟨rfl, rfl⟩ (And.intro (by first | omega | (simp; omega)) ?_); conv => whnf) | (refine Exists.intro _ (And.intro rfl ?_); conv => whnf) | (refine And.intro (fun _ => ?_) (fun h => absurd h (by decide)); conv => whnf) | (refine And.intro (fun h => absurd h (by decide)) (fun _ => ?_); conv => whnf) | (refine .quiet (by kernel_rfl) ?_; conv => whnf))
    rw [hek]
    refine .one _ _ _ (fun _ => hx) (by repeat (first | exact .nil | (apply BorL.cons; first | exact lS rfl | exact lR rfl | exact lM rfl rfl | exact lL rfl | exact lX rfl | exact lN | exact lNl | exact lSm rfl | exact lIm rfl | exact lP rfl | exact lQ rfl | exact lB rfl rfl rfl))) (by first | exact .inl rfl | exact .inr (by repeat (first | exact flats_nil | refine flats_cons (by first | exact flat_val _ rfl | exact flat_row (fun _ => rfl) | exact flat_lst (fun _ => rfl)) ?_))) (by first | exact .inl rfl | exact .inr rfl) ?_
    conv => whnf
    repeat (first | (refine And.intro ⟨by omega, by omega⟩ ?_; conv => whnf) | (refine And.intro (by omega) (And.intro rfl ?_); conv => whnf) | (refine And.intro rfl ?_; conv => whnf) | (refine And.intro (fun _ => ⟨by omega, by omega⟩) ?_; conv => whnf) | (refine And.intro (fun _ => by omega) (And.intro rfl ?_); conv => whnf) | (refine And.intro ⟨(by first | omega | (simp; omega)), (by first | omega | (simp; omega))⟩ ?_; conv => whnf) | (refine Exists.intro _ (And.intro rfl (And.intro (by first | omega | (simp; omega)) (And.intro ⟨rfl, rfl, rfl, rfl, rfl⟩ ?_))); conv => whnf) | (refine And.intro ⟨rfl, rfl⟩ (And.intro (by first | omega | (simp; omega)) ?_); conv => whnf) | (refine Exists.intro _ (And.intro rfl ?_); conv => whnf) | (refine And.intro (fun _ => ?_) (fun h => absurd h (by decide)); conv => whnf) | (refine And.intro (fun h => absurd h (by decide)) (fun _ => ?_); conv => whnf) | (refine .quiet (by kernel_rfl) ?_; conv => whnf))
    rw [hps, List.length_append] at hpl1
    refine And.intro (show (((partS textS l k).length + (textS (l.getD k [])).length : Nat) : Int) ≤ 9223372036854775807 by omega) ?_
    conv => whnf
    repeat (first | (refine And.intro ⟨by omega, by omega⟩ ?_; conv => whnf) | (refine And.intro (by omega) (And.intro rfl ?_); conv => whnf) | (refine And.intro rfl ?_; conv => whnf) | (refine And.intro (fun _ => ⟨by omega, by omega⟩) ?_; conv => whnf) | (refine And.intro (fun _ => by omega) (And.intro rfl ?_); conv => whnf) | (refine And.intro ⟨(by first | omega | (simp; omega)), (by first | omega | (simp; omega))⟩ ?_; conv => whnf) | (refine Exists.intro _ (And.intro rfl (And.intro (by first | omega | (simp; omega)) (And.intro ⟨rfl, rfl, rfl, rfl, rfl⟩ ?_))); conv => whnf) | (refine And.intro ⟨rfl, rfl⟩ (And.intro (by first | omega | (simp; omega)) ?_); conv => whnf) | (refine Exists.intro _ (And.intro rfl ?_); conv => whnf) | (refine And.intro (fun _ => ?_) (fun h => absurd h (by decide)); conv => whnf) | (refine And.intro (fun h => absurd h (by decide)) (fun _ => ?_); conv => whnf) | (refine .quiet (by kernel_rfl) ?_; conv => whnf))
    refine up hkl trivial ((wk_of [] rfl ⟨.base (.tree _ _ rfl rfl), .base (.tree _ _ (show AV.str _ = AV.str _ by rw [hps]) rfl), .base (.tree _ _ rfl rfl), trivial⟩ trivial))
  · have hke : k = l.length := by
      have := of_decide_eq_false hd2
      omega
    have hfe : partS textS l k ++ [93] = listS textS l := by
      unfold partS listS
      rw [hke, List.take_length]
    have hfl : (partS textS l k).length + 1 = (listS textS l).length := by rw [← hfe, List.length_append]; rfl
    conv => whnf
    refine And.intro (show (((partS textS l k).length + 1 : Nat) : Int) ≤ 9223372036854775807 by omega) ?_
    conv => whnf
    rw [← hfe]
    rfl

end Go.Proofs.YthepodkgphnibaaDoor

namespace Go.Proofs.YthepodkgphnibaaDoor
open Go.Own
set_option maxHeartbeats 2000000
set_option maxRecDepth 100000

theorem law_writes (v : Val) (hv : ValIn v) : APureV Tryd.prog 3 [encV v] (.bool true) := by
  have f1 := few_ok [v] (by simp)
  refine apure_of (C := cx 58 [0, 1, 2, 3, 4, 9]) (cxOk _ _) Tryd.func3 rfl (by decide) rfl (by exact Nat.le_of_ble_eq_true rfl) (by decide) ?_
  conv => whnf
  refine .one _ _ _ (fun _ => small_ok) (by repeat (first | exact .nil | (apply BorL.cons; first | exact lS rfl | exact lR rfl | exact lM rfl rfl | exact lL rfl | exact lX rfl | exact lN | exact lNl | exact lSm rfl | exact lIm rfl | exact lP rfl | exact lQ rfl | exact lB rfl rfl rfl))) (by first | exact .inl rfl | exact .inr (by repeat (first | exact flats_nil | refine flats_cons (by first | exact flat_val _ rfl | exact flat_row (fun _ => rfl) | exact flat_lst (fun _ => rfl)) ?_))) (by first | exact .inl rfl | exact .inr rfl) ?_
  conv => whnf
  refine .one _ _ _ (fun _ => f1) (by repeat (first | exact .nil | (apply BorL.cons; first | exact lS rfl | exact lR rfl | exact lM rfl rfl | exact lL rfl | exact lX rfl | exact lN | exact lNl | exact lSm rfl | exact lIm rfl | exact lP rfl | exact lQ rfl | exact lB rfl rfl rfl))) (by first | exact .inl rfl | exact .inr (by repeat (first | exact flats_nil | refine flats_cons (by first | exact flat_val _ rfl | exact flat_row (fun _ => rfl) | exact flat_lst (fun _ => rfl)) ?_))) (by first | exact .inl rfl | exact .inr rfl) ?_
  conv => whnf
  refine ⟨fun hf => ?_, fun hf => ?_⟩
  · conv => whnf
    rfl
  have hf : fewB [v] = true := by simpa using hf
  have hvo := valOk hv (few_one hf)
  have a1 := num_ok v.n hvo.n
  have a2 := int_ok v.n hvo.n
  have a3 := text_ok v.s hvo.s
  have a4 := nums_ok v.l hvo.l hvo.ln hvo.lt
  have a5 := texts_ok v.t hvo.t hvo.tn hvo.tt
  have b1 := rnum_enc v.n hvo.n
  have b2 := rint_enc v.n hvo.n
  have b3 := rtext_enc v.s hvo.s
  have b4 := rnums_enc v.l hvo.l hvo.ln (by have := hvo.lt; omega)
  have b5 := rtexts_enc v.t hvo.t hvo.tn (by have := hvo.tt; omega)
  conv => whnf
  refine .quiet (by kernel_rfl) ?_
  conv => whnf
  refine .mk _ _ _ _ (fun _ => a1) (by repeat (first | exact .nil | (apply BorL.cons; first | exact lS rfl | exact lR rfl | exact lM rfl rfl | exact lL rfl | exact lX rfl | exact lN | exact lNl | exact lSm rfl | exact lIm rfl | exact lP rfl | exact lQ rfl | exact lB rfl rfl rfl))) rfl ?_
  conv => whnf
  refine .mk _ _ _ _ (fun _ => b1) (by repeat (first | exact .nil | (apply BorL.cons; first | exact lS rfl | exact lR rfl | exact lM rfl rfl | exact lL rfl | exact lX rfl | exact lN | exact lNl | exact lSm rfl | exact lIm rfl | exact lP rfl | exact lQ rfl | exact lB rfl rfl rfl))) rfl ?_
  conv => whnf
  refine .mk _ _ _ _ (fun _ => a2) (by repeat (first | exact .nil | (apply BorL.cons; first | exact lS rfl | exact lR rfl | exact lM rfl rfl | exact lL rfl | exact lX rfl | exact lN | exact lNl | exact lSm rfl | exact lIm rfl | exact lP rfl | exact lQ rfl | exact lB rfl rfl rfl))) rfl ?_
  conv => whnf
  refine .mk _ _ _ _ (fun _ => b2) (by repeat (first | exact .nil | (apply BorL.cons; first | exact lS rfl | exact lR rfl | exact lM rfl rfl | exact lL rfl | exact lX rfl | exact lN | exact lNl | exact lSm rfl | exact lIm rfl | exact lP rfl | exact lQ rfl | exact lB rfl rfl rfl))) rfl ?_
  conv => whnf
  refine .mk _ _ _ _ (fun _ => a3) (by repeat (first | exact .nil | (apply BorL.cons; first | exact lS rfl | exact lR rfl | exact lM rfl rfl | exact lL rfl | exact lX rfl | exact lN | exact lNl | exact lSm rfl | exact lIm rfl | exact lP rfl | exact lQ rfl | exact lB rfl rfl rfl))) rfl ?_
  conv => whnf
  refine .mk _ _ _ _ (fun _ => b3) (by repeat (first | exact .nil | (apply BorL.cons; first | exact lS rfl | exact lR rfl | exact lM rfl rfl | exact lL rfl | exact lX rfl | exact lN | exact lNl | exact lSm rfl | exact lIm rfl | exact lP rfl | exact lQ rfl | exact lB rfl rfl rfl))) rfl ?_
  conv => whnf
  repeat (first | (refine And.intro ⟨by omega, by omega⟩ ?_; conv => whnf) | (refine And.intro (by omega) (And.intro rfl ?_); conv => whnf) | (refine And.intro rfl ?_; conv => whnf) | (refine And.intro (fun _ => ⟨by omega, by omega⟩) ?_; conv => whnf) | (refine And.intro (fun _ => by omega) (And.intro rfl ?_); conv => whnf) | (refine And.intro ⟨(by first | omega | (simp; omega)), (by first | omega | (simp; omega))⟩ ?_; conv => whnf) | (refine Exists.intro _ (And.intro rfl (And.intro (by first | omega | (simp; omega)) (And.intro ⟨rfl, rfl, rfl, rfl, rfl⟩ ?_))); conv => whnf) | (refine And.intro ⟨rfl, rfl⟩ (And.intro (by first | omega | (simp; omega)) ?_); conv => whnf) | (refine Exists.intro _ (And.intro rfl ?_); conv => whnf) | (refine And.intro (fun _ => ?_) (fun h => absurd h (by decide)); conv => whnf) | (refine And.intro (fun h => absurd h (by decide)) (fun _ => ?_); conv => whnf) | (refine .quiet (by kernel_rfl) ?_; conv => whnf))
  refine .mk _ _ _ _ (fun _ => a4) (by repeat (first | exact .nil | (apply BorL.cons; first | exact lS rfl | exact lR rfl | exact lM rfl rfl | exact lL rfl | exact lX rfl | exact lN | exact lNl | exact lSm rfl | exact lIm rfl | exact lP rfl | exact lQ rfl | exact lB rfl rfl rfl))) rfl ?_
  conv => whnf
  refine .mk _ _ _ _ (fun _ => b4) (by repeat (first | exact .nil | (apply BorL.cons; first | exact lS rfl | exact lR rfl | exact lM rfl rfl | exact lL rfl | exact lX rfl | exact lN | exact lNl | exact lSm rfl | exact lIm rfl | exact lP rfl | exact lQ rfl | exact lB rfl rfl rfl))) rfl ?_
  conv => whnf
  refine .mk _ _ _ _ (fun _ => a5) (by repeat (first | exact .nil | (apply BorL.cons; first | exact lS rfl | exact lR rfl | exact lM rfl rfl | exact lL rfl | exact lX rfl | exact lN | exact lNl | exact lSm rfl | exact lIm rfl | exact lP rfl | exact lQ rfl | exact lB rfl rfl rfl))) rfl ?_
  conv => whnf
  refine .mk _ _ _ _ (fun _ => b5) (by repeat (first | exact .nil | (apply BorL.cons; first | exact lS rfl | exact lR rfl | exact lM rfl rfl | exact lL rfl | exact lX rfl | exact lN | exact lNl | exact lSm rfl | exact lIm rfl | exact lP rfl | exact lQ rfl | exact lB rfl rfl rfl))) rfl ?_
  conv => whnf
  repeat (first | (refine And.intro ⟨by omega, by omega⟩ ?_; conv => whnf) | (refine And.intro (by omega) (And.intro rfl ?_); conv => whnf) | (refine And.intro rfl ?_; conv => whnf) | (refine And.intro (fun _ => ⟨by omega, by omega⟩) ?_; conv => whnf) | (refine And.intro (fun _ => by omega) (And.intro rfl ?_); conv => whnf) | (refine And.intro ⟨(by first | omega | (simp; omega)), (by first | omega | (simp; omega))⟩ ?_; conv => whnf) | (refine Exists.intro _ (And.intro rfl (And.intro (by first | omega | (simp; omega)) (And.intro ⟨rfl, rfl, rfl, rfl, rfl⟩ ?_))); conv => whnf) | (refine And.intro ⟨rfl, rfl⟩ (And.intro (by first | omega | (simp; omega)) ?_); conv => whnf) | (refine Exists.intro _ (And.intro rfl ?_); conv => whnf) | (refine And.intro (fun _ => ?_) (fun h => absurd h (by decide)); conv => whnf) | (refine And.intro (fun h => absurd h (by decide)) (fun _ => ?_); conv => whnf) | (refine .quiet (by kernel_rfl) ?_; conv => whnf))
  simp

end Go.Proofs.YthepodkgphnibaaDoor

namespace Go.Proofs.YthepodkgphnibaaDoor
open Go.Own
set_option maxHeartbeats 1000000
set_option maxRecDepth 100000

noncomputable abbrev cxW (N : Nat) (keep : List Nat) : Cx := ⟨Tryd.prog, tab, N, keep, 0, true⟩
theorem cxWOk (N : Nat) (keep : List Nat) : CxOk (cxW N keep) := ⟨tabOk, mixed⟩

/-! ### The reference's Back: digits added from the left -/
def frB (s : List UInt8) : Nat := if (decide (0 < (s.length : Int)) && decide (((s.getD 0 0).toNat : Int) = 45)) = true then 1 else 0
def dgB (s : List UInt8) : List UInt8 := s.drop (frB s)
def bkF (l : List UInt8) : Int := l.foldl (fun n c => IntKind.i64.wrap (10 * n - ((c.toNat : Int) - 48))) 0
def valB (l : List UInt8) : Int := l.foldl (fun n c => 10 * n - ((c.toNat : Int) - 48)) 0
def backV (s : List UInt8) : Int := if frB s = 0 then IntKind.i64.wrap (0 - bkF (dgB s)) else bkF (dgB s)
def BackR (s : List UInt8) (v : Int) (b : Bool) : Prop := (b = true → s = Lib.itoa v ∧ in64 v) ∧ (b = false → ∀ m, in64 m → s ≠ Lib.itoa m)

theorem wrap_in (x : Int) : in64 (IntKind.i64.wrap x) := by
  rw [IntKind.wrap_i64]
  unfold in64
  omega
theorem wrap_id {x : Int} (h : in64 x) : IntKind.i64.wrap x = x := by
  rw [IntKind.wrap_i64]
  unfold in64 at h
  omega
theorem wrap_step (x y d : Int) (h : IntKind.i64.wrap x = IntKind.i64.wrap y) : IntKind.i64.wrap (10 * x - d) = IntKind.i64.wrap (10 * y - d) := by
  simp only [IntKind.wrap_i64] at *
  omega
theorem wrap_wrap (x d : Int) : IntKind.i64.wrap (IntKind.i64.wrap x - d) = IntKind.i64.wrap (x - d) := by
  simp only [IntKind.wrap_i64]
  omega
theorem wrap_idem (x : Int) : IntKind.i64.wrap (IntKind.i64.wrap x) = IntKind.i64.wrap x := by
  simp only [IntKind.wrap_i64]
  omega
theorem bkF_snoc (l : List UInt8) (c : UInt8) : bkF (l ++ [c]) = IntKind.i64.wrap (10 * bkF l - ((c.toNat : Int) - 48)) := by
  unfold bkF
  rw [List.foldl_append]
  rfl
theorem valB_snoc (l : List UInt8) (c : UInt8) : valB (l ++ [c]) = 10 * valB l - ((c.toNat : Int) - 48) := by
  unfold valB
  rw [List.foldl_append]
  rfl
theorem bkF_in (l : List UInt8) : in64 (bkF l) := by
  rcases List.eq_nil_or_concat l with h | ⟨a, c, h⟩
  · subst h; unfold in64 bkF; simp
  · subst h; rw [List.concat_eq_append, bkF_snoc]; exact wrap_in _
theorem bkF_val (l : List UInt8) : bkF l = IntKind.i64.wrap (valB l) := by
  have h : ∀ n : Nat, ∀ l : List UInt8, l.length = n → IntKind.i64.wrap (bkF l) = IntKind.i64.wrap (valB l) := by
    intro n
    induction n with
    | zero => intro l hl; rw [List.length_eq_zero_iff.1 hl]; rfl
    | succ n ih =>
      intro l hl
      rcases List.eq_nil_or_concat l with h | ⟨a, c, h⟩
      · subst h; simp at hl
      · subst h
        rw [List.concat_eq_append] at hl ⊢
        rw [bkF_snoc, valB_snoc, wrap_idem]
        exact wrap_step _ _ _ (ih a (by simp at hl; omega))
  rw [← wrap_id (bkF_in l)]
  exact h _ l rfl
theorem valB_dec (u : Nat) : valB (Lib.decDigits u) = -(u : Int) := by
  induction u using Nat.strongRecOn with
  | _ u ih =>
    rw [decDigits_rec]
    split
    · rename_i h
      unfold valB
      rw [List.foldl_cons, List.foldl_nil, dig_nat u h]
      omega
    · rename_i h
      rw [valB_snoc, ih (u / 10) (by omega), dig_nat _ (Nat.mod_lt _ (by decide))]
      omega
theorem itoa_parts (n : Int) : (n < 0 ∧ frB (Lib.itoa n) = 1 ∧ dgB (Lib.itoa n) = Lib.decDigits n.natAbs) ∨ (0 ≤ n ∧ frB (Lib.itoa n) = 0 ∧ dgB (Lib.itoa n) = Lib.decDigits n.natAbs) := by
  by_cases hneg : n < 0
  · obtain ⟨u, rfl⟩ : ∃ u : Nat, n = -(u : Int) := ⟨n.natAbs, by omega⟩
    have e : frB (Lib.itoa (-(u : Int))) = 1 := by
      rw [Lib.itoa_neg u (by omega)]
      unfold frB
      rw [if_pos (by simp)]
    refine .inl ⟨hneg, e, ?_⟩
    unfold dgB
    rw [e, Lib.itoa_neg u (by omega), show (-(u : Int)).natAbs = u by omega]
    rfl
  · obtain ⟨u, rfl⟩ : ∃ u : Nat, n = u := ⟨n.toNat, by omega⟩
    have e : frB (Lib.itoa (u : Int)) = 0 := by
      rw [Lib.itoa_nonneg]
      have hm := decDigits_mem u
      unfold frB
      cases hd : Lib.decDigits u with
      | nil => exact absurd hd (decDigits_ne u)
      | cons c r =>
        rw [hd] at hm
        have hc := hm c (List.mem_cons_self ..)
        rw [if_neg]
        simp
        omega
    refine .inr ⟨by omega, e, ?_⟩
    unfold dgB
    rw [e, Lib.itoa_nonneg, show ((u : Int)).natAbs = u by omega]
    rfl
theorem backV_itoa (n : Int) (hn : in64 n) : backV (Lib.itoa n) = n := by
  unfold backV
  rcases itoa_parts n with ⟨h, e, hd⟩ | ⟨h, e, hd⟩
  · rw [e, if_neg (by decide), hd, bkF_val, valB_dec, wrap_id] <;> (try unfold in64 at *) <;> omega
  · rw [e, if_pos rfl, hd, bkF_val, valB_dec]
    unfold in64 at hn
    simp only [IntKind.wrap_i64]
    omega
/-- A numeral has digits behind its sign. -/
theorem itoa_dig (n : Int) (hn : in64 n) {s : List UInt8} (h : s = Lib.itoa n) : s.length ≤ 20 ∧ ∀ i, i < (dgB s).length → 48 ≤ ((dgB s).getD i 0).toNat ∧ ((dgB s).getD i 0).toNat ≤ 57 := by
  subst h
  refine ⟨itoa_len n hn, fun i hi => ?_⟩
  have hd : dgB (Lib.itoa n) = Lib.decDigits n.natAbs := by
    rcases itoa_parts n with ⟨_, _, hd⟩ | ⟨_, _, hd⟩ <;> exact hd
  rw [hd] at hi ⊢
  apply decDigits_mem n.natAbs
  rw [List.getD_eq_getElem?_getD, List.getElem?_eq_getElem hi]
  exact List.getElem_mem hi
theorem frB_le (s : List UInt8) : frB s ≤ s.length := by
  unfold frB
  split
  · rename_i h
    rw [Bool.and_eq_true, decide_eq_true_eq] at h
    omega
  · omega
theorem dgB_len (s : List UInt8) : (dgB s).length = s.length - frB s := by
  unfold dgB
  rw [List.length_drop]
theorem dgB_get (s : List UInt8) (k : Nat) : (dgB s).getD k 0 = s.getD (frB s + k) 0 := by
  unfold dgB
  rw [List.getD_eq_getElem?_getD, List.getD_eq_getElem?_getD, List.getElem?_drop]
theorem back_end {s : List UInt8} {v : Int} (hv : v = backV s) : BackR s v (decide (intS v = s ++ [59])) := by
  subst hv
  have h : (intS (backV s) = s ++ [59]) ↔ s = Lib.itoa (backV s) := by
    unfold intS
    constructor
    · intro h
      exact (List.append_inj_left' h rfl).symm
    · intro h
      rw [← h]
  refine ⟨fun hb => ?_, fun hb m hm he => ?_⟩
  · refine ⟨h.1 (of_decide_eq_true hb), ?_⟩
    unfold backV
    split
    · exact wrap_in _
    · exact bkF_in _
  · apply of_decide_eq_false hb
    apply h.2
    rw [he, backV_itoa m hm]
theorem back_bad {s : List UInt8} {k : Nat} (hk : frB s + k < s.length) (h : ¬(48 ≤ (s.getD (frB s + k) 0).toNat ∧ (s.getD (frB s + k) 0).toNat ≤ 57) ∨ 20 < frB s + k) : BackR s 0 false := by
  refine ⟨fun hb => (by cases hb), fun _ m hm he => ?_⟩
  obtain ⟨h1, h2⟩ := itoa_dig m hm he
  have := h2 k (by rw [dgB_len]; omega)
  rw [dgB_get] at this
  rcases h with h | h
  · exact h this
  · omega

theorem back_ok (s : List UInt8) (hs : s.length ≤ 9223372036854775000) : APure Tryd.prog 64 [.str s] (fun rs => ∃ v b, rs = [.val (.int .i64 v), .val (.bool b)] ∧ BackR s v b) := by
  have hf := frB_le s
  have hdl := dgB_len s
  have hbv : backV s = if frB s = 0 then IntKind.i64.wrap (0 - bkF (dgB s)) else bkF (dgB s) := rfl
  have hfd : frB s = if (decide (0 < (s.length : Int)) && decide (((s.getD 0 0).toNat : Int) = 45)) = true then 1 else 0 := rfl
  refine apure_of (C := cxW 54 [0, 2, 3, 4, 5, 6, 14, 19, 35, 45]) (cxWOk _ _) Tryd.func64 rfl (by decide) rfl (by exact Nat.le_of_ble_eq_true rfl) (by decide) ?_
  conv => whnf
  refine And.intro (fun h => ⟨by omega, of_decide_eq_true h⟩) ?_
  conv => whnf
  refine ⟨fun hc => ?_, fun hc => ?_⟩
  · have e : frB s = 1 := by rw [hfd]; exact if_pos hc
    conv => whnf
    refine loop_up (cxWOk _ _) (s.length - frB s) (fun _ => True) (fun k => ⟨[(0, .str s), (4, .int .i64 ((frB s : Nat) : Int)), (5, .int .i64 (bkF ((dgB s).take k))), (6, .int .i64 ((frB s + k : Nat) : Int))], [], 0⟩) trivial ((wk_of [] rfl ⟨.base (.tree _ _ rfl rfl), .base (.tree _ _ (show AV.int .i64 _ = AV.int .i64 _ by rw [e]; rfl) rfl), .base (.tree _ _ rfl rfl), .base (.tree _ _ (show AV.int .i64 _ = AV.int .i64 _ by rw [e]; rfl) rfl), trivial⟩ trivial)) ?_
    intro k hk _
    conv => whnf
    refine ⟨fun hd => ?_, fun hd => ?_⟩
    · have hkl : frB s + k < s.length := by
        have := of_decide_eq_true hd
        omega
      have hek : ((frB s + k : Nat) : Int).toNat = frB s + k := Int.toNat_natCast _
      have htk : (dgB s).take (k + 1) = (dgB s).take k ++ [s.getD (frB s + k) 0] := by
        rw [take_getD (d := 0) (by omega), dgB_get]
      conv => whnf
      repeat (first | (refine And.intro ⟨by omega, by omega⟩ ?_; conv => whnf) | (refine And.intro (by omega) (And.intro rfl ?_); conv => whnf) | (refine And.intro rfl ?_; conv => whnf) | (refine And.intro (fun _ => ⟨by omega, by omega⟩) ?_; conv => whnf) | (refine And.intro (fun _ => by omega) (And.intro rfl ?_); conv => whnf) | (refine And.intro ⟨(by first | omega | (simp; omega)), (by first | omega | (simp; omega))⟩ ?_; conv => whnf) | (refine Exists.intro _ (And.intro rfl (And.intro (by first | omega | (simp; omega)) (And.intro ⟨rfl, rfl, rfl, rfl, rfl⟩ ?_))); conv => whnf) | (refine And.intro ⟨rfl, rfl⟩ (And.intro (by first | omega | (simp; omega)) ?_); conv => whnf) | (refine Exists.intro _ (And.intro rfl ?_); conv => whnf) | (refine And.intro (fun _ => ?_) (fun h => absurd h (by decide)); conv => whnf) | (refine And.intro (fun h => absurd h (by decide)) (fun _ => ?_); conv => whnf) | (refine .quiet (by kernel_rfl) ?_; conv => whnf))
      rw [hek]
      refine ⟨fun hb => ?_, fun hb => ?_⟩
      · conv => whnf
        refine ⟨0, false, rfl, back_bad hkl ?_⟩
        simp only [Bool.or_eq_true, decide_eq_true_eq] at hb
        omega
      · simp only [Bool.or_eq_false_iff, decide_eq_false_iff_not] at hb
        have hu8 : IntKind.u8.wrap (((s.getD (frB s + k) 0).toNat : Int) - 48) = ((s.getD (frB s + k) 0).toNat : Int) - 48 := IntWalk.u8_in _ (by omega)
        conv => whnf
        repeat (first | (refine And.intro ⟨by omega, by omega⟩ ?_; conv => whnf) | (refine And.intro (by omega) (And.intro rfl ?_); conv => whnf) | (refine And.intro rfl ?_; conv => whnf) | (refine And.intro (fun _ => ⟨by omega, by omega⟩) ?_; conv => whnf) | (refine And.intro (fun _ => by omega) (And.intro rfl ?_); conv => whnf) | (refine And.intro ⟨(by first | omega | (simp; omega)), (by first | omega | (simp; omega))⟩ ?_; conv => whnf) | (refine Exists.intro _ (And.intro rfl (And.intro (by first | omega | (simp; omega)) (And.intro ⟨rfl, rfl, rfl, rfl, rfl⟩ ?_))); conv => whnf) | (refine And.intro ⟨rfl, rfl⟩ (And.intro (by first | omega | (simp; omega)) ?_); conv => whnf) | (refine Exists.intro _ (And.intro rfl ?_); conv => whnf) | (refine And.intro (fun _ => ?_) (fun h => absurd h (by decide)); conv => whnf) | (refine And.intro (fun h => absurd h (by decide)) (fun _ => ?_); conv => whnf) | (refine .quiet (by kernel_rfl) ?_; conv => whnf))
        rw [hek, hu8]
        refine And.intro ⟨by omega, by omega⟩ ?_
        conv => whnf
        repeat (first | (refine And.intro ⟨by omega, by omega⟩ ?_; conv => whnf) | (refine And.intro (by omega) (And.intro rfl ?_); conv => whnf) | (refine And.intro rfl ?_; conv => whnf) | (refine And.intro (fun _ => ⟨by omega, by omega⟩) ?_; conv => whnf) | (refine And.intro (fun _ => by omega) (And.intro rfl ?_); conv => whnf) | (refine And.intro ⟨(by first | omega | (simp; omega)), (by first | omega | (simp; omega))⟩ ?_; conv => whnf) | (refine Exists.intro _ (And.intro rfl (And.intro (by first | omega | (simp; omega)) (And.intro ⟨rfl, rfl, rfl, rfl, rfl⟩ ?_))); conv => whnf) | (refine And.intro ⟨rfl, rfl⟩ (And.intro (by first | omega | (simp; omega)) ?_); conv => whnf) | (refine Exists.intro _ (And.intro rfl ?_); conv => whnf) | (refine And.intro (fun _ => ?_) (fun h => absurd h (by decide)); conv => whnf) | (refine And.intro (fun h => absurd h (by decide)) (fun _ => ?_); conv => whnf) | (refine .quiet (by kernel_rfl) ?_; conv => whnf))
        refine up (by omega) trivial ((wk_of [] rfl ⟨.base (.tree _ _ rfl rfl), .base (.tree _ _ rfl rfl), .base (.tree _ _ (show AV.int .i64 _ = AV.int .i64 _ by rw [htk, bkF_snoc, wrap_wrap]) rfl), .base (.tree _ _ (show AV.int .i64 _ = AV.int .i64 _ by rw [wrap_id (by unfold in64; omega)]; congr 1) rfl), trivial⟩ trivial))
    · have hkl : frB s + k = s.length := by
        have := of_decide_eq_false hd
        omega
      have htk : (dgB s).take k = dgB s := List.take_of_length_le (by omega)
      rw [htk]
      conv => whnf
      refine ⟨fun h0 => ?_, fun h0 => ?_⟩
      · have h0 := of_decide_eq_true h0
        rw [if_pos (by omega)] at hbv
        have hbi : in64 (backV s) := by rw [hbv]; exact wrap_in _
        have hi := rint_enc (backV s) hbi
        have hil := itoa_len (backV s) hbi
        conv => whnf
        rw [← hbv]
        refine .one _ _ _ (fun _ => hi) (by repeat (first | exact .nil | (apply BorL.cons; first | exact lS rfl | exact lR rfl | exact lM rfl rfl | exact lL rfl | exact lX rfl | exact lN | exact lNl | exact lSm rfl | exact lIm rfl | exact lP rfl | exact lQ rfl | exact lB rfl rfl rfl))) (by first | exact .inl rfl | exact .inr (by repeat (first | exact flats_nil | refine flats_cons (by first | exact flat_val _ rfl | exact flat_row (fun _ => rfl) | exact flat_lst (fun _ => rfl)) ?_))) (by first | exact .inl rfl | exact .inr rfl) ?_
        conv => whnf
        refine And.intro (show ((s.length + 1 : Nat) : Int) ≤ 9223372036854775807 by omega) ?_
        conv => whnf
        exact ⟨_, _, rfl, back_end rfl⟩
      · have h0 := of_decide_eq_false h0
        rw [if_neg (by omega)] at hbv
        have hbi : in64 (backV s) := by rw [hbv]; exact bkF_in _
        have hi := rint_enc (backV s) hbi
        conv => whnf
        rw [← hbv]
        refine .one _ _ _ (fun _ => hi) (by repeat (first | exact .nil | (apply BorL.cons; first | exact lS rfl | exact lR rfl | exact lM rfl rfl | exact lL rfl | exact lX rfl | exact lN | exact lNl | exact lSm rfl | exact lIm rfl | exact lP rfl | exact lQ rfl | exact lB rfl rfl rfl))) (by first | exact .inl rfl | exact .inr (by repeat (first | exact flats_nil | refine flats_cons (by first | exact flat_val _ rfl | exact flat_row (fun _ => rfl) | exact flat_lst (fun _ => rfl)) ?_))) (by first | exact .inl rfl | exact .inr rfl) ?_
        conv => whnf
        refine And.intro (show ((s.length + 1 : Nat) : Int) ≤ 9223372036854775807 by omega) ?_
        conv => whnf
        exact ⟨_, _, rfl, back_end rfl⟩
  · have e : frB s = 0 := by rw [hfd]; exact if_neg (fun h => (by have := hc.symm.trans h; cases this))
    conv => whnf
    refine loop_up (cxWOk _ _) (s.length - frB s) (fun _ => True) (fun k => ⟨[(0, .str s), (4, .int .i64 ((frB s : Nat) : Int)), (5, .int .i64 (bkF ((dgB s).take k))), (6, .int .i64 ((frB s + k : Nat) : Int))], [], 0⟩) trivial ((wk_of [] rfl ⟨.base (.tree _ _ rfl rfl), .base (.tree _ _ (show AV.int .i64 _ = AV.int .i64 _ by rw [e]; rfl) rfl), .base (.tree _ _ rfl rfl), .base (.tree _ _ (show AV.int .i64 _ = AV.int .i64 _ by rw [e]; rfl) rfl), trivial⟩ trivial)) ?_
    intro k hk _
    conv => whnf
    refine ⟨fun hd => ?_, fun hd => ?_⟩
    · have hkl : frB s + k < s.length := by
        have := of_decide_eq_true hd
        omega
      have hek : ((frB s + k : Nat) : Int).toNat = frB s + k := Int.toNat_natCast _
      have htk : (dgB s).take (k + 1) = (dgB s).take k ++ [s.getD (frB s + k) 0] := by
        rw [take_getD (d := 0) (by omega), dgB_get]
      conv => whnf
      repeat (first | (refine And.intro ⟨by omega, by omega⟩ ?_; conv => whnf) | (refine And.intro (by omega) (And.intro rfl ?_); conv => whnf) | (refine And.intro rfl ?_; conv => whnf) | (refine And.intro (fun _ => ⟨by omega, by omega⟩) ?_; conv => whnf) | (refine And.intro (fun _ => by omega) (And.intro rfl ?_); conv => whnf) | (refine And.intro ⟨(by first | omega | (simp; omega)), (by first | omega | (simp; omega))⟩ ?_; conv => whnf) | (refine Exists.intro _ (And.intro rfl (And.intro (by first | omega | (simp; omega)) (And.intro ⟨rfl, rfl, rfl, rfl, rfl⟩ ?_))); conv => whnf) | (refine And.intro ⟨rfl, rfl⟩ (And.intro (by first | omega | (simp; omega)) ?_); conv => whnf) | (refine Exists.intro _ (And.intro rfl ?_); conv => whnf) | (refine And.intro (fun _ => ?_) (fun h => absurd h (by decide)); conv => whnf) | (refine And.intro (fun h => absurd h (by decide)) (fun _ => ?_); conv => whnf) | (refine .quiet (by kernel_rfl) ?_; conv => whnf))
      rw [hek]
      refine ⟨fun hb => ?_, fun hb => ?_⟩
      · conv => whnf
        refine ⟨0, false, rfl, back_bad hkl ?_⟩
        simp only [Bool.or_eq_true, decide_eq_true_eq] at hb
        omega
      · simp only [Bool.or_eq_false_iff, decide_eq_false_iff_not] at hb
        have hu8 : IntKind.u8.wrap (((s.getD (frB s + k) 0).toNat : Int) - 48) = ((s.getD (frB s + k) 0).toNat : Int) - 48 := IntWalk.u8_in _ (by omega)
        conv => whnf
        repeat (first | (refine And.intro ⟨by omega, by omega⟩ ?_; conv => whnf) | (refine And.intro (by omega) (And.intro rfl ?_); conv => whnf) | (refine And.intro rfl ?_; conv => whnf) | (refine And.intro (fun _ => ⟨by omega, by omega⟩) ?_; conv => whnf) | (refine And.intro (fun _ => by omega) (And.intro rfl ?_); conv => whnf) | (refine And.intro ⟨(by first | omega | (simp; omega)), (by first | omega | (simp; omega))⟩ ?_; conv => whnf) | (refine Exists.intro _ (And.intro rfl (And.intro (by first | omega | (simp; omega)) (And.intro ⟨rfl, rfl, rfl, rfl, rfl⟩ ?_))); conv => whnf) | (refine And.intro ⟨rfl, rfl⟩ (And.intro (by first | omega | (simp; omega)) ?_); conv => whnf) | (refine Exists.intro _ (And.intro rfl ?_); conv => whnf) | (refine And.intro (fun _ => ?_) (fun h => absurd h (by decide)); conv => whnf) | (refine And.intro (fun h => absurd h (by decide)) (fun _ => ?_); conv => whnf) | (refine .quiet (by kernel_rfl) ?_; conv => whnf))
        rw [hek, hu8]
        refine And.intro ⟨by omega, by omega⟩ ?_
        conv => whnf
        repeat (first | (refine And.intro ⟨by omega, by omega⟩ ?_; conv => whnf) | (refine And.intro (by omega) (And.intro rfl ?_); conv => whnf) | (refine And.intro rfl ?_; conv => whnf) | (refine And.intro (fun _ => ⟨by omega, by omega⟩) ?_; conv => whnf) | (refine And.intro (fun _ => by omega) (And.intro rfl ?_); conv => whnf) | (refine And.intro ⟨(by first | omega | (simp; omega)), (by first | omega | (simp; omega))⟩ ?_; conv => whnf) | (refine Exists.intro _ (And.intro rfl (And.intro (by first | omega | (simp; omega)) (And.intro ⟨rfl, rfl, rfl, rfl, rfl⟩ ?_))); conv => whnf) | (refine And.intro ⟨rfl, rfl⟩ (And.intro (by first | omega | (simp; omega)) ?_); conv => whnf) | (refine Exists.intro _ (And.intro rfl ?_); conv => whnf) | (refine And.intro (fun _ => ?_) (fun h => absurd h (by decide)); conv => whnf) | (refine And.intro (fun h => absurd h (by decide)) (fun _ => ?_); conv => whnf) | (refine .quiet (by kernel_rfl) ?_; conv => whnf))
        refine up (by omega) trivial ((wk_of [] rfl ⟨.base (.tree _ _ rfl rfl), .base (.tree _ _ rfl rfl), .base (.tree _ _ (show AV.int .i64 _ = AV.int .i64 _ by rw [htk, bkF_snoc, wrap_wrap]) rfl), .base (.tree _ _ (show AV.int .i64 _ = AV.int .i64 _ by rw [wrap_id (by unfold in64; omega)]; congr 1) rfl), trivial⟩ trivial))
    · have hkl : frB s + k = s.length := by
        have := of_decide_eq_false hd
        omega
      have htk : (dgB s).take k = dgB s := List.take_of_length_le (by omega)
      rw [htk]
      conv => whnf
      refine ⟨fun h0 => ?_, fun h0 => ?_⟩
      · have h0 := of_decide_eq_true h0
        rw [if_pos (by omega)] at hbv
        have hbi : in64 (backV s) := by rw [hbv]; exact wrap_in _
        have hi := rint_enc (backV s) hbi
        have hil := itoa_len (backV s) hbi
        conv => whnf
        rw [← hbv]
        refine .one _ _ _ (fun _ => hi) (by repeat (first | exact .nil | (apply BorL.cons; first | exact lS rfl | exact lR rfl | exact lM rfl rfl | exact lL rfl | exact lX rfl | exact lN | exact lNl | exact lSm rfl | exact lIm rfl | exact lP rfl | exact lQ rfl | exact lB rfl rfl rfl))) (by first | exact .inl rfl | exact .inr (by repeat (first | exact flats_nil | refine flats_cons (by first | exact flat_val _ rfl | exact flat_row (fun _ => rfl) | exact flat_lst (fun _ => rfl)) ?_))) (by first | exact .inl rfl | exact .inr rfl) ?_
        conv => whnf
        refine And.intro (show ((s.length + 1 : Nat) : Int) ≤ 9223372036854775807 by omega) ?_
        conv => whnf
        exact ⟨_, _, rfl, back_end rfl⟩
      · have h0 := of_decide_eq_false h0
        rw [if_neg (by omega)] at hbv
        have hbi : in64 (backV s) := by rw [hbv]; exact bkF_in _
        have hi := rint_enc (backV s) hbi
        conv => whnf
        rw [← hbv]
        refine .one _ _ _ (fun _ => hi) (by repeat (first | exact .nil | (apply BorL.cons; first | exact lS rfl | exact lR rfl | exact lM rfl rfl | exact lL rfl | exact lX rfl | exact lN | exact lNl | exact lSm rfl | exact lIm rfl | exact lP rfl | exact lQ rfl | exact lB rfl rfl rfl))) (by first | exact .inl rfl | exact .inr (by repeat (first | exact flats_nil | refine flats_cons (by first | exact flat_val _ rfl | exact flat_row (fun _ => rfl) | exact flat_lst (fun _ => rfl)) ?_))) (by first | exact .inl rfl | exact .inr rfl) ?_
        conv => whnf
        refine And.intro (show ((s.length + 1 : Nat) : Int) ≤ 9223372036854775807 by omega) ?_
        conv => whnf
        exact ⟨_, _, rfl, back_end rfl⟩

end Go.Proofs.YthepodkgphnibaaDoor

namespace Go.Proofs.YthepodkgphnibaaDoor
open Go.Own

/-! ### The reference's way to read a number -/
abbrev mn : Int := -9223372036854775808
theorem at_end {n : Int} {c : UInt8} {s r : List UInt8} (h : s = Lib.itoa n ++ c :: r) : (Lib.itoa n).length < s.length ∧ s.getD (Lib.itoa n).length 0 = c ∧ s.take (Lib.itoa n).length = Lib.itoa n := by
  subst h
  refine ⟨by simp, by simp, by simp⟩
theorem at_in {n : Int} {c : UInt8} {s r : List UInt8} (h : s = Lib.itoa n ++ c :: r) {k : Nat} (hk : k < (Lib.itoa n).length) : (s.getD k 0).toNat ≤ 57 := by
  subst h
  apply itoa_mem n
  rw [List.getD_eq_getElem?_getD, List.getElem?_append_left hk, List.getElem?_eq_getElem hk]
  exact List.getElem_mem hk
theorem ahead_no {c : Int} {s : List UInt8} (h : ∀ i, i < s.length → i < 21 → s.getD i 0 ≠ cb c) : numR c mn s = none := by
  cases hn : numR c mn s with
  | none => rfl
  | some x =>
    obtain ⟨h1, h2, _⟩ := numR_inv (n := x.1) (r := x.2) hn
    obtain ⟨h3, h4, _⟩ := at_end h1
    have := itoa_len x.1 h2
    exact absurd h4 (h _ h3 (by omega))
theorem ahead_bad {c : Int} {s : List UInt8} {k : Nat} (hc : EndB c) (h : ∀ i, i < k → s.getD i 0 ≠ cb c) (he : s.getD k 0 = cb c) (hb : ∀ m, in64 m → s.take k ≠ Lib.itoa m) : numR c mn s = none := by
  cases hn : numR c mn s with
  | none => rfl
  | some x =>
    obtain ⟨h1, h2, _⟩ := numR_inv (n := x.1) (r := x.2) hn
    obtain ⟨h3, h4, h5⟩ := at_end h1
    by_cases hlt : k < (Lib.itoa x.1).length
    · have := at_in h1 hlt
      rw [he] at this
      unfold EndB at hc
      unfold cb at this
      omega
    · by_cases hgt : (Lib.itoa x.1).length < k
      · exact absurd h4 (h _ hgt)
      · have : k = (Lib.itoa x.1).length := by omega
        subst this
        exact absurd h5 (hb _ h2)
theorem ahead_good {c : Int} {s : List UInt8} {k : Nat} {v : Int} (hc : EndB c) (hk : k < s.length) (he : s.getD k 0 = cb c) (hv : s.take k = Lib.itoa v) (hi : in64 v) : numR c mn s = some (v, s.drop (k + 1)) := by
  have e : s = Lib.itoa v ++ cb c :: s.drop (k + 1) := by
    rw [← hv]
    have e2 : s.drop k = cb c :: s.drop (k + 1) := by
      rw [List.drop_eq_getElem_cons hk, ← he, List.getD_eq_getElem?_getD, List.getElem?_eq_getElem hk]
      rfl
    rw [← e2, List.take_append_drop]
  have := numR_back c mn v (s.drop (k + 1)) hi hi.1 hc
  rw [← e] at this
  exact this
theorem numR_zero {c : Int} (s : List UInt8) (hc : EndB c) : numR c 0 s = (numR c mn s).bind (fun x => if x.1 < 0 then none else some x) := by
  have h0 : ∀ x : Int × List UInt8, numR c 0 s = some x → numR c mn s = some x ∧ 0 ≤ x.1 := fun x hx => by
    obtain ⟨h1, h2, h3⟩ := numR_inv (n := x.1) (r := x.2) hx
    have := numR_back c mn x.1 x.2 h2 h2.1 hc
    rw [← h1] at this
    exact ⟨this, h3⟩
  cases hn : numR c mn s with
  | none =>
    cases h : numR c 0 s with
    | none => rfl
    | some x => rw [(h0 x h).1] at hn; cases hn
  | some y =>
    show _ = if y.1 < 0 then none else some y
    by_cases hy : y.1 < 0
    · rw [if_pos hy]
      cases h : numR c 0 s with
      | none => rfl
      | some x =>
        obtain ⟨h1, h2⟩ := h0 x h
        rw [h1] at hn
        cases hn
        omega
    · rw [if_neg hy]
      obtain ⟨h1, h2, h3⟩ := numR_inv (n := y.1) (r := y.2) hn
      have := numR_back c 0 y.1 y.2 h2 (by omega) hc
      rw [← h1] at this
      exact this
theorem numQ_zero {c : Int} (q : RS) (hc : EndB c) : numQ c 0 q = if (numQ c mn q).1 < 0 then (0, ⟨[], true⟩) else numQ c mn q := by
  unfold numQ
  rw [numR_zero q.rest hc]
  cases hn : numR c mn q.rest with
  | none => rfl
  | some x =>
    show (match (if x.1 < 0 then none else some x) with | some (n, r) => (n, RS.mk r q.bad) | none => (0, ⟨[], true⟩)) = if x.1 < 0 then (0, ⟨[], true⟩) else (x.1, ⟨x.2, q.bad⟩)
    split
    · rename_i h; split at h
      · cases h
      · cases h; rw [if_neg (by assumption)]
    · rename_i h; split at h
      · rw [if_pos (by assumption)]
      · cases h
theorem closeR_cases (e : UInt8) (s : List UInt8) : closeR [e] s = if s.getD 0 0 = e ∧ 0 < s.length then some (s.drop 1) else none := by
  cases s with
  | nil => 
    cases h : closeR [e] [] with
    | none => simp
    | some r => exact absurd (closeR_inv h) (by simp)
  | cons a r =>
    by_cases ha : a = e
    · subst ha
      rw [closeR_back]
      simp
    · cases h : closeR [e] (a :: r) with
      | none => simp [ha]
      | some r' =>
        have := closeR_inv h
        simp only [List.cons.injEq] at this
        exact absurd this.1 ha

end Go.Proofs.YthepodkgphnibaaDoor

namespace Go.Proofs.YthepodkgphnibaaDoor
open Go.Own
set_option maxHeartbeats 1000000
set_option maxRecDepth 100000

/-! ### The reference's reader -/
abbrev qo (q : RS) : AB := .cells 61 [.str q.rest, .bool q.bad]
theorem numQ_none {c least : Int} {s : List UInt8} (b : Bool) (h : numR c least s = none) : numQ c least ⟨s, b⟩ = (0, ⟨[], true⟩) := by
  unfold numQ
  rw [h]
theorem numQ_some {c least n : Int} {s r : List UInt8} (b : Bool) (h : numR c least s = some (n, r)) : numQ c least ⟨s, b⟩ = (n, ⟨r, b⟩) := by
  unfold numQ
  rw [h]

theorem qopen_ok (s : List UInt8) : APure Tryd.prog 32 [.str s] (fun rs => rs = [.new (.cells 61 [.str s, .bool false])]) := by
  refine apure_of (C := cx 6 [0, 2]) (cxOk _ _) Tryd.func32 rfl (by decide) rfl (by exact Nat.le_of_ble_eq_true rfl) (by decide) ?_
  conv => whnf
  rfl
theorem qfail_ok (s : List UInt8) (b : Bool) : AIO Tryd.prog 56 [.ptr 0 0] [.cells 61 [.str s, .bool b]] (fun bs rs => bs = [.cells 61 [.str [], .bool true]] ∧ rs = [.val (.int .i64 0)]) := by
  refine aio_of (C := cxP 1 9 [0, 2]) (cxPOk _ _ _) Tryd.func56 rfl (by decide) rfl (by exact Nat.le_of_ble_eq_true rfl) (by decide) rfl rfl ?_
  conv => whnf
  exact ⟨rfl, rfl⟩
theorem qleft_ok (s : List UInt8) (b : Bool) : APureV Tryd.prog 40 [.rop [.str s, .bool b]] (.int .i64 s.length) := by
  refine apure_of (C := cx 8 [0, 2]) (cxOk _ _) Tryd.func40 rfl (by decide) rfl (by exact Nat.le_of_ble_eq_true rfl) (by decide) ?_
  conv => whnf
  rfl
theorem qdone_ok (s : List UInt8) (b : Bool) : APureV Tryd.prog 41 [.rop [.str s, .bool b]] (.bool (!b && decide (s = []))) := by
  refine apure_of (C := cx 15 [0, 2]) (cxOk _ _) Tryd.func41 rfl (by decide) rfl (by exact Nat.le_of_ble_eq_true rfl) (by decide) ?_
  conv => whnf
  rfl
theorem qtail_ok (q : RS) : AIO Tryd.prog 43 [.ptr 0 0] [qo q] (fun bs rs => bs = [qo ⟨[], q.bad⟩] ∧ rs = [.val (.str q.rest)]) := by
  refine aio_of (C := cxP 1 12 [0, 2, 3]) (cxPOk _ _ _) Tryd.func43 rfl (by decide) rfl (by exact Nat.le_of_ble_eq_true rfl) (by decide) rfl rfl ?_
  conv => whnf
  exact ⟨rfl, rfl⟩

theorem ahead_ok (c : Int) (hc : 0 ≤ c ∧ c ≤ 255) (he : EndB c) (q : RS) (hs : q.rest.length ≤ 9223372036854775000) : AIO Tryd.prog 55 [.ptr 0 0, .int .u8 c] [qo q] (fun bs rs => bs = [qo (numQ c mn q).2] ∧ rs = [.val (.int .i64 (numQ c mn q).1)]) := by
  obtain ⟨s, b⟩ := q
  replace hs : s.length ≤ 9223372036854775000 := hs
  have hcb : ((cb c).toNat : Int) = c := by
    unfold cb
    rw [Nat.toUInt8_eq, UInt8.toNat_ofNat']
    omega
  have hce : ∀ x : UInt8, (x.toNat : Int) = c ↔ x = cb c := fun x => by
    constructor
    · intro h
      exact UInt8.toNat_inj.1 (by omega)
    · intro h
      rw [h, hcb]
  refine aio_of (C := cxP 1 75 [0, 1, 4, 5, 6, 7, 28, 37, 47, 61]) (cxPOk _ _ _) Tryd.func55 rfl (by decide) rfl (by exact Nat.le_of_ble_eq_true rfl) (by decide) rfl rfl ?_
  conv => whnf
  refine loop_up (cxPOk _ _ _) 21 (fun k => k ≤ s.length ∧ ∀ i, i < k → s.getD i 0 ≠ cb c) (fun k => ⟨[(0, .ptr 0 0), (1, .int .u8 c), (5, .int .i64 (k : Nat))], [(0, .cells 61 [.str s, .bool b])], 1⟩) ⟨Nat.zero_le _, fun i hi => absurd hi (Nat.not_lt_zero _)⟩ ((wk_of [(0, .id 0)] rfl ⟨.base (.ptr _ _ _ rfl), .base (.tree _ _ rfl rfl), .base (.tree _ _ rfl rfl), trivial⟩ ⟨⟨_, rfl, .cells _ _ _ _ rfl (by repeat (first | exact .nil | refine .cons (by first | exact .base (.tree _ _ rfl rfl) | exact .base (.own _ _ rfl) | exact .base (.ptr _ _ _ rfl) | exact .base (.map _ _ rfl) | exact .base (.nilown _ rfl)) ?_)) rfl⟩, trivial⟩)) ?_
  intro k hk hP
  obtain ⟨hk1, hP⟩ := hP
  have hek : (k : Int).toNat = k := Int.toNat_natCast k
  conv => whnf
  refine And.intro (fun h => ⟨by omega, ?_⟩) ?_
  · have h' : (decide ((k : Int) < (s.length : Int)) && decide ((k : Int) < 21)) = true := h
    rw [Bool.and_eq_true, decide_eq_true_eq] at h'
    exact h'.1
  conv => whnf
  rw [hek]
  refine ⟨fun hd => ?_, fun hd => ?_⟩
  · simp only [Bool.and_eq_true, decide_eq_true_eq, Bool.not_eq_true', decide_eq_false_iff_not, hce] at hd
    conv => whnf
    repeat (first | (refine And.intro ⟨by omega, by omega⟩ ?_; conv => whnf) | (refine And.intro (by omega) (And.intro rfl ?_); conv => whnf) | (refine And.intro rfl ?_; conv => whnf) | (refine And.intro (fun _ => ⟨by omega, by omega⟩) ?_; conv => whnf) | (refine And.intro (fun _ => by omega) (And.intro rfl ?_); conv => whnf) | (refine And.intro ⟨(by first | omega | (simp; omega)), (by first | omega | (simp; omega))⟩ ?_; conv => whnf) | (refine Exists.intro _ (And.intro rfl (And.intro (by first | omega | (simp; omega)) (And.intro ⟨rfl, rfl, rfl, rfl, rfl⟩ ?_))); conv => whnf) | (refine And.intro ⟨rfl, rfl⟩ (And.intro (by first | omega | (simp; omega)) ?_); conv => whnf) | (refine Exists.intro _ (And.intro rfl ?_); conv => whnf) | (refine And.intro (fun _ => ?_) (fun h => absurd h (by decide)); conv => whnf) | (refine And.intro (fun h => absurd h (by decide)) (fun _ => ?_); conv => whnf) | (refine .quiet (by kernel_rfl) ?_; conv => whnf))
    refine up (by omega) ⟨by omega, fun i hi => ?_⟩ ((wk_of [(0, .id 0)] rfl ⟨.base (.ptr _ _ _ rfl), .base (.tree _ _ rfl rfl), .base (.tree _ _ rfl rfl), trivial⟩ ⟨⟨_, rfl, .cells _ _ _ _ rfl (by repeat (first | exact .nil | refine .cons (by first | exact .base (.tree _ _ rfl rfl) | exact .base (.own _ _ rfl) | exact .base (.ptr _ _ _ rfl) | exact .base (.map _ _ rfl) | exact .base (.nilown _ rfl)) ?_)) rfl⟩, trivial⟩))
    by_cases h : i = k
    · rw [h]; exact hd.2
    · exact hP i (by omega)
  · conv => whnf
    refine ⟨fun h1 => ?_, fun h1 => ?_⟩
    · have h1 := of_decide_eq_true h1
      have hn : numR c mn s = none := ahead_no (fun i h2 h3 => hP i (by omega))
      conv => whnf
      refine .raw _ _ rfl (fun h => by cases h) (callio_sem (qfail_ok s b) [0] _ rfl rfl ⟨rfl, trivial⟩ (by repeat (first | exact .nil | (apply BorL.cons; first | exact .map _ _ rfl | exact .ptr _ _ _ rfl | exact .own _ _ rfl | exact .fnp _ _ _ _ rfl | (apply BorIO.lend; first | exact lS rfl | exact lR rfl | exact lM rfl rfl | exact lL rfl | exact lX rfl | exact lN | exact lNl | exact lSm rfl | exact lIm rfl | exact lP rfl | exact lQ rfl | exact lB rfl rfl rfl)))) rfl (by first | exact .inl rfl | exact .inr (fun b rs h => by obtain ⟨rfl, rfl⟩ := h; exact ⟨by repeat (first | exact flats_nil | refine flats_cons (by first | exact flat_val _ rfl | exact flat_row (fun _ => rfl) | exact flat_lst (fun _ => rfl)) ?_), by repeat (first | exact flats0 | refine flats1 (by first | exact flatB_row (fun _ => rfl) | exact flatB_lst (fun _ => rfl) | exact flatB_smap (fun _ => rfl) | exact flatB_imap (fun _ => rfl) | exact flatB_cells rfl) ?_)⟩))) ?_
      rintro w ⟨b', rs, ⟨rfl, rfl⟩, rfl⟩
      refine ⟨tn_ge _ _, ?_⟩
      conv => whnf
      rw [numQ_none b hn]
      exact ⟨rfl, rfl⟩
    · have h1 := of_decide_eq_false h1
      conv => whnf
      repeat (first | (refine And.intro ⟨by omega, by omega⟩ ?_; conv => whnf) | (refine And.intro (by omega) (And.intro rfl ?_); conv => whnf) | (refine And.intro rfl ?_; conv => whnf) | (refine And.intro (fun _ => ⟨by omega, by omega⟩) ?_; conv => whnf) | (refine And.intro (fun _ => by omega) (And.intro rfl ?_); conv => whnf) | (refine And.intro ⟨(by first | omega | (simp; omega)), (by first | omega | (simp; omega))⟩ ?_; conv => whnf) | (refine Exists.intro _ (And.intro rfl (And.intro (by first | omega | (simp; omega)) (And.intro ⟨rfl, rfl, rfl, rfl, rfl⟩ ?_))); conv => whnf) | (refine And.intro ⟨rfl, rfl⟩ (And.intro (by first | omega | (simp; omega)) ?_); conv => whnf) | (refine Exists.intro _ (And.intro rfl ?_); conv => whnf) | (refine And.intro (fun _ => ?_) (fun h => absurd h (by decide)); conv => whnf) | (refine And.intro (fun h => absurd h (by decide)) (fun _ => ?_); conv => whnf) | (refine .quiet (by kernel_rfl) ?_; conv => whnf))
      rw [hek]
      refine ⟨fun h2 => ?_, fun h2 => ?_⟩
      · simp only [Bool.not_eq_true', decide_eq_false_iff_not] at h2
        simp only [Bool.and_eq_false_iff, Bool.not_eq_false', decide_eq_true_eq, decide_eq_false_iff_not] at hd
        have hn : numR c mn s = none := ahead_no (fun i h3 h4 => hP i (by omega))
        conv => whnf
        refine .raw _ _ rfl (fun h => by cases h) (callio_sem (qfail_ok s b) [0] _ rfl rfl ⟨rfl, trivial⟩ (by repeat (first | exact .nil | (apply BorL.cons; first | exact .map _ _ rfl | exact .ptr _ _ _ rfl | exact .own _ _ rfl | exact .fnp _ _ _ _ rfl | (apply BorIO.lend; first | exact lS rfl | exact lR rfl | exact lM rfl rfl | exact lL rfl | exact lX rfl | exact lN | exact lNl | exact lSm rfl | exact lIm rfl | exact lP rfl | exact lQ rfl | exact lB rfl rfl rfl)))) rfl (by first | exact .inl rfl | exact .inr (fun b rs h => by obtain ⟨rfl, rfl⟩ := h; exact ⟨by repeat (first | exact flats_nil | refine flats_cons (by first | exact flat_val _ rfl | exact flat_row (fun _ => rfl) | exact flat_lst (fun _ => rfl)) ?_), by repeat (first | exact flats0 | refine flats1 (by first | exact flatB_row (fun _ => rfl) | exact flatB_lst (fun _ => rfl) | exact flatB_smap (fun _ => rfl) | exact flatB_imap (fun _ => rfl) | exact flatB_cells rfl) ?_)⟩))) ?_
        rintro w ⟨b', rs, ⟨rfl, rfl⟩, rfl⟩
        refine ⟨tn_ge _ _, ?_⟩
        conv => whnf
        rw [numQ_none b hn]
        exact ⟨rfl, rfl⟩
      · have h2 : s.getD k 0 = cb c := by
          simp only [Bool.not_eq_false', decide_eq_true_eq] at h2
          exact (hce _).1 h2
        have hb := back_ok (s.take k) (by rw [List.length_take]; omega)
        conv => whnf
        repeat (first | (refine And.intro ⟨by omega, by omega⟩ ?_; conv => whnf) | (refine And.intro (by omega) (And.intro rfl ?_); conv => whnf) | (refine And.intro rfl ?_; conv => whnf) | (refine And.intro (fun _ => ⟨by omega, by omega⟩) ?_; conv => whnf) | (refine And.intro (fun _ => by omega) (And.intro rfl ?_); conv => whnf) | (refine And.intro ⟨(by first | omega | (simp; omega)), (by first | omega | (simp; omega))⟩ ?_; conv => whnf) | (refine Exists.intro _ (And.intro rfl (And.intro (by first | omega | (simp; omega)) (And.intro ⟨rfl, rfl, rfl, rfl, rfl⟩ ?_))); conv => whnf) | (refine And.intro ⟨rfl, rfl⟩ (And.intro (by first | omega | (simp; omega)) ?_); conv => whnf) | (refine Exists.intro _ (And.intro rfl ?_); conv => whnf) | (refine And.intro (fun _ => ?_) (fun h => absurd h (by decide)); conv => whnf) | (refine And.intro (fun h => absurd h (by decide)) (fun _ => ?_); conv => whnf) | (refine .quiet (by kernel_rfl) ?_; conv => whnf))
        simp only [Option.map_none, Option.map_some, cut]
        rw [hek]
        refine .any _ _ _ ⟨rfl, rfl⟩ (hb) (by repeat (first | exact .nil | (apply BorL.cons; first | exact lS rfl | exact lR rfl | exact lM rfl rfl | exact lL rfl | exact lX rfl | exact lN | exact lNl | exact lSm rfl | exact lIm rfl | exact lP rfl | exact lQ rfl | exact lB rfl rfl rfl))) (by first | exact .inl rfl | exact .inr (by repeat (first | exact flats_nil | refine flats_cons (by first | exact flat_val _ rfl | exact flat_row (fun _ => rfl) | exact flat_lst (fun _ => rfl)) ?_))) ?_
        rintro rs ⟨v, b', rfl, hB⟩
        conv => whnf
        refine ⟨fun h3 => ?_, fun h3 => ?_⟩
        · have hn : numR c mn s = none := ahead_bad he hP h2 (hB.2 (by simpa using h3))
          conv => whnf
          refine .raw _ _ rfl (fun h => by cases h) (callio_sem (qfail_ok s b) [0] _ rfl rfl ⟨rfl, trivial⟩ (by repeat (first | exact .nil | (apply BorL.cons; first | exact .map _ _ rfl | exact .ptr _ _ _ rfl | exact .own _ _ rfl | exact .fnp _ _ _ _ rfl | (apply BorIO.lend; first | exact lS rfl | exact lR rfl | exact lM rfl rfl | exact lL rfl | exact lX rfl | exact lN | exact lNl | exact lSm rfl | exact lIm rfl | exact lP rfl | exact lQ rfl | exact lB rfl rfl rfl)))) rfl (by first | exact .inl rfl | exact .inr (fun b rs h => by obtain ⟨rfl, rfl⟩ := h; exact ⟨by repeat (first | exact flats_nil | refine flats_cons (by first | exact flat_val _ rfl | exact flat_row (fun _ => rfl) | exact flat_lst (fun _ => rfl)) ?_), by repeat (first | exact flats0 | refine flats1 (by first | exact flatB_row (fun _ => rfl) | exact flatB_lst (fun _ => rfl) | exact flatB_smap (fun _ => rfl) | exact flatB_imap (fun _ => rfl) | exact flatB_cells rfl) ?_)⟩))) ?_
          rintro w ⟨b', rs, ⟨rfl, rfl⟩, rfl⟩
          refine ⟨tn_ge _ _, ?_⟩
          conv => whnf
          rw [numQ_none b hn]
          exact ⟨rfl, rfl⟩
        · obtain ⟨hv, hi⟩ := hB.1 (by simpa using h3)
          have hn := ahead_good he (by omega) h2 hv hi
          conv => whnf
          repeat (first | (refine And.intro ⟨by omega, by omega⟩ ?_; conv => whnf) | (refine And.intro (by omega) (And.intro rfl ?_); conv => whnf) | (refine And.intro rfl ?_; conv => whnf) | (refine And.intro (fun _ => ⟨by omega, by omega⟩) ?_; conv => whnf) | (refine And.intro (fun _ => by omega) (And.intro rfl ?_); conv => whnf) | (refine And.intro ⟨(by first | omega | (simp; omega)), (by first | omega | (simp; omega))⟩ ?_; conv => whnf) | (refine Exists.intro _ (And.intro rfl (And.intro (by first | omega | (simp; omega)) (And.intro ⟨rfl, rfl, rfl, rfl, rfl⟩ ?_))); conv => whnf) | (refine And.intro ⟨rfl, rfl⟩ (And.intro (by first | omega | (simp; omega)) ?_); conv => whnf) | (refine Exists.intro _ (And.intro rfl ?_); conv => whnf) | (refine And.intro (fun _ => ?_) (fun h => absurd h (by decide)); conv => whnf) | (refine And.intro (fun h => absurd h (by decide)) (fun _ => ?_); conv => whnf) | (refine .quiet (by kernel_rfl) ?_; conv => whnf))
          rw [numQ_some b hn]
          have he1 : ((k : Int) + 1).toNat = k + 1 := by omega
          refine ⟨?_, rfl⟩
          show [AB.cells 61 [.str (s.drop ((k : Int) + 1).toNat), .bool b]] = _
          rw [he1]

theorem qnumber_ok (c : Int) (hc : 0 ≤ c ∧ c ≤ 255) (he : EndB c) (q : RS) (hs : q.rest.length ≤ 9223372036854775000) : AIO Tryd.prog 54 [.ptr 0 0, .int .u8 c] [qo q] (fun bs rs => bs = [qo (numQ c 0 q).2] ∧ rs = [.val (.int .i64 (numQ c 0 q).1)]) := by
  have ha := ahead_ok c hc he q hs
  have hz := numQ_zero q he
  generalize numQ c mn q = x at *
  obtain ⟨n, r, b⟩ := x
  refine aio_of (C := cxP 1 14 [0, 1, 4, 5, 10]) (cxPOk _ _ _) Tryd.func54 rfl (by decide) rfl (by exact Nat.le_of_ble_eq_true rfl) (by decide) rfl rfl ?_
  conv => whnf
  refine .raw _ _ rfl (fun h => by cases h) (callio_sem (ha) [0] _ rfl rfl ⟨rfl, trivial⟩ (by repeat (first | exact .nil | (apply BorL.cons; first | exact .map _ _ rfl | exact .ptr _ _ _ rfl | exact .own _ _ rfl | exact .fnp _ _ _ _ rfl | (apply BorIO.lend; first | exact lS rfl | exact lR rfl | exact lM rfl rfl | exact lL rfl | exact lX rfl | exact lN | exact lNl | exact lSm rfl | exact lIm rfl | exact lP rfl | exact lQ rfl | exact lB rfl rfl rfl)))) rfl (by first | exact .inl rfl | exact .inr (fun b rs h => by obtain ⟨rfl, rfl⟩ := h; exact ⟨by repeat (first | exact flats_nil | refine flats_cons (by first | exact flat_val _ rfl | exact flat_row (fun _ => rfl) | exact flat_lst (fun _ => rfl)) ?_), by repeat (first | exact flats0 | refine flats1 (by first | exact flatB_row (fun _ => rfl) | exact flatB_lst (fun _ => rfl) | exact flatB_smap (fun _ => rfl) | exact flatB_imap (fun _ => rfl) | exact flatB_cells rfl) ?_)⟩))) ?_
  rintro w ⟨b', rs, ⟨rfl, rfl⟩, rfl⟩
  refine ⟨tn_ge _ _, ?_⟩
  conv => whnf
  refine ⟨fun hn => ?_, fun hn => ?_⟩
  · have hn : n < 0 := of_decide_eq_true hn
    conv => whnf
    refine .raw _ _ rfl (fun h => by cases h) (callio_sem (qfail_ok r b) [0] _ rfl rfl ⟨rfl, trivial⟩ (by repeat (first | exact .nil | (apply BorL.cons; first | exact .map _ _ rfl | exact .ptr _ _ _ rfl | exact .own _ _ rfl | exact .fnp _ _ _ _ rfl | (apply BorIO.lend; first | exact lS rfl | exact lR rfl | exact lM rfl rfl | exact lL rfl | exact lX rfl | exact lN | exact lNl | exact lSm rfl | exact lIm rfl | exact lP rfl | exact lQ rfl | exact lB rfl rfl rfl)))) rfl (by first | exact .inl rfl | exact .inr (fun b rs h => by obtain ⟨rfl, rfl⟩ := h; exact ⟨by repeat (first | exact flats_nil | refine flats_cons (by first | exact flat_val _ rfl | exact flat_row (fun _ => rfl) | exact flat_lst (fun _ => rfl)) ?_), by repeat (first | exact flats0 | refine flats1 (by first | exact flatB_row (fun _ => rfl) | exact flatB_lst (fun _ => rfl) | exact flatB_smap (fun _ => rfl) | exact flatB_imap (fun _ => rfl) | exact flatB_cells rfl) ?_)⟩))) ?_
    rintro w ⟨b', rs, ⟨rfl, rfl⟩, rfl⟩
    refine ⟨tn_ge _ _, ?_⟩
    conv => whnf
    rw [hz, if_pos hn]
    exact ⟨rfl, rfl⟩
  · have hn : ¬ n < 0 := of_decide_eq_false hn
    conv => whnf
    rw [hz, if_neg hn]
    exact ⟨rfl, rfl⟩
theorem qnum_ok (q : RS) (hs : q.rest.length ≤ 9223372036854775000) : AIO Tryd.prog 33 [.ptr 0 0] [qo q] (fun bs rs => bs = [qo (numQ 59 0 q).2] ∧ rs = [.val (.int .i64 (numQ 59 0 q).1)]) := by
  have ha := qnumber_ok 59 (by decide) (by unfold EndB; decide) q hs
  generalize numQ 59 0 q = x at *
  refine aio_of (C := cxP 1 5 [0, 2]) (cxPOk _ _ _) Tryd.func33 rfl (by decide) rfl (by exact Nat.le_of_ble_eq_true rfl) (by decide) rfl rfl ?_
  conv => whnf
  refine .raw _ _ rfl (fun h => by cases h) (callio_sem (ha) [0] _ rfl rfl ⟨rfl, trivial⟩ (by repeat (first | exact .nil | (apply BorL.cons; first | exact .map _ _ rfl | exact .ptr _ _ _ rfl | exact .own _ _ rfl | exact .fnp _ _ _ _ rfl | (apply BorIO.lend; first | exact lS rfl | exact lR rfl | exact lM rfl rfl | exact lL rfl | exact lX rfl | exact lN | exact lNl | exact lSm rfl | exact lIm rfl | exact lP rfl | exact lQ rfl | exact lB rfl rfl rfl)))) rfl (by first | exact .inl rfl | exact .inr (fun b rs h => by obtain ⟨rfl, rfl⟩ := h; exact ⟨by repeat (first | exact flats_nil | refine flats_cons (by first | exact flat_val _ rfl | exact flat_row (fun _ => rfl) | exact flat_lst (fun _ => rfl)) ?_), by repeat (first | exact flats0 | refine flats1 (by first | exact flatB_row (fun _ => rfl) | exact flatB_lst (fun _ => rfl) | exact flatB_smap (fun _ => rfl) | exact flatB_imap (fun _ => rfl) | exact flatB_cells rfl) ?_)⟩))) ?_
  rintro w ⟨b', rs, ⟨rfl, rfl⟩, rfl⟩
  refine ⟨tn_ge _ _, ?_⟩
  conv => whnf
  exact ⟨rfl, rfl⟩
theorem qint_ok (q : RS) (hs : q.rest.length ≤ 9223372036854775000) : AIO Tryd.prog 34 [.ptr 0 0] [qo q] (fun bs rs => bs = [qo (oneI q).2] ∧ rs = [.val (.int .i64 (oneI q).1)]) := by
  have ha := ahead_ok 59 (by decide) (by unfold EndB; decide) q hs
  show AIO Tryd.prog 34 [.ptr 0 0] [qo q] (fun bs rs => bs = [qo (numQ 59 mn q).2] ∧ rs = [.val (.int .i64 (numQ 59 mn q).1)])
  generalize numQ 59 mn q = x at *
  refine aio_of (C := cxP 1 5 [0, 2]) (cxPOk _ _ _) Tryd.func34 rfl (by decide) rfl (by exact Nat.le_of_ble_eq_true rfl) (by decide) rfl rfl ?_
  conv => whnf
  refine .raw _ _ rfl (fun h => by cases h) (callio_sem (ha) [0] _ rfl rfl ⟨rfl, trivial⟩ (by repeat (first | exact .nil | (apply BorL.cons; first | exact .map _ _ rfl | exact .ptr _ _ _ rfl | exact .own _ _ rfl | exact .fnp _ _ _ _ rfl | (apply BorIO.lend; first | exact lS rfl | exact lR rfl | exact lM rfl rfl | exact lL rfl | exact lX rfl | exact lN | exact lNl | exact lSm rfl | exact lIm rfl | exact lP rfl | exact lQ rfl | exact lB rfl rfl rfl)))) rfl (by first | exact .inl rfl | exact .inr (fun b rs h => by obtain ⟨rfl, rfl⟩ := h; exact ⟨by repeat (first | exact flats_nil | refine flats_cons (by first | exact flat_val _ rfl | exact flat_row (fun _ => rfl) | exact flat_lst (fun _ => rfl)) ?_), by repeat (first | exact flats0 | refine flats1 (by first | exact flatB_row (fun _ => rfl) | exact flatB_lst (fun _ => rfl) | exact flatB_smap (fun _ => rfl) | exact flatB_imap (fun _ => rfl) | exact flatB_cells rfl) ?_)⟩))) ?_
  rintro w ⟨b', rs, ⟨rfl, rfl⟩, rfl⟩
  refine ⟨tn_ge _ _, ?_⟩
  conv => whnf
  exact ⟨rfl, rfl⟩

theorem qclose_ok (c : Int) (hc : 0 ≤ c ∧ c ≤ 255) (s : List UInt8) (b : Bool) : AIO Tryd.prog 57 [.ptr 0 0, .int .u8 c] [.cells 61 [.str s, .bool b]] (fun bs rs => bs = [qo (match closeR [cb c] s with | some r => ⟨r, b⟩ | none => ⟨[], true⟩)] ∧ rs = [.val (.bool (closeR [cb c] s).isSome)]) := by
  have hcb : ((cb c).toNat : Int) = c := by
    unfold cb
    rw [Nat.toUInt8_eq, UInt8.toNat_ofNat']
    omega
  have hce : ∀ x : UInt8, (x.toNat : Int) = c ↔ x = cb c := fun x => by
    constructor
    · intro h
      exact UInt8.toNat_inj.1 (by omega)
    · intro h
      rw [h, hcb]
  have hr := closeR_cases (cb c) s
  refine aio_of (C := cxP 1 30 [0, 1, 4, 10, 19]) (cxPOk _ _ _) Tryd.func57 rfl (by decide) rfl (by exact Nat.le_of_ble_eq_true rfl) (by decide) rfl rfl ?_
  conv => whnf
  refine ⟨fun h1 => ?_, fun h1 => ?_⟩
  · have h1 := of_decide_eq_true h1
    rw [if_neg (by omega)] at hr
    conv => whnf
    refine .raw _ _ rfl (fun h => by cases h) (callio_sem (qfail_ok s b) [0] _ rfl rfl ⟨rfl, trivial⟩ (by repeat (first | exact .nil | (apply BorL.cons; first | exact .map _ _ rfl | exact .ptr _ _ _ rfl | exact .own _ _ rfl | exact .fnp _ _ _ _ rfl | (apply BorIO.lend; first | exact lS rfl | exact lR rfl | exact lM rfl rfl | exact lL rfl | exact lX rfl | exact lN | exact lNl | exact lSm rfl | exact lIm rfl | exact lP rfl | exact lQ rfl | exact lB rfl rfl rfl)))) rfl (by first | exact .inl rfl | exact .inr (fun b rs h => by obtain ⟨rfl, rfl⟩ := h; exact ⟨by repeat (first | exact flats_nil | refine flats_cons (by first | exact flat_val _ rfl | exact flat_row (fun _ => rfl) | exact flat_lst (fun _ => rfl)) ?_), by repeat (first | exact flats0 | refine flats1 (by first | exact flatB_row (fun _ => rfl) | exact flatB_lst (fun _ => rfl) | exact flatB_smap (fun _ => rfl) | exact flatB_imap (fun _ => rfl) | exact flatB_cells rfl) ?_)⟩))) ?_
    rintro w ⟨b', rs, ⟨rfl, rfl⟩, rfl⟩
    refine ⟨tn_ge _ _, ?_⟩
    conv => whnf
    rw [hr]
    exact ⟨rfl, rfl⟩
  · have h1 := of_decide_eq_false h1
    conv => whnf
    repeat (first | (refine And.intro ⟨by omega, by omega⟩ ?_; conv => whnf) | (refine And.intro (by omega) (And.intro rfl ?_); conv => whnf) | (refine And.intro rfl ?_; conv => whnf) | (refine And.intro (fun _ => ⟨by omega, by omega⟩) ?_; conv => whnf) | (refine And.intro (fun _ => by omega) (And.intro rfl ?_); conv => whnf) | (refine And.intro ⟨(by first | omega | (simp; omega)), (by first | omega | (simp; omega))⟩ ?_; conv => whnf) | (refine Exists.intro _ (And.intro rfl (And.intro (by first | omega | (simp; omega)) (And.intro ⟨rfl, rfl, rfl, rfl, rfl⟩ ?_))); conv => whnf) | (refine And.intro ⟨rfl, rfl⟩ (And.intro (by first | omega | (simp; omega)) ?_); conv => whnf) | (refine Exists.intro _ (And.intro rfl ?_); conv => whnf) | (refine And.intro (fun _ => ?_) (fun h => absurd h (by decide)); conv => whnf) | (refine And.intro (fun h => absurd h (by decide)) (fun _ => ?_); conv => whnf) | (refine .quiet (by kernel_rfl) ?_; conv => whnf))
    refine ⟨fun h2 => ?_, fun h2 => ?_⟩
    · simp only [Bool.not_eq_true', decide_eq_false_iff_not, hce] at h2
      rw [if_neg (fun h => h2 h.1)] at hr
      conv => whnf
      refine .raw _ _ rfl (fun h => by cases h) (callio_sem (qfail_ok s b) [0] _ rfl rfl ⟨rfl, trivial⟩ (by repeat (first | exact .nil | (apply BorL.cons; first | exact .map _ _ rfl | exact .ptr _ _ _ rfl | exact .own _ _ rfl | exact .fnp _ _ _ _ rfl | (apply BorIO.lend; first | exact lS rfl | exact lR rfl | exact lM rfl rfl | exact lL rfl | exact lX rfl | exact lN | exact lNl | exact lSm rfl | exact lIm rfl | exact lP rfl | exact lQ rfl | exact lB rfl rfl rfl)))) rfl (by first | exact .inl rfl | exact .inr (fun b rs h => by obtain ⟨rfl, rfl⟩ := h; exact ⟨by repeat (first | exact flats_nil | refine flats_cons (by first | exact flat_val _ rfl | exact flat_row (fun _ => rfl) | exact flat_lst (fun _ => rfl)) ?_), by repeat (first | exact flats0 | refine flats1 (by first | exact flatB_row (fun _ => rfl) | exact flatB_lst (fun _ => rfl) | exact flatB_smap (fun _ => rfl) | exact flatB_imap (fun _ => rfl) | exact flatB_cells rfl) ?_)⟩))) ?_
      rintro w ⟨b', rs, ⟨rfl, rfl⟩, rfl⟩
      refine ⟨tn_ge _ _, ?_⟩
      conv => whnf
      rw [hr]
      exact ⟨rfl, rfl⟩
    · simp only [Bool.not_eq_false', decide_eq_true_eq, hce] at h2
      rw [if_pos ⟨h2, by omega⟩] at hr
      conv => whnf
      refine And.intro ⟨by omega, by omega, by omega⟩ ?_
      conv => whnf
      rw [hr]
      exact ⟨rfl, rfl⟩
theorem qclose_some {c : Int} (hc : 0 ≤ c ∧ c ≤ 255) {s r : List UInt8} {b : Bool} (h : closeR [cb c] s = some r) : AIO Tryd.prog 57 [.ptr 0 0, .int .u8 c] [.cells 61 [.str s, .bool b]] (fun bs rs => bs = [.cells 61 [.str r, .bool b]] ∧ rs = [.val (.bool true)]) := by
  have := qclose_ok c hc s b
  rw [h] at this
  exact this
theorem qclose_none {c : Int} (hc : 0 ≤ c ∧ c ≤ 255) {s : List UInt8} {b : Bool} (h : closeR [cb c] s = none) : AIO Tryd.prog 57 [.ptr 0 0, .int .u8 c] [.cells 61 [.str s, .bool b]] (fun bs rs => bs = [.cells 61 [.str [], .bool true]] ∧ rs = [.val (.bool false)]) := by
  have := qclose_ok c hc s b
  rw [h] at this
  exact this

theorem closeR_nil (e : UInt8) : closeR [e] [] = none := by
  rw [closeR_cases, if_neg (by simp)]
theorem textQ_out (q : RS) (hd : Dead q) (h : (numQ 58 0 q).2.bad = true ∨ ((numQ 58 0 q).2.rest.length : Int) ≤ (numQ 58 0 q).1) : textQ q = ([], ⟨[], true⟩) := by
  unfold textQ
  simp only
  split
  · rfl
  · rename_i hlt
    have hnil : (numQ 58 0 q).2.rest.drop (numQ 58 0 q).1.toNat = [] := by
      rcases h with h | h
      · rw [numQ_dead 58 0 q hd h]
        exact List.drop_nil
      · rw [List.drop_eq_nil_iff]
        omega
    rw [hnil, closeR_nil]
theorem qtext_ok (q : RS) (hd : Dead q) (hs : q.rest.length ≤ 9223372036854775000) : AIO Tryd.prog 35 [.ptr 0 0] [qo q] (fun bs rs => bs = [qo (textQ q).2] ∧ rs = [.val (.str (textQ q).1)]) := by
  have hn := qnumber_ok 58 (by decide) (by unfold EndB; decide) q hs
  obtain ⟨h0, h1⟩ := numQ_le 58 0 q (Int.le_refl _)
  have hout := textQ_out q hd
  have hin : textQ q = if ((numQ 58 0 q).2.rest.length : Int) < (numQ 58 0 q).1 then ([], ⟨[], true⟩)
    else match closeR [44] ((numQ 58 0 q).2.rest.drop (numQ 58 0 q).1.toNat) with
    | some r => (if (numQ 58 0 q).2.bad = true then [] else (numQ 58 0 q).2.rest.take (numQ 58 0 q).1.toNat, ⟨r, (numQ 58 0 q).2.bad⟩)
    | none => ([], ⟨[], true⟩) := rfl
  generalize numQ 58 0 q = x at *
  obtain ⟨n, r, b⟩ := x
  simp only at h0 h1 hout hin
  replace hn : AIO Tryd.prog 54 [.ptr 0 0, .int .u8 58] [qo q] (fun bs rs => bs = [.cells 61 [.str r, .bool b]] ∧ rs = [.val (.int .i64 n)]) := hn
  refine aio_of (C := cxP 1 41 [0, 2, 3, 4, 19, 39]) (cxPOk _ _ _) Tryd.func35 rfl (by decide) rfl (by exact Nat.le_of_ble_eq_true rfl) (by decide) rfl rfl ?_
  conv => whnf
  refine .raw _ _ rfl (fun h => by cases h) (callio_sem (hn) [0] _ rfl rfl ⟨rfl, trivial⟩ (by repeat (first | exact .nil | (apply BorL.cons; first | exact .map _ _ rfl | exact .ptr _ _ _ rfl | exact .own _ _ rfl | exact .fnp _ _ _ _ rfl | (apply BorIO.lend; first | exact lS rfl | exact lR rfl | exact lM rfl rfl | exact lL rfl | exact lX rfl | exact lN | exact lNl | exact lSm rfl | exact lIm rfl | exact lP rfl | exact lQ rfl | exact lB rfl rfl rfl)))) rfl (by first | exact .inl rfl | exact .inr (fun b rs h => by obtain ⟨rfl, rfl⟩ := h; exact ⟨by repeat (first | exact flats_nil | refine flats_cons (by first | exact flat_val _ rfl | exact flat_row (fun _ => rfl) | exact flat_lst (fun _ => rfl)) ?_), by repeat (first | exact flats0 | refine flats1 (by first | exact flatB_row (fun _ => rfl) | exact flatB_lst (fun _ => rfl) | exact flatB_smap (fun _ => rfl) | exact flatB_imap (fun _ => rfl) | exact flatB_cells rfl) ?_)⟩))) ?_
  rintro w ⟨b', rs, ⟨rfl, rfl⟩, rfl⟩
  refine ⟨tn_ge _ _, ?_⟩
  conv => whnf
  repeat (first | (refine And.intro ⟨by omega, by omega⟩ ?_; conv => whnf) | (refine And.intro (by omega) (And.intro rfl ?_); conv => whnf) | (refine And.intro rfl ?_; conv => whnf) | (refine And.intro (fun _ => ⟨by omega, by omega⟩) ?_; conv => whnf) | (refine And.intro (fun _ => by omega) (And.intro rfl ?_); conv => whnf) | (refine And.intro ⟨(by first | omega | (simp; omega)), (by first | omega | (simp; omega))⟩ ?_; conv => whnf) | (refine Exists.intro _ (And.intro rfl (And.intro (by first | omega | (simp; omega)) (And.intro ⟨rfl, rfl, rfl, rfl, rfl⟩ ?_))); conv => whnf) | (refine And.intro ⟨rfl, rfl⟩ (And.intro (by first | omega | (simp; omega)) ?_); conv => whnf) | (refine Exists.intro _ (And.intro rfl ?_); conv => whnf) | (refine And.intro (fun _ => ?_) (fun h => absurd h (by decide)); conv => whnf) | (refine And.intro (fun h => absurd h (by decide)) (fun _ => ?_); conv => whnf) | (refine .quiet (by kernel_rfl) ?_; conv => whnf))
  refine ⟨fun hx => ?_, fun hx => ?_⟩
  · rw [Bool.or_eq_true, decide_eq_true_eq] at hx
    conv => whnf
    refine .raw _ _ rfl (fun h => by cases h) (callio_sem (qfail_ok r b) [0] _ rfl rfl ⟨rfl, trivial⟩ (by repeat (first | exact .nil | (apply BorL.cons; first | exact .map _ _ rfl | exact .ptr _ _ _ rfl | exact .own _ _ rfl | exact .fnp _ _ _ _ rfl | (apply BorIO.lend; first | exact lS rfl | exact lR rfl | exact lM rfl rfl | exact lL rfl | exact lX rfl | exact lN | exact lNl | exact lSm rfl | exact lIm rfl | exact lP rfl | exact lQ rfl | exact lB rfl rfl rfl)))) rfl (by first | exact .inl rfl | exact .inr (fun b rs h => by obtain ⟨rfl, rfl⟩ := h; exact ⟨by repeat (first | exact flats_nil | refine flats_cons (by first | exact flat_val _ rfl | exact flat_row (fun _ => rfl) | exact flat_lst (fun _ => rfl)) ?_), by repeat (first | exact flats0 | refine flats1 (by first | exact flatB_row (fun _ => rfl) | exact flatB_lst (fun _ => rfl) | exact flatB_smap (fun _ => rfl) | exact flatB_imap (fun _ => rfl) | exact flatB_cells rfl) ?_)⟩))) ?_
    rintro w ⟨b', rs, ⟨rfl, rfl⟩, rfl⟩
    refine ⟨tn_ge _ _, ?_⟩
    conv => whnf
    rw [hout hx]
    exact ⟨rfl, rfl⟩
  · rw [Bool.or_eq_false_iff, decide_eq_false_iff_not] at hx
    obtain ⟨rfl, hx⟩ := hx
    rw [if_neg (by omega)] at hin
    cases hcl : closeR [44] (r.drop n.toNat) with
    | some r' =>
      rw [hcl] at hin
      have hk := qclose_some (c := 44) (b := false) (by decide) hcl
      conv => whnf
      refine And.intro ⟨by omega, by omega, by omega⟩ ?_
      conv => whnf
      refine And.intro ⟨by omega, by omega, by omega⟩ ?_
      conv => whnf
      refine .raw _ _ rfl (fun h => by cases h) (callio_sem (hk) [0] _ rfl rfl ⟨rfl, trivial⟩ (by repeat (first | exact .nil | (apply BorL.cons; first | exact .map _ _ rfl | exact .ptr _ _ _ rfl | exact .own _ _ rfl | exact .fnp _ _ _ _ rfl | (apply BorIO.lend; first | exact lS rfl | exact lR rfl | exact lM rfl rfl | exact lL rfl | exact lX rfl | exact lN | exact lNl | exact lSm rfl | exact lIm rfl | exact lP rfl | exact lQ rfl | exact lB rfl rfl rfl)))) rfl (by first | exact .inl rfl | exact .inr (fun b rs h => by obtain ⟨rfl, rfl⟩ := h; exact ⟨by repeat (first | exact flats_nil | refine flats_cons (by first | exact flat_val _ rfl | exact flat_row (fun _ => rfl) | exact flat_lst (fun _ => rfl)) ?_), by repeat (first | exact flats0 | refine flats1 (by first | exact flatB_row (fun _ => rfl) | exact flatB_lst (fun _ => rfl) | exact flatB_smap (fun _ => rfl) | exact flatB_imap (fun _ => rfl) | exact flatB_cells rfl) ?_)⟩))) ?_
      rintro w ⟨b', rs, ⟨rfl, rfl⟩, rfl⟩
      refine ⟨tn_ge _ _, ?_⟩
      conv => whnf
      rw [hin]
      refine ⟨fun hb => ?_, fun hb => ?_⟩
      · cases hb
      · conv => whnf
        exact ⟨rfl, rfl⟩
    | none =>
      rw [hcl] at hin
      have hk := qclose_none (c := 44) (b := false) (by decide) hcl
      conv => whnf
      refine And.intro ⟨by omega, by omega, by omega⟩ ?_
      conv => whnf
      refine And.intro ⟨by omega, by omega, by omega⟩ ?_
      conv => whnf
      refine .raw _ _ rfl (fun h => by cases h) (callio_sem (hk) [0] _ rfl rfl ⟨rfl, trivial⟩ (by repeat (first | exact .nil | (apply BorL.cons; first | exact .map _ _ rfl | exact .ptr _ _ _ rfl | exact .own _ _ rfl | exact .fnp _ _ _ _ rfl | (apply BorIO.lend; first | exact lS rfl | exact lR rfl | exact lM rfl rfl | exact lL rfl | exact lX rfl | exact lN | exact lNl | exact lSm rfl | exact lIm rfl | exact lP rfl | exact lQ rfl | exact lB rfl rfl rfl)))) rfl (by first | exact .inl rfl | exact .inr (fun b rs h => by obtain ⟨rfl, rfl⟩ := h; exact ⟨by repeat (first | exact flats_nil | refine flats_cons (by first | exact flat_val _ rfl | exact flat_row (fun _ => rfl) | exact flat_lst (fun _ => rfl)) ?_), by repeat (first | exact flats0 | refine flats1 (by first | exact flatB_row (fun _ => rfl) | exact flatB_lst (fun _ => rfl) | exact flatB_smap (fun _ => rfl) | exact flatB_imap (fun _ => rfl) | exact flatB_cells rfl) ?_)⟩))) ?_
      rintro w ⟨b', rs, ⟨rfl, rfl⟩, rfl⟩
      refine ⟨tn_ge _ _, ?_⟩
      conv => whnf
      rw [hin]
      refine ⟨fun hb => ?_, fun hb => ?_⟩
      · conv => whnf
        exact ⟨rfl, rfl⟩
      · cases hb

theorem itemsQ_some {T : Type} {one : RS → T × RS} {q : RS} {r r' : List UInt8} {l : List T} {n : Int} {q1 : RS} (h1 : numQ 91 0 q = (n, q1)) (h2 : stK one q1 n.toNat = (⟨r, false⟩, l)) (h : closeR [93] r = some r') : itemsQ one q = (some l, ⟨r', false⟩) := by
  unfold itemsQ
  simp only [h1, h2, h]
  rfl
theorem itemsQ_none {T : Type} {one : RS → T × RS} {q : RS} {r : List UInt8} {b : Bool} {l : List T} {n : Int} {q1 : RS} (h1 : numQ 91 0 q = (n, q1)) (h2 : stK one q1 n.toNat = (⟨r, b⟩, l)) (h : closeR [93] r = none) : itemsQ one q = (none, ⟨[], true⟩) := by
  unfold itemsQ
  simp only [h1, h2, h]
theorem qnums_ok (q : RS) (hd : Dead q) (hs : q.rest.length ≤ 1000000000000) : AIO Tryd.prog 37 [.ptr 0 0] [qo q] (fun bs rs => bs = [qo (itemsQ oneI q).2] ∧ rs = [oneR encI 0 3 1 (itemsQ oneI q).1]) := by
  have hacc := accI q hs
  have hn := qnumber_ok 91 (by decide) (by unfold EndB; decide) q (by omega)
  obtain ⟨h0, h1⟩ := numQ_le 91 0 q (Int.le_refl _)
  have h2 := numQ_hi 91 0 q
  have hdd := stK_dead codecI _ (numQ_dead 91 0 q hd)
  generalize hx0 : numQ 91 0 q = x at *
  obtain ⟨n, q1⟩ := x
  replace hn : AIO Tryd.prog 54 [.ptr 0 0, .int .u8 91] [qo q] (fun bs rs => bs = [qo q1] ∧ rs = [.val (.int .i64 n)]) := hn
  simp only at h0 h1 h2 hacc hdd
  have hsr := stK_rest oneI_le q1
  have hss : ∀ k, stK oneI q1 (k + 1) = if (stK oneI q1 k).1.bad = true then stK oneI q1 k else ((oneI (stK oneI q1 k).1).2, (stK oneI q1 k).2 ++ [(oneI (stK oneI q1 k).1).1]) := fun _ => rfl
  have hst : ∀ k, (stK oneI q1 k).1.bad = true → ∀ s, stK oneI q1 (k + s) = stK oneI q1 k := fun k h => stK_stay h
  have hs0 : stK oneI q1 0 = (q1, []) := rfl
  generalize hZ : stK oneI q1 = Z at *
  refine aio_of (C := cxP 1 35 [0, 2, 3, 4, 5, 17, 33]) (cxPOk _ _ _) Tryd.func37 rfl (by decide) rfl (by exact Nat.le_of_ble_eq_true rfl) (by decide) rfl rfl ?_
  conv => whnf
  refine .raw _ _ rfl (fun h => by cases h) (callio_sem (hn) [0] _ rfl rfl ⟨rfl, trivial⟩ (by repeat (first | exact .nil | (apply BorL.cons; first | exact .map _ _ rfl | exact .ptr _ _ _ rfl | exact .own _ _ rfl | exact .fnp _ _ _ _ rfl | (apply BorIO.lend; first | exact lS rfl | exact lR rfl | exact lM rfl rfl | exact lL rfl | exact lX rfl | exact lN | exact lNl | exact lSm rfl | exact lIm rfl | exact lP rfl | exact lQ rfl | exact lB rfl rfl rfl)))) rfl (by first | exact .inl rfl | exact .inr (fun b rs h => by obtain ⟨rfl, rfl⟩ := h; exact ⟨by repeat (first | exact flats_nil | refine flats_cons (by first | exact flat_val _ rfl | exact flat_row (fun _ => rfl) | exact flat_lst (fun _ => rfl)) ?_), by repeat (first | exact flats0 | refine flats1 (by first | exact flatB_row (fun _ => rfl) | exact flatB_lst (fun _ => rfl) | exact flatB_smap (fun _ => rfl) | exact flatB_imap (fun _ => rfl) | exact flatB_cells rfl) ?_)⟩))) ?_
  rintro w ⟨b', rs, ⟨rfl, rfl⟩, rfl⟩
  refine ⟨tn_ge _ _, ?_⟩
  conv => whnf
  refine loop_up (cxPOk _ _ _) n.toNat (fun _ => True) (fun k => ⟨[(0, .ptr 0 0), (3, .int .i64 n), (4, .own 1), (5, .int .i64 ((k : Nat) : Int))], [(0, .cells 61 [.str (Z k).1.rest, .bool (Z k).1.bad]), (1, .row 3 1 encI 0 (Z k).2)], 2⟩) trivial (by
    rw [hs0]
    exact (wk_of [(0, .id 0), (1, .nil)] rfl ⟨.base (.ptr _ _ _ rfl), .base (.tree _ _ rfl rfl), (by first | exact .base (.own _ _ rfl) | exact .base (.nilown _ rfl) | exact .base (.trunc _ _ _ rfl)), .base (.tree _ _ rfl rfl), trivial⟩ ⟨⟨_, rfl, .cells _ _ _ _ rfl (by repeat (first | exact .nil | refine .cons (by first | exact .base (.tree _ _ rfl rfl) | exact .base (.own _ _ rfl) | exact .base (.ptr _ _ _ rfl) | exact .base (.map _ _ rfl) | exact .base (.nilown _ rfl)) ?_)) rfl⟩, ⟨_, rfl, (by first | exact .row _ _ _ _ _ _ _ rfl rfl | exact .lstrow _ _ _ _ _ _ _ rfl rfl | exact .nilrow _ _ _ _ _ rfl | exact .truncrow _ _ _ _ _ _ _ _ rfl (by omega) rfl)⟩, trivial⟩)) ?_
  intro k hk _
  have hsk := hss k
  have hrk := hsr k
  have hak := hacc k
  have hstk := hst k
  have hddk := hdd k
  generalize hzk : Z k = z at *
  obtain ⟨⟨r, b⟩, acc⟩ := z
  simp only at hsk hrk hak hstk hddk
  conv => whnf
  repeat (first | (refine And.intro ⟨by omega, by omega⟩ ?_; conv => whnf) | (refine And.intro (by omega) (And.intro rfl ?_); conv => whnf) | (refine And.intro rfl ?_; conv => whnf) | (refine And.intro (fun _ => ⟨by omega, by omega⟩) ?_; conv => whnf) | (refine And.intro (fun _ => by omega) (And.intro rfl ?_); conv => whnf) | (refine And.intro ⟨(by first | omega | (simp; omega)), (by first | omega | (simp; omega))⟩ ?_; conv => whnf) | (refine Exists.intro _ (And.intro rfl (And.intro (by first | omega | (simp; omega)) (And.intro ⟨rfl, rfl, rfl, rfl, rfl⟩ ?_))); conv => whnf) | (refine And.intro ⟨rfl, rfl⟩ (And.intro (by first | omega | (simp; omega)) ?_); conv => whnf) | (refine Exists.intro _ (And.intro rfl ?_); conv => whnf) | (refine And.intro (fun _ => ?_) (fun h => absurd h (by decide)); conv => whnf) | (refine And.intro (fun h => absurd h (by decide)) (fun _ => ?_); conv => whnf) | (refine .quiet (by kernel_rfl) ?_; conv => whnf))
  refine ⟨fun hc => ?_, fun hc => ?_⟩
  · replace hc : (decide ((k : Int) < n) && !b) = true := hc
    rw [Bool.and_eq_true, decide_eq_true_eq, Bool.not_eq_true'] at hc
    obtain ⟨hc1, rfl⟩ := hc
    rw [if_neg (by simp)] at hsk
    have hone := qint_ok ⟨r, false⟩ (show r.length ≤ 9223372036854775000 by omega)
    replace hone : AIO Tryd.prog 34 [.ptr 0 0] [.cells 61 [.str r, .bool false]] (fun bs rs => bs = [.cells 61 [.str (oneI ⟨r, false⟩).2.rest, .bool (oneI ⟨r, false⟩).2.bad]] ∧ rs = [.val (.int .i64 (oneI ⟨r, false⟩).1)]) := hone
    generalize oneI ⟨r, false⟩ = x at *
    conv => whnf
    refine .raw _ _ rfl (fun h => by cases h) (callio_sem (hone) [0] _ rfl rfl ⟨rfl, trivial⟩ (by repeat (first | exact .nil | (apply BorL.cons; first | exact .map _ _ rfl | exact .ptr _ _ _ rfl | exact .own _ _ rfl | exact .fnp _ _ _ _ rfl | (apply BorIO.lend; first | exact lS rfl | exact lR rfl | exact lM rfl rfl | exact lL rfl | exact lX rfl | exact lN | exact lNl | exact lSm rfl | exact lIm rfl | exact lP rfl | exact lQ rfl | exact lB rfl rfl rfl)))) rfl (by first | exact .inl rfl | exact .inr (fun b rs h => by obtain ⟨rfl, rfl⟩ := h; exact ⟨by repeat (first | exact flats_nil | refine flats_cons (by first | exact flat_val _ rfl | exact flat_row (fun _ => rfl) | exact flat_lst (fun _ => rfl)) ?_), by repeat (first | exact flats0 | refine flats1 (by first | exact flatB_row (fun _ => rfl) | exact flatB_lst (fun _ => rfl) | exact flatB_smap (fun _ => rfl) | exact flatB_imap (fun _ => rfl) | exact flatB_cells rfl) ?_)⟩))) ?_
    rintro w ⟨b', rs, ⟨rfl, rfl⟩, rfl⟩
    refine ⟨tn_ge _ _, ?_⟩
    conv => whnf
    refine And.intro rfl ?_
    conv => whnf
    refine And.intro ⟨rfl, rfl⟩ (And.intro (show (acc.length + 1) * 8 ≤ 140737488355328 by omega) ?_)
    conv => whnf
    refine ⟨x.1, rfl, ?_⟩
    conv => whnf
    repeat (first | (refine And.intro ⟨by omega, by omega⟩ ?_; conv => whnf) | (refine And.intro (by omega) (And.intro rfl ?_); conv => whnf) | (refine And.intro rfl ?_; conv => whnf) | (refine And.intro (fun _ => ⟨by omega, by omega⟩) ?_; conv => whnf) | (refine And.intro (fun _ => by omega) (And.intro rfl ?_); conv => whnf) | (refine And.intro ⟨(by first | omega | (simp; omega)), (by first | omega | (simp; omega))⟩ ?_; conv => whnf) | (refine Exists.intro _ (And.intro rfl (And.intro (by first | omega | (simp; omega)) (And.intro ⟨rfl, rfl, rfl, rfl, rfl⟩ ?_))); conv => whnf) | (refine And.intro ⟨rfl, rfl⟩ (And.intro (by first | omega | (simp; omega)) ?_); conv => whnf) | (refine Exists.intro _ (And.intro rfl ?_); conv => whnf) | (refine And.intro (fun _ => ?_) (fun h => absurd h (by decide)); conv => whnf) | (refine And.intro (fun h => absurd h (by decide)) (fun _ => ?_); conv => whnf) | (refine .quiet (by kernel_rfl) ?_; conv => whnf))
    have e1 : acc ++ [x.1] = (Z (k + 1)).2 := by rw [hsk]
    have e2 : x.2.rest = (Z (k + 1)).1.rest := by rw [hsk]
    have e3 : x.2.bad = (Z (k + 1)).1.bad := by rw [hsk]
    refine up (show k < n.toNat by omega) trivial ((wk_of [(0, .id 0), (1, .id 3)] rfl ⟨.base (.ptr _ _ _ rfl), .base (.tree _ _ rfl rfl), (by first | exact .base (.own _ _ rfl) | exact .base (.nilown _ rfl) | exact .base (.trunc _ _ _ rfl)), .base (.tree _ _ (show AV.int .i64 _ = AV.int .i64 _ by congr 1) rfl), trivial⟩ ⟨⟨_, rfl, .cells _ _ _ _ rfl (by repeat (first | exact .nil | refine .cons (by first | exact .base (.tree _ _ rfl rfl) | exact .base (.own _ _ rfl) | exact .base (.ptr _ _ _ rfl) | exact .base (.map _ _ rfl) | exact .base (.nilown _ rfl) | exact .base (.tree _ _ (by first | rw [e2] | rw [e3]) rfl)) ?_)) rfl⟩, ⟨_, rfl, (by first | exact .row _ _ _ _ _ _ _ rfl (e1) | exact .lstrow _ _ _ _ _ _ _ rfl (e1) | exact .nilrow _ _ _ _ _ (e1) | exact .truncrow _ _ _ _ _ _ _ _ rfl (by omega) (e1))⟩, trivial⟩))
  · replace hc : (decide ((k : Int) < n) && !b) = false := hc
    have hkn : Z n.toNat = (⟨r, b⟩, acc) := by
      rw [Bool.and_eq_false_iff, decide_eq_false_iff_not, Bool.not_eq_false'] at hc
      rcases hc with h | h
      · rw [show n.toNat = k by omega, hzk]
      · rw [show n.toNat = k + (n.toNat - k) by omega, hstk h]
    cases b with
    | true =>
      have hr := hddk rfl
      replace hr : r = [] := hr
      have hq := itemsQ_none (one := oneI) (r := r) (b := true) (l := acc) hx0 (by rw [hZ]; exact hkn) (by rw [hr]; exact closeR_nil 93)
      rw [hq]
      subst hr
      conv => whnf
      refine .one [.rop [.str [], .bool true], .int .u8 93] _ [.val (.bool true)] (fun h => (by have h0 : (false : Bool) = true := h; cases h0)) (by repeat (first | exact .nil | (apply BorL.cons; first | exact lS rfl | exact lR rfl | exact lM rfl rfl | exact lL rfl | exact lX rfl | exact lN | exact lNl | exact lSm rfl | exact lIm rfl | exact lP rfl | exact lQ rfl | exact lB rfl rfl rfl))) (by first | exact .inl rfl | exact .inr (by repeat (first | exact flats_nil | refine flats_cons (by first | exact flat_val _ rfl | exact flat_row (fun _ => rfl) | exact flat_lst (fun _ => rfl)) ?_))) (by first | exact .inl rfl | exact .inr rfl) ?_
      conv => whnf
      refine ⟨fun hb => ?_, fun hb => ?_⟩
      · conv => whnf
        exact ⟨rfl, rfl⟩
      · cases hb
    | false =>
      cases hcl : closeR [93] r with
      | some r' =>
        have hk2 := qclose_some (c := 93) (b := false) (by decide) hcl
        have hq := itemsQ_some (one := oneI) (r := r) (l := acc) hx0 (by rw [hZ]; exact hkn) hcl
        rw [hq]
        conv => whnf
        refine .raw _ _ rfl (fun h => by cases h) (callio_sem (hk2) [0] _ rfl rfl ⟨rfl, trivial⟩ (by repeat (first | exact .nil | (apply BorL.cons; first | exact .map _ _ rfl | exact .ptr _ _ _ rfl | exact .own _ _ rfl | exact .fnp _ _ _ _ rfl | (apply BorIO.lend; first | exact lS rfl | exact lR rfl | exact lM rfl rfl | exact lL rfl | exact lX rfl | exact lN | exact lNl | exact lSm rfl | exact lIm rfl | exact lP rfl | exact lQ rfl | exact lB rfl rfl rfl)))) rfl (by first | exact .inl rfl | exact .inr (fun b rs h => by obtain ⟨rfl, rfl⟩ := h; exact ⟨by repeat (first | exact flats_nil | refine flats_cons (by first | exact flat_val _ rfl | exact flat_row (fun _ => rfl) | exact flat_lst (fun _ => rfl)) ?_), by repeat (first | exact flats0 | refine flats1 (by first | exact flatB_row (fun _ => rfl) | exact flatB_lst (fun _ => rfl) | exact flatB_smap (fun _ => rfl) | exact flatB_imap (fun _ => rfl) | exact flatB_cells rfl) ?_)⟩))) ?_
        rintro w ⟨b', rs, ⟨rfl, rfl⟩, rfl⟩
        refine ⟨tn_ge _ _, ?_⟩
        conv => whnf
        refine ⟨fun hb => ?_, fun hb => ?_⟩
        · cases hb
        · conv => whnf
          exact ⟨rfl, rfl⟩
      | none =>
        have hk2 := qclose_none (c := 93) (b := false) (by decide) hcl
        have hq := itemsQ_none (one := oneI) (r := r) (l := acc) hx0 (by rw [hZ]; exact hkn) hcl
        rw [hq]
        conv => whnf
        refine .raw _ _ rfl (fun h => by cases h) (callio_sem (hk2) [0] _ rfl rfl ⟨rfl, trivial⟩ (by repeat (first | exact .nil | (apply BorL.cons; first | exact .map _ _ rfl | exact .ptr _ _ _ rfl | exact .own _ _ rfl | exact .fnp _ _ _ _ rfl | (apply BorIO.lend; first | exact lS rfl | exact lR rfl | exact lM rfl rfl | exact lL rfl | exact lX rfl | exact lN | exact lNl | exact lSm rfl | exact lIm rfl | exact lP rfl | exact lQ rfl | exact lB rfl rfl rfl)))) rfl (by first | exact .inl rfl | exact .inr (fun b rs h => by obtain ⟨rfl, rfl⟩ := h; exact ⟨by repeat (first | exact flats_nil | refine flats_cons (by first | exact flat_val _ rfl | exact flat_row (fun _ => rfl) | exact flat_lst (fun _ => rfl)) ?_), by repeat (first | exact flats0 | refine flats1 (by first | exact flatB_row (fun _ => rfl) | exact flatB_lst (fun _ => rfl) | exact flatB_smap (fun _ => rfl) | exact flatB_imap (fun _ => rfl) | exact flatB_cells rfl) ?_)⟩))) ?_
        rintro w ⟨b', rs, ⟨rfl, rfl⟩, rfl⟩
        refine ⟨tn_ge _ _, ?_⟩
        conv => whnf
        refine ⟨fun hb => ?_, fun hb => ?_⟩
        · conv => whnf
          exact ⟨rfl, rfl⟩
        · cases hb
theorem qtexts_ok (q : RS) (hd : Dead q) (hs : q.rest.length ≤ 1000000000000) : AIO Tryd.prog 39 [.ptr 0 0] [qo q] (fun bs rs => bs = [qo (itemsQ textQ q).2] ∧ rs = [oneR encS [] 9 1 (itemsQ textQ q).1]) := by
  have hacc := accT q hs
  have hn := qnumber_ok 91 (by decide) (by unfold EndB; decide) q (by omega)
  obtain ⟨h0, h1⟩ := numQ_le 91 0 q (Int.le_refl _)
  have h2 := numQ_hi 91 0 q
  have hdd := stK_dead codecT _ (numQ_dead 91 0 q hd)
  generalize hx0 : numQ 91 0 q = x at *
  obtain ⟨n, q1⟩ := x
  replace hn : AIO Tryd.prog 54 [.ptr 0 0, .int .u8 91] [qo q] (fun bs rs => bs = [qo q1] ∧ rs = [.val (.int .i64 n)]) := hn
  simp only at h0 h1 h2 hacc hdd
  have hsr := stK_rest textQ_le q1
  have hss : ∀ k, stK textQ q1 (k + 1) = if (stK textQ q1 k).1.bad = true then stK textQ q1 k else ((textQ (stK textQ q1 k).1).2, (stK textQ q1 k).2 ++ [(textQ (stK textQ q1 k).1).1]) := fun _ => rfl
  have hst : ∀ k, (stK textQ q1 k).1.bad = true → ∀ s, stK textQ q1 (k + s) = stK textQ q1 k := fun k h => stK_stay h
  have hs0 : stK textQ q1 0 = (q1, []) := rfl
  generalize hZ : stK textQ q1 = Z at *
  refine aio_of (C := cxP 1 35 [0, 2, 3, 4, 5, 17, 33]) (cxPOk _ _ _) Tryd.func39 rfl (by decide) rfl (by exact Nat.le_of_ble_eq_true rfl) (by decide) rfl rfl ?_
  conv => whnf
  refine .raw _ _ rfl (fun h => by cases h) (callio_sem (hn) [0] _ rfl rfl ⟨rfl, trivial⟩ (by repeat (first | exact .nil | (apply BorL.cons; first | exact .map _ _ rfl | exact .ptr _ _ _ rfl | exact .own _ _ rfl | exact .fnp _ _ _ _ rfl | (apply BorIO.lend; first | exact lS rfl | exact lR rfl | exact lM rfl rfl | exact lL rfl | exact lX rfl | exact lN | exact lNl | exact lSm rfl | exact lIm rfl | exact lP rfl | exact lQ rfl | exact lB rfl rfl rfl)))) rfl (by first | exact .inl rfl | exact .inr (fun b rs h => by obtain ⟨rfl, rfl⟩ := h; exact ⟨by repeat (first | exact flats_nil | refine flats_cons (by first | exact flat_val _ rfl | exact flat_row (fun _ => rfl) | exact flat_lst (fun _ => rfl)) ?_), by repeat (first | exact flats0 | refine flats1 (by first | exact flatB_row (fun _ => rfl) | exact flatB_lst (fun _ => rfl) | exact flatB_smap (fun _ => rfl) | exact flatB_imap (fun _ => rfl) | exact flatB_cells rfl) ?_)⟩))) ?_
  rintro w ⟨b', rs, ⟨rfl, rfl⟩, rfl⟩
  refine ⟨tn_ge _ _, ?_⟩
  conv => whnf
  refine loop_up (cxPOk _ _ _) n.toNat (fun _ => True) (fun k => ⟨[(0, .ptr 0 0), (3, .int .i64 n), (4, .own 1), (5, .int .i64 ((k : Nat) : Int))], [(0, .cells 61 [.str (Z k).1.rest, .bool (Z k).1.bad]), (1, .row 9 1 encS [] (Z k).2)], 2⟩) trivial (by
    rw [hs0]
    exact (wk_of [(0, .id 0), (1, .nil)] rfl ⟨.base (.ptr _ _ _ rfl), .base (.tree _ _ rfl rfl), (by first | exact .base (.own _ _ rfl) | exact .base (.nilown _ rfl) | exact .base (.trunc _ _ _ rfl)), .base (.tree _ _ rfl rfl), trivial⟩ ⟨⟨_, rfl, .cells _ _ _ _ rfl (by repeat (first | exact .nil | refine .cons (by first | exact .base (.tree _ _ rfl rfl) | exact .base (.own _ _ rfl) | exact .base (.ptr _ _ _ rfl) | exact .base (.map _ _ rfl) | exact .base (.nilown _ rfl)) ?_)) rfl⟩, ⟨_, rfl, (by first | exact .row _ _ _ _ _ _ _ rfl rfl | exact .lstrow _ _ _ _ _ _ _ rfl rfl | exact .nilrow _ _ _ _ _ rfl | exact .truncrow _ _ _ _ _ _ _ _ rfl (by omega) rfl)⟩, trivial⟩)) ?_
  intro k hk _
  have hsk := hss k
  have hrk := hsr k
  have hak := hacc k
  have hstk := hst k
  have hddk := hdd k
  generalize hzk : Z k = z at *
  obtain ⟨⟨r, b⟩, acc⟩ := z
  simp only at hsk hrk hak hstk hddk
  conv => whnf
  repeat (first | (refine And.intro ⟨by omega, by omega⟩ ?_; conv => whnf) | (refine And.intro (by omega) (And.intro rfl ?_); conv => whnf) | (refine And.intro rfl ?_; conv => whnf) | (refine And.intro (fun _ => ⟨by omega, by omega⟩) ?_; conv => whnf) | (refine And.intro (fun _ => by omega) (And.intro rfl ?_); conv => whnf) | (refine And.intro ⟨(by first | omega | (simp; omega)), (by first | omega | (simp; omega))⟩ ?_; conv => whnf) | (refine Exists.intro _ (And.intro rfl (And.intro (by first | omega | (simp; omega)) (And.intro ⟨rfl, rfl, rfl, rfl, rfl⟩ ?_))); conv => whnf) | (refine And.intro ⟨rfl, rfl⟩ (And.intro (by first | omega | (simp; omega)) ?_); conv => whnf) | (refine Exists.intro _ (And.intro rfl ?_); conv => whnf) | (refine And.intro (fun _ => ?_) (fun h => absurd h (by decide)); conv => whnf) | (refine And.intro (fun h => absurd h (by decide)) (fun _ => ?_); conv => whnf) | (refine .quiet (by kernel_rfl) ?_; conv => whnf))
  refine ⟨fun hc => ?_, fun hc => ?_⟩
  · replace hc : (decide ((k : Int) < n) && !b) = true := hc
    rw [Bool.and_eq_true, decide_eq_true_eq, Bool.not_eq_true'] at hc
    obtain ⟨hc1, rfl⟩ := hc
    rw [if_neg (by simp)] at hsk
    have hone := qtext_ok ⟨r, false⟩ (fun h => (by cases h)) (show r.length ≤ 9223372036854775000 by omega)
    replace hone : AIO Tryd.prog 35 [.ptr 0 0] [.cells 61 [.str r, .bool false]] (fun bs rs => bs = [.cells 61 [.str (textQ ⟨r, false⟩).2.rest, .bool (textQ ⟨r, false⟩).2.bad]] ∧ rs = [.val (.str (textQ ⟨r, false⟩).1)]) := hone
    generalize textQ ⟨r, false⟩ = x at *
    conv => whnf
    refine .raw _ _ rfl (fun h => by cases h) (callio_sem (hone) [0] _ rfl rfl ⟨rfl, trivial⟩ (by repeat (first | exact .nil | (apply BorL.cons; first | exact .map _ _ rfl | exact .ptr _ _ _ rfl | exact .own _ _ rfl | exact .fnp _ _ _ _ rfl | (apply BorIO.lend; first | exact lS rfl | exact lR rfl | exact lM rfl rfl | exact lL rfl | exact lX rfl | exact lN | exact lNl | exact lSm rfl | exact lIm rfl | exact lP rfl | exact lQ rfl | exact lB rfl rfl rfl)))) rfl (by first | exact .inl rfl | exact .inr (fun b rs h => by obtain ⟨rfl, rfl⟩ := h; exact ⟨by repeat (first | exact flats_nil | refine flats_cons (by first | exact flat_val _ rfl | exact flat_row (fun _ => rfl) | exact flat_lst (fun _ => rfl)) ?_), by repeat (first | exact flats0 | refine flats1 (by first | exact flatB_row (fun _ => rfl) | exact flatB_lst (fun _ => rfl) | exact flatB_smap (fun _ => rfl) | exact flatB_imap (fun _ => rfl) | exact flatB_cells rfl) ?_)⟩))) ?_
    rintro w ⟨b', rs, ⟨rfl, rfl⟩, rfl⟩
    refine ⟨tn_ge _ _, ?_⟩
    conv => whnf
    refine And.intro rfl ?_
    conv => whnf
    refine And.intro ⟨rfl, rfl⟩ (And.intro (show (acc.length + 1) * 16 ≤ 140737488355328 by omega) ?_)
    conv => whnf
    refine ⟨x.1, rfl, ?_⟩
    conv => whnf
    repeat (first | (refine And.intro ⟨by omega, by omega⟩ ?_; conv => whnf) | (refine And.intro (by omega) (And.intro rfl ?_); conv => whnf) | (refine And.intro rfl ?_; conv => whnf) | (refine And.intro (fun _ => ⟨by omega, by omega⟩) ?_; conv => whnf) | (refine And.intro (fun _ => by omega) (And.intro rfl ?_); conv => whnf) | (refine And.intro ⟨(by first | omega | (simp; omega)), (by first | omega | (simp; omega))⟩ ?_; conv => whnf) | (refine Exists.intro _ (And.intro rfl (And.intro (by first | omega | (simp; omega)) (And.intro ⟨rfl, rfl, rfl, rfl, rfl⟩ ?_))); conv => whnf) | (refine And.intro ⟨rfl, rfl⟩ (And.intro (by first | omega | (simp; omega)) ?_); conv => whnf) | (refine Exists.intro _ (And.intro rfl ?_); conv => whnf) | (refine And.intro (fun _ => ?_) (fun h => absurd h (by decide)); conv => whnf) | (refine And.intro (fun h => absurd h (by decide)) (fun _ => ?_); conv => whnf) | (refine .quiet (by kernel_rfl) ?_; conv => whnf))
    have e1 : acc ++ [x.1] = (Z (k + 1)).2 := by rw [hsk]
    have e2 : x.2.rest = (Z (k + 1)).1.rest := by rw [hsk]
    have e3 : x.2.bad = (Z (k + 1)).1.bad := by rw [hsk]
    refine up (show k < n.toNat by omega) trivial ((wk_of [(0, .id 0), (1, .id 3)] rfl ⟨.base (.ptr _ _ _ rfl), .base (.tree _ _ rfl rfl), (by first | exact .base (.own _ _ rfl) | exact .base (.nilown _ rfl) | exact .base (.trunc _ _ _ rfl)), .base (.tree _ _ (show AV.int .i64 _ = AV.int .i64 _ by congr 1) rfl), trivial⟩ ⟨⟨_, rfl, .cells _ _ _ _ rfl (by repeat (first | exact .nil | refine .cons (by first | exact .base (.tree _ _ rfl rfl) | exact .base (.own _ _ rfl) | exact .base (.ptr _ _ _ rfl) | exact .base (.map _ _ rfl) | exact .base (.nilown _ rfl) | exact .base (.tree _ _ (by first | rw [e2] | rw [e3]) rfl)) ?_)) rfl⟩, ⟨_, rfl, (by first | exact .row _ _ _ _ _ _ _ rfl (e1) | exact .lstrow _ _ _ _ _ _ _ rfl (e1) | exact .nilrow _ _ _ _ _ (e1) | exact .truncrow _ _ _ _ _ _ _ _ rfl (by omega) (e1))⟩, trivial⟩))
  · replace hc : (decide ((k : Int) < n) && !b) = false := hc
    have hkn : Z n.toNat = (⟨r, b⟩, acc) := by
      rw [Bool.and_eq_false_iff, decide_eq_false_iff_not, Bool.not_eq_false'] at hc
      rcases hc with h | h
      · rw [show n.toNat = k by omega, hzk]
      · rw [show n.toNat = k + (n.toNat - k) by omega, hstk h]
    cases b with
    | true =>
      have hr := hddk rfl
      replace hr : r = [] := hr
      have hq := itemsQ_none (one := textQ) (r := r) (b := true) (l := acc) hx0 (by rw [hZ]; exact hkn) (by rw [hr]; exact closeR_nil 93)
      rw [hq]
      subst hr
      conv => whnf
      refine .one [.rop [.str [], .bool true], .int .u8 93] _ [.val (.bool true)] (fun h => (by have h0 : (false : Bool) = true := h; cases h0)) (by repeat (first | exact .nil | (apply BorL.cons; first | exact lS rfl | exact lR rfl | exact lM rfl rfl | exact lL rfl | exact lX rfl | exact lN | exact lNl | exact lSm rfl | exact lIm rfl | exact lP rfl | exact lQ rfl | exact lB rfl rfl rfl))) (by first | exact .inl rfl | exact .inr (by repeat (first | exact flats_nil | refine flats_cons (by first | exact flat_val _ rfl | exact flat_row (fun _ => rfl) | exact flat_lst (fun _ => rfl)) ?_))) (by first | exact .inl rfl | exact .inr rfl) ?_
      conv => whnf
      refine ⟨fun hb => ?_, fun hb => ?_⟩
      · conv => whnf
        exact ⟨rfl, rfl⟩
      · cases hb
    | false =>
      cases hcl : closeR [93] r with
      | some r' =>
        have hk2 := qclose_some (c := 93) (b := false) (by decide) hcl
        have hq := itemsQ_some (one := textQ) (r := r) (l := acc) hx0 (by rw [hZ]; exact hkn) hcl
        rw [hq]
        conv => whnf
        refine .raw _ _ rfl (fun h => by cases h) (callio_sem (hk2) [0] _ rfl rfl ⟨rfl, trivial⟩ (by repeat (first | exact .nil | (apply BorL.cons; first | exact .map _ _ rfl | exact .ptr _ _ _ rfl | exact .own _ _ rfl | exact .fnp _ _ _ _ rfl | (apply BorIO.lend; first | exact lS rfl | exact lR rfl | exact lM rfl rfl | exact lL rfl | exact lX rfl | exact lN | exact lNl | exact lSm rfl | exact lIm rfl | exact lP rfl | exact lQ rfl | exact lB rfl rfl rfl)))) rfl (by first | exact .inl rfl | exact .inr (fun b rs h => by obtain ⟨rfl, rfl⟩ := h; exact ⟨by repeat (first | exact flats_nil | refine flats_cons (by first | exact flat_val _ rfl | exact flat_row (fun _ => rfl) | exact flat_lst (fun _ => rfl)) ?_), by repeat (first | exact flats0 | refine flats1 (by first | exact flatB_row (fun _ => rfl) | exact flatB_lst (fun _ => rfl) | exact flatB_smap (fun _ => rfl) | exact flatB_imap (fun _ => rfl) | exact flatB_cells rfl) ?_)⟩))) ?_
        rintro w ⟨b', rs, ⟨rfl, rfl⟩, rfl⟩
        refine ⟨tn_ge _ _, ?_⟩
        conv => whnf
        refine ⟨fun hb => ?_, fun hb => ?_⟩
        · cases hb
        · conv => whnf
          exact ⟨rfl, rfl⟩
      | none =>
        have hk2 := qclose_none (c := 93) (b := false) (by decide) hcl
        have hq := itemsQ_none (one := textQ) (r := r) (l := acc) hx0 (by rw [hZ]; exact hkn) hcl
        rw [hq]
        conv => whnf
        refine .raw _ _ rfl (fun h => by cases h) (callio_sem (hk2) [0] _ rfl rfl ⟨rfl, trivial⟩ (by repeat (first | exact .nil | (apply BorL.cons; first | exact .map _ _ rfl | exact .ptr _ _ _ rfl | exact .own _ _ rfl | exact .fnp _ _ _ _ rfl | (apply BorIO.lend; first | exact lS rfl | exact lR rfl | exact lM rfl rfl | exact lL rfl | exact lX rfl | exact lN | exact lNl | exact lSm rfl | exact lIm rfl | exact lP rfl | exact lQ rfl | exact lB rfl rfl rfl)))) rfl (by first | exact .inl rfl | exact .inr (fun b rs h => by obtain ⟨rfl, rfl⟩ := h; exact ⟨by repeat (first | exact flats_nil | refine flats_cons (by first | exact flat_val _ rfl | exact flat_row (fun _ => rfl) | exact flat_lst (fun _ => rfl)) ?_), by repeat (first | exact flats0 | refine flats1 (by first | exact flatB_row (fun _ => rfl) | exact flatB_lst (fun _ => rfl) | exact flatB_smap (fun _ => rfl) | exact flatB_imap (fun _ => rfl) | exact flatB_cells rfl) ?_)⟩))) ?_
        rintro w ⟨b', rs, ⟨rfl, rfl⟩, rfl⟩
        refine ⟨tn_ge _ _, ?_⟩
        conv => whnf
        refine ⟨fun hb => ?_, fun hb => ?_⟩
        · conv => whnf
          exact ⟨rfl, rfl⟩
        · cases hb

end Go.Proofs.YthepodkgphnibaaDoor
