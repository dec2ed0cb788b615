import Derived.Test.YtjlnaogechkjdaaDoorCa
import Derived.Test.YtjlnaogechkjdaaDoorLc
namespace Go.Proofs.YtjlnaogechkjdaaDoor
open Go.Own
set_option maxHeartbeats 16000000
set_option maxRecDepth 100000

theorem merge_fin {A1 A2 B1 B2 M1 M2 : List Ent} (sA : Asc (A1 ++ A2)) (sB : Asc (B1 ++ B2)) (hx : ∀ x ∈ A2, ∀ y ∈ B1, y.id < x.id) (hy : ∀ x ∈ A1, ∀ y ∈ B2, x.id ≤ y.id)
    (s1 : Asc M1) (t1 : Stb (A1 ++ B1) M1) (s2 : Asc M2) (t2 : Stb (A2 ++ B2) M2) : Asc (M1 ++ M2) ∧ Stb ((A1 ++ A2) ++ (B1 ++ B2)) (M1 ++ M2) := by
  refine ⟨s1.app s2 fun x hx1 y hy1 => ?_, ?_⟩
  · rcases List.mem_append.1 (t1.mem.1 hx1) with h1 | h1 <;> rcases List.mem_append.1 (t2.mem.1 hy1) with h2 | h2
    · exact sA.cross x h1 y h2
    · exact hy x h1 y h2
    · exact Int.le_of_lt (hx y h2 x h1)
    · exact sB.cross x h1 y h2
  · have e1 : (A1 ++ A2) ++ (B1 ++ B2) = A1 ++ ((A2 ++ B1) ++ B2) := by simp
    have e2 : Stb (A1 ++ ((A2 ++ B1) ++ B2)) (A1 ++ ((B1 ++ A2) ++ B2)) := (Stb.refl _).app ((Stb.swap_lt hx).app (Stb.refl _))
    have e3 : A1 ++ ((B1 ++ A2) ++ B2) = (A1 ++ B1) ++ (A2 ++ B2) := by simp
    rw [e1]
    refine e2.trans ?_
    rw [e3]
    exact t1.app t2
theorem cross1 {A B : List Ent} (sA : Asc A) (sB : Asc B) {u h : Nat} (hh : u < A.length → u < h → (B.getD (h - 1 - u) e0).id < (A.getD u e0).id) (hB : h - u ≤ B.length) : ∀ x ∈ A.drop u, ∀ y ∈ B.take (h - u), y.id < x.id := fun x hx y hy => by
  obtain ⟨k, h1, h2, rfl⟩ := mem_drop hx
  obtain ⟨l, h3, h4, rfl⟩ := mem_take hy
  have g1 := asc_get sA (i := u) (j := k) h1 h2
  have g2 := asc_get sB (i := l) (j := h - 1 - u) (by omega) (by omega)
  have g3 := hh (by omega) (by omega)
  omega
theorem cross2 {A B : List Ent} (sA : Asc A) (sB : Asc B) {u h : Nat} (hh : 0 < u → h - u < B.length → (A.getD (u - 1) e0).id ≤ (B.getD (h - u) e0).id) (hA : u ≤ A.length) : ∀ x ∈ A.take u, ∀ y ∈ B.drop (h - u), x.id ≤ y.id := fun x hx y hy => by
  obtain ⟨k, h1, h2, rfl⟩ := mem_take hx
  obtain ⟨l, h3, h4, rfl⟩ := mem_drop hy
  have g1 := asc_get sA (i := k) (j := u - 1) (by omega) (by omega)
  have g2 := asc_get sB (i := h - u) (j := l) (by omega) (by omega)
  have g3 := hh (by omega) (by omega)
  omega

def MergeAt (n : Nat) : Prop := ∀ (P A B Q : List Ent), A.length + B.length = n → 0 < A.length → 0 < B.length → Asc A → Asc B → P.length + A.length + B.length + Q.length ≤ 1000000 → ∀ {a m b : Int} {xs : List Ent},
    a = (P.length : Nat) → m = ((P.length + A.length : Nat) : Int) → b = ((P.length + A.length + B.length : Nat) : Int) → xs = P ++ (A ++ (B ++ Q)) →
    AIO Tryd.prog 59 [.own 0, .int .i64 a, .int .i64 m, .int .i64 b, .fn (.func 29) [] []] [.row 48 5 encE e0 xs] (fun bs rs => ∃ M, Asc M ∧ Stb (A ++ B) M ∧ bs = [.row 48 5 encE e0 (P ++ (M ++ Q))] ∧ rs = [])

theorem merge_step (n : Nat) (ih : ∀ k, k < n → MergeAt k) : MergeAt n := by
  intro P A B Q hn hA hB sA sB hb a m b xs ha hm hb' hx
  by_cases hA1 : A.length = 1
  · match A, hA1 with
    | [x], _ => exact mergeA_ok P x B Q hB sB (by simpa using hb) ha (by simpa using hm) (by simpa using hb') hx
  by_cases hB1 : B.length = 1
  · match B, hB1 with
    | [y], _ => exact mergeB_ok P A y Q (by omega) sA (by simpa using hb) ha hm (by simpa using hb') hx
  subst ha hm hb' hx
  have hlen : (P ++ (A ++ (B ++ Q))).length = P.length + A.length + B.length + Q.length := by simp only [List.length_append]; omega
  refine aio_of (C := cxP 1 220 [0, 1, 2, 3, 4, 10, 11, 12, 13, 14, 15, 16, 17, 18, 19, 20, 21, 22, 23, 24, 28, 33, 50, 58, 80, 85, 103, 110, 140, 151, 171, 185, 199, 213]) (cxPOk _ _ _) Tryd.func59 rfl (by decide) rfl (by exact Nat.le_of_ble_eq_true rfl) (by decide) rfl rfl ?_
  conv => whnf
  refine And.intro ⟨by omega, by omega⟩ ?_; conv => whnf
  refine ⟨fun hc => ?_, fun hc => ?_⟩
  · simp only [decide_eq_true_eq] at hc
    omega
  conv => whnf
  refine And.intro ⟨by omega, by omega⟩ ?_; conv => whnf
  refine ⟨fun hc2 => ?_, fun hc2 => ?_⟩
  · simp only [decide_eq_true_eq] at hc2
    omega
  conv => whnf
  refine And.intro ⟨by omega, by omega⟩ ?_; conv => whnf
  refine And.intro (by decide) ?_
  conv => whnf
  rw [mid_nat (u := P.length) (v := P.length + A.length + B.length) (by omega)]
  have hm1 : (P.length + (P.length + A.length + B.length)) / 2 = P.length + (A.length + B.length) / 2 := by omega
  rw [hm1]
  generalize hh : (A.length + B.length) / 2 = h at *
  refine And.intro ⟨by omega, by omega⟩ ?_
  conv => whnf
  refine And.intro ⟨by omega, by omega⟩ ?_; conv => whnf
  refine ⟨fun hd => ?_, fun hd => ?_⟩
  · simp only [decide_eq_true_eq] at hd
    obtain ⟨u0, v0, hU⟩ : ∃ u0 v0, B.length + u0 = h ∧ v0 = h ∧ h < A.length := ⟨h - B.length, h, by omega, rfl, by omega⟩
    conv => whnf
    refine And.intro ⟨by omega, by omega⟩ ?_; conv => whnf
    refine And.intro ⟨by omega, by omega⟩ ?_; conv => whnf
    refine loop_inv (cxPOk _ _ _) (σ := Nat × Nat) (fun s => u0 ≤ s.1 ∧ s.1 ≤ s.2 ∧ s.2 ≤ v0 ∧ (s.1 = u0 ∨ (A.getD (s.1 - 1) e0).id ≤ (B.getD (h - s.1) e0).id) ∧ (s.2 = v0 ∨ (B.getD (h - 1 - s.2) e0).id < (A.getD s.2 e0).id)) (fun s => s.2 - s.1) (fun s => ⟨[(0, .own 0), (1, .int .i64 (P.length : Nat)), (2, .int .i64 ((P.length + A.length : Nat) : Int)), (3, .int .i64 ((P.length + A.length + B.length : Nat) : Int)), (4, .fn (.func 29) [] []), (18, .int .i64 ((P.length + h : Nat) : Int)), (19, .int .i64 (((P.length + h : Nat) : Int) + ((P.length + A.length : Nat) : Int))), (20, .int .i64 ((P.length + (s.1) : Nat) : Int)), (21, .int .i64 ((P.length + (s.2) : Nat) : Int)), (22, .int .i64 (((P.length + h : Nat) : Int) + ((P.length + A.length : Nat) : Int) - 1))], [(0, .row 48 5 encE e0 (P ++ (A ++ (B ++ Q))))], 1⟩) (u0, v0) ⟨Nat.le_refl _, by show u0 ≤ v0; omega, Nat.le_refl _, .inl rfl, .inl rfl⟩ ((wk_of [(0, .id 0)] rfl ⟨(by first | exact .base (.own _ _ rfl) | exact .base (.nilown _ rfl) | exact .base (.trunc _ _ _ rfl)), .base (.tree _ _ rfl rfl), .base (.tree _ _ rfl rfl), .base (.tree _ _ rfl rfl), .fn _ _ _ _ _ (by repeat (first | exact .nil | refine .cons (by first | exact .tree _ _ rfl rfl | exact .ptr _ _ _ rfl | exact .own _ _ rfl) ?_)) (by repeat (first | exact .nil | refine .cons (by first | exact .tree _ _ rfl rfl | exact .ptr _ _ _ rfl | exact .own _ _ rfl) ?_)), .base (.tree _ _ rfl rfl), .base (.tree _ _ rfl rfl), .base (.tree _ _ (show AV.int .i64 _ = AV.int .i64 ((P.length + u0 : Nat) : Int) by congr 1; omega) rfl), .base (.tree _ _ (show AV.int .i64 _ = AV.int .i64 ((P.length + v0 : Nat) : Int) by congr 1; omega) rfl), .base (.tree _ _ rfl rfl), trivial⟩ ⟨⟨_, rfl, (by first | exact .row _ _ _ _ _ _ _ rfl rfl | exact .lstrow _ _ _ _ _ _ _ rfl rfl | exact .nilrow _ _ _ _ _ rfl | exact .truncrow _ _ _ _ _ _ _ _ rfl (by omega) rfl)⟩, trivial⟩)) ?_
    rintro ⟨u, v⟩ ⟨h1, h2, h3, h4, h5⟩
    dsimp only at h1 h2 h3 h4 h5
    change evCode _ _ ⟨[(0, .own 0), (1, .int .i64 (P.length : Nat)), (2, .int .i64 ((P.length + A.length : Nat) : Int)), (3, .int .i64 ((P.length + A.length + B.length : Nat) : Int)), (4, .fn (.func 29) [] []), (18, .int .i64 ((P.length + h : Nat) : Int)), (19, .int .i64 (((P.length + h : Nat) : Int) + ((P.length + A.length : Nat) : Int))), (20, .int .i64 ((P.length + u : Nat) : Int)), (21, .int .i64 ((P.length + v : Nat) : Int)), (22, .int .i64 (((P.length + h : Nat) : Int) + ((P.length + A.length : Nat) : Int) - 1))], [(0, .row 48 5 encE e0 (P ++ (A ++ (B ++ Q))))], 1⟩ _
    conv => whnf
    refine ⟨fun hf => ?_, fun hf => ?_⟩
    · simp only [decide_eq_true_eq] at hf
      conv => whnf
      refine And.intro ⟨by omega, by omega⟩ ?_; conv => whnf
      refine And.intro (by decide) ?_
      conv => whnf
      rw [mid_nat (u := P.length + u) (v := P.length + v) (by omega)]
      have hm2 : ((P.length + u) + (P.length + v)) / 2 = P.length + (u + v) / 2 := by omega
      rw [hm2]
      generalize hcc : (u + v) / 2 = c at *
      have hc1 : u ≤ c ∧ c < v := by omega
      refine And.intro ⟨by omega, by omega⟩ ?_
      conv => whnf
      refine .quiet (by kernel_rfl) ?_; conv => whnf
      refine And.intro ⟨by omega, by omega⟩ ?_; conv => whnf
      refine And.intro ⟨by omega, by omega⟩ ?_; conv => whnf
      refine And.intro (by omega) (And.intro rfl ?_); conv => whnf
      refine And.intro ⟨by omega, by omega⟩ ?_; conv => whnf
      refine And.intro (by omega) (And.intro rfl ?_); conv => whnf
      rw [show (P ++ (A ++ (B ++ Q))).getD (((P.length + h : Nat) : Int) + ((P.length + A.length : Nat) : Int) - 1 - ((P.length + c : Nat) : Int)).toNat e0 = B.getD (h - 1 - c) e0 from in_right P A B Q (by omega) (by omega)]
      rw [show (P ++ (A ++ (B ++ Q))).getD ((P.length + c : Nat) : Int).toNat e0 = A.getD c e0 from in_left P A B Q (by rw [Int.toNat_natCast]) (by omega)]
      refine .mk _ _ _ _ (fun _ => byId_ok (B.getD (h - 1 - c) e0) (A.getD c e0)) (by repeat (first | exact .nil | (apply BorL.cons; first | exact lS rfl | exact lR rfl | exact lM rfl rfl | exact lL rfl | exact lX rfl | exact lN | exact lNl | exact lSm rfl | exact lIm rfl | exact lP rfl | exact lQ rfl | exact lB rfl rfl rfl))) rfl ?_
      conv => whnf
      refine ⟨fun he => ?_, fun he => ?_⟩
      · simp only [Bool.not_eq_true', decide_eq_false_iff_not, cmpI_lt] at he
        conv => whnf
        refine And.intro ⟨by omega, by omega⟩ ?_; conv => whnf
        refine ⟨(c + 1, v), ⟨by show u0 ≤ c + 1; omega, by show c + 1 ≤ v; omega, h3, .inr (by show (A.getD c e0).id ≤ (B.getD (h - (c + 1)) e0).id; rw [show h - (c + 1) = h - 1 - c by omega]; omega), h5⟩, (show v - (c + 1) < v - u by omega), (wk_of [(0, .id 0)] rfl ⟨(by first | exact .base (.own _ _ rfl) | exact .base (.nilown _ rfl) | exact .base (.trunc _ _ _ rfl)), .base (.tree _ _ rfl rfl), .base (.tree _ _ rfl rfl), .base (.tree _ _ rfl rfl), .fn _ _ _ _ _ (by repeat (first | exact .nil | refine .cons (by first | exact .tree _ _ rfl rfl | exact .ptr _ _ _ rfl | exact .own _ _ rfl) ?_)) (by repeat (first | exact .nil | refine .cons (by first | exact .tree _ _ rfl rfl | exact .ptr _ _ _ rfl | exact .own _ _ rfl) ?_)), .base (.tree _ _ rfl rfl), .base (.tree _ _ rfl rfl), .base (.tree _ _ rfl rfl), .base (.tree _ _ rfl rfl), .base (.tree _ _ rfl rfl), trivial⟩ ⟨⟨_, rfl, (by first | exact .row _ _ _ _ _ _ _ rfl rfl | exact .lstrow _ _ _ _ _ _ _ rfl rfl | exact .nilrow _ _ _ _ _ rfl | exact .truncrow _ _ _ _ _ _ _ _ rfl (by omega) rfl)⟩, trivial⟩)⟩
      · simp only [Bool.not_eq_false', decide_eq_true_eq, cmpI_lt] at he
        conv => whnf
        refine ⟨(u, c), ⟨h1, hc1.1, by show c ≤ v0; omega, h4, .inr he⟩, (show c - u < v - u by omega), (wk_of [(0, .id 0)] rfl ⟨(by first | exact .base (.own _ _ rfl) | exact .base (.nilown _ rfl) | exact .base (.trunc _ _ _ rfl)), .base (.tree _ _ rfl rfl), .base (.tree _ _ rfl rfl), .base (.tree _ _ rfl rfl), .fn _ _ _ _ _ (by repeat (first | exact .nil | refine .cons (by first | exact .tree _ _ rfl rfl | exact .ptr _ _ _ rfl | exact .own _ _ rfl) ?_)) (by repeat (first | exact .nil | refine .cons (by first | exact .tree _ _ rfl rfl | exact .ptr _ _ _ rfl | exact .own _ _ rfl) ?_)), .base (.tree _ _ rfl rfl), .base (.tree _ _ rfl rfl), .base (.tree _ _ rfl rfl), .base (.tree _ _ rfl rfl), .base (.tree _ _ rfl rfl), trivial⟩ ⟨⟨_, rfl, (by first | exact .row _ _ _ _ _ _ _ rfl rfl | exact .lstrow _ _ _ _ _ _ _ rfl rfl | exact .nilrow _ _ _ _ _ rfl | exact .truncrow _ _ _ _ _ _ _ _ rfl (by omega) rfl)⟩, trivial⟩)⟩
    · simp only [decide_eq_false_iff_not] at hf
      obtain rfl : u = v := by omega
      obtain ⟨hu1, hu2, hu3⟩ : u ≤ A.length ∧ u ≤ h ∧ h - u ≤ B.length := by omega
      have cx1 := cross1 sA sB (u := u) (h := h) (fun x y => h5.elim (fun e => absurd e (by omega)) id) hu3
      have cx2 := cross2 sA sB (u := u) (h := h) (fun x y => h4.elim (fun e => absurd e (by omega)) id) hu1
      have eA := List.take_append_drop u A
      have eB := List.take_append_drop (h - u) B
      have lA1 : (A.take u).length = u := by rw [List.length_take]; omega
      have lA2 : (A.drop u).length = A.length - u := List.length_drop
      have lB1 : (B.take (h - u)).length = h - u := by rw [List.length_take]; omega
      have lB2 : (B.drop (h - u)).length = B.length - (h - u) := List.length_drop
      have sA1 : Asc (A.take u) := Asc.left (b := A.drop u) (by rw [eA]; exact sA)
      have sA2 : Asc (A.drop u) := Asc.right (a := A.take u) (by rw [eA]; exact sA)
      have sB1 : Asc (B.take (h - u)) := Asc.left (b := B.drop (h - u)) (by rw [eB]; exact sB)
      have sB2 : Asc (B.drop (h - u)) := Asc.right (a := B.take (h - u)) (by rw [eB]; exact sB)
      generalize A.take u = A1 at *
      generalize A.drop u = A2 at *
      generalize B.take (h - u) = B1 at *
      generalize B.drop (h - u) = B2 at *
      have eR : P ++ (A ++ (B ++ Q)) = (P ++ A1) ++ (A2 ++ (B1 ++ (B2 ++ Q))) := by
        rw [← eA, ← eB]
        simp
      conv => whnf
      refine And.intro ⟨by omega, by omega⟩ ?_; conv => whnf
      refine ⟨fun q1 => ?_, fun q1 => ?_⟩
      · simp only [decide_eq_true_eq, Bool.and_eq_true] at q1
        have hcall1 := rot_ok (P ++ A1) A2 B1 (B2 ++ Q) (by omega) (by omega) (by simp only [List.length_append]; omega) (a := ((P.length + u : Nat) : Int)) (m := ((P.length + A.length : Nat) : Int)) (b := ((P.length + h : Nat) : Int) + ((P.length + A.length : Nat) : Int) - ((P.length + u : Nat) : Int)) (xs := P ++ (A ++ (B ++ Q))) (by simp only [List.length_append]; omega) (by simp only [List.length_append]; omega) (by simp only [List.length_append]; omega) eR
        conv => whnf
        refine .raw _ _ rfl (fun h => by cases h) (callio_sem (hcall1) [0] _ rfl rfl ⟨rfl, trivial⟩ (by repeat (first | exact .nil | (apply BorL.cons; first | exact .map _ _ rfl | exact .ptr _ _ _ rfl | exact .own _ _ rfl | exact .fnp _ _ _ _ rfl | (apply BorIO.lend; first | exact lS rfl | exact lR rfl | exact lM rfl rfl | exact lL rfl | exact lX rfl | exact lN | exact lNl | exact lSm rfl | exact lIm rfl | exact lP rfl | exact lQ rfl | exact lB rfl rfl rfl)))) rfl (by first | exact .inl rfl | exact .inr (fun b rs h => by first | obtain ⟨rfl, rfl⟩ := h | obtain ⟨_, _, _, rfl, rfl⟩ := h; exact ⟨by repeat (first | exact flats_nil | refine flats_cons (by first | exact flat_val _ rfl | exact flat_row (fun _ => rfl) | exact flat_lst (fun _ => rfl)) ?_), by repeat (first | exact flats0 | refine flats1 (by first | exact flatB_row (fun _ => rfl) | exact flatB_lst (fun _ => rfl) | exact flatB_smap (fun _ => rfl) | exact flatB_imap (fun _ => rfl) | exact flatB_cells rfl) ?_)⟩))) ?_
        rintro r ⟨b, rs, ⟨rfl, rfl⟩, rfl⟩
        refine ⟨tn_ge _ _, ?_⟩
        conv => whnf
        refine ⟨fun q2 => ?_, fun q2 => ?_⟩
        · simp only [decide_eq_true_eq, Bool.and_eq_true] at q2
          have hcall2 := ih (A1.length + B1.length) (by omega) P A1 B1 (A2 ++ (B2 ++ Q)) rfl (by omega) (by omega) sA1 sB1 (by simp only [List.length_append]; omega) (a := ((P.length : Nat) : Int)) (m := ((P.length + u : Nat) : Int)) (b := ((P.length + h : Nat) : Int)) (xs := (P ++ A1) ++ (B1 ++ (A2 ++ (B2 ++ Q)))) (by omega) (by omega) (by omega) (by simp)
          conv => whnf
          refine .raw _ _ rfl (fun h => by cases h) (callio_sem (hcall2) [0] _ rfl rfl ⟨rfl, trivial⟩ (by repeat (first | exact .nil | (apply BorL.cons; first | exact .map _ _ rfl | exact .ptr _ _ _ rfl | exact .own _ _ rfl | exact .fnp _ _ _ _ rfl | (apply BorIO.lend; first | exact lS rfl | exact lR rfl | exact lM rfl rfl | exact lL rfl | exact lX rfl | exact lN | exact lNl | exact lSm rfl | exact lIm rfl | exact lP rfl | exact lQ rfl | exact lB rfl rfl rfl)))) rfl (by first | exact .inl rfl | exact .inr (fun b rs h => by first | obtain ⟨rfl, rfl⟩ := h | obtain ⟨_, _, _, rfl, rfl⟩ := h; exact ⟨by repeat (first | exact flats_nil | refine flats_cons (by first | exact flat_val _ rfl | exact flat_row (fun _ => rfl) | exact flat_lst (fun _ => rfl)) ?_), by repeat (first | exact flats0 | refine flats1 (by first | exact flatB_row (fun _ => rfl) | exact flatB_lst (fun _ => rfl) | exact flatB_smap (fun _ => rfl) | exact flatB_imap (fun _ => rfl) | exact flatB_cells rfl) ?_)⟩))) ?_
          rintro r ⟨b, rs, ⟨M1, s1, t1, rfl, rfl⟩, rfl⟩
          have lM := t1.len
          rw [List.length_append] at lM
          refine ⟨tn_ge _ _, ?_⟩
          conv => whnf
          refine ⟨fun q3 => ?_, fun q3 => ?_⟩
          · simp only [decide_eq_true_eq, Bool.and_eq_true] at q3
            have hcall3 := ih (A2.length + B2.length) (by omega) (P ++ M1) A2 B2 Q rfl (by omega) (by omega) sA2 sB2 (by simp only [List.length_append]; omega) (a := ((P.length + h : Nat) : Int)) (m := ((P.length + h : Nat) : Int) + ((P.length + A.length : Nat) : Int) - ((P.length + u : Nat) : Int)) (b := ((P.length + A.length + B.length : Nat) : Int)) (xs := P ++ (M1 ++ (A2 ++ (B2 ++ Q)))) (by simp only [List.length_append]; omega) (by simp only [List.length_append]; omega) (by simp only [List.length_append]; omega) (by simp)
            conv => whnf
            refine .raw _ _ rfl (fun h => by cases h) (callio_sem (hcall3) [0] _ rfl rfl ⟨rfl, trivial⟩ (by repeat (first | exact .nil | (apply BorL.cons; first | exact .map _ _ rfl | exact .ptr _ _ _ rfl | exact .own _ _ rfl | exact .fnp _ _ _ _ rfl | (apply BorIO.lend; first | exact lS rfl | exact lR rfl | exact lM rfl rfl | exact lL rfl | exact lX rfl | exact lN | exact lNl | exact lSm rfl | exact lIm rfl | exact lP rfl | exact lQ rfl | exact lB rfl rfl rfl)))) rfl (by first | exact .inl rfl | exact .inr (fun b rs h => by first | obtain ⟨rfl, rfl⟩ := h | obtain ⟨_, _, _, rfl, rfl⟩ := h; exact ⟨by repeat (first | exact flats_nil | refine flats_cons (by first | exact flat_val _ rfl | exact flat_row (fun _ => rfl) | exact flat_lst (fun _ => rfl)) ?_), by repeat (first | exact flats0 | refine flats1 (by first | exact flatB_row (fun _ => rfl) | exact flatB_lst (fun _ => rfl) | exact flatB_smap (fun _ => rfl) | exact flatB_imap (fun _ => rfl) | exact flatB_cells rfl) ?_)⟩))) ?_
            rintro r ⟨b, rs, ⟨M2, s2, t2, rfl, rfl⟩, rfl⟩
            refine ⟨tn_ge _ _, ?_⟩
            conv => whnf
            obtain ⟨f1, f2⟩ := merge_fin (by rw [eA]; exact sA) (by rw [eB]; exact sB) cx1 cx2 s1 t1 s2 t2
            rw [eA, eB] at f2
            refine ⟨_, f1, f2, ?_, rfl⟩
            simp only [List.append_assoc]
            rfl
          · simp only [decide_eq_false_iff_not, Bool.and_eq_false_iff, decide_eq_true_eq] at q3
            have s2 : Asc (A2 ++ B2) := by
              by_cases hz : A2.length = 0
              · rw [List.eq_nil_of_length_eq_zero hz]; exact sB2
              · rw [List.eq_nil_of_length_eq_zero (show B2.length = 0 by omega), List.append_nil]; exact sA2
            conv => whnf
            obtain ⟨f1, f2⟩ := merge_fin (by rw [eA]; exact sA) (by rw [eB]; exact sB) cx1 cx2 s1 t1 s2 (Stb.refl _)
            rw [eA, eB] at f2
            refine ⟨_, f1, f2, ?_, rfl⟩
            simp only [List.append_assoc]
            rfl
        · simp only [decide_eq_false_iff_not, Bool.and_eq_false_iff, decide_eq_true_eq] at q2
          obtain ⟨M1, s1, t1, eM⟩ : ∃ M1, Asc M1 ∧ Stb (A1 ++ B1) M1 ∧ (P ++ A1) ++ (B1 ++ (A2 ++ (B2 ++ Q))) = P ++ (M1 ++ (A2 ++ (B2 ++ Q))) := by
            refine ⟨A1 ++ B1, ?_, Stb.refl _, by simp⟩
            by_cases hz : A1.length = 0
            · rw [List.eq_nil_of_length_eq_zero hz]; exact sB1
            · rw [List.eq_nil_of_length_eq_zero (show B1.length = 0 by omega), List.append_nil]; exact sA1
          have lM := t1.len
          rw [List.length_append] at lM
          rw [eM]
          conv => whnf
          refine ⟨fun q3 => ?_, fun q3 => ?_⟩
          · simp only [decide_eq_true_eq, Bool.and_eq_true] at q3
            have hcall3 := ih (A2.length + B2.length) (by omega) (P ++ M1) A2 B2 Q rfl (by omega) (by omega) sA2 sB2 (by simp only [List.length_append]; omega) (a := ((P.length + h : Nat) : Int)) (m := ((P.length + h : Nat) : Int) + ((P.length + A.length : Nat) : Int) - ((P.length + u : Nat) : Int)) (b := ((P.length + A.length + B.length : Nat) : Int)) (xs := P ++ (M1 ++ (A2 ++ (B2 ++ Q)))) (by simp only [List.length_append]; omega) (by simp only [List.length_append]; omega) (by simp only [List.length_append]; omega) (by simp)
            conv => whnf
            refine .raw _ _ rfl (fun h => by cases h) (callio_sem (hcall3) [0] _ rfl rfl ⟨rfl, trivial⟩ (by repeat (first | exact .nil | (apply BorL.cons; first | exact .map _ _ rfl | exact .ptr _ _ _ rfl | exact .own _ _ rfl | exact .fnp _ _ _ _ rfl | (apply BorIO.lend; first | exact lS rfl | exact lR rfl | exact lM rfl rfl | exact lL rfl | exact lX rfl | exact lN | exact lNl | exact lSm rfl | exact lIm rfl | exact lP rfl | exact lQ rfl | exact lB rfl rfl rfl)))) rfl (by first | exact .inl rfl | exact .inr (fun b rs h => by first | obtain ⟨rfl, rfl⟩ := h | obtain ⟨_, _, _, rfl, rfl⟩ := h; exact ⟨by repeat (first | exact flats_nil | refine flats_cons (by first | exact flat_val _ rfl | exact flat_row (fun _ => rfl) | exact flat_lst (fun _ => rfl)) ?_), by repeat (first | exact flats0 | refine flats1 (by first | exact flatB_row (fun _ => rfl) | exact flatB_lst (fun _ => rfl) | exact flatB_smap (fun _ => rfl) | exact flatB_imap (fun _ => rfl) | exact flatB_cells rfl) ?_)⟩))) ?_
            rintro r ⟨b, rs, ⟨M2, s2, t2, rfl, rfl⟩, rfl⟩
            refine ⟨tn_ge _ _, ?_⟩
            conv => whnf
            obtain ⟨f1, f2⟩ := merge_fin (by rw [eA]; exact sA) (by rw [eB]; exact sB) cx1 cx2 s1 t1 s2 t2
            rw [eA, eB] at f2
            refine ⟨_, f1, f2, ?_, rfl⟩
            simp only [List.append_assoc]
            rfl
          · simp only [decide_eq_false_iff_not, Bool.and_eq_false_iff, decide_eq_true_eq] at q3
            have s2 : Asc (A2 ++ B2) := by
              by_cases hz : A2.length = 0
              · rw [List.eq_nil_of_length_eq_zero hz]; exact sB2
              · rw [List.eq_nil_of_length_eq_zero (show B2.length = 0 by omega), List.append_nil]; exact sA2
            conv => whnf
            obtain ⟨f1, f2⟩ := merge_fin (by rw [eA]; exact sA) (by rw [eB]; exact sB) cx1 cx2 s1 t1 s2 (Stb.refl _)
            rw [eA, eB] at f2
            refine ⟨_, f1, f2, ?_, rfl⟩
            simp only [List.append_assoc]
            rfl
      · simp only [decide_eq_false_iff_not, Bool.and_eq_false_iff, decide_eq_true_eq] at q1
        have eR2 : P ++ (A ++ (B ++ Q)) = (P ++ A1) ++ (B1 ++ (A2 ++ (B2 ++ Q))) := by
          rw [eR]
          by_cases hz : A2.length = 0
          · rw [List.eq_nil_of_length_eq_zero hz, List.nil_append, List.nil_append]
          · rw [List.eq_nil_of_length_eq_zero (show B1.length = 0 by omega), List.nil_append, List.nil_append]
        rw [eR2]
        conv => whnf
        refine ⟨fun q2 => ?_, fun q2 => ?_⟩
        · simp only [decide_eq_true_eq, Bool.and_eq_true] at q2
          have hcall2 := ih (A1.length + B1.length) (by omega) P A1 B1 (A2 ++ (B2 ++ Q)) rfl (by omega) (by omega) sA1 sB1 (by simp only [List.length_append]; omega) (a := ((P.length : Nat) : Int)) (m := ((P.length + u : Nat) : Int)) (b := ((P.length + h : Nat) : Int)) (xs := (P ++ A1) ++ (B1 ++ (A2 ++ (B2 ++ Q)))) (by omega) (by omega) (by omega) (by simp)
          conv => whnf
          refine .raw _ _ rfl (fun h => by cases h) (callio_sem (hcall2) [0] _ rfl rfl ⟨rfl, trivial⟩ (by repeat (first | exact .nil | (apply BorL.cons; first | exact .map _ _ rfl | exact .ptr _ _ _ rfl | exact .own _ _ rfl | exact .fnp _ _ _ _ rfl | (apply BorIO.lend; first | exact lS rfl | exact lR rfl | exact lM rfl rfl | exact lL rfl | exact lX rfl | exact lN | exact lNl | exact lSm rfl | exact lIm rfl | exact lP rfl | exact lQ rfl | exact lB rfl rfl rfl)))) rfl (by first | exact .inl rfl | exact .inr (fun b rs h => by first | obtain ⟨rfl, rfl⟩ := h | obtain ⟨_, _, _, rfl, rfl⟩ := h; exact ⟨by repeat (first | exact flats_nil | refine flats_cons (by first | exact flat_val _ rfl | exact flat_row (fun _ => rfl) | exact flat_lst (fun _ => rfl)) ?_), by repeat (first | exact flats0 | refine flats1 (by first | exact flatB_row (fun _ => rfl) | exact flatB_lst (fun _ => rfl) | exact flatB_smap (fun _ => rfl) | exact flatB_imap (fun _ => rfl) | exact flatB_cells rfl) ?_)⟩))) ?_
          rintro r ⟨b, rs, ⟨M1, s1, t1, rfl, rfl⟩, rfl⟩
          have lM := t1.len
          rw [List.length_append] at lM
          refine ⟨tn_ge _ _, ?_⟩
          conv => whnf
          refine ⟨fun q3 => ?_, fun q3 => ?_⟩
          · simp only [decide_eq_true_eq, Bool.and_eq_true] at q3
            have hcall3 := ih (A2.length + B2.length) (by omega) (P ++ M1) A2 B2 Q rfl (by omega) (by omega) sA2 sB2 (by simp only [List.length_append]; omega) (a := ((P.length + h : Nat) : Int)) (m := ((P.length + h : Nat) : Int) + ((P.length + A.length : Nat) : Int) - ((P.length + u : Nat) : Int)) (b := ((P.length + A.length + B.length : Nat) : Int)) (xs := P ++ (M1 ++ (A2 ++ (B2 ++ Q)))) (by simp only [List.length_append]; omega) (by simp only [List.length_append]; omega) (by simp only [List.length_append]; omega) (by simp)
            conv => whnf
            refine .raw _ _ rfl (fun h => by cases h) (callio_sem (hcall3) [0] _ rfl rfl ⟨rfl, trivial⟩ (by repeat (first | exact .nil | (apply BorL.cons; first | exact .map _ _ rfl | exact .ptr _ _ _ rfl | exact .own _ _ rfl | exact .fnp _ _ _ _ rfl | (apply BorIO.lend; first | exact lS rfl | exact lR rfl | exact lM rfl rfl | exact lL rfl | exact lX rfl | exact lN | exact lNl | exact lSm rfl | exact lIm rfl | exact lP rfl | exact lQ rfl | exact lB rfl rfl rfl)))) rfl (by first | exact .inl rfl | exact .inr (fun b rs h => by first | obtain ⟨rfl, rfl⟩ := h | obtain ⟨_, _, _, rfl, rfl⟩ := h; exact ⟨by repeat (first | exact flats_nil | refine flats_cons (by first | exact flat_val _ rfl | exact flat_row (fun _ => rfl) | exact flat_lst (fun _ => rfl)) ?_), by repeat (first | exact flats0 | refine flats1 (by first | exact flatB_row (fun _ => rfl) | exact flatB_lst (fun _ => rfl) | exact flatB_smap (fun _ => rfl) | exact flatB_imap (fun _ => rfl) | exact flatB_cells rfl) ?_)⟩))) ?_
            rintro r ⟨b, rs, ⟨M2, s2, t2, rfl, rfl⟩, rfl⟩
            refine ⟨tn_ge _ _, ?_⟩
            conv => whnf
            obtain ⟨f1, f2⟩ := merge_fin (by rw [eA]; exact sA) (by rw [eB]; exact sB) cx1 cx2 s1 t1 s2 t2
            rw [eA, eB] at f2
            refine ⟨_, f1, f2, ?_, rfl⟩
            simp only [List.append_assoc]
            rfl
          · simp only [decide_eq_false_iff_not, Bool.and_eq_false_iff, decide_eq_true_eq] at q3
            have s2 : Asc (A2 ++ B2) := by
              by_cases hz : A2.length = 0
              · rw [List.eq_nil_of_length_eq_zero hz]; exact sB2
              · rw [List.eq_nil_of_length_eq_zero (show B2.length = 0 by omega), List.append_nil]; exact sA2
            conv => whnf
            obtain ⟨f1, f2⟩ := merge_fin (by rw [eA]; exact sA) (by rw [eB]; exact sB) cx1 cx2 s1 t1 s2 (Stb.refl _)
            rw [eA, eB] at f2
            refine ⟨_, f1, f2, ?_, rfl⟩
            simp only [List.append_assoc]
            rfl
        · simp only [decide_eq_false_iff_not, Bool.and_eq_false_iff, decide_eq_true_eq] at q2
          obtain ⟨M1, s1, t1, eM⟩ : ∃ M1, Asc M1 ∧ Stb (A1 ++ B1) M1 ∧ (P ++ A1) ++ (B1 ++ (A2 ++ (B2 ++ Q))) = P ++ (M1 ++ (A2 ++ (B2 ++ Q))) := by
            refine ⟨A1 ++ B1, ?_, Stb.refl _, by simp⟩
            by_cases hz : A1.length = 0
            · rw [List.eq_nil_of_length_eq_zero hz]; exact sB1
            · rw [List.eq_nil_of_length_eq_zero (show B1.length = 0 by omega), List.append_nil]; exact sA1
          have lM := t1.len
          rw [List.length_append] at lM
          rw [eM]
          conv => whnf
          refine ⟨fun q3 => ?_, fun q3 => ?_⟩
          · simp only [decide_eq_true_eq, Bool.and_eq_true] at q3
            have hcall3 := ih (A2.length + B2.length) (by omega) (P ++ M1) A2 B2 Q rfl (by omega) (by omega) sA2 sB2 (by simp only [List.length_append]; omega) (a := ((P.length + h : Nat) : Int)) (m := ((P.length + h : Nat) : Int) + ((P.length + A.length : Nat) : Int) - ((P.length + u : Nat) : Int)) (b := ((P.length + A.length + B.length : Nat) : Int)) (xs := P ++ (M1 ++ (A2 ++ (B2 ++ Q)))) (by simp only [List.length_append]; omega) (by simp only [List.length_append]; omega) (by simp only [List.length_append]; omega) (by simp)
            conv => whnf
            refine .raw _ _ rfl (fun h => by cases h) (callio_sem (hcall3) [0] _ rfl rfl ⟨rfl, trivial⟩ (by repeat (first | exact .nil | (apply BorL.cons; first | exact .map _ _ rfl | exact .ptr _ _ _ rfl | exact .own _ _ rfl | exact .fnp _ _ _ _ rfl | (apply BorIO.lend; first | exact lS rfl | exact lR rfl | exact lM rfl rfl | exact lL rfl | exact lX rfl | exact lN | exact lNl | exact lSm rfl | exact lIm rfl | exact lP rfl | exact lQ rfl | exact lB rfl rfl rfl)))) rfl (by first | exact .inl rfl | exact .inr (fun b rs h => by first | obtain ⟨rfl, rfl⟩ := h | obtain ⟨_, _, _, rfl, rfl⟩ := h; exact ⟨by repeat (first | exact flats_nil | refine flats_cons (by first | exact flat_val _ rfl | exact flat_row (fun _ => rfl) | exact flat_lst (fun _ => rfl)) ?_), by repeat (first | exact flats0 | refine flats1 (by first | exact flatB_row (fun _ => rfl) | exact flatB_lst (fun _ => rfl) | exact flatB_smap (fun _ => rfl) | exact flatB_imap (fun _ => rfl) | exact flatB_cells rfl) ?_)⟩))) ?_
            rintro r ⟨b, rs, ⟨M2, s2, t2, rfl, rfl⟩, rfl⟩
            refine ⟨tn_ge _ _, ?_⟩
            conv => whnf
            obtain ⟨f1, f2⟩ := merge_fin (by rw [eA]; exact sA) (by rw [eB]; exact sB) cx1 cx2 s1 t1 s2 t2
            rw [eA, eB] at f2
            refine ⟨_, f1, f2, ?_, rfl⟩
            simp only [List.append_assoc]
            rfl
          · simp only [decide_eq_false_iff_not, Bool.and_eq_false_iff, decide_eq_true_eq] at q3
            have s2 : Asc (A2 ++ B2) := by
              by_cases hz : A2.length = 0
              · rw [List.eq_nil_of_length_eq_zero hz]; exact sB2
              · rw [List.eq_nil_of_length_eq_zero (show B2.length = 0 by omega), List.append_nil]; exact sA2
            conv => whnf
            obtain ⟨f1, f2⟩ := merge_fin (by rw [eA]; exact sA) (by rw [eB]; exact sB) cx1 cx2 s1 t1 s2 (Stb.refl _)
            rw [eA, eB] at f2
            refine ⟨_, f1, f2, ?_, rfl⟩
            simp only [List.append_assoc]
            rfl
  · simp only [decide_eq_false_iff_not] at hd
    obtain ⟨u0, v0, hU⟩ : ∃ u0 v0, u0 = 0 ∧ v0 = A.length ∧ A.length ≤ h ∧ h ≤ B.length := ⟨0, A.length, rfl, rfl, by omega, by omega⟩
    conv => whnf
    refine And.intro ⟨by omega, by omega⟩ ?_; conv => whnf
    refine loop_inv (cxPOk _ _ _) (σ := Nat × Nat) (fun s => u0 ≤ s.1 ∧ s.1 ≤ s.2 ∧ s.2 ≤ v0 ∧ (s.1 = u0 ∨ (A.getD (s.1 - 1) e0).id ≤ (B.getD (h - s.1) e0).id) ∧ (s.2 = v0 ∨ (B.getD (h - 1 - s.2) e0).id < (A.getD s.2 e0).id)) (fun s => s.2 - s.1) (fun s => ⟨[(0, .own 0), (1, .int .i64 (P.length : Nat)), (2, .int .i64 ((P.length + A.length : Nat) : Int)), (3, .int .i64 ((P.length + A.length + B.length : Nat) : Int)), (4, .fn (.func 29) [] []), (18, .int .i64 ((P.length + h : Nat) : Int)), (19, .int .i64 (((P.length + h : Nat) : Int) + ((P.length + A.length : Nat) : Int))), (20, .int .i64 ((P.length + (s.1) : Nat) : Int)), (21, .int .i64 ((P.length + (s.2) : Nat) : Int)), (22, .int .i64 (((P.length + h : Nat) : Int) + ((P.length + A.length : Nat) : Int) - 1))], [(0, .row 48 5 encE e0 (P ++ (A ++ (B ++ Q))))], 1⟩) (u0, v0) ⟨Nat.le_refl _, by show u0 ≤ v0; omega, Nat.le_refl _, .inl rfl, .inl rfl⟩ ((wk_of [(0, .id 0)] rfl ⟨(by first | exact .base (.own _ _ rfl) | exact .base (.nilown _ rfl) | exact .base (.trunc _ _ _ rfl)), .base (.tree _ _ rfl rfl), .base (.tree _ _ rfl rfl), .base (.tree _ _ rfl rfl), .fn _ _ _ _ _ (by repeat (first | exact .nil | refine .cons (by first | exact .tree _ _ rfl rfl | exact .ptr _ _ _ rfl | exact .own _ _ rfl) ?_)) (by repeat (first | exact .nil | refine .cons (by first | exact .tree _ _ rfl rfl | exact .ptr _ _ _ rfl | exact .own _ _ rfl) ?_)), .base (.tree _ _ rfl rfl), .base (.tree _ _ rfl rfl), .base (.tree _ _ (show AV.int .i64 _ = AV.int .i64 ((P.length + u0 : Nat) : Int) by congr 1; omega) rfl), .base (.tree _ _ (show AV.int .i64 _ = AV.int .i64 ((P.length + v0 : Nat) : Int) by congr 1; omega) rfl), .base (.tree _ _ rfl rfl), trivial⟩ ⟨⟨_, rfl, (by first | exact .row _ _ _ _ _ _ _ rfl rfl | exact .lstrow _ _ _ _ _ _ _ rfl rfl | exact .nilrow _ _ _ _ _ rfl | exact .truncrow _ _ _ _ _ _ _ _ rfl (by omega) rfl)⟩, trivial⟩)) ?_
    rintro ⟨u, v⟩ ⟨h1, h2, h3, h4, h5⟩
    dsimp only at h1 h2 h3 h4 h5
    change evCode _ _ ⟨[(0, .own 0), (1, .int .i64 (P.length : Nat)), (2, .int .i64 ((P.length + A.length : Nat) : Int)), (3, .int .i64 ((P.length + A.length + B.length : Nat) : Int)), (4, .fn (.func 29) [] []), (18, .int .i64 ((P.length + h : Nat) : Int)), (19, .int .i64 (((P.length + h : Nat) : Int) + ((P.length + A.length : Nat) : Int))), (20, .int .i64 ((P.length + u : Nat) : Int)), (21, .int .i64 ((P.length + v : Nat) : Int)), (22, .int .i64 (((P.length + h : Nat) : Int) + ((P.length + A.length : Nat) : Int) - 1))], [(0, .row 48 5 encE e0 (P ++ (A ++ (B ++ Q))))], 1⟩ _
    conv => whnf
    refine ⟨fun hf => ?_, fun hf => ?_⟩
    · simp only [decide_eq_true_eq] at hf
      conv => whnf
      refine And.intro ⟨by omega, by omega⟩ ?_; conv => whnf
      refine And.intro (by decide) ?_
      conv => whnf
      rw [mid_nat (u := P.length + u) (v := P.length + v) (by omega)]
      have hm2 : ((P.length + u) + (P.length + v)) / 2 = P.length + (u + v) / 2 := by omega
      rw [hm2]
      generalize hcc : (u + v) / 2 = c at *
      have hc1 : u ≤ c ∧ c < v := by omega
      refine And.intro ⟨by omega, by omega⟩ ?_
      conv => whnf
      refine .quiet (by kernel_rfl) ?_; conv => whnf
      refine And.intro ⟨by omega, by omega⟩ ?_; conv => whnf
      refine And.intro ⟨by omega, by omega⟩ ?_; conv => whnf
      refine And.intro (by omega) (And.intro rfl ?_); conv => whnf
      refine And.intro ⟨by omega, by omega⟩ ?_; conv => whnf
      refine And.intro (by omega) (And.intro rfl ?_); conv => whnf
      rw [show (P ++ (A ++ (B ++ Q))).getD (((P.length + h : Nat) : Int) + ((P.length + A.length : Nat) : Int) - 1 - ((P.length + c : Nat) : Int)).toNat e0 = B.getD (h - 1 - c) e0 from in_right P A B Q (by omega) (by omega)]
      rw [show (P ++ (A ++ (B ++ Q))).getD ((P.length + c : Nat) : Int).toNat e0 = A.getD c e0 from in_left P A B Q (by rw [Int.toNat_natCast]) (by omega)]
      refine .mk _ _ _ _ (fun _ => byId_ok (B.getD (h - 1 - c) e0) (A.getD c e0)) (by repeat (first | exact .nil | (apply BorL.cons; first | exact lS rfl | exact lR rfl | exact lM rfl rfl | exact lL rfl | exact lX rfl | exact lN | exact lNl | exact lSm rfl | exact lIm rfl | exact lP rfl | exact lQ rfl | exact lB rfl rfl rfl))) rfl ?_
      conv => whnf
      refine ⟨fun he => ?_, fun he => ?_⟩
      · simp only [Bool.not_eq_true', decide_eq_false_iff_not, cmpI_lt] at he
        conv => whnf
        refine And.intro ⟨by omega, by omega⟩ ?_; conv => whnf
        refine ⟨(c + 1, v), ⟨by show u0 ≤ c + 1; omega, by show c + 1 ≤ v; omega, h3, .inr (by show (A.getD c e0).id ≤ (B.getD (h - (c + 1)) e0).id; rw [show h - (c + 1) = h - 1 - c by omega]; omega), h5⟩, (show v - (c + 1) < v - u by omega), (wk_of [(0, .id 0)] rfl ⟨(by first | exact .base (.own _ _ rfl) | exact .base (.nilown _ rfl) | exact .base (.trunc _ _ _ rfl)), .base (.tree _ _ rfl rfl), .base (.tree _ _ rfl rfl), .base (.tree _ _ rfl rfl), .fn _ _ _ _ _ (by repeat (first | exact .nil | refine .cons (by first | exact .tree _ _ rfl rfl | exact .ptr _ _ _ rfl | exact .own _ _ rfl) ?_)) (by repeat (first | exact .nil | refine .cons (by first | exact .tree _ _ rfl rfl | exact .ptr _ _ _ rfl | exact .own _ _ rfl) ?_)), .base (.tree _ _ rfl rfl), .base (.tree _ _ rfl rfl), .base (.tree _ _ rfl rfl), .base (.tree _ _ rfl rfl), .base (.tree _ _ rfl rfl), trivial⟩ ⟨⟨_, rfl, (by first | exact .row _ _ _ _ _ _ _ rfl rfl | exact .lstrow _ _ _ _ _ _ _ rfl rfl | exact .nilrow _ _ _ _ _ rfl | exact .truncrow _ _ _ _ _ _ _ _ rfl (by omega) rfl)⟩, trivial⟩)⟩
      · simp only [Bool.not_eq_false', decide_eq_true_eq, cmpI_lt] at he
        conv => whnf
        refine ⟨(u, c), ⟨h1, hc1.1, by show c ≤ v0; omega, h4, .inr he⟩, (show c - u < v - u by omega), (wk_of [(0, .id 0)] rfl ⟨(by first | exact .base (.own _ _ rfl) | exact .base (.nilown _ rfl) | exact .base (.trunc _ _ _ rfl)), .base (.tree _ _ rfl rfl), .base (.tree _ _ rfl rfl), .base (.tree _ _ rfl rfl), .fn _ _ _ _ _ (by repeat (first | exact .nil | refine .cons (by first | exact .tree _ _ rfl rfl | exact .ptr _ _ _ rfl | exact .own _ _ rfl) ?_)) (by repeat (first | exact .nil | refine .cons (by first | exact .tree _ _ rfl rfl | exact .ptr _ _ _ rfl | exact .own _ _ rfl) ?_)), .base (.tree _ _ rfl rfl), .base (.tree _ _ rfl rfl), .base (.tree _ _ rfl rfl), .base (.tree _ _ rfl rfl), .base (.tree _ _ rfl rfl), trivial⟩ ⟨⟨_, rfl, (by first | exact .row _ _ _ _ _ _ _ rfl rfl | exact .lstrow _ _ _ _ _ _ _ rfl rfl | exact .nilrow _ _ _ _ _ rfl | exact .truncrow _ _ _ _ _ _ _ _ rfl (by omega) rfl)⟩, trivial⟩)⟩
    · simp only [decide_eq_false_iff_not] at hf
      obtain rfl : u = v := by omega
      obtain ⟨hu1, hu2, hu3⟩ : u ≤ A.length ∧ u ≤ h ∧ h - u ≤ B.length := by omega
      have cx1 := cross1 sA sB (u := u) (h := h) (fun x y => h5.elim (fun e => absurd e (by omega)) id) hu3
      have cx2 := cross2 sA sB (u := u) (h := h) (fun x y => h4.elim (fun e => absurd e (by omega)) id) hu1
      have eA := List.take_append_drop u A
      have eB := List.take_append_drop (h - u) B
      have lA1 : (A.take u).length = u := by rw [List.length_take]; omega
      have lA2 : (A.drop u).length = A.length - u := List.length_drop
      have lB1 : (B.take (h - u)).length = h - u := by rw [List.length_take]; omega
      have lB2 : (B.drop (h - u)).length = B.length - (h - u) := List.length_drop
      have sA1 : Asc (A.take u) := Asc.left (b := A.drop u) (by rw [eA]; exact sA)
      have sA2 : Asc (A.drop u) := Asc.right (a := A.take u) (by rw [eA]; exact sA)
      have sB1 : Asc (B.take (h - u)) := Asc.left (b := B.drop (h - u)) (by rw [eB]; exact sB)
      have sB2 : Asc (B.drop (h - u)) := Asc.right (a := B.take (h - u)) (by rw [eB]; exact sB)
      generalize A.take u = A1 at *
      generalize A.drop u = A2 at *
      generalize B.take (h - u) = B1 at *
      generalize B.drop (h - u) = B2 at *
      have eR : P ++ (A ++ (B ++ Q)) = (P ++ A1) ++ (A2 ++ (B1 ++ (B2 ++ Q))) := by
        rw [← eA, ← eB]
        simp
      conv => whnf
      refine And.intro ⟨by omega, by omega⟩ ?_; conv => whnf
      refine ⟨fun q1 => ?_, fun q1 => ?_⟩
      · simp only [decide_eq_true_eq, Bool.and_eq_true] at q1
        have hcall1 := rot_ok (P ++ A1) A2 B1 (B2 ++ Q) (by omega) (by omega) (by simp only [List.length_append]; omega) (a := ((P.length + u : Nat) : Int)) (m := ((P.length + A.length : Nat) : Int)) (b := ((P.length + h : Nat) : Int) + ((P.length + A.length : Nat) : Int) - ((P.length + u : Nat) : Int)) (xs := P ++ (A ++ (B ++ Q))) (by simp only [List.length_append]; omega) (by simp only [List.length_append]; omega) (by simp only [List.length_append]; omega) eR
        conv => whnf
        refine .raw _ _ rfl (fun h => by cases h) (callio_sem (hcall1) [0] _ rfl rfl ⟨rfl, trivial⟩ (by repeat (first | exact .nil | (apply BorL.cons; first | exact .map _ _ rfl | exact .ptr _ _ _ rfl | exact .own _ _ rfl | exact .fnp _ _ _ _ rfl | (apply BorIO.lend; first | exact lS rfl | exact lR rfl | exact lM rfl rfl | exact lL rfl | exact lX rfl | exact lN | exact lNl | exact lSm rfl | exact lIm rfl | exact lP rfl | exact lQ rfl | exact lB rfl rfl rfl)))) rfl (by first | exact .inl rfl | exact .inr (fun b rs h => by first | obtain ⟨rfl, rfl⟩ := h | obtain ⟨_, _, _, rfl, rfl⟩ := h; exact ⟨by repeat (first | exact flats_nil | refine flats_cons (by first | exact flat_val _ rfl | exact flat_row (fun _ => rfl) | exact flat_lst (fun _ => rfl)) ?_), by repeat (first | exact flats0 | refine flats1 (by first | exact flatB_row (fun _ => rfl) | exact flatB_lst (fun _ => rfl) | exact flatB_smap (fun _ => rfl) | exact flatB_imap (fun _ => rfl) | exact flatB_cells rfl) ?_)⟩))) ?_
        rintro r ⟨b, rs, ⟨rfl, rfl⟩, rfl⟩
        refine ⟨tn_ge _ _, ?_⟩
        conv => whnf
        refine ⟨fun q2 => ?_, fun q2 => ?_⟩
        · simp only [decide_eq_true_eq, Bool.and_eq_true] at q2
          have hcall2 := ih (A1.length + B1.length) (by omega) P A1 B1 (A2 ++ (B2 ++ Q)) rfl (by omega) (by omega) sA1 sB1 (by simp only [List.length_append]; omega) (a := ((P.length : Nat) : Int)) (m := ((P.length + u : Nat) : Int)) (b := ((P.length + h : Nat) : Int)) (xs := (P ++ A1) ++ (B1 ++ (A2 ++ (B2 ++ Q)))) (by omega) (by omega) (by omega) (by simp)
          conv => whnf
          refine .raw _ _ rfl (fun h => by cases h) (callio_sem (hcall2) [0] _ rfl rfl ⟨rfl, trivial⟩ (by repeat (first | exact .nil | (apply BorL.cons; first | exact .map _ _ rfl | exact .ptr _ _ _ rfl | exact .own _ _ rfl | exact .fnp _ _ _ _ rfl | (apply BorIO.lend; first | exact lS rfl | exact lR rfl | exact lM rfl rfl | exact lL rfl | exact lX rfl | exact lN | exact lNl | exact lSm rfl | exact lIm rfl | exact lP rfl | exact lQ rfl | exact lB rfl rfl rfl)))) rfl (by first | exact .inl rfl | exact .inr (fun b rs h => by first | obtain ⟨rfl, rfl⟩ := h | obtain ⟨_, _, _, rfl, rfl⟩ := h; exact ⟨by repeat (first | exact flats_nil | refine flats_cons (by first | exact flat_val _ rfl | exact flat_row (fun _ => rfl) | exact flat_lst (fun _ => rfl)) ?_), by repeat (first | exact flats0 | refine flats1 (by first | exact flatB_row (fun _ => rfl) | exact flatB_lst (fun _ => rfl) | exact flatB_smap (fun _ => rfl) | exact flatB_imap (fun _ => rfl) | exact flatB_cells rfl) ?_)⟩))) ?_
          rintro r ⟨b, rs, ⟨M1, s1, t1, rfl, rfl⟩, rfl⟩
          have lM := t1.len
          rw [List.length_append] at lM
          refine ⟨tn_ge _ _, ?_⟩
          conv => whnf
          refine ⟨fun q3 => ?_, fun q3 => ?_⟩
          · simp only [decide_eq_true_eq, Bool.and_eq_true] at q3
            have hcall3 := ih (A2.length + B2.length) (by omega) (P ++ M1) A2 B2 Q rfl (by omega) (by omega) sA2 sB2 (by simp only [List.length_append]; omega) (a := ((P.length + h : Nat) : Int)) (m := ((P.length + h : Nat) : Int) + ((P.length + A.length : Nat) : Int) - ((P.length + u : Nat) : Int)) (b := ((P.length + A.length + B.length : Nat) : Int)) (xs := P ++ (M1 ++ (A2 ++ (B2 ++ Q)))) (by simp only [List.length_append]; omega) (by simp only [List.length_append]; omega) (by simp only [List.length_append]; omega) (by simp)
            conv => whnf
            refine .raw _ _ rfl (fun h => by cases h) (callio_sem (hcall3) [0] _ rfl rfl ⟨rfl, trivial⟩ (by repeat (first | exact .nil | (apply BorL.cons; first | exact .map _ _ rfl | exact .ptr _ _ _ rfl | exact .own _ _ rfl | exact .fnp _ _ _ _ rfl | (apply BorIO.lend; first | exact lS rfl | exact lR rfl | exact lM rfl rfl | exact lL rfl | exact lX rfl | exact lN | exact lNl | exact lSm rfl | exact lIm rfl | exact lP rfl | exact lQ rfl | exact lB rfl rfl rfl)))) rfl (by first | exact .inl rfl | exact .inr (fun b rs h => by first | obtain ⟨rfl, rfl⟩ := h | obtain ⟨_, _, _, rfl, rfl⟩ := h; exact ⟨by repeat (first | exact flats_nil | refine flats_cons (by first | exact flat_val _ rfl | exact flat_row (fun _ => rfl) | exact flat_lst (fun _ => rfl)) ?_), by repeat (first | exact flats0 | refine flats1 (by first | exact flatB_row (fun _ => rfl) | exact flatB_lst (fun _ => rfl) | exact flatB_smap (fun _ => rfl) | exact flatB_imap (fun _ => rfl) | exact flatB_cells rfl) ?_)⟩))) ?_
            rintro r ⟨b, rs, ⟨M2, s2, t2, rfl, rfl⟩, rfl⟩
            refine ⟨tn_ge _ _, ?_⟩
            conv => whnf
            obtain ⟨f1, f2⟩ := merge_fin (by rw [eA]; exact sA) (by rw [eB]; exact sB) cx1 cx2 s1 t1 s2 t2
            rw [eA, eB] at f2
            refine ⟨_, f1, f2, ?_, rfl⟩
            simp only [List.append_assoc]
            rfl
          · simp only [decide_eq_false_iff_not, Bool.and_eq_false_iff, decide_eq_true_eq] at q3
            have s2 : Asc (A2 ++ B2) := by
              by_cases hz : A2.length = 0
              · rw [List.eq_nil_of_length_eq_zero hz]; exact sB2
              · rw [List.eq_nil_of_length_eq_zero (show B2.length = 0 by omega), List.append_nil]; exact sA2
            conv => whnf
            obtain ⟨f1, f2⟩ := merge_fin (by rw [eA]; exact sA) (by rw [eB]; exact sB) cx1 cx2 s1 t1 s2 (Stb.refl _)
            rw [eA, eB] at f2
            refine ⟨_, f1, f2, ?_, rfl⟩
            simp only [List.append_assoc]
            rfl
        · simp only [decide_eq_false_iff_not, Bool.and_eq_false_iff, decide_eq_true_eq] at q2
          obtain ⟨M1, s1, t1, eM⟩ : ∃ M1, Asc M1 ∧ Stb (A1 ++ B1) M1 ∧ (P ++ A1) ++ (B1 ++ (A2 ++ (B2 ++ Q))) = P ++ (M1 ++ (A2 ++ (B2 ++ Q))) := by
            refine ⟨A1 ++ B1, ?_, Stb.refl _, by simp⟩
            by_cases hz : A1.length = 0
            · rw [List.eq_nil_of_length_eq_zero hz]; exact sB1
            · rw [List.eq_nil_of_length_eq_zero (show B1.length = 0 by omega), List.append_nil]; exact sA1
          have lM := t1.len
          rw [List.length_append] at lM
          rw [eM]
          conv => whnf
          refine ⟨fun q3 => ?_, fun q3 => ?_⟩
          · simp only [decide_eq_true_eq, Bool.and_eq_true] at q3
            have hcall3 := ih (A2.length + B2.length) (by omega) (P ++ M1) A2 B2 Q rfl (by omega) (by omega) sA2 sB2 (by simp only [List.length_append]; omega) (a := ((P.length + h : Nat) : Int)) (m := ((P.length + h : Nat) : Int) + ((P.length + A.length : Nat) : Int) - ((P.length + u : Nat) : Int)) (b := ((P.length + A.length + B.length : Nat) : Int)) (xs := P ++ (M1 ++ (A2 ++ (B2 ++ Q)))) (by simp only [List.length_append]; omega) (by simp only [List.length_append]; omega) (by simp only [List.length_append]; omega) (by simp)
            conv => whnf
            refine .raw _ _ rfl (fun h => by cases h) (callio_sem (hcall3) [0] _ rfl rfl ⟨rfl, trivial⟩ (by repeat (first | exact .nil | (apply BorL.cons; first | exact .map _ _ rfl | exact .ptr _ _ _ rfl | exact .own _ _ rfl | exact .fnp _ _ _ _ rfl | (apply BorIO.lend; first | exact lS rfl | exact lR rfl | exact lM rfl rfl | exact lL rfl | exact lX rfl | exact lN | exact lNl | exact lSm rfl | exact lIm rfl | exact lP rfl | exact lQ rfl | exact lB rfl rfl rfl)))) rfl (by first | exact .inl rfl | exact .inr (fun b rs h => by first | obtain ⟨rfl, rfl⟩ := h | obtain ⟨_, _, _, rfl, rfl⟩ := h; exact ⟨by repeat (first | exact flats_nil | refine flats_cons (by first | exact flat_val _ rfl | exact flat_row (fun _ => rfl) | exact flat_lst (fun _ => rfl)) ?_), by repeat (first | exact flats0 | refine flats1 (by first | exact flatB_row (fun _ => rfl) | exact flatB_lst (fun _ => rfl) | exact flatB_smap (fun _ => rfl) | exact flatB_imap (fun _ => rfl) | exact flatB_cells rfl) ?_)⟩))) ?_
            rintro r ⟨b, rs, ⟨M2, s2, t2, rfl, rfl⟩, rfl⟩
            refine ⟨tn_ge _ _, ?_⟩
            conv => whnf
            obtain ⟨f1, f2⟩ := merge_fin (by rw [eA]; exact sA) (by rw [eB]; exact sB) cx1 cx2 s1 t1 s2 t2
            rw [eA, eB] at f2
            refine ⟨_, f1, f2, ?_, rfl⟩
            simp only [List.append_assoc]
            rfl
          · simp only [decide_eq_false_iff_not, Bool.and_eq_false_iff, decide_eq_true_eq] at q3
            have s2 : Asc (A2 ++ B2) := by
              by_cases hz : A2.length = 0
              · rw [List.eq_nil_of_length_eq_zero hz]; exact sB2
              · rw [List.eq_nil_of_length_eq_zero (show B2.length = 0 by omega), List.append_nil]; exact sA2
            conv => whnf
            obtain ⟨f1, f2⟩ := merge_fin (by rw [eA]; exact sA) (by rw [eB]; exact sB) cx1 cx2 s1 t1 s2 (Stb.refl _)
            rw [eA, eB] at f2
            refine ⟨_, f1, f2, ?_, rfl⟩
            simp only [List.append_assoc]
            rfl
      · simp only [decide_eq_false_iff_not, Bool.and_eq_false_iff, decide_eq_true_eq] at q1
        have eR2 : P ++ (A ++ (B ++ Q)) = (P ++ A1) ++ (B1 ++ (A2 ++ (B2 ++ Q))) := by
          rw [eR]
          by_cases hz : A2.length = 0
          · rw [List.eq_nil_of_length_eq_zero hz, List.nil_append, List.nil_append]
          · rw [List.eq_nil_of_length_eq_zero (show B1.length = 0 by omega), List.nil_append, List.nil_append]
        rw [eR2]
        conv => whnf
        refine ⟨fun q2 => ?_, fun q2 => ?_⟩
        · simp only [decide_eq_true_eq, Bool.and_eq_true] at q2
          have hcall2 := ih (A1.length + B1.length) (by omega) P A1 B1 (A2 ++ (B2 ++ Q)) rfl (by omega) (by omega) sA1 sB1 (by simp only [List.length_append]; omega) (a := ((P.length : Nat) : Int)) (m := ((P.length + u : Nat) : Int)) (b := ((P.length + h : Nat) : Int)) (xs := (P ++ A1) ++ (B1 ++ (A2 ++ (B2 ++ Q)))) (by omega) (by omega) (by omega) (by simp)
          conv => whnf
          refine .raw _ _ rfl (fun h => by cases h) (callio_sem (hcall2) [0] _ rfl rfl ⟨rfl, trivial⟩ (by repeat (first | exact .nil | (apply BorL.cons; first | exact .map _ _ rfl | exact .ptr _ _ _ rfl | exact .own _ _ rfl | exact .fnp _ _ _ _ rfl | (apply BorIO.lend; first | exact lS rfl | exact lR rfl | exact lM rfl rfl | exact lL rfl | exact lX rfl | exact lN | exact lNl | exact lSm rfl | exact lIm rfl | exact lP rfl | exact lQ rfl | exact lB rfl rfl rfl)))) rfl (by first | exact .inl rfl | exact .inr (fun b rs h => by first | obtain ⟨rfl, rfl⟩ := h | obtain ⟨_, _, _, rfl, rfl⟩ := h; exact ⟨by repeat (first | exact flats_nil | refine flats_cons (by first | exact flat_val _ rfl | exact flat_row (fun _ => rfl) | exact flat_lst (fun _ => rfl)) ?_), by repeat (first | exact flats0 | refine flats1 (by first | exact flatB_row (fun _ => rfl) | exact flatB_lst (fun _ => rfl) | exact flatB_smap (fun _ => rfl) | exact flatB_imap (fun _ => rfl) | exact flatB_cells rfl) ?_)⟩))) ?_
          rintro r ⟨b, rs, ⟨M1, s1, t1, rfl, rfl⟩, rfl⟩
          have lM := t1.len
          rw [List.length_append] at lM
          refine ⟨tn_ge _ _, ?_⟩
          conv => whnf
          refine ⟨fun q3 => ?_, fun q3 => ?_⟩
          · simp only [decide_eq_true_eq, Bool.and_eq_true] at q3
            have hcall3 := ih (A2.length + B2.length) (by omega) (P ++ M1) A2 B2 Q rfl (by omega) (by omega) sA2 sB2 (by simp only [List.length_append]; omega) (a := ((P.length + h : Nat) : Int)) (m := ((P.length + h : Nat) : Int) + ((P.length + A.length : Nat) : Int) - ((P.length + u : Nat) : Int)) (b := ((P.length + A.length + B.length : Nat) : Int)) (xs := P ++ (M1 ++ (A2 ++ (B2 ++ Q)))) (by simp only [List.length_append]; omega) (by simp only [List.length_append]; omega) (by simp only [List.length_append]; omega) (by simp)
            conv => whnf
            refine .raw _ _ rfl (fun h => by cases h) (callio_sem (hcall3) [0] _ rfl rfl ⟨rfl, trivial⟩ (by repeat (first | exact .nil | (apply BorL.cons; first | exact .map _ _ rfl | exact .ptr _ _ _ rfl | exact .own _ _ rfl | exact .fnp _ _ _ _ rfl | (apply BorIO.lend; first | exact lS rfl | exact lR rfl | exact lM rfl rfl | exact lL rfl | exact lX rfl | exact lN | exact lNl | exact lSm rfl | exact lIm rfl | exact lP rfl | exact lQ rfl | exact lB rfl rfl rfl)))) rfl (by first | exact .inl rfl | exact .inr (fun b rs h => by first | obtain ⟨rfl, rfl⟩ := h | obtain ⟨_, _, _, rfl, rfl⟩ := h; exact ⟨by repeat (first | exact flats_nil | refine flats_cons (by first | exact flat_val _ rfl | exact flat_row (fun _ => rfl) | exact flat_lst (fun _ => rfl)) ?_), by repeat (first | exact flats0 | refine flats1 (by first | exact flatB_row (fun _ => rfl) | exact flatB_lst (fun _ => rfl) | exact flatB_smap (fun _ => rfl) | exact flatB_imap (fun _ => rfl) | exact flatB_cells rfl) ?_)⟩))) ?_
            rintro r ⟨b, rs, ⟨M2, s2, t2, rfl, rfl⟩, rfl⟩
            refine ⟨tn_ge _ _, ?_⟩
            conv => whnf
            obtain ⟨f1, f2⟩ := merge_fin (by rw [eA]; exact sA) (by rw [eB]; exact sB) cx1 cx2 s1 t1 s2 t2
            rw [eA, eB] at f2
            refine ⟨_, f1, f2, ?_, rfl⟩
            simp only [List.append_assoc]
            rfl
          · simp only [decide_eq_false_iff_not, Bool.and_eq_false_iff, decide_eq_true_eq] at q3
            have s2 : Asc (A2 ++ B2) := by
              by_cases hz : A2.length = 0
              · rw [List.eq_nil_of_length_eq_zero hz]; exact sB2
              · rw [List.eq_nil_of_length_eq_zero (show B2.length = 0 by omega), List.append_nil]; exact sA2
            conv => whnf
            obtain ⟨f1, f2⟩ := merge_fin (by rw [eA]; exact sA) (by rw [eB]; exact sB) cx1 cx2 s1 t1 s2 (Stb.refl _)
            rw [eA, eB] at f2
            refine ⟨_, f1, f2, ?_, rfl⟩
            simp only [List.append_assoc]
            rfl
        · simp only [decide_eq_false_iff_not, Bool.and_eq_false_iff, decide_eq_true_eq] at q2
          obtain ⟨M1, s1, t1, eM⟩ : ∃ M1, Asc M1 ∧ Stb (A1 ++ B1) M1 ∧ (P ++ A1) ++ (B1 ++ (A2 ++ (B2 ++ Q))) = P ++ (M1 ++ (A2 ++ (B2 ++ Q))) := by
            refine ⟨A1 ++ B1, ?_, Stb.refl _, by simp⟩
            by_cases hz : A1.length = 0
            · rw [List.eq_nil_of_length_eq_zero hz]; exact sB1
            · rw [List.eq_nil_of_length_eq_zero (show B1.length = 0 by omega), List.append_nil]; exact sA1
          have lM := t1.len
          rw [List.length_append] at lM
          rw [eM]
          conv => whnf
          refine ⟨fun q3 => ?_, fun q3 => ?_⟩
          · simp only [decide_eq_true_eq, Bool.and_eq_true] at q3
            have hcall3 := ih (A2.length + B2.length) (by omega) (P ++ M1) A2 B2 Q rfl (by omega) (by omega) sA2 sB2 (by simp only [List.length_append]; omega) (a := ((P.length + h : Nat) : Int)) (m := ((P.length + h : Nat) : Int) + ((P.length + A.length : Nat) : Int) - ((P.length + u : Nat) : Int)) (b := ((P.length + A.length + B.length : Nat) : Int)) (xs := P ++ (M1 ++ (A2 ++ (B2 ++ Q)))) (by simp only [List.length_append]; omega) (by simp only [List.length_append]; omega) (by simp only [List.length_append]; omega) (by simp)
            conv => whnf
            refine .raw _ _ rfl (fun h => by cases h) (callio_sem (hcall3) [0] _ rfl rfl ⟨rfl, trivial⟩ (by repeat (first | exact .nil | (apply BorL.cons; first | exact .map _ _ rfl | exact .ptr _ _ _ rfl | exact .own _ _ rfl | exact .fnp _ _ _ _ rfl | (apply BorIO.lend; first | exact lS rfl | exact lR rfl | exact lM rfl rfl | exact lL rfl | exact lX rfl | exact lN | exact lNl | exact lSm rfl | exact lIm rfl | exact lP rfl | exact lQ rfl | exact lB rfl rfl rfl)))) rfl (by first | exact .inl rfl | exact .inr (fun b rs h => by first | obtain ⟨rfl, rfl⟩ := h | obtain ⟨_, _, _, rfl, rfl⟩ := h; exact ⟨by repeat (first | exact flats_nil | refine flats_cons (by first | exact flat_val _ rfl | exact flat_row (fun _ => rfl) | exact flat_lst (fun _ => rfl)) ?_), by repeat (first | exact flats0 | refine flats1 (by first | exact flatB_row (fun _ => rfl) | exact flatB_lst (fun _ => rfl) | exact flatB_smap (fun _ => rfl) | exact flatB_imap (fun _ => rfl) | exact flatB_cells rfl) ?_)⟩))) ?_
            rintro r ⟨b, rs, ⟨M2, s2, t2, rfl, rfl⟩, rfl⟩
            refine ⟨tn_ge _ _, ?_⟩
            conv => whnf
            obtain ⟨f1, f2⟩ := merge_fin (by rw [eA]; exact sA) (by rw [eB]; exact sB) cx1 cx2 s1 t1 s2 t2
            rw [eA, eB] at f2
            refine ⟨_, f1, f2, ?_, rfl⟩
            simp only [List.append_assoc]
            rfl
          · simp only [decide_eq_false_iff_not, Bool.and_eq_false_iff, decide_eq_true_eq] at q3
            have s2 : Asc (A2 ++ B2) := by
              by_cases hz : A2.length = 0
              · rw [List.eq_nil_of_length_eq_zero hz]; exact sB2
              · rw [List.eq_nil_of_length_eq_zero (show B2.length = 0 by omega), List.append_nil]; exact sA2
            conv => whnf
            obtain ⟨f1, f2⟩ := merge_fin (by rw [eA]; exact sA) (by rw [eB]; exact sB) cx1 cx2 s1 t1 s2 (Stb.refl _)
            rw [eA, eB] at f2
            refine ⟨_, f1, f2, ?_, rfl⟩
            simp only [List.append_assoc]
            rfl

end Go.Proofs.YtjlnaogechkjdaaDoor

namespace Go.Proofs.YtjlnaogechkjdaaDoor
open Go.Own
set_option maxHeartbeats 4000000
set_option maxRecDepth 100000

theorem merge_ok (n : Nat) : MergeAt n := by
  induction n using Nat.strongRecOn with
  | _ n ih => exact merge_step n ih

theorem shR_get (P S : List Ent) (x : Ent) (Q : List Ent) {t n : Nat} (ht : t ≤ S.length) (hn : n = P.length + t) : (shR P S x Q t).getD n e0 = x := by
  unfold shR
  have : P ++ (S.take t ++ ([x] ++ (S.drop t ++ Q))) = (P ++ S.take t) ++ x :: (S.drop t ++ Q) := by simp
  rw [this]
  refine get_at _ _ _ ?_
  rw [List.length_append, List.length_take]
  omega
theorem shR_prev (P S : List Ent) (x : Ent) (Q : List Ent) {t n : Nat} (ht : t + 1 ≤ S.length) (hn : n = P.length + t) : (shR P S x Q (t + 1)).getD n e0 = S.getD t e0 := by
  rw [shR_succ P S x Q (by omega)]
  refine get_at _ _ _ ?_
  rw [List.length_append, List.length_take]
  omega

theorem shR_open (P S A Q : List Ent) {k : Nat} (hk : k < A.length) (hs : S.length = k) : P ++ (S ++ (A.drop k ++ Q)) = shR P S (A.getD k e0) (A.drop (k + 1) ++ Q) k := by
  rw [drop_getD' hk]
  unfold shR
  rw [List.take_of_length_le (l := S) (by omega), List.drop_of_length_le (l := S) (by omega)]
  simp

theorem shR_close (P S : List Ent) (x : Ent) (Q : List Ent) (t : Nat) : shR P S x Q t = P ++ ((S.take t ++ ([x] ++ S.drop t)) ++ Q) := by
  unfold shR
  simp

theorem insert_ok (P A Q : List Ent) (hA : 0 < A.length) (hb : P.length + A.length + Q.length ≤ 1000000) {a b : Int} {xs : List Ent}
    (ha : a = (P.length : Nat)) (hb' : b = ((P.length + A.length : Nat) : Int)) (hx : xs = P ++ (A ++ Q)) :
    AIO Tryd.prog 58 [.own 0, .int .i64 a, .int .i64 b, .fn (.func 29) [] []] [.row 48 5 encE e0 xs] (fun bs rs => ∃ M, Asc M ∧ Stb A M ∧ bs = [.row 48 5 encE e0 (P ++ (M ++ Q))] ∧ rs = []) := by
  subst ha hb' hx
  refine aio_of (C := cxP 1 53 [0, 1, 2, 3, 8, 9, 14, 34]) (cxPOk _ _ _) Tryd.func58 rfl (by decide) rfl (by exact Nat.le_of_ble_eq_true rfl) (by decide) rfl rfl ?_
  conv => whnf
  refine And.intro ⟨by omega, by omega⟩ ?_; conv => whnf
  refine loop_inv (cxPOk _ _ _) (σ := Nat × List Ent) (fun s => 1 ≤ s.1 ∧ s.1 ≤ A.length ∧ Asc s.2 ∧ Stb (A.take s.1) s.2) (fun s => A.length - s.1) (fun s => ⟨[(0, .own 0), (1, .int .i64 (P.length : Nat)), (2, .int .i64 ((P.length + A.length : Nat) : Int)), (3, .fn (.func 29) [] []), (8, .int .i64 ((P.length + (s.1) : Nat) : Int))], [(0, .row 48 5 encE e0 (P ++ ((s.2) ++ (A.drop (s.1) ++ Q))))], 1⟩) (1, A.take 1) ⟨Nat.le_refl _, hA, (by match A, hA with | x :: l, _ => exact asc_one x), Stb.refl _⟩ ((wk_of [(0, .id 0)] rfl ⟨(by first | exact .base (.own _ _ rfl) | exact .base (.nilown _ rfl) | exact .base (.trunc _ _ _ rfl)), .base (.tree _ _ rfl rfl), .base (.tree _ _ rfl rfl), .fn _ _ _ _ _ (by repeat (first | exact .nil | refine .cons (by first | exact .tree _ _ rfl rfl | exact .ptr _ _ _ rfl | exact .own _ _ rfl) ?_)) (by repeat (first | exact .nil | refine .cons (by first | exact .tree _ _ rfl rfl | exact .ptr _ _ _ rfl | exact .own _ _ rfl) ?_)), .base (.tree _ _ rfl rfl), trivial⟩ ⟨⟨_, rfl, (by first | exact .row _ _ _ _ _ _ _ rfl (show P ++ (A ++ Q) = P ++ (A.take 1 ++ (A.drop 1 ++ Q)) by rw [← List.append_assoc (A.take 1), List.take_append_drop]) | exact .lstrow _ _ _ _ _ _ _ rfl (show P ++ (A ++ Q) = P ++ (A.take 1 ++ (A.drop 1 ++ Q)) by rw [← List.append_assoc (A.take 1), List.take_append_drop]) | exact .nilrow _ _ _ _ _ (show P ++ (A ++ Q) = P ++ (A.take 1 ++ (A.drop 1 ++ Q)) by rw [← List.append_assoc (A.take 1), List.take_append_drop]) | exact .truncrow _ _ _ _ _ _ _ _ rfl (by omega) (show P ++ (A ++ Q) = P ++ (A.take 1 ++ (A.drop 1 ++ Q)) by rw [← List.append_assoc (A.take 1), List.take_append_drop]))⟩, trivial⟩)) ?_
  rintro ⟨k, s⟩ ⟨h1, h2, h3, h4⟩
  dsimp only at h1 h2 h3 h4
  change evCode _ _ ⟨[(0, .own 0), (1, .int .i64 (P.length : Nat)), (2, .int .i64 ((P.length + A.length : Nat) : Int)), (3, .fn (.func 29) [] []), (8, .int .i64 ((P.length + k : Nat) : Int))], [(0, .row 48 5 encE e0 (P ++ (s ++ (A.drop k ++ Q))))], 1⟩ _
  have hsl := h4.len
  rw [List.length_take, Nat.min_eq_left h2] at hsl
  conv => whnf
  refine ⟨fun hc => ?_, fun hc => ?_⟩
  · simp only [decide_eq_true_eq] at hc
    have hlt : k < A.length := by omega
    conv => whnf
    refine loop_inv (cxPOk _ _ _) (σ := Nat) (fun t => t ≤ k ∧ (s.length ≤ t ∨ (A.getD k e0).id < (s.getD t e0).id)) (fun t => t) (fun t => ⟨[(0, .own 0), (1, .int .i64 (P.length : Nat)), (2, .int .i64 ((P.length + A.length : Nat) : Int)), (3, .fn (.func 29) [] []), (8, .int .i64 ((P.length + k : Nat) : Int)), (9, .int .i64 ((P.length + t : Nat) : Int))], [(0, .row 48 5 encE e0 (shR P s (A.getD k e0) (A.drop (k + 1) ++ Q) t))], 1⟩) k ⟨Nat.le_refl _, .inl (by omega)⟩ ((wk_of [(0, .id 0)] rfl ⟨(by first | exact .base (.own _ _ rfl) | exact .base (.nilown _ rfl) | exact .base (.trunc _ _ _ rfl)), .base (.tree _ _ rfl rfl), .base (.tree _ _ rfl rfl), .fn _ _ _ _ _ (by repeat (first | exact .nil | refine .cons (by first | exact .tree _ _ rfl rfl | exact .ptr _ _ _ rfl | exact .own _ _ rfl) ?_)) (by repeat (first | exact .nil | refine .cons (by first | exact .tree _ _ rfl rfl | exact .ptr _ _ _ rfl | exact .own _ _ rfl) ?_)), .base (.tree _ _ rfl rfl), .base (.tree _ _ rfl rfl), trivial⟩ ⟨⟨_, rfl, (by first | exact .row _ _ _ _ _ _ _ rfl (shR_open P s A Q hlt hsl) | exact .lstrow _ _ _ _ _ _ _ rfl (shR_open P s A Q hlt hsl) | exact .nilrow _ _ _ _ _ (shR_open P s A Q hlt hsl) | exact .truncrow _ _ _ _ _ _ _ _ rfl (by omega) (shR_open P s A Q hlt hsl))⟩, trivial⟩)) ?_
    rintro t ⟨g1, g2⟩
    have hlen := shR_len P s (A.getD k e0) (A.drop (k + 1) ++ Q) t
    rw [List.length_append, List.length_drop] at hlen
    have done : ∀ {t : Nat}, t ≤ k → (s.length ≤ t ∨ (A.getD k e0).id < (s.getD t e0).id) → (t = 0 ∨ (s.getD (t - 1) e0).id ≤ (A.getD k e0).id) → Asc (s.take t ++ ([A.getD k e0] ++ s.drop t)) ∧ Stb (A.take (k + 1)) (s.take t ++ ([A.getD k e0] ++ s.drop t)) := by
      intro t q1 q2 q3
      have r1 := take_le h3 (i := t) (by omega) q3
      have r2 := drop_lt h3 q2
      refine ⟨put_in h3 r1 fun y hy => Int.le_of_lt (r2 y hy), ?_⟩
      rw [take_getD (d := e0) hlt]
      exact (h4.app (Stb.refl _)).trans (put_stb2 r2)
    conv => whnf
    rcases Nat.eq_zero_or_pos t with hz | hz
    · subst hz
      rw [show (P.length + 0 : Nat) = P.length from rfl]
      refine .quiet (by kernel_rfl) ?_
      conv => whnf
      rw [show decide ((P.length : Int) < (P.length : Int)) = false by simp]
      conv => whnf
      refine And.intro (fun _ => ⟨by omega, by omega⟩) ?_; conv => whnf
      refine And.intro (by omega) (And.intro rfl ?_); conv => whnf
      refine And.intro (fun _ => ⟨by omega, by omega⟩) ?_; conv => whnf
      refine ⟨fun h => absurd h (by decide), ?_⟩
      conv => whnf
      refine And.intro (by omega) (And.intro rfl ?_); conv => whnf
      refine .mk _ _ _ _ (fun _ => byId_ok ((shR P s (A.getD k e0) (A.drop (k + 1) ++ Q) 0).getD (P.length : Int).toNat e0) ((shR P s (A.getD k e0) (A.drop (k + 1) ++ Q) 0).getD ((P.length : Int) - 1).toNat e0)) (by repeat (first | exact .nil | (apply BorL.cons; first | exact lS rfl | exact lR rfl | exact lM rfl rfl | exact lL rfl | exact lX rfl | exact lN | exact lNl | exact lSm rfl | exact lIm rfl | exact lP rfl | exact lQ rfl | exact lB rfl rfl rfl))) rfl ?_
      conv => whnf
      refine ⟨fun he => ?_, fun he => ?_⟩
      · rw [Bool.false_and] at he
        cases he
      · obtain ⟨d1, d2⟩ := done (t := 0) g1 g2 (.inl rfl)
        conv => whnf
        refine And.intro ⟨by omega, by omega⟩ ?_; conv => whnf
        refine ⟨(k + 1, s.take 0 ++ ([A.getD k e0] ++ s.drop 0)), ⟨by show 1 ≤ k + 1; omega, by show k + 1 ≤ A.length; omega, d1, d2⟩, (show A.length - (k + 1) < A.length - k by omega), (wk_of [(0, .id 0)] rfl ⟨(by first | exact .base (.own _ _ rfl) | exact .base (.nilown _ rfl) | exact .base (.trunc _ _ _ rfl)), .base (.tree _ _ rfl rfl), .base (.tree _ _ rfl rfl), .fn _ _ _ _ _ (by repeat (first | exact .nil | refine .cons (by first | exact .tree _ _ rfl rfl | exact .ptr _ _ _ rfl | exact .own _ _ rfl) ?_)) (by repeat (first | exact .nil | refine .cons (by first | exact .tree _ _ rfl rfl | exact .ptr _ _ _ rfl | exact .own _ _ rfl) ?_)), .base (.tree _ _ rfl rfl), trivial⟩ ⟨⟨_, rfl, (by first | exact .row _ _ _ _ _ _ _ rfl (shR_close P s _ _ 0) | exact .lstrow _ _ _ _ _ _ _ rfl (shR_close P s _ _ 0) | exact .nilrow _ _ _ _ _ (shR_close P s _ _ 0) | exact .truncrow _ _ _ _ _ _ _ _ rfl (by omega) (shR_close P s _ _ 0))⟩, trivial⟩)⟩
    · obtain ⟨t', rfl⟩ : ∃ t', t = t' + 1 := ⟨t - 1, by omega⟩
      refine .quiet (by kernel_rfl) ?_
      conv => whnf
      rw [show decide (((P.length : Nat) : Int) < ((P.length + (t' + 1) : Nat) : Int)) = true by rw [decide_eq_true_eq]; omega]
      conv => whnf
      refine And.intro (fun _ => ⟨by omega, by omega⟩) ?_; conv => whnf
      refine And.intro (by omega) (And.intro rfl ?_); conv => whnf
      refine And.intro (fun _ => ⟨by omega, by omega⟩) ?_; conv => whnf
      refine And.intro (fun _ => ⟨by omega, by omega⟩) ?_; conv => whnf
      refine And.intro (by omega) (And.intro rfl ?_); conv => whnf
      rw [shR_get P s (A.getD k e0) _ (t := t' + 1) (by omega) (by omega), shR_prev P s (A.getD k e0) _ (t := t') (by omega) (by omega)]
      refine .mk _ _ _ _ (fun _ => byId_ok (A.getD k e0) (s.getD t' e0)) (by repeat (first | exact .nil | (apply BorL.cons; first | exact lS rfl | exact lR rfl | exact lM rfl rfl | exact lL rfl | exact lX rfl | exact lN | exact lNl | exact lSm rfl | exact lIm rfl | exact lP rfl | exact lQ rfl | exact lB rfl rfl rfl))) rfl ?_
      conv => whnf
      rw [Bool.true_and]
      refine ⟨fun he => ?_, fun he => ?_⟩
      · simp only [decide_eq_true_eq, cmpI_lt] at he
        conv => whnf
        refine .eff (by first | exact cxOk _ _ | exact cxPOk _ _ _) ?_; conv => whnf
        refine And.intro ⟨by omega, by omega⟩ ?_; conv => whnf
        refine And.intro ⟨by omega, by omega⟩ ?_; conv => whnf
        refine And.intro ⟨by omega, by omega⟩ ?_; conv => whnf
        refine And.intro (by omega) (And.intro rfl ?_); conv => whnf
        refine And.intro ⟨by omega, by omega⟩ ?_; conv => whnf
        refine And.intro (by omega) (And.intro rfl ?_); conv => whnf
        refine And.intro ⟨by omega, by omega⟩ ?_; conv => whnf
        refine Exists.intro _ (And.intro rfl (And.intro (by first | omega | (simp; omega)) (And.intro ⟨rfl, rfl, rfl, rfl, rfl⟩ ?_))); conv => whnf
        rw [List.length_set]
        refine And.intro ⟨by omega, by omega⟩ ?_; conv => whnf
        refine Exists.intro _ (And.intro rfl ?_); conv => whnf
        rw [List.length_set]
        refine And.intro (by omega) (And.intro ⟨rfl, rfl, rfl, rfl, rfl⟩ ?_)
        conv => whnf
        refine And.intro rfl ?_; conv => whnf
        refine And.intro ⟨by omega, by omega⟩ ?_; conv => whnf
        refine ⟨t', ⟨by omega, .inr he⟩, (show t' < t' + 1 by omega), (wk_of [(0, .id 0)] rfl ⟨(by first | exact .base (.own _ _ rfl) | exact .base (.nilown _ rfl) | exact .base (.trunc _ _ _ rfl)), .base (.tree _ _ rfl rfl), .base (.tree _ _ rfl rfl), .fn _ _ _ _ _ (by repeat (first | exact .nil | refine .cons (by first | exact .tree _ _ rfl rfl | exact .ptr _ _ _ rfl | exact .own _ _ rfl) ?_)) (by repeat (first | exact .nil | refine .cons (by first | exact .tree _ _ rfl rfl | exact .ptr _ _ _ rfl | exact .own _ _ rfl) ?_)), .base (.tree _ _ rfl rfl), .base (.tree _ _ (show AV.int .i64 _ = AV.int .i64 ((P.length + t' : Nat) : Int) by congr 1; omega) rfl), trivial⟩ ⟨⟨_, rfl, (by first | exact .row _ _ _ _ _ _ _ rfl (shR_back P s _ _ (by omega) (by omega) (by omega)) | exact .lstrow _ _ _ _ _ _ _ rfl (shR_back P s _ _ (by omega) (by omega) (by omega)) | exact .nilrow _ _ _ _ _ (shR_back P s _ _ (by omega) (by omega) (by omega)) | exact .truncrow _ _ _ _ _ _ _ _ rfl (by omega) (shR_back P s _ _ (by omega) (by omega) (by omega)))⟩, trivial⟩)⟩
      · simp only [decide_eq_false_iff_not, cmpI_lt] at he
        obtain ⟨d1, d2⟩ := done (t := t' + 1) g1 g2 (.inr (by show (s.getD t' e0).id ≤ (A.getD k e0).id; omega))
        conv => whnf
        refine And.intro ⟨by omega, by omega⟩ ?_; conv => whnf
        refine ⟨(k + 1, s.take (t' + 1) ++ ([A.getD k e0] ++ s.drop (t' + 1))), ⟨by show 1 ≤ k + 1; omega, by show k + 1 ≤ A.length; omega, d1, d2⟩, (show A.length - (k + 1) < A.length - k by omega), (wk_of [(0, .id 0)] rfl ⟨(by first | exact .base (.own _ _ rfl) | exact .base (.nilown _ rfl) | exact .base (.trunc _ _ _ rfl)), .base (.tree _ _ rfl rfl), .base (.tree _ _ rfl rfl), .fn _ _ _ _ _ (by repeat (first | exact .nil | refine .cons (by first | exact .tree _ _ rfl rfl | exact .ptr _ _ _ rfl | exact .own _ _ rfl) ?_)) (by repeat (first | exact .nil | refine .cons (by first | exact .tree _ _ rfl rfl | exact .ptr _ _ _ rfl | exact .own _ _ rfl) ?_)), .base (.tree _ _ rfl rfl), trivial⟩ ⟨⟨_, rfl, (by first | exact .row _ _ _ _ _ _ _ rfl (shR_close P s _ _ (t' + 1)) | exact .lstrow _ _ _ _ _ _ _ rfl (shR_close P s _ _ (t' + 1)) | exact .nilrow _ _ _ _ _ (shR_close P s _ _ (t' + 1)) | exact .truncrow _ _ _ _ _ _ _ _ rfl (by omega) (shR_close P s _ _ (t' + 1)))⟩, trivial⟩)⟩
  · simp only [decide_eq_false_iff_not] at hc
    obtain rfl : k = A.length := by omega
    rw [List.take_of_length_le (Nat.le_refl _)] at h4
    conv => whnf
    refine ⟨s, h3, h4, ?_, rfl⟩
    rw [List.drop_of_length_le (Nat.le_refl _), List.nil_append]
    rfl

end Go.Proofs.YtjlnaogechkjdaaDoor

namespace Go.Proofs.YtjlnaogechkjdaaDoor
open Go.Own
set_option maxHeartbeats 8000000
set_option maxRecDepth 100000

theorem insert_any (P A Q : List Ent) (hb : P.length + A.length + Q.length ≤ 1000000) {a b : Int} {xs : List Ent}
    (ha : a = (P.length : Nat)) (hb' : b = ((P.length + A.length : Nat) : Int)) (hx : xs = P ++ (A ++ Q)) :
    AIO Tryd.prog 58 [.own 0, .int .i64 a, .int .i64 b, .fn (.func 29) [] []] [.row 48 5 encE e0 xs] (fun bs rs => ∃ M, Asc M ∧ Stb A M ∧ bs = [.row 48 5 encE e0 (P ++ (M ++ Q))] ∧ rs = []) := by
  rcases Nat.eq_zero_or_pos A.length with h | h
  · have : A = [] := List.eq_nil_of_length_eq_zero h
    subst this
    subst ha hb' hx
    refine aio_of (C := cxP 1 53 [0, 1, 2, 3, 8, 9, 14, 34]) (cxPOk _ _ _) Tryd.func58 rfl (by decide) rfl (by exact Nat.le_of_ble_eq_true rfl) (by decide) rfl rfl ?_
    conv => whnf
    refine And.intro ⟨by omega, by omega⟩ ?_; conv => whnf
    refine loop_up (cxPOk _ _ _) 0 (fun _ => True) (fun k => ⟨[(0, .own 0), (1, .int .i64 (P.length : Nat)), (2, .int .i64 ((P.length + ([] : List Ent).length : Nat) : Int)), (3, .fn (.func 29) [] []), (8, .int .i64 ((P.length : Nat) + 1))], [(0, .row 48 5 encE e0 (P ++ ([] ++ Q)))], 1⟩) trivial ((wk_of [(0, .id 0)] rfl ⟨(by first | exact .base (.own _ _ rfl) | exact .base (.nilown _ rfl) | exact .base (.trunc _ _ _ rfl)), .base (.tree _ _ rfl rfl), .base (.tree _ _ rfl rfl), .fn _ _ _ _ _ (by repeat (first | exact .nil | refine .cons (by first | exact .tree _ _ rfl rfl | exact .ptr _ _ _ rfl | exact .own _ _ rfl) ?_)) (by repeat (first | exact .nil | refine .cons (by first | exact .tree _ _ rfl rfl | exact .ptr _ _ _ rfl | exact .own _ _ rfl) ?_)), .base (.tree _ _ rfl rfl), trivial⟩ ⟨⟨_, rfl, (by first | exact .row _ _ _ _ _ _ _ rfl rfl | exact .lstrow _ _ _ _ _ _ _ rfl rfl | exact .nilrow _ _ _ _ _ rfl | exact .truncrow _ _ _ _ _ _ _ _ rfl (by omega) rfl)⟩, trivial⟩)) ?_
    intro k hk _
    conv => whnf
    refine ⟨fun hc => ?_, fun hc => ?_⟩
    · simp only [decide_eq_true_eq, List.length_nil] at hc
      omega
    · conv => whnf
      exact ⟨[], asc_nil, Stb.refl _, rfl, rfl⟩
  · exact insert_ok P A Q h hb ha hb' hx

theorem stable_ok (xs : List Ent) (hn : xs.length ≤ 40) {n : Int} (hn' : n = (xs.length : Nat)) :
    AIO Tryd.prog 45 [.own 0, .int .i64 n, .fn (.func 29) [] []] [.row 48 5 encE e0 xs] (fun bs rs => ∃ M, Asc M ∧ Stb xs M ∧ bs = [.row 48 5 encE e0 M] ∧ rs = []) := by
  subst hn'
  refine aio_of (C := cxP 1 63 [0, 1, 2, 6, 7, 8, 9, 13, 30, 35, 54]) (cxPOk _ _ _) Tryd.func45 rfl (by decide) rfl (by exact Nat.le_of_ble_eq_true rfl) (by decide) rfl rfl ?_
  conv => whnf
  refine loop_inv (cxPOk _ _ _) (σ := Nat × List Ent) (fun s => 20 * s.1 ≤ xs.length ∧ Stb xs s.2 ∧ (s.1 = 0 ∨ Asc (s.2.take 20)) ∧ (s.1 ≤ 1 ∨ Asc (s.2.drop 20))) (fun s => 3 - s.1) (fun s => ⟨[(0, .own 0), (1, .int .i64 (xs.length : Nat)), (2, .fn (.func 29) [] []), (6, .int .i64 20), (7, .int .i64 ((20 * (s.1) : Nat) : Int)), (8, .int .i64 ((20 * (s.1) + 20 : Nat) : Int))], [(0, .row 48 5 encE e0 (s.2))], 1⟩) (0, xs) ⟨Nat.zero_le _, Stb.refl _, .inl rfl, .inl (Nat.zero_le _)⟩ ((wk_of [(0, .id 0)] rfl ⟨(by first | exact .base (.own _ _ rfl) | exact .base (.nilown _ rfl) | exact .base (.trunc _ _ _ rfl)), .base (.tree _ _ rfl rfl), .fn _ _ _ _ _ (by repeat (first | exact .nil | refine .cons (by first | exact .tree _ _ rfl rfl | exact .ptr _ _ _ rfl | exact .own _ _ rfl) ?_)) (by repeat (first | exact .nil | refine .cons (by first | exact .tree _ _ rfl rfl | exact .ptr _ _ _ rfl | exact .own _ _ rfl) ?_)), .base (.tree _ _ rfl rfl), .base (.tree _ _ rfl rfl), .base (.tree _ _ rfl rfl), trivial⟩ ⟨⟨_, rfl, (by first | exact .row _ _ _ _ _ _ _ rfl rfl | exact .lstrow _ _ _ _ _ _ _ rfl rfl | exact .nilrow _ _ _ _ _ rfl | exact .truncrow _ _ _ _ _ _ _ _ rfl (by omega) rfl)⟩, trivial⟩)) ?_
  rintro ⟨k, l⟩ ⟨h1, h2, h3, h4⟩
  dsimp only at h1 h2 h3 h4
  change evCode _ _ ⟨[(0, .own 0), (1, .int .i64 (xs.length : Nat)), (2, .fn (.func 29) [] []), (6, .int .i64 20), (7, .int .i64 ((20 * k : Nat) : Int)), (8, .int .i64 ((20 * k + 20 : Nat) : Int))], [(0, .row 48 5 encE e0 l)], 1⟩ _
  have hl := h2.len
  conv => whnf
  refine ⟨fun hc => ?_, fun hc => ?_⟩
  · simp only [decide_eq_true_eq] at hc
    have e1 := List.take_append_drop (20 * k) l
    have e2 := List.take_append_drop 20 (l.drop (20 * k))
    have l1 : (l.take (20 * k)).length = 20 * k := by rw [List.length_take]; omega
    have l2 : ((l.drop (20 * k)).take 20).length = 20 := by rw [List.length_take, List.length_drop]; omega
    have hcall := insert_any (l.take (20 * k)) ((l.drop (20 * k)).take 20) ((l.drop (20 * k)).drop 20) (by rw [l1, l2, List.length_drop, List.length_drop]; omega) (a := ((20 * k : Nat) : Int)) (b := ((20 * k + 20 : Nat) : Int)) (xs := l) (by omega) (by omega) (by rw [e2, e1])
    conv => whnf
    refine .raw _ _ rfl (fun h => by cases h) (callio_sem (hcall) [0] _ rfl rfl ⟨rfl, trivial⟩ (by repeat (first | exact .nil | (apply BorL.cons; first | exact .map _ _ rfl | exact .ptr _ _ _ rfl | exact .own _ _ rfl | exact .fnp _ _ _ _ rfl | (apply BorIO.lend; first | exact lS rfl | exact lR rfl | exact lM rfl rfl | exact lL rfl | exact lX rfl | exact lN | exact lNl | exact lSm rfl | exact lIm rfl | exact lP rfl | exact lQ rfl | exact lB rfl rfl rfl)))) rfl (by first | exact .inl rfl | exact .inr (fun b rs h => by first | obtain ⟨rfl, rfl⟩ := h | obtain ⟨_, _, _, rfl, rfl⟩ := h; exact ⟨by repeat (first | exact flats_nil | refine flats_cons (by first | exact flat_val _ rfl | exact flat_row (fun _ => rfl) | exact flat_lst (fun _ => rfl)) ?_), by repeat (first | exact flats0 | refine flats1 (by first | exact flatB_row (fun _ => rfl) | exact flatB_lst (fun _ => rfl) | exact flatB_smap (fun _ => rfl) | exact flatB_imap (fun _ => rfl) | exact flatB_cells rfl) ?_)⟩))) ?_
    rintro r ⟨b, rs, ⟨M, sM, tM, rfl, rfl⟩, rfl⟩
    refine ⟨tn_ge _ _, ?_⟩
    conv => whnf
    refine And.intro ⟨by omega, by omega⟩ ?_; conv => whnf
    have lM := tM.len
    refine ⟨(k + 1, l.take (20 * k) ++ (M ++ (l.drop (20 * k)).drop 20)), ⟨by show 20 * (k + 1) ≤ _; omega, ?_, ?_, ?_⟩, (show 3 - (k + 1) < 3 - k by omega), (wk_of [(0, .id 0)] rfl ⟨(by first | exact .base (.own _ _ rfl) | exact .base (.nilown _ rfl) | exact .base (.trunc _ _ _ rfl)), .base (.tree _ _ rfl rfl), .fn _ _ _ _ _ (by repeat (first | exact .nil | refine .cons (by first | exact .tree _ _ rfl rfl | exact .ptr _ _ _ rfl | exact .own _ _ rfl) ?_)) (by repeat (first | exact .nil | refine .cons (by first | exact .tree _ _ rfl rfl | exact .ptr _ _ _ rfl | exact .own _ _ rfl) ?_)), .base (.tree _ _ rfl rfl), .base (.tree _ _ rfl rfl), .base (.tree _ _ rfl rfl), trivial⟩ ⟨⟨_, rfl, (by first | exact .row _ _ _ _ _ _ _ rfl rfl | exact .lstrow _ _ _ _ _ _ _ rfl rfl | exact .nilrow _ _ _ _ _ rfl | exact .truncrow _ _ _ _ _ _ _ _ rfl (by omega) rfl)⟩, trivial⟩)⟩
    · refine h2.trans ?_
      conv => lhs; rw [← e1, ← e2]
      exact (Stb.refl _).app (tM.app (Stb.refl _))
    · right
      rcases Nat.eq_zero_or_pos k with hk | hk
      · subst hk
        show Asc ((l.take (20 * 0) ++ (M ++ _)).take 20)
        rw [show l.take (20 * 0) = [] from rfl, List.nil_append, List.take_left' (by omega)]
        exact sM
      · obtain rfl : k = 1 := by omega
        show Asc ((l.take (20 * 1) ++ (M ++ _)).take 20)
        rw [List.take_left' (by omega)]
        exact h3.elim (fun h => absurd h (by decide)) id
    · rcases Nat.eq_zero_or_pos k with hk | hk
      · left
        show k + 1 ≤ 1
        omega
      · right
        obtain rfl : k = 1 := by omega
        show Asc ((l.take (20 * 1) ++ (M ++ _)).drop 20)
        rw [List.drop_left' (by omega), List.drop_of_length_le (l := l.drop (20 * 1)) (by rw [List.length_drop]; omega), List.append_nil]
        exact sM
  · simp only [decide_eq_false_iff_not] at hc
    have e1 := List.take_append_drop (20 * k) l
    have l1 : (l.take (20 * k)).length = 20 * k := by rw [List.length_take]; omega
    have hcall := insert_any (l.take (20 * k)) (l.drop (20 * k)) [] (by rw [l1, List.length_drop, List.length_nil]; omega) (a := ((20 * k : Nat) : Int)) (b := ((xs.length : Nat) : Int)) (xs := l) (by omega) (by rw [l1, List.length_drop]; omega) (by rw [List.append_nil, e1])
    conv => whnf
    refine .raw _ _ rfl (fun h => by cases h) (callio_sem (hcall) [0] _ rfl rfl ⟨rfl, trivial⟩ (by repeat (first | exact .nil | (apply BorL.cons; first | exact .map _ _ rfl | exact .ptr _ _ _ rfl | exact .own _ _ rfl | exact .fnp _ _ _ _ rfl | (apply BorIO.lend; first | exact lS rfl | exact lR rfl | exact lM rfl rfl | exact lL rfl | exact lX rfl | exact lN | exact lNl | exact lSm rfl | exact lIm rfl | exact lP rfl | exact lQ rfl | exact lB rfl rfl rfl)))) rfl (by first | exact .inl rfl | exact .inr (fun b rs h => by first | obtain ⟨rfl, rfl⟩ := h | obtain ⟨_, _, _, rfl, rfl⟩ := h; exact ⟨by repeat (first | exact flats_nil | refine flats_cons (by first | exact flat_val _ rfl | exact flat_row (fun _ => rfl) | exact flat_lst (fun _ => rfl)) ?_), by repeat (first | exact flats0 | refine flats1 (by first | exact flatB_row (fun _ => rfl) | exact flatB_lst (fun _ => rfl) | exact flatB_smap (fun _ => rfl) | exact flatB_imap (fun _ => rfl) | exact flatB_cells rfl) ?_)⟩))) ?_
    rintro r ⟨b, rs, ⟨M, sM, tM, rfl, rfl⟩, rfl⟩
    refine ⟨tn_ge _ _, ?_⟩
    rw [show M ++ [] = M from List.append_nil M]
    have lM := tM.len
    rw [List.length_drop] at lM
    have tL : Stb xs (l.take (20 * k) ++ M) := by
      refine h2.trans ?_
      conv => lhs; rw [← e1]
      exact (Stb.refl _).app tM
    obtain ⟨c1, c2⟩ : Asc ((l.take (20 * k) ++ M).take 20) ∧ Asc ((l.take (20 * k) ++ M).drop 20) := by
      rcases (by omega : k = 0 ∨ k = 1 ∨ k = 2) with rfl | rfl | rfl
      · rw [show l.take (20 * 0) = [] from rfl, List.nil_append]
        have := List.take_append_drop 20 M
        exact ⟨Asc.left (b := M.drop 20) (by rw [this]; exact sM), Asc.right (a := M.take 20) (by rw [this]; exact sM)⟩
      · rw [List.take_left' (by omega), List.drop_left' (by omega)]
        exact ⟨h3.elim (fun h => absurd h (by decide)) id, sM⟩
      · rw [List.eq_nil_of_length_eq_zero (show M.length = 0 by omega), List.append_nil, List.take_of_length_le (l := l) (by omega)]
        exact ⟨h3.elim (fun h => absurd h (by decide)) id, h4.elim (fun h => absurd h (by decide)) id⟩
    generalize l.take (20 * k) ++ M = L at *
    have lL := tL.len
    conv => whnf
    refine loop_inv (cxPOk _ _ _) (σ := Nat × List Ent) (fun s => s.1 ≤ 1 ∧ Stb xs s.2 ∧ (s.1 = 0 → Asc (s.2.take 20) ∧ Asc (s.2.drop 20)) ∧ (s.1 = 1 → Asc s.2)) (fun s => 2 - s.1) (fun s => ⟨[(0, .own 0), (1, .int .i64 (xs.length : Nat)), (2, .fn (.func 29) [] []), (6, .int .i64 ((20 + 20 * (s.1) : Nat) : Int))], [(0, .row 48 5 encE e0 (s.2))], 1⟩) (0, L) ⟨Nat.zero_le _, tL, fun _ => ⟨c1, c2⟩, fun h => absurd (show (0 : Nat) = 1 from h) (by decide)⟩ ((wk_of [(0, .id 0)] rfl ⟨(by first | exact .base (.own _ _ rfl) | exact .base (.nilown _ rfl) | exact .base (.trunc _ _ _ rfl)), .base (.tree _ _ rfl rfl), .fn _ _ _ _ _ (by repeat (first | exact .nil | refine .cons (by first | exact .tree _ _ rfl rfl | exact .ptr _ _ _ rfl | exact .own _ _ rfl) ?_)) (by repeat (first | exact .nil | refine .cons (by first | exact .tree _ _ rfl rfl | exact .ptr _ _ _ rfl | exact .own _ _ rfl) ?_)), .base (.tree _ _ rfl rfl), trivial⟩ ⟨⟨_, rfl, (by first | exact .row _ _ _ _ _ _ _ rfl rfl | exact .lstrow _ _ _ _ _ _ _ rfl rfl | exact .nilrow _ _ _ _ _ rfl | exact .truncrow _ _ _ _ _ _ _ _ rfl (by omega) rfl)⟩, trivial⟩)) ?_
    clear hcall sM tM h2 h3 h4 e1 l1 lM c1 c2 tL lL
    rintro ⟨c, L⟩ ⟨g1, tL, g2, g3⟩
    dsimp only at g1 tL g2 g3
    change evCode _ _ ⟨[(0, .own 0), (1, .int .i64 (xs.length : Nat)), (2, .fn (.func 29) [] []), (6, .int .i64 ((20 + 20 * c : Nat) : Int))], [(0, .row 48 5 encE e0 L)], 1⟩ _
    have lL := tL.len
    conv => whnf
    refine ⟨fun hd => ?_, fun hd => ?_⟩
    · simp only [decide_eq_true_eq] at hd
      obtain rfl : c = 0 := by omega
      obtain ⟨c1, c2⟩ := g2 rfl
      have eL := List.take_append_drop 20 L
      have lT : (L.take 20).length = 20 := by rw [List.length_take]; omega
      conv => whnf
      refine And.intro ⟨by omega, by omega⟩ ?_; conv => whnf
      refine loop_inv (cxPOk _ _ _) (σ := Nat × List Ent) (fun s => s.1 ≤ 1 ∧ Stb xs s.2 ∧ (s.1 = 0 → Asc (s.2.take 20) ∧ Asc (s.2.drop 20)) ∧ (s.1 = 1 → Asc s.2 ∧ xs.length = 40)) (fun s => 2 - s.1) (fun s => ⟨[(0, .own 0), (1, .int .i64 (xs.length : Nat)), (2, .fn (.func 29) [] []), (6, .int .i64 20), (7, .int .i64 ((40 * (s.1) : Nat) : Int)), (8, .int .i64 ((40 + 40 * (s.1) : Nat) : Int))], [(0, .row 48 5 encE e0 (s.2))], 1⟩) (0, L) ⟨Nat.zero_le _, tL, fun _ => ⟨c1, c2⟩, fun h => absurd (show (0 : Nat) = 1 from h) (by decide)⟩ ((wk_of [(0, .id 0)] rfl ⟨(by first | exact .base (.own _ _ rfl) | exact .base (.nilown _ rfl) | exact .base (.trunc _ _ _ rfl)), .base (.tree _ _ rfl rfl), .fn _ _ _ _ _ (by repeat (first | exact .nil | refine .cons (by first | exact .tree _ _ rfl rfl | exact .ptr _ _ _ rfl | exact .own _ _ rfl) ?_)) (by repeat (first | exact .nil | refine .cons (by first | exact .tree _ _ rfl rfl | exact .ptr _ _ _ rfl | exact .own _ _ rfl) ?_)), .base (.tree _ _ rfl rfl), .base (.tree _ _ rfl rfl), .base (.tree _ _ rfl rfl), trivial⟩ ⟨⟨_, rfl, (by first | exact .row _ _ _ _ _ _ _ rfl rfl | exact .lstrow _ _ _ _ _ _ _ rfl rfl | exact .nilrow _ _ _ _ _ rfl | exact .truncrow _ _ _ _ _ _ _ _ rfl (by omega) rfl)⟩, trivial⟩)) ?_
      clear c1 c2 eL lT tL g2 g3 lL
      rintro ⟨d, L⟩ ⟨g1, tL, g2, g3⟩
      dsimp only at g1 tL g2 g3
      change evCode _ _ ⟨[(0, .own 0), (1, .int .i64 (xs.length : Nat)), (2, .fn (.func 29) [] []), (6, .int .i64 20), (7, .int .i64 ((40 * d : Nat) : Int)), (8, .int .i64 ((40 + 40 * d : Nat) : Int))], [(0, .row 48 5 encE e0 L)], 1⟩ _
      have lL := tL.len
      have eL := List.take_append_drop 20 L
      have lT : (L.take 20).length = 20 := by rw [List.length_take]; omega
      have lD : (L.drop 20).length = xs.length - 20 := by rw [List.length_drop]; omega
      have hmerge : d = 0 → ∀ {a m b : Int} {ys : List Ent}, a = 0 → m = 20 → b = ((xs.length : Nat) : Int) → ys = L → AIO Tryd.prog 59 [.own 0, .int .i64 a, .int .i64 m, .int .i64 b, .fn (.func 29) [] []] [.row 48 5 encE e0 ys] (fun bs rs => ∃ M, (Asc M ∧ Stb xs M) ∧ True ∧ bs = [.row 48 5 encE e0 M] ∧ rs = []) := by
        intro hd0 a m b ys ha hm hb hy
        obtain ⟨c1, c2⟩ := g2 hd0
        refine (merge_ok _ [] (L.take 20) (L.drop 20) [] rfl (by omega) (by omega) c1 c2 (by simp only [List.length_nil]; omega) (by simpa using ha) (by rw [hm, lT]; rfl) (by rw [hb, lT, lD]; simp only [List.length_nil]; omega) (by rw [hy, List.append_nil, eL]; rfl)).mono fun b rs ⟨M, sM, tM, hb, hr⟩ => ⟨M, ⟨sM, ?_⟩, trivial, ?_, hr⟩
        · rw [eL] at tM
          exact tL.trans tM
        · rw [hb, List.append_nil, List.nil_append]
      conv => whnf
      refine ⟨fun he => ?_, fun he => ?_⟩
      · simp only [decide_eq_true_eq] at he
        obtain rfl : d = 0 := by omega
        have hcall := hmerge rfl (a := ((40 * 0 : Nat) : Int)) (m := ((40 * 0 : Nat) : Int) + 20) (b := ((40 + 40 * 0 : Nat) : Int)) (ys := L) rfl rfl (by omega) rfl
        conv => whnf
        refine And.intro ⟨by omega, by omega⟩ ?_; conv => whnf
        refine .raw _ _ rfl (fun h => by cases h) (callio_sem (hcall) [0] _ rfl rfl ⟨rfl, trivial⟩ (by repeat (first | exact .nil | (apply BorL.cons; first | exact .map _ _ rfl | exact .ptr _ _ _ rfl | exact .own _ _ rfl | exact .fnp _ _ _ _ rfl | (apply BorIO.lend; first | exact lS rfl | exact lR rfl | exact lM rfl rfl | exact lL rfl | exact lX rfl | exact lN | exact lNl | exact lSm rfl | exact lIm rfl | exact lP rfl | exact lQ rfl | exact lB rfl rfl rfl)))) rfl (by first | exact .inl rfl | exact .inr (fun b rs h => by first | obtain ⟨rfl, rfl⟩ := h | obtain ⟨_, _, _, rfl, rfl⟩ := h; exact ⟨by repeat (first | exact flats_nil | refine flats_cons (by first | exact flat_val _ rfl | exact flat_row (fun _ => rfl) | exact flat_lst (fun _ => rfl)) ?_), by repeat (first | exact flats0 | refine flats1 (by first | exact flatB_row (fun _ => rfl) | exact flatB_lst (fun _ => rfl) | exact flatB_smap (fun _ => rfl) | exact flatB_imap (fun _ => rfl) | exact flatB_cells rfl) ?_)⟩))) ?_
        rintro r ⟨b, rs, ⟨M, ⟨sM, tM⟩, _, rfl, rfl⟩, rfl⟩
        refine ⟨tn_ge _ _, ?_⟩
        conv => whnf
        refine And.intro ⟨by omega, by omega⟩ ?_; conv => whnf
        refine And.intro ⟨by omega, by omega⟩ ?_; conv => whnf
        refine ⟨(1, M), ⟨Nat.le_refl _, tM, fun h => absurd (show (1 : Nat) = 0 from h) (by decide), fun _ => ⟨sM, by omega⟩⟩, (show 2 - 1 < 2 - 0 by decide), (wk_of [(0, .id 0)] rfl ⟨(by first | exact .base (.own _ _ rfl) | exact .base (.nilown _ rfl) | exact .base (.trunc _ _ _ rfl)), .base (.tree _ _ rfl rfl), .fn _ _ _ _ _ (by repeat (first | exact .nil | refine .cons (by first | exact .tree _ _ rfl rfl | exact .ptr _ _ _ rfl | exact .own _ _ rfl) ?_)) (by repeat (first | exact .nil | refine .cons (by first | exact .tree _ _ rfl rfl | exact .ptr _ _ _ rfl | exact .own _ _ rfl) ?_)), .base (.tree _ _ rfl rfl), .base (.tree _ _ rfl rfl), .base (.tree _ _ rfl rfl), trivial⟩ ⟨⟨_, rfl, (by first | exact .row _ _ _ _ _ _ _ rfl rfl | exact .lstrow _ _ _ _ _ _ _ rfl rfl | exact .nilrow _ _ _ _ _ rfl | exact .truncrow _ _ _ _ _ _ _ _ rfl (by omega) rfl)⟩, trivial⟩)⟩
      · simp only [decide_eq_false_iff_not] at he
        conv => whnf
        refine And.intro ⟨by omega, by omega⟩ ?_; conv => whnf
        refine ⟨fun hf => ?_, fun hf => ?_⟩
        · simp only [decide_eq_true_eq] at hf
          obtain rfl : d = 0 := by
            rcases (by omega : d = 0 ∨ d = 1) with h | h
            · exact h
            · subst h; omega
          have hcall := hmerge rfl (a := ((40 * 0 : Nat) : Int)) (m := ((40 * 0 : Nat) : Int) + 20) (b := ((xs.length : Nat) : Int)) (ys := L) rfl rfl rfl rfl
          conv => whnf
          refine .raw _ _ rfl (fun h => by cases h) (callio_sem (hcall) [0] _ rfl rfl ⟨rfl, trivial⟩ (by repeat (first | exact .nil | (apply BorL.cons; first | exact .map _ _ rfl | exact .ptr _ _ _ rfl | exact .own _ _ rfl | exact .fnp _ _ _ _ rfl | (apply BorIO.lend; first | exact lS rfl | exact lR rfl | exact lM rfl rfl | exact lL rfl | exact lX rfl | exact lN | exact lNl | exact lSm rfl | exact lIm rfl | exact lP rfl | exact lQ rfl | exact lB rfl rfl rfl)))) rfl (by first | exact .inl rfl | exact .inr (fun b rs h => by first | obtain ⟨rfl, rfl⟩ := h | obtain ⟨_, _, _, rfl, rfl⟩ := h; exact ⟨by repeat (first | exact flats_nil | refine flats_cons (by first | exact flat_val _ rfl | exact flat_row (fun _ => rfl) | exact flat_lst (fun _ => rfl)) ?_), by repeat (first | exact flats0 | refine flats1 (by first | exact flatB_row (fun _ => rfl) | exact flatB_lst (fun _ => rfl) | exact flatB_smap (fun _ => rfl) | exact flatB_imap (fun _ => rfl) | exact flatB_cells rfl) ?_)⟩))) ?_
          rintro r ⟨b, rs, ⟨M, ⟨sM, tM⟩, _, rfl, rfl⟩, rfl⟩
          refine ⟨tn_ge _ _, ?_⟩
          conv => whnf
          refine And.intro ⟨by omega, by omega⟩ ?_; conv => whnf
          refine ⟨(1, M), ⟨Nat.le_refl _, tM, fun h => absurd (show (1 : Nat) = 0 from h) (by decide), fun _ => sM⟩, (show 2 - 1 < 2 - 0 by decide), (wk_of [(0, .id 0)] rfl ⟨(by first | exact .base (.own _ _ rfl) | exact .base (.nilown _ rfl) | exact .base (.trunc _ _ _ rfl)), .base (.tree _ _ rfl rfl), .fn _ _ _ _ _ (by repeat (first | exact .nil | refine .cons (by first | exact .tree _ _ rfl rfl | exact .ptr _ _ _ rfl | exact .own _ _ rfl) ?_)) (by repeat (first | exact .nil | refine .cons (by first | exact .tree _ _ rfl rfl | exact .ptr _ _ _ rfl | exact .own _ _ rfl) ?_)), .base (.tree _ _ rfl rfl), trivial⟩ ⟨⟨_, rfl, (by first | exact .row _ _ _ _ _ _ _ rfl rfl | exact .lstrow _ _ _ _ _ _ _ rfl rfl | exact .nilrow _ _ _ _ _ rfl | exact .truncrow _ _ _ _ _ _ _ _ rfl (by omega) rfl)⟩, trivial⟩)⟩
        · simp only [decide_eq_false_iff_not] at hf
          obtain rfl : d = 1 := by omega
          obtain ⟨sL, _⟩ := g3 rfl
          conv => whnf
          refine And.intro ⟨by omega, by omega⟩ ?_; conv => whnf
          refine ⟨(1, L), ⟨Nat.le_refl _, tL, fun h => absurd (show (1 : Nat) = 0 from h) (by decide), fun _ => sL⟩, (show 2 - 1 < 2 - 0 by decide), (wk_of [(0, .id 0)] rfl ⟨(by first | exact .base (.own _ _ rfl) | exact .base (.nilown _ rfl) | exact .base (.trunc _ _ _ rfl)), .base (.tree _ _ rfl rfl), .fn _ _ _ _ _ (by repeat (first | exact .nil | refine .cons (by first | exact .tree _ _ rfl rfl | exact .ptr _ _ _ rfl | exact .own _ _ rfl) ?_)) (by repeat (first | exact .nil | refine .cons (by first | exact .tree _ _ rfl rfl | exact .ptr _ _ _ rfl | exact .own _ _ rfl) ?_)), .base (.tree _ _ rfl rfl), trivial⟩ ⟨⟨_, rfl, (by first | exact .row _ _ _ _ _ _ _ rfl rfl | exact .lstrow _ _ _ _ _ _ _ rfl rfl | exact .nilrow _ _ _ _ _ rfl | exact .truncrow _ _ _ _ _ _ _ _ rfl (by omega) rfl)⟩, trivial⟩)⟩
    · simp only [decide_eq_false_iff_not] at hd
      have sL : Asc L := by
        rcases (by omega : c = 0 ∨ c = 1) with rfl | rfl
        · have := (g2 rfl).1
          rwa [List.take_of_length_le (by omega)] at this
        · exact g3 rfl
      conv => whnf
      exact ⟨L, sL, tL, rfl, rfl⟩

end Go.Proofs.YtjlnaogechkjdaaDoor

namespace Go.Proofs.YtjlnaogechkjdaaDoor
open Go.Own
set_option maxHeartbeats 4000000
set_option maxRecDepth 100000

/-- Where one is put in: behind all that have no greater Id. -/
def putAt (l : List Ent) (e : Ent) : Nat := l.findIdx (fun x => decide (e.id < x.id))
def putE (l : List Ent) (e : Ent) : List Ent := l.take (putAt l e) ++ ([e] ++ l.drop (putAt l e))
def srt (l : List Ent) : List Ent := l.foldl putE []
theorem putE_ok {l : List Ent} (h : Asc l) (e : Ent) : Asc (putE l e) ∧ Stb (l ++ [e]) (putE l e) := by
  have h1 : ∀ y ∈ l.take (putAt l e), y.id ≤ e.id := fun y hy => by
    obtain ⟨k, hk, hk2, rfl⟩ := mem_take hy
    have := List.not_of_lt_findIdx (p := fun x : Ent => decide (e.id < x.id)) (xs := l) hk
    have := of_decide_eq_false (show decide (e.id < (l[k]).id) = false by simpa using this)
    have e1 : l.getD k e0 = l[k] := by simp [List.getD_eq_getElem?_getD, hk2]
    rw [e1]
    omega
  have h2 : ∀ y ∈ l.drop (putAt l e), e.id < y.id := by
    refine drop_lt h ?_
    rcases Nat.lt_or_ge (putAt l e) l.length with hk | hk
    · right
      have := List.findIdx_getElem (xs := l) (p := fun x : Ent => decide (e.id < x.id)) (w := hk)
      have e1 : l.getD (putAt l e) e0 = l[putAt l e] := by simp [List.getD_eq_getElem?_getD, hk]
      rw [e1]
      exact of_decide_eq_true this
    · exact .inl hk
  exact ⟨put_in h h1 fun y hy => Int.le_of_lt (h2 y hy), put_stb2 h2⟩
theorem srt_snoc (l : List Ent) (e : Ent) : srt (l ++ [e]) = putE (srt l) e := by
  unfold srt
  rw [List.foldl_append]
  rfl
theorem srt_from : ∀ (l a : List Ent), Asc a → Asc (l.foldl putE a) ∧ Stb (a ++ l) (l.foldl putE a)
  | [], a, h => ⟨h, by rw [List.append_nil]; exact Stb.refl _⟩
  | e :: l, a, h => by
    obtain ⟨g1, g2⟩ := putE_ok h e
    obtain ⟨i1, i2⟩ := srt_from l (putE a e) g1
    refine ⟨i1, ?_⟩
    have e1 : a ++ e :: l = (a ++ [e]) ++ l := by simp
    rw [e1]
    exact (g2.app (Stb.refl l)).trans i2
theorem srt_ok (l : List Ent) : Asc (srt l) ∧ Stb l (srt l) := srt_from l [] asc_nil
theorem srt_one {l M : List Ent} (h : Asc M) (g : Stb l M) : M = srt l :=
  sorted_one h (srt_ok l).1 fun k => ((srt_ok l).2 k).trans (g k).symm

theorem sorts_ok (xs : List Ent) (hn : xs.length ≤ 40) :
    AIO Tryd.prog 31 [.own 0, .fn (.func 29) [] []] [.row 48 5 encE e0 xs] (fun bs rs => bs = [.row 48 5 encE e0 (srt xs)] ∧ rs = []) := by
  have hcall := stable_ok xs hn (n := ((xs.length : Nat) : Int)) rfl
  refine aio_of (C := cxP 1 9 [0, 1]) (cxPOk _ _ _) Tryd.func31 rfl (by decide) rfl (by exact Nat.le_of_ble_eq_true rfl) (by decide) rfl rfl ?_
  conv => whnf
  refine .raw _ _ rfl (fun h => by cases h) (callio_sem (hcall) [0] _ rfl rfl ⟨rfl, trivial⟩ (by repeat (first | exact .nil | (apply BorL.cons; first | exact .map _ _ rfl | exact .ptr _ _ _ rfl | exact .own _ _ rfl | exact .fnp _ _ _ _ rfl | (apply BorIO.lend; first | exact lS rfl | exact lR rfl | exact lM rfl rfl | exact lL rfl | exact lX rfl | exact lN | exact lNl | exact lSm rfl | exact lIm rfl | exact lP rfl | exact lQ rfl | exact lB rfl rfl rfl)))) rfl (by first | exact .inl rfl | exact .inr (fun b rs h => by first | obtain ⟨rfl, rfl⟩ := h | obtain ⟨_, _, _, rfl, rfl⟩ := h; exact ⟨by repeat (first | exact flats_nil | refine flats_cons (by first | exact flat_val _ rfl | exact flat_row (fun _ => rfl) | exact flat_lst (fun _ => rfl)) ?_), by repeat (first | exact flats0 | refine flats1 (by first | exact flatB_row (fun _ => rfl) | exact flatB_lst (fun _ => rfl) | exact flatB_smap (fun _ => rfl) | exact flatB_imap (fun _ => rfl) | exact flatB_cells rfl) ?_)⟩))) ?_
  rintro r ⟨b, rs, ⟨M, sM, tM, rfl, rfl⟩, rfl⟩
  refine ⟨tn_ge _ _, ?_⟩
  rw [srt_one sM tM]
  conv => whnf
  exact ⟨rfl, rfl⟩

end Go.Proofs.YtjlnaogechkjdaaDoor

namespace Go.Proofs.YtjlnaogechkjdaaDoor
open Go.Own
set_option maxHeartbeats 4000000
set_option maxRecDepth 100000

/-! ### Compare -/
def goIn (o : List Ent) (w : List (Int × Bool)) (e : Ent) : Bool := (mget (foundM o) e.id).isNone && (mget w e.id).getD false
def goOut (o : List Ent) (w : List (Int × Bool)) (e : Ent) : Bool :=
  match mget (foundM o) e.id with
  | some x => !eqE x e
  | none => !(mget w e.id).getD false
def rawI (a b : List Ent) (fl : List Msg) : List Ent := a.filter (goIn b (wayM a b 1 fl)) ++ b.filter (goIn a (wayM a b 0 fl))
def rawO (a b : List Ent) (fl : List Msg) : List Ent := a.filter (goOut b (wayM a b 1 fl)) ++ b.filter (goOut a (wayM a b 0 fl))
def okC (a b : List Ent) (fl : List Msg) : Bool := fl.all (msgB a b) && (validB a && validB b)
def inC (a b : List Ent) (fl : List Msg) : List Ent := if okC a b fl = true then srt (rawI a b fl) else []
def outC (a b : List Ent) (fl : List Msg) : List Ent := if okC a b fl = true then srt (rawO a b fl) else []
theorem filter_snoc {T : Type} (p : T → Bool) (l : List T) (x : T) : (l ++ [x]).filter p = if p x = true then l.filter p ++ [x] else l.filter p := by
  rw [List.filter_append]
  split
  · rename_i h; rw [List.filter_cons_of_pos h]; rfl
  · rename_i h; rw [List.filter_cons_of_neg h]; simp
theorem compare_ok (a b : List Ent) (fl : List Msg) (ha : a.length ≤ 20) (hb : b.length ≤ 20) (hl : fl.length ≤ 9223372036854775807) :
    APure Tryd.prog 10 [encEs a, encEs b, encMs fl] (fun rs => rs = if okC a b fl = true then [.new (.row 48 5 encE e0 (srt (rawI a b fl))), .new (.row 48 5 encE e0 (srt (rawO a b fl))), .val (.int .i64 0)] else [.val .nils, .val .nils, .val (.int .i64 1)]) := by
  have hva := valid_ok a (by omega)
  have hvb := valid_ok b (by omega)
  refine apure_of (C := cx 113 [0, 1, 2, 6, 7, 8, 9, 10, 11, 12, 13, 14, 15, 16, 18, 19, 20, 21, 42, 48, 49, 50, 53, 54, 55, 56, 69, 80, 96]) (cxOk _ _) Tryd.func10 rfl (by decide) rfl (by exact Nat.le_of_ble_eq_true rfl) (by decide) ?_
  conv => whnf
  refine .any _ _ _ ⟨rfl, rfl⟩ (carried_ok a b fl (by omega) (by omega) hl) (by repeat (first | exact .nil | (apply BorL.cons; first | exact lS rfl | exact lR rfl | exact lM rfl rfl | exact lL rfl | exact lX rfl | exact lN | exact lNl | exact lSm rfl | exact lIm rfl | exact lGm rfl | exact lP rfl | exact lQ rfl | exact lB rfl rfl rfl))) (by first | exact .inl rfl | exact .inr (by repeat (first | exact flats_nil | refine flats_cons (by first | exact flat_val _ rfl | exact flat_row (fun _ => rfl) | exact flat_lst (fun _ => rfl)) ?_))) ?_
  rintro rs (⟨hfl, rfl⟩ | ⟨hfl, m0, m1, rfl⟩)
  · conv => whnf
    refine .one _ _ _ (fun _ => hva) (by repeat (first | exact .nil | (apply BorL.cons; first | exact lS rfl | exact lR rfl | exact lM rfl rfl | exact lL rfl | exact lX rfl | exact lN | exact lNl | exact lSm rfl | exact lIm rfl | exact lGm rfl | exact lP rfl | exact lQ rfl | exact lB rfl rfl rfl))) (by first | exact .inl rfl | exact .inr (by repeat (first | exact flats_nil | refine flats_cons (by first | exact flat_val _ rfl | exact flat_row (fun _ => rfl) | exact flat_lst (fun _ => rfl)) ?_))) (by first | exact .inr rfl | exact .inl rfl) ?_
    conv => whnf
    refine .one _ _ _ (fun _ => hvb) (by repeat (first | exact .nil | (apply BorL.cons; first | exact lS rfl | exact lR rfl | exact lM rfl rfl | exact lL rfl | exact lX rfl | exact lN | exact lNl | exact lSm rfl | exact lIm rfl | exact lGm rfl | exact lP rfl | exact lQ rfl | exact lB rfl rfl rfl))) (by first | exact .inl rfl | exact .inr (by repeat (first | exact flats_nil | refine flats_cons (by first | exact flat_val _ rfl | exact flat_row (fun _ => rfl) | exact flat_lst (fun _ => rfl)) ?_))) (by first | exact .inr rfl | exact .inl rfl) ?_
    conv => whnf
    refine ⟨fun hc => ?_, fun hc => ?_⟩
    · have hk : okC a b fl = false := by
        unfold okC
        cases h1 : validB a <;> cases h2 : validB b <;> simp [h1, h2] at hc ⊢
      conv => whnf
      rw [if_neg (by rw [hk]; exact Bool.noConfusion)]
      rfl
    · have hk : okC a b fl = true := by
        unfold okC
        cases h1 : validB a <;> cases h2 : validB b <;> simp [h1, h2] at hc ⊢
        exact List.all_eq_true.1 hfl
      rw [if_pos hk]
      conv => whnf
      refine .one _ _ _ (fun _ => found_ok a (by omega)) (by repeat (first | exact .nil | (apply BorL.cons; first | exact lS rfl | exact lR rfl | exact lM rfl rfl | exact lL rfl | exact lX rfl | exact lN | exact lNl | exact lSm rfl | exact lIm rfl | exact lGm rfl | exact lP rfl | exact lQ rfl | exact lB rfl rfl rfl))) (by first | exact .inl rfl | exact .inr (by repeat (first | exact flats_nil | refine flats_cons (by first | exact flat_val _ rfl | exact flat_row (fun _ => rfl) | exact flat_lst (fun _ => rfl)) ?_))) (by first | exact .inr rfl | exact .inl rfl) ?_
      conv => whnf
      refine .one _ _ _ (fun _ => found_ok b (by omega)) (by repeat (first | exact .nil | (apply BorL.cons; first | exact lS rfl | exact lR rfl | exact lM rfl rfl | exact lL rfl | exact lX rfl | exact lN | exact lNl | exact lSm rfl | exact lIm rfl | exact lGm rfl | exact lP rfl | exact lQ rfl | exact lB rfl rfl rfl))) (by first | exact .inl rfl | exact .inr (by repeat (first | exact flats_nil | refine flats_cons (by first | exact flat_val _ rfl | exact flat_row (fun _ => rfl) | exact flat_lst (fun _ => rfl)) ?_))) (by first | exact .inr rfl | exact .inl rfl) ?_
      conv => whnf
      generalize hA1 : goIn b (wayM a b 1 fl) = A1
      generalize hA2 : goOut b (wayM a b 1 fl) = A2
      generalize hB1 : goIn a (wayM a b 0 fl) = B1
      generalize hB2 : goOut a (wayM a b 0 fl) = B2
      generalize hm0 : wayM a b 0 fl = w0 at *
      generalize hm1 : wayM a b 1 fl = w1 at *
      refine loop_up (cxOk _ _) 2 (fun _ => True) (fun n => ⟨[(9, .ptr 0 0), (10, .ptr 1 0), (12, .ptr 4 0), (13, .own 5), (14, .own 6), (48, .agg [encEs a, encEs b]), (49, .int .i64 (n : Nat))], [(0, .cells 61 [encEs a, encEs b]), (1, .cells 63 [.rimap .i64 encB false w0, .rimap .i64 encB false w1]), (2, .imap .i64 encE e0 (foundM a)), (3, .imap .i64 encE e0 (foundM b)), (4, .cells 68 [.map 2, .map 3]), (5, .row 48 5 encE e0 ((if n = 0 then [] else if n = 1 then a.filter A1 else a.filter A1 ++ b.filter B1))), (6, .row 48 5 encE e0 ((if n = 0 then [] else if n = 1 then a.filter A2 else a.filter A2 ++ b.filter B2)))], 7⟩) trivial ((wk_of [(0, .id 0), (1, .id 1), (2, .id 2), (3, .id 3), (4, .id 4), (5, .nil), (6, .nil)] rfl ⟨.base (.ptr _ _ _ rfl), .base (.ptr _ _ _ rfl), .base (.ptr _ _ _ rfl), (by first | exact .base (.own _ _ rfl) | exact .base (.nilown _ rfl) | exact .base (.trunc _ _ _ rfl)), (by first | exact .base (.own _ _ rfl) | exact .base (.nilown _ rfl) | exact .base (.trunc _ _ _ rfl)), .base (.tree _ _ rfl rfl), .base (.tree _ _ rfl rfl), trivial⟩ ⟨⟨_, rfl, .cells _ _ _ _ rfl (by repeat (first | exact .nil | refine .cons (by first | exact .base (.tree _ _ rfl rfl) | exact .base (.own _ _ rfl) | exact .base (.ptr _ _ _ rfl) | exact .base (.map _ _ rfl) | exact .base (.nilown _ rfl) | exact .fn _ _ _ _ _ .nil (by repeat (first | exact .nil | refine .cons (by exact .ptr _ _ _ rfl) ?_))) ?_)) rfl⟩, ⟨_, rfl, .cells _ _ _ _ rfl (by repeat (first | exact .nil | refine .cons (by first | exact .base (.tree _ _ rfl rfl) | exact .base (.own _ _ rfl) | exact .base (.ptr _ _ _ rfl) | exact .base (.map _ _ rfl) | exact .base (.nilown _ rfl) | exact .fn _ _ _ _ _ .nil (by repeat (first | exact .nil | refine .cons (by exact .ptr _ _ _ rfl) ?_))) ?_)) rfl⟩, ⟨_, rfl, (by first | exact .imap _ _ _ _ _ _ rfl rfl | exact .newimap _ _ _ _ _ _ _ _ rfl rfl rfl)⟩, ⟨_, rfl, (by first | exact .imap _ _ _ _ _ _ rfl rfl | exact .newimap _ _ _ _ _ _ _ _ rfl rfl rfl)⟩, ⟨_, rfl, .cells _ _ _ _ rfl (by repeat (first | exact .nil | refine .cons (by first | exact .base (.tree _ _ rfl rfl) | exact .base (.own _ _ rfl) | exact .base (.ptr _ _ _ rfl) | exact .base (.map _ _ rfl) | exact .base (.nilown _ rfl) | exact .fn _ _ _ _ _ .nil (by repeat (first | exact .nil | refine .cons (by exact .ptr _ _ _ rfl) ?_))) ?_)) rfl⟩, ⟨_, rfl, (by first | exact .row _ _ _ _ _ _ _ rfl rfl | exact .lstrow _ _ _ _ _ _ _ rfl rfl | exact .nilrow _ _ _ _ _ rfl | exact .truncrow _ _ _ _ _ _ _ _ rfl (by omega) rfl)⟩, ⟨_, rfl, (by first | exact .row _ _ _ _ _ _ _ rfl rfl | exact .lstrow _ _ _ _ _ _ _ rfl rfl | exact .nilrow _ _ _ _ _ rfl | exact .truncrow _ _ _ _ _ _ _ _ rfl (by omega) rfl)⟩, trivial⟩)) ?_
      intro n hn _
      conv => whnf
      refine ⟨fun hc2 => ?_, fun hc2 => ?_⟩
      · simp only [decide_eq_true_eq] at hc2
        have hn2 : n = 0 ∨ n = 1 := by omega
        rcases hn2 with rfl | rfl
        · conv => whnf
          refine And.intro ⟨by omega, by omega⟩ ?_; conv => whnf
          refine loop_up (cxOk _ _) a.length (fun _ => True) (fun k => ⟨[(9, .ptr 0 0), (10, .ptr 1 0), (12, .ptr 4 0), (13, .own 5), (14, .own 6), (15, .int .i64 0), (16, encEs a), (48, .agg [encEs a, encEs b]), (49, .int .i64 0), (53, encEs a), (54, .int .i64 a.length), (55, .int .i64 (k : Nat))], [(0, .cells 61 [encEs a, encEs b]), (1, .cells 63 [.rimap .i64 encB false w0, .rimap .i64 encB false w1]), (2, .imap .i64 encE e0 (foundM a)), (3, .imap .i64 encE e0 (foundM b)), (4, .cells 68 [.map 2, .map 3]), (5, .row 48 5 encE e0 ((a.take k).filter A1)), (6, .row 48 5 encE e0 ((a.take k).filter A2))], 7⟩) trivial ((wk_of [(0, .id 0), (1, .id 1), (2, .id 2), (3, .id 3), (4, .id 4), (5, .id 5), (6, .id 6)] rfl ⟨.base (.ptr _ _ _ rfl), .base (.ptr _ _ _ rfl), .base (.ptr _ _ _ rfl), (by first | exact .base (.own _ _ rfl) | exact .base (.nilown _ rfl) | exact .base (.trunc _ _ _ rfl)), (by first | exact .base (.own _ _ rfl) | exact .base (.nilown _ rfl) | exact .base (.trunc _ _ _ rfl)), .base (.tree _ _ rfl rfl), .base (.tree _ _ rfl rfl), .base (.tree _ _ rfl rfl), .base (.tree _ _ rfl rfl), .base (.tree _ _ rfl rfl), .base (.tree _ _ rfl rfl), .base (.tree _ _ rfl rfl), trivial⟩ ⟨⟨_, rfl, .cells _ _ _ _ rfl (by repeat (first | exact .nil | refine .cons (by first | exact .base (.tree _ _ rfl rfl) | exact .base (.own _ _ rfl) | exact .base (.ptr _ _ _ rfl) | exact .base (.map _ _ rfl) | exact .base (.nilown _ rfl) | exact .fn _ _ _ _ _ .nil (by repeat (first | exact .nil | refine .cons (by exact .ptr _ _ _ rfl) ?_))) ?_)) rfl⟩, ⟨_, rfl, .cells _ _ _ _ rfl (by repeat (first | exact .nil | refine .cons (by first | exact .base (.tree _ _ rfl rfl) | exact .base (.own _ _ rfl) | exact .base (.ptr _ _ _ rfl) | exact .base (.map _ _ rfl) | exact .base (.nilown _ rfl) | exact .fn _ _ _ _ _ .nil (by repeat (first | exact .nil | refine .cons (by exact .ptr _ _ _ rfl) ?_))) ?_)) rfl⟩, ⟨_, rfl, (by first | exact .imap _ _ _ _ _ _ rfl rfl | exact .newimap _ _ _ _ _ _ _ _ rfl rfl rfl)⟩, ⟨_, rfl, (by first | exact .imap _ _ _ _ _ _ rfl rfl | exact .newimap _ _ _ _ _ _ _ _ rfl rfl rfl)⟩, ⟨_, rfl, .cells _ _ _ _ rfl (by repeat (first | exact .nil | refine .cons (by first | exact .base (.tree _ _ rfl rfl) | exact .base (.own _ _ rfl) | exact .base (.ptr _ _ _ rfl) | exact .base (.map _ _ rfl) | exact .base (.nilown _ rfl) | exact .fn _ _ _ _ _ .nil (by repeat (first | exact .nil | refine .cons (by exact .ptr _ _ _ rfl) ?_))) ?_)) rfl⟩, ⟨_, rfl, (by first | exact .row _ _ _ _ _ _ _ rfl rfl | exact .lstrow _ _ _ _ _ _ _ rfl rfl | exact .nilrow _ _ _ _ _ rfl | exact .truncrow _ _ _ _ _ _ _ _ rfl (by omega) rfl)⟩, ⟨_, rfl, (by first | exact .row _ _ _ _ _ _ _ rfl rfl | exact .lstrow _ _ _ _ _ _ _ rfl rfl | exact .nilrow _ _ _ _ _ rfl | exact .truncrow _ _ _ _ _ _ _ _ rfl (by omega) rfl)⟩, trivial⟩)) ?_
          intro k hk _
          conv => whnf
          refine ⟨fun hc3 => ?_, fun hc3 => ?_⟩
          · simp only [decide_eq_true_eq] at hc3
            have hlt : k < a.length := by omega
            have f1 := filter_snoc A1 (a.take k) (a.getD k e0)
            have f2 := filter_snoc A2 (a.take k) (a.getD k e0)
            have hck : a.getD (k : Int).toNat e0 = a.getD k e0 := by rw [Int.toNat_natCast]
            rw [← take_getD (d := e0) hlt] at f1 f2
            generalize a.getD k e0 = e at *
            have l1 : ((a.take k).filter A1).length ≤ 20 := Nat.le_trans (List.length_filter_le _ _) (by rw [List.length_take]; omega)
            have l2 : ((a.take k).filter A2).length ≤ 20 := Nat.le_trans (List.length_filter_le _ _) (by rw [List.length_take]; omega)
            conv => whnf
            refine And.intro ⟨by omega, by omega⟩ ?_; conv => whnf
            refine And.intro rfl ?_; conv => whnf
            refine .eff (by first | exact cxOk _ _ | exact cxPOk _ _ _) ?_; conv => whnf
            refine And.intro ⟨by omega, by omega⟩ ?_; conv => whnf
            refine And.intro ⟨by omega, by omega⟩ ?_; conv => whnf
            refine And.intro rfl ?_; conv => whnf
            refine And.intro rfl ?_; conv => whnf
            rw [hck]
            cases ho : mget (foundM b) e.id with
            | none =>
              refine ⟨⟨by kernel_rfl, by kernel_rfl⟩, ?_⟩
              conv => whnf
              refine ⟨fun h => by simp at h, fun _ => ?_⟩
              conv => whnf
              refine .quiet (by kernel_rfl) ?_; conv => whnf
              refine And.intro (fun _ => ⟨by omega, by omega⟩) ?_; conv => whnf
              refine And.intro (by omega) (And.intro rfl ?_); conv => whnf
              refine ⟨fun hd => ?_, fun hd => ?_⟩
              · have g1 : A1 e = true := by rw [← hA1]; unfold goIn; rw [ho]; simpa using hd
                have g2 : A2 e = false := by rw [← hA2]; unfold goOut; rw [ho]; simpa using hd
                rw [if_pos g1] at f1
                rw [if_neg (by rw [g2]; exact Bool.noConfusion)] at f2
                conv => whnf
                refine And.intro rfl ?_; conv => whnf
                refine And.intro ⟨rfl, rfl⟩ (And.intro (show (((a.take k).filter A1).length + 1) * 40 ≤ 140737488355328 by omega) ?_)
                conv => whnf
                refine Exists.intro _ (And.intro rfl ?_); conv => whnf
                refine And.intro ⟨by omega, by omega⟩ ?_; conv => whnf
                refine up hlt trivial ((wk_of [(0, .id 0), (1, .id 1), (2, .id 2), (3, .id 3), (4, .id 4), (5, .id 10), (6, .id 6)] rfl ⟨.base (.ptr _ _ _ rfl), .base (.ptr _ _ _ rfl), .base (.ptr _ _ _ rfl), (by first | exact .base (.own _ _ rfl) | exact .base (.nilown _ rfl) | exact .base (.trunc _ _ _ rfl)), (by first | exact .base (.own _ _ rfl) | exact .base (.nilown _ rfl) | exact .base (.trunc _ _ _ rfl)), .base (.tree _ _ rfl rfl), .base (.tree _ _ rfl rfl), .base (.tree _ _ rfl rfl), .base (.tree _ _ rfl rfl), .base (.tree _ _ rfl rfl), .base (.tree _ _ rfl rfl), .base (.tree _ _ rfl rfl), trivial⟩ ⟨⟨_, rfl, .cells _ _ _ _ rfl (by repeat (first | exact .nil | refine .cons (by first | exact .base (.tree _ _ rfl rfl) | exact .base (.own _ _ rfl) | exact .base (.ptr _ _ _ rfl) | exact .base (.map _ _ rfl) | exact .base (.nilown _ rfl) | exact .fn _ _ _ _ _ .nil (by repeat (first | exact .nil | refine .cons (by exact .ptr _ _ _ rfl) ?_))) ?_)) rfl⟩, ⟨_, rfl, .cells _ _ _ _ rfl (by repeat (first | exact .nil | refine .cons (by first | exact .base (.tree _ _ rfl rfl) | exact .base (.own _ _ rfl) | exact .base (.ptr _ _ _ rfl) | exact .base (.map _ _ rfl) | exact .base (.nilown _ rfl) | exact .fn _ _ _ _ _ .nil (by repeat (first | exact .nil | refine .cons (by exact .ptr _ _ _ rfl) ?_))) ?_)) rfl⟩, ⟨_, rfl, (by first | exact .imap _ _ _ _ _ _ rfl rfl | exact .newimap _ _ _ _ _ _ _ _ rfl rfl rfl)⟩, ⟨_, rfl, (by first | exact .imap _ _ _ _ _ _ rfl rfl | exact .newimap _ _ _ _ _ _ _ _ rfl rfl rfl)⟩, ⟨_, rfl, .cells _ _ _ _ rfl (by repeat (first | exact .nil | refine .cons (by first | exact .base (.tree _ _ rfl rfl) | exact .base (.own _ _ rfl) | exact .base (.ptr _ _ _ rfl) | exact .base (.map _ _ rfl) | exact .base (.nilown _ rfl) | exact .fn _ _ _ _ _ .nil (by repeat (first | exact .nil | refine .cons (by exact .ptr _ _ _ rfl) ?_))) ?_)) rfl⟩, ⟨_, rfl, (by first | exact .row _ _ _ _ _ _ _ rfl f1.symm | exact .lstrow _ _ _ _ _ _ _ rfl f1.symm | exact .nilrow _ _ _ _ _ f1.symm | exact .truncrow _ _ _ _ _ _ _ _ rfl (by omega) f1.symm)⟩, ⟨_, rfl, (by first | exact .row _ _ _ _ _ _ _ rfl f2.symm | exact .lstrow _ _ _ _ _ _ _ rfl f2.symm | exact .nilrow _ _ _ _ _ f2.symm | exact .truncrow _ _ _ _ _ _ _ _ rfl (by omega) f2.symm)⟩, trivial⟩))
              · have g1 : A1 e = false := by rw [← hA1]; unfold goIn; rw [ho]; simpa using hd
                have g2 : A2 e = true := by rw [← hA2]; unfold goOut; rw [ho]; simpa using hd
                rw [if_neg (by rw [g1]; exact Bool.noConfusion)] at f1
                rw [if_pos g2] at f2
                conv => whnf
                refine And.intro (fun _ => ?_) (fun h => absurd h (by decide)); conv => whnf
                refine And.intro rfl ?_; conv => whnf
                refine And.intro ⟨rfl, rfl⟩ (And.intro (show (((a.take k).filter A2).length + 1) * 40 ≤ 140737488355328 by omega) ?_)
                conv => whnf
                refine Exists.intro _ (And.intro rfl ?_); conv => whnf
                refine And.intro ⟨by omega, by omega⟩ ?_; conv => whnf
                refine up hlt trivial ((wk_of [(0, .id 0), (1, .id 1), (2, .id 2), (3, .id 3), (4, .id 4), (5, .id 5), (6, .id 10)] rfl ⟨.base (.ptr _ _ _ rfl), .base (.ptr _ _ _ rfl), .base (.ptr _ _ _ rfl), (by first | exact .base (.own _ _ rfl) | exact .base (.nilown _ rfl) | exact .base (.trunc _ _ _ rfl)), (by first | exact .base (.own _ _ rfl) | exact .base (.nilown _ rfl) | exact .base (.trunc _ _ _ rfl)), .base (.tree _ _ rfl rfl), .base (.tree _ _ rfl rfl), .base (.tree _ _ rfl rfl), .base (.tree _ _ rfl rfl), .base (.tree _ _ rfl rfl), .base (.tree _ _ rfl rfl), .base (.tree _ _ rfl rfl), trivial⟩ ⟨⟨_, rfl, .cells _ _ _ _ rfl (by repeat (first | exact .nil | refine .cons (by first | exact .base (.tree _ _ rfl rfl) | exact .base (.own _ _ rfl) | exact .base (.ptr _ _ _ rfl) | exact .base (.map _ _ rfl) | exact .base (.nilown _ rfl) | exact .fn _ _ _ _ _ .nil (by repeat (first | exact .nil | refine .cons (by exact .ptr _ _ _ rfl) ?_))) ?_)) rfl⟩, ⟨_, rfl, .cells _ _ _ _ rfl (by repeat (first | exact .nil | refine .cons (by first | exact .base (.tree _ _ rfl rfl) | exact .base (.own _ _ rfl) | exact .base (.ptr _ _ _ rfl) | exact .base (.map _ _ rfl) | exact .base (.nilown _ rfl) | exact .fn _ _ _ _ _ .nil (by repeat (first | exact .nil | refine .cons (by exact .ptr _ _ _ rfl) ?_))) ?_)) rfl⟩, ⟨_, rfl, (by first | exact .imap _ _ _ _ _ _ rfl rfl | exact .newimap _ _ _ _ _ _ _ _ rfl rfl rfl)⟩, ⟨_, rfl, (by first | exact .imap _ _ _ _ _ _ rfl rfl | exact .newimap _ _ _ _ _ _ _ _ rfl rfl rfl)⟩, ⟨_, rfl, .cells _ _ _ _ rfl (by repeat (first | exact .nil | refine .cons (by first | exact .base (.tree _ _ rfl rfl) | exact .base (.own _ _ rfl) | exact .base (.ptr _ _ _ rfl) | exact .base (.map _ _ rfl) | exact .base (.nilown _ rfl) | exact .fn _ _ _ _ _ .nil (by repeat (first | exact .nil | refine .cons (by exact .ptr _ _ _ rfl) ?_))) ?_)) rfl⟩, ⟨_, rfl, (by first | exact .row _ _ _ _ _ _ _ rfl f1.symm | exact .lstrow _ _ _ _ _ _ _ rfl f1.symm | exact .nilrow _ _ _ _ _ f1.symm | exact .truncrow _ _ _ _ _ _ _ _ rfl (by omega) f1.symm)⟩, ⟨_, rfl, (by first | exact .row _ _ _ _ _ _ _ rfl f2.symm | exact .lstrow _ _ _ _ _ _ _ rfl f2.symm | exact .nilrow _ _ _ _ _ f2.symm | exact .truncrow _ _ _ _ _ _ _ _ rfl (by omega) f2.symm)⟩, trivial⟩))
            | some x =>
              have g1 : A1 e = false := by rw [← hA1]; unfold goIn; rw [ho]; rfl
              rw [if_neg (by rw [g1]; exact Bool.noConfusion)] at f1
              refine ⟨⟨by kernel_rfl, by kernel_rfl⟩, ?_⟩
              conv => whnf
              refine ⟨fun hd => ?_, fun hd => ?_⟩
              · have g2 : A2 e = true := by rw [← hA2]; unfold goOut; rw [ho]; exact hd
                rw [if_pos g2] at f2
                conv => whnf
                refine And.intro rfl ?_; conv => whnf
                refine And.intro ⟨rfl, rfl⟩ (And.intro (show (((a.take k).filter A2).length + 1) * 40 ≤ 140737488355328 by omega) ?_)
                conv => whnf
                refine Exists.intro _ (And.intro rfl ?_); conv => whnf
                refine And.intro ⟨by omega, by omega⟩ ?_; conv => whnf
                refine up hlt trivial ((wk_of [(0, .id 0), (1, .id 1), (2, .id 2), (3, .id 3), (4, .id 4), (5, .id 5), (6, .id 10)] rfl ⟨.base (.ptr _ _ _ rfl), .base (.ptr _ _ _ rfl), .base (.ptr _ _ _ rfl), (by first | exact .base (.own _ _ rfl) | exact .base (.nilown _ rfl) | exact .base (.trunc _ _ _ rfl)), (by first | exact .base (.own _ _ rfl) | exact .base (.nilown _ rfl) | exact .base (.trunc _ _ _ rfl)), .base (.tree _ _ rfl rfl), .base (.tree _ _ rfl rfl), .base (.tree _ _ rfl rfl), .base (.tree _ _ rfl rfl), .base (.tree _ _ rfl rfl), .base (.tree _ _ rfl rfl), .base (.tree _ _ rfl rfl), trivial⟩ ⟨⟨_, rfl, .cells _ _ _ _ rfl (by repeat (first | exact .nil | refine .cons (by first | exact .base (.tree _ _ rfl rfl) | exact .base (.own _ _ rfl) | exact .base (.ptr _ _ _ rfl) | exact .base (.map _ _ rfl) | exact .base (.nilown _ rfl) | exact .fn _ _ _ _ _ .nil (by repeat (first | exact .nil | refine .cons (by exact .ptr _ _ _ rfl) ?_))) ?_)) rfl⟩, ⟨_, rfl, .cells _ _ _ _ rfl (by repeat (first | exact .nil | refine .cons (by first | exact .base (.tree _ _ rfl rfl) | exact .base (.own _ _ rfl) | exact .base (.ptr _ _ _ rfl) | exact .base (.map _ _ rfl) | exact .base (.nilown _ rfl) | exact .fn _ _ _ _ _ .nil (by repeat (first | exact .nil | refine .cons (by exact .ptr _ _ _ rfl) ?_))) ?_)) rfl⟩, ⟨_, rfl, (by first | exact .imap _ _ _ _ _ _ rfl rfl | exact .newimap _ _ _ _ _ _ _ _ rfl rfl rfl)⟩, ⟨_, rfl, (by first | exact .imap _ _ _ _ _ _ rfl rfl | exact .newimap _ _ _ _ _ _ _ _ rfl rfl rfl)⟩, ⟨_, rfl, .cells _ _ _ _ rfl (by repeat (first | exact .nil | refine .cons (by first | exact .base (.tree _ _ rfl rfl) | exact .base (.own _ _ rfl) | exact .base (.ptr _ _ _ rfl) | exact .base (.map _ _ rfl) | exact .base (.nilown _ rfl) | exact .fn _ _ _ _ _ .nil (by repeat (first | exact .nil | refine .cons (by exact .ptr _ _ _ rfl) ?_))) ?_)) rfl⟩, ⟨_, rfl, (by first | exact .row _ _ _ _ _ _ _ rfl f1.symm | exact .lstrow _ _ _ _ _ _ _ rfl f1.symm | exact .nilrow _ _ _ _ _ f1.symm | exact .truncrow _ _ _ _ _ _ _ _ rfl (by omega) f1.symm)⟩, ⟨_, rfl, (by first | exact .row _ _ _ _ _ _ _ rfl f2.symm | exact .lstrow _ _ _ _ _ _ _ rfl f2.symm | exact .nilrow _ _ _ _ _ f2.symm | exact .truncrow _ _ _ _ _ _ _ _ rfl (by omega) f2.symm)⟩, trivial⟩))
              · have g2 : A2 e = false := by rw [← hA2]; unfold goOut; rw [ho]; exact hd
                rw [if_neg (by rw [g2]; exact Bool.noConfusion)] at f2
                conv => whnf
                refine .quiet (by kernel_rfl) ?_; conv => whnf
                refine And.intro (fun _ => ⟨by omega, by omega⟩) ?_; conv => whnf
                refine And.intro (by omega) (And.intro rfl ?_); conv => whnf
                refine ⟨fun h => by simp at h, fun _ => ?_⟩
                conv => whnf
                refine ⟨fun h => by simp at h, fun _ => ?_⟩
                conv => whnf
                refine And.intro ⟨by omega, by omega⟩ ?_; conv => whnf
                refine up hlt trivial ((wk_of [(0, .id 0), (1, .id 1), (2, .id 2), (3, .id 3), (4, .id 4), (5, .id 5), (6, .id 6)] rfl ⟨.base (.ptr _ _ _ rfl), .base (.ptr _ _ _ rfl), .base (.ptr _ _ _ rfl), (by first | exact .base (.own _ _ rfl) | exact .base (.nilown _ rfl) | exact .base (.trunc _ _ _ rfl)), (by first | exact .base (.own _ _ rfl) | exact .base (.nilown _ rfl) | exact .base (.trunc _ _ _ rfl)), .base (.tree _ _ rfl rfl), .base (.tree _ _ rfl rfl), .base (.tree _ _ rfl rfl), .base (.tree _ _ rfl rfl), .base (.tree _ _ rfl rfl), .base (.tree _ _ rfl rfl), .base (.tree _ _ rfl rfl), trivial⟩ ⟨⟨_, rfl, .cells _ _ _ _ rfl (by repeat (first | exact .nil | refine .cons (by first | exact .base (.tree _ _ rfl rfl) | exact .base (.own _ _ rfl) | exact .base (.ptr _ _ _ rfl) | exact .base (.map _ _ rfl) | exact .base (.nilown _ rfl) | exact .fn _ _ _ _ _ .nil (by repeat (first | exact .nil | refine .cons (by exact .ptr _ _ _ rfl) ?_))) ?_)) rfl⟩, ⟨_, rfl, .cells _ _ _ _ rfl (by repeat (first | exact .nil | refine .cons (by first | exact .base (.tree _ _ rfl rfl) | exact .base (.own _ _ rfl) | exact .base (.ptr _ _ _ rfl) | exact .base (.map _ _ rfl) | exact .base (.nilown _ rfl) | exact .fn _ _ _ _ _ .nil (by repeat (first | exact .nil | refine .cons (by exact .ptr _ _ _ rfl) ?_))) ?_)) rfl⟩, ⟨_, rfl, (by first | exact .imap _ _ _ _ _ _ rfl rfl | exact .newimap _ _ _ _ _ _ _ _ rfl rfl rfl)⟩, ⟨_, rfl, (by first | exact .imap _ _ _ _ _ _ rfl rfl | exact .newimap _ _ _ _ _ _ _ _ rfl rfl rfl)⟩, ⟨_, rfl, .cells _ _ _ _ rfl (by repeat (first | exact .nil | refine .cons (by first | exact .base (.tree _ _ rfl rfl) | exact .base (.own _ _ rfl) | exact .base (.ptr _ _ _ rfl) | exact .base (.map _ _ rfl) | exact .base (.nilown _ rfl) | exact .fn _ _ _ _ _ .nil (by repeat (first | exact .nil | refine .cons (by exact .ptr _ _ _ rfl) ?_))) ?_)) rfl⟩, ⟨_, rfl, (by first | exact .row _ _ _ _ _ _ _ rfl f1.symm | exact .lstrow _ _ _ _ _ _ _ rfl f1.symm | exact .nilrow _ _ _ _ _ f1.symm | exact .truncrow _ _ _ _ _ _ _ _ rfl (by omega) f1.symm)⟩, ⟨_, rfl, (by first | exact .row _ _ _ _ _ _ _ rfl f2.symm | exact .lstrow _ _ _ _ _ _ _ rfl f2.symm | exact .nilrow _ _ _ _ _ f2.symm | exact .truncrow _ _ _ _ _ _ _ _ rfl (by omega) f2.symm)⟩, trivial⟩))
          · simp only [decide_eq_false_iff_not] at hc3
            obtain rfl : k = a.length := by omega
            rw [List.take_of_length_le (Nat.le_refl _)]
            conv => whnf
            refine And.intro ⟨by omega, by omega⟩ ?_; conv => whnf
            refine up (by omega) trivial ((wk_of [(0, .id 0), (1, .id 1), (2, .id 2), (3, .id 3), (4, .id 4), (5, .id 5), (6, .id 6)] rfl ⟨.base (.ptr _ _ _ rfl), .base (.ptr _ _ _ rfl), .base (.ptr _ _ _ rfl), (by first | exact .base (.own _ _ rfl) | exact .base (.nilown _ rfl) | exact .base (.trunc _ _ _ rfl)), (by first | exact .base (.own _ _ rfl) | exact .base (.nilown _ rfl) | exact .base (.trunc _ _ _ rfl)), .base (.tree _ _ rfl rfl), .base (.tree _ _ rfl rfl), trivial⟩ ⟨⟨_, rfl, .cells _ _ _ _ rfl (by repeat (first | exact .nil | refine .cons (by first | exact .base (.tree _ _ rfl rfl) | exact .base (.own _ _ rfl) | exact .base (.ptr _ _ _ rfl) | exact .base (.map _ _ rfl) | exact .base (.nilown _ rfl) | exact .fn _ _ _ _ _ .nil (by repeat (first | exact .nil | refine .cons (by exact .ptr _ _ _ rfl) ?_))) ?_)) rfl⟩, ⟨_, rfl, .cells _ _ _ _ rfl (by repeat (first | exact .nil | refine .cons (by first | exact .base (.tree _ _ rfl rfl) | exact .base (.own _ _ rfl) | exact .base (.ptr _ _ _ rfl) | exact .base (.map _ _ rfl) | exact .base (.nilown _ rfl) | exact .fn _ _ _ _ _ .nil (by repeat (first | exact .nil | refine .cons (by exact .ptr _ _ _ rfl) ?_))) ?_)) rfl⟩, ⟨_, rfl, (by first | exact .imap _ _ _ _ _ _ rfl rfl | exact .newimap _ _ _ _ _ _ _ _ rfl rfl rfl)⟩, ⟨_, rfl, (by first | exact .imap _ _ _ _ _ _ rfl rfl | exact .newimap _ _ _ _ _ _ _ _ rfl rfl rfl)⟩, ⟨_, rfl, .cells _ _ _ _ rfl (by repeat (first | exact .nil | refine .cons (by first | exact .base (.tree _ _ rfl rfl) | exact .base (.own _ _ rfl) | exact .base (.ptr _ _ _ rfl) | exact .base (.map _ _ rfl) | exact .base (.nilown _ rfl) | exact .fn _ _ _ _ _ .nil (by repeat (first | exact .nil | refine .cons (by exact .ptr _ _ _ rfl) ?_))) ?_)) rfl⟩, ⟨_, rfl, (by first | exact .row _ _ _ _ _ _ _ rfl rfl | exact .lstrow _ _ _ _ _ _ _ rfl rfl | exact .nilrow _ _ _ _ _ rfl | exact .truncrow _ _ _ _ _ _ _ _ rfl (by omega) rfl)⟩, ⟨_, rfl, (by first | exact .row _ _ _ _ _ _ _ rfl rfl | exact .lstrow _ _ _ _ _ _ _ rfl rfl | exact .nilrow _ _ _ _ _ rfl | exact .truncrow _ _ _ _ _ _ _ _ rfl (by omega) rfl)⟩, trivial⟩))
        · conv => whnf
          refine And.intro ⟨by omega, by omega⟩ ?_; conv => whnf
          refine loop_up (cxOk _ _) b.length (fun _ => True) (fun k => ⟨[(9, .ptr 0 0), (10, .ptr 1 0), (12, .ptr 4 0), (13, .own 5), (14, .own 6), (15, .int .i64 1), (16, encEs b), (48, .agg [encEs a, encEs b]), (49, .int .i64 1), (53, encEs b), (54, .int .i64 b.length), (55, .int .i64 (k : Nat))], [(0, .cells 61 [encEs a, encEs b]), (1, .cells 63 [.rimap .i64 encB false w0, .rimap .i64 encB false w1]), (2, .imap .i64 encE e0 (foundM a)), (3, .imap .i64 encE e0 (foundM b)), (4, .cells 68 [.map 2, .map 3]), (5, .row 48 5 encE e0 (a.filter A1 ++ (b.take k).filter B1)), (6, .row 48 5 encE e0 (a.filter A2 ++ (b.take k).filter B2))], 7⟩) trivial ((wk_of [(0, .id 0), (1, .id 1), (2, .id 2), (3, .id 3), (4, .id 4), (5, .id 5), (6, .id 6)] rfl ⟨.base (.ptr _ _ _ rfl), .base (.ptr _ _ _ rfl), .base (.ptr _ _ _ rfl), (by first | exact .base (.own _ _ rfl) | exact .base (.nilown _ rfl) | exact .base (.trunc _ _ _ rfl)), (by first | exact .base (.own _ _ rfl) | exact .base (.nilown _ rfl) | exact .base (.trunc _ _ _ rfl)), .base (.tree _ _ rfl rfl), .base (.tree _ _ rfl rfl), .base (.tree _ _ rfl rfl), .base (.tree _ _ rfl rfl), .base (.tree _ _ rfl rfl), .base (.tree _ _ rfl rfl), .base (.tree _ _ rfl rfl), trivial⟩ ⟨⟨_, rfl, .cells _ _ _ _ rfl (by repeat (first | exact .nil | refine .cons (by first | exact .base (.tree _ _ rfl rfl) | exact .base (.own _ _ rfl) | exact .base (.ptr _ _ _ rfl) | exact .base (.map _ _ rfl) | exact .base (.nilown _ rfl) | exact .fn _ _ _ _ _ .nil (by repeat (first | exact .nil | refine .cons (by exact .ptr _ _ _ rfl) ?_))) ?_)) rfl⟩, ⟨_, rfl, .cells _ _ _ _ rfl (by repeat (first | exact .nil | refine .cons (by first | exact .base (.tree _ _ rfl rfl) | exact .base (.own _ _ rfl) | exact .base (.ptr _ _ _ rfl) | exact .base (.map _ _ rfl) | exact .base (.nilown _ rfl) | exact .fn _ _ _ _ _ .nil (by repeat (first | exact .nil | refine .cons (by exact .ptr _ _ _ rfl) ?_))) ?_)) rfl⟩, ⟨_, rfl, (by first | exact .imap _ _ _ _ _ _ rfl rfl | exact .newimap _ _ _ _ _ _ _ _ rfl rfl rfl)⟩, ⟨_, rfl, (by first | exact .imap _ _ _ _ _ _ rfl rfl | exact .newimap _ _ _ _ _ _ _ _ rfl rfl rfl)⟩, ⟨_, rfl, .cells _ _ _ _ rfl (by repeat (first | exact .nil | refine .cons (by first | exact .base (.tree _ _ rfl rfl) | exact .base (.own _ _ rfl) | exact .base (.ptr _ _ _ rfl) | exact .base (.map _ _ rfl) | exact .base (.nilown _ rfl) | exact .fn _ _ _ _ _ .nil (by repeat (first | exact .nil | refine .cons (by exact .ptr _ _ _ rfl) ?_))) ?_)) rfl⟩, ⟨_, rfl, (by first | exact .row _ _ _ _ _ _ _ rfl (show a.filter A1 = a.filter A1 ++ ([] : List Ent).filter B1 by simp) | exact .lstrow _ _ _ _ _ _ _ rfl (show a.filter A1 = a.filter A1 ++ ([] : List Ent).filter B1 by simp) | exact .nilrow _ _ _ _ _ (show a.filter A1 = a.filter A1 ++ ([] : List Ent).filter B1 by simp) | exact .truncrow _ _ _ _ _ _ _ _ rfl (by omega) (show a.filter A1 = a.filter A1 ++ ([] : List Ent).filter B1 by simp))⟩, ⟨_, rfl, (by first | exact .row _ _ _ _ _ _ _ rfl (show a.filter A2 = a.filter A2 ++ ([] : List Ent).filter B2 by simp) | exact .lstrow _ _ _ _ _ _ _ rfl (show a.filter A2 = a.filter A2 ++ ([] : List Ent).filter B2 by simp) | exact .nilrow _ _ _ _ _ (show a.filter A2 = a.filter A2 ++ ([] : List Ent).filter B2 by simp) | exact .truncrow _ _ _ _ _ _ _ _ rfl (by omega) (show a.filter A2 = a.filter A2 ++ ([] : List Ent).filter B2 by simp))⟩, trivial⟩)) ?_
          intro k hk _
          conv => whnf
          refine ⟨fun hc3 => ?_, fun hc3 => ?_⟩
          · simp only [decide_eq_true_eq] at hc3
            have hlt : k < b.length := by omega
            have f1 := filter_snoc B1 (b.take k) (b.getD k e0)
            have f2 := filter_snoc B2 (b.take k) (b.getD k e0)
            have hck : b.getD (k : Int).toNat e0 = b.getD k e0 := by rw [Int.toNat_natCast]
            rw [← take_getD (d := e0) hlt] at f1 f2
            generalize b.getD k e0 = e at *
            have l1 : (a.filter A1 ++ (b.take k).filter B1).length ≤ 40 := by rw [List.length_append]; have := List.length_filter_le A1 a; have := List.length_filter_le B1 (b.take k); have : (b.take k).length ≤ 20 := (by rw [List.length_take]; omega); omega
            have l2 : (a.filter A2 ++ (b.take k).filter B2).length ≤ 40 := by rw [List.length_append]; have := List.length_filter_le A2 a; have := List.length_filter_le B2 (b.take k); have : (b.take k).length ≤ 20 := (by rw [List.length_take]; omega); omega
            conv => whnf
            refine And.intro ⟨by omega, by omega⟩ ?_; conv => whnf
            refine And.intro rfl ?_; conv => whnf
            refine .eff (by first | exact cxOk _ _ | exact cxPOk _ _ _) ?_; conv => whnf
            refine And.intro ⟨by omega, by omega⟩ ?_; conv => whnf
            refine And.intro ⟨by omega, by omega⟩ ?_; conv => whnf
            refine And.intro rfl ?_; conv => whnf
            refine And.intro rfl ?_; conv => whnf
            rw [hck]
            cases ho : mget (foundM a) e.id with
            | none =>
              refine ⟨⟨by kernel_rfl, by kernel_rfl⟩, ?_⟩
              conv => whnf
              refine ⟨fun h => by simp at h, fun _ => ?_⟩
              conv => whnf
              refine .quiet (by kernel_rfl) ?_; conv => whnf
              refine And.intro (fun _ => ⟨by omega, by omega⟩) ?_; conv => whnf
              refine And.intro (by omega) (And.intro rfl ?_); conv => whnf
              refine ⟨fun hd => ?_, fun hd => ?_⟩
              · have g1 : B1 e = true := by rw [← hB1]; unfold goIn; rw [ho]; simpa using hd
                have g2 : B2 e = false := by rw [← hB2]; unfold goOut; rw [ho]; simpa using hd
                rw [if_pos g1] at f1
                rw [if_neg (by rw [g2]; exact Bool.noConfusion)] at f2
                conv => whnf
                refine And.intro rfl ?_; conv => whnf
                refine And.intro ⟨rfl, rfl⟩ (And.intro (show ((a.filter A1 ++ (b.take k).filter B1).length + 1) * 40 ≤ 140737488355328 by omega) ?_)
                conv => whnf
                refine Exists.intro _ (And.intro rfl ?_); conv => whnf
                refine And.intro ⟨by omega, by omega⟩ ?_; conv => whnf
                refine up hlt trivial ((wk_of [(0, .id 0), (1, .id 1), (2, .id 2), (3, .id 3), (4, .id 4), (5, .id 10), (6, .id 6)] rfl ⟨.base (.ptr _ _ _ rfl), .base (.ptr _ _ _ rfl), .base (.ptr _ _ _ rfl), (by first | exact .base (.own _ _ rfl) | exact .base (.nilown _ rfl) | exact .base (.trunc _ _ _ rfl)), (by first | exact .base (.own _ _ rfl) | exact .base (.nilown _ rfl) | exact .base (.trunc _ _ _ rfl)), .base (.tree _ _ rfl rfl), .base (.tree _ _ rfl rfl), .base (.tree _ _ rfl rfl), .base (.tree _ _ rfl rfl), .base (.tree _ _ rfl rfl), .base (.tree _ _ rfl rfl), .base (.tree _ _ rfl rfl), trivial⟩ ⟨⟨_, rfl, .cells _ _ _ _ rfl (by repeat (first | exact .nil | refine .cons (by first | exact .base (.tree _ _ rfl rfl) | exact .base (.own _ _ rfl) | exact .base (.ptr _ _ _ rfl) | exact .base (.map _ _ rfl) | exact .base (.nilown _ rfl) | exact .fn _ _ _ _ _ .nil (by repeat (first | exact .nil | refine .cons (by exact .ptr _ _ _ rfl) ?_))) ?_)) rfl⟩, ⟨_, rfl, .cells _ _ _ _ rfl (by repeat (first | exact .nil | refine .cons (by first | exact .base (.tree _ _ rfl rfl) | exact .base (.own _ _ rfl) | exact .base (.ptr _ _ _ rfl) | exact .base (.map _ _ rfl) | exact .base (.nilown _ rfl) | exact .fn _ _ _ _ _ .nil (by repeat (first | exact .nil | refine .cons (by exact .ptr _ _ _ rfl) ?_))) ?_)) rfl⟩, ⟨_, rfl, (by first | exact .imap _ _ _ _ _ _ rfl rfl | exact .newimap _ _ _ _ _ _ _ _ rfl rfl rfl)⟩, ⟨_, rfl, (by first | exact .imap _ _ _ _ _ _ rfl rfl | exact .newimap _ _ _ _ _ _ _ _ rfl rfl rfl)⟩, ⟨_, rfl, .cells _ _ _ _ rfl (by repeat (first | exact .nil | refine .cons (by first | exact .base (.tree _ _ rfl rfl) | exact .base (.own _ _ rfl) | exact .base (.ptr _ _ _ rfl) | exact .base (.map _ _ rfl) | exact .base (.nilown _ rfl) | exact .fn _ _ _ _ _ .nil (by repeat (first | exact .nil | refine .cons (by exact .ptr _ _ _ rfl) ?_))) ?_)) rfl⟩, ⟨_, rfl, (by first | exact .row _ _ _ _ _ _ _ rfl (show a.filter A1 ++ (b.take k).filter B1 ++ [e] = a.filter A1 ++ (b.take (k + 1)).filter B1 by rw [f1, List.append_assoc]) | exact .lstrow _ _ _ _ _ _ _ rfl (show a.filter A1 ++ (b.take k).filter B1 ++ [e] = a.filter A1 ++ (b.take (k + 1)).filter B1 by rw [f1, List.append_assoc]) | exact .nilrow _ _ _ _ _ (show a.filter A1 ++ (b.take k).filter B1 ++ [e] = a.filter A1 ++ (b.take (k + 1)).filter B1 by rw [f1, List.append_assoc]) | exact .truncrow _ _ _ _ _ _ _ _ rfl (by omega) (show a.filter A1 ++ (b.take k).filter B1 ++ [e] = a.filter A1 ++ (b.take (k + 1)).filter B1 by rw [f1, List.append_assoc]))⟩, ⟨_, rfl, (by first | exact .row _ _ _ _ _ _ _ rfl (show a.filter A2 ++ (b.take k).filter B2 = a.filter A2 ++ (b.take (k + 1)).filter B2 by rw [f2]) | exact .lstrow _ _ _ _ _ _ _ rfl (show a.filter A2 ++ (b.take k).filter B2 = a.filter A2 ++ (b.take (k + 1)).filter B2 by rw [f2]) | exact .nilrow _ _ _ _ _ (show a.filter A2 ++ (b.take k).filter B2 = a.filter A2 ++ (b.take (k + 1)).filter B2 by rw [f2]) | exact .truncrow _ _ _ _ _ _ _ _ rfl (by omega) (show a.filter A2 ++ (b.take k).filter B2 = a.filter A2 ++ (b.take (k + 1)).filter B2 by rw [f2]))⟩, trivial⟩))
              · have g1 : B1 e = false := by rw [← hB1]; unfold goIn; rw [ho]; simpa using hd
                have g2 : B2 e = true := by rw [← hB2]; unfold goOut; rw [ho]; simpa using hd
                rw [if_neg (by rw [g1]; exact Bool.noConfusion)] at f1
                rw [if_pos g2] at f2
                conv => whnf
                refine And.intro (fun _ => ?_) (fun h => absurd h (by decide)); conv => whnf
                refine And.intro rfl ?_; conv => whnf
                refine And.intro ⟨rfl, rfl⟩ (And.intro (show ((a.filter A2 ++ (b.take k).filter B2).length + 1) * 40 ≤ 140737488355328 by omega) ?_)
                conv => whnf
                refine Exists.intro _ (And.intro rfl ?_); conv => whnf
                refine And.intro ⟨by omega, by omega⟩ ?_; conv => whnf
                refine up hlt trivial ((wk_of [(0, .id 0), (1, .id 1), (2, .id 2), (3, .id 3), (4, .id 4), (5, .id 5), (6, .id 10)] rfl ⟨.base (.ptr _ _ _ rfl), .base (.ptr _ _ _ rfl), .base (.ptr _ _ _ rfl), (by first | exact .base (.own _ _ rfl) | exact .base (.nilown _ rfl) | exact .base (.trunc _ _ _ rfl)), (by first | exact .base (.own _ _ rfl) | exact .base (.nilown _ rfl) | exact .base (.trunc _ _ _ rfl)), .base (.tree _ _ rfl rfl), .base (.tree _ _ rfl rfl), .base (.tree _ _ rfl rfl), .base (.tree _ _ rfl rfl), .base (.tree _ _ rfl rfl), .base (.tree _ _ rfl rfl), .base (.tree _ _ rfl rfl), trivial⟩ ⟨⟨_, rfl, .cells _ _ _ _ rfl (by repeat (first | exact .nil | refine .cons (by first | exact .base (.tree _ _ rfl rfl) | exact .base (.own _ _ rfl) | exact .base (.ptr _ _ _ rfl) | exact .base (.map _ _ rfl) | exact .base (.nilown _ rfl) | exact .fn _ _ _ _ _ .nil (by repeat (first | exact .nil | refine .cons (by exact .ptr _ _ _ rfl) ?_))) ?_)) rfl⟩, ⟨_, rfl, .cells _ _ _ _ rfl (by repeat (first | exact .nil | refine .cons (by first | exact .base (.tree _ _ rfl rfl) | exact .base (.own _ _ rfl) | exact .base (.ptr _ _ _ rfl) | exact .base (.map _ _ rfl) | exact .base (.nilown _ rfl) | exact .fn _ _ _ _ _ .nil (by repeat (first | exact .nil | refine .cons (by exact .ptr _ _ _ rfl) ?_))) ?_)) rfl⟩, ⟨_, rfl, (by first | exact .imap _ _ _ _ _ _ rfl rfl | exact .newimap _ _ _ _ _ _ _ _ rfl rfl rfl)⟩, ⟨_, rfl, (by first | exact .imap _ _ _ _ _ _ rfl rfl | exact .newimap _ _ _ _ _ _ _ _ rfl rfl rfl)⟩, ⟨_, rfl, .cells _ _ _ _ rfl (by repeat (first | exact .nil | refine .cons (by first | exact .base (.tree _ _ rfl rfl) | exact .base (.own _ _ rfl) | exact .base (.ptr _ _ _ rfl) | exact .base (.map _ _ rfl) | exact .base (.nilown _ rfl) | exact .fn _ _ _ _ _ .nil (by repeat (first | exact .nil | refine .cons (by exact .ptr _ _ _ rfl) ?_))) ?_)) rfl⟩, ⟨_, rfl, (by first | exact .row _ _ _ _ _ _ _ rfl (show a.filter A1 ++ (b.take k).filter B1 = a.filter A1 ++ (b.take (k + 1)).filter B1 by rw [f1]) | exact .lstrow _ _ _ _ _ _ _ rfl (show a.filter A1 ++ (b.take k).filter B1 = a.filter A1 ++ (b.take (k + 1)).filter B1 by rw [f1]) | exact .nilrow _ _ _ _ _ (show a.filter A1 ++ (b.take k).filter B1 = a.filter A1 ++ (b.take (k + 1)).filter B1 by rw [f1]) | exact .truncrow _ _ _ _ _ _ _ _ rfl (by omega) (show a.filter A1 ++ (b.take k).filter B1 = a.filter A1 ++ (b.take (k + 1)).filter B1 by rw [f1]))⟩, ⟨_, rfl, (by first | exact .row _ _ _ _ _ _ _ rfl (show a.filter A2 ++ (b.take k).filter B2 ++ [e] = a.filter A2 ++ (b.take (k + 1)).filter B2 by rw [f2, List.append_assoc]) | exact .lstrow _ _ _ _ _ _ _ rfl (show a.filter A2 ++ (b.take k).filter B2 ++ [e] = a.filter A2 ++ (b.take (k + 1)).filter B2 by rw [f2, List.append_assoc]) | exact .nilrow _ _ _ _ _ (show a.filter A2 ++ (b.take k).filter B2 ++ [e] = a.filter A2 ++ (b.take (k + 1)).filter B2 by rw [f2, List.append_assoc]) | exact .truncrow _ _ _ _ _ _ _ _ rfl (by omega) (show a.filter A2 ++ (b.take k).filter B2 ++ [e] = a.filter A2 ++ (b.take (k + 1)).filter B2 by rw [f2, List.append_assoc]))⟩, trivial⟩))
            | some x =>
              have g1 : B1 e = false := by rw [← hB1]; unfold goIn; rw [ho]; rfl
              rw [if_neg (by rw [g1]; exact Bool.noConfusion)] at f1
              refine ⟨⟨by kernel_rfl, by kernel_rfl⟩, ?_⟩
              conv => whnf
              refine ⟨fun hd => ?_, fun hd => ?_⟩
              · have g2 : B2 e = true := by rw [← hB2]; unfold goOut; rw [ho]; exact hd
                rw [if_pos g2] at f2
                conv => whnf
                refine And.intro rfl ?_; conv => whnf
                refine And.intro ⟨rfl, rfl⟩ (And.intro (show ((a.filter A2 ++ (b.take k).filter B2).length + 1) * 40 ≤ 140737488355328 by omega) ?_)
                conv => whnf
                refine Exists.intro _ (And.intro rfl ?_); conv => whnf
                refine And.intro ⟨by omega, by omega⟩ ?_; conv => whnf
                refine up hlt trivial ((wk_of [(0, .id 0), (1, .id 1), (2, .id 2), (3, .id 3), (4, .id 4), (5, .id 5), (6, .id 10)] rfl ⟨.base (.ptr _ _ _ rfl), .base (.ptr _ _ _ rfl), .base (.ptr _ _ _ rfl), (by first | exact .base (.own _ _ rfl) | exact .base (.nilown _ rfl) | exact .base (.trunc _ _ _ rfl)), (by first | exact .base (.own _ _ rfl) | exact .base (.nilown _ rfl) | exact .base (.trunc _ _ _ rfl)), .base (.tree _ _ rfl rfl), .base (.tree _ _ rfl rfl), .base (.tree _ _ rfl rfl), .base (.tree _ _ rfl rfl), .base (.tree _ _ rfl rfl), .base (.tree _ _ rfl rfl), .base (.tree _ _ rfl rfl), trivial⟩ ⟨⟨_, rfl, .cells _ _ _ _ rfl (by repeat (first | exact .nil | refine .cons (by first | exact .base (.tree _ _ rfl rfl) | exact .base (.own _ _ rfl) | exact .base (.ptr _ _ _ rfl) | exact .base (.map _ _ rfl) | exact .base (.nilown _ rfl) | exact .fn _ _ _ _ _ .nil (by repeat (first | exact .nil | refine .cons (by exact .ptr _ _ _ rfl) ?_))) ?_)) rfl⟩, ⟨_, rfl, .cells _ _ _ _ rfl (by repeat (first | exact .nil | refine .cons (by first | exact .base (.tree _ _ rfl rfl) | exact .base (.own _ _ rfl) | exact .base (.ptr _ _ _ rfl) | exact .base (.map _ _ rfl) | exact .base (.nilown _ rfl) | exact .fn _ _ _ _ _ .nil (by repeat (first | exact .nil | refine .cons (by exact .ptr _ _ _ rfl) ?_))) ?_)) rfl⟩, ⟨_, rfl, (by first | exact .imap _ _ _ _ _ _ rfl rfl | exact .newimap _ _ _ _ _ _ _ _ rfl rfl rfl)⟩, ⟨_, rfl, (by first | exact .imap _ _ _ _ _ _ rfl rfl | exact .newimap _ _ _ _ _ _ _ _ rfl rfl rfl)⟩, ⟨_, rfl, .cells _ _ _ _ rfl (by repeat (first | exact .nil | refine .cons (by first | exact .base (.tree _ _ rfl rfl) | exact .base (.own _ _ rfl) | exact .base (.ptr _ _ _ rfl) | exact .base (.map _ _ rfl) | exact .base (.nilown _ rfl) | exact .fn _ _ _ _ _ .nil (by repeat (first | exact .nil | refine .cons (by exact .ptr _ _ _ rfl) ?_))) ?_)) rfl⟩, ⟨_, rfl, (by first | exact .row _ _ _ _ _ _ _ rfl (show a.filter A1 ++ (b.take k).filter B1 = a.filter A1 ++ (b.take (k + 1)).filter B1 by rw [f1]) | exact .lstrow _ _ _ _ _ _ _ rfl (show a.filter A1 ++ (b.take k).filter B1 = a.filter A1 ++ (b.take (k + 1)).filter B1 by rw [f1]) | exact .nilrow _ _ _ _ _ (show a.filter A1 ++ (b.take k).filter B1 = a.filter A1 ++ (b.take (k + 1)).filter B1 by rw [f1]) | exact .truncrow _ _ _ _ _ _ _ _ rfl (by omega) (show a.filter A1 ++ (b.take k).filter B1 = a.filter A1 ++ (b.take (k + 1)).filter B1 by rw [f1]))⟩, ⟨_, rfl, (by first | exact .row _ _ _ _ _ _ _ rfl (show a.filter A2 ++ (b.take k).filter B2 ++ [e] = a.filter A2 ++ (b.take (k + 1)).filter B2 by rw [f2, List.append_assoc]) | exact .lstrow _ _ _ _ _ _ _ rfl (show a.filter A2 ++ (b.take k).filter B2 ++ [e] = a.filter A2 ++ (b.take (k + 1)).filter B2 by rw [f2, List.append_assoc]) | exact .nilrow _ _ _ _ _ (show a.filter A2 ++ (b.take k).filter B2 ++ [e] = a.filter A2 ++ (b.take (k + 1)).filter B2 by rw [f2, List.append_assoc]) | exact .truncrow _ _ _ _ _ _ _ _ rfl (by omega) (show a.filter A2 ++ (b.take k).filter B2 ++ [e] = a.filter A2 ++ (b.take (k + 1)).filter B2 by rw [f2, List.append_assoc]))⟩, trivial⟩))
              · have g2 : B2 e = false := by rw [← hB2]; unfold goOut; rw [ho]; exact hd
                rw [if_neg (by rw [g2]; exact Bool.noConfusion)] at f2
                conv => whnf
                refine .quiet (by kernel_rfl) ?_; conv => whnf
                refine And.intro (fun _ => ⟨by omega, by omega⟩) ?_; conv => whnf
                refine And.intro (by omega) (And.intro rfl ?_); conv => whnf
                refine ⟨fun h => by simp at h, fun _ => ?_⟩
                conv => whnf
                refine ⟨fun h => by simp at h, fun _ => ?_⟩
                conv => whnf
                refine And.intro ⟨by omega, by omega⟩ ?_; conv => whnf
                refine up hlt trivial ((wk_of [(0, .id 0), (1, .id 1), (2, .id 2), (3, .id 3), (4, .id 4), (5, .id 5), (6, .id 6)] rfl ⟨.base (.ptr _ _ _ rfl), .base (.ptr _ _ _ rfl), .base (.ptr _ _ _ rfl), (by first | exact .base (.own _ _ rfl) | exact .base (.nilown _ rfl) | exact .base (.trunc _ _ _ rfl)), (by first | exact .base (.own _ _ rfl) | exact .base (.nilown _ rfl) | exact .base (.trunc _ _ _ rfl)), .base (.tree _ _ rfl rfl), .base (.tree _ _ rfl rfl), .base (.tree _ _ rfl rfl), .base (.tree _ _ rfl rfl), .base (.tree _ _ rfl rfl), .base (.tree _ _ rfl rfl), .base (.tree _ _ rfl rfl), trivial⟩ ⟨⟨_, rfl, .cells _ _ _ _ rfl (by repeat (first | exact .nil | refine .cons (by first | exact .base (.tree _ _ rfl rfl) | exact .base (.own _ _ rfl) | exact .base (.ptr _ _ _ rfl) | exact .base (.map _ _ rfl) | exact .base (.nilown _ rfl) | exact .fn _ _ _ _ _ .nil (by repeat (first | exact .nil | refine .cons (by exact .ptr _ _ _ rfl) ?_))) ?_)) rfl⟩, ⟨_, rfl, .cells _ _ _ _ rfl (by repeat (first | exact .nil | refine .cons (by first | exact .base (.tree _ _ rfl rfl) | exact .base (.own _ _ rfl) | exact .base (.ptr _ _ _ rfl) | exact .base (.map _ _ rfl) | exact .base (.nilown _ rfl) | exact .fn _ _ _ _ _ .nil (by repeat (first | exact .nil | refine .cons (by exact .ptr _ _ _ rfl) ?_))) ?_)) rfl⟩, ⟨_, rfl, (by first | exact .imap _ _ _ _ _ _ rfl rfl | exact .newimap _ _ _ _ _ _ _ _ rfl rfl rfl)⟩, ⟨_, rfl, (by first | exact .imap _ _ _ _ _ _ rfl rfl | exact .newimap _ _ _ _ _ _ _ _ rfl rfl rfl)⟩, ⟨_, rfl, .cells _ _ _ _ rfl (by repeat (first | exact .nil | refine .cons (by first | exact .base (.tree _ _ rfl rfl) | exact .base (.own _ _ rfl) | exact .base (.ptr _ _ _ rfl) | exact .base (.map _ _ rfl) | exact .base (.nilown _ rfl) | exact .fn _ _ _ _ _ .nil (by repeat (first | exact .nil | refine .cons (by exact .ptr _ _ _ rfl) ?_))) ?_)) rfl⟩, ⟨_, rfl, (by first | exact .row _ _ _ _ _ _ _ rfl (show a.filter A1 ++ (b.take k).filter B1 = a.filter A1 ++ (b.take (k + 1)).filter B1 by rw [f1]) | exact .lstrow _ _ _ _ _ _ _ rfl (show a.filter A1 ++ (b.take k).filter B1 = a.filter A1 ++ (b.take (k + 1)).filter B1 by rw [f1]) | exact .nilrow _ _ _ _ _ (show a.filter A1 ++ (b.take k).filter B1 = a.filter A1 ++ (b.take (k + 1)).filter B1 by rw [f1]) | exact .truncrow _ _ _ _ _ _ _ _ rfl (by omega) (show a.filter A1 ++ (b.take k).filter B1 = a.filter A1 ++ (b.take (k + 1)).filter B1 by rw [f1]))⟩, ⟨_, rfl, (by first | exact .row _ _ _ _ _ _ _ rfl (show a.filter A2 ++ (b.take k).filter B2 = a.filter A2 ++ (b.take (k + 1)).filter B2 by rw [f2]) | exact .lstrow _ _ _ _ _ _ _ rfl (show a.filter A2 ++ (b.take k).filter B2 = a.filter A2 ++ (b.take (k + 1)).filter B2 by rw [f2]) | exact .nilrow _ _ _ _ _ (show a.filter A2 ++ (b.take k).filter B2 = a.filter A2 ++ (b.take (k + 1)).filter B2 by rw [f2]) | exact .truncrow _ _ _ _ _ _ _ _ rfl (by omega) (show a.filter A2 ++ (b.take k).filter B2 = a.filter A2 ++ (b.take (k + 1)).filter B2 by rw [f2]))⟩, trivial⟩))
          · simp only [decide_eq_false_iff_not] at hc3
            obtain rfl : k = b.length := by omega
            rw [List.take_of_length_le (Nat.le_refl _)]
            conv => whnf
            refine And.intro ⟨by omega, by omega⟩ ?_; conv => whnf
            refine up (by omega) trivial ((wk_of [(0, .id 0), (1, .id 1), (2, .id 2), (3, .id 3), (4, .id 4), (5, .id 5), (6, .id 6)] rfl ⟨.base (.ptr _ _ _ rfl), .base (.ptr _ _ _ rfl), .base (.ptr _ _ _ rfl), (by first | exact .base (.own _ _ rfl) | exact .base (.nilown _ rfl) | exact .base (.trunc _ _ _ rfl)), (by first | exact .base (.own _ _ rfl) | exact .base (.nilown _ rfl) | exact .base (.trunc _ _ _ rfl)), .base (.tree _ _ rfl rfl), .base (.tree _ _ rfl rfl), trivial⟩ ⟨⟨_, rfl, .cells _ _ _ _ rfl (by repeat (first | exact .nil | refine .cons (by first | exact .base (.tree _ _ rfl rfl) | exact .base (.own _ _ rfl) | exact .base (.ptr _ _ _ rfl) | exact .base (.map _ _ rfl) | exact .base (.nilown _ rfl) | exact .fn _ _ _ _ _ .nil (by repeat (first | exact .nil | refine .cons (by exact .ptr _ _ _ rfl) ?_))) ?_)) rfl⟩, ⟨_, rfl, .cells _ _ _ _ rfl (by repeat (first | exact .nil | refine .cons (by first | exact .base (.tree _ _ rfl rfl) | exact .base (.own _ _ rfl) | exact .base (.ptr _ _ _ rfl) | exact .base (.map _ _ rfl) | exact .base (.nilown _ rfl) | exact .fn _ _ _ _ _ .nil (by repeat (first | exact .nil | refine .cons (by exact .ptr _ _ _ rfl) ?_))) ?_)) rfl⟩, ⟨_, rfl, (by first | exact .imap _ _ _ _ _ _ rfl rfl | exact .newimap _ _ _ _ _ _ _ _ rfl rfl rfl)⟩, ⟨_, rfl, (by first | exact .imap _ _ _ _ _ _ rfl rfl | exact .newimap _ _ _ _ _ _ _ _ rfl rfl rfl)⟩, ⟨_, rfl, .cells _ _ _ _ rfl (by repeat (first | exact .nil | refine .cons (by first | exact .base (.tree _ _ rfl rfl) | exact .base (.own _ _ rfl) | exact .base (.ptr _ _ _ rfl) | exact .base (.map _ _ rfl) | exact .base (.nilown _ rfl) | exact .fn _ _ _ _ _ .nil (by repeat (first | exact .nil | refine .cons (by exact .ptr _ _ _ rfl) ?_))) ?_)) rfl⟩, ⟨_, rfl, (by first | exact .row _ _ _ _ _ _ _ rfl rfl | exact .lstrow _ _ _ _ _ _ _ rfl rfl | exact .nilrow _ _ _ _ _ rfl | exact .truncrow _ _ _ _ _ _ _ _ rfl (by omega) rfl)⟩, ⟨_, rfl, (by first | exact .row _ _ _ _ _ _ _ rfl rfl | exact .lstrow _ _ _ _ _ _ _ rfl rfl | exact .nilrow _ _ _ _ _ rfl | exact .truncrow _ _ _ _ _ _ _ _ rfl (by omega) rfl)⟩, trivial⟩))
      · simp only [decide_eq_false_iff_not] at hc2
        obtain rfl : n = 2 := by omega
        have hri : (rawI a b fl) = a.filter A1 ++ b.filter B1 := by unfold rawI; rw [hm0, hm1, hA1, hB1]
        have hro : (rawO a b fl) = a.filter A2 ++ b.filter B2 := by unfold rawO; rw [hm0, hm1, hA2, hB2]
        have li : (a.filter A1 ++ b.filter B1).length ≤ 40 := by rw [List.length_append]; have := List.length_filter_le A1 a; have := List.length_filter_le B1 b; omega
        have lo : (a.filter A2 ++ b.filter B2).length ≤ 40 := by rw [List.length_append]; have := List.length_filter_le A2 a; have := List.length_filter_le B2 b; omega
        rw [hri, hro]
        rw [show (if (2 : Nat) = 0 then [] else if (2 : Nat) = 1 then a.filter A1 else a.filter A1 ++ b.filter B1) = a.filter A1 ++ b.filter B1 from rfl, show (if (2 : Nat) = 0 then [] else if (2 : Nat) = 1 then a.filter A2 else a.filter A2 ++ b.filter B2) = a.filter A2 ++ b.filter B2 from rfl]
        generalize a.filter A1 ++ b.filter B1 = P at *
        generalize a.filter A2 ++ b.filter B2 = Q at *
        have sP := sorts_ok P li
        have sQ := sorts_ok Q lo
        conv => whnf
        refine .raw _ _ rfl (fun h => by cases h) (callio_sem (sP) [5] _ rfl rfl ⟨rfl, trivial⟩ (by repeat (first | exact .nil | (apply BorL.cons; first | exact .map _ _ rfl | exact .ptr _ _ _ rfl | exact .own _ _ rfl | exact .fnp _ _ _ _ rfl | (apply BorIO.lend; first | exact lS rfl | exact lR rfl | exact lM rfl rfl | exact lL rfl | exact lX rfl | exact lN | exact lNl | exact lSm rfl | exact lIm rfl | exact lGm rfl | exact lP rfl | exact lQ rfl | exact lB rfl rfl rfl)))) rfl (by first | exact .inl rfl | exact .inr (fun b rs h => by first | obtain ⟨rfl, rfl⟩ := h | obtain ⟨_, _, _, rfl, rfl⟩ := h; exact ⟨by repeat (first | exact flats_nil | refine flats_cons (by first | exact flat_val _ rfl | exact flat_row (fun _ => rfl) | exact flat_lst (fun _ => rfl)) ?_), by repeat (first | exact flats0 | refine flats1 (by first | exact flatB_row (fun _ => rfl) | exact flatB_lst (fun _ => rfl) | exact flatB_smap (fun _ => rfl) | exact flatB_imap (fun _ => rfl) | exact flatB_cells rfl) ?_)⟩))) ?_
        rintro r ⟨b, rs, ⟨rfl, rfl⟩, rfl⟩
        refine ⟨tn_ge _ _, ?_⟩
        conv => whnf
        refine .raw _ _ rfl (fun h => by cases h) (callio_sem (sQ) [6] _ rfl rfl ⟨rfl, trivial⟩ (by repeat (first | exact .nil | (apply BorL.cons; first | exact .map _ _ rfl | exact .ptr _ _ _ rfl | exact .own _ _ rfl | exact .fnp _ _ _ _ rfl | (apply BorIO.lend; first | exact lS rfl | exact lR rfl | exact lM rfl rfl | exact lL rfl | exact lX rfl | exact lN | exact lNl | exact lSm rfl | exact lIm rfl | exact lGm rfl | exact lP rfl | exact lQ rfl | exact lB rfl rfl rfl)))) rfl (by first | exact .inl rfl | exact .inr (fun b rs h => by first | obtain ⟨rfl, rfl⟩ := h | obtain ⟨_, _, _, rfl, rfl⟩ := h; exact ⟨by repeat (first | exact flats_nil | refine flats_cons (by first | exact flat_val _ rfl | exact flat_row (fun _ => rfl) | exact flat_lst (fun _ => rfl)) ?_), by repeat (first | exact flats0 | refine flats1 (by first | exact flatB_row (fun _ => rfl) | exact flatB_lst (fun _ => rfl) | exact flatB_smap (fun _ => rfl) | exact flatB_imap (fun _ => rfl) | exact flatB_cells rfl) ?_)⟩))) ?_
        rintro r ⟨b, rs, ⟨rfl, rfl⟩, rfl⟩
        refine ⟨tn_ge _ _, ?_⟩
        conv => whnf
        rfl
  · have hk : okC a b fl = false := by
      unfold okC
      rw [hfl]
      rfl
    conv => whnf
    refine .one _ _ _ (fun _ => hva) (by repeat (first | exact .nil | (apply BorL.cons; first | exact lS rfl | exact lR rfl | exact lM rfl rfl | exact lL rfl | exact lX rfl | exact lN | exact lNl | exact lSm rfl | exact lIm rfl | exact lGm rfl | exact lP rfl | exact lQ rfl | exact lB rfl rfl rfl))) (by first | exact .inl rfl | exact .inr (by repeat (first | exact flats_nil | refine flats_cons (by first | exact flat_val _ rfl | exact flat_row (fun _ => rfl) | exact flat_lst (fun _ => rfl)) ?_))) (by first | exact .inr rfl | exact .inl rfl) ?_
    conv => whnf
    refine .one _ _ _ (fun _ => hvb) (by repeat (first | exact .nil | (apply BorL.cons; first | exact lS rfl | exact lR rfl | exact lM rfl rfl | exact lL rfl | exact lX rfl | exact lN | exact lNl | exact lSm rfl | exact lIm rfl | exact lGm rfl | exact lP rfl | exact lQ rfl | exact lB rfl rfl rfl))) (by first | exact .inl rfl | exact .inr (by repeat (first | exact flats_nil | refine flats_cons (by first | exact flat_val _ rfl | exact flat_row (fun _ => rfl) | exact flat_lst (fun _ => rfl)) ?_))) (by first | exact .inr rfl | exact .inl rfl) ?_
    conv => whnf
    refine ⟨fun _ => ?_, fun h => by simp at h⟩
    conv => whnf
    rw [if_neg (by rw [hk]; exact Bool.noConfusion)]
    rfl

end Go.Proofs.YtjlnaogechkjdaaDoor

namespace Go.Proofs.YtjlnaogechkjdaaDoor
open Go.Own
set_option maxHeartbeats 4000000
set_option maxRecDepth 100000

/-! ### The rings of signatures -/
structure Seal where
  key : Int
  text : List UInt8
deriving DecidableEq
def s0 : Seal := ⟨0, []⟩
structure Sgn where
  key : Int
  text : List UInt8
  mark : Int
deriving DecidableEq
def g0 : Sgn := ⟨0, [], 0⟩
def encSl (s : Seal) : AV := .agg [.int .i64 s.key, .str s.text]
def encSls (l : List Seal) : AV := .sl 2 encSl s0 l
def encSg (s : Sgn) : AV := .agg [.int .i64 s.key, .str s.text, .int .i64 s.mark]
def encSgs (l : List Sgn) : AV := .sl 3 encSg g0 l
def kv (s : Seal) : List KV := [.vI .i64 s.key, .vS s.text]
theorem kv_inj {s t : Seal} (h : kv s = kv t) : s = t := by
  cases s; cases t
  simp only [kv, List.cons.injEq, KV.vI.injEq, KV.vS.injEq] at h
  rw [h.1.2, h.2.1]
def shS : List KK := [.kI .i64, .kS]
def mkFrom : Nat → List Seal → List (List KV × Int)
  | _, [] => []
  | n, s :: l => (kv s, (n : Int)) :: mkFrom (n + 1) l
def marksM (l : List Seal) : List (List KV × Int) := mkFrom 0 l
def idxS (l : List Seal) (s : Seal) : Nat := l.findIdx (fun x => decide (x = s))
theorem idxS_cons (x : Seal) (l : List Seal) (s : Seal) : idxS (x :: l) s = if x = s then 0 else idxS l s + 1 := by
  unfold idxS
  rw [List.findIdx_cons]
  by_cases h : x = s <;> simp [h]
theorem mk_get : ∀ (l : List Seal) (n : Nat) (s : Seal), mget (mkFrom n l) (kv s) = if idxS l s < l.length then some ((n + idxS l s : Nat) : Int) else none
  | [], _, _ => rfl
  | x :: l, n, s => by
    rw [mkFrom, mget, idxS_cons, List.length_cons]
    by_cases h : x = s
    · subst h
      simp
    · rw [if_neg (fun e => h (kv_inj e)), if_neg h, mk_get l (n + 1) s]
      by_cases h2 : idxS l s < l.length
      · rw [if_pos h2, if_pos (by omega)]
        congr 2
        omega
      · rw [if_neg h2, if_neg (by omega)]
theorem marks_get (l : List Seal) (s : Seal) : mget (marksM l) (kv s) = if idxS l s < l.length then some (idxS l s : Int) else none := by
  unfold marksM
  rw [mk_get, Nat.zero_add]
theorem idxS_le (l : List Seal) (s : Seal) : idxS l s ≤ l.length := List.findIdx_le_length
theorem idxS_lt {l : List Seal} {s : Seal} : idxS l s < l.length ↔ s ∈ l := by
  unfold idxS
  rw [List.findIdx_lt_length]
  constructor
  · rintro ⟨x, hx, h⟩
    have : x = s := by simpa using h
    rw [← this]; exact hx
  · exact fun h => ⟨s, h, by simp⟩
theorem mk_snoc : ∀ (l : List Seal) (n : Nat) (s : Seal), mkFrom n (l ++ [s]) = mkFrom n l ++ [(kv s, ((n + l.length : Nat) : Int))]
  | [], _, _ => rfl
  | x :: l, n, s => by
    rw [List.cons_append, mkFrom, mk_snoc l (n + 1) s, mkFrom, List.cons_append, List.length_cons, show n + 1 + l.length = n + (l.length + 1) by omega]
theorem mset_none {K V : Type} [DecidableEq K] : ∀ {m : List (K × V)} {k : K} {x : V}, mget m k = none → mset m k x = m ++ [(k, x)]
  | [], _, _, _ => rfl
  | (a, v) :: m, k, x, h => by
    unfold mget at h
    split at h
    · cases h
    · rename_i hn
      rw [mset, if_neg hn, mset_none h, List.cons_append]
theorem marks_put {l : List Seal} {s : Seal} (h : ¬ idxS l s < l.length) : mset (marksM l) (kv s) (l.length : Int) = marksM (l ++ [s]) := by
  rw [mset_none (by rw [marks_get, if_neg h])]
  unfold marksM
  rw [mk_snoc, Nat.zero_add]
def keyB (k : Int) : Bool := decide (0 ≤ k) && decide (k < 200)
def signL (l : List Seal) (k : Int) (t : List UInt8) : List Seal := if keyB k = true then (if idxS l ⟨k, t⟩ < l.length then l else l ++ [⟨k, t⟩]) else l
def signV (l : List Seal) (k : Int) (t : List UInt8) : Sgn := if keyB k = true then ⟨k, t, (idxS l ⟨k, t⟩ : Nat)⟩ else ⟨0, [], 0⟩
def ringB (i j : Nat) : AB := .cells 77 [.own i, .map j]
def rowS (l : List Seal) : AB := .row 40 2 encSl s0 l
def mapS (l : List Seal) : AB := .gmap shS encI 0 (marksM l)
theorem key_ok (k : Int) : APureV Tryd.prog 35 [.int .i64 k] (.bool (keyB k)) := by
  refine apure_of (C := cx 9 [0, 2]) (cxOk _ _) Tryd.func35 rfl (by decide) rfl (by exact Nat.le_of_ble_eq_true rfl) (by decide) ?_
  conv => whnf
  rfl
theorem new_ok : RIO Tryd.prog 13 [] [] 0 (fun vs bs es => vs = [.ptr 0 0] ∧ bs = [] ∧ es = [ringB 2 1, mapS [], rowS []]) := by
  refine rio_of (C := cxP 0 4 [0]) (cxPOk _ _ _) Tryd.func13 rfl (by decide) rfl (by exact Nat.le_of_ble_eq_true rfl) (by decide) rfl rfl rfl ?_
  conv => whnf
  refine ⟨⟨[(0, .ptr 0 0)], [(0, .cells 77 [.own 2, .map 1]), (1, .gmap shS encI 0 (marksM [])), (2, .row 40 2 encSl s0 [])], 3⟩, (wk_of [(0, .id 1), (1, .id 0), (2, .nil)] rfl ⟨.base (.ptr _ _ _ rfl), trivial⟩ ⟨⟨_, rfl, .cells _ _ _ _ rfl (by repeat (first | exact .nil | refine .cons (by first | exact .base (.tree _ _ rfl rfl) | exact .base (.own _ _ rfl) | exact .base (.ptr _ _ _ rfl) | exact .base (.map _ _ rfl) | exact .base (.nilown _ rfl) | exact .fn _ _ _ _ _ .nil (by repeat (first | exact .nil | refine .cons (by exact .ptr _ _ _ rfl) ?_))) ?_)) rfl⟩, ⟨_, rfl, (by first | exact .gmap _ _ _ _ _ _ rfl rfl | exact .newgmap _ _ _ _ _ _ _ _ rfl rfl rfl)⟩, ⟨_, rfl, (by first | exact .row _ _ _ _ _ _ _ rfl rfl | exact .lstrow _ _ _ _ _ _ _ rfl rfl | exact .nilrow _ _ _ _ _ rfl | exact .truncrow _ _ _ _ _ _ _ _ rfl (by omega) rfl)⟩, trivial⟩), rfl, rfl, ?_⟩
  conv => whnf
  exact ⟨rfl, rfl, rfl, rfl⟩
theorem sign_ok (l : List Seal) (hl : l.length ≤ 1000000) (k : Int) (t : List UInt8) :
    RIO Tryd.prog 15 [.ptr 0 0, .int .i64 k, .str t] [ringB 2 1, mapS l, rowS l] 2 (fun vs bs es => vs = [encSg (signV l k t)] ∧ bs = [ringB 2 1, mapS (signL l k t)] ∧ es = [rowS (signL l k t)]) := by
  have hk := key_ok k
  refine rio_of (C := cxP 2 53 [0, 1, 2, 6, 7, 8, 9, 12, 27]) (cxPOk _ _ _) Tryd.func15 rfl (by decide) rfl (by exact Nat.le_of_ble_eq_true rfl) (by decide) rfl rfl rfl ?_
  conv => whnf
  refine .one _ _ _ (fun _ => hk) (by repeat (first | exact .nil | (apply BorL.cons; first | exact lS rfl | exact lR rfl | exact lM rfl rfl | exact lL rfl | exact lX rfl | exact lN | exact lNl | exact lSm rfl | exact lIm rfl | exact lGm rfl | exact lP rfl | exact lQ rfl | exact lB rfl rfl rfl))) (by first | exact .inl rfl | exact .inr (by repeat (first | exact flats_nil | refine flats_cons (by first | exact flat_val _ rfl | exact flat_row (fun _ => rfl) | exact flat_lst (fun _ => rfl)) ?_))) (by first | exact .inr rfl | exact .inl rfl) ?_
  conv => whnf
  refine ⟨fun hb => ?_, fun hb => ?_⟩
  · have hkb : ¬ keyB k = true := by simpa using hb
    rw [signV, signL, if_neg hkb, if_neg hkb]
    conv => whnf
    refine ⟨⟨[(6, .rop [.int .i64 (((⟨0, [], 0⟩ : Sgn))).key, .str (((⟨0, [], 0⟩ : Sgn))).text, .int .i64 (((⟨0, [], 0⟩ : Sgn))).mark])], [(0, .cells 77 [.own 2, .map 1]), (1, .gmap shS encI 0 (marksM l)), (2, .row 40 2 encSl s0 l)], 3⟩, (wk_frz [3]).trans (wk_of [(0, .id 0), (1, .id 1), (2, .id 2)] rfl ⟨.base (.tree _ _ rfl rfl), trivial⟩ ⟨⟨_, rfl, .cells _ _ _ _ rfl (by repeat (first | exact .nil | refine .cons (by first | exact .base (.tree _ _ rfl rfl) | exact .base (.own _ _ rfl) | exact .base (.ptr _ _ _ rfl) | exact .base (.map _ _ rfl) | exact .base (.nilown _ rfl) | exact .fn _ _ _ _ _ .nil (by repeat (first | exact .nil | refine .cons (by exact .ptr _ _ _ rfl) ?_))) ?_)) rfl⟩, ⟨_, rfl, (by first | exact .gmap _ _ _ _ _ _ rfl rfl | exact .newgmap _ _ _ _ _ _ _ _ rfl rfl rfl)⟩, ⟨_, rfl, (by first | exact .row _ _ _ _ _ _ _ rfl rfl | exact .lstrow _ _ _ _ _ _ _ rfl rfl | exact .nilrow _ _ _ _ _ rfl | exact .truncrow _ _ _ _ _ _ _ _ rfl (by omega) rfl)⟩, trivial⟩), rfl, rfl, ?_⟩
    conv => whnf
    exact ⟨rfl, rfl, rfl, rfl⟩
  · have hkb : keyB k = true := by simpa using hb
    rw [signV, signL, if_pos hkb, if_pos hkb]
    conv => whnf
    refine .eff (by first | exact cxOk _ _ | exact cxPOk _ _ _) ?_; conv => whnf
    rw [show [KV.vI .i64 k, KV.vS t] = kv ⟨k, t⟩ from rfl, marks_get]
    by_cases hi : idxS l ⟨k, t⟩ < l.length
    · rw [if_pos hi, if_pos hi]
      refine ⟨by kernel_rfl, rfl, ?_⟩
      conv => whnf
      refine ⟨by kernel_rfl, ?_⟩
      conv => whnf
      refine ⟨fun h => by simp at h, fun _ => ?_⟩
      conv => whnf
      refine ⟨⟨[(6, .rop [.int .i64 (((⟨k, t, ((idxS l ⟨k, t⟩ : Nat) : Int)⟩ : Sgn))).key, .str (((⟨k, t, ((idxS l ⟨k, t⟩ : Nat) : Int)⟩ : Sgn))).text, .int .i64 (((⟨k, t, ((idxS l ⟨k, t⟩ : Nat) : Int)⟩ : Sgn))).mark])], [(0, .cells 77 [.own 2, .map 1]), (1, .gmap shS encI 0 (marksM l)), (2, .row 40 2 encSl s0 l)], 3⟩, (wk_frz [3]).trans (wk_of [(0, .id 0), (1, .id 1), (2, .id 2)] rfl ⟨.base (.tree _ _ rfl rfl), trivial⟩ ⟨⟨_, rfl, .cells _ _ _ _ rfl (by repeat (first | exact .nil | refine .cons (by first | exact .base (.tree _ _ rfl rfl) | exact .base (.own _ _ rfl) | exact .base (.ptr _ _ _ rfl) | exact .base (.map _ _ rfl) | exact .base (.nilown _ rfl) | exact .fn _ _ _ _ _ .nil (by repeat (first | exact .nil | refine .cons (by exact .ptr _ _ _ rfl) ?_))) ?_)) rfl⟩, ⟨_, rfl, (by first | exact .gmap _ _ _ _ _ _ rfl rfl | exact .newgmap _ _ _ _ _ _ _ _ rfl rfl rfl)⟩, ⟨_, rfl, (by first | exact .row _ _ _ _ _ _ _ rfl rfl | exact .lstrow _ _ _ _ _ _ _ rfl rfl | exact .nilrow _ _ _ _ _ rfl | exact .truncrow _ _ _ _ _ _ _ _ rfl (by omega) rfl)⟩, trivial⟩), rfl, rfl, ?_⟩
      conv => whnf
      exact ⟨rfl, rfl, rfl, rfl⟩
    · have hix : idxS l ⟨k, t⟩ = l.length := by have := idxS_le l ⟨k, t⟩; omega
      rw [if_neg hi, if_neg hi, hix]
      refine ⟨by kernel_rfl, rfl, ?_⟩
      conv => whnf
      refine ⟨by kernel_rfl, ?_⟩
      conv => whnf
      refine And.intro (fun _ => ?_) (fun h => absurd h (by decide)); conv => whnf
      refine .eff (by first | exact cxOk _ _ | exact cxPOk _ _ _) ?_; conv => whnf
      refine And.intro rfl ?_; conv => whnf
      refine And.intro ⟨rfl, rfl⟩ (And.intro (show (l.length + 1) * 24 ≤ 140737488355328 by omega) ?_)
      conv => whnf
      refine ⟨⟨k, t⟩, rfl, ?_⟩
      conv => whnf
      refine ⟨by kernel_rfl, ?_⟩
      conv => whnf
      refine .eff (by first | exact cxOk _ _ | exact cxPOk _ _ _) ?_; conv => whnf
      refine ⟨by kernel_rfl, _, rfl, ?_⟩
      conv => whnf
      refine ⟨by kernel_rfl, ?_⟩
      conv => whnf
      refine ⟨⟨[(6, .rop [.int .i64 (((⟨k, t, ((l.length : Nat) : Int)⟩ : Sgn))).key, .str (((⟨k, t, ((l.length : Nat) : Int)⟩ : Sgn))).text, .int .i64 (((⟨k, t, ((l.length : Nat) : Int)⟩ : Sgn))).mark])], [(0, .cells 77 [.own 2, .map 1]), (1, .gmap shS encI 0 (marksM (l ++ [⟨k, t⟩]))), (2, .row 40 2 encSl s0 (l ++ [⟨k, t⟩]))], 3⟩, (wk_frz [3]).trans (wk_of [(0, .id 0), (1, .id 1), (2, .id 6)] rfl ⟨.base (.tree _ _ rfl rfl), trivial⟩ ⟨⟨_, rfl, .cells _ _ _ _ rfl (by repeat (first | exact .nil | refine .cons (by first | exact .base (.tree _ _ rfl rfl) | exact .base (.own _ _ rfl) | exact .base (.ptr _ _ _ rfl) | exact .base (.map _ _ rfl) | exact .base (.nilown _ rfl) | exact .fn _ _ _ _ _ .nil (by repeat (first | exact .nil | refine .cons (by exact .ptr _ _ _ rfl) ?_))) ?_)) rfl⟩, ⟨_, rfl, (by first | exact .gmap _ _ _ _ _ _ rfl (marks_put hi) | exact .newgmap _ _ _ _ _ _ _ _ rfl rfl (marks_put hi))⟩, ⟨_, rfl, (by first | exact .row _ _ _ _ _ _ _ rfl rfl | exact .lstrow _ _ _ _ _ _ _ rfl rfl | exact .nilrow _ _ _ _ _ rfl | exact .truncrow _ _ _ _ _ _ _ _ rfl (by omega) rfl)⟩, trivial⟩), rfl, rfl, ?_⟩
      conv => whnf
      exact ⟨rfl, rfl, rfl, rfl⟩

end Go.Proofs.YtjlnaogechkjdaaDoor

namespace Go.Proofs.YtjlnaogechkjdaaDoor
open Go.Own
set_option maxHeartbeats 4000000
set_option maxRecDepth 100000

/-! ### Signatures: Valid, the reference's ring -/
def sgB (l : List Seal) (s : Sgn) : Bool := decide (idxS l ⟨s.key, s.text⟩ < l.length) && decide ((idxS l ⟨s.key, s.text⟩ : Int) = s.mark)
def ringV (l : List Seal) : AV := .rop [encSls l, .rgmap shS encI 0 (marksM l)]
theorem sgv_ok (l : List Seal) (s : Sgn) : APureV Tryd.prog 38 [ringV l, encSg s] (.bool (sgB l s)) := by
  unfold sgB ringV
  refine apure_of (C := cx 27 [0, 1, 3, 4, 5, 6]) (cxOk _ _) Tryd.func38 rfl (by decide) rfl (by exact Nat.le_of_ble_eq_true rfl) (by decide) ?_
  conv => whnf
  refine .quiet (by kernel_rfl) ?_; conv => whnf
  rw [show [KV.vI .i64 s.key, KV.vS s.text] = kv ⟨s.key, s.text⟩ from rfl, marks_get]
  by_cases hi : idxS l ⟨s.key, s.text⟩ < l.length
  · rw [if_pos hi]
    refine ⟨by kernel_rfl, rfl, ?_⟩
    conv => whnf
    rw [decide_eq_true hi]
    rfl
  · rw [if_neg hi]
    refine ⟨by kernel_rfl, rfl, ?_⟩
    conv => whnf
    rw [decide_eq_false hi]
    rfl
def posS (l : List Seal) (k : Int) (t : List UInt8) : Int := if idxS l ⟨k, t⟩ < l.length then (idxS l ⟨k, t⟩ : Int) else -1
theorem find_ok' (l : List Seal) (hl : l.length ≤ 1000000) (k : Int) (t : List UInt8) : APureV Tryd.prog 36 [.rop [encSls l], .int .i64 k, .str t] (.int .i64 (posS l k t)) := by
  refine apure_of (C := cx 40 [0, 1, 2, 6, 7, 14, 38]) (cxOk _ _) Tryd.func36 rfl (by decide) rfl (by exact Nat.le_of_ble_eq_true rfl) (by decide) ?_
  conv => whnf
  refine loop_up (cxOk _ _) l.length (fun i => ∀ x ∈ l.take i, x ≠ ⟨k, t⟩) (fun i => ⟨[(0, .rop [encSls l]), (1, .int .i64 k), (2, .str t), (7, .int .i64 (i : Nat))], [], 0⟩) (by simp) ((wk_of [] rfl ⟨.base (.tree _ _ rfl rfl), .base (.tree _ _ rfl rfl), .base (.tree _ _ rfl rfl), .base (.tree _ _ rfl rfl), trivial⟩ trivial)) ?_
  intro i hi hP
  conv => whnf
  refine ⟨fun hc => ?_, fun hc => ?_⟩
  · simp only [decide_eq_true_eq] at hc
    have hlt : i < l.length := by omega
    have hck : l.getD (i : Int).toNat s0 = l.getD i s0 := by rw [Int.toNat_natCast]
    have hge : i ≤ idxS l ⟨k, t⟩ := by
      refine Nat.le_of_not_lt fun h => ?_
      have h2 : idxS l ⟨k, t⟩ < l.length := by omega
      have := List.findIdx_getElem (xs := l) (p := fun x : Seal => decide (x = ⟨k, t⟩)) (w := h2)
      have hx : l[idxS l ⟨k, t⟩] = ⟨k, t⟩ := of_decide_eq_true this
      exact hP _ (by rw [List.mem_take_iff_getElem]; exact ⟨idxS l ⟨k, t⟩, by omega, rfl⟩) hx
    conv => whnf
    refine And.intro ⟨by omega, by omega⟩ ?_; conv => whnf
    refine And.intro rfl ?_; conv => whnf
    refine And.intro (by omega) (And.intro rfl ?_); conv => whnf
    rw [hck]
    refine ⟨fun hd => ?_, fun hd => ?_⟩
    · have hx : l.getD i s0 = ⟨k, t⟩ := by
        simp only [Bool.and_eq_true, decide_eq_true_eq] at hd
        generalize l.getD i s0 = x at hd
        obtain ⟨a, b⟩ := x
        simp only at hd
        rw [hd.1, hd.2]
      have hidx : idxS l ⟨k, t⟩ = i := by
        refine Nat.le_antisymm ?_ hge
        refine Nat.le_of_not_lt fun h => ?_
        have := List.not_of_lt_findIdx (xs := l) (p := fun x : Seal => decide (x = ⟨k, t⟩)) h
        have e : l[i] = l.getD i s0 := by simp [List.getD, List.getElem?_eq_getElem hlt]
        rw [e, hx] at this
        simp at this
      conv => whnf
      unfold posS
      rw [if_pos (by omega), hidx]
      rfl
    · have hx : l.getD i s0 ≠ ⟨k, t⟩ := by
        intro e
        rw [e] at hd
        simp at hd
      conv => whnf
      refine And.intro ⟨by omega, by omega⟩ ?_; conv => whnf
      refine up hlt (fun x hx' => ?_) ((wk_of [] rfl ⟨.base (.tree _ _ rfl rfl), .base (.tree _ _ rfl rfl), .base (.tree _ _ rfl rfl), .base (.tree _ _ rfl rfl), trivial⟩ trivial))
      rw [take_getD (d := s0) hlt, List.mem_append, List.mem_singleton] at hx'
      rcases hx' with h | h
      · exact hP x h
      · rw [h]; exact hx
  · simp only [decide_eq_false_iff_not] at hc
    obtain rfl : i = l.length := by omega
    rw [List.take_of_length_le (Nat.le_refl _)] at hP
    have : ¬ idxS l ⟨k, t⟩ < l.length := fun h => hP _ (idxS_lt.1 h) rfl
    conv => whnf
    unfold posS
    rw [if_neg this]
    rfl
def qringB (i : Nat) : AB := .cells 79 [.own i]
theorem lendQ {H : Heap} {i j : Nat} {l : List Seal} (h1 : lkH H i = qringB j) (h2 : lkH H j = rowS l) : Lend H (.ptr i 0) (.rop [encSls l]) [i, j] :=
  .box i 0 79 [.own j] [encSls l] [j] h1 (BorL.cons (t := [j]) (t' := []) (Bor1.base (Bor.row j 40 2 encSl s0 l h2)) BorL.nil) (by intro a ha; rw [List.mem_singleton] at ha; rw [ha]; rfl)
theorem lendR {H : Heap} {i j k : Nat} {l : List Seal} (h1 : lkH H i = ringB k j) (h2 : lkH H k = rowS l) (h3 : lkH H j = mapS l) : Lend H (.ptr i 0) (ringV l) [i, k, j] :=
  .box i 0 77 [.own k, .map j] [encSls l, .rgmap shS encI 0 (marksM l)] [k, j] h1 (BorL.cons (t := [k]) (t' := [j]) (Bor1.base (Bor.row k 40 2 encSl s0 l h2)) (BorL.cons (t := [j]) (t' := []) (Bor1.base (Bor.gmap j shS encI 0 (marksM l) h3)) BorL.nil)) (by
    intro a ha
    simp only [List.mem_cons, List.not_mem_nil, or_false] at ha
    rcases ha with rfl | rfl <;> rfl)
theorem qnew_ok : RIO Tryd.prog 14 [] [] 0 (fun vs bs es => vs = [.ptr 0 0] ∧ bs = [] ∧ es = [qringB 1, rowS []]) := by
  refine rio_of (C := cxP 0 3 [0]) (cxPOk _ _ _) Tryd.func14 rfl (by decide) rfl (by exact Nat.le_of_ble_eq_true rfl) (by decide) rfl rfl rfl ?_
  conv => whnf
  refine ⟨⟨[(0, .ptr 0 0)], [(0, .cells 79 [.own 1]), (1, .row 40 2 encSl s0 [])], 2⟩, (wk_of [(0, .id 0), (1, .nil)] rfl ⟨.base (.ptr _ _ _ rfl), trivial⟩ ⟨⟨_, rfl, .cells _ _ _ _ rfl (by repeat (first | exact .nil | refine .cons (by first | exact .base (.tree _ _ rfl rfl) | exact .base (.own _ _ rfl) | exact .base (.ptr _ _ _ rfl) | exact .base (.map _ _ rfl) | exact .base (.nilown _ rfl) | exact .fn _ _ _ _ _ .nil (by repeat (first | exact .nil | refine .cons (by exact .ptr _ _ _ rfl) ?_))) ?_)) rfl⟩, ⟨_, rfl, (by first | exact .row _ _ _ _ _ _ _ rfl rfl | exact .lstrow _ _ _ _ _ _ _ rfl rfl | exact .nilrow _ _ _ _ _ rfl | exact .truncrow _ _ _ _ _ _ _ _ rfl (by omega) rfl)⟩, trivial⟩), rfl, rfl, ?_⟩
  conv => whnf
  exact ⟨rfl, rfl, rfl, rfl⟩
theorem qsign_ok (l : List Seal) (hl : l.length ≤ 1000000) (k : Int) (t : List UInt8) :
    RIO Tryd.prog 16 [.ptr 0 0, .int .i64 k, .str t] [qringB 1, rowS l] 1 (fun vs bs es => vs = [encSg (signV l k t)] ∧ bs = [qringB 1] ∧ es = [rowS (signL l k t)]) := by
  have hf := find_ok' l hl k t
  refine rio_of (C := cxP 1 42 [0, 1, 2, 6, 7, 13, 20]) (cxPOk _ _ _) Tryd.func16 rfl (by decide) rfl (by exact Nat.le_of_ble_eq_true rfl) (by decide) rfl rfl rfl ?_
  conv => whnf
  refine ⟨fun hb => ?_, fun hb => ?_⟩
  · have hkb : ¬ keyB k = true := by
      unfold keyB
      simp only [Bool.or_eq_true, Bool.and_eq_true, decide_eq_true_eq] at hb ⊢
      omega
    rw [signV, signL, if_neg hkb, if_neg hkb]
    conv => whnf
    refine ⟨⟨[(6, .rop [.int .i64 (((⟨0, [], 0⟩ : Sgn))).key, .str (((⟨0, [], 0⟩ : Sgn))).text, .int .i64 (((⟨0, [], 0⟩ : Sgn))).mark])], [(0, .cells 79 [.own 1]), (1, .row 40 2 encSl s0 l)], 2⟩, (wk_frz [2]).trans (wk_of [(0, .id 0), (1, .id 1)] rfl ⟨.base (.tree _ _ rfl rfl), trivial⟩ ⟨⟨_, rfl, .cells _ _ _ _ rfl (by repeat (first | exact .nil | refine .cons (by first | exact .base (.tree _ _ rfl rfl) | exact .base (.own _ _ rfl) | exact .base (.ptr _ _ _ rfl) | exact .base (.map _ _ rfl) | exact .base (.nilown _ rfl) | exact .fn _ _ _ _ _ .nil (by repeat (first | exact .nil | refine .cons (by exact .ptr _ _ _ rfl) ?_))) ?_)) rfl⟩, ⟨_, rfl, (by first | exact .row _ _ _ _ _ _ _ rfl rfl | exact .lstrow _ _ _ _ _ _ _ rfl rfl | exact .nilrow _ _ _ _ _ rfl | exact .truncrow _ _ _ _ _ _ _ _ rfl (by omega) rfl)⟩, trivial⟩), rfl, rfl, ?_⟩
    conv => whnf
    exact ⟨rfl, rfl, rfl, rfl⟩
  · have hkb : keyB k = true := by
      unfold keyB
      simp only [Bool.or_eq_false_iff, Bool.and_eq_true, decide_eq_true_eq, decide_eq_false_iff_not] at hb ⊢
      omega
    rw [signV, signL, if_pos hkb, if_pos hkb]
    conv => whnf
    refine .one _ _ _ (fun _ => hf) (BorL.cons (lendQ (j := 1) rfl rfl) (by repeat (first | exact .nil | (apply BorL.cons; first | exact lS rfl | exact lR rfl | exact lM rfl rfl | exact lL rfl | exact lX rfl | exact lN | exact lNl | exact lSm rfl | exact lIm rfl | exact lGm rfl | exact lP rfl | exact lQ rfl | exact lB rfl rfl rfl)))) (by first | exact .inl rfl | exact .inr (by repeat (first | exact flats_nil | refine flats_cons (by first | exact flat_val _ rfl | exact flat_row (fun _ => rfl) | exact flat_lst (fun _ => rfl)) ?_))) (by first | exact .inr rfl | exact .inl rfl) ?_
    conv => whnf
    by_cases hi : idxS l ⟨k, t⟩ < l.length
    · rw [show posS l k t = (idxS l ⟨k, t⟩ : Int) from if_pos hi, if_pos hi]
      refine ⟨fun hd => ?_, fun hd => ?_⟩
      · simp only [decide_eq_true_eq] at hd
        omega
      · conv => whnf
        refine ⟨⟨[(6, .rop [.int .i64 (((⟨k, t, ((idxS l ⟨k, t⟩ : Nat) : Int)⟩ : Sgn))).key, .str (((⟨k, t, ((idxS l ⟨k, t⟩ : Nat) : Int)⟩ : Sgn))).text, .int .i64 (((⟨k, t, ((idxS l ⟨k, t⟩ : Nat) : Int)⟩ : Sgn))).mark])], [(0, .cells 79 [.own 1]), (1, .row 40 2 encSl s0 l)], 2⟩, (wk_frz [2]).trans (wk_of [(0, .id 0), (1, .id 1)] rfl ⟨.base (.tree _ _ rfl rfl), trivial⟩ ⟨⟨_, rfl, .cells _ _ _ _ rfl (by repeat (first | exact .nil | refine .cons (by first | exact .base (.tree _ _ rfl rfl) | exact .base (.own _ _ rfl) | exact .base (.ptr _ _ _ rfl) | exact .base (.map _ _ rfl) | exact .base (.nilown _ rfl) | exact .fn _ _ _ _ _ .nil (by repeat (first | exact .nil | refine .cons (by exact .ptr _ _ _ rfl) ?_))) ?_)) rfl⟩, ⟨_, rfl, (by first | exact .row _ _ _ _ _ _ _ rfl rfl | exact .lstrow _ _ _ _ _ _ _ rfl rfl | exact .nilrow _ _ _ _ _ rfl | exact .truncrow _ _ _ _ _ _ _ _ rfl (by omega) rfl)⟩, trivial⟩), rfl, rfl, ?_⟩
        conv => whnf
        exact ⟨rfl, rfl, rfl, rfl⟩
    · have hix : idxS l ⟨k, t⟩ = l.length := by have := idxS_le l ⟨k, t⟩; omega
      rw [show posS l k t = -1 from if_neg hi, if_neg hi, hix]
      refine ⟨fun hd => ?_, fun hd => ?_⟩
      · conv => whnf
        refine And.intro rfl ?_; conv => whnf
        refine And.intro ⟨rfl, rfl⟩ (And.intro (show (l.length + 1) * 24 ≤ 140737488355328 by omega) ?_)
        conv => whnf
        refine ⟨⟨k, t⟩, rfl, ?_⟩
        conv => whnf
        refine ⟨⟨[(6, .rop [.int .i64 (((⟨k, t, ((l.length : Nat) : Int)⟩ : Sgn))).key, .str (((⟨k, t, ((l.length : Nat) : Int)⟩ : Sgn))).text, .int .i64 (((⟨k, t, ((l.length : Nat) : Int)⟩ : Sgn))).mark])], [(0, .cells 79 [.own 1]), (1, .row 40 2 encSl s0 (l ++ [⟨k, t⟩]))], 2⟩, (wk_frz [2]).trans (wk_of [(0, .id 0), (1, .id 4)] rfl ⟨.base (.tree _ _ rfl rfl), trivial⟩ ⟨⟨_, rfl, .cells _ _ _ _ rfl (by repeat (first | exact .nil | refine .cons (by first | exact .base (.tree _ _ rfl rfl) | exact .base (.own _ _ rfl) | exact .base (.ptr _ _ _ rfl) | exact .base (.map _ _ rfl) | exact .base (.nilown _ rfl) | exact .fn _ _ _ _ _ .nil (by repeat (first | exact .nil | refine .cons (by exact .ptr _ _ _ rfl) ?_))) ?_)) rfl⟩, ⟨_, rfl, (by first | exact .row _ _ _ _ _ _ _ rfl rfl | exact .lstrow _ _ _ _ _ _ _ rfl rfl | exact .nilrow _ _ _ _ _ rfl | exact .truncrow _ _ _ _ _ _ _ _ rfl (by omega) rfl)⟩, trivial⟩), rfl, rfl, ?_⟩
        conv => whnf
        exact ⟨rfl, rfl, rfl, rfl⟩
      · simp at hd
def qsgB (l : List Seal) (s : Sgn) : Bool := ((decide (0 ≤ s.mark) && decide (s.mark < l.length)) && decide ((l.getD s.mark.toNat s0).key = s.key)) && decide ((l.getD s.mark.toNat s0).text = s.text)
theorem qsgv_ok (l : List Seal) (s : Sgn) : APureV Tryd.prog 39 [.rop [encSls l], encSg s] (.bool (qsgB l s)) := by
  unfold qsgB
  refine apure_of (C := cx 46 [0, 1, 3, 4]) (cxOk _ _) Tryd.func39 rfl (by decide) rfl (by exact Nat.le_of_ble_eq_true rfl) (by decide) ?_
  conv => whnf
  refine .quiet (by kernel_rfl) ?_; conv => whnf
  refine ⟨fun h => ?_, rfl, ?_⟩
  · have h2 : (decide (0 ≤ s.mark) && decide (s.mark < (l.length : Int))) = true := h
    simpa using h2
  conv => whnf
  refine ⟨fun h => ?_, rfl, ?_⟩
  · have h2 : ((decide (0 ≤ s.mark) && decide (s.mark < (l.length : Int))) && decide ((l.getD s.mark.toNat s0).key = s.key)) = true := h
    simp only [Bool.and_eq_true, decide_eq_true_eq] at h2
    exact h2.1
  conv => whnf
  rfl
theorem sg_one {l : List Seal} (hn : l.Nodup) (s : Sgn) : sgB l s = qsgB l s := by
  rw [Bool.eq_iff_iff]
  unfold sgB qsgB
  simp only [Bool.and_eq_true, decide_eq_true_eq]
  constructor
  · rintro ⟨h1, h2⟩
    have e : l.getD s.mark.toNat s0 = ⟨s.key, s.text⟩ := by
      have := List.findIdx_getElem (xs := l) (p := fun x : Seal => decide (x = ⟨s.key, s.text⟩)) (w := h1)
      have hx : l[idxS l ⟨s.key, s.text⟩] = ⟨s.key, s.text⟩ := of_decide_eq_true this
      have : s.mark.toNat = idxS l ⟨s.key, s.text⟩ := by omega
      rw [this, List.getD, List.getElem?_eq_getElem h1, hx]
      rfl
    rw [e]
    exact ⟨⟨⟨by omega, by omega⟩, rfl⟩, rfl⟩
  · rintro ⟨⟨⟨h1, h2⟩, h3⟩, h4⟩
    have hlt : s.mark.toNat < l.length := by omega
    have e : l[s.mark.toNat] = ⟨s.key, s.text⟩ := by
      have h : l.getD s.mark.toNat s0 = l[s.mark.toNat] := by simp [List.getD, List.getElem?_eq_getElem hlt]
      rw [h] at h3 h4
      revert h3 h4
      generalize l[s.mark.toNat] = x
      intro h3 h4
      cases x
      simp only at h3 h4
      rw [h3, h4]
    have hm : idxS l ⟨s.key, s.text⟩ < l.length := idxS_lt.2 (by rw [← e]; exact List.getElem_mem hlt)
    have hx : l[idxS l ⟨s.key, s.text⟩] = ⟨s.key, s.text⟩ := by
      have := List.findIdx_getElem (xs := l) (p := fun x : Seal => decide (x = ⟨s.key, s.text⟩)) (w := hm)
      exact of_decide_eq_true this
    have : idxS l ⟨s.key, s.text⟩ = s.mark.toNat := (List.getElem_inj hn).1 (hx.trans e.symm)
    exact ⟨hm, by omega⟩
def convR (v : List Seal → Sgn → Bool) (l : List Seal) (s t : Sgn) : Int :=
  if (!v l s || !v l t) = true then 25 else if s.key ≠ t.key then 18 else if readC s.text ≠ 0 ∨ readC t.text ≠ 0 then 2 else if (readE s.text).id ≠ (readE t.text).id then 4 else if readE s.text = readE t.text then 5 else 0
theorem convict_ok (l : List Seal) (s t : Sgn) (hs : s.text.length ≤ 9223372036854775000) (ht : t.text.length ≤ 9223372036854775000) : APureV Tryd.prog 17 [ringV l, encSg s, encSg t] (.int .i64 (convR sgB l s t)) := by
  have r1 := read_ok s.text hs
  have r2 := read_ok t.text ht
  have v1 := sgv_ok l s
  have v2 := sgv_ok l t
  unfold ringV at *
  refine apure_of (C := cx 57 [0, 1, 2, 4, 5, 6, 7, 8, 9, 10, 23, 34, 40, 47, 53]) (cxOk _ _) Tryd.func17 rfl (by decide) rfl (by exact Nat.le_of_ble_eq_true rfl) (by decide) ?_
  conv => whnf
  refine .one _ _ _ (fun _ => r1) (by repeat (first | exact .nil | (apply BorL.cons; first | exact lS rfl | exact lR rfl | exact lM rfl rfl | exact lL rfl | exact lX rfl | exact lN | exact lNl | exact lSm rfl | exact lIm rfl | exact lGm rfl | exact lP rfl | exact lQ rfl | exact lB rfl rfl rfl))) (by first | exact .inl rfl | exact .inr (by repeat (first | exact flats_nil | refine flats_cons (by first | exact flat_val _ rfl | exact flat_row (fun _ => rfl) | exact flat_lst (fun _ => rfl)) ?_))) (by first | exact .inr rfl | exact .inl rfl) ?_
  conv => whnf
  refine .one _ _ _ (fun _ => r2) (by repeat (first | exact .nil | (apply BorL.cons; first | exact lS rfl | exact lR rfl | exact lM rfl rfl | exact lL rfl | exact lX rfl | exact lN | exact lNl | exact lSm rfl | exact lIm rfl | exact lGm rfl | exact lP rfl | exact lQ rfl | exact lB rfl rfl rfl))) (by first | exact .inl rfl | exact .inr (by repeat (first | exact flats_nil | refine flats_cons (by first | exact flat_val _ rfl | exact flat_row (fun _ => rfl) | exact flat_lst (fun _ => rfl)) ?_))) (by first | exact .inr rfl | exact .inl rfl) ?_
  conv => whnf
  refine .one _ _ _ (fun _ => v1) (by repeat (first | exact .nil | (apply BorL.cons; first | exact lS rfl | exact lR rfl | exact lM rfl rfl | exact lL rfl | exact lX rfl | exact lN | exact lNl | exact lSm rfl | exact lIm rfl | exact lGm rfl | exact lP rfl | exact lQ rfl | exact lB rfl rfl rfl))) (by first | exact .inl rfl | exact .inr (by repeat (first | exact flats_nil | refine flats_cons (by first | exact flat_val _ rfl | exact flat_row (fun _ => rfl) | exact flat_lst (fun _ => rfl)) ?_))) (by first | exact .inr rfl | exact .inl rfl) ?_
  conv => whnf
  refine .one _ _ _ (fun _ => v2) (by repeat (first | exact .nil | (apply BorL.cons; first | exact lS rfl | exact lR rfl | exact lM rfl rfl | exact lL rfl | exact lX rfl | exact lN | exact lNl | exact lSm rfl | exact lIm rfl | exact lGm rfl | exact lP rfl | exact lQ rfl | exact lB rfl rfl rfl))) (by first | exact .inl rfl | exact .inr (by repeat (first | exact flats_nil | refine flats_cons (by first | exact flat_val _ rfl | exact flat_row (fun _ => rfl) | exact flat_lst (fun _ => rfl)) ?_))) (by first | exact .inr rfl | exact .inl rfl) ?_
  conv => whnf
  unfold convR
  refine ⟨fun h1 => ?_, fun h1 => ?_⟩
  · rw [if_pos h1]
    conv => whnf
    rfl
  rw [if_neg (by rw [h1]; exact Bool.noConfusion)]
  conv => whnf
  refine ⟨fun h2 => ?_, fun h2 => ?_⟩
  · rw [if_pos (by simpa using h2)]
    conv => whnf
    rfl
  rw [if_neg (by simpa using h2)]
  conv => whnf
  refine ⟨fun h3 => ?_, fun h3 => ?_⟩
  · rw [if_pos (by simpa using h3)]
    conv => whnf
    rfl
  rw [if_neg (by simpa using h3)]
  conv => whnf
  refine ⟨fun h4 => ?_, fun h4 => ?_⟩
  · rw [if_pos (by simpa using h4)]
    conv => whnf
    rfl
  rw [if_neg (by simpa using h4)]
  conv => whnf
  refine ⟨⟨by kernel_rfl, by kernel_rfl⟩, ?_⟩
  conv => whnf

  refine ⟨fun h5 => ?_, fun h5 => ?_⟩
  · rw [if_pos (eqE_iff.1 h5)]
    conv => whnf
    rfl
  · rw [if_neg (fun h => by have h6 : eqE (readE s.text) (readE t.text) = false := h5; rw [eqE_iff.2 h] at h6; cases h6)]
    conv => whnf
    rfl
theorem qconvict_ok (l : List Seal) (s t : Sgn) (hs : s.text.length ≤ 9223372036854775000) (ht : t.text.length ≤ 9223372036854775000) : APureV Tryd.prog 18 [.rop [encSls l], encSg s, encSg t] (.int .i64 (convR qsgB l s t)) := by
  have r1 := qread_ok s.text hs
  have r2 := qread_ok t.text ht
  have v1 := qsgv_ok l s
  have v2 := qsgv_ok l t
  refine apure_of (C := cx 52 [0, 1, 2, 4, 5, 6, 7, 8, 9, 10, 20, 25, 43, 48, 51]) (cxOk _ _) Tryd.func18 rfl (by decide) rfl (by exact Nat.le_of_ble_eq_true rfl) (by decide) ?_
  conv => whnf
  refine .one _ _ _ (fun _ => v1) (by repeat (first | exact .nil | (apply BorL.cons; first | exact lS rfl | exact lR rfl | exact lM rfl rfl | exact lL rfl | exact lX rfl | exact lN | exact lNl | exact lSm rfl | exact lIm rfl | exact lGm rfl | exact lP rfl | exact lQ rfl | exact lB rfl rfl rfl))) (by first | exact .inl rfl | exact .inr (by repeat (first | exact flats_nil | refine flats_cons (by first | exact flat_val _ rfl | exact flat_row (fun _ => rfl) | exact flat_lst (fun _ => rfl)) ?_))) (by first | exact .inr rfl | exact .inl rfl) ?_
  conv => whnf
  refine .one _ _ _ (fun _ => v2) (by repeat (first | exact .nil | (apply BorL.cons; first | exact lS rfl | exact lR rfl | exact lM rfl rfl | exact lL rfl | exact lX rfl | exact lN | exact lNl | exact lSm rfl | exact lIm rfl | exact lGm rfl | exact lP rfl | exact lQ rfl | exact lB rfl rfl rfl))) (by first | exact .inl rfl | exact .inr (by repeat (first | exact flats_nil | refine flats_cons (by first | exact flat_val _ rfl | exact flat_row (fun _ => rfl) | exact flat_lst (fun _ => rfl)) ?_))) (by first | exact .inr rfl | exact .inl rfl) ?_
  conv => whnf
  unfold convR
  refine ⟨fun h1 => ?_, fun h1 => ?_⟩
  · rw [if_pos h1]
    conv => whnf
    rfl
  rw [if_neg (by rw [h1]; exact Bool.noConfusion)]
  conv => whnf
  refine ⟨fun h2 => ?_, fun h2 => ?_⟩
  · rw [if_pos (by simpa using h2)]
    conv => whnf
    rfl
  rw [if_neg (by simpa using h2)]
  conv => whnf
  refine .one _ _ _ (fun _ => r1) (by repeat (first | exact .nil | (apply BorL.cons; first | exact lS rfl | exact lR rfl | exact lM rfl rfl | exact lL rfl | exact lX rfl | exact lN | exact lNl | exact lSm rfl | exact lIm rfl | exact lGm rfl | exact lP rfl | exact lQ rfl | exact lB rfl rfl rfl))) (by first | exact .inl rfl | exact .inr (by repeat (first | exact flats_nil | refine flats_cons (by first | exact flat_val _ rfl | exact flat_row (fun _ => rfl) | exact flat_lst (fun _ => rfl)) ?_))) (by first | exact .inr rfl | exact .inl rfl) ?_
  conv => whnf
  refine .one _ _ _ (fun _ => r2) (by repeat (first | exact .nil | (apply BorL.cons; first | exact lS rfl | exact lR rfl | exact lM rfl rfl | exact lL rfl | exact lX rfl | exact lN | exact lNl | exact lSm rfl | exact lIm rfl | exact lGm rfl | exact lP rfl | exact lQ rfl | exact lB rfl rfl rfl))) (by first | exact .inl rfl | exact .inr (by repeat (first | exact flats_nil | refine flats_cons (by first | exact flat_val _ rfl | exact flat_row (fun _ => rfl) | exact flat_lst (fun _ => rfl)) ?_))) (by first | exact .inr rfl | exact .inl rfl) ?_
  conv => whnf
  refine ⟨fun h3 => ?_, fun h3 => ?_⟩
  · rw [if_pos (by simpa using h3)]
    conv => whnf
    rfl
  rw [if_neg (by simpa using h3)]
  conv => whnf
  refine ⟨fun h4 => ?_, fun h4 => ?_⟩
  · rw [if_pos (by simpa using h4)]
    conv => whnf
    rfl
  rw [if_neg (by simpa using h4)]
  conv => whnf
  refine ⟨⟨by kernel_rfl, by kernel_rfl⟩, ?_⟩
  conv => whnf

  refine ⟨fun h5 => ?_, fun h5 => ?_⟩
  · rw [if_pos (eqE_iff.1 h5)]
    conv => whnf
    rfl
  · rw [if_neg (fun h => by have h6 : eqE (readE s.text) (readE t.text) = false := h5; rw [eqE_iff.2 h] at h6; cases h6)]
    conv => whnf
    rfl

end Go.Proofs.YtjlnaogechkjdaaDoor

namespace Go.Proofs.YtjlnaogechkjdaaDoor
open Go.Own
set_option maxHeartbeats 4000000
set_option maxRecDepth 100000

/-! ### The reference's small functions -/
def few45 (a b : List Ent) (fl : List Msg) (n : Int) : Bool := (decide ((a.length : Int) ≤ n) && decide ((b.length : Int) ≤ n)) && decide ((fl.length : Int) ≤ 20)
theorem few45_ok (a b : List Ent) (fl : List Msg) (n : Int) : APureV Tryd.prog 8 [encEs a, encEs b, encMs fl, .int .i64 n] (.bool (few45 a b fl n)) := by
  unfold few45
  refine apure_of (C := cx 24 [0, 1, 2, 3, 8]) (cxOk _ _) Tryd.func8 rfl (by decide) rfl (by exact Nat.le_of_ble_eq_true rfl) (by decide) ?_
  conv => whnf
  rfl
def few44 (l : List Seal) (n : Int) : Bool := (l.take (n + 1).toNat).all (fun s => decide (s.text.length ≤ 500)) && decide ((l.length : Int) ≤ n)
theorem few44_ok (l : List Seal) (hl : l.length ≤ 9223372036854775807) (n : Int) (hn : 0 ≤ n) (hn2 : n ≤ 1000) : APureV Tryd.prog 9 [encSls l, .int .i64 n] (.bool (few44 l n)) := by
  refine apure_of (C := cx 28 [0, 1, 4, 5, 14, 23]) (cxOk _ _) Tryd.func9 rfl (by decide) rfl (by exact Nat.le_of_ble_eq_true rfl) (by decide) ?_
  conv => whnf
  refine loop_up (cxOk _ _) l.length (fun i => (∀ x ∈ l.take i, x.text.length ≤ 500) ∧ (i : Int) ≤ n + 1) (fun i => ⟨[(0, encSls l), (1, .int .i64 n), (5, .int .i64 (i : Nat))], [], 0⟩) ⟨by simp, by omega⟩ ((wk_of [] rfl ⟨.base (.tree _ _ rfl rfl), .base (.tree _ _ rfl rfl), .base (.tree _ _ rfl rfl), trivial⟩ trivial)) ?_
  intro i hi ⟨hP, hQ⟩
  conv => whnf
  refine ⟨fun hc => ?_, fun hc => ?_⟩
  · simp only [Bool.and_eq_true, decide_eq_true_eq] at hc
    have hlt : i < l.length := by omega
    have hck : l.getD (i : Int).toNat s0 = l.getD i s0 := by rw [Int.toNat_natCast]
    conv => whnf
    refine And.intro ⟨by omega, by omega⟩ ?_; conv => whnf
    refine And.intro rfl ?_; conv => whnf
    rw [hck]
    refine ⟨fun hd => ?_, fun hd => ?_⟩
    · conv => whnf
      unfold few44
      have hm : l.getD i s0 ∈ l.take (n + 1).toNat := by
        rw [List.mem_take_iff_getElem]
        exact ⟨i, by omega, by simp [List.getD, List.getElem?_eq_getElem hlt]⟩
      have : (l.take (n + 1).toNat).all (fun s => decide (s.text.length ≤ 500)) = false := by
        rw [List.all_eq_false]
        refine ⟨_, hm, ?_⟩
        simp at hd ⊢
        omega
      rw [this]
      rfl
    · simp only [gt_iff_lt, decide_eq_false_iff_not] at hd
      conv => whnf
      refine And.intro ⟨by omega, by omega⟩ ?_; conv => whnf
      refine up hlt ⟨fun x hx => ?_, by omega⟩ ((wk_of [] rfl ⟨.base (.tree _ _ rfl rfl), .base (.tree _ _ rfl rfl), .base (.tree _ _ rfl rfl), trivial⟩ trivial))
      rw [take_getD (d := s0) hlt, List.mem_append, List.mem_singleton] at hx
      rcases hx with h | h
      · exact hP x h
      · rw [h]; omega
  · simp only [Bool.and_eq_false_iff, decide_eq_false_iff_not] at hc
    conv => whnf
    unfold few44
    by_cases hle : (l.length : Int) ≤ n
    · have : (l.take (n + 1).toNat).all (fun s => decide (s.text.length ≤ 500)) = true := by
        rw [List.all_eq_true]
        intro x hx
        rw [List.take_of_length_le (by omega)] at hx
        have : l.take i = l := List.take_of_length_le (by omega)
        rw [this] at hP
        exact decide_eq_true (hP x hx)
      rw [this]
      rfl
    · rw [decide_eq_false hle, Bool.and_false]
      rfl
theorem any_at {T : Type} {p : T → Bool} {l : List T} {d : T} {k : Nat} (h : k < l.length) (hp : p (l.getD k d) = true) : l.any p = true :=
  List.any_eq_true.2 ⟨_, getD_mem h, hp⟩
theorem none_step {T : Type} {p : T → Bool} {l : List T} {d : T} {k : Nat} (h : k < l.length) (hP : (l.take k).any p = false) (hp : p (l.getD k d) = false) : (l.take (k + 1)).any p = false := by
  rw [take_getD (d := d) h, List.any_append, hP, List.any_cons, hp]
  rfl
theorem has_ok (l : List Ent) (e : Ent) (hl : l.length ≤ 9223372036854775807) : APureV Tryd.prog 21 [encEs l, encE e] (.bool (sameB l e)) := by
  unfold sameB
  generalize hp : (fun y => decide (y = e)) = p
  have pe : ∀ x, p x = decide (x = e) := fun x => by rw [← hp]
  refine apure_of (C := cx 18 [0, 1, 3, 4, 5, 9, 17]) (cxOk _ _) Tryd.func21 rfl (by decide) rfl (by exact Nat.le_of_ble_eq_true rfl) (by decide) ?_
  conv => whnf
  refine loop_up (cxOk _ _) l.length (fun i => (l.take i).any p = false) (fun i => ⟨[(0, encEs l), (3, .ptr 0 0), (5, .int .i64 (i : Nat))], [(0, .cells 48 (celE e))], 1⟩) (by simp) ((wk_of [(0, .id 0)] rfl ⟨.base (.tree _ _ rfl rfl), .base (.ptr _ _ _ rfl), .base (.tree _ _ rfl rfl), trivial⟩ ⟨⟨_, rfl, .cells _ _ _ _ rfl (by repeat (first | exact .nil | refine .cons (by first | exact .base (.tree _ _ rfl rfl) | exact .base (.own _ _ rfl) | exact .base (.ptr _ _ _ rfl) | exact .base (.map _ _ rfl) | exact .base (.nilown _ rfl) | exact .fn _ _ _ _ _ .nil (by repeat (first | exact .nil | refine .cons (by exact .ptr _ _ _ rfl) ?_))) ?_)) rfl⟩, trivial⟩)) ?_
  intro i hi hP
  conv => whnf
  refine ⟨fun hc => ?_, fun hc => ?_⟩
  · simp only [decide_eq_true_eq] at hc
    have hlt : i < l.length := by omega
    have hck : l.getD (i : Int).toNat e0 = l.getD i e0 := by rw [Int.toNat_natCast]
    conv => whnf
    refine .quiet (by kernel_rfl) ?_; conv => whnf
    refine And.intro ⟨by omega, by omega⟩ ?_; conv => whnf
    refine And.intro rfl ?_; conv => whnf
    refine ⟨⟨by kernel_rfl, by kernel_rfl⟩, ?_⟩
    conv => whnf
    rw [hck]
    refine ⟨fun hd => ?_, fun hd => ?_⟩
    · have hx : l.getD i e0 = e := eqE_iff.1 hd
      have := any_at (p := p) hlt (by rw [pe, hx]; exact decide_eq_true rfl)
      conv => whnf
      rw [this]
      rfl
    · have hx : p (l.getD i e0) = false := by
        rw [pe]
        refine decide_eq_false fun h => ?_
        have h6 : eqE (l.getD i e0) e = false := hd
        rw [eqE_iff.2 h] at h6
        cases h6
      conv => whnf
      refine And.intro ⟨by omega, by omega⟩ ?_; conv => whnf
      refine up hlt (none_step hlt hP hx) ((wk_of [(0, .id 0)] rfl ⟨.base (.tree _ _ rfl rfl), .base (.ptr _ _ _ rfl), .base (.tree _ _ rfl rfl), trivial⟩ ⟨⟨_, rfl, .cells _ _ _ _ rfl (by repeat (first | exact .nil | refine .cons (by first | exact .base (.tree _ _ rfl rfl) | exact .base (.own _ _ rfl) | exact .base (.ptr _ _ _ rfl) | exact .base (.map _ _ rfl) | exact .base (.nilown _ rfl) | exact .fn _ _ _ _ _ .nil (by repeat (first | exact .nil | refine .cons (by exact .ptr _ _ _ rfl) ?_))) ?_)) rfl⟩, trivial⟩))
  · simp only [decide_eq_false_iff_not] at hc
    obtain rfl : i = l.length := by omega
    rw [List.take_of_length_le (Nat.le_refl _)] at hP
    conv => whnf
    rw [hP]
    rfl
def atI (l : List Ent) (i : Int) : Int := firstI (fun x : Ent => decide (x.id = i)) l
theorem first_here {T : Type} {p : T → Bool} {l : List T} {d : T} {k : Nat} (h : k < l.length) (hP : (l.take k).any p = false) (hp : p (l.getD k d) = true) : firstI p l = (k : Int) := by
  have e : l.getD k d = l[k] := by simp [List.getD, List.getElem?_eq_getElem h]
  have hk : l.findIdx p = k := by
    refine Nat.le_antisymm ?_ ?_
    · refine Nat.le_of_not_lt fun hlt => ?_
      have := List.not_of_lt_findIdx hlt
      rw [e] at hp
      rw [hp] at this
      simp at this
    · refine Nat.le_of_not_lt fun hlt => ?_
      have hl : l.findIdx p < l.length := by omega
      have := List.findIdx_getElem (w := hl)
      rw [List.any_eq_false] at hP
      exact hP _ (by rw [List.mem_take_iff_getElem]; exact ⟨l.findIdx p, by omega, rfl⟩) this
  unfold firstI
  rw [hk, if_pos h]
theorem first_none {T : Type} {p : T → Bool} {l : List T} (hP : l.any p = false) : firstI p l = -1 := by
  unfold firstI
  rw [if_neg]
  intro h
  have := List.findIdx_getElem (w := h)
  rw [List.any_eq_false] at hP
  exact hP _ (List.getElem_mem h) this
theorem at_ok (l : List Ent) (n : Int) (hl : l.length ≤ 9223372036854775807) : APureV Tryd.prog 23 [encEs l, .int .i64 n] (.int .i64 (atI l n)) := by
  unfold atI
  generalize hp : (fun x : Ent => decide (x.id = n)) = p
  have pe : ∀ x, p x = decide (x.id = n) := fun x => by rw [← hp]
  refine apure_of (C := cx 20 [0, 1, 4, 5, 9, 18]) (cxOk _ _) Tryd.func23 rfl (by decide) rfl (by exact Nat.le_of_ble_eq_true rfl) (by decide) ?_
  conv => whnf
  refine loop_up (cxOk _ _) l.length (fun i => (l.take i).any p = false) (fun i => ⟨[(0, encEs l), (1, .int .i64 n), (5, .int .i64 (i : Nat))], [], 0⟩) (by simp) ((wk_of [] rfl ⟨.base (.tree _ _ rfl rfl), .base (.tree _ _ rfl rfl), .base (.tree _ _ rfl rfl), trivial⟩ trivial)) ?_
  intro i hi hP
  conv => whnf
  refine ⟨fun hc => ?_, fun hc => ?_⟩
  · simp only [decide_eq_true_eq] at hc
    have hlt : i < l.length := by omega
    have hck : l.getD (i : Int).toNat e0 = l.getD i e0 := by rw [Int.toNat_natCast]
    conv => whnf
    refine And.intro ⟨by omega, by omega⟩ ?_; conv => whnf
    refine And.intro rfl ?_; conv => whnf
    rw [hck]
    refine ⟨fun hd => ?_, fun hd => ?_⟩
    · have := first_here (p := p) hlt hP (by rw [pe]; exact hd)
      conv => whnf
      rw [this]
      rfl
    · conv => whnf
      refine And.intro ⟨by omega, by omega⟩ ?_; conv => whnf
      refine up hlt (none_step hlt hP (by rw [pe]; exact hd)) ((wk_of [] rfl ⟨.base (.tree _ _ rfl rfl), .base (.tree _ _ rfl rfl), .base (.tree _ _ rfl rfl), trivial⟩ trivial))
  · simp only [decide_eq_false_iff_not] at hc
    obtain rfl : i = l.length := by omega
    rw [List.take_of_length_le (Nat.le_refl _)] at hP
    conv => whnf
    rw [first_none hP]
    rfl
def wayB (fl : List Msg) (f i : Int) : Bool := fl.any (fun m => decide (m.frm = f) && decide (m.entry = i))
theorem way_ok (l : List Msg) (f n : Int) (hl : l.length ≤ 9223372036854775807) : APureV Tryd.prog 24 [encMs l, .int .i64 f, .int .i64 n] (.bool (wayB l f n)) := by
  unfold wayB
  generalize hp : (fun m : Msg => decide (m.frm = f) && decide (m.entry = n)) = p
  have pe : ∀ x, p x = (decide (x.frm = f) && decide (x.entry = n)) := fun x => by rw [← hp]
  refine apure_of (C := cx 30 [0, 1, 2, 6, 7, 11, 29]) (cxOk _ _) Tryd.func24 rfl (by decide) rfl (by exact Nat.le_of_ble_eq_true rfl) (by decide) ?_
  conv => whnf
  refine loop_up (cxOk _ _) l.length (fun i => (l.take i).any p = false) (fun i => ⟨[(0, encMs l), (1, .int .i64 f), (2, .int .i64 n), (7, .int .i64 (i : Nat))], [], 0⟩) (by simp) ((wk_of [] rfl ⟨.base (.tree _ _ rfl rfl), .base (.tree _ _ rfl rfl), .base (.tree _ _ rfl rfl), .base (.tree _ _ rfl rfl), trivial⟩ trivial)) ?_
  intro i hi hP
  conv => whnf
  refine ⟨fun hc => ?_, fun hc => ?_⟩
  · simp only [decide_eq_true_eq] at hc
    have hlt : i < l.length := by omega
    have hck : l.getD (i : Int).toNat m0 = l.getD i m0 := by rw [Int.toNat_natCast]
    conv => whnf
    refine And.intro ⟨by omega, by omega⟩ ?_; conv => whnf
    refine And.intro rfl ?_; conv => whnf
    refine And.intro (by omega) (And.intro rfl ?_); conv => whnf
    rw [hck]
    refine ⟨fun hd => ?_, fun hd => ?_⟩
    · have := any_at (p := p) hlt (by rw [pe]; exact hd)
      conv => whnf
      rw [this]
      rfl
    · conv => whnf
      refine And.intro ⟨by omega, by omega⟩ ?_; conv => whnf
      refine up hlt (none_step hlt hP (by rw [pe]; exact hd)) ((wk_of [] rfl ⟨.base (.tree _ _ rfl rfl), .base (.tree _ _ rfl rfl), .base (.tree _ _ rfl rfl), .base (.tree _ _ rfl rfl), trivial⟩ trivial))
  · simp only [decide_eq_false_iff_not] at hc
    obtain rfl : i = l.length := by omega
    rw [List.take_of_length_le (Nat.le_refl _)] at hP
    conv => whnf
    rw [hP]
    rfl
def turn1 (m : Msg) : Msg := ⟨m.to, m.frm, m.seq, m.entry⟩
theorem turned_ok (l : List Msg) (hl : l.length ≤ 1000000) : APure Tryd.prog 22 [encMs l] (fun rs => rs = [.new (.row 54 4 encM m0 (l.map turn1))]) := by
  refine apure_of (C := cx 36 [0, 2, 3, 4, 8]) (cxOk _ _) Tryd.func22 rfl (by decide) rfl (by exact Nat.le_of_ble_eq_true rfl) (by decide) ?_
  conv => whnf
  refine loop_up (cxOk _ _) l.length (fun _ => True) (fun i => ⟨[(0, encMs l), (3, .own 0), (4, .int .i64 (i : Nat))], [(0, .row 54 4 encM m0 ((l.take i).map turn1))], 1⟩) trivial ((wk_of [(0, .nil)] rfl ⟨.base (.tree _ _ rfl rfl), (by first | exact .base (.own _ _ rfl) | exact .base (.nilown _ rfl) | exact .base (.trunc _ _ _ rfl)), .base (.tree _ _ rfl rfl), trivial⟩ ⟨⟨_, rfl, (by first | exact .row _ _ _ _ _ _ _ rfl rfl | exact .lstrow _ _ _ _ _ _ _ rfl rfl | exact .nilrow _ _ _ _ _ rfl | exact .truncrow _ _ _ _ _ _ _ _ rfl (by omega) rfl)⟩, trivial⟩)) ?_
  intro i hi _
  conv => whnf
  refine ⟨fun hc => ?_, fun hc => ?_⟩
  · simp only [decide_eq_true_eq] at hc
    have hlt : i < l.length := by omega
    have hck : l.getD (i : Int).toNat m0 = l.getD i m0 := by rw [Int.toNat_natCast]
    conv => whnf
    refine .eff (by first | exact cxOk _ _ | exact cxPOk _ _ _) ?_; conv => whnf
    refine And.intro ⟨by omega, by omega⟩ ?_; conv => whnf
    refine And.intro rfl ?_; conv => whnf
    refine And.intro ⟨by omega, by omega⟩ ?_; conv => whnf
    refine And.intro rfl ?_; conv => whnf
    refine And.intro ⟨by omega, by omega⟩ ?_; conv => whnf
    refine And.intro rfl ?_; conv => whnf
    refine And.intro ⟨by omega, by omega⟩ ?_; conv => whnf
    refine And.intro rfl ?_; conv => whnf
    refine And.intro rfl ?_; conv => whnf
    rw [hck]
    refine And.intro ⟨rfl, rfl⟩ (And.intro (show (((l.take i).map turn1).length + 1) * 32 ≤ 140737488355328 by rw [List.length_map, List.length_take]; omega) ?_)
    conv => whnf
    refine ⟨turn1 (l.getD i m0), rfl, ?_⟩
    conv => whnf
    refine ⟨by kernel_rfl, ?_⟩
    conv => whnf
    refine And.intro ⟨by omega, by omega⟩ ?_; conv => whnf
    refine up hlt trivial ((wk_of [(0, .id 2)] rfl ⟨.base (.tree _ _ rfl rfl), (by first | exact .base (.own _ _ rfl) | exact .base (.nilown _ rfl) | exact .base (.trunc _ _ _ rfl)), .base (.tree _ _ rfl rfl), trivial⟩ ⟨⟨_, rfl, (by first | exact .row _ _ _ _ _ _ _ rfl (show (l.take i).map turn1 ++ [turn1 (l.getD i m0)] = (l.take (i + 1)).map turn1 by rw [take_getD (d := m0) hlt, List.map_append]; rfl) | exact .lstrow _ _ _ _ _ _ _ rfl (show (l.take i).map turn1 ++ [turn1 (l.getD i m0)] = (l.take (i + 1)).map turn1 by rw [take_getD (d := m0) hlt, List.map_append]; rfl) | exact .nilrow _ _ _ _ _ (show (l.take i).map turn1 ++ [turn1 (l.getD i m0)] = (l.take (i + 1)).map turn1 by rw [take_getD (d := m0) hlt, List.map_append]; rfl) | exact .truncrow _ _ _ _ _ _ _ _ rfl (by omega) (show (l.take i).map turn1 ++ [turn1 (l.getD i m0)] = (l.take (i + 1)).map turn1 by rw [take_getD (d := m0) hlt, List.map_append]; rfl))⟩, trivial⟩))
  · simp only [decide_eq_false_iff_not] at hc
    obtain rfl : i = l.length := by omega
    rw [List.take_of_length_le (Nat.le_refl _)]
    conv => whnf
    rfl
def mailB (a b : List Ent) (m : Msg) : Bool :=
  if (decide (m.seq < 0) || decide (m.entry < 0)) = true then false
  else ((decide (m.frm = 0) && decide (m.to = 1)) && decide (m.entry < (a.length : Int))) || ((decide (m.frm = 1) && decide (m.to = 0)) && decide (m.entry < (b.length : Int)))
theorem mail_ok (a b : List Ent) (m : Msg) : APureV Tryd.prog 33 [encEs a, encEs b, encM m] (.bool (mailB a b m)) := by
  unfold mailB
  refine apure_of (C := cx 47 [0, 1, 2, 5, 6, 14]) (cxOk _ _) Tryd.func33 rfl (by decide) rfl (by exact Nat.le_of_ble_eq_true rfl) (by decide) ?_
  conv => whnf
  refine ⟨fun hb => ?_, fun hb => ?_⟩
  · rw [if_pos hb]
    conv => whnf
    rfl
  · rw [if_neg (by rw [hb]; exact Bool.noConfusion)]
    conv => whnf
    rfl
theorem entry_ok (i n : Int) : APureV Tryd.prog 26 [.int .i64 i, .int .i64 n] (encE ⟨i, 0, 0, 1, n⟩) := by
  refine apure_of (C := cx 8 [0, 1, 4]) (cxOk _ _) Tryd.func26 rfl (by decide) rfl (by exact Nat.le_of_ble_eq_true rfl) (by decide) ?_
  conv => whnf
  rfl

end Go.Proofs.YtjlnaogechkjdaaDoor

namespace Go.Proofs.YtjlnaogechkjdaaDoor
open Go.Own
set_option maxHeartbeats 4000000
set_option maxRecDepth 100000

/-! ### Put, posted -/
theorem put_ok (l : List Ent) (e : Ent) (hl : l.length ≤ 1000000) : APure Tryd.prog 34 [encEs l, encE e] (fun rs => rs = [.new (.row 48 5 encE e0 (putE l e))]) := by
  have hq : ∀ i, i ≤ l.length → (∀ x ∈ l.take i, x.id ≤ e.id) → i ≤ putAt l e := fun i hi h => by
    unfold putAt
    refine Nat.le_of_not_lt fun hlt => ?_
    have hf : l.findIdx (fun x => decide (e.id < x.id)) < l.length := by omega
    have h1 := List.findIdx_getElem (w := hf)
    have h2 := h l[l.findIdx (fun x => decide (e.id < x.id))] (by rw [List.mem_take_iff_getElem]; exact ⟨_, by omega, rfl⟩)
    simp at h1
    omega
  have hle : putAt l e ≤ l.length := List.findIdx_le_length
  refine apure_of (C := cx 34 [0, 1, 3, 4, 5, 19]) (cxOk _ _) Tryd.func34 rfl (by decide) rfl (by exact Nat.le_of_ble_eq_true rfl) (by decide) ?_
  conv => whnf
  refine loop_up (cxOk _ _) l.length (fun i => ∀ x ∈ l.take i, x.id ≤ e.id) (fun i => ⟨[(0, encEs l), (3, .ptr 0 0), (5, .int .i64 (i : Nat))], [(0, .cells 48 (celE e))], 1⟩) (by simp) ((wk_of [(0, .id 0)] rfl ⟨.base (.tree _ _ rfl rfl), .base (.ptr _ _ _ rfl), .base (.tree _ _ rfl rfl), trivial⟩ ⟨⟨_, rfl, .cells _ _ _ _ rfl (by repeat (first | exact .nil | refine .cons (by first | exact .base (.tree _ _ rfl rfl) | exact .base (.own _ _ rfl) | exact .base (.ptr _ _ _ rfl) | exact .base (.map _ _ rfl) | exact .base (.nilown _ rfl) | exact .fn _ _ _ _ _ .nil (by repeat (first | exact .nil | refine .cons (by exact .ptr _ _ _ rfl) ?_))) ?_)) rfl⟩, trivial⟩)) ?_
  intro i hi hP
  conv => whnf
  refine .quiet (by kernel_rfl) ?_; conv => whnf
  refine ⟨fun h => ?_, rfl, ?_⟩
  · have h2 : decide ((i : Int) < l.length) = true := h
    simp only [decide_eq_true_eq] at h2
    omega
  conv => whnf
  refine ⟨fun hc => ?_, fun hc => ?_⟩
  · simp only [Bool.and_eq_true, decide_eq_true_eq] at hc
    have hlt : i < l.length := by omega
    have hck : l.getD (i : Int).toNat e0 = l.getD i e0 := by rw [Int.toNat_natCast]
    rw [hck] at hc
    conv => whnf
    refine And.intro ⟨by omega, by omega⟩ ?_; conv => whnf
    refine up hlt (fun x hx => ?_) ((wk_of [(0, .id 0)] rfl ⟨.base (.tree _ _ rfl rfl), .base (.ptr _ _ _ rfl), .base (.tree _ _ rfl rfl), trivial⟩ ⟨⟨_, rfl, .cells _ _ _ _ rfl (by repeat (first | exact .nil | refine .cons (by first | exact .base (.tree _ _ rfl rfl) | exact .base (.own _ _ rfl) | exact .base (.ptr _ _ _ rfl) | exact .base (.map _ _ rfl) | exact .base (.nilown _ rfl) | exact .fn _ _ _ _ _ .nil (by repeat (first | exact .nil | refine .cons (by exact .ptr _ _ _ rfl) ?_))) ?_)) rfl⟩, trivial⟩))
    rw [take_getD (d := e0) hlt, List.mem_append, List.mem_singleton] at hx
    rcases hx with h | h
    · exact hP x h
    · rw [h]; exact hc.2
  · have hi' : i = putAt l e := by
      refine Nat.le_antisymm (hq i hi hP) ?_
      simp only [Bool.and_eq_false_iff, decide_eq_false_iff_not] at hc
      unfold putAt
      by_cases hlt : i < l.length
      · have hck : l.getD (i : Int).toNat e0 = l[i] := by rw [Int.toNat_natCast]; simp [List.getD, List.getElem?_eq_getElem hlt]
        rw [hck] at hc
        refine Nat.le_of_not_lt fun h => ?_
        have := List.not_of_lt_findIdx h
        simp at this
        omega
      · have := List.findIdx_le_length (xs := l) (p := fun x : Ent => decide (e.id < x.id))
        omega
    have l1 : (l.take i).length = i := by rw [List.length_take]; omega
    have l2 : (l.drop i).length = l.length - i := List.length_drop
    have l3 : (l.take (i : Int).toNat).length = i := by rw [Int.toNat_natCast]; exact l1
    have l4 : (l.drop (i : Int).toNat).length = l.length - i := by rw [Int.toNat_natCast]; exact l2
    conv => whnf
    refine .eff (by first | exact cxOk _ _ | exact cxPOk _ _ _) ?_; conv => whnf
    refine And.intro ⟨by omega, by omega⟩ ?_; conv => whnf
    refine And.intro rfl ?_; conv => whnf
    refine And.intro rfl ?_; conv => whnf
    refine And.intro ⟨rfl, rfl⟩ (And.intro (show (0 + (l.take (i : Int).toNat).length) * 40 ≤ 140737488355328 by omega) ?_)
    conv => whnf
    refine And.intro rfl ?_; conv => whnf
    refine And.intro ⟨rfl, rfl⟩ (And.intro (show ((l.take (i : Int).toNat).length + 1) * 40 ≤ 140737488355328 by omega) ?_)
    conv => whnf
    refine ⟨e, rfl, ?_⟩
    conv => whnf
    refine And.intro ⟨by omega, by omega⟩ ?_; conv => whnf
    refine And.intro rfl ?_; conv => whnf
    refine And.intro rfl ?_; conv => whnf
    refine And.intro ⟨rfl, rfl⟩ (And.intro (show ((l.take (i : Int).toNat ++ [e]).length + (l.drop (i : Int).toNat).length) * 40 ≤ 140737488355328 by rw [List.length_append, l3, l4, List.length_singleton]; omega) ?_)
    conv => whnf
    refine ⟨l.drop (i : Int).toNat, rfl, ?_⟩
    conv => whnf
    refine And.intro rfl ?_; conv => whnf
    unfold putE
    rw [← hi', Int.toNat_natCast, List.append_assoc]
    rfl

/-- Entries posted where none has their Ids: the ledger, and whether all were accepted. -/
def pstd : List Ent → List Ent → List Ent × Bool
  | l, [] => (l, true)
  | l, e :: s => if 0 ≤ atI l e.id then pstd l s else if postE l e = 0 then pstd (l ++ [e]) s else (l, false)
end Go.Proofs.YtjlnaogechkjdaaDoor

namespace Go.Proofs.YtjlnaogechkjdaaDoor
open Go.Own
set_option maxHeartbeats 4000000
set_option maxRecDepth 100000

/-! ### The reference's Compare -/
def cls (own oth : List Ent) (fl : List Msg) (n : Int) (i : Nat) : Nat :=
  if atI oth (own.getD i e0).id < 0 then (if wayB fl n (i : Int) = true then 1 else 2)
  else if eqE (oth.getD (atI oth (own.getD i e0).id).toNat e0) (own.getD i e0) = true then 0 else 2
def pickE (c : Nat) (own oth : List Ent) (fl : List Msg) (n : Int) (k : Nat) : List Ent := ((List.range k).filter (fun i => decide (cls own oth fl n i = c))).map (fun i => own.getD i e0)
theorem pick_snoc (c : Nat) (own oth : List Ent) (fl : List Msg) (n : Int) (k : Nat) : pickE c own oth fl n (k + 1) = if cls own oth fl n k = c then pickE c own oth fl n k ++ [own.getD k e0] else pickE c own oth fl n k := by
  unfold pickE
  rw [List.range_succ, filter_snoc]
  by_cases h : cls own oth fl n k = c
  · rw [if_pos (decide_eq_true h), if_pos h, List.map_append]
    rfl
  · rw [if_neg (by simpa using h), if_neg h]
theorem pick_len (c : Nat) (own oth : List Ent) (fl : List Msg) (n : Int) (k : Nat) : (pickE c own oth fl n k).length ≤ k := by
  unfold pickE
  rw [List.length_map]
  exact Nat.le_trans (List.length_filter_le _ _) (by rw [List.length_range]; exact Nat.le_refl _)
theorem srt_len (l : List Ent) : (srt l).length = l.length := by
  have h : ∀ (l a : List Ent), (l.foldl putE a).length = a.length + l.length := by
    intro l
    induction l with
    | nil => intro a; simp
    | cons e l ih =>
      intro a
      rw [List.foldl_cons, ih]
      unfold putE
      have : putAt a e ≤ a.length := List.findIdx_le_length
      simp only [List.length_append, List.length_take, List.length_drop, List.length_cons, List.length_nil]
      omega
  unfold srt
  rw [h]
  simp
theorem atI_lt {l : List Ent} {n : Int} (h : ¬ atI l n < 0) : 0 ≤ atI l n ∧ atI l n < (l.length : Int) := by
  unfold atI firstI at *
  split at h
  · rename_i h2
    rw [if_pos h2]
    omega
  · exact absurd (by decide) h
def okQ (a b : List Ent) (fl : List Msg) : Bool := (validB a && validB b) && fl.all (mailB a b)
def qI (a b : List Ent) (fl : List Msg) : List Ent := pickE 1 a b fl 0 a.length ++ pickE 1 b a fl 1 b.length
def qO (a b : List Ent) (fl : List Msg) : List Ent := pickE 2 a b fl 0 a.length ++ pickE 2 b a fl 1 b.length
theorem qcompare_ok (a b : List Ent) (fl : List Msg) (ha : a.length ≤ 20) (hb : b.length ≤ 20) (hl : fl.length ≤ 9223372036854775807) :
    APure Tryd.prog 11 [encEs a, encEs b, encMs fl] (fun rs => rs = if okQ a b fl = true then [.new (.row 48 5 encE e0 (srt (qI a b fl))), .new (.row 48 5 encE e0 (srt (qO a b fl))), .val (.int .i64 0)] else [.val .nils, .val .nils, .val (.int .i64 1)]) := by
  have hva := qvalid_ok a (by omega)
  have hvb := qvalid_ok b (by omega)
  have hmail := mail_ok a b
  have hata := fun n => at_ok a n (by omega)
  have hatb := fun n => at_ok b n (by omega)
  have hway := fun f n => way_ok fl f n hl
  refine apure_of (C := cx 103 [0, 1, 2, 6, 7, 8, 9, 10, 11, 12, 13, 14, 15, 16, 17, 18, 19, 27, 31, 41, 43, 49, 55, 66, 70, 93]) (cxOk _ _) Tryd.func11 rfl (by decide) rfl (by exact Nat.le_of_ble_eq_true rfl) (by decide) ?_
  conv => whnf
  refine .one _ _ _ (fun _ => hva) (by repeat (first | exact .nil | (apply BorL.cons; first | exact lS rfl | exact lR rfl | exact lM rfl rfl | exact lL rfl | exact lX rfl | exact lN | exact lNl | exact lSm rfl | exact lIm rfl | exact lGm rfl | exact lP rfl | exact lQ rfl | exact lB rfl rfl rfl))) (by first | exact .inl rfl | exact .inr (by repeat (first | exact flats_nil | refine flats_cons (by first | exact flat_val _ rfl | exact flat_row (fun _ => rfl) | exact flat_lst (fun _ => rfl)) ?_))) (by first | exact .inr rfl | exact .inl rfl) ?_
  conv => whnf
  refine .one _ _ _ (fun _ => hvb) (by repeat (first | exact .nil | (apply BorL.cons; first | exact lS rfl | exact lR rfl | exact lM rfl rfl | exact lL rfl | exact lX rfl | exact lN | exact lNl | exact lSm rfl | exact lIm rfl | exact lGm rfl | exact lP rfl | exact lQ rfl | exact lB rfl rfl rfl))) (by first | exact .inl rfl | exact .inr (by repeat (first | exact flats_nil | refine flats_cons (by first | exact flat_val _ rfl | exact flat_row (fun _ => rfl) | exact flat_lst (fun _ => rfl)) ?_))) (by first | exact .inr rfl | exact .inl rfl) ?_
  conv => whnf
  refine ⟨fun hc => ?_, fun hc => ?_⟩
  · have hk : okQ a b fl = false := by
      unfold okQ
      cases h1 : validB a <;> cases h2 : validB b <;> simp [h1, h2] at hc ⊢
    rw [if_neg (by rw [hk]; exact Bool.noConfusion)]
    conv => whnf
    rfl
  have hvv : (validB a && validB b) = true := by
    cases h1 : validB a <;> cases h2 : validB b <;> simp [h1, h2] at hc ⊢
  conv => whnf
  refine loop_up (cxOk _ _) fl.length (fun i => (fl.take i).all (mailB a b) = true) (fun i => ⟨[(0, encEs a), (1, encEs b), (2, encMs fl), (9, .int .i64 (i : Nat))], [], 0⟩) (by simp) ((wk_of [] rfl ⟨.base (.tree _ _ rfl rfl), .base (.tree _ _ rfl rfl), .base (.tree _ _ rfl rfl), .base (.tree _ _ rfl rfl), trivial⟩ trivial)) ?_
  intro i hi hP
  conv => whnf
  refine ⟨fun hcm => ?_, fun hcm => ?_⟩
  · simp only [decide_eq_true_eq] at hcm
    have hlt : i < fl.length := by omega
    have hck : fl.getD (i : Int).toNat m0 = fl.getD i m0 := by rw [Int.toNat_natCast]
    conv => whnf
    refine And.intro ⟨by omega, by omega⟩ ?_; conv => whnf
    refine And.intro rfl ?_; conv => whnf
    rw [hck]
    refine .one _ _ _ (fun _ => hmail (fl.getD i m0)) (by repeat (first | exact .nil | (apply BorL.cons; first | exact lS rfl | exact lR rfl | exact lM rfl rfl | exact lL rfl | exact lX rfl | exact lN | exact lNl | exact lSm rfl | exact lIm rfl | exact lGm rfl | exact lP rfl | exact lQ rfl | exact lB rfl rfl rfl))) (by first | exact .inl rfl | exact .inr (by repeat (first | exact flats_nil | refine flats_cons (by first | exact flat_val _ rfl | exact flat_row (fun _ => rfl) | exact flat_lst (fun _ => rfl)) ?_))) (by first | exact .inr rfl | exact .inl rfl) ?_
    conv => whnf
    refine ⟨fun hd => ?_, fun hd => ?_⟩
    · have hk : okQ a b fl = false := by
        unfold okQ
        have : fl.all (mailB a b) = false := by
          rw [List.all_eq_false]
          exact ⟨_, getD_mem hlt, by simpa using hd⟩
        rw [this, Bool.and_false]
      conv => whnf
      rw [if_neg (by rw [hk]; exact Bool.noConfusion)]
      rfl
    · conv => whnf
      refine And.intro ⟨by omega, by omega⟩ ?_; conv => whnf
      refine up hlt ?_ ((wk_of [] rfl ⟨.base (.tree _ _ rfl rfl), .base (.tree _ _ rfl rfl), .base (.tree _ _ rfl rfl), .base (.tree _ _ rfl rfl), trivial⟩ trivial))
      rw [take_getD (d := m0) hlt, List.all_append, hP, List.all_cons, show mailB a b (fl.getD i m0) = true by simpa using hd]
      rfl
  simp only [decide_eq_false_iff_not] at hcm
  obtain rfl : i = fl.length := by omega
  rw [List.take_of_length_le (Nat.le_refl _)] at hP
  have hk : okQ a b fl = true := by
    unfold okQ
    rw [hvv, hP]
    rfl
  rw [if_pos hk]
  conv => whnf
  refine loop_up (cxOk _ _) 2 (fun _ => True) (fun n => ⟨[(0, encEs a), (1, encEs b), (2, encMs fl), (10, .own 0), (11, .own 1), (12, .int .i64 (n : Nat))], [(0, .row 48 5 encE e0 ((if n = 0 then srt [] else if n = 1 then srt (pickE 1 a b fl 0 a.length) else srt (qI a b fl)))), (1, .row 48 5 encE e0 ((if n = 0 then srt [] else if n = 1 then srt (pickE 2 a b fl 0 a.length) else srt (qO a b fl))))], 2⟩) trivial ((wk_of [(0, .nil), (1, .nil)] rfl ⟨.base (.tree _ _ rfl rfl), .base (.tree _ _ rfl rfl), .base (.tree _ _ rfl rfl), (by first | exact .base (.own _ _ rfl) | exact .base (.nilown _ rfl) | exact .base (.trunc _ _ _ rfl)), (by first | exact .base (.own _ _ rfl) | exact .base (.nilown _ rfl) | exact .base (.trunc _ _ _ rfl)), .base (.tree _ _ rfl rfl), trivial⟩ ⟨⟨_, rfl, (by first | exact .row _ _ _ _ _ _ _ rfl rfl | exact .lstrow _ _ _ _ _ _ _ rfl rfl | exact .nilrow _ _ _ _ _ rfl | exact .truncrow _ _ _ _ _ _ _ _ rfl (by omega) rfl)⟩, ⟨_, rfl, (by first | exact .row _ _ _ _ _ _ _ rfl rfl | exact .lstrow _ _ _ _ _ _ _ rfl rfl | exact .nilrow _ _ _ _ _ rfl | exact .truncrow _ _ _ _ _ _ _ _ rfl (by omega) rfl)⟩, trivial⟩)) ?_
  intro n hn _
  conv => whnf
  refine ⟨fun hc2 => ?_, fun hc2 => ?_⟩
  · simp only [decide_eq_true_eq] at hc2
    have hn2 : n = 0 ∨ n = 1 := by omega
    rcases hn2 with rfl | rfl
    · conv => whnf
      refine And.intro (fun h => absurd h (by decide)) (fun _ => ?_); conv => whnf
      refine loop_up (cxOk _ _) a.length (fun _ => True) (fun k => ⟨[(0, encEs a), (1, encEs b), (2, encMs fl), (10, .own 0), (11, .own 1), (12, .int .i64 0), (13, encEs a), (14, encEs b), (15, .int .i64 (k : Nat))], [(0, .row 48 5 encE e0 ((srt (pickE 1 a b fl 0 k)))), (1, .row 48 5 encE e0 ((srt (pickE 2 a b fl 0 k))))], 2⟩) trivial ((wk_of [(0, .id 0), (1, .id 1)] rfl ⟨.base (.tree _ _ rfl rfl), .base (.tree _ _ rfl rfl), .base (.tree _ _ rfl rfl), (by first | exact .base (.own _ _ rfl) | exact .base (.nilown _ rfl) | exact .base (.trunc _ _ _ rfl)), (by first | exact .base (.own _ _ rfl) | exact .base (.nilown _ rfl) | exact .base (.trunc _ _ _ rfl)), .base (.tree _ _ rfl rfl), .base (.tree _ _ rfl rfl), .base (.tree _ _ rfl rfl), .base (.tree _ _ rfl rfl), trivial⟩ ⟨⟨_, rfl, (by first | exact .row _ _ _ _ _ _ _ rfl rfl | exact .lstrow _ _ _ _ _ _ _ rfl rfl | exact .nilrow _ _ _ _ _ rfl | exact .truncrow _ _ _ _ _ _ _ _ rfl (by omega) rfl)⟩, ⟨_, rfl, (by first | exact .row _ _ _ _ _ _ _ rfl rfl | exact .lstrow _ _ _ _ _ _ _ rfl rfl | exact .nilrow _ _ _ _ _ rfl | exact .truncrow _ _ _ _ _ _ _ _ rfl (by omega) rfl)⟩, trivial⟩)) ?_
      intro k hk2 _
      conv => whnf
      refine ⟨fun hc3 => ?_, fun hc3 => ?_⟩
      · simp only [decide_eq_true_eq] at hc3
        have hlt : k < a.length := by omega
        have f1 : pickE 1 a b fl 0 (k + 1) = if cls a b fl 0 k = 1 then (pickE 1 a b fl 0 k) ++ [a.getD k e0] else pickE 1 a b fl 0 k := pick_snoc 1 a b fl 0 k
        have f2 : pickE 2 a b fl 0 (k + 1) = if cls a b fl 0 k = 2 then (pickE 2 a b fl 0 k) ++ [a.getD k e0] else pickE 2 a b fl 0 k := pick_snoc 2 a b fl 0 k
        have l1 : (pickE 1 a b fl 0 k).length ≤ 1000 := by have := pick_len 1 a b fl 0 k; have := pick_len 1 a b fl 0 a.length; (try rw [List.length_append]); omega
        have l2 : (pickE 2 a b fl 0 k).length ≤ 1000 := by have := pick_len 2 a b fl 0 k; have := pick_len 2 a b fl 0 a.length; (try rw [List.length_append]); omega
        have hck : a.getD (k : Int).toNat e0 = a.getD k e0 := by rw [Int.toNat_natCast]
        unfold cls at f1 f2
        generalize hP' : pickE 1 a b fl 0 (k + 1) = P' at *
        generalize hQ' : pickE 2 a b fl 0 (k + 1) = Q' at *
        generalize pickE 1 a b fl 0 k = P at *
        generalize pickE 2 a b fl 0 k = Q at *
        generalize he : a.getD k e0 = e at *
        conv => whnf
        refine And.intro ⟨by omega, by omega⟩ ?_; conv => whnf
        refine And.intro rfl ?_; conv => whnf
        rw [hck]
        refine .one _ _ _ (fun _ => hatb e.id) (by repeat (first | exact .nil | (apply BorL.cons; first | exact lS rfl | exact lR rfl | exact lM rfl rfl | exact lL rfl | exact lX rfl | exact lN | exact lNl | exact lSm rfl | exact lIm rfl | exact lGm rfl | exact lP rfl | exact lQ rfl | exact lB rfl rfl rfl))) (by first | exact .inl rfl | exact .inr (by repeat (first | exact flats_nil | refine flats_cons (by first | exact flat_val _ rfl | exact flat_row (fun _ => rfl) | exact flat_lst (fun _ => rfl)) ?_))) (by first | exact .inr rfl | exact .inl rfl) ?_
        conv => whnf
        refine ⟨fun hd => ?_, fun hd => ?_⟩
        · simp only [decide_eq_true_eq] at hd
          rw [if_pos hd] at f1 f2
          conv => whnf
          refine .one _ _ _ (fun _ => hway 0 k) (by repeat (first | exact .nil | (apply BorL.cons; first | exact lS rfl | exact lR rfl | exact lM rfl rfl | exact lL rfl | exact lX rfl | exact lN | exact lNl | exact lSm rfl | exact lIm rfl | exact lGm rfl | exact lP rfl | exact lQ rfl | exact lB rfl rfl rfl))) (by first | exact .inl rfl | exact .inr (by repeat (first | exact flats_nil | refine flats_cons (by first | exact flat_val _ rfl | exact flat_row (fun _ => rfl) | exact flat_lst (fun _ => rfl)) ?_))) (by first | exact .inr rfl | exact .inl rfl) ?_
          conv => whnf
          refine ⟨fun hd2 => ?_, fun hd2 => ?_⟩
          · rw [if_pos hd2, if_pos rfl] at f1
            rw [if_pos hd2, if_neg (by decide)] at f2
            have hput := put_ok (srt P) e (by rw [srt_len]; omega)
            rw [← srt_snoc] at hput
            conv => whnf
            refine And.intro ⟨by omega, by omega⟩ ?_; conv => whnf
            refine And.intro rfl ?_; conv => whnf
            rw [hck]
            refine .one _ _ _ (fun _ => hput) (by repeat (first | exact .nil | (apply BorL.cons; first | exact lS rfl | exact lR rfl | exact lM rfl rfl | exact lL rfl | exact lX rfl | exact lN | exact lNl | exact lSm rfl | exact lIm rfl | exact lGm rfl | exact lP rfl | exact lQ rfl | exact lB rfl rfl rfl))) (by first | exact .inl rfl | exact .inr (by repeat (first | exact flats_nil | refine flats_cons (by first | exact flat_val _ rfl | exact flat_row (fun _ => rfl) | exact flat_lst (fun _ => rfl)) ?_))) (by first | exact .inr rfl | exact .inl rfl) ?_
            conv => whnf
            refine And.intro ⟨by omega, by omega⟩ ?_; conv => whnf
            refine up hlt trivial ((wk_of [(0, .id 2), (1, .id 1)] rfl ⟨.base (.tree _ _ rfl rfl), .base (.tree _ _ rfl rfl), .base (.tree _ _ rfl rfl), (by first | exact .base (.own _ _ rfl) | exact .base (.nilown _ rfl) | exact .base (.trunc _ _ _ rfl)), (by first | exact .base (.own _ _ rfl) | exact .base (.nilown _ rfl) | exact .base (.trunc _ _ _ rfl)), .base (.tree _ _ rfl rfl), .base (.tree _ _ rfl rfl), .base (.tree _ _ rfl rfl), .base (.tree _ _ rfl rfl), trivial⟩ ⟨⟨_, rfl, (by first | exact .row _ _ _ _ _ _ _ rfl (show srt (P ++ [e]) = srt (pickE 1 a b fl 0 (k + 1)) by rw [hP', f1]) | exact .lstrow _ _ _ _ _ _ _ rfl (show srt (P ++ [e]) = srt (pickE 1 a b fl 0 (k + 1)) by rw [hP', f1]) | exact .nilrow _ _ _ _ _ (show srt (P ++ [e]) = srt (pickE 1 a b fl 0 (k + 1)) by rw [hP', f1]) | exact .truncrow _ _ _ _ _ _ _ _ rfl (by omega) (show srt (P ++ [e]) = srt (pickE 1 a b fl 0 (k + 1)) by rw [hP', f1]))⟩, ⟨_, rfl, (by first | exact .row _ _ _ _ _ _ _ rfl (show srt Q = srt (pickE 2 a b fl 0 (k + 1)) by rw [hQ', f2]) | exact .lstrow _ _ _ _ _ _ _ rfl (show srt Q = srt (pickE 2 a b fl 0 (k + 1)) by rw [hQ', f2]) | exact .nilrow _ _ _ _ _ (show srt Q = srt (pickE 2 a b fl 0 (k + 1)) by rw [hQ', f2]) | exact .truncrow _ _ _ _ _ _ _ _ rfl (by omega) (show srt Q = srt (pickE 2 a b fl 0 (k + 1)) by rw [hQ', f2]))⟩, trivial⟩))
          · have hd2' : ¬ wayB fl 0 (k : Int) = true := by rw [hd2]; exact Bool.noConfusion
            rw [if_neg hd2', if_neg (by decide)] at f1
            rw [if_neg hd2', if_pos rfl] at f2
            have hput := put_ok (srt Q) e (by rw [srt_len]; omega)
            rw [← srt_snoc] at hput
            conv => whnf
            refine And.intro ⟨by omega, by omega⟩ ?_; conv => whnf
            refine And.intro rfl ?_; conv => whnf
            rw [hck]
            refine .one _ _ _ (fun _ => hput) (by repeat (first | exact .nil | (apply BorL.cons; first | exact lS rfl | exact lR rfl | exact lM rfl rfl | exact lL rfl | exact lX rfl | exact lN | exact lNl | exact lSm rfl | exact lIm rfl | exact lGm rfl | exact lP rfl | exact lQ rfl | exact lB rfl rfl rfl))) (by first | exact .inl rfl | exact .inr (by repeat (first | exact flats_nil | refine flats_cons (by first | exact flat_val _ rfl | exact flat_row (fun _ => rfl) | exact flat_lst (fun _ => rfl)) ?_))) (by first | exact .inr rfl | exact .inl rfl) ?_
            conv => whnf
            refine And.intro ⟨by omega, by omega⟩ ?_; conv => whnf
            refine up hlt trivial ((wk_of [(0, .id 0), (1, .id 2)] rfl ⟨.base (.tree _ _ rfl rfl), .base (.tree _ _ rfl rfl), .base (.tree _ _ rfl rfl), (by first | exact .base (.own _ _ rfl) | exact .base (.nilown _ rfl) | exact .base (.trunc _ _ _ rfl)), (by first | exact .base (.own _ _ rfl) | exact .base (.nilown _ rfl) | exact .base (.trunc _ _ _ rfl)), .base (.tree _ _ rfl rfl), .base (.tree _ _ rfl rfl), .base (.tree _ _ rfl rfl), .base (.tree _ _ rfl rfl), trivial⟩ ⟨⟨_, rfl, (by first | exact .row _ _ _ _ _ _ _ rfl (show srt P = srt (pickE 1 a b fl 0 (k + 1)) by rw [hP', f1]) | exact .lstrow _ _ _ _ _ _ _ rfl (show srt P = srt (pickE 1 a b fl 0 (k + 1)) by rw [hP', f1]) | exact .nilrow _ _ _ _ _ (show srt P = srt (pickE 1 a b fl 0 (k + 1)) by rw [hP', f1]) | exact .truncrow _ _ _ _ _ _ _ _ rfl (by omega) (show srt P = srt (pickE 1 a b fl 0 (k + 1)) by rw [hP', f1]))⟩, ⟨_, rfl, (by first | exact .row _ _ _ _ _ _ _ rfl (show srt (Q ++ [e]) = srt (pickE 2 a b fl 0 (k + 1)) by rw [hQ', f2]) | exact .lstrow _ _ _ _ _ _ _ rfl (show srt (Q ++ [e]) = srt (pickE 2 a b fl 0 (k + 1)) by rw [hQ', f2]) | exact .nilrow _ _ _ _ _ (show srt (Q ++ [e]) = srt (pickE 2 a b fl 0 (k + 1)) by rw [hQ', f2]) | exact .truncrow _ _ _ _ _ _ _ _ rfl (by omega) (show srt (Q ++ [e]) = srt (pickE 2 a b fl 0 (k + 1)) by rw [hQ', f2]))⟩, trivial⟩))
        · simp only [decide_eq_false_iff_not] at hd
          have hat2 := atI_lt hd
          rw [if_neg hd] at f1 f2
          conv => whnf
          refine .quiet (by kernel_rfl) ?_; conv => whnf
          refine And.intro ⟨by omega, by omega⟩ ?_; conv => whnf
          refine And.intro rfl ?_; conv => whnf
          refine And.intro ⟨by omega, by omega⟩ ?_; conv => whnf
          refine And.intro rfl ?_; conv => whnf
          rw [hck]
          refine ⟨⟨by kernel_rfl, by kernel_rfl⟩, ?_⟩
          conv => whnf
          refine ⟨fun hd3 => ?_, fun hd3 => ?_⟩
          · have hq : ¬ eqE (b.getD (atI b e.id).toNat e0) e = true := by
              intro h
              have h2 : (!eqE (b.getD (atI b e.id).toNat e0) e) = true := hd3
              rw [h] at h2
              exact Bool.noConfusion h2
            rw [if_neg hq, if_neg (by decide)] at f1
            rw [if_neg hq, if_pos rfl] at f2
            have hput := put_ok (srt Q) e (by rw [srt_len]; omega)
            rw [← srt_snoc] at hput
            conv => whnf
            refine And.intro ⟨by omega, by omega⟩ ?_; conv => whnf
            refine And.intro rfl ?_; conv => whnf
            rw [hck]
            refine .one _ _ _ (fun _ => hput) (by repeat (first | exact .nil | (apply BorL.cons; first | exact lS rfl | exact lR rfl | exact lM rfl rfl | exact lL rfl | exact lX rfl | exact lN | exact lNl | exact lSm rfl | exact lIm rfl | exact lGm rfl | exact lP rfl | exact lQ rfl | exact lB rfl rfl rfl))) (by first | exact .inl rfl | exact .inr (by repeat (first | exact flats_nil | refine flats_cons (by first | exact flat_val _ rfl | exact flat_row (fun _ => rfl) | exact flat_lst (fun _ => rfl)) ?_))) (by first | exact .inr rfl | exact .inl rfl) ?_
            conv => whnf
            refine And.intro ⟨by omega, by omega⟩ ?_; conv => whnf
            refine up hlt trivial ((wk_of [(0, .id 0), (1, .id 2)] rfl ⟨.base (.tree _ _ rfl rfl), .base (.tree _ _ rfl rfl), .base (.tree _ _ rfl rfl), (by first | exact .base (.own _ _ rfl) | exact .base (.nilown _ rfl) | exact .base (.trunc _ _ _ rfl)), (by first | exact .base (.own _ _ rfl) | exact .base (.nilown _ rfl) | exact .base (.trunc _ _ _ rfl)), .base (.tree _ _ rfl rfl), .base (.tree _ _ rfl rfl), .base (.tree _ _ rfl rfl), .base (.tree _ _ rfl rfl), trivial⟩ ⟨⟨_, rfl, (by first | exact .row _ _ _ _ _ _ _ rfl (show srt P = srt (pickE 1 a b fl 0 (k + 1)) by rw [hP', f1]) | exact .lstrow _ _ _ _ _ _ _ rfl (show srt P = srt (pickE 1 a b fl 0 (k + 1)) by rw [hP', f1]) | exact .nilrow _ _ _ _ _ (show srt P = srt (pickE 1 a b fl 0 (k + 1)) by rw [hP', f1]) | exact .truncrow _ _ _ _ _ _ _ _ rfl (by omega) (show srt P = srt (pickE 1 a b fl 0 (k + 1)) by rw [hP', f1]))⟩, ⟨_, rfl, (by first | exact .row _ _ _ _ _ _ _ rfl (show srt (Q ++ [e]) = srt (pickE 2 a b fl 0 (k + 1)) by rw [hQ', f2]) | exact .lstrow _ _ _ _ _ _ _ rfl (show srt (Q ++ [e]) = srt (pickE 2 a b fl 0 (k + 1)) by rw [hQ', f2]) | exact .nilrow _ _ _ _ _ (show srt (Q ++ [e]) = srt (pickE 2 a b fl 0 (k + 1)) by rw [hQ', f2]) | exact .truncrow _ _ _ _ _ _ _ _ rfl (by omega) (show srt (Q ++ [e]) = srt (pickE 2 a b fl 0 (k + 1)) by rw [hQ', f2]))⟩, trivial⟩))
          · have hq : eqE (b.getD (atI b e.id).toNat e0) e = true := by
              have h2 : (!eqE (b.getD (atI b e.id).toNat e0) e) = false := hd3
              simpa using h2
            rw [if_pos hq, if_neg (by decide)] at f1 f2
            conv => whnf
            refine And.intro ⟨by omega, by omega⟩ ?_; conv => whnf
            refine up hlt trivial ((wk_of [(0, .id 0), (1, .id 1)] rfl ⟨.base (.tree _ _ rfl rfl), .base (.tree _ _ rfl rfl), .base (.tree _ _ rfl rfl), (by first | exact .base (.own _ _ rfl) | exact .base (.nilown _ rfl) | exact .base (.trunc _ _ _ rfl)), (by first | exact .base (.own _ _ rfl) | exact .base (.nilown _ rfl) | exact .base (.trunc _ _ _ rfl)), .base (.tree _ _ rfl rfl), .base (.tree _ _ rfl rfl), .base (.tree _ _ rfl rfl), .base (.tree _ _ rfl rfl), trivial⟩ ⟨⟨_, rfl, (by first | exact .row _ _ _ _ _ _ _ rfl (show srt P = srt (pickE 1 a b fl 0 (k + 1)) by rw [hP', f1]) | exact .lstrow _ _ _ _ _ _ _ rfl (show srt P = srt (pickE 1 a b fl 0 (k + 1)) by rw [hP', f1]) | exact .nilrow _ _ _ _ _ (show srt P = srt (pickE 1 a b fl 0 (k + 1)) by rw [hP', f1]) | exact .truncrow _ _ _ _ _ _ _ _ rfl (by omega) (show srt P = srt (pickE 1 a b fl 0 (k + 1)) by rw [hP', f1]))⟩, ⟨_, rfl, (by first | exact .row _ _ _ _ _ _ _ rfl (show srt Q = srt (pickE 2 a b fl 0 (k + 1)) by rw [hQ', f2]) | exact .lstrow _ _ _ _ _ _ _ rfl (show srt Q = srt (pickE 2 a b fl 0 (k + 1)) by rw [hQ', f2]) | exact .nilrow _ _ _ _ _ (show srt Q = srt (pickE 2 a b fl 0 (k + 1)) by rw [hQ', f2]) | exact .truncrow _ _ _ _ _ _ _ _ rfl (by omega) (show srt Q = srt (pickE 2 a b fl 0 (k + 1)) by rw [hQ', f2]))⟩, trivial⟩))
      · simp only [decide_eq_false_iff_not] at hc3
        obtain rfl : k = a.length := by omega
        conv => whnf
        refine And.intro ⟨by omega, by omega⟩ ?_; conv => whnf
        refine up (by omega) trivial ((wk_of [(0, .id 0), (1, .id 1)] rfl ⟨.base (.tree _ _ rfl rfl), .base (.tree _ _ rfl rfl), .base (.tree _ _ rfl rfl), (by first | exact .base (.own _ _ rfl) | exact .base (.nilown _ rfl) | exact .base (.trunc _ _ _ rfl)), (by first | exact .base (.own _ _ rfl) | exact .base (.nilown _ rfl) | exact .base (.trunc _ _ _ rfl)), .base (.tree _ _ rfl rfl), trivial⟩ ⟨⟨_, rfl, (by first | exact .row _ _ _ _ _ _ _ rfl rfl | exact .lstrow _ _ _ _ _ _ _ rfl rfl | exact .nilrow _ _ _ _ _ rfl | exact .truncrow _ _ _ _ _ _ _ _ rfl (by omega) rfl)⟩, ⟨_, rfl, (by first | exact .row _ _ _ _ _ _ _ rfl rfl | exact .lstrow _ _ _ _ _ _ _ rfl rfl | exact .nilrow _ _ _ _ _ rfl | exact .truncrow _ _ _ _ _ _ _ _ rfl (by omega) rfl)⟩, trivial⟩))
    · conv => whnf
      refine And.intro (fun _ => ?_) (fun h => absurd h (by decide)); conv => whnf
      refine loop_up (cxOk _ _) b.length (fun _ => True) (fun k => ⟨[(0, encEs a), (1, encEs b), (2, encMs fl), (10, .own 0), (11, .own 1), (12, .int .i64 1), (13, encEs b), (14, encEs a), (15, .int .i64 (k : Nat))], [(0, .row 48 5 encE e0 ((srt (pickE 1 a b fl 0 a.length ++ pickE 1 b a fl 1 k)))), (1, .row 48 5 encE e0 ((srt (pickE 2 a b fl 0 a.length ++ pickE 2 b a fl 1 k))))], 2⟩) trivial ((wk_of [(0, .id 0), (1, .id 1)] rfl ⟨.base (.tree _ _ rfl rfl), .base (.tree _ _ rfl rfl), .base (.tree _ _ rfl rfl), (by first | exact .base (.own _ _ rfl) | exact .base (.nilown _ rfl) | exact .base (.trunc _ _ _ rfl)), (by first | exact .base (.own _ _ rfl) | exact .base (.nilown _ rfl) | exact .base (.trunc _ _ _ rfl)), .base (.tree _ _ rfl rfl), .base (.tree _ _ rfl rfl), .base (.tree _ _ rfl rfl), .base (.tree _ _ rfl rfl), trivial⟩ ⟨⟨_, rfl, (by first | exact .row _ _ _ _ _ _ _ rfl (show srt (pickE 1 a b fl 0 a.length) = srt (pickE 1 a b fl 0 a.length ++ []) by rw [List.append_nil]) | exact .lstrow _ _ _ _ _ _ _ rfl (show srt (pickE 1 a b fl 0 a.length) = srt (pickE 1 a b fl 0 a.length ++ []) by rw [List.append_nil]) | exact .nilrow _ _ _ _ _ (show srt (pickE 1 a b fl 0 a.length) = srt (pickE 1 a b fl 0 a.length ++ []) by rw [List.append_nil]) | exact .truncrow _ _ _ _ _ _ _ _ rfl (by omega) (show srt (pickE 1 a b fl 0 a.length) = srt (pickE 1 a b fl 0 a.length ++ []) by rw [List.append_nil]))⟩, ⟨_, rfl, (by first | exact .row _ _ _ _ _ _ _ rfl (show srt (pickE 2 a b fl 0 a.length) = srt (pickE 2 a b fl 0 a.length ++ []) by rw [List.append_nil]) | exact .lstrow _ _ _ _ _ _ _ rfl (show srt (pickE 2 a b fl 0 a.length) = srt (pickE 2 a b fl 0 a.length ++ []) by rw [List.append_nil]) | exact .nilrow _ _ _ _ _ (show srt (pickE 2 a b fl 0 a.length) = srt (pickE 2 a b fl 0 a.length ++ []) by rw [List.append_nil]) | exact .truncrow _ _ _ _ _ _ _ _ rfl (by omega) (show srt (pickE 2 a b fl 0 a.length) = srt (pickE 2 a b fl 0 a.length ++ []) by rw [List.append_nil]))⟩, trivial⟩)) ?_
      intro k hk2 _
      conv => whnf
      refine ⟨fun hc3 => ?_, fun hc3 => ?_⟩
      · simp only [decide_eq_true_eq] at hc3
        have hlt : k < b.length := by omega
        have f1 : pickE 1 a b fl 0 a.length ++ pickE 1 b a fl 1 (k + 1) = if cls b a fl 1 k = 1 then (pickE 1 a b fl 0 a.length ++ pickE 1 b a fl 1 k) ++ [b.getD k e0] else pickE 1 a b fl 0 a.length ++ pickE 1 b a fl 1 k := by rw [pick_snoc]; split <;> simp [List.append_assoc]
        have f2 : pickE 2 a b fl 0 a.length ++ pickE 2 b a fl 1 (k + 1) = if cls b a fl 1 k = 2 then (pickE 2 a b fl 0 a.length ++ pickE 2 b a fl 1 k) ++ [b.getD k e0] else pickE 2 a b fl 0 a.length ++ pickE 2 b a fl 1 k := by rw [pick_snoc]; split <;> simp [List.append_assoc]
        have l1 : (pickE 1 a b fl 0 a.length ++ pickE 1 b a fl 1 k).length ≤ 1000 := by have := pick_len 1 b a fl 1 k; have := pick_len 1 a b fl 0 a.length; (try rw [List.length_append]); omega
        have l2 : (pickE 2 a b fl 0 a.length ++ pickE 2 b a fl 1 k).length ≤ 1000 := by have := pick_len 2 b a fl 1 k; have := pick_len 2 a b fl 0 a.length; (try rw [List.length_append]); omega
        have hck : b.getD (k : Int).toNat e0 = b.getD k e0 := by rw [Int.toNat_natCast]
        unfold cls at f1 f2
        generalize hP' : pickE 1 a b fl 0 a.length ++ pickE 1 b a fl 1 (k + 1) = P' at *
        generalize hQ' : pickE 2 a b fl 0 a.length ++ pickE 2 b a fl 1 (k + 1) = Q' at *
        generalize pickE 1 a b fl 0 a.length ++ pickE 1 b a fl 1 k = P at *
        generalize pickE 2 a b fl 0 a.length ++ pickE 2 b a fl 1 k = Q at *
        generalize he : b.getD k e0 = e at *
        conv => whnf
        refine And.intro ⟨by omega, by omega⟩ ?_; conv => whnf
        refine And.intro rfl ?_; conv => whnf
        rw [hck]
        refine .one _ _ _ (fun _ => hata e.id) (by repeat (first | exact .nil | (apply BorL.cons; first | exact lS rfl | exact lR rfl | exact lM rfl rfl | exact lL rfl | exact lX rfl | exact lN | exact lNl | exact lSm rfl | exact lIm rfl | exact lGm rfl | exact lP rfl | exact lQ rfl | exact lB rfl rfl rfl))) (by first | exact .inl rfl | exact .inr (by repeat (first | exact flats_nil | refine flats_cons (by first | exact flat_val _ rfl | exact flat_row (fun _ => rfl) | exact flat_lst (fun _ => rfl)) ?_))) (by first | exact .inr rfl | exact .inl rfl) ?_
        conv => whnf
        refine ⟨fun hd => ?_, fun hd => ?_⟩
        · simp only [decide_eq_true_eq] at hd
          rw [if_pos hd] at f1 f2
          conv => whnf
          refine .one _ _ _ (fun _ => hway 1 k) (by repeat (first | exact .nil | (apply BorL.cons; first | exact lS rfl | exact lR rfl | exact lM rfl rfl | exact lL rfl | exact lX rfl | exact lN | exact lNl | exact lSm rfl | exact lIm rfl | exact lGm rfl | exact lP rfl | exact lQ rfl | exact lB rfl rfl rfl))) (by first | exact .inl rfl | exact .inr (by repeat (first | exact flats_nil | refine flats_cons (by first | exact flat_val _ rfl | exact flat_row (fun _ => rfl) | exact flat_lst (fun _ => rfl)) ?_))) (by first | exact .inr rfl | exact .inl rfl) ?_
          conv => whnf
          refine ⟨fun hd2 => ?_, fun hd2 => ?_⟩
          · rw [if_pos hd2, if_pos rfl] at f1
            rw [if_pos hd2, if_neg (by decide)] at f2
            have hput := put_ok (srt P) e (by rw [srt_len]; omega)
            rw [← srt_snoc] at hput
            conv => whnf
            refine And.intro ⟨by omega, by omega⟩ ?_; conv => whnf
            refine And.intro rfl ?_; conv => whnf
            rw [hck]
            refine .one _ _ _ (fun _ => hput) (by repeat (first | exact .nil | (apply BorL.cons; first | exact lS rfl | exact lR rfl | exact lM rfl rfl | exact lL rfl | exact lX rfl | exact lN | exact lNl | exact lSm rfl | exact lIm rfl | exact lGm rfl | exact lP rfl | exact lQ rfl | exact lB rfl rfl rfl))) (by first | exact .inl rfl | exact .inr (by repeat (first | exact flats_nil | refine flats_cons (by first | exact flat_val _ rfl | exact flat_row (fun _ => rfl) | exact flat_lst (fun _ => rfl)) ?_))) (by first | exact .inr rfl | exact .inl rfl) ?_
            conv => whnf
            refine And.intro ⟨by omega, by omega⟩ ?_; conv => whnf
            refine up hlt trivial ((wk_of [(0, .id 2), (1, .id 1)] rfl ⟨.base (.tree _ _ rfl rfl), .base (.tree _ _ rfl rfl), .base (.tree _ _ rfl rfl), (by first | exact .base (.own _ _ rfl) | exact .base (.nilown _ rfl) | exact .base (.trunc _ _ _ rfl)), (by first | exact .base (.own _ _ rfl) | exact .base (.nilown _ rfl) | exact .base (.trunc _ _ _ rfl)), .base (.tree _ _ rfl rfl), .base (.tree _ _ rfl rfl), .base (.tree _ _ rfl rfl), .base (.tree _ _ rfl rfl), trivial⟩ ⟨⟨_, rfl, (by first | exact .row _ _ _ _ _ _ _ rfl (show srt (P ++ [e]) = srt (pickE 1 a b fl 0 a.length ++ pickE 1 b a fl 1 (k + 1)) by rw [hP', f1]) | exact .lstrow _ _ _ _ _ _ _ rfl (show srt (P ++ [e]) = srt (pickE 1 a b fl 0 a.length ++ pickE 1 b a fl 1 (k + 1)) by rw [hP', f1]) | exact .nilrow _ _ _ _ _ (show srt (P ++ [e]) = srt (pickE 1 a b fl 0 a.length ++ pickE 1 b a fl 1 (k + 1)) by rw [hP', f1]) | exact .truncrow _ _ _ _ _ _ _ _ rfl (by omega) (show srt (P ++ [e]) = srt (pickE 1 a b fl 0 a.length ++ pickE 1 b a fl 1 (k + 1)) by rw [hP', f1]))⟩, ⟨_, rfl, (by first | exact .row _ _ _ _ _ _ _ rfl (show srt Q = srt (pickE 2 a b fl 0 a.length ++ pickE 2 b a fl 1 (k + 1)) by rw [hQ', f2]) | exact .lstrow _ _ _ _ _ _ _ rfl (show srt Q = srt (pickE 2 a b fl 0 a.length ++ pickE 2 b a fl 1 (k + 1)) by rw [hQ', f2]) | exact .nilrow _ _ _ _ _ (show srt Q = srt (pickE 2 a b fl 0 a.length ++ pickE 2 b a fl 1 (k + 1)) by rw [hQ', f2]) | exact .truncrow _ _ _ _ _ _ _ _ rfl (by omega) (show srt Q = srt (pickE 2 a b fl 0 a.length ++ pickE 2 b a fl 1 (k + 1)) by rw [hQ', f2]))⟩, trivial⟩))
          · have hd2' : ¬ wayB fl 1 (k : Int) = true := by rw [hd2]; exact Bool.noConfusion
            rw [if_neg hd2', if_neg (by decide)] at f1
            rw [if_neg hd2', if_pos rfl] at f2
            have hput := put_ok (srt Q) e (by rw [srt_len]; omega)
            rw [← srt_snoc] at hput
            conv => whnf
            refine And.intro ⟨by omega, by omega⟩ ?_; conv => whnf
            refine And.intro rfl ?_; conv => whnf
            rw [hck]
            refine .one _ _ _ (fun _ => hput) (by repeat (first | exact .nil | (apply BorL.cons; first | exact lS rfl | exact lR rfl | exact lM rfl rfl | exact lL rfl | exact lX rfl | exact lN | exact lNl | exact lSm rfl | exact lIm rfl | exact lGm rfl | exact lP rfl | exact lQ rfl | exact lB rfl rfl rfl))) (by first | exact .inl rfl | exact .inr (by repeat (first | exact flats_nil | refine flats_cons (by first | exact flat_val _ rfl | exact flat_row (fun _ => rfl) | exact flat_lst (fun _ => rfl)) ?_))) (by first | exact .inr rfl | exact .inl rfl) ?_
            conv => whnf
            refine And.intro ⟨by omega, by omega⟩ ?_; conv => whnf
            refine up hlt trivial ((wk_of [(0, .id 0), (1, .id 2)] rfl ⟨.base (.tree _ _ rfl rfl), .base (.tree _ _ rfl rfl), .base (.tree _ _ rfl rfl), (by first | exact .base (.own _ _ rfl) | exact .base (.nilown _ rfl) | exact .base (.trunc _ _ _ rfl)), (by first | exact .base (.own _ _ rfl) | exact .base (.nilown _ rfl) | exact .base (.trunc _ _ _ rfl)), .base (.tree _ _ rfl rfl), .base (.tree _ _ rfl rfl), .base (.tree _ _ rfl rfl), .base (.tree _ _ rfl rfl), trivial⟩ ⟨⟨_, rfl, (by first | exact .row _ _ _ _ _ _ _ rfl (show srt P = srt (pickE 1 a b fl 0 a.length ++ pickE 1 b a fl 1 (k + 1)) by rw [hP', f1]) | exact .lstrow _ _ _ _ _ _ _ rfl (show srt P = srt (pickE 1 a b fl 0 a.length ++ pickE 1 b a fl 1 (k + 1)) by rw [hP', f1]) | exact .nilrow _ _ _ _ _ (show srt P = srt (pickE 1 a b fl 0 a.length ++ pickE 1 b a fl 1 (k + 1)) by rw [hP', f1]) | exact .truncrow _ _ _ _ _ _ _ _ rfl (by omega) (show srt P = srt (pickE 1 a b fl 0 a.length ++ pickE 1 b a fl 1 (k + 1)) by rw [hP', f1]))⟩, ⟨_, rfl, (by first | exact .row _ _ _ _ _ _ _ rfl (show srt (Q ++ [e]) = srt (pickE 2 a b fl 0 a.length ++ pickE 2 b a fl 1 (k + 1)) by rw [hQ', f2]) | exact .lstrow _ _ _ _ _ _ _ rfl (show srt (Q ++ [e]) = srt (pickE 2 a b fl 0 a.length ++ pickE 2 b a fl 1 (k + 1)) by rw [hQ', f2]) | exact .nilrow _ _ _ _ _ (show srt (Q ++ [e]) = srt (pickE 2 a b fl 0 a.length ++ pickE 2 b a fl 1 (k + 1)) by rw [hQ', f2]) | exact .truncrow _ _ _ _ _ _ _ _ rfl (by omega) (show srt (Q ++ [e]) = srt (pickE 2 a b fl 0 a.length ++ pickE 2 b a fl 1 (k + 1)) by rw [hQ', f2]))⟩, trivial⟩))
        · simp only [decide_eq_false_iff_not] at hd
          have hat2 := atI_lt hd
          rw [if_neg hd] at f1 f2
          conv => whnf
          refine .quiet (by kernel_rfl) ?_; conv => whnf
          refine And.intro ⟨by omega, by omega⟩ ?_; conv => whnf
          refine And.intro rfl ?_; conv => whnf
          refine And.intro ⟨by omega, by omega⟩ ?_; conv => whnf
          refine And.intro rfl ?_; conv => whnf
          rw [hck]
          refine ⟨⟨by kernel_rfl, by kernel_rfl⟩, ?_⟩
          conv => whnf
          refine ⟨fun hd3 => ?_, fun hd3 => ?_⟩
          · have hq : ¬ eqE (a.getD (atI a e.id).toNat e0) e = true := by
              intro h
              have h2 : (!eqE (a.getD (atI a e.id).toNat e0) e) = true := hd3
              rw [h] at h2
              exact Bool.noConfusion h2
            rw [if_neg hq, if_neg (by decide)] at f1
            rw [if_neg hq, if_pos rfl] at f2
            have hput := put_ok (srt Q) e (by rw [srt_len]; omega)
            rw [← srt_snoc] at hput
            conv => whnf
            refine And.intro ⟨by omega, by omega⟩ ?_; conv => whnf
            refine And.intro rfl ?_; conv => whnf
            rw [hck]
            refine .one _ _ _ (fun _ => hput) (by repeat (first | exact .nil | (apply BorL.cons; first | exact lS rfl | exact lR rfl | exact lM rfl rfl | exact lL rfl | exact lX rfl | exact lN | exact lNl | exact lSm rfl | exact lIm rfl | exact lGm rfl | exact lP rfl | exact lQ rfl | exact lB rfl rfl rfl))) (by first | exact .inl rfl | exact .inr (by repeat (first | exact flats_nil | refine flats_cons (by first | exact flat_val _ rfl | exact flat_row (fun _ => rfl) | exact flat_lst (fun _ => rfl)) ?_))) (by first | exact .inr rfl | exact .inl rfl) ?_
            conv => whnf
            refine And.intro ⟨by omega, by omega⟩ ?_; conv => whnf
            refine up hlt trivial ((wk_of [(0, .id 0), (1, .id 2)] rfl ⟨.base (.tree _ _ rfl rfl), .base (.tree _ _ rfl rfl), .base (.tree _ _ rfl rfl), (by first | exact .base (.own _ _ rfl) | exact .base (.nilown _ rfl) | exact .base (.trunc _ _ _ rfl)), (by first | exact .base (.own _ _ rfl) | exact .base (.nilown _ rfl) | exact .base (.trunc _ _ _ rfl)), .base (.tree _ _ rfl rfl), .base (.tree _ _ rfl rfl), .base (.tree _ _ rfl rfl), .base (.tree _ _ rfl rfl), trivial⟩ ⟨⟨_, rfl, (by first | exact .row _ _ _ _ _ _ _ rfl (show srt P = srt (pickE 1 a b fl 0 a.length ++ pickE 1 b a fl 1 (k + 1)) by rw [hP', f1]) | exact .lstrow _ _ _ _ _ _ _ rfl (show srt P = srt (pickE 1 a b fl 0 a.length ++ pickE 1 b a fl 1 (k + 1)) by rw [hP', f1]) | exact .nilrow _ _ _ _ _ (show srt P = srt (pickE 1 a b fl 0 a.length ++ pickE 1 b a fl 1 (k + 1)) by rw [hP', f1]) | exact .truncrow _ _ _ _ _ _ _ _ rfl (by omega) (show srt P = srt (pickE 1 a b fl 0 a.length ++ pickE 1 b a fl 1 (k + 1)) by rw [hP', f1]))⟩, ⟨_, rfl, (by first | exact .row _ _ _ _ _ _ _ rfl (show srt (Q ++ [e]) = srt (pickE 2 a b fl 0 a.length ++ pickE 2 b a fl 1 (k + 1)) by rw [hQ', f2]) | exact .lstrow _ _ _ _ _ _ _ rfl (show srt (Q ++ [e]) = srt (pickE 2 a b fl 0 a.length ++ pickE 2 b a fl 1 (k + 1)) by rw [hQ', f2]) | exact .nilrow _ _ _ _ _ (show srt (Q ++ [e]) = srt (pickE 2 a b fl 0 a.length ++ pickE 2 b a fl 1 (k + 1)) by rw [hQ', f2]) | exact .truncrow _ _ _ _ _ _ _ _ rfl (by omega) (show srt (Q ++ [e]) = srt (pickE 2 a b fl 0 a.length ++ pickE 2 b a fl 1 (k + 1)) by rw [hQ', f2]))⟩, trivial⟩))
          · have hq : eqE (a.getD (atI a e.id).toNat e0) e = true := by
              have h2 : (!eqE (a.getD (atI a e.id).toNat e0) e) = false := hd3
              simpa using h2
            rw [if_pos hq, if_neg (by decide)] at f1 f2
            conv => whnf
            refine And.intro ⟨by omega, by omega⟩ ?_; conv => whnf
            refine up hlt trivial ((wk_of [(0, .id 0), (1, .id 1)] rfl ⟨.base (.tree _ _ rfl rfl), .base (.tree _ _ rfl rfl), .base (.tree _ _ rfl rfl), (by first | exact .base (.own _ _ rfl) | exact .base (.nilown _ rfl) | exact .base (.trunc _ _ _ rfl)), (by first | exact .base (.own _ _ rfl) | exact .base (.nilown _ rfl) | exact .base (.trunc _ _ _ rfl)), .base (.tree _ _ rfl rfl), .base (.tree _ _ rfl rfl), .base (.tree _ _ rfl rfl), .base (.tree _ _ rfl rfl), trivial⟩ ⟨⟨_, rfl, (by first | exact .row _ _ _ _ _ _ _ rfl (show srt P = srt (pickE 1 a b fl 0 a.length ++ pickE 1 b a fl 1 (k + 1)) by rw [hP', f1]) | exact .lstrow _ _ _ _ _ _ _ rfl (show srt P = srt (pickE 1 a b fl 0 a.length ++ pickE 1 b a fl 1 (k + 1)) by rw [hP', f1]) | exact .nilrow _ _ _ _ _ (show srt P = srt (pickE 1 a b fl 0 a.length ++ pickE 1 b a fl 1 (k + 1)) by rw [hP', f1]) | exact .truncrow _ _ _ _ _ _ _ _ rfl (by omega) (show srt P = srt (pickE 1 a b fl 0 a.length ++ pickE 1 b a fl 1 (k + 1)) by rw [hP', f1]))⟩, ⟨_, rfl, (by first | exact .row _ _ _ _ _ _ _ rfl (show srt Q = srt (pickE 2 a b fl 0 a.length ++ pickE 2 b a fl 1 (k + 1)) by rw [hQ', f2]) | exact .lstrow _ _ _ _ _ _ _ rfl (show srt Q = srt (pickE 2 a b fl 0 a.length ++ pickE 2 b a fl 1 (k + 1)) by rw [hQ', f2]) | exact .nilrow _ _ _ _ _ (show srt Q = srt (pickE 2 a b fl 0 a.length ++ pickE 2 b a fl 1 (k + 1)) by rw [hQ', f2]) | exact .truncrow _ _ _ _ _ _ _ _ rfl (by omega) (show srt Q = srt (pickE 2 a b fl 0 a.length ++ pickE 2 b a fl 1 (k + 1)) by rw [hQ', f2]))⟩, trivial⟩))
      · simp only [decide_eq_false_iff_not] at hc3
        obtain rfl : k = b.length := by omega
        conv => whnf
        refine And.intro ⟨by omega, by omega⟩ ?_; conv => whnf
        refine up (by omega) trivial ((wk_of [(0, .id 0), (1, .id 1)] rfl ⟨.base (.tree _ _ rfl rfl), .base (.tree _ _ rfl rfl), .base (.tree _ _ rfl rfl), (by first | exact .base (.own _ _ rfl) | exact .base (.nilown _ rfl) | exact .base (.trunc _ _ _ rfl)), (by first | exact .base (.own _ _ rfl) | exact .base (.nilown _ rfl) | exact .base (.trunc _ _ _ rfl)), .base (.tree _ _ rfl rfl), trivial⟩ ⟨⟨_, rfl, (by first | exact .row _ _ _ _ _ _ _ rfl rfl | exact .lstrow _ _ _ _ _ _ _ rfl rfl | exact .nilrow _ _ _ _ _ rfl | exact .truncrow _ _ _ _ _ _ _ _ rfl (by omega) rfl)⟩, ⟨_, rfl, (by first | exact .row _ _ _ _ _ _ _ rfl rfl | exact .lstrow _ _ _ _ _ _ _ rfl rfl | exact .nilrow _ _ _ _ _ rfl | exact .truncrow _ _ _ _ _ _ _ _ rfl (by omega) rfl)⟩, trivial⟩))
  · simp only [decide_eq_false_iff_not] at hc2
    obtain rfl : n = 2 := by omega
    conv => whnf
    rfl

end Go.Proofs.YtjlnaogechkjdaaDoor

namespace Go.Proofs.YtjlnaogechkjdaaDoor
open Go.Own
set_option maxHeartbeats 4000000
set_option maxRecDepth 100000

theorem text_inj {x y : Ent} (hx : rightE x = true) (hy : rightE y = true) (h : textQ x = textQ y) : x = y := by
  unfold textQ at h
  rw [if_pos hx, if_pos hy] at h
  rw [← (read_back hx).2, ← (read_back hy).2, h]
theorem read_text {x : Ent} (hx : rightE x = true) : readC (textQ x) = 0 ∧ readE (textQ x) = x := by
  obtain ⟨h1, h2⟩ := read_back hx
  have hq : textQ x = textE x := by unfold textQ; rw [if_pos hx]
  unfold readC readE
  rw [hq, if_pos h1, if_pos h1, h2]
  exact ⟨rfl, rfl⟩

/-! ### The example -/
def en (i n : Int) : Ent := ⟨i, 0, 0, 1, n⟩
def xa : List Ent := [en 1 5, en 2 5, en 3 5]
def xb : List Ent := [en 1 5, en 2 6, en 4 5]
def mb : Msg := ⟨1, 0, 0, 2⟩
theorem c1 : okC xa xb [] = true ∧ srt (rawI xa xb []) = [] ∧ srt (rawO xa xb []) = [en 2 5, en 2 6, en 3 5, en 4 5] := by decide
theorem c2 : okC xa xb [⟨0, 1, 0, 2⟩] = true ∧ srt (rawI xa xb [⟨0, 1, 0, 2⟩]) = [en 3 5] ∧ srt (rawO xa xb [⟨0, 1, 0, 2⟩]) = [en 2 5, en 2 6, en 4 5] := by decide
theorem c3 : okC xa xb [⟨0, 1, 0, 0⟩, mb, mb] = true ∧ srt (rawI xa xb [⟨0, 1, 0, 0⟩, mb, mb]) = [en 4 5] ∧ srt (rawO xa xb [⟨0, 1, 0, 0⟩, mb, mb]) = [en 2 5, en 2 6, en 3 5] := by decide
theorem idx_nil (s : Seal) : idxS [] s = 0 := rfl
theorem sm1 (A B : List UInt8) (h : A ≠ B) : signL [] 3 A = [⟨3, A⟩] ∧ signV [] 3 A = ⟨3, A, 0⟩ ∧ signL [⟨3, A⟩] 3 B = [⟨3, A⟩, ⟨3, B⟩] ∧ signV [⟨3, A⟩] 3 B = ⟨3, B, 1⟩ ∧
    signL [⟨3, A⟩, ⟨3, B⟩] 4 B = [⟨3, A⟩, ⟨3, B⟩, ⟨4, B⟩] ∧ signV [⟨3, A⟩, ⟨3, B⟩] 4 B = ⟨4, B, 2⟩ := by
  have h2 : ¬ B = A := fun e => h e.symm
  have k3 : keyB 3 = true := by decide
  have k4 : keyB 4 = true := by decide
  refine ⟨?_, ?_, ?_, ?_, ?_, ?_⟩ <;> simp [signL, signV, k3, k4, idxS_cons, idx_nil, h, h2]
theorem sm2 (A B : List UInt8) (h : A ≠ B) (x y : Ent) (hid : x.id = y.id) (hxy : x ≠ y) (rA : readC A = 0 ∧ readE A = x) (rB : readC B = 0 ∧ readE B = y) :
    convR sgB [⟨3, A⟩, ⟨3, B⟩, ⟨4, B⟩] ⟨3, A, 0⟩ ⟨3, B, 1⟩ = 0 ∧ convR sgB [⟨3, A⟩, ⟨3, B⟩, ⟨4, B⟩] ⟨3, A, 0⟩ ⟨3, A, 0⟩ = 5 ∧ convR sgB [⟨3, A⟩, ⟨3, B⟩, ⟨4, B⟩] ⟨3, A, 0⟩ ⟨4, B, 2⟩ = 18 := by
  have h2 : ¬ B = A := fun e => h e.symm
  refine ⟨?_, ?_, ?_⟩ <;> simp [convR, sgB, idxS_cons, idx_nil, h, h2, rA.1, rA.2, rB.1, rB.2, hid, hxy]
theorem small_ok : APureV Tryd.prog 7 [] (.bool true) := by
  have e15 := entry_ok 1 5
  have e25 := entry_ok 2 5
  have e35 := entry_ok 3 5
  have e26 := entry_ok 2 6
  have e45 := entry_ok 4 5
  have h1 := compare_ok xa xb [] (by decide) (by decide) (by decide)
  have h2 := compare_ok xa xb [⟨0, 1, 0, 2⟩] (by decide) (by decide) (by decide)
  have h3 := compare_ok xa xb [⟨0, 1, 0, 0⟩, mb, mb] (by decide) (by decide) (by decide)
  rw [if_pos c1.1, c1.2.1, c1.2.2] at h1
  rw [if_pos c2.1, c2.2.1, c2.2.2] at h2
  rw [if_pos c3.1, c3.2.1, c3.2.2] at h3
  have s1 := same_ok [en 2 5, en 2 6, en 3 5, en 4 5] [en 2 5, en 2 6, en 3 5, en 4 5] (by decide) (by decide)
  have s2 := same_ok [en 3 5] [en 3 5] (by decide) (by decide)
  have s3 := same_ok [en 2 5, en 2 6, en 4 5] [en 2 5, en 2 6, en 4 5] (by decide) (by decide)
  have s4 := same_ok [en 4 5] [en 4 5] (by decide) (by decide)
  have s5 := same_ok [en 2 5, en 2 6, en 3 5] [en 2 5, en 2 6, en 3 5] (by decide) (by decide)
  rw [decide_eq_true rfl] at s1 s2 s3 s4 s5
  have r25 : rightE (en 2 5) = true := by decide
  have r26 : rightE (en 2 6) = true := by decide
  have hne : textQ (en 2 5) ≠ textQ (en 2 6) := fun h => absurd (text_inj r25 r26 h) (by decide)
  have rA := read_text r25
  have rB := read_text r26
  have tA := text_ok (en 2 5)
  have tB := text_ok (en 2 6)
  have lA := textQ_len (en 2 5)
  have lB := textQ_len (en 2 6)
  generalize textQ (en 2 5) = A at *
  generalize textQ (en 2 6) = B at *
  obtain ⟨g1, v1, g2, v2, g3, v3⟩ := sm1 A B hne
  obtain ⟨k1, k2, k3⟩ := sm2 A B hne _ _ (show (en 2 5).id = (en 2 6).id from rfl) (by decide) rA rB
  have n1 := sign_ok [] (by decide) 3 A
  have n2 := sign_ok [⟨3, A⟩] (by simp) 3 B
  have n3 := sign_ok [⟨3, A⟩, ⟨3, B⟩] (by simp) 4 B
  rw [g1, v1] at n1
  rw [g2, v2] at n2
  rw [g3, v3] at n3
  have w1 := convict_ok [⟨3, A⟩, ⟨3, B⟩, ⟨4, B⟩] ⟨3, A, 0⟩ ⟨3, B, 1⟩ (by simp only; omega) (by simp only; omega)
  have w2 := convict_ok [⟨3, A⟩, ⟨3, B⟩, ⟨4, B⟩] ⟨3, A, 0⟩ ⟨3, A, 0⟩ (by simp only; omega) (by simp only; omega)
  have w3 := convict_ok [⟨3, A⟩, ⟨3, B⟩, ⟨4, B⟩] ⟨3, A, 0⟩ ⟨4, B, 2⟩ (by simp only; omega) (by simp only; omega)
  rw [k1] at w1
  rw [k2] at w2
  rw [k3] at w3
  refine apure_of (C := cx 147 [0, 1, 2, 3, 4, 5, 6, 7, 8, 9, 10, 11, 12, 13, 100]) (cxOk _ _) Tryd.func7 rfl (by decide) rfl (by exact Nat.le_of_ble_eq_true rfl) (by decide) ?_
  conv => whnf
  refine .one _ _ _ (fun _ => e15) (by repeat (first | exact .nil | (apply BorL.cons; first | exact lS rfl | exact lR rfl | exact lM rfl rfl | exact lL rfl | exact lX rfl | exact lN | exact lNl | exact lSm rfl | exact lIm rfl | exact lGm rfl | exact lP rfl | exact lQ rfl | exact lB rfl rfl rfl))) (by first | exact .inl rfl | exact .inr (by repeat (first | exact flats_nil | refine flats_cons (by first | exact flat_val _ rfl | exact flat_row (fun _ => rfl) | exact flat_lst (fun _ => rfl)) ?_))) (by first | exact .inr rfl | exact .inl rfl) ?_
  conv => whnf
  refine .one _ _ _ (fun _ => e25) (by repeat (first | exact .nil | (apply BorL.cons; first | exact lS rfl | exact lR rfl | exact lM rfl rfl | exact lL rfl | exact lX rfl | exact lN | exact lNl | exact lSm rfl | exact lIm rfl | exact lGm rfl | exact lP rfl | exact lQ rfl | exact lB rfl rfl rfl))) (by first | exact .inl rfl | exact .inr (by repeat (first | exact flats_nil | refine flats_cons (by first | exact flat_val _ rfl | exact flat_row (fun _ => rfl) | exact flat_lst (fun _ => rfl)) ?_))) (by first | exact .inr rfl | exact .inl rfl) ?_
  conv => whnf
  refine .one _ _ _ (fun _ => e35) (by repeat (first | exact .nil | (apply BorL.cons; first | exact lS rfl | exact lR rfl | exact lM rfl rfl | exact lL rfl | exact lX rfl | exact lN | exact lNl | exact lSm rfl | exact lIm rfl | exact lGm rfl | exact lP rfl | exact lQ rfl | exact lB rfl rfl rfl))) (by first | exact .inl rfl | exact .inr (by repeat (first | exact flats_nil | refine flats_cons (by first | exact flat_val _ rfl | exact flat_row (fun _ => rfl) | exact flat_lst (fun _ => rfl)) ?_))) (by first | exact .inr rfl | exact .inl rfl) ?_
  conv => whnf
  refine .one _ _ _ (fun _ => e15) (by repeat (first | exact .nil | (apply BorL.cons; first | exact lS rfl | exact lR rfl | exact lM rfl rfl | exact lL rfl | exact lX rfl | exact lN | exact lNl | exact lSm rfl | exact lIm rfl | exact lGm rfl | exact lP rfl | exact lQ rfl | exact lB rfl rfl rfl))) (by first | exact .inl rfl | exact .inr (by repeat (first | exact flats_nil | refine flats_cons (by first | exact flat_val _ rfl | exact flat_row (fun _ => rfl) | exact flat_lst (fun _ => rfl)) ?_))) (by first | exact .inr rfl | exact .inl rfl) ?_
  conv => whnf
  refine .one _ _ _ (fun _ => e26) (by repeat (first | exact .nil | (apply BorL.cons; first | exact lS rfl | exact lR rfl | exact lM rfl rfl | exact lL rfl | exact lX rfl | exact lN | exact lNl | exact lSm rfl | exact lIm rfl | exact lGm rfl | exact lP rfl | exact lQ rfl | exact lB rfl rfl rfl))) (by first | exact .inl rfl | exact .inr (by repeat (first | exact flats_nil | refine flats_cons (by first | exact flat_val _ rfl | exact flat_row (fun _ => rfl) | exact flat_lst (fun _ => rfl)) ?_))) (by first | exact .inr rfl | exact .inl rfl) ?_
  conv => whnf
  refine .one _ _ _ (fun _ => e45) (by repeat (first | exact .nil | (apply BorL.cons; first | exact lS rfl | exact lR rfl | exact lM rfl rfl | exact lL rfl | exact lX rfl | exact lN | exact lNl | exact lSm rfl | exact lIm rfl | exact lGm rfl | exact lP rfl | exact lQ rfl | exact lB rfl rfl rfl))) (by first | exact .inl rfl | exact .inr (by repeat (first | exact flats_nil | refine flats_cons (by first | exact flat_val _ rfl | exact flat_row (fun _ => rfl) | exact flat_lst (fun _ => rfl)) ?_))) (by first | exact .inr rfl | exact .inl rfl) ?_
  conv => whnf
  refine .one _ _ _ (fun _ => h1) (by repeat (first | exact .nil | (apply BorL.cons; first | exact lS rfl | exact lR rfl | exact lM rfl rfl | exact lL rfl | exact lX rfl | exact lN | exact lNl | exact lSm rfl | exact lIm rfl | exact lGm rfl | exact lP rfl | exact lQ rfl | exact lB rfl rfl rfl))) (by first | exact .inl rfl | exact .inr (by repeat (first | exact flats_nil | refine flats_cons (by first | exact flat_val _ rfl | exact flat_row (fun _ => rfl) | exact flat_lst (fun _ => rfl)) ?_))) (by first | exact .inr rfl | exact .inl rfl) ?_
  conv => whnf
  refine And.intro (fun _ => ?_) (fun h => absurd h (by decide)); conv => whnf
  refine .one _ _ _ (fun _ => e25) (by repeat (first | exact .nil | (apply BorL.cons; first | exact lS rfl | exact lR rfl | exact lM rfl rfl | exact lL rfl | exact lX rfl | exact lN | exact lNl | exact lSm rfl | exact lIm rfl | exact lGm rfl | exact lP rfl | exact lQ rfl | exact lB rfl rfl rfl))) (by first | exact .inl rfl | exact .inr (by repeat (first | exact flats_nil | refine flats_cons (by first | exact flat_val _ rfl | exact flat_row (fun _ => rfl) | exact flat_lst (fun _ => rfl)) ?_))) (by first | exact .inr rfl | exact .inl rfl) ?_
  conv => whnf
  refine And.intro (fun _ => ?_) (fun h => absurd h (by decide)); conv => whnf
  refine .one _ _ _ (fun _ => e26) (by repeat (first | exact .nil | (apply BorL.cons; first | exact lS rfl | exact lR rfl | exact lM rfl rfl | exact lL rfl | exact lX rfl | exact lN | exact lNl | exact lSm rfl | exact lIm rfl | exact lGm rfl | exact lP rfl | exact lQ rfl | exact lB rfl rfl rfl))) (by first | exact .inl rfl | exact .inr (by repeat (first | exact flats_nil | refine flats_cons (by first | exact flat_val _ rfl | exact flat_row (fun _ => rfl) | exact flat_lst (fun _ => rfl)) ?_))) (by first | exact .inr rfl | exact .inl rfl) ?_
  conv => whnf
  refine And.intro (fun _ => ?_) (fun h => absurd h (by decide)); conv => whnf
  refine .one _ _ _ (fun _ => e35) (by repeat (first | exact .nil | (apply BorL.cons; first | exact lS rfl | exact lR rfl | exact lM rfl rfl | exact lL rfl | exact lX rfl | exact lN | exact lNl | exact lSm rfl | exact lIm rfl | exact lGm rfl | exact lP rfl | exact lQ rfl | exact lB rfl rfl rfl))) (by first | exact .inl rfl | exact .inr (by repeat (first | exact flats_nil | refine flats_cons (by first | exact flat_val _ rfl | exact flat_row (fun _ => rfl) | exact flat_lst (fun _ => rfl)) ?_))) (by first | exact .inr rfl | exact .inl rfl) ?_
  conv => whnf
  refine And.intro (fun _ => ?_) (fun h => absurd h (by decide)); conv => whnf
  refine .one _ _ _ (fun _ => e45) (by repeat (first | exact .nil | (apply BorL.cons; first | exact lS rfl | exact lR rfl | exact lM rfl rfl | exact lL rfl | exact lX rfl | exact lN | exact lNl | exact lSm rfl | exact lIm rfl | exact lGm rfl | exact lP rfl | exact lQ rfl | exact lB rfl rfl rfl))) (by first | exact .inl rfl | exact .inr (by repeat (first | exact flats_nil | refine flats_cons (by first | exact flat_val _ rfl | exact flat_row (fun _ => rfl) | exact flat_lst (fun _ => rfl)) ?_))) (by first | exact .inr rfl | exact .inl rfl) ?_
  conv => whnf
  refine And.intro (fun _ => ?_) (fun h => absurd h (by decide)); conv => whnf
  refine .one _ _ _ (fun _ => s1) (by repeat (first | exact .nil | (apply BorL.cons; first | exact lS rfl | exact lR rfl | exact lM rfl rfl | exact lL rfl | exact lX rfl | exact lN | exact lNl | exact lSm rfl | exact lIm rfl | exact lGm rfl | exact lP rfl | exact lQ rfl | exact lB rfl rfl rfl))) (by first | exact .inl rfl | exact .inr (by repeat (first | exact flats_nil | refine flats_cons (by first | exact flat_val _ rfl | exact flat_row (fun _ => rfl) | exact flat_lst (fun _ => rfl)) ?_))) (by first | exact .inr rfl | exact .inl rfl) ?_
  conv => whnf
  refine .one _ _ _ (fun _ => h2) (by repeat (first | exact .nil | (apply BorL.cons; first | exact lS rfl | exact lR rfl | exact lM rfl rfl | exact lL rfl | exact lX rfl | exact lN | exact lNl | exact lSm rfl | exact lIm rfl | exact lGm rfl | exact lP rfl | exact lQ rfl | exact lB rfl rfl rfl))) (by first | exact .inl rfl | exact .inr (by repeat (first | exact flats_nil | refine flats_cons (by first | exact flat_val _ rfl | exact flat_row (fun _ => rfl) | exact flat_lst (fun _ => rfl)) ?_))) (by first | exact .inr rfl | exact .inl rfl) ?_
  conv => whnf
  refine .one _ _ _ (fun _ => e35) (by repeat (first | exact .nil | (apply BorL.cons; first | exact lS rfl | exact lR rfl | exact lM rfl rfl | exact lL rfl | exact lX rfl | exact lN | exact lNl | exact lSm rfl | exact lIm rfl | exact lGm rfl | exact lP rfl | exact lQ rfl | exact lB rfl rfl rfl))) (by first | exact .inl rfl | exact .inr (by repeat (first | exact flats_nil | refine flats_cons (by first | exact flat_val _ rfl | exact flat_row (fun _ => rfl) | exact flat_lst (fun _ => rfl)) ?_))) (by first | exact .inr rfl | exact .inl rfl) ?_
  conv => whnf
  refine .one _ _ _ (fun _ => s2) (by repeat (first | exact .nil | (apply BorL.cons; first | exact lS rfl | exact lR rfl | exact lM rfl rfl | exact lL rfl | exact lX rfl | exact lN | exact lNl | exact lSm rfl | exact lIm rfl | exact lGm rfl | exact lP rfl | exact lQ rfl | exact lB rfl rfl rfl))) (by first | exact .inl rfl | exact .inr (by repeat (first | exact flats_nil | refine flats_cons (by first | exact flat_val _ rfl | exact flat_row (fun _ => rfl) | exact flat_lst (fun _ => rfl)) ?_))) (by first | exact .inr rfl | exact .inl rfl) ?_
  conv => whnf
  refine And.intro (fun _ => ?_) (fun h => absurd h (by decide)); conv => whnf
  refine .one _ _ _ (fun _ => e25) (by repeat (first | exact .nil | (apply BorL.cons; first | exact lS rfl | exact lR rfl | exact lM rfl rfl | exact lL rfl | exact lX rfl | exact lN | exact lNl | exact lSm rfl | exact lIm rfl | exact lGm rfl | exact lP rfl | exact lQ rfl | exact lB rfl rfl rfl))) (by first | exact .inl rfl | exact .inr (by repeat (first | exact flats_nil | refine flats_cons (by first | exact flat_val _ rfl | exact flat_row (fun _ => rfl) | exact flat_lst (fun _ => rfl)) ?_))) (by first | exact .inr rfl | exact .inl rfl) ?_
  conv => whnf
  refine And.intro (fun _ => ?_) (fun h => absurd h (by decide)); conv => whnf
  refine .one _ _ _ (fun _ => e26) (by repeat (first | exact .nil | (apply BorL.cons; first | exact lS rfl | exact lR rfl | exact lM rfl rfl | exact lL rfl | exact lX rfl | exact lN | exact lNl | exact lSm rfl | exact lIm rfl | exact lGm rfl | exact lP rfl | exact lQ rfl | exact lB rfl rfl rfl))) (by first | exact .inl rfl | exact .inr (by repeat (first | exact flats_nil | refine flats_cons (by first | exact flat_val _ rfl | exact flat_row (fun _ => rfl) | exact flat_lst (fun _ => rfl)) ?_))) (by first | exact .inr rfl | exact .inl rfl) ?_
  conv => whnf
  refine And.intro (fun _ => ?_) (fun h => absurd h (by decide)); conv => whnf
  refine .one _ _ _ (fun _ => e45) (by repeat (first | exact .nil | (apply BorL.cons; first | exact lS rfl | exact lR rfl | exact lM rfl rfl | exact lL rfl | exact lX rfl | exact lN | exact lNl | exact lSm rfl | exact lIm rfl | exact lGm rfl | exact lP rfl | exact lQ rfl | exact lB rfl rfl rfl))) (by first | exact .inl rfl | exact .inr (by repeat (first | exact flats_nil | refine flats_cons (by first | exact flat_val _ rfl | exact flat_row (fun _ => rfl) | exact flat_lst (fun _ => rfl)) ?_))) (by first | exact .inr rfl | exact .inl rfl) ?_
  conv => whnf
  refine And.intro (fun _ => ?_) (fun h => absurd h (by decide)); conv => whnf
  refine .one _ _ _ (fun _ => s3) (by repeat (first | exact .nil | (apply BorL.cons; first | exact lS rfl | exact lR rfl | exact lM rfl rfl | exact lL rfl | exact lX rfl | exact lN | exact lNl | exact lSm rfl | exact lIm rfl | exact lGm rfl | exact lP rfl | exact lQ rfl | exact lB rfl rfl rfl))) (by first | exact .inl rfl | exact .inr (by repeat (first | exact flats_nil | refine flats_cons (by first | exact flat_val _ rfl | exact flat_row (fun _ => rfl) | exact flat_lst (fun _ => rfl)) ?_))) (by first | exact .inr rfl | exact .inl rfl) ?_
  conv => whnf
  refine .one _ _ _ (fun _ => h3) (by repeat (first | exact .nil | (apply BorL.cons; first | exact lS rfl | exact lR rfl | exact lM rfl rfl | exact lL rfl | exact lX rfl | exact lN | exact lNl | exact lSm rfl | exact lIm rfl | exact lGm rfl | exact lP rfl | exact lQ rfl | exact lB rfl rfl rfl))) (by first | exact .inl rfl | exact .inr (by repeat (first | exact flats_nil | refine flats_cons (by first | exact flat_val _ rfl | exact flat_row (fun _ => rfl) | exact flat_lst (fun _ => rfl)) ?_))) (by first | exact .inr rfl | exact .inl rfl) ?_
  conv => whnf
  refine .one _ _ _ (fun _ => e45) (by repeat (first | exact .nil | (apply BorL.cons; first | exact lS rfl | exact lR rfl | exact lM rfl rfl | exact lL rfl | exact lX rfl | exact lN | exact lNl | exact lSm rfl | exact lIm rfl | exact lGm rfl | exact lP rfl | exact lQ rfl | exact lB rfl rfl rfl))) (by first | exact .inl rfl | exact .inr (by repeat (first | exact flats_nil | refine flats_cons (by first | exact flat_val _ rfl | exact flat_row (fun _ => rfl) | exact flat_lst (fun _ => rfl)) ?_))) (by first | exact .inr rfl | exact .inl rfl) ?_
  conv => whnf
  refine .one _ _ _ (fun _ => s4) (by repeat (first | exact .nil | (apply BorL.cons; first | exact lS rfl | exact lR rfl | exact lM rfl rfl | exact lL rfl | exact lX rfl | exact lN | exact lNl | exact lSm rfl | exact lIm rfl | exact lGm rfl | exact lP rfl | exact lQ rfl | exact lB rfl rfl rfl))) (by first | exact .inl rfl | exact .inr (by repeat (first | exact flats_nil | refine flats_cons (by first | exact flat_val _ rfl | exact flat_row (fun _ => rfl) | exact flat_lst (fun _ => rfl)) ?_))) (by first | exact .inr rfl | exact .inl rfl) ?_
  conv => whnf
  refine And.intro (fun _ => ?_) (fun h => absurd h (by decide)); conv => whnf
  refine .one _ _ _ (fun _ => e25) (by repeat (first | exact .nil | (apply BorL.cons; first | exact lS rfl | exact lR rfl | exact lM rfl rfl | exact lL rfl | exact lX rfl | exact lN | exact lNl | exact lSm rfl | exact lIm rfl | exact lGm rfl | exact lP rfl | exact lQ rfl | exact lB rfl rfl rfl))) (by first | exact .inl rfl | exact .inr (by repeat (first | exact flats_nil | refine flats_cons (by first | exact flat_val _ rfl | exact flat_row (fun _ => rfl) | exact flat_lst (fun _ => rfl)) ?_))) (by first | exact .inr rfl | exact .inl rfl) ?_
  conv => whnf
  refine And.intro (fun _ => ?_) (fun h => absurd h (by decide)); conv => whnf
  refine .one _ _ _ (fun _ => e26) (by repeat (first | exact .nil | (apply BorL.cons; first | exact lS rfl | exact lR rfl | exact lM rfl rfl | exact lL rfl | exact lX rfl | exact lN | exact lNl | exact lSm rfl | exact lIm rfl | exact lGm rfl | exact lP rfl | exact lQ rfl | exact lB rfl rfl rfl))) (by first | exact .inl rfl | exact .inr (by repeat (first | exact flats_nil | refine flats_cons (by first | exact flat_val _ rfl | exact flat_row (fun _ => rfl) | exact flat_lst (fun _ => rfl)) ?_))) (by first | exact .inr rfl | exact .inl rfl) ?_
  conv => whnf
  refine And.intro (fun _ => ?_) (fun h => absurd h (by decide)); conv => whnf
  refine .one _ _ _ (fun _ => e35) (by repeat (first | exact .nil | (apply BorL.cons; first | exact lS rfl | exact lR rfl | exact lM rfl rfl | exact lL rfl | exact lX rfl | exact lN | exact lNl | exact lSm rfl | exact lIm rfl | exact lGm rfl | exact lP rfl | exact lQ rfl | exact lB rfl rfl rfl))) (by first | exact .inl rfl | exact .inr (by repeat (first | exact flats_nil | refine flats_cons (by first | exact flat_val _ rfl | exact flat_row (fun _ => rfl) | exact flat_lst (fun _ => rfl)) ?_))) (by first | exact .inr rfl | exact .inl rfl) ?_
  conv => whnf
  refine And.intro (fun _ => ?_) (fun h => absurd h (by decide)); conv => whnf
  refine .one _ _ _ (fun _ => s5) (by repeat (first | exact .nil | (apply BorL.cons; first | exact lS rfl | exact lR rfl | exact lM rfl rfl | exact lL rfl | exact lX rfl | exact lN | exact lNl | exact lSm rfl | exact lIm rfl | exact lGm rfl | exact lP rfl | exact lQ rfl | exact lB rfl rfl rfl))) (by first | exact .inl rfl | exact .inr (by repeat (first | exact flats_nil | refine flats_cons (by first | exact flat_val _ rfl | exact flat_row (fun _ => rfl) | exact flat_lst (fun _ => rfl)) ?_))) (by first | exact .inr rfl | exact .inl rfl) ?_
  conv => whnf
  refine .raw _ _ rfl (fun h => by cases h) (rio_at (new_ok) [] rfl rfl rfl (by repeat (first | exact trivial | refine And.intro (by first | exact .refl _ | exact .newgmap _ _ _ _ _ _ _ rfl rfl | exact .newimap _ _ _ _ _ _ _ rfl rfl | exact .smap _ _ _ _ _ _ rfl rfl) ?_))) ?_
  rintro _ ⟨_, _, _, ⟨rfl, rfl, rfl⟩, -, rfl⟩
  refine ⟨Nat.le_add_right _ _, ?_⟩
  conv => whnf
  refine And.intro (fun h => absurd h (by decide)) (fun _ => ?_); conv => whnf
  refine And.intro ⟨by decide, (show (1 : Int) < 3 by decide)⟩ ?_
  conv => whnf
  refine And.intro (show Int.toNat 1 < 3 by decide) (And.intro rfl ?_)
  conv => whnf
  refine .one _ _ _ (fun _ => tA) (by repeat (first | exact .nil | (apply BorL.cons; first | exact lS rfl | exact lR rfl | exact lM rfl rfl | exact lL rfl | exact lX rfl | exact lN | exact lNl | exact lSm rfl | exact lIm rfl | exact lGm rfl | exact lP rfl | exact lQ rfl | exact lB rfl rfl rfl))) (by first | exact .inl rfl | exact .inr (by repeat (first | exact flats_nil | refine flats_cons (by first | exact flat_val _ rfl | exact flat_row (fun _ => rfl) | exact flat_lst (fun _ => rfl)) ?_))) (by first | exact .inr rfl | exact .inl rfl) ?_
  conv => whnf
  refine .raw _ _ rfl (fun h => by cases h) (rio_at (n1) [16, 17, 18] rfl rfl rfl (by repeat (first | exact trivial | refine And.intro (by first | exact .refl _ | exact .newgmap _ _ _ _ _ _ _ rfl rfl | exact .newimap _ _ _ _ _ _ _ rfl rfl | exact .smap _ _ _ _ _ _ rfl rfl) ?_))) ?_
  rintro _ ⟨_, _, _, ⟨rfl, rfl, rfl⟩, -, rfl⟩
  refine ⟨Nat.le_add_right _ _, ?_⟩
  conv => whnf
  refine And.intro ⟨by decide, (show (1 : Int) < 3 by decide)⟩ ?_
  conv => whnf
  refine And.intro (show Int.toNat 1 < 3 by decide) (And.intro rfl ?_)
  conv => whnf
  refine .one _ _ _ (fun _ => tB) (by repeat (first | exact .nil | (apply BorL.cons; first | exact lS rfl | exact lR rfl | exact lM rfl rfl | exact lL rfl | exact lX rfl | exact lN | exact lNl | exact lSm rfl | exact lIm rfl | exact lGm rfl | exact lP rfl | exact lQ rfl | exact lB rfl rfl rfl))) (by first | exact .inl rfl | exact .inr (by repeat (first | exact flats_nil | refine flats_cons (by first | exact flat_val _ rfl | exact flat_row (fun _ => rfl) | exact flat_lst (fun _ => rfl)) ?_))) (by first | exact .inr rfl | exact .inl rfl) ?_
  conv => whnf
  refine .raw _ _ rfl (fun h => by cases h) (rio_at (n2) [16, 17, 19] rfl rfl rfl (by repeat (first | exact trivial | refine And.intro (by first | exact .refl _ | exact .newgmap _ _ _ _ _ _ _ rfl rfl | exact .newimap _ _ _ _ _ _ _ rfl rfl | exact .smap _ _ _ _ _ _ rfl rfl) ?_))) ?_
  rintro _ ⟨_, _, _, ⟨rfl, rfl, rfl⟩, -, rfl⟩
  refine ⟨Nat.le_add_right _ _, ?_⟩
  conv => whnf
  refine And.intro ⟨by decide, (show (1 : Int) < 3 by decide)⟩ ?_
  conv => whnf
  refine And.intro (show Int.toNat 1 < 3 by decide) (And.intro rfl ?_)
  conv => whnf
  refine .one _ _ _ (fun _ => tB) (by repeat (first | exact .nil | (apply BorL.cons; first | exact lS rfl | exact lR rfl | exact lM rfl rfl | exact lL rfl | exact lX rfl | exact lN | exact lNl | exact lSm rfl | exact lIm rfl | exact lGm rfl | exact lP rfl | exact lQ rfl | exact lB rfl rfl rfl))) (by first | exact .inl rfl | exact .inr (by repeat (first | exact flats_nil | refine flats_cons (by first | exact flat_val _ rfl | exact flat_row (fun _ => rfl) | exact flat_lst (fun _ => rfl)) ?_))) (by first | exact .inr rfl | exact .inl rfl) ?_
  conv => whnf
  refine .raw _ _ rfl (fun h => by cases h) (rio_at (n3) [16, 17, 21] rfl rfl rfl (by repeat (first | exact trivial | refine And.intro (by first | exact .refl _ | exact .newgmap _ _ _ _ _ _ _ rfl rfl | exact .newimap _ _ _ _ _ _ _ rfl rfl | exact .smap _ _ _ _ _ _ rfl rfl) ?_))) ?_
  rintro _ ⟨_, _, _, ⟨rfl, rfl, rfl⟩, -, rfl⟩
  refine ⟨Nat.le_add_right _ _, ?_⟩
  conv => whnf
  refine .one _ _ _ (fun _ => w1) (BorL.cons (lendR (k := 23) (j := 17) rfl rfl rfl) (by repeat (first | exact .nil | (apply BorL.cons; first | exact lS rfl | exact lR rfl | exact lM rfl rfl | exact lL rfl | exact lX rfl | exact lN | exact lNl | exact lSm rfl | exact lIm rfl | exact lGm rfl | exact lP rfl | exact lQ rfl | exact lB rfl rfl rfl)))) (by first | exact .inl rfl | exact .inr (by repeat (first | exact flats_nil | refine flats_cons (by first | exact flat_val _ rfl | exact flat_row (fun _ => rfl) | exact flat_lst (fun _ => rfl)) ?_))) (by first | exact .inr rfl | exact .inl rfl) ?_
  conv => whnf
  refine .one _ _ _ (fun _ => w2) (BorL.cons (lendR (k := 23) (j := 17) rfl rfl rfl) (by repeat (first | exact .nil | (apply BorL.cons; first | exact lS rfl | exact lR rfl | exact lM rfl rfl | exact lL rfl | exact lX rfl | exact lN | exact lNl | exact lSm rfl | exact lIm rfl | exact lGm rfl | exact lP rfl | exact lQ rfl | exact lB rfl rfl rfl)))) (by first | exact .inl rfl | exact .inr (by repeat (first | exact flats_nil | refine flats_cons (by first | exact flat_val _ rfl | exact flat_row (fun _ => rfl) | exact flat_lst (fun _ => rfl)) ?_))) (by first | exact .inr rfl | exact .inl rfl) ?_
  conv => whnf
  refine .one _ _ _ (fun _ => w3) (BorL.cons (lendR (k := 23) (j := 17) rfl rfl rfl) (by repeat (first | exact .nil | (apply BorL.cons; first | exact lS rfl | exact lR rfl | exact lM rfl rfl | exact lL rfl | exact lX rfl | exact lN | exact lNl | exact lSm rfl | exact lIm rfl | exact lGm rfl | exact lP rfl | exact lQ rfl | exact lB rfl rfl rfl)))) (by first | exact .inl rfl | exact .inr (by repeat (first | exact flats_nil | refine flats_cons (by first | exact flat_val _ rfl | exact flat_row (fun _ => rfl) | exact flat_lst (fun _ => rfl)) ?_))) (by first | exact .inr rfl | exact .inl rfl) ?_
  conv => whnf
  rfl

end Go.Proofs.YtjlnaogechkjdaaDoor

namespace Go.Proofs.YtjlnaogechkjdaaDoor
open Go.Own
set_option maxHeartbeats 4000000
set_option maxRecDepth 100000

/-! ### Both ways to compare are one -/
theorem msg_mail (a b : List Ent) (m : Msg) : msgB a b m = mailB a b m := by
  rw [Bool.eq_iff_iff]
  unfold msgB mailB
  simp only [Bool.and_eq_true, Bool.or_eq_true, decide_eq_true_eq]
  by_cases h0 : m.seq < 0 ∨ m.entry < 0
  · rw [if_pos h0]
    constructor
    · rintro ⟨⟨_, h1, h2⟩, _⟩
      omega
    · exact fun h => Bool.noConfusion h
  · rw [if_neg h0]
    simp only [Bool.or_eq_true, Bool.and_eq_true, decide_eq_true_eq]
    by_cases hf : m.frm = 0
    · rw [if_pos hf]
      omega
    · rw [if_neg hf]
      omega
theorem ok_one (a b : List Ent) (fl : List Msg) : okC a b fl = okQ a b fl := by
  unfold okC okQ
  rw [show msgB a b = mailB a b from funext fun m => msg_mail a b m, Bool.and_comm]
theorem ids_inj {l : List Ent} (h : OkL l) {x y : Ent} (hx : x ∈ l) (hy : y ∈ l) (e : x.id = y.id) : x = y := by
  have hn := h.nd
  obtain ⟨i, hi, rfl⟩ := List.getElem_of_mem hx
  obtain ⟨j, hj, rfl⟩ := List.getElem_of_mem hy
  have : i = j := by
    have := (List.getElem_inj (xs := l.map Ent.id) (i := i) (j := j) (h₀ := by simpa using hi) (h₁ := by simpa using hj) hn).1 (by simpa using e)
    exact this
  subst this
  rfl
theorem getD_inj {l : List Ent} (h : OkL l) {i j : Nat} (hi : i < l.length) (hj : j < l.length) (e : (l.getD i e0).id = (l.getD j e0).id) : i = j := by
  have hn := h.nd
  have e1 : l.getD i e0 = l[i] := by simp [List.getD, List.getElem?_eq_getElem hi]
  have e2 : l.getD j e0 = l[j] := by simp [List.getD, List.getElem?_eq_getElem hj]
  rw [e1, e2] at e
  exact (List.getElem_inj (xs := l.map Ent.id) (i := i) (j := j) (h₀ := by simpa using hi) (h₁ := by simpa using hj) hn).1 (by simpa using e)
theorem snoc_ind {T : Type} {P : List T → Prop} (h0 : P []) (h1 : ∀ l x, P l → P (l ++ [x])) (l : List T) : P l := by
  have h : ∀ k, k ≤ l.length → P (l.take k) := by
    intro k
    induction k with
    | zero => intro _; rw [List.take_zero]; exact h0
    | succ k ih =>
      intro hk
      have hlt : k < l.length := by omega
      rw [List.take_succ_eq_append_getElem hlt]
      exact h1 _ _ (ih (by omega))
  have := h l.length (Nat.le_refl _)
  rwa [List.take_length] at this
theorem found_get : ∀ (l : List Ent) (n : Int), (∀ x, mget (foundM l) n = some x → x ∈ l ∧ x.id = n) ∧ (mget (foundM l) n = none → ∀ x ∈ l, x.id ≠ n) := by
  intro l n
  refine snoc_ind (P := fun l => (∀ x, mget (foundM l) n = some x → x ∈ l ∧ x.id = n) ∧ (mget (foundM l) n = none → ∀ x ∈ l, x.id ≠ n)) ?_ ?_ l
  · exact ⟨fun x h => (by cases h), fun _ x h => (by cases h)⟩
  · intro l e ih
    rw [foundM_snoc, mget_mset]
    by_cases h : e.id = n
    · rw [if_pos h]
      refine ⟨fun x hx => ?_, fun h => by cases h⟩
      cases hx
      exact ⟨by simp, h⟩
    · rw [if_neg h]
      refine ⟨fun x hx => ⟨List.mem_append_left _ (ih.1 x hx).1, (ih.1 x hx).2⟩, fun hx x hm => ?_⟩
      rcases List.mem_append.1 hm with hm | hm
      · exact ih.2 hx x hm
      · rw [List.mem_singleton] at hm
        rw [hm]
        exact h
theorem at_neg {l : List Ent} {n : Int} : atI l n < 0 ↔ ∀ x ∈ l, x.id ≠ n := by
  unfold atI firstI
  by_cases h : l.findIdx (fun x : Ent => decide (x.id = n)) < l.length
  · rw [if_pos h]
    have h2 := List.findIdx_getElem (w := h)
    refine ⟨fun hh => by omega, fun hh => ?_⟩
    exact absurd (of_decide_eq_true h2) (hh _ (List.getElem_mem h))
  · rw [if_neg h]
    refine ⟨fun _ x hx e => h ?_, fun _ => by decide⟩
    rw [List.findIdx_lt_length]
    exact ⟨x, hx, decide_eq_true e⟩
theorem at_pos {l : List Ent} {n : Int} (h : ¬ atI l n < 0) : (l.getD (atI l n).toNat e0) ∈ l ∧ (l.getD (atI l n).toNat e0).id = n := by
  unfold atI firstI at *
  split at h
  · rename_i h2
    rw [if_pos h2, Int.toNat_natCast]
    have h3 := List.findIdx_getElem (w := h2)
    have e1 : l.getD (l.findIdx (fun x : Ent => decide (x.id = n))) e0 = l[l.findIdx (fun x : Ent => decide (x.id = n))] := by simp [List.getD, List.getElem?_eq_getElem h2]
    rw [e1]
    exact ⟨List.getElem_mem h2, of_decide_eq_true h3⟩
  · exact absurd (by decide) h
theorem found_at {l : List Ent} (h : OkL l) (n : Int) : mget (foundM l) n = if atI l n < 0 then none else some (l.getD (atI l n).toNat e0) := by
  obtain ⟨f1, f2⟩ := found_get l n
  by_cases hn : atI l n < 0
  · rw [if_pos hn]
    cases hm : mget (foundM l) n with
    | none => rfl
    | some x =>
      obtain ⟨g1, g2⟩ := f1 x hm
      exact absurd g2 (at_neg.1 hn x g1)
  · rw [if_neg hn]
    obtain ⟨p1, p2⟩ := at_pos hn
    cases hm : mget (foundM l) n with
    | none => exact absurd p2 (f2 hm _ p1)
    | some x =>
      obtain ⟨g1, g2⟩ := f1 x hm
      rw [ids_inj h g1 p1 (by rw [g2, p2])]
theorem way_get (a b : List Ent) (to : Int) : ∀ (l : List Msg) (n : Int), (mget (wayM a b to l) n).getD false = l.any (fun m => decide (m.to = to) && decide ((entOf a b m).id = n)) := by
  intro l n
  refine snoc_ind (P := fun l => (mget (wayM a b to l) n).getD false = l.any (fun m => decide (m.to = to) && decide ((entOf a b m).id = n))) rfl ?_ l
  · intro l m ih
    rw [wayM_snoc, List.any_append, ← ih]
    by_cases h : m.to = to
    · rw [if_pos h, mget_mset]
      by_cases h2 : (entOf a b m).id = n
      · rw [if_pos h2]
        simp [h, h2]
      · rw [if_neg h2]
        simp [h2]
    · rw [if_neg h]
      simp [h]
theorem way_one {a b : List Ent} {fl : List Msg} (ha : OkL a) (hb : OkL b) (hf : fl.all (msgB a b) = true) :
    (∀ i, i < a.length → (mget (wayM a b 1 fl) (a.getD i e0).id).getD false = wayB fl 0 i) ∧ (∀ i, i < b.length → (mget (wayM a b 0 fl) (b.getD i e0).id).getD false = wayB fl 1 i) := by
  have hm : ∀ m ∈ fl, msgB a b m = true := List.all_eq_true.1 hf
  constructor
  · intro i hi
    rw [way_get]
    unfold wayB
    rw [Bool.eq_iff_iff, List.any_eq_true, List.any_eq_true]
    constructor
    · rintro ⟨m, h1, h2⟩
      refine ⟨m, h1, ?_⟩
      have h3 := hm m h1
      unfold msgB at h3
      unfold entOf at h2
      simp only [Bool.and_eq_true, Bool.or_eq_true, decide_eq_true_eq] at h2 h3 ⊢
      have hf0 : m.frm = 0 := by omega
      rw [if_pos hf0] at h2 h3
      have := getD_inj ha (by omega) hi h2.2
      exact ⟨hf0, by omega⟩
    · rintro ⟨m, h1, h2⟩
      refine ⟨m, h1, ?_⟩
      have h3 := hm m h1
      unfold msgB at h3
      unfold entOf
      simp only [Bool.and_eq_true, Bool.or_eq_true, decide_eq_true_eq] at h2 h3 ⊢
      rw [if_pos h2.1, h2.2, Int.toNat_natCast]
      exact ⟨by omega, rfl⟩
  · intro i hi
    rw [way_get]
    unfold wayB
    rw [Bool.eq_iff_iff, List.any_eq_true, List.any_eq_true]
    constructor
    · rintro ⟨m, h1, h2⟩
      refine ⟨m, h1, ?_⟩
      have h3 := hm m h1
      unfold msgB at h3
      unfold entOf at h2
      simp only [Bool.and_eq_true, Bool.or_eq_true, decide_eq_true_eq] at h2 h3 ⊢
      have hf0 : ¬ m.frm = 0 := by omega
      rw [if_neg hf0] at h2 h3
      have := getD_inj hb (by omega) hi h2.2
      exact ⟨by omega, by omega⟩
    · rintro ⟨m, h1, h2⟩
      refine ⟨m, h1, ?_⟩
      have h3 := hm m h1
      unfold msgB at h3
      unfold entOf
      simp only [Bool.and_eq_true, Bool.or_eq_true, decide_eq_true_eq] at h2 h3 ⊢
      rw [if_neg (by omega), h2.2, Int.toNat_natCast]
      exact ⟨by omega, rfl⟩
theorem filter_range {T : Type} (l : List T) (d : T) (p : T → Bool) (q : Nat → Bool) (h : ∀ i, i < l.length → q i = p (l.getD i d)) : ((List.range l.length).filter q).map (fun i => l.getD i d) = l.filter p := by
  have e : l = (List.range l.length).map (fun i => l.getD i d) := by
    apply List.ext_getElem (by simp)
    intro i h1 h2
    simp [List.getD, List.getElem?_eq_getElem h1]
  have e2 : (List.range l.length).filter q = (List.range l.length).filter (fun i => p (l.getD i d)) := by
    apply List.filter_congr
    intro i hi
    exact h i (List.mem_range.1 hi)
  rw [e2]
  conv => rhs; rw [e]
  rw [List.filter_map]
  rfl
theorem cls_one {own oth : List Ent} {fl : List Msg} {n : Int} {w : List (Int × Bool)} (ho : OkL oth) (hw : ∀ i, i < own.length → (mget w (own.getD i e0).id).getD false = wayB fl n i) (i : Nat) (hi : i < own.length) :
    decide (cls own oth fl n i = 1) = goIn oth w (own.getD i e0) ∧ decide (cls own oth fl n i = 2) = goOut oth w (own.getD i e0) := by
  unfold cls goIn goOut
  rw [found_at ho, hw i hi]
  by_cases h : atI oth (own.getD i e0).id < 0
  · rw [if_pos h, if_pos h]
    cases wayB fl n i <;> exact ⟨rfl, rfl⟩
  · rw [if_neg h, if_neg h]
    cases hq : eqE (oth.getD (atI oth (own.getD i e0).id).toNat e0) (own.getD i e0) <;> exact ⟨rfl, by simp only [hq]; rfl⟩
theorem raw_one {a b : List Ent} {fl : List Msg} (h : okC a b fl = true) : rawI a b fl = qI a b fl ∧ rawO a b fl = qO a b fl := by
  unfold okC at h
  simp only [Bool.and_eq_true] at h
  obtain ⟨hf, hva, hvb⟩ := h
  have ha := (validB_iff.1 hva).2
  have hb := (validB_iff.1 hvb).2
  obtain ⟨w1, w2⟩ := way_one ha hb hf
  unfold rawI rawO qI qO pickE
  refine ⟨?_, ?_⟩
  · rw [filter_range a e0 (goIn b (wayM a b 1 fl)) _ fun i hi => (cls_one hb w1 i hi).1, filter_range b e0 (goIn a (wayM a b 0 fl)) _ fun i hi => (cls_one ha w2 i hi).1]
  · rw [filter_range a e0 (goOut b (wayM a b 1 fl)) _ fun i hi => (cls_one hb w1 i hi).2, filter_range b e0 (goOut a (wayM a b 0 fl)) _ fun i hi => (cls_one ha w2 i hi).2]

/-! ### Rings -/
def sgL (l : List Seal) : List Seal := l.foldl (fun L s => signL L s.key s.text) []
theorem sgL_snoc (l : List Seal) (s : Seal) : sgL (l ++ [s]) = signL (sgL l) s.key s.text := by
  unfold sgL
  rw [List.foldl_append]
  rfl
theorem signL_nodup {l : List Seal} (h : l.Nodup) (k : Int) (t : List UInt8) : (signL l k t).Nodup := by
  unfold signL
  split
  · split
    · exact h
    · rename_i hn
      rw [List.nodup_append]
      refine ⟨h, by simp, fun x hx y hy => ?_⟩
      rw [List.mem_singleton] at hy
      subst hy
      rintro rfl
      exact hn (idxS_lt.2 hx)
  · exact h
theorem signL_len (l : List Seal) (k : Int) (t : List UInt8) : (signL l k t).length ≤ l.length + 1 := by
  unfold signL
  split
  · split
    · omega
    · simp
  · omega
theorem sgL_nodup (l : List Seal) : (sgL l).Nodup :=
  snoc_ind (P := fun l => (sgL l).Nodup) List.nodup_nil (fun l s ih => by rw [sgL_snoc]; exact signL_nodup ih _ _) l
theorem sgL_len (l : List Seal) : (sgL l).length ≤ l.length := by
  refine snoc_ind (P := fun l => (sgL l).length ≤ l.length) (Nat.le_refl _) ?_ l
  · intro l s ih
    rw [sgL_snoc, List.length_append, List.length_singleton]
    have := signL_len (sgL l) s.key s.text
    omega
theorem conv_one {l : List Seal} (h : l.Nodup) (s t : Sgn) : convR sgB l s t = convR qsgB l s t := by
  unfold convR
  rw [sg_one h, sg_one h]

end Go.Proofs.YtjlnaogechkjdaaDoor
