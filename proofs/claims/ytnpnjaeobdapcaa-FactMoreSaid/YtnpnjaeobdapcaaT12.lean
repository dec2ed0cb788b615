import Derived.Test.YtnpnjaeobdapcaaT11
namespace Go.Proofs.Ytnpnjaeobdapcaa
open Go.Own
set_option maxHeartbeats 1000000
set_option maxRecDepth 100000

def freshP (issuer : Int) (name : List UInt8) (a b : Int) (x : Fact) : Bool := (decide (x.issuer = issuer) && decide (x.name = name) && decide (a < x.day)) && decide (x.day ≤ b)

/-- What the law checks of two days. -/
def moreB (l : List Fact) (issuer : Int) (name : List UInt8) (period a b : Int) : Bool :=
  let v := valueO l issuer name period a
  let w := valueO l issuer name period b
  (v.isSome && !w.isSome) || (!l.any (freshP issuer name a b) && (!decide ((v.getD f0).value = (w.getD f0).value) || !(v.isSome == w.isSome)))

theorem law_more (l : List Fact) (hl : Fits l) (issuer : Int) (name : List UInt8) (period a b at8 : Int) (h8 : 0 ≤ at8 ∧ at8 ≤ 255)
    (hmore : rightB l = true → a ≤ b → moreB l issuer name period a b = false)
    (hswap : rightB l = true → ∀ k, k + 1 < l.length → (l.getD k f0).day = (l.getD (k + 1) f0).day → ¬ ((l.getD k f0).issuer = (l.getD (k + 1) f0).issuer ∧ (l.getD k f0).name = (l.getD (k + 1) f0).name ∧ (l.getD k f0).period = (l.getD (k + 1) f0).period) →
      valueO ((l.set k (l.getD (k + 1) f0)).set (k + 1) (l.getD k f0)) issuer name period b = valueO l issuer name period b) :
    APureV Try.prog 4 [encFs l, .int .i64 issuer, .str name, .int .i64 period, .int .i64 a, .int .i64 b, .int .u8 at8] (.bool true) := by
  refine apure_of (C := cx 206 [0, 1, 2, 3, 4, 5, 6, 14, 15, 16, 17, 18, 19, 20, 21, 22, 23, 24, 25, 26, 27, 46, 69, 127, 130, 172]) (cxOk _ _) Try.func4 rfl (by decide) rfl (by exact Nat.le_of_ble_eq_true rfl) (by decide) ?_
  conv => whnf
  refine .one _ _ _ (fun _ => small_ok) (by repeat (first | exact .nil | (apply BorL.cons; first | exact lS rfl | exact lR rfl | exact lM rfl rfl | exact lL rfl | exact lX rfl | exact lN | exact lNl | exact lSm rfl | exact lIm rfl | exact lP rfl | exact lQ rfl))) (by first | exact .inl rfl | exact .inr (by repeat (first | exact flats_nil | refine flats_cons (by first | exact flat_val _ rfl | exact flat_row (fun _ => rfl) | exact flat_lst (fun _ => rfl)) ?_))) (by first | exact .inl rfl | exact .inr rfl) ?_
  conv => whnf
  refine .one _ _ _ (fun _ => few_ok l 20 hl.1 (by decide) (by decide)) (by repeat (first | exact .nil | (apply BorL.cons; first | exact lS rfl | exact lR rfl | exact lM rfl rfl | exact lL rfl | exact lX rfl | exact lN | exact lNl | exact lSm rfl | exact lIm rfl | exact lP rfl | exact lQ rfl))) (by first | exact .inl rfl | exact .inr (by repeat (first | exact flats_nil | refine flats_cons (by first | exact flat_val _ rfl | exact flat_row (fun _ => rfl) | exact flat_lst (fun _ => rfl)) ?_))) (by first | exact .inl rfl | exact .inr rfl) ?_
  conv => whnf
  refine .one _ _ _ (fun _ => right_ok l hl) (by repeat (first | exact .nil | (apply BorL.cons; first | exact lS rfl | exact lR rfl | exact lM rfl rfl | exact lL rfl | exact lX rfl | exact lN | exact lNl | exact lSm rfl | exact lIm rfl | exact lP rfl | exact lQ rfl))) (by first | exact .inl rfl | exact .inr (by repeat (first | exact flats_nil | refine flats_cons (by first | exact flat_val _ rfl | exact flat_row (fun _ => rfl) | exact flat_lst (fun _ => rfl)) ?_))) (by first | exact .inl rfl | exact .inr rfl) ?_
  conv => whnf
  refine ⟨fun hc => ?_, fun hc => ?_⟩
  · conv => whnf
    rfl
  conv => whnf
  have hc0 : (!fewB l 20 || !rightB l || decide (40 < (name.length : Int)) || decide (b < a)) = false := hc
  simp only [Bool.or_eq_false_iff, Bool.not_eq_false', decide_eq_false_iff_not] at hc0
  obtain ⟨⟨⟨hfew, hR⟩, _⟩, hab⟩ := hc0
  have hlen : l.length ≤ 20 := by
    simp [fewB] at hfew
    omega
  have hM := hmore hR (by omega)
  refine .one _ _ _ (fun _ => value_ok l hl _ _ _ _) (by repeat (first | exact .nil | (apply BorL.cons; first | exact lS rfl | exact lR rfl | exact lM rfl rfl | exact lL rfl | exact lX rfl | exact lN | exact lNl | exact lSm rfl | exact lIm rfl | exact lP rfl | exact lQ rfl))) (by first | exact .inl rfl | exact .inr (by repeat (first | exact flats_nil | refine flats_cons (by first | exact flat_val _ rfl | exact flat_row (fun _ => rfl) | exact flat_lst (fun _ => rfl)) ?_))) (by first | exact .inl rfl | exact .inr rfl) ?_
  conv => whnf
  refine .one _ _ _ (fun _ => value_ok l hl _ _ _ _) (by repeat (first | exact .nil | (apply BorL.cons; first | exact lS rfl | exact lR rfl | exact lM rfl rfl | exact lL rfl | exact lX rfl | exact lN | exact lNl | exact lSm rfl | exact lIm rfl | exact lP rfl | exact lQ rfl))) (by first | exact .inl rfl | exact .inr (by repeat (first | exact flats_nil | refine flats_cons (by first | exact flat_val _ rfl | exact flat_row (fun _ => rfl) | exact flat_lst (fun _ => rfl)) ?_))) (by first | exact .inl rfl | exact .inr rfl) ?_
  conv => whnf
  refine loop_up (cxOk _ _) l.length (fun _ => True) (fun k => ⟨[(0, encFs l), (1, .int .i64 issuer), (2, .str name), (3, .int .i64 period), (4, .int .i64 a), (5, .int .i64 b), (6, .int .u8 at8), (15, .bool true), (16, .int .i64 ((valueO l issuer name period a).getD f0).value), (17, .bool (valueO l issuer name period a).isSome), (18, .int .i64 ((valueO l issuer name period b).getD f0).value), (19, .bool (valueO l issuer name period b).isSome), (20, .bool ((l.take k).any (freshP issuer name a b))), (21, .int .i64 k)], [], 0⟩) trivial ?_ ?_
  · exact wk_of [] rfl ⟨.base (.tree _ _ rfl rfl), .base (.tree _ _ rfl rfl), .base (.tree _ _ rfl rfl), .base (.tree _ _ rfl rfl), .base (.tree _ _ rfl rfl), .base (.tree _ _ rfl rfl), .base (.tree _ _ rfl rfl), .base (.tree _ _ rfl rfl), .base (.tree _ _ rfl rfl), .base (.tree _ _ rfl rfl), .base (.tree _ _ rfl rfl), .base (.tree _ _ rfl rfl), .base (.tree _ _ rfl rfl), .base (.tree _ _ rfl rfl), trivial⟩ trivial
  · intro k hk _
    conv => whnf
    refine ⟨fun hc => ?_, fun hc => ?_⟩
    · simp only [decide_eq_true_eq] at hc
      have hlt : k < l.length := by omega
      conv => whnf
      repeat (first | (refine And.intro ⟨by omega, by omega⟩ ?_; conv => whnf) | (refine And.intro rfl ?_; conv => whnf) | (refine And.intro (fun _ => ⟨by omega, by omega⟩) ?_; conv => whnf) | (refine And.intro ⟨(by first | omega | (simp; omega)), (by first | omega | (simp; omega))⟩ ?_; conv => whnf) | (refine Exists.intro _ (And.intro rfl (And.intro (by first | omega | (simp; omega)) (And.intro ⟨rfl, rfl, rfl, rfl, rfl⟩ ?_))); conv => whnf) | (refine And.intro ⟨rfl, rfl⟩ (And.intro (by first | omega | (simp; omega)) ?_); conv => whnf) | (refine Exists.intro _ (And.intro rfl ?_); conv => whnf) | (refine .quiet (by kernel_rfl) ?_; conv => whnf))
      have hB : (l.take (k + 1)).any (freshP issuer name a b) = ((l.take k).any (freshP issuer name a b) || freshP issuer name a b (l.getD k f0)) := by
        rw [take_getD (d := f0) hlt, List.any_append]; simp
      exact up hlt trivial (wk_of [] rfl ⟨.base (.tree _ _ rfl rfl), .base (.tree _ _ rfl rfl), .base (.tree _ _ rfl rfl), .base (.tree _ _ rfl rfl), .base (.tree _ _ rfl rfl), .base (.tree _ _ rfl rfl), .base (.tree _ _ rfl rfl), .base (.tree _ _ rfl rfl), .base (.tree _ _ rfl rfl), .base (.tree _ _ rfl rfl), .base (.tree _ _ rfl rfl), .base (.tree _ _ rfl rfl), .base (.tree _ _ (by rw [hB]; rfl) rfl), .base (.tree _ _ rfl rfl), trivial⟩ trivial)
    · simp only [decide_eq_false_iff_not] at hc
      rw [List.take_of_length_le (by omega)]
      conv => whnf
      refine ⟨fun hd => ?_, fun hd => ?_⟩
      · exfalso
        have hM2 := hM
        unfold moreB at hM2
        exact Bool.noConfusion (hM2.symm.trans hd)
      conv => whnf
      refine ⟨fun hd => ?_, fun hd => ?_⟩
      · conv => whnf
        rfl
      simp only [decide_eq_false_iff_not] at hd
      conv => whnf
      repeat (first | (refine And.intro ⟨by omega, by omega⟩ ?_; conv => whnf) | (refine And.intro rfl ?_; conv => whnf) | (refine And.intro (fun _ => ⟨by omega, by omega⟩) ?_; conv => whnf) | (refine And.intro ⟨(by first | omega | (simp; omega)), (by first | omega | (simp; omega))⟩ ?_; conv => whnf) | (refine Exists.intro _ (And.intro rfl (And.intro (by first | omega | (simp; omega)) (And.intro ⟨rfl, rfl, rfl, rfl, rfl⟩ ?_))); conv => whnf) | (refine And.intro ⟨rfl, rfl⟩ (And.intro (by first | omega | (simp; omega)) ?_); conv => whnf) | (refine Exists.intro _ (And.intro rfl ?_); conv => whnf) | (refine .quiet (by kernel_rfl) ?_; conv => whnf))
      refine And.intro (by omega) ?_
      obtain ⟨n, hn, hn1⟩ : ∃ n : Nat, at8.tmod ((l.length : Int) - 1) = n ∧ n + 1 < l.length := by
        have h1 : 0 ≤ at8.tmod ((l.length : Int) - 1) := Int.tmod_nonneg _ h8.1
        have h2 : at8.tmod ((l.length : Int) - 1) < (l.length : Int) - 1 := Int.tmod_lt_of_pos _ (by omega)
        exact ⟨(at8.tmod ((l.length : Int) - 1)).toNat, by omega, by omega⟩
      rw [hn]
      conv => whnf
      repeat (first | (refine And.intro ⟨by omega, by omega⟩ ?_; conv => whnf) | (refine And.intro rfl ?_; conv => whnf) | (refine And.intro (fun _ => ⟨by omega, by omega⟩) ?_; conv => whnf) | (refine And.intro ⟨(by first | omega | (simp; omega)), (by first | omega | (simp; omega))⟩ ?_; conv => whnf) | (refine Exists.intro _ (And.intro rfl (And.intro (by first | omega | (simp; omega)) (And.intro ⟨rfl, rfl, rfl, rfl, rfl⟩ ?_))); conv => whnf) | (refine And.intro ⟨rfl, rfl⟩ (And.intro (by first | omega | (simp; omega)) ?_); conv => whnf) | (refine Exists.intro _ (And.intro rfl ?_); conv => whnf) | (refine .quiet (by kernel_rfl) ?_; conv => whnf))
      have e1 : ((n : Int)).toNat = n := Int.toNat_natCast n
      have e2 : ((n : Int) + 1).toNat = n + 1 := by omega
      rw [e1, e2]
      refine ⟨fun hk2 => ?_, fun hk2 => ?_⟩
      · conv => whnf
        rfl
      simp only [Bool.or_eq_false_iff, Bool.not_eq_false', decide_eq_true_eq] at hk2
      conv => whnf
      repeat (first | (refine And.intro ⟨by omega, by omega⟩ ?_; conv => whnf) | (refine And.intro rfl ?_; conv => whnf) | (refine And.intro (fun _ => ⟨by omega, by omega⟩) ?_; conv => whnf) | (refine And.intro ⟨(by first | omega | (simp; omega)), (by first | omega | (simp; omega))⟩ ?_; conv => whnf) | (refine Exists.intro _ (And.intro rfl (And.intro (by first | omega | (simp; omega)) (And.intro ⟨rfl, rfl, rfl, rfl, rfl⟩ ?_))); conv => whnf) | (refine And.intro ⟨rfl, rfl⟩ (And.intro (by first | omega | (simp; omega)) ?_); conv => whnf) | (refine Exists.intro _ (And.intro rfl ?_); conv => whnf) | (refine .quiet (by kernel_rfl) ?_; conv => whnf))
      refine And.intro ⟨rfl, rfl⟩ (And.intro (show (0 + l.length) * 48 ≤ 140737488355328 by omega) ?_)
      conv => whnf
      repeat (first | (refine And.intro ⟨by omega, by omega⟩ ?_; conv => whnf) | (refine And.intro rfl ?_; conv => whnf) | (refine And.intro (fun _ => ⟨by omega, by omega⟩) ?_; conv => whnf) | (refine And.intro ⟨(by first | omega | (simp; omega)), (by first | omega | (simp; omega))⟩ ?_; conv => whnf) | (refine Exists.intro _ (And.intro rfl (And.intro (by first | omega | (simp; omega)) (And.intro ⟨rfl, rfl, rfl, rfl, rfl⟩ ?_))); conv => whnf) | (refine And.intro ⟨rfl, rfl⟩ (And.intro (by first | omega | (simp; omega)) ?_); conv => whnf) | (refine Exists.intro _ (And.intro rfl ?_); conv => whnf) | (refine .quiet (by kernel_rfl) ?_; conv => whnf))
      have hsw := hswap hR n hn1 hk2.1 (by
        intro h
        have := hk2.2
        simp only [Bool.and_eq_false_iff, decide_eq_false_iff_not] at this
        rcases this with (h' | h') | h'
        · exact h' h.1
        · exact h' h.2.1
        · exact h' h.2.2)
      have hset : ((l.set n (l.getD (n + 1) f0)).set (n + 1) (l.getD n f0)).length ≤ 9223372036854775807 := by simp; omega
      have hfits : Fits ((l.set n (l.getD (n + 1) f0)).set (n + 1) (l.getD n f0)) := by
        refine ⟨hset, fun x hx => ?_⟩
        rcases List.mem_or_eq_of_mem_set hx with h | h
        · rcases List.mem_or_eq_of_mem_set h with h' | h'
          · exact hl.2 x h'
          · rw [h']; exact hl.2 _ (getD_mem hn1)
        · rw [h]; exact hl.2 _ (getD_mem (by omega))
      have hv := value_ok _ hfits issuer name period b
      rw [hsw] at hv
      refine .one _ _ _ (fun _ => hv) (by repeat (first | exact .nil | (apply BorL.cons; first | exact lS rfl | exact lR rfl | exact lM rfl rfl | exact lL rfl | exact lX rfl | exact lN | exact lNl | exact lSm rfl | exact lIm rfl | exact lP rfl | exact lQ rfl))) (by first | exact .inl rfl | exact .inr (by repeat (first | exact flats_nil | refine flats_cons (by first | exact flat_val _ rfl | exact flat_row (fun _ => rfl) | exact flat_lst (fun _ => rfl)) ?_))) (by first | exact .inl rfl | exact .inr rfl) ?_
      conv => whnf
      repeat (first | (refine And.intro ⟨by omega, by omega⟩ ?_; conv => whnf) | (refine And.intro rfl ?_; conv => whnf) | (refine And.intro (fun _ => ⟨by omega, by omega⟩) ?_; conv => whnf) | (refine And.intro ⟨(by first | omega | (simp; omega)), (by first | omega | (simp; omega))⟩ ?_; conv => whnf) | (refine Exists.intro _ (And.intro rfl (And.intro (by first | omega | (simp; omega)) (And.intro ⟨rfl, rfl, rfl, rfl, rfl⟩ ?_))); conv => whnf) | (refine And.intro ⟨rfl, rfl⟩ (And.intro (by first | omega | (simp; omega)) ?_); conv => whnf) | (refine Exists.intro _ (And.intro rfl ?_); conv => whnf) | (refine .quiet (by kernel_rfl) ?_; conv => whnf))
      show [AR.val (AV.bool (decide _ && (_ == _)))] = _
      simp

theorem valueO_best {l : List Fact} (hR : rightB l = true) (issuer : Int) (name : List UInt8) (period day : Int) : valueO l issuer name period day = best issuer name period day l := by
  rw [valueO, if_pos hR, known_best]

theorem more_true (l : List Fact) (issuer : Int) (name : List UInt8) (period a b : Int) (hR : rightB l = true) (hab : a ≤ b) : moreB l issuer name period a b = false := by
  unfold moreB
  simp only [valueO_best hR]
  have h1 : (best issuer name period a l).isSome = true → (best issuer name period b l).isSome = true := fun h => best_mono hab l none none (fun h => h) h
  by_cases hf : l.any (freshP issuer name a b) = true
  · rw [hf]
    cases hx : (best issuer name period a l).isSome with
    | false => simp
    | true => simp [h1 hx]
  · have heq : best issuer name period a l = best issuer name period b l := by
      refine best_congr l none fun f hfl => ?_
      have : freshP issuer name a b f = false := by
        cases h : freshP issuer name a b f with
        | false => rfl
        | true => exact (hf (List.any_eq_true.2 ⟨f, hfl, h⟩)).elim
      unfold heard
      by_cases e1 : f.issuer = issuer
      · by_cases e2 : f.name = name
        · simp only [freshP, e1, e2, decide_true, Bool.true_and, Bool.and_eq_false_iff, decide_eq_false_iff_not] at this
          have : decide (f.day ≤ a) = decide (f.day ≤ b) := by
            rw [decide_eq_decide]
            omega
          rw [this]
        · simp [e2]
      · simp [e1]
    rw [heq]
    simp

theorem swap_true (l : List Fact) (issuer : Int) (name : List UInt8) (period b : Int) (hR : rightB l = true) (k : Nat) (hk : k + 1 < l.length) (hd : (l.getD k f0).day = (l.getD (k + 1) f0).day)
    (hne : ¬ ((l.getD k f0).issuer = (l.getD (k + 1) f0).issuer ∧ (l.getD k f0).name = (l.getD (k + 1) f0).name ∧ (l.getD k f0).period = (l.getD (k + 1) f0).period)) :
    valueO ((l.set k (l.getD (k + 1) f0)).set (k + 1) (l.getD k f0)) issuer name period b = valueO l issuer name period b := by
  have hk0 : k < l.length := by omega
  have hsplit : l = l.take k ++ l.getD k f0 :: l.getD (k + 1) f0 :: l.drop (k + 2) := by
    conv => lhs; rw [← List.take_append_drop k l]
    rw [List.drop_eq_getElem_cons hk0, List.drop_eq_getElem_cons hk]
    simp [List.getD, List.getElem?_eq_getElem hk0, List.getElem?_eq_getElem hk]
  have hother : (l.set k (l.getD (k + 1) f0)).set (k + 1) (l.getD k f0) = l.take k ++ l.getD (k + 1) f0 :: l.getD k f0 :: l.drop (k + 2) := by
    generalize l.getD k f0 = x at *
    generalize l.getD (k + 1) f0 = y at *
    generalize hp : l.take k = p at *
    generalize l.drop (k + 2) = q at *
    have hpl : p.length = k := by rw [← hp, List.length_take]; omega
    rw [hsplit]
    subst hpl
    simp [List.set_append]
  rw [hother]
  generalize l.getD k f0 = x at *
  generalize l.getD (k + 1) f0 = y at *
  have hR2 : rightB (l.take k ++ y :: x :: l.drop (k + 2)) = true := by
    simp only [rightB, Bool.and_eq_true, decide_eq_true_eq] at hR ⊢
    refine ⟨?_, goR_swap hd _ _ 0 ?_⟩
    · have := hR.1
      rw [hsplit] at this
      simp at this ⊢
      omega
    · have := hR.2
      rw [hsplit] at this
      simpa using this
  rw [valueO_best hR2, valueO_best hR]
  conv => rhs; rw [hsplit]
  unfold best
  rw [List.foldl_append, List.foldl_append, List.foldl_cons, List.foldl_cons, List.foldl_cons, List.foldl_cons, best_swap hne]

theorem factMore_ok (l : List Fact) (hl : Fits l) (issuer : Int) (name : List UInt8) (period a b at8 : Int) (h8 : 0 ≤ at8 ∧ at8 ≤ 255) :
    APureV Try.prog 4 [encFs l, .int .i64 issuer, .str name, .int .i64 period, .int .i64 a, .int .i64 b, .int .u8 at8] (.bool true) :=
  law_more l hl issuer name period a b at8 h8 (fun hR hab => more_true l issuer name period a b hR hab) (fun hR k hk hd hne => swap_true l issuer name period b hR k hk hd hne)

end Go.Proofs.Ytnpnjaeobdapcaa
