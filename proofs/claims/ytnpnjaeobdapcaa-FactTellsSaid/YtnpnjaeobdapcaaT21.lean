import Derived.Test.YtnpnjaeobdapcaaT20
namespace Go.Proofs.Ytnpnjaeobdapcaa
open Go.Own
set_option maxHeartbeats 1000000
set_option maxRecDepth 100000

/-- The place of a name among those found. -/
def atN (ns : List (List UInt8)) (x : List UInt8) : Nat → Nat
  | 0 => 0
  | j + 1 => if Op.bytesLess (ns.getD j []) x = true then j + 1 else atN ns x j
def insN (ns : List (List UInt8)) (x : List UInt8) : List (List UInt8) :=
  if ns.any (fun n => decide (n = x)) = true then ns else ns.take (atN ns x ns.length) ++ [x] ++ ns.drop (atN ns x ns.length)
def stepN (l : List Fact) (issuer period day : Int) (ns : List (List UInt8)) (f : Fact) : List (List UInt8) :=
  if (best issuer f.name period day l).isSome = true ∧ f.issuer = issuer then insN ns f.name else ns
def names2 (l : List Fact) (issuer period day : Int) : List (List UInt8) := l.foldl (stepN l issuer period day) []

theorem atN_le (ns : List (List UInt8)) (x : List UInt8) : ∀ j, atN ns x j ≤ j
  | 0 => Nat.le_refl 0
  | j + 1 => by
    unfold atN
    split
    · exact Nat.le_refl _
    · exact Nat.le_succ_of_le (atN_le ns x j)

theorem insN_len (ns : List (List UInt8)) (x : List UInt8) : (insN ns x).length ≤ ns.length + 1 := by
  unfold insN
  split
  · omega
  · have := atN_le ns x ns.length
    simp
    omega

theorem stepN_len (l : List Fact) (issuer period day : Int) (ns : List (List UInt8)) (f : Fact) : (stepN l issuer period day ns f).length ≤ ns.length + 1 := by
  unfold stepN
  split
  · exact insN_len _ _
  · omega

theorem known2l_ok (l : List Fact) (hl : Fits l) (h20 : l.length ≤ 1000000) (issuer period day : Int) (hR : rightB l = true) :
    APure Try.prog 16 [encFs l, .int .i64 issuer, .int .i64 period, .int .i64 day] (fun rs => rs = [.new (.row 9 1 encS [] (names2 l issuer period day)), .new (.row 3 1 encJ 0 ((names2 l issuer period day).map fun s => ((valueO l issuer s period day).getD f0).value))]) := by
  have hstep : ∀ k, k < l.length → (l.take (k + 1)).foldl (stepN l issuer period day) [] = stepN l issuer period day ((l.take k).foldl (stepN l issuer period day) []) (l.getD k f0) := by
    intro k hk
    rw [take_getD (d := f0) hk, List.foldl_append]
    rfl
  have hlen : ∀ k, ((l.take k).foldl (stepN l issuer period day) []).length ≤ k := by
    intro k
    induction k with
    | zero => simp
    | succ k ih =>
      by_cases hk : k < l.length
      · rw [hstep k hk]
        exact Nat.le_trans (stepN_len _ _ _ _ _ _) (Nat.add_le_add_right ih 1)
      · rw [List.take_of_length_le (i := k) (by omega)] at ih
        rw [List.take_of_length_le (i := k + 1) (by omega)]
        omega
  have hall : (l.take l.length).foldl (stepN l issuer period day) [] = names2 l issuer period day := by rw [List.take_length]; rfl
  refine apure_of (C := cx 124 [0, 1, 2, 3, 8, 9, 10, 11, 12, 13, 14, 15, 16, 17, 18, 27, 49, 53, 65, 82, 103]) (cxOk _ _) Try.func16 rfl (by decide) rfl (by exact Nat.le_of_ble_eq_true rfl) (by decide) ?_
  conv => whnf
  refine loop_up (cxOk _ _) l.length (fun _ => True) (fun k => ⟨[(0, encFs l), (1, .int .i64 issuer), (2, .int .i64 period), (3, .int .i64 day), (10, .own 0), (11, .int .i64 (k : Nat))], [(0, .row 9 1 encS [] ((l.take k).foldl (stepN l issuer period day) []))], 1⟩) trivial ((wk_of [(0, .nil)] rfl ⟨.base (.tree _ _ rfl rfl), .base (.tree _ _ rfl rfl), .base (.tree _ _ rfl rfl), .base (.tree _ _ rfl rfl), (by first | exact .base (.own _ _ rfl) | exact .base (.nilown _ rfl) | exact .base (.trunc _ _ _ rfl)), .base (.tree _ _ rfl rfl), trivial⟩ ⟨⟨_, rfl, (by first | exact .row _ _ _ _ _ _ _ rfl rfl | exact .lstrow _ _ _ _ _ _ _ rfl rfl | exact .nilrow _ _ _ _ _ rfl | exact .truncrow _ _ _ _ _ _ _ _ rfl (by omega) rfl)⟩, trivial⟩)) ?_
  intro k hk _
  conv => whnf
  refine .one _ _ _ (fun _ => right2_ok l hl) (by repeat (first | exact .nil | (apply BorL.cons; first | exact lS rfl | exact lR rfl | exact lM rfl rfl | exact lL rfl | exact lX rfl | exact lN | exact lNl | exact lSm rfl | exact lIm rfl | exact lP rfl | exact lQ rfl))) (by first | exact .inl rfl | exact .inr (by repeat (first | exact flats_nil | refine flats_cons (by first | exact flat_val _ rfl | exact flat_row (fun _ => rfl) | exact flat_lst (fun _ => rfl)) ?_))) (by first | exact .inl rfl | exact .inr rfl) ?_
  conv => whnf
  rw [hR]
  refine ⟨fun hc => ?_, fun hc => ?_⟩
  · have hc' : (decide ((k : Int) < l.length) && true) = true := hc
    simp only [Bool.and_true, decide_eq_true_eq] at hc'
    have hlt : k < l.length := by omega
    have hln := hlen k
    have hst := hstep k hlt
    generalize hns : (l.take k).foldl (stepN l issuer period day) [] = ns at *
    have hx := getD_mem (l := l) (d := f0) hlt
    have hxl := hl.2 _ hx
    conv => whnf
    repeat (first | (refine And.intro ⟨by omega, by omega⟩ ?_; conv => whnf) | (refine And.intro (by omega) (And.intro rfl ?_); conv => whnf) | (refine And.intro rfl ?_; conv => whnf) | (refine And.intro (fun _ => ⟨by omega, by omega⟩) ?_; conv => whnf) | (refine And.intro (fun _ => by omega) (And.intro rfl ?_); conv => whnf) | (refine And.intro ⟨(by first | omega | (simp; omega)), (by first | omega | (simp; omega))⟩ ?_; conv => whnf) | (refine Exists.intro _ (And.intro rfl (And.intro (by first | omega | (simp; omega)) (And.intro ⟨rfl, rfl, rfl, rfl, rfl⟩ ?_))); conv => whnf) | (refine And.intro ⟨rfl, rfl⟩ (And.intro (by first | omega | (simp; omega)) ?_); conv => whnf) | (refine Exists.intro _ (And.intro rfl ?_); conv => whnf) | (refine And.intro (fun _ => ?_) (fun h => absurd h (by decide)); conv => whnf) | (refine And.intro (fun h => absurd h (by decide)) (fun _ => ?_); conv => whnf) | (refine .quiet (by kernel_rfl) ?_; conv => whnf))
    refine .any _ _ _ ⟨rfl, rfl⟩ (known2_ok l hl issuer _ period day) (by repeat (first | exact .nil | (apply BorL.cons; first | exact lS rfl | exact lR rfl | exact lM rfl rfl | exact lL rfl | exact lX rfl | exact lN | exact lNl | exact lSm rfl | exact lIm rfl | exact lP rfl | exact lQ rfl))) (by first | exact .inl rfl | exact .inr (by repeat (first | exact flats_nil | refine flats_cons (by first | exact flat_val _ rfl | exact flat_row (fun _ => rfl) | exact flat_lst (fun _ => rfl)) ?_))) ?_
    rintro rs ⟨i, rfl, hi⟩
    conv => whnf
    repeat (first | (refine And.intro ⟨by omega, by omega⟩ ?_; conv => whnf) | (refine And.intro (by omega) (And.intro rfl ?_); conv => whnf) | (refine And.intro rfl ?_; conv => whnf) | (refine And.intro (fun _ => ⟨by omega, by omega⟩) ?_; conv => whnf) | (refine And.intro (fun _ => by omega) (And.intro rfl ?_); conv => whnf) | (refine And.intro ⟨(by first | omega | (simp; omega)), (by first | omega | (simp; omega))⟩ ?_; conv => whnf) | (refine Exists.intro _ (And.intro rfl (And.intro (by first | omega | (simp; omega)) (And.intro ⟨rfl, rfl, rfl, rfl, rfl⟩ ?_))); conv => whnf) | (refine And.intro ⟨rfl, rfl⟩ (And.intro (by first | omega | (simp; omega)) ?_); conv => whnf) | (refine Exists.intro _ (And.intro rfl ?_); conv => whnf) | (refine And.intro (fun _ => ?_) (fun h => absurd h (by decide)); conv => whnf) | (refine And.intro (fun h => absurd h (by decide)) (fun _ => ?_); conv => whnf) | (refine .quiet (by kernel_rfl) ?_; conv => whnf))
    refine ⟨fun hd => ?_, fun hd => ?_⟩
    · conv => whnf
      repeat (first | (refine And.intro ⟨by omega, by omega⟩ ?_; conv => whnf) | (refine And.intro (by omega) (And.intro rfl ?_); conv => whnf) | (refine And.intro rfl ?_; conv => whnf) | (refine And.intro (fun _ => ⟨by omega, by omega⟩) ?_; conv => whnf) | (refine And.intro (fun _ => by omega) (And.intro rfl ?_); conv => whnf) | (refine And.intro ⟨(by first | omega | (simp; omega)), (by first | omega | (simp; omega))⟩ ?_; conv => whnf) | (refine Exists.intro _ (And.intro rfl (And.intro (by first | omega | (simp; omega)) (And.intro ⟨rfl, rfl, rfl, rfl, rfl⟩ ?_))); conv => whnf) | (refine And.intro ⟨rfl, rfl⟩ (And.intro (by first | omega | (simp; omega)) ?_); conv => whnf) | (refine Exists.intro _ (And.intro rfl ?_); conv => whnf) | (refine And.intro (fun _ => ?_) (fun h => absurd h (by decide)); conv => whnf) | (refine And.intro (fun h => absurd h (by decide)) (fun _ => ?_); conv => whnf) | (refine .quiet (by kernel_rfl) ?_; conv => whnf))
      have hd' : (decide (i < 0) || !decide ((l.getD ((k : Nat) : Int).toNat f0).issuer = issuer)) = true := hd
      rw [Int.toNat_natCast] at hd' hi
      have hskip : stepN l issuer period day ns (l.getD k f0) = ns := by
        unfold stepN
        split
        · rename_i h
          exfalso
          obtain ⟨h1, h2⟩ := h
          unfold At at hi
          split at hi
          · rename_i h3
            rw [h3] at h1
            cases h1
          · obtain ⟨n, h3, _⟩ := hi
            rw [decide_eq_true h2] at hd'
            simp at hd'
            omega
        · rfl
      rw [hskip] at hst
      refine up hlt trivial ((wk_of [(0, .id 0)] rfl ⟨.base (.tree _ _ rfl rfl), .base (.tree _ _ rfl rfl), .base (.tree _ _ rfl rfl), .base (.tree _ _ rfl rfl), (by first | exact .base (.own _ _ rfl) | exact .base (.nilown _ rfl) | exact .base (.trunc _ _ _ rfl)), .base (.tree _ _ rfl rfl), trivial⟩ ⟨⟨_, rfl, (by first | exact .row _ _ _ _ _ _ _ rfl hst.symm | exact .lstrow _ _ _ _ _ _ _ rfl hst.symm | exact .nilrow _ _ _ _ _ hst.symm | exact .truncrow _ _ _ _ _ _ _ _ rfl (by omega) hst.symm)⟩, trivial⟩))
    · have hd' : (decide (i < 0) || !decide ((l.getD ((k : Nat) : Int).toNat f0).issuer = issuer)) = false := hd
      rw [Int.toNat_natCast] at hd' hi
      have htake : stepN l issuer period day ns (l.getD k f0) = insN ns (l.getD k f0).name := by
        unfold stepN
        rw [if_pos]
        simp only [Bool.or_eq_false_iff, decide_eq_false_iff_not, Bool.not_eq_false', decide_eq_true_eq] at hd'
        refine ⟨?_, hd'.2⟩
        unfold At at hi
        split at hi
        · omega
        · rename_i h3
          rw [h3]
          rfl
      rw [htake] at hst
      conv => whnf
      refine loop_up (cxOk _ _) ns.length (fun _ => True) (fun j => ⟨[(0, encFs l), (1, .int .i64 issuer), (2, .int .i64 period), (3, .int .i64 day), (10, .own 0), (11, .int .i64 (k : Nat)), (12, .int .i64 ((atN ns (l.getD k f0).name j : Nat) : Int)), (13, .bool ((ns.take j).any (fun n => decide (n = (l.getD k f0).name)))), (14, .int .i64 (j : Nat))], [(0, .row 9 1 encS [] ns)], 1⟩) trivial ((wk_of [(0, .id 0)] rfl ⟨.base (.tree _ _ rfl rfl), .base (.tree _ _ rfl rfl), .base (.tree _ _ rfl rfl), .base (.tree _ _ rfl rfl), (by first | exact .base (.own _ _ rfl) | exact .base (.nilown _ rfl) | exact .base (.trunc _ _ _ rfl)), .base (.tree _ _ rfl rfl), .base (.tree _ _ rfl rfl), .base (.tree _ _ rfl rfl), .base (.tree _ _ rfl rfl), trivial⟩ ⟨⟨_, rfl, (by first | exact .row _ _ _ _ _ _ _ rfl rfl | exact .lstrow _ _ _ _ _ _ _ rfl rfl | exact .nilrow _ _ _ _ _ rfl | exact .truncrow _ _ _ _ _ _ _ _ rfl (by omega) rfl)⟩, trivial⟩)) ?_
      intro j hj _
      conv => whnf
      refine ⟨fun he => ?_, fun he => ?_⟩
      · simp only [decide_eq_true_eq] at he
        have hlt2 : j < ns.length := by omega
        conv => whnf
        repeat (first | (refine And.intro ⟨by omega, by omega⟩ ?_; conv => whnf) | (refine And.intro (by omega) (And.intro rfl ?_); conv => whnf) | (refine And.intro rfl ?_; conv => whnf) | (refine And.intro (fun _ => ⟨by omega, by omega⟩) ?_; conv => whnf) | (refine And.intro (fun _ => by omega) (And.intro rfl ?_); conv => whnf) | (refine And.intro ⟨(by first | omega | (simp; omega)), (by first | omega | (simp; omega))⟩ ?_; conv => whnf) | (refine Exists.intro _ (And.intro rfl (And.intro (by first | omega | (simp; omega)) (And.intro ⟨rfl, rfl, rfl, rfl, rfl⟩ ?_))); conv => whnf) | (refine And.intro ⟨rfl, rfl⟩ (And.intro (by first | omega | (simp; omega)) ?_); conv => whnf) | (refine Exists.intro _ (And.intro rfl ?_); conv => whnf) | (refine And.intro (fun _ => ?_) (fun h => absurd h (by decide)); conv => whnf) | (refine And.intro (fun h => absurd h (by decide)) (fun _ => ?_); conv => whnf) | (refine .quiet (by kernel_rfl) ?_; conv => whnf))
        have hat : atN ns (l.getD k f0).name (j + 1) = if Op.bytesLess (ns.getD j []) (l.getD k f0).name = true then j + 1 else atN ns (l.getD k f0).name j := rfl
        have hB : (ns.take (j + 1)).any (fun n => decide (n = (l.getD k f0).name)) = ((ns.take j).any (fun n => decide (n = (l.getD k f0).name)) || decide (ns.getD j [] = (l.getD k f0).name)) := by
          rw [take_getD (d := []) hlt2, List.any_append]; simp
        refine ⟨fun hf => ?_, fun hf => ?_⟩
        · rw [Int.toNat_natCast, Int.toNat_natCast] at hf
          rw [if_pos hf] at hat
          conv => whnf
          repeat (first | (refine And.intro ⟨by omega, by omega⟩ ?_; conv => whnf) | (refine And.intro (by omega) (And.intro rfl ?_); conv => whnf) | (refine And.intro rfl ?_; conv => whnf) | (refine And.intro (fun _ => ⟨by omega, by omega⟩) ?_; conv => whnf) | (refine And.intro (fun _ => by omega) (And.intro rfl ?_); conv => whnf) | (refine And.intro ⟨(by first | omega | (simp; omega)), (by first | omega | (simp; omega))⟩ ?_; conv => whnf) | (refine Exists.intro _ (And.intro rfl (And.intro (by first | omega | (simp; omega)) (And.intro ⟨rfl, rfl, rfl, rfl, rfl⟩ ?_))); conv => whnf) | (refine And.intro ⟨rfl, rfl⟩ (And.intro (by first | omega | (simp; omega)) ?_); conv => whnf) | (refine Exists.intro _ (And.intro rfl ?_); conv => whnf) | (refine And.intro (fun _ => ?_) (fun h => absurd h (by decide)); conv => whnf) | (refine And.intro (fun h => absurd h (by decide)) (fun _ => ?_); conv => whnf) | (refine .quiet (by kernel_rfl) ?_; conv => whnf))
          refine up hlt2 trivial ((wk_of [(0, .id 0)] rfl ⟨.base (.tree _ _ rfl rfl), .base (.tree _ _ rfl rfl), .base (.tree _ _ rfl rfl), .base (.tree _ _ rfl rfl), (by first | exact .base (.own _ _ rfl) | exact .base (.nilown _ rfl) | exact .base (.trunc _ _ _ rfl)), .base (.tree _ _ rfl rfl), .base (.tree _ _ (by rw [hat]; rfl) rfl), .base (.tree _ _ (by rw [hB]; rfl) rfl), .base (.tree _ _ rfl rfl), trivial⟩ ⟨⟨_, rfl, (by first | exact .row _ _ _ _ _ _ _ rfl rfl | exact .lstrow _ _ _ _ _ _ _ rfl rfl | exact .nilrow _ _ _ _ _ rfl | exact .truncrow _ _ _ _ _ _ _ _ rfl (by omega) rfl)⟩, trivial⟩))
        · rw [Int.toNat_natCast, Int.toNat_natCast] at hf
          rw [if_neg (by rw [hf]; exact Bool.noConfusion)] at hat
          conv => whnf
          repeat (first | (refine And.intro ⟨by omega, by omega⟩ ?_; conv => whnf) | (refine And.intro (by omega) (And.intro rfl ?_); conv => whnf) | (refine And.intro rfl ?_; conv => whnf) | (refine And.intro (fun _ => ⟨by omega, by omega⟩) ?_; conv => whnf) | (refine And.intro (fun _ => by omega) (And.intro rfl ?_); conv => whnf) | (refine And.intro ⟨(by first | omega | (simp; omega)), (by first | omega | (simp; omega))⟩ ?_; conv => whnf) | (refine Exists.intro _ (And.intro rfl (And.intro (by first | omega | (simp; omega)) (And.intro ⟨rfl, rfl, rfl, rfl, rfl⟩ ?_))); conv => whnf) | (refine And.intro ⟨rfl, rfl⟩ (And.intro (by first | omega | (simp; omega)) ?_); conv => whnf) | (refine Exists.intro _ (And.intro rfl ?_); conv => whnf) | (refine And.intro (fun _ => ?_) (fun h => absurd h (by decide)); conv => whnf) | (refine And.intro (fun h => absurd h (by decide)) (fun _ => ?_); conv => whnf) | (refine .quiet (by kernel_rfl) ?_; conv => whnf))
          refine up hlt2 trivial ((wk_of [(0, .id 0)] rfl ⟨.base (.tree _ _ rfl rfl), .base (.tree _ _ rfl rfl), .base (.tree _ _ rfl rfl), .base (.tree _ _ rfl rfl), (by first | exact .base (.own _ _ rfl) | exact .base (.nilown _ rfl) | exact .base (.trunc _ _ _ rfl)), .base (.tree _ _ rfl rfl), .base (.tree _ _ (by rw [hat]; rfl) rfl), .base (.tree _ _ (by rw [hB]; rfl) rfl), .base (.tree _ _ rfl rfl), trivial⟩ ⟨⟨_, rfl, (by first | exact .row _ _ _ _ _ _ _ rfl rfl | exact .lstrow _ _ _ _ _ _ _ rfl rfl | exact .nilrow _ _ _ _ _ rfl | exact .truncrow _ _ _ _ _ _ _ _ rfl (by omega) rfl)⟩, trivial⟩))
      · simp only [decide_eq_false_iff_not] at he
        have : j = ns.length := by omega
        subst this
        rw [List.take_length]
        conv => whnf
        have hale := atN_le ns (l.getD k f0).name ns.length
        unfold insN at hst
        cases hany : ns.any (fun n => decide (n = (l.getD k f0).name)) with
        | true =>
          rw [hany, if_pos rfl] at hst
          refine ⟨fun hf => ?_, fun hf => ?_⟩
          · exact Bool.noConfusion hf
          conv => whnf
          repeat (first | (refine And.intro ⟨by omega, by omega⟩ ?_; conv => whnf) | (refine And.intro (by omega) (And.intro rfl ?_); conv => whnf) | (refine And.intro rfl ?_; conv => whnf) | (refine And.intro (fun _ => ⟨by omega, by omega⟩) ?_; conv => whnf) | (refine And.intro (fun _ => by omega) (And.intro rfl ?_); conv => whnf) | (refine And.intro ⟨(by first | omega | (simp; omega)), (by first | omega | (simp; omega))⟩ ?_; conv => whnf) | (refine Exists.intro _ (And.intro rfl (And.intro (by first | omega | (simp; omega)) (And.intro ⟨rfl, rfl, rfl, rfl, rfl⟩ ?_))); conv => whnf) | (refine And.intro ⟨rfl, rfl⟩ (And.intro (by first | omega | (simp; omega)) ?_); conv => whnf) | (refine Exists.intro _ (And.intro rfl ?_); conv => whnf) | (refine And.intro (fun _ => ?_) (fun h => absurd h (by decide)); conv => whnf) | (refine And.intro (fun h => absurd h (by decide)) (fun _ => ?_); conv => whnf) | (refine .quiet (by kernel_rfl) ?_; conv => whnf))
          refine up hlt trivial ((wk_of [(0, .id 0)] rfl ⟨.base (.tree _ _ rfl rfl), .base (.tree _ _ rfl rfl), .base (.tree _ _ rfl rfl), .base (.tree _ _ rfl rfl), (by first | exact .base (.own _ _ rfl) | exact .base (.nilown _ rfl) | exact .base (.trunc _ _ _ rfl)), .base (.tree _ _ rfl rfl), trivial⟩ ⟨⟨_, rfl, (by first | exact .row _ _ _ _ _ _ _ rfl hst.symm | exact .lstrow _ _ _ _ _ _ _ rfl hst.symm | exact .nilrow _ _ _ _ _ hst.symm | exact .truncrow _ _ _ _ _ _ _ _ rfl (by omega) hst.symm)⟩, trivial⟩))
        | false =>
          rw [hany, if_neg (by exact Bool.noConfusion)] at hst
          generalize atN ns (l.getD k f0).name ns.length = at1 at *
          refine ⟨fun hf => ?_, fun hf => ?_⟩
          · conv => whnf
            repeat (first | (refine And.intro ⟨by omega, by omega⟩ ?_; conv => whnf) | (refine And.intro (by omega) (And.intro rfl ?_); conv => whnf) | (refine And.intro rfl ?_; conv => whnf) | (refine And.intro (fun _ => ⟨by omega, by omega⟩) ?_; conv => whnf) | (refine And.intro (fun _ => by omega) (And.intro rfl ?_); conv => whnf) | (refine And.intro ⟨(by first | omega | (simp; omega)), (by first | omega | (simp; omega))⟩ ?_; conv => whnf) | (refine Exists.intro _ (And.intro rfl (And.intro (by first | omega | (simp; omega)) (And.intro ⟨rfl, rfl, rfl, rfl, rfl⟩ ?_))); conv => whnf) | (refine And.intro ⟨rfl, rfl⟩ (And.intro (by first | omega | (simp; omega)) ?_); conv => whnf) | (refine Exists.intro _ (And.intro rfl ?_); conv => whnf) | (refine And.intro (fun _ => ?_) (fun h => absurd h (by decide)); conv => whnf) | (refine And.intro (fun h => absurd h (by decide)) (fun _ => ?_); conv => whnf) | (refine .quiet (by kernel_rfl) ?_; conv => whnf))
            refine And.intro ⟨rfl, rfl⟩ (And.intro ?_ ?_)
            · show (0 + (List.take (((ns.length : Nat) : Int).toNat - ((at1 : Nat) : Int).toNat) (List.drop ((at1 : Nat) : Int).toNat ns)).length) * 16 ≤ 140737488355328
              rw [List.length_take, List.length_drop]
              omega
            conv => whnf
            refine .eff (cxOk _ _) ?_
            conv => whnf
            repeat (first | (refine And.intro ⟨by omega, by omega⟩ ?_; conv => whnf) | (refine And.intro (by omega) (And.intro rfl ?_); conv => whnf) | (refine And.intro rfl ?_; conv => whnf) | (refine And.intro (fun _ => ⟨by omega, by omega⟩) ?_; conv => whnf) | (refine And.intro (fun _ => by omega) (And.intro rfl ?_); conv => whnf) | (refine And.intro ⟨(by first | omega | (simp; omega)), (by first | omega | (simp; omega))⟩ ?_; conv => whnf) | (refine Exists.intro _ (And.intro rfl (And.intro (by first | omega | (simp; omega)) (And.intro ⟨rfl, rfl, rfl, rfl, rfl⟩ ?_))); conv => whnf) | (refine And.intro ⟨rfl, rfl⟩ (And.intro (by first | omega | (simp; omega)) ?_); conv => whnf) | (refine Exists.intro _ (And.intro rfl ?_); conv => whnf) | (refine And.intro (fun _ => ?_) (fun h => absurd h (by decide)); conv => whnf) | (refine And.intro (fun h => absurd h (by decide)) (fun _ => ?_); conv => whnf) | (refine .quiet (by kernel_rfl) ?_; conv => whnf))
            refine And.intro ⟨rfl, rfl⟩ (And.intro (show (ns.length + 1) * 16 ≤ 140737488355328 by omega) ?_)
            conv => whnf
            refine ⟨(l.getD k f0).name, by rw [Int.toNat_natCast]; rfl, ?_⟩
            conv => whnf
            repeat (first | (refine And.intro ⟨by omega, by omega⟩ ?_; conv => whnf) | (refine And.intro (by omega) (And.intro rfl ?_); conv => whnf) | (refine And.intro rfl ?_; conv => whnf) | (refine And.intro (fun _ => ⟨by omega, by omega⟩) ?_; conv => whnf) | (refine And.intro (fun _ => by omega) (And.intro rfl ?_); conv => whnf) | (refine And.intro ⟨(by first | omega | (simp; omega)), (by first | omega | (simp; omega))⟩ ?_; conv => whnf) | (refine Exists.intro _ (And.intro rfl (And.intro (by first | omega | (simp; omega)) (And.intro ⟨rfl, rfl, rfl, rfl, rfl⟩ ?_))); conv => whnf) | (refine And.intro ⟨rfl, rfl⟩ (And.intro (by first | omega | (simp; omega)) ?_); conv => whnf) | (refine Exists.intro _ (And.intro rfl ?_); conv => whnf) | (refine And.intro (fun _ => ?_) (fun h => absurd h (by decide)); conv => whnf) | (refine And.intro (fun h => absurd h (by decide)) (fun _ => ?_); conv => whnf) | (refine .quiet (by kernel_rfl) ?_; conv => whnf))
            refine And.intro ⟨rfl, rfl⟩ (And.intro ?_ ?_)
            · show ((List.take ((at1 : Nat) : Int).toNat ns ++ [(l.getD k f0).name]).length + (List.take (((ns.length : Nat) : Int).toNat - ((at1 : Nat) : Int).toNat) (List.drop ((at1 : Nat) : Int).toNat ns)).length) * 16 ≤ 140737488355328
              rw [List.length_append, List.length_take, List.length_take, List.length_drop, List.length_singleton]
              omega
            conv => whnf
            refine ⟨_, rfl, ?_⟩
            conv => whnf
            refine ⟨by kernel_rfl, ?_⟩
            conv => whnf
            repeat (first | (refine And.intro ⟨by omega, by omega⟩ ?_; conv => whnf) | (refine And.intro (by omega) (And.intro rfl ?_); conv => whnf) | (refine And.intro rfl ?_; conv => whnf) | (refine And.intro (fun _ => ⟨by omega, by omega⟩) ?_; conv => whnf) | (refine And.intro (fun _ => by omega) (And.intro rfl ?_); conv => whnf) | (refine And.intro ⟨(by first | omega | (simp; omega)), (by first | omega | (simp; omega))⟩ ?_; conv => whnf) | (refine Exists.intro _ (And.intro rfl (And.intro (by first | omega | (simp; omega)) (And.intro ⟨rfl, rfl, rfl, rfl, rfl⟩ ?_))); conv => whnf) | (refine And.intro ⟨rfl, rfl⟩ (And.intro (by first | omega | (simp; omega)) ?_); conv => whnf) | (refine Exists.intro _ (And.intro rfl ?_); conv => whnf) | (refine And.intro (fun _ => ?_) (fun h => absurd h (by decide)); conv => whnf) | (refine And.intro (fun h => absurd h (by decide)) (fun _ => ?_); conv => whnf) | (refine .quiet (by kernel_rfl) ?_; conv => whnf))
            refine up hlt trivial ((wk_of [(0, .id 5)] rfl ⟨.base (.tree _ _ rfl rfl), .base (.tree _ _ rfl rfl), .base (.tree _ _ rfl rfl), .base (.tree _ _ rfl rfl), (by first | exact .base (.own _ _ rfl) | exact .base (.nilown _ rfl) | exact .base (.trunc _ _ _ rfl)), .base (.tree _ _ rfl rfl), trivial⟩ ⟨⟨_, rfl, (by first | exact .row _ _ _ _ _ _ _ rfl (by rw [hst, Int.toNat_natCast, Int.toNat_natCast, List.take_of_length_le (i := ns.length - at1) (by rw [List.length_drop]; omega)]) | exact .lstrow _ _ _ _ _ _ _ rfl (by rw [hst, Int.toNat_natCast, Int.toNat_natCast, List.take_of_length_le (i := ns.length - at1) (by rw [List.length_drop]; omega)]) | exact .nilrow _ _ _ _ _ (by rw [hst, Int.toNat_natCast, Int.toNat_natCast, List.take_of_length_le (i := ns.length - at1) (by rw [List.length_drop]; omega)]) | exact .truncrow _ _ _ _ _ _ _ _ rfl (by omega) (by rw [hst, Int.toNat_natCast, Int.toNat_natCast, List.take_of_length_le (i := ns.length - at1) (by rw [List.length_drop]; omega)]))⟩, trivial⟩))
          · exact Bool.noConfusion hf
  · have hc' : (decide ((k : Int) < l.length) && true) = false := hc
    simp only [Bool.and_true, decide_eq_false_iff_not] at hc'
    have hkl : k = l.length := by omega
    subst hkl
    rw [hall]
    have hln := hlen l.length
    rw [hall] at hln
    generalize names2 l issuer period day = ns at *
    conv => whnf
    refine loop_up (cxOk _ _) ns.length (fun _ => True) (fun j => ⟨[(0, encFs l), (1, .int .i64 issuer), (2, .int .i64 period), (3, .int .i64 day), (10, .own 0), (16, .own 1), (17, .int .i64 (j : Nat))], [(0, .row 9 1 encS [] ns), (1, .row 3 1 encJ 0 ((ns.take j).map fun s => ((valueO l issuer s period day).getD f0).value))], 2⟩) trivial ((wk_of [(0, .id 0), (1, .nil)] rfl ⟨.base (.tree _ _ rfl rfl), .base (.tree _ _ rfl rfl), .base (.tree _ _ rfl rfl), .base (.tree _ _ rfl rfl), (by first | exact .base (.own _ _ rfl) | exact .base (.nilown _ rfl) | exact .base (.trunc _ _ _ rfl)), (by first | exact .base (.own _ _ rfl) | exact .base (.nilown _ rfl) | exact .base (.trunc _ _ _ rfl)), .base (.tree _ _ rfl rfl), trivial⟩ ⟨⟨_, rfl, (by first | exact .row _ _ _ _ _ _ _ rfl rfl | exact .lstrow _ _ _ _ _ _ _ rfl rfl | exact .nilrow _ _ _ _ _ rfl | exact .truncrow _ _ _ _ _ _ _ _ rfl (by omega) rfl)⟩, ⟨_, rfl, (by first | exact .row _ _ _ _ _ _ _ rfl rfl | exact .lstrow _ _ _ _ _ _ _ rfl rfl | exact .nilrow _ _ _ _ _ rfl | exact .truncrow _ _ _ _ _ _ _ _ rfl (by omega) rfl)⟩, trivial⟩)) ?_
    intro j hj _
    conv => whnf
    refine ⟨fun he => ?_, fun he => ?_⟩
    · simp only [decide_eq_true_eq] at he
      have hlt2 : j < ns.length := by omega
      conv => whnf
      repeat (first | (refine And.intro ⟨by omega, by omega⟩ ?_; conv => whnf) | (refine And.intro (by omega) (And.intro rfl ?_); conv => whnf) | (refine And.intro rfl ?_; conv => whnf) | (refine And.intro (fun _ => ⟨by omega, by omega⟩) ?_; conv => whnf) | (refine And.intro (fun _ => by omega) (And.intro rfl ?_); conv => whnf) | (refine And.intro ⟨(by first | omega | (simp; omega)), (by first | omega | (simp; omega))⟩ ?_; conv => whnf) | (refine Exists.intro _ (And.intro rfl (And.intro (by first | omega | (simp; omega)) (And.intro ⟨rfl, rfl, rfl, rfl, rfl⟩ ?_))); conv => whnf) | (refine And.intro ⟨rfl, rfl⟩ (And.intro (by first | omega | (simp; omega)) ?_); conv => whnf) | (refine Exists.intro _ (And.intro rfl ?_); conv => whnf) | (refine And.intro (fun _ => ?_) (fun h => absurd h (by decide)); conv => whnf) | (refine And.intro (fun h => absurd h (by decide)) (fun _ => ?_); conv => whnf) | (refine .quiet (by kernel_rfl) ?_; conv => whnf))
      refine .one _ _ _ (fun _ => value2_ok l hl _ _ _ _) (by repeat (first | exact .nil | (apply BorL.cons; first | exact lS rfl | exact lR rfl | exact lM rfl rfl | exact lL rfl | exact lX rfl | exact lN | exact lNl | exact lSm rfl | exact lIm rfl | exact lP rfl | exact lQ rfl))) (by first | exact .inl rfl | exact .inr (by repeat (first | exact flats_nil | refine flats_cons (by first | exact flat_val _ rfl | exact flat_row (fun _ => rfl) | exact flat_lst (fun _ => rfl)) ?_))) (by first | exact .inl rfl | exact .inr rfl) ?_
      conv => whnf
      repeat (first | (refine And.intro ⟨by omega, by omega⟩ ?_; conv => whnf) | (refine And.intro (by omega) (And.intro rfl ?_); conv => whnf) | (refine And.intro rfl ?_; conv => whnf) | (refine And.intro (fun _ => ⟨by omega, by omega⟩) ?_; conv => whnf) | (refine And.intro (fun _ => by omega) (And.intro rfl ?_); conv => whnf) | (refine And.intro ⟨(by first | omega | (simp; omega)), (by first | omega | (simp; omega))⟩ ?_; conv => whnf) | (refine Exists.intro _ (And.intro rfl (And.intro (by first | omega | (simp; omega)) (And.intro ⟨rfl, rfl, rfl, rfl, rfl⟩ ?_))); conv => whnf) | (refine And.intro ⟨rfl, rfl⟩ (And.intro (by first | omega | (simp; omega)) ?_); conv => whnf) | (refine Exists.intro _ (And.intro rfl ?_); conv => whnf) | (refine And.intro (fun _ => ?_) (fun h => absurd h (by decide)); conv => whnf) | (refine And.intro (fun h => absurd h (by decide)) (fun _ => ?_); conv => whnf) | (refine .quiet (by kernel_rfl) ?_; conv => whnf))
      have hv : (ns.take (j + 1)).map (fun s => ((valueO l issuer s period day).getD f0).value) = (ns.take j).map (fun s => ((valueO l issuer s period day).getD f0).value) ++ [((valueO l issuer (ns.getD j []) period day).getD f0).value] := by
        rw [take_getD (d := []) hlt2, List.map_append]
        rfl
      have hlv : ((ns.take j).map (fun s => ((valueO l issuer s period day).getD f0).value)).length ≤ 1000000 := by simp; omega
      refine And.intro ⟨rfl, rfl⟩ (And.intro (show (((ns.take j).map (fun s => ((valueO l issuer s period day).getD f0).value)).length + 1) * 8 ≤ 140737488355328 by omega) ?_)
      conv => whnf
      refine ⟨((valueO l issuer (ns.getD j []) period day).getD f0).value, by rw [Int.toNat_natCast]; rfl, ?_⟩
      conv => whnf
      repeat (first | (refine And.intro ⟨by omega, by omega⟩ ?_; conv => whnf) | (refine And.intro (by omega) (And.intro rfl ?_); conv => whnf) | (refine And.intro rfl ?_; conv => whnf) | (refine And.intro (fun _ => ⟨by omega, by omega⟩) ?_; conv => whnf) | (refine And.intro (fun _ => by omega) (And.intro rfl ?_); conv => whnf) | (refine And.intro ⟨(by first | omega | (simp; omega)), (by first | omega | (simp; omega))⟩ ?_; conv => whnf) | (refine Exists.intro _ (And.intro rfl (And.intro (by first | omega | (simp; omega)) (And.intro ⟨rfl, rfl, rfl, rfl, rfl⟩ ?_))); conv => whnf) | (refine And.intro ⟨rfl, rfl⟩ (And.intro (by first | omega | (simp; omega)) ?_); conv => whnf) | (refine Exists.intro _ (And.intro rfl ?_); conv => whnf) | (refine And.intro (fun _ => ?_) (fun h => absurd h (by decide)); conv => whnf) | (refine And.intro (fun h => absurd h (by decide)) (fun _ => ?_); conv => whnf) | (refine .quiet (by kernel_rfl) ?_; conv => whnf))
      refine up hlt2 trivial ((wk_of [(0, .id 0), (1, .id 3)] rfl ⟨.base (.tree _ _ rfl rfl), .base (.tree _ _ rfl rfl), .base (.tree _ _ rfl rfl), .base (.tree _ _ rfl rfl), (by first | exact .base (.own _ _ rfl) | exact .base (.nilown _ rfl) | exact .base (.trunc _ _ _ rfl)), (by first | exact .base (.own _ _ rfl) | exact .base (.nilown _ rfl) | exact .base (.trunc _ _ _ rfl)), .base (.tree _ _ rfl rfl), trivial⟩ ⟨⟨_, rfl, (by first | exact .row _ _ _ _ _ _ _ rfl rfl | exact .lstrow _ _ _ _ _ _ _ rfl rfl | exact .nilrow _ _ _ _ _ rfl | exact .truncrow _ _ _ _ _ _ _ _ rfl (by omega) rfl)⟩, ⟨_, rfl, (by first | exact .row _ _ _ _ _ _ _ rfl hv.symm | exact .lstrow _ _ _ _ _ _ _ rfl hv.symm | exact .nilrow _ _ _ _ _ hv.symm | exact .truncrow _ _ _ _ _ _ _ _ rfl (by omega) hv.symm)⟩, trivial⟩))
    · simp only [decide_eq_false_iff_not] at he
      have : j = ns.length := by omega
      subst this
      rw [List.take_length]
      conv => whnf
      rfl

end Go.Proofs.Ytnpnjaeobdapcaa
