import Derived.Test.YtnpnjaeobdapcaaT4
namespace Go.Proofs.Ytnpnjaeobdapcaa
open Go.Own
set_option maxHeartbeats 400000

/-- What is known, account by account. -/
def known1 (issuer period day : Int) (m : List (List UInt8 × Fact)) (f : Fact) : List (List UInt8 × Fact) :=
  if (!decide (f.issuer = issuer) || decide (day < f.day) || decide (period < f.period)) = true then m
  else if (!(mget m f.name).isSome || decide (((mget m f.name).getD f0).period ≤ f.period)) = true then mset m f.name f else m
def knownM (issuer period day : Int) (l : List Fact) : List (List UInt8 × Fact) := l.foldl (known1 issuer period day) []

theorem collect_ok (l : List Fact) (hl : Fits l) (issuer period day : Int) :
    APure Try.prog 26 [encFs l, .int .i64 issuer, .int .i64 period, .int .i64 day] (fun rs => rs = if rightB l = true then [.new (.smap encF f0 (knownM issuer period day l))] else [.val .nilm]) := by
  refine apure_of (C := cx 62 [0, 1, 2, 3, 8, 9, 11, 12, 13, 16, 18, 19, 20, 21, 39, 55]) (cxOk _ _) Try.func26 rfl (by decide) rfl (by exact Nat.le_of_ble_eq_true rfl) (by decide) ?_
  conv => whnf
  refine .one _ _ _ (fun _ => right_ok l hl) (.cons (.base (.base (.same _ rfl))) .nil) (.inl rfl) (.inr rfl) ?_
  conv => whnf
  refine ⟨fun hc => ?_, fun hc => ?_⟩
  · conv => whnf
    rw [if_neg (by simpa using hc)]
    rfl
  conv => whnf
  have hR : rightB l = true := by simpa using hc
  refine loop_up (cxOk _ _) l.length (fun k => True) (fun k => ⟨[(1, .int .i64 issuer), (2, .int .i64 period), (3, .int .i64 day), (9, .map 0), (18, encFs l), (19, .int .i64 l.length), (20, .int .i64 k)], [(0, .smap encF f0 (knownM issuer period day (l.take k)))], 1⟩) trivial ?_ ?_
  · exact wk_of [(0, .id 0)] rfl ⟨.base (.tree _ _ rfl rfl), .base (.tree _ _ rfl rfl), .base (.tree _ _ rfl rfl), .base (.map _ _ rfl), .base (.tree _ _ rfl rfl), .base (.tree _ _ rfl rfl), .base (.tree _ _ rfl rfl), trivial⟩ ⟨⟨_, rfl, .newsmap _ _ _ _ _ _ _ rfl rfl (by simp [knownM])⟩, trivial⟩
  · intro k hk _
    have hll := hl.1
    conv => whnf
    refine ⟨fun hc => ?_, fun hc => ?_⟩
    · simp only [decide_eq_true_eq] at hc
      have hlt : k < l.length := by omega
      have hstep : knownM issuer period day (l.take (k + 1)) = known1 issuer period day (knownM issuer period day (l.take k)) (l.getD k f0) := by
        rw [take_getD (d := f0) hlt, knownM, List.foldl_append]
        rfl
      conv => whnf
      refine ⟨by constructor <;> omega, ?_⟩
      conv => whnf
      refine ⟨rfl, ?_⟩
      conv => whnf
      refine ⟨fun hd => ?_, fun hd => ?_⟩
      · conv => whnf
        simp only [Int.toNat_natCast] at hd
        have : knownM issuer period day (l.take (k + 1)) = knownM issuer period day (l.take k) := by
          rw [hstep, known1, if_pos hd]
        refine ⟨by constructor <;> omega, ?_⟩
        conv => whnf
        refine up hlt trivial (wk_of [(0, .id 0)] rfl ⟨.base (.tree _ _ rfl rfl), .base (.tree _ _ rfl rfl), .base (.tree _ _ rfl rfl), .base (.map _ _ rfl), .base (.tree _ _ rfl rfl), .base (.tree _ _ rfl rfl), .base (.tree _ _ rfl rfl), trivial⟩ ⟨⟨_, rfl, .smap _ _ _ _ _ rfl this.symm⟩, trivial⟩)
      · conv => whnf
        simp only [Int.toNat_natCast] at hd
        refine ⟨rfl, ?_⟩
        conv => whnf
        refine ⟨fun he => ?_, fun he => ?_⟩
        · conv => whnf
          simp only [Int.toNat_natCast] at he
          refine ⟨l.getD k f0, rfl, ?_⟩
          conv => whnf
          refine ⟨by constructor <;> omega, ?_⟩
          conv => whnf
          have : knownM issuer period day (l.take (k + 1)) = mset (knownM issuer period day (l.take k)) (l.getD k f0).name (l.getD k f0) := by
            rw [hstep, known1, if_neg (by rw [hd]; decide), if_pos he]
          refine up hlt trivial (wk_of [(0, .id 0)] rfl ⟨.base (.tree _ _ rfl rfl), .base (.tree _ _ rfl rfl), .base (.tree _ _ rfl rfl), .base (.map _ _ rfl), .base (.tree _ _ rfl rfl), .base (.tree _ _ rfl rfl), .base (.tree _ _ rfl rfl), trivial⟩ ⟨⟨_, rfl, .smap _ _ _ _ _ rfl this.symm⟩, trivial⟩)
        · conv => whnf
          simp only [Int.toNat_natCast] at he
          refine ⟨by constructor <;> omega, ?_⟩
          conv => whnf
          have : knownM issuer period day (l.take (k + 1)) = knownM issuer period day (l.take k) := by
            rw [hstep, known1, if_neg (by rw [hd]; decide), if_neg (by rw [he]; decide)]
          refine up hlt trivial (wk_of [(0, .id 0)] rfl ⟨.base (.tree _ _ rfl rfl), .base (.tree _ _ rfl rfl), .base (.tree _ _ rfl rfl), .base (.map _ _ rfl), .base (.tree _ _ rfl rfl), .base (.tree _ _ rfl rfl), .base (.tree _ _ rfl rfl), trivial⟩ ⟨⟨_, rfl, .smap _ _ _ _ _ rfl this.symm⟩, trivial⟩)
    · conv => whnf
      simp only [decide_eq_false_iff_not] at hc
      rw [if_pos hR]
      rw [List.take_of_length_le (by omega)]
      rfl

/-- What Value says. -/
def valueO (l : List Fact) (issuer : Int) (name : List UInt8) (period day : Int) : Option Fact := if rightB l = true then mget (knownM issuer period day l) name else none

theorem value_ok (l : List Fact) (hl : Fits l) (issuer : Int) (name : List UInt8) (period day : Int) :
    APure Try.prog 10 [encFs l, .int .i64 issuer, .str name, .int .i64 period, .int .i64 day] (fun rs => rs = [.val (.int .i64 ((valueO l issuer name period day).getD f0).value), .val (.bool (valueO l issuer name period day).isSome)]) := by
  refine apure_of (C := cx 27 [0, 1, 2, 3, 4, 10, 11, 12, 13]) (cxOk _ _) Try.func10 rfl (by decide) rfl (by exact Nat.le_of_ble_eq_true rfl) (by decide) ?_
  conv => whnf
  by_cases hR : rightB l = true
  · have hc := collect_ok l hl issuer period day
    rw [if_pos hR] at hc
    refine .one _ _ _ (fun _ => hc) (.cons (.base (.base (.same _ rfl))) (.cons (.base (.base (.same _ rfl))) (.cons (.base (.base (.same _ rfl))) (.cons (.base (.base (.same _ rfl))) .nil)))) (.inl rfl) (.inl rfl) ?_
    conv => whnf
    refine ⟨rfl, ?_⟩
    conv => whnf
    rw [valueO, if_pos hR]
    rfl
  · have hc := collect_ok l hl issuer period day
    rw [if_neg hR] at hc
    refine .one _ _ _ (fun _ => hc) (.cons (.base (.base (.same _ rfl))) (.cons (.base (.base (.same _ rfl))) (.cons (.base (.base (.same _ rfl))) (.cons (.base (.base (.same _ rfl))) .nil)))) (.inl rfl) (.inl rfl) ?_
    conv => whnf
    rw [valueO, if_neg hR]
    rfl

def someL : List Fact := [⟨3, [99, 97, 115, 104], 90, 500, 100⟩, ⟨3, [99, 97, 115, 104], 180, 700, 200⟩, ⟨3, [99, 97, 115, 104], 90, 400, 210⟩]
theorem some_ok : APure Try.prog 22 [] (fun rs => rs = [.new (.lst 24 5 (someL.map encF))]) := by
  refine apure_of (C := cx 5 [0]) (cxOk _ _) Try.func22 rfl (by decide) rfl (by exact Nat.le_of_ble_eq_true rfl) (by decide) ?_
  conv => whnf
  rfl
theorem someF_ok : APureV Try.prog 22 [] (encFs someL) := some_ok.freeze1.le1 (.lsl _ _ _ _ _ rfl)

theorem fits_some : Fits someL := by
  refine ⟨by decide, fun f hf => ?_⟩
  simp [someL] at hf
  rcases hf with rfl | rfl | rfl <;> decide

def saysB (period day want : Int) : Bool :=
  ((valueO someL 3 [99, 97, 115, 104] period day).isSome == decide (0 ≤ want)) && decide (((valueO someL 3 [99, 97, 115, 104] period day).getD f0).value = max want 0)
theorem says_ok (period day want : Int) : APureV Try.prog 23 [.int .i64 period, .int .i64 day, .int .i64 want] (.bool (saysB period day want)) := by
  refine apure_of (C := cx 26 [0, 1, 2, 6, 7, 8]) (cxOk _ _) Try.func23 rfl (by decide) rfl (by exact Nat.le_of_ble_eq_true rfl) (by decide) ?_
  conv => whnf
  refine .one _ _ _ (fun _ => someF_ok) .nil (.inl rfl) (.inr rfl) ?_
  conv => whnf
  refine .one _ _ _ (fun _ => value_ok someL fits_some 3 _ period day) (.cons (.base (.base (.same _ rfl))) (.cons (.base (.base (.same _ rfl))) (.cons (.base (.base (.same _ rfl))) (.cons (.base (.base (.same _ rfl))) (.cons (.base (.base (.same _ rfl))) .nil))))) (.inl rfl) (.inr rfl) ?_
  conv => whnf
  rfl

end Go.Proofs.Ytnpnjaeobdapcaa
