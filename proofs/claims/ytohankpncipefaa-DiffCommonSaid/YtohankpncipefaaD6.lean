import Derived.Test.YtohankpncipefaaD5
namespace Go.Proofs.Ytohankpncipefaa
open Go.Own
set_option maxHeartbeats 1000000
set_option maxRecDepth 100000

theorem eqLets_ok : APureV Try.prog 18 [.nils, .nils, .fn (.func 19) [] []] (.bool true) := by
  refine apure_of (C := cx 32 [0, 1, 2, 6, 7, 8, 9, 14, 15, 16, 17, 18, 30]) (cxOk _ _) Try.func18 rfl (by decide) rfl (by exact Nat.le_of_ble_eq_true rfl) (by decide) ?_
  conv => whnf
  refine ⟨fun hc => ?_, fun hc => ?_⟩
  · simp at hc
  conv => whnf
  refine loop_up (cxOk _ _) 0 (fun _ => True) (fun k => ⟨[(15, .nils), (16, .int .i64 0), (17, .int .i64 (k : Nat))], [], 0⟩) trivial (wk_of [] rfl ⟨.base (.tree _ _ rfl rfl), .base (.tree _ _ rfl rfl), .base (.tree _ _ rfl rfl), trivial⟩ trivial) ?_
  intro k hk _
  conv => whnf
  refine ⟨fun hc => ?_, fun hc => ?_⟩
  · simp only [decide_eq_true_eq] at hc
    omega
  · conv => whnf
    rfl

theorem eqExps_ok : APureV Try.prog 21 [.nils, .nils, .fn (.func 20) [] []] (.bool true) := by
  refine apure_of (C := cx 32 [0, 1, 2, 6, 7, 8, 9, 14, 15, 16, 17, 18, 30]) (cxOk _ _) Try.func21 rfl (by decide) rfl (by exact Nat.le_of_ble_eq_true rfl) (by decide) ?_
  conv => whnf
  refine ⟨fun hc => ?_, fun hc => ?_⟩
  · simp at hc
  conv => whnf
  refine loop_up (cxOk _ _) 0 (fun _ => True) (fun k => ⟨[(15, .nils), (16, .int .i64 0), (17, .int .i64 (k : Nat))], [], 0⟩) trivial (wk_of [] rfl ⟨.base (.tree _ _ rfl rfl), .base (.tree _ _ rfl rfl), .base (.tree _ _ rfl rfl), trivial⟩ trivial) ?_
  intro k hk _
  conv => whnf
  refine ⟨fun hc => ?_, fun hc => ?_⟩
  · simp only [decide_eq_true_eq] at hc
    omega
  · conv => whnf
    rfl

abbrev noExp : AV := .agg [.int .i64 0, .int .i64 0, .int .i64 0, .str [], .nils]
theorem sameExp_ok : APureV Try.prog 20 [noExp, noExp] (.bool true) := by
  refine apure_of (C := cx 38 [0, 1, 2, 3, 4]) (cxOk _ _) Try.func20 rfl (by decide) rfl (by exact Nat.le_of_ble_eq_true rfl) (by decide) ?_
  conv => whnf
  refine .one _ _ _ (fun _ => eqExps_ok) (by repeat (first | exact .nil | (apply BorL.cons; first | exact lS rfl | exact lR rfl | exact lM rfl rfl | exact lL rfl | exact lX rfl | exact lN | exact lNl | exact lSm rfl | exact lIm rfl | exact lP rfl | exact lQ rfl | exact .fn _ _ _ _ _ _ _ (by repeat (first | exact .nil | (apply BorL.cons; first | exact .base (.same _ rfl) | exact .base (.row _ _ _ _ _ _ rfl) | exact .base (.smap _ _ _ _ rfl) | exact .base (.imap _ _ _ _ _ rfl) | exact .box _ _ _ _ _ _ rfl (by repeat (first | exact .nil | (apply BorL.cons; first | exact .same _ rfl | exact .row _ _ _ _ _ _ rfl | exact .lstrow _ _ _ _ _ _ _ rfl rfl | exact .lst _ _ _ _ rfl | exact .smap _ _ _ _ rfl | exact .imap _ _ _ _ _ rfl))) (by simp [AV.one])))) (by repeat (first | exact .nil | (apply BorL.cons; first | exact .base (.same _ rfl) | exact .base (.row _ _ _ _ _ _ rfl) | exact .base (.smap _ _ _ _ rfl) | exact .base (.imap _ _ _ _ _ rfl) | exact .box _ _ _ _ _ _ rfl (by repeat (first | exact .nil | (apply BorL.cons; first | exact .same _ rfl | exact .row _ _ _ _ _ _ rfl | exact .lstrow _ _ _ _ _ _ _ rfl rfl | exact .lst _ _ _ _ rfl | exact .smap _ _ _ _ rfl | exact .imap _ _ _ _ _ rfl))) (by simp [AV.one])))) | exact .box _ _ _ _ _ _ rfl (by repeat (first | exact .nil | (apply BorL.cons; first | exact .base (.same _ rfl) | exact .base (.row _ _ _ _ _ _ rfl) | exact .base (.smap _ _ _ _ rfl) | exact .base (.imap _ _ _ _ _ rfl) | exact .box _ _ _ _ _ _ rfl (by repeat (first | exact .nil | (apply BorL.cons; first | exact .same _ rfl | exact .row _ _ _ _ _ _ rfl | exact .lstrow _ _ _ _ _ _ _ rfl rfl | exact .lst _ _ _ _ rfl | exact .smap _ _ _ _ rfl | exact .imap _ _ _ _ _ rfl))) (by simp [AV.one])))) (by simp [AV.one]) | exact .agg _ _ _ (by repeat (first | exact .nil | (apply BorL.cons; first | exact .base (.same _ rfl) | exact .base (.row _ _ _ _ _ _ rfl) | exact .base (.smap _ _ _ _ rfl) | exact .base (.imap _ _ _ _ _ rfl) | exact .box _ _ _ _ _ _ rfl (by repeat (first | exact .nil | (apply BorL.cons; first | exact .same _ rfl | exact .row _ _ _ _ _ _ rfl | exact .lstrow _ _ _ _ _ _ _ rfl rfl | exact .lst _ _ _ _ rfl | exact .smap _ _ _ _ rfl | exact .imap _ _ _ _ _ rfl))) (by simp [AV.one]))))))) (by first | exact .inl rfl | exact .inr (by repeat (first | exact flats_nil | refine flats_cons (by first | exact flat_val _ rfl | exact flat_row (fun _ => rfl) | exact flat_lst (fun _ => rfl)) ?_))) (by first | exact .inl rfl | exact .inr rfl) ?_
  conv => whnf
  rfl

structure Mat where
  name : Str
  same : Bool
def encM (m : Mat) : AV := .agg [.str m.name, .bool m.same]
instance : Inhabited Mat := ⟨⟨[], false⟩⟩

abbrev face : Str := [102, 97, 99, 101]
abbrev rank : Str := [114, 97, 110, 107]
def mats : List Mat := [⟨face, false⟩, ⟨[102, 114, 111, 109], true⟩, ⟨[116, 111], true⟩, ⟨[99, 111, 117, 112, 111, 110], true⟩, ⟨rank, false⟩, ⟨[109, 97, 106, 111, 114, 105, 116, 121], true⟩]
def notSame (l : List Mat) : List Str := (l.filter fun m => !m.same).map Mat.name

def inden (f r : Int) : AV := .agg [.str [], .str [], .int .i64 f, .int .i64 0, .int .i64 0, .int .i64 0, .int .i64 0, .int .i64 0, .int .i64 0, .int .i64 r, .nils, .int .i64 0, .int .i64 0, .int .i64 0, .str [], .nils, .int .i64 0, .nils, .nils, .int .i64 0, .nils, .int .i64 0, .int .i64 0, .int .i64 0, .int .i64 0]

theorem reserved_ok : APure Try.prog 15 [inden 1 2, inden 2 0] (fun rs => rs = [.new (.row 9 1 encS [] [face, rank])]) := by
  refine apure_of (C := cx 76 [0, 1, 2, 3, 4, 5, 6, 8, 60, 61, 62, 63, 68]) (cxOk _ _) Try.func15 rfl (by decide) rfl (by exact Nat.le_of_ble_eq_true rfl) (by decide) ?_
  conv => whnf
  refine .one _ _ _ (fun _ => eqLets_ok) (by repeat (first | exact .nil | (apply BorL.cons; first | exact lS rfl | exact lR rfl | exact lM rfl rfl | exact lL rfl | exact lX rfl | exact lN | exact lNl | exact lSm rfl | exact lIm rfl | exact lP rfl | exact lQ rfl | exact .fn _ _ _ _ _ _ _ (by repeat (first | exact .nil | (apply BorL.cons; first | exact .base (.same _ rfl) | exact .base (.row _ _ _ _ _ _ rfl) | exact .base (.smap _ _ _ _ rfl) | exact .base (.imap _ _ _ _ _ rfl) | exact .box _ _ _ _ _ _ rfl (by repeat (first | exact .nil | (apply BorL.cons; first | exact .same _ rfl | exact .row _ _ _ _ _ _ rfl | exact .lstrow _ _ _ _ _ _ _ rfl rfl | exact .lst _ _ _ _ rfl | exact .smap _ _ _ _ rfl | exact .imap _ _ _ _ _ rfl))) (by simp [AV.one])))) (by repeat (first | exact .nil | (apply BorL.cons; first | exact .base (.same _ rfl) | exact .base (.row _ _ _ _ _ _ rfl) | exact .base (.smap _ _ _ _ rfl) | exact .base (.imap _ _ _ _ _ rfl) | exact .box _ _ _ _ _ _ rfl (by repeat (first | exact .nil | (apply BorL.cons; first | exact .same _ rfl | exact .row _ _ _ _ _ _ rfl | exact .lstrow _ _ _ _ _ _ _ rfl rfl | exact .lst _ _ _ _ rfl | exact .smap _ _ _ _ rfl | exact .imap _ _ _ _ _ rfl))) (by simp [AV.one])))) | exact .box _ _ _ _ _ _ rfl (by repeat (first | exact .nil | (apply BorL.cons; first | exact .base (.same _ rfl) | exact .base (.row _ _ _ _ _ _ rfl) | exact .base (.smap _ _ _ _ rfl) | exact .base (.imap _ _ _ _ _ rfl) | exact .box _ _ _ _ _ _ rfl (by repeat (first | exact .nil | (apply BorL.cons; first | exact .same _ rfl | exact .row _ _ _ _ _ _ rfl | exact .lstrow _ _ _ _ _ _ _ rfl rfl | exact .lst _ _ _ _ rfl | exact .smap _ _ _ _ rfl | exact .imap _ _ _ _ _ rfl))) (by simp [AV.one])))) (by simp [AV.one]) | exact .agg _ _ _ (by repeat (first | exact .nil | (apply BorL.cons; first | exact .base (.same _ rfl) | exact .base (.row _ _ _ _ _ _ rfl) | exact .base (.smap _ _ _ _ rfl) | exact .base (.imap _ _ _ _ _ rfl) | exact .box _ _ _ _ _ _ rfl (by repeat (first | exact .nil | (apply BorL.cons; first | exact .same _ rfl | exact .row _ _ _ _ _ _ rfl | exact .lstrow _ _ _ _ _ _ _ rfl rfl | exact .lst _ _ _ _ rfl | exact .smap _ _ _ _ rfl | exact .imap _ _ _ _ _ rfl))) (by simp [AV.one]))))))) (by first | exact .inl rfl | exact .inr (by repeat (first | exact flats_nil | refine flats_cons (by first | exact flat_val _ rfl | exact flat_row (fun _ => rfl) | exact flat_lst (fun _ => rfl)) ?_))) (by first | exact .inl rfl | exact .inr rfl) ?_
  conv => whnf
  refine .eff (cxOk _ _) ?_
  conv => whnf
  repeat (first | (refine And.intro ⟨by omega, by omega⟩ ?_; conv => whnf) | (refine And.intro (by omega) (And.intro rfl ?_); conv => whnf) | (refine And.intro rfl ?_; conv => whnf) | (refine And.intro (fun _ => ⟨by omega, by omega⟩) ?_; conv => whnf) | (refine And.intro ⟨(by first | omega | (simp; omega)), (by first | omega | (simp; omega))⟩ ?_; conv => whnf) | (refine Exists.intro _ (And.intro rfl (And.intro (by first | omega | (simp; omega)) (And.intro ⟨rfl, rfl, rfl, rfl, rfl⟩ ?_))); conv => whnf) | (refine And.intro ⟨rfl, rfl⟩ (And.intro (by first | omega | (simp; omega)) ?_); conv => whnf) | (refine Exists.intro _ (And.intro rfl ?_); conv => whnf) | (refine And.intro (fun _ => ?_) (fun h => absurd h (by decide)); conv => whnf) | (refine And.intro (fun h => absurd h (by decide)) (fun _ => ?_); conv => whnf) | (refine .quiet (by kernel_rfl) ?_; conv => whnf))
  refine .one _ _ _ (fun _ => sameExp_ok) (by repeat (first | exact .nil | (apply BorL.cons; first | exact lS rfl | exact lR rfl | exact lM rfl rfl | exact lL rfl | exact lX rfl | exact lN | exact lNl | exact lSm rfl | exact lIm rfl | exact lP rfl | exact lQ rfl))) (by first | exact .inl rfl | exact .inr (by repeat (first | exact flats_nil | refine flats_cons (by first | exact flat_val _ rfl | exact flat_row (fun _ => rfl) | exact flat_lst (fun _ => rfl)) ?_))) (by first | exact .inl rfl | exact .inr rfl) ?_
  conv => whnf
  repeat (first | (refine And.intro ⟨by omega, by omega⟩ ?_; conv => whnf) | (refine And.intro (by omega) (And.intro rfl ?_); conv => whnf) | (refine And.intro rfl ?_; conv => whnf) | (refine And.intro (fun _ => ⟨by omega, by omega⟩) ?_; conv => whnf) | (refine And.intro ⟨(by first | omega | (simp; omega)), (by first | omega | (simp; omega))⟩ ?_; conv => whnf) | (refine Exists.intro _ (And.intro rfl (And.intro (by first | omega | (simp; omega)) (And.intro ⟨rfl, rfl, rfl, rfl, rfl⟩ ?_))); conv => whnf) | (refine And.intro ⟨rfl, rfl⟩ (And.intro (by first | omega | (simp; omega)) ?_); conv => whnf) | (refine Exists.intro _ (And.intro rfl ?_); conv => whnf) | (refine And.intro (fun _ => ?_) (fun h => absurd h (by decide)); conv => whnf) | (refine And.intro (fun h => absurd h (by decide)) (fun _ => ?_); conv => whnf) | (refine .quiet (by kernel_rfl) ?_; conv => whnf))
  refine loop_up (cxOk _ _) 6 (fun _ => True) (fun k => ⟨[(6, .own 1), (60, .own 0), (61, .int .i64 6), (62, .int .i64 (k : Nat))], [(0, .row 58 2 encM ⟨[], false⟩ mats), (1, .row 9 1 encS [] (notSame (mats.take k)))], 2⟩) trivial ((wk_of [(0, .id 2), (1, .nil)] rfl ⟨(by first | exact .base (.own _ _ rfl) | exact .base (.nilown _ rfl) | exact .base (.trunc _ _ _ rfl)), (by first | exact .base (.own _ _ rfl) | exact .base (.nilown _ rfl) | exact .base (.trunc _ _ _ rfl)), .base (.tree _ _ rfl rfl), .base (.tree _ _ rfl rfl), trivial⟩ ⟨⟨_, rfl, (by first | exact .row _ _ _ _ _ _ _ rfl rfl | exact .lstrow _ _ _ _ _ _ _ rfl rfl | exact .nilrow _ _ _ _ _ rfl | exact .truncrow _ _ _ _ _ _ _ _ rfl (by omega) rfl)⟩, ⟨_, rfl, (by first | exact .row _ _ _ _ _ _ _ rfl rfl | exact .lstrow _ _ _ _ _ _ _ rfl rfl | exact .nilrow _ _ _ _ _ rfl | exact .truncrow _ _ _ _ _ _ _ _ rfl (by omega) rfl)⟩, trivial⟩)) ?_
  intro k hk _
  conv => whnf
  refine ⟨fun hc => ?_, fun hc => ?_⟩
  · simp only [decide_eq_true_eq] at hc
    have hlt : k < 6 := by omega
    have hml : mats.length = 6 := rfl
    have hstep : notSame (mats.take (k + 1)) = notSame (mats.take k) ++ (if (mats.getD k ⟨[], false⟩).same = true then [] else [(mats.getD k ⟨[], false⟩).name]) := by
      rw [notSame, take_getD (d := ⟨[], false⟩) (by omega), List.filter_append, List.map_append]
      congr 1
      generalize mats.getD k ⟨[], false⟩ = m
      cases h : m.same <;> simp [h]
    conv => whnf
    repeat (first | (refine And.intro ⟨by omega, by omega⟩ ?_; conv => whnf) | (refine And.intro (by omega) (And.intro rfl ?_); conv => whnf) | (refine And.intro rfl ?_; conv => whnf) | (refine And.intro (fun _ => ⟨by omega, by omega⟩) ?_; conv => whnf) | (refine And.intro ⟨(by first | omega | (simp; omega)), (by first | omega | (simp; omega))⟩ ?_; conv => whnf) | (refine Exists.intro _ (And.intro rfl (And.intro (by first | omega | (simp; omega)) (And.intro ⟨rfl, rfl, rfl, rfl, rfl⟩ ?_))); conv => whnf) | (refine And.intro ⟨rfl, rfl⟩ (And.intro (by first | omega | (simp; omega)) ?_); conv => whnf) | (refine Exists.intro _ (And.intro rfl ?_); conv => whnf) | (refine And.intro (fun _ => ?_) (fun h => absurd h (by decide)); conv => whnf) | (refine And.intro (fun h => absurd h (by decide)) (fun _ => ?_); conv => whnf) | (refine .quiet (by kernel_rfl) ?_; conv => whnf))
    refine ⟨fun hd => ?_, fun hd => ?_⟩
    · simp only [Int.toNat_natCast, Bool.not_eq_true'] at hd
      rw [if_neg (by rw [hd]; decide)] at hstep
      have hlenN : (notSame (mats.take k)).length ≤ 6 := by
        rw [notSame, List.length_map]
        exact Nat.le_trans (List.length_filter_le _ _) (by simp [hml]; omega)
      conv => whnf
      repeat (first | (refine And.intro ⟨by omega, by omega⟩ ?_; conv => whnf) | (refine And.intro (by omega) (And.intro rfl ?_); conv => whnf) | (refine And.intro rfl ?_; conv => whnf) | (refine And.intro (fun _ => ⟨by omega, by omega⟩) ?_; conv => whnf) | (refine And.intro ⟨(by first | omega | (simp; omega)), (by first | omega | (simp; omega))⟩ ?_; conv => whnf) | (refine Exists.intro _ (And.intro rfl (And.intro (by first | omega | (simp; omega)) (And.intro ⟨rfl, rfl, rfl, rfl, rfl⟩ ?_))); conv => whnf) | (refine And.intro ⟨rfl, rfl⟩ (And.intro (by first | omega | (simp; omega)) ?_); conv => whnf) | (refine Exists.intro _ (And.intro rfl ?_); conv => whnf) | (refine And.intro (fun _ => ?_) (fun h => absurd h (by decide)); conv => whnf) | (refine And.intro (fun h => absurd h (by decide)) (fun _ => ?_); conv => whnf) | (refine .quiet (by kernel_rfl) ?_; conv => whnf))
      refine And.intro ⟨rfl, rfl⟩ (And.intro (show ((notSame (mats.take k)).length + 1) * 16 ≤ 140737488355328 by omega) ?_)
      conv => whnf
      refine ⟨(mats.getD k ⟨[], false⟩).name, by simp only [Int.toNat_natCast]; rfl, ?_⟩
      conv => whnf
      repeat (first | (refine And.intro ⟨by omega, by omega⟩ ?_; conv => whnf) | (refine And.intro (by omega) (And.intro rfl ?_); conv => whnf) | (refine And.intro rfl ?_; conv => whnf) | (refine And.intro (fun _ => ⟨by omega, by omega⟩) ?_; conv => whnf) | (refine And.intro ⟨(by first | omega | (simp; omega)), (by first | omega | (simp; omega))⟩ ?_; conv => whnf) | (refine Exists.intro _ (And.intro rfl (And.intro (by first | omega | (simp; omega)) (And.intro ⟨rfl, rfl, rfl, rfl, rfl⟩ ?_))); conv => whnf) | (refine And.intro ⟨rfl, rfl⟩ (And.intro (by first | omega | (simp; omega)) ?_); conv => whnf) | (refine Exists.intro _ (And.intro rfl ?_); conv => whnf) | (refine And.intro (fun _ => ?_) (fun h => absurd h (by decide)); conv => whnf) | (refine And.intro (fun h => absurd h (by decide)) (fun _ => ?_); conv => whnf) | (refine .quiet (by kernel_rfl) ?_; conv => whnf))
      refine up hlt trivial ((wk_of [(0, .id 0), (1, .id 4)] rfl ⟨(by first | exact .base (.own _ _ rfl) | exact .base (.nilown _ rfl) | exact .base (.trunc _ _ _ rfl)), (by first | exact .base (.own _ _ rfl) | exact .base (.nilown _ rfl) | exact .base (.trunc _ _ _ rfl)), .base (.tree _ _ rfl rfl), .base (.tree _ _ rfl rfl), trivial⟩ ⟨⟨_, rfl, (by first | exact .row _ _ _ _ _ _ _ rfl rfl | exact .lstrow _ _ _ _ _ _ _ rfl rfl | exact .nilrow _ _ _ _ _ rfl | exact .truncrow _ _ _ _ _ _ _ _ rfl (by omega) rfl)⟩, ⟨_, rfl, (by first | exact .row _ _ _ _ _ _ _ rfl hstep.symm | exact .lstrow _ _ _ _ _ _ _ rfl hstep.symm | exact .nilrow _ _ _ _ _ hstep.symm | exact .truncrow _ _ _ _ _ _ _ _ rfl (by omega) hstep.symm)⟩, trivial⟩))
    · simp only [Int.toNat_natCast, Bool.not_eq_false'] at hd
      rw [if_pos hd, List.append_nil] at hstep
      conv => whnf
      repeat (first | (refine And.intro ⟨by omega, by omega⟩ ?_; conv => whnf) | (refine And.intro (by omega) (And.intro rfl ?_); conv => whnf) | (refine And.intro rfl ?_; conv => whnf) | (refine And.intro (fun _ => ⟨by omega, by omega⟩) ?_; conv => whnf) | (refine And.intro ⟨(by first | omega | (simp; omega)), (by first | omega | (simp; omega))⟩ ?_; conv => whnf) | (refine Exists.intro _ (And.intro rfl (And.intro (by first | omega | (simp; omega)) (And.intro ⟨rfl, rfl, rfl, rfl, rfl⟩ ?_))); conv => whnf) | (refine And.intro ⟨rfl, rfl⟩ (And.intro (by first | omega | (simp; omega)) ?_); conv => whnf) | (refine Exists.intro _ (And.intro rfl ?_); conv => whnf) | (refine And.intro (fun _ => ?_) (fun h => absurd h (by decide)); conv => whnf) | (refine And.intro (fun h => absurd h (by decide)) (fun _ => ?_); conv => whnf) | (refine .quiet (by kernel_rfl) ?_; conv => whnf))
      refine up hlt trivial ((wk_of [(0, .id 0), (1, .id 1)] rfl ⟨(by first | exact .base (.own _ _ rfl) | exact .base (.nilown _ rfl) | exact .base (.trunc _ _ _ rfl)), (by first | exact .base (.own _ _ rfl) | exact .base (.nilown _ rfl) | exact .base (.trunc _ _ _ rfl)), .base (.tree _ _ rfl rfl), .base (.tree _ _ rfl rfl), trivial⟩ ⟨⟨_, rfl, (by first | exact .row _ _ _ _ _ _ _ rfl rfl | exact .lstrow _ _ _ _ _ _ _ rfl rfl | exact .nilrow _ _ _ _ _ rfl | exact .truncrow _ _ _ _ _ _ _ _ rfl (by omega) rfl)⟩, ⟨_, rfl, (by first | exact .row _ _ _ _ _ _ _ rfl hstep.symm | exact .lstrow _ _ _ _ _ _ _ rfl hstep.symm | exact .nilrow _ _ _ _ _ hstep.symm | exact .truncrow _ _ _ _ _ _ _ _ rfl (by omega) hstep.symm)⟩, trivial⟩))
  · simp only [decide_eq_false_iff_not] at hc
    have : k = 6 := by omega
    subst this
    conv => whnf
    rfl
end Go.Proofs.Ytohankpncipefaa
