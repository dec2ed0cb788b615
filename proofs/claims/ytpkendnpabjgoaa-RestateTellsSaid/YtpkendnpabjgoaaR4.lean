import Derived.Test.YtpkendnpabjgoaaR2
import Derived.Test.YtpkendnpabjgoaaR3
namespace Go.Proofs.Ytpkendnpabjgoaa
open Go.Own Go.Shelf Go.Proofs Go.RowKit
set_option maxHeartbeats 1000000
set_option maxRecDepth 100000

theorem sorts_c (m : Nat) : AnyZI.SortsIn Try.prog Try.sortedA_ren Fence.wide m :=
  ⟨fun blk off cap ss W hH hblk hsz => callsIn_wide.2 (AnyM.slices_Sort_int Try.sortA blk off cap ss W hH hblk hsz),
   fun p cap W => callsIn_wide.2 (AnyM.slices_Sort_int_none Try.sortA p cap W)⟩

theorem keys_c (es : List (Int × Int)) (H : Heap) (nx : Nat) :
    CallSem Try.prog 30 [.rimap .i64 encI 0 es] H nx [] (fun r => r = ⟨.fn (.func 34) [] [.ptr nx 0], [], [(nx, .cells 52 [.rimap .i64 encI 0 es])], nx + 1⟩) :=
  keysI_sem (ρ := Try.keysA_ren) Try.keysA (fn := Try.f30) Try.func30 rfl (by decide) (.inr (.inr ⟨_, _, _, _, rfl⟩)) H nx

theorem sorted_c {H : Heap} {nx bid : Nat} {es : List (Int × Int)} (hbox : lkH H bid = .cells 52 [.rimap .i64 encI 0 es]) (hwf : ∀ p ∈ es, (Lit.int .i64 p.1).wf = true) (hmax : es.length ≤ 1000000) :
    CallSem Try.prog 29 [.fn (.func 34) [] [.ptr bid 0]] H nx [bid] (fun r => r = ⟨.own nx, [bid], [(nx, .row 3 1 encI 0 (keysI es))], nx + 1⟩) :=
  sortedKeysI_sem (ρ := Try.keysA_ren) (ρs := Try.sortedA_ren) Try.keysA Try.sortedA sorts_c (fn6 := Try.f29) Try.func29 rfl (by decide) (enters_of Try.func33 (by kernel_rfl) rfl) (enters_of Try.func34 (by kernel_rfl) rfl) rfl (et := 3) rfl (by kernel_rfl) hbox (.inr ⟨rfl, rfl⟩) encI 0 (fun _ => rfl) hwf hmax

structure Sh where
  seat : Int
  amount : Int
abbrev s0 : Sh := ⟨0, 0⟩
instance : Inhabited Sh := ⟨s0⟩
def encSh (s : Sh) : AV := .agg [.int .i64 s.seat, .int .i64 s.amount]
def encShs (l : List Sh) : AV := .sl 2 encSh s0 l
instance : DecidableEq Sh := fun a b => if h : a.seat = b.seat ∧ a.amount = b.amount then .isTrue (by cases a; cases b; simp at h; simp [h]) else .isFalse (fun e => h (by rw [e]; exact ⟨rfl, rfl⟩))

/-- The shares of a map, ascending. -/
def shL (es : List (Int × Int)) (ks : List Int) : List Sh := ks.map fun k => ⟨k, (mget es k).getD 0⟩
def shares (es : List (Int × Int)) : List Sh := shL es (keysI es)
def smallSh (es : List (Int × Int)) (ks : List Int) : Bool := ks.all fun k => !decide (1000000000000000 < (mget es k).getD 0)

theorem keysI_len {V : Type} (es : List (Int × V)) : (keysI es).length = es.length := by
  unfold keysI
  rw [List.length_mergeSort, List.length_map]

theorem shares_ok (es : List (Int × Int)) (hwf : ∀ p ∈ es, (Lit.int .i64 p.1).wf = true) (hmax : es.length ≤ 1000000) :
    APure Try.prog 23 [.rimap .i64 encI 0 es] (fun rs => rs = if smallSh es (keysI es) = true then [.new (.row 48 2 encSh s0 (shares es)), .val (.bool true)] else [.val .nils, .val (.bool false)]) := by
  have hkl := keysI_len es
  unfold shares
  refine apure_of (C := cx 29 [0, 2, 3, 4, 6, 9, 10, 11, 12, 18]) (cxOk _ _) Try.func23 rfl (by decide) rfl (by exact Nat.le_of_ble_eq_true rfl) (by decide) ?_
  conv => whnf
  refine .raw _ _ rfl (fun h => by cases h) (keys_c es _ _) ?_
  rintro r rfl
  refine ⟨Nat.le_succ _, ?_⟩
  conv => whnf
  refine .raw _ _ rfl (fun h => by cases h) (sorted_c (bid := 0) rfl hwf hmax) ?_
  rintro r rfl
  refine ⟨Nat.le_succ _, ?_⟩
  conv => whnf
  generalize keysI es = K at *
  refine loop_up (cxOk _ _) K.length (fun k => smallSh es (K.take k) = true) (fun k => ⟨[(0, .rimap .i64 encI 0 es), (4, .own 2), (9, .own 1), (10, .int .i64 K.length), (11, .int .i64 (k : Nat))], [(1, .row 3 1 encI 0 K), (2, .row 48 2 encSh s0 (shL es (K.take k)))], 3⟩) rfl ((wk_of [(1, .id 1), (2, .nil)] rfl ⟨.base (.tree _ _ rfl rfl), (by first | exact .base (.own _ _ rfl) | exact .base (.nilown _ rfl) | exact .base (.trunc _ _ _ rfl)), (by first | exact .base (.own _ _ rfl) | exact .base (.nilown _ rfl) | exact .base (.trunc _ _ _ rfl)), .base (.tree _ _ rfl rfl), .base (.tree _ _ rfl rfl), trivial⟩ ⟨⟨_, rfl, (by first | exact .row _ _ _ _ _ _ _ rfl rfl | exact .lstrow _ _ _ _ _ _ _ rfl rfl | exact .nilrow _ _ _ _ _ rfl | exact .truncrow _ _ _ _ _ _ _ _ rfl (by omega) rfl)⟩, ⟨_, rfl, (by first | exact .row _ _ _ _ _ _ _ rfl rfl | exact .lstrow _ _ _ _ _ _ _ rfl rfl | exact .nilrow _ _ _ _ _ rfl | exact .truncrow _ _ _ _ _ _ _ _ rfl (by omega) rfl)⟩, trivial⟩)) ?_
  intro k hk hP
  conv => whnf
  refine ⟨fun hc => ?_, fun hc => ?_⟩
  · simp only [decide_eq_true_eq] at hc
    have hlt : k < K.length := by omega
    have hK : smallSh es (K.take (k + 1)) = !decide (1000000000000000 < (mget es (K.getD k 0)).getD 0) := by
      unfold smallSh at hP ⊢
      rw [take_getD (d := 0) hlt, List.all_append, hP]
      simp
    have hS : shL es (K.take (k + 1)) = shL es (K.take k) ++ [⟨K.getD k 0, (mget es (K.getD k 0)).getD 0⟩] := by
      unfold shL
      rw [take_getD (d := 0) hlt, List.map_append]
      rfl
    have hSl : (shL es (K.take k)).length ≤ 1000000 := by unfold shL; rw [List.length_map, List.length_take]; omega
    conv => whnf
    repeat (first | (refine And.intro ⟨by omega, by omega⟩ ?_; conv => whnf) | (refine And.intro (by omega) (And.intro rfl ?_); conv => whnf) | (refine And.intro rfl ?_; conv => whnf) | (refine And.intro (fun _ => ⟨by omega, by omega⟩) ?_; conv => whnf) | (refine And.intro (fun _ => by omega) (And.intro rfl ?_); conv => whnf) | (refine And.intro ⟨(by first | omega | (simp; omega)), (by first | omega | (simp; omega))⟩ ?_; conv => whnf) | (refine Exists.intro _ (And.intro rfl (And.intro (by first | omega | (simp; omega)) (And.intro ⟨rfl, rfl, rfl, rfl, rfl⟩ ?_))); conv => whnf) | (refine And.intro ⟨rfl, rfl⟩ (And.intro (by first | omega | (simp; omega)) ?_); conv => whnf) | (refine Exists.intro _ (And.intro rfl ?_); conv => whnf) | (refine And.intro (fun _ => ?_) (fun h => absurd h (by decide)); conv => whnf) | (refine And.intro (fun h => absurd h (by decide)) (fun _ => ?_); conv => whnf) | (refine .quiet (by kernel_rfl) ?_; conv => whnf))
    rw [Int.toNat_natCast]
    refine ⟨fun hd => ?_, fun hd => ?_⟩
    · have hd' : decide (1000000000000000 < (mget es (K.getD k 0)).getD 0) = true := hd
      have hf : smallSh es K = false := by
        rw [hd'] at hK
        cases hx : smallSh es K with
        | false => rfl
        | true =>
          unfold smallSh at hx hK
          have h1 := List.all_eq_true.1 hx
          have h2 : (K.take (k + 1)).all (fun k => !decide (1000000000000000 < (mget es k).getD 0)) = true := List.all_eq_true.2 fun x hx => h1 x (List.mem_of_mem_take hx)
          rw [h2] at hK
          cases hK
      rw [hf]
      conv => whnf
      rfl
    · have hd' : decide (1000000000000000 < (mget es (K.getD k 0)).getD 0) = false := hd
      rw [hd'] at hK
      conv => whnf
      repeat (first | (refine And.intro ⟨by omega, by omega⟩ ?_; conv => whnf) | (refine And.intro (by omega) (And.intro rfl ?_); conv => whnf) | (refine And.intro rfl ?_; conv => whnf) | (refine And.intro (fun _ => ⟨by omega, by omega⟩) ?_; conv => whnf) | (refine And.intro (fun _ => by omega) (And.intro rfl ?_); conv => whnf) | (refine And.intro ⟨(by first | omega | (simp; omega)), (by first | omega | (simp; omega))⟩ ?_; conv => whnf) | (refine Exists.intro _ (And.intro rfl (And.intro (by first | omega | (simp; omega)) (And.intro ⟨rfl, rfl, rfl, rfl, rfl⟩ ?_))); conv => whnf) | (refine And.intro ⟨rfl, rfl⟩ (And.intro (by first | omega | (simp; omega)) ?_); conv => whnf) | (refine Exists.intro _ (And.intro rfl ?_); conv => whnf) | (refine And.intro (fun _ => ?_) (fun h => absurd h (by decide)); conv => whnf) | (refine And.intro (fun h => absurd h (by decide)) (fun _ => ?_); conv => whnf) | (refine .quiet (by kernel_rfl) ?_; conv => whnf))
      refine And.intro ⟨rfl, rfl⟩ (And.intro (show ((shL es (K.take k)).length + 1) * 16 ≤ 140737488355328 by omega) ?_)
      conv => whnf
      refine ⟨⟨K.getD k 0, (mget es (K.getD k 0)).getD 0⟩, rfl, ?_⟩
      conv => whnf
      repeat (first | (refine And.intro ⟨by omega, by omega⟩ ?_; conv => whnf) | (refine And.intro (by omega) (And.intro rfl ?_); conv => whnf) | (refine And.intro rfl ?_; conv => whnf) | (refine And.intro (fun _ => ⟨by omega, by omega⟩) ?_; conv => whnf) | (refine And.intro (fun _ => by omega) (And.intro rfl ?_); conv => whnf) | (refine And.intro ⟨(by first | omega | (simp; omega)), (by first | omega | (simp; omega))⟩ ?_; conv => whnf) | (refine Exists.intro _ (And.intro rfl (And.intro (by first | omega | (simp; omega)) (And.intro ⟨rfl, rfl, rfl, rfl, rfl⟩ ?_))); conv => whnf) | (refine And.intro ⟨rfl, rfl⟩ (And.intro (by first | omega | (simp; omega)) ?_); conv => whnf) | (refine Exists.intro _ (And.intro rfl ?_); conv => whnf) | (refine And.intro (fun _ => ?_) (fun h => absurd h (by decide)); conv => whnf) | (refine And.intro (fun h => absurd h (by decide)) (fun _ => ?_); conv => whnf) | (refine .quiet (by kernel_rfl) ?_; conv => whnf))
      refine up hlt hK ((wk_of [(1, .id 1), (2, .id 4)] rfl ⟨.base (.tree _ _ rfl rfl), (by first | exact .base (.own _ _ rfl) | exact .base (.nilown _ rfl) | exact .base (.trunc _ _ _ rfl)), (by first | exact .base (.own _ _ rfl) | exact .base (.nilown _ rfl) | exact .base (.trunc _ _ _ rfl)), .base (.tree _ _ rfl rfl), .base (.tree _ _ rfl rfl), trivial⟩ ⟨⟨_, rfl, (by first | exact .row _ _ _ _ _ _ _ rfl rfl | exact .lstrow _ _ _ _ _ _ _ rfl rfl | exact .nilrow _ _ _ _ _ rfl | exact .truncrow _ _ _ _ _ _ _ _ rfl (by omega) rfl)⟩, ⟨_, rfl, (by first | exact .row _ _ _ _ _ _ _ rfl hS.symm | exact .lstrow _ _ _ _ _ _ _ rfl hS.symm | exact .nilrow _ _ _ _ _ hS.symm | exact .truncrow _ _ _ _ _ _ _ _ rfl (by omega) hS.symm)⟩, trivial⟩))
  · simp only [decide_eq_false_iff_not] at hc
    rw [List.take_of_length_le (by omega)] at hP
    rw [List.take_of_length_le (by omega)]
    conv => whnf
    rw [if_pos hP]
    rfl

end Go.Proofs.Ytpkendnpabjgoaa
