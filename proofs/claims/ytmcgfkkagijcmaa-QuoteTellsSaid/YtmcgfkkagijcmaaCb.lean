import Derived.Test.YtmcgfkkagijcmaaCa
import Derived.Test.YtmcgfkkagijcmaaLc
import Derived.Test.YtmcgfkkagijcmaaProg
import Derived.WalkKit
import Derived.Deep.LoopGhost
import Derived.Deep.OwnRows
import Derived.Deep.Cut
import Derived.Deep.Light
import Derived.CellFam
import Derived.BigGuard
import Derived.KernelRfl
namespace Go.Proofs.Ytmcgfkkagijcmaa
open Go.Own
set_option maxHeartbeats 4000000
set_option maxRecDepth 100000

theorem LeT.nils_lsl (E : Nat) : LeT .nils (.lsl E []) := fun S w v h => by
  cases h
  exact .lslnil E
theorem LeT.agg {l r : List AV} (h : LeTs l r) : LeT (.agg l) (.agg r) := fun S w v hr => by
  cases hr with
  | agg cs l hl hh =>
    refine .agg cs r (by rw [hl, h.len]) fun j c b hc hb => ?_
    obtain ⟨a, ha, hab⟩ := h.get hb
    exact hab S w c (hh j c a hc ha)
theorem apure_args [Tabs] {P : Program} {f : FuncId} {args args' : List AV} {R : List AR → Prop} (h : APure P f args R) (hl : LeTs args' args) : APure P f args' R :=
  ⟨h.1, fun S w vs hS hT hv => h.2 S w vs hS hT ⟨hv.1.trans hl.len.symm, fun j v a hj ha => by
    obtain ⟨b, hb, hba⟩ := hl.get ha
    exact hba S w v (hv.2 j v b hj hb)⟩⟩
def rawE (o n u : Int) (s : List UInt8) : AV := .agg [.int .i64 o, .int .i64 n, .int .i64 u, .str s, .nils]
theorem rawE_le (o n u : Int) (s : List UInt8) : LeT (rawE o n u s) (encE (.mk o n u s [])) := LeT.agg (.cons (.refl _) (.cons (.refl _) (.cons (.refl _) (.cons (.refl _) (.cons (LeT.nils_lsl 5) .nil)))))
def rateE (s : List UInt8) : Exp := .mk 3 0 0 s []
def bothE (op : Int) (a b : Exp) : Exp := .mk op 0 0 [] [a, b]
theorem rate_ok (s : List UInt8) : APureV Try.prog 29 [.str s] (encE (rateE s)) := by
  refine APure.leT (a := .agg [.int .i64 3, .int .i64 0, .int .i64 0, .str s, .nils]) ?_ (LeT.agg (.cons (.refl _) (.cons (.refl _) (.cons (.refl _) (.cons (.refl _) (.cons (LeT.nils_lsl 5) .nil))))))
  refine apure_of (C := cx 5 [0, 2]) (cxOk _ _) Try.func29 rfl (by decide) rfl (by exact Nat.le_of_ble_eq_true rfl) (by decide) ?_
  conv => whnf
  repeat (first | (refine And.intro ⟨by omega, by omega⟩ ?_; conv => whnf) | (refine And.intro (by omega) (And.intro rfl ?_); conv => whnf) | (refine And.intro rfl ?_; conv => whnf) | (refine And.intro (fun _ => ⟨by omega, by omega⟩) ?_; conv => whnf) | (refine And.intro (fun _ => by omega) (And.intro rfl ?_); conv => whnf) | (refine And.intro ⟨(by first | omega | (simp; omega)), (by first | omega | (simp; omega))⟩ ?_; conv => whnf) | (refine Exists.intro _ (And.intro rfl (And.intro (by first | omega | (simp; omega)) (And.intro ⟨rfl, rfl, rfl, rfl, rfl⟩ ?_))); conv => whnf) | (refine And.intro ⟨rfl, rfl⟩ (And.intro (by first | omega | (simp; omega)) ?_); conv => whnf) | (refine Exists.intro _ (And.intro rfl ?_); conv => whnf) | (refine And.intro (fun _ => ?_) (fun h => absurd h (by decide)); conv => whnf) | (refine And.intro (fun h => absurd h (by decide)) (fun _ => ?_); conv => whnf) | (refine .quiet (by kernel_rfl) ?_; conv => whnf))
  rfl
theorem both_ok (op : Int) (a b : Exp) : APureV Try.prog 17 [.int .i64 op, encE a, encE b] (encE (bothE op a b)) := by
  have he : encE (bothE op a b) = .agg [.int .i64 op, .int .i64 0, .int .i64 0, .str [], .lsl 5 [encE a, encE b]] := by
    show AV.agg [_, _, _, _, .lsl 5 (argsE _)] = _
    rw [argsE_eq]
    rfl
  rw [he]
  refine apure_ofw (C := cx 12 [0, 1, 2, 4, 5, 6]) (cxOk _ _) Try.func17 rfl (by decide) rfl (by exact Nat.le_of_ble_eq_true rfl) (by decide) ?_
  conv => whnf
  repeat (first | (refine And.intro ⟨by omega, by omega⟩ ?_; conv => whnf) | (refine And.intro (by omega) (And.intro rfl ?_); conv => whnf) | (refine And.intro rfl ?_; conv => whnf) | (refine And.intro (fun _ => ⟨by omega, by omega⟩) ?_; conv => whnf) | (refine And.intro (fun _ => by omega) (And.intro rfl ?_); conv => whnf) | (refine And.intro ⟨(by first | omega | (simp; omega)), (by first | omega | (simp; omega))⟩ ?_; conv => whnf) | (refine Exists.intro _ (And.intro rfl (And.intro (by first | omega | (simp; omega)) (And.intro ⟨rfl, rfl, rfl, rfl, rfl⟩ ?_))); conv => whnf) | (refine And.intro ⟨rfl, rfl⟩ (And.intro (by first | omega | (simp; omega)) ?_); conv => whnf) | (refine Exists.intro _ (And.intro rfl ?_); conv => whnf) | (refine And.intro (fun _ => ?_) (fun h => absurd h (by decide)); conv => whnf) | (refine And.intro (fun h => absurd h (by decide)) (fun _ => ?_); conv => whnf) | (refine .quiet (by kernel_rfl) ?_; conv => whnf))
  refine ⟨_, wk_frz [3], ?_⟩
  conv => whnf
  rfl
def issA (n : List UInt8) (lets c : AV) (o k u : Int) (s : List UInt8) : AV := .agg [.str n, .str [], .int .i64 0, .int .i64 0, .int .i64 0, .int .i64 0, .int .i64 0, .int .i64 0, .int .i64 0, .int .i64 0, lets, .int .i64 o, .int .i64 k, .int .i64 u, .str s, c, .int .i64 0, .nils, .nils, .int .i64 0, .nils, .int .i64 0, .int .i64 0, .int .i64 0, .int .i64 0]
def mkI (n : List UInt8) (lets : List LetE) (c : Exp) : Ind := ⟨n, [], 0, 0, 0, 0, 0, 0, 0, 0, lets, c, 0, [], [], 0, [], 0, 0, 0, 0⟩
def smp : List Ind := [mkI [97] [] (.mk 0 30 2 [] []), mkI [98] [] (bothE 4 (rateE [97]) (rateE [99])), mkI [99] [] (bothE 9 (rateE [98]) (.mk 0 10 2 [] [])), mkI [100] [⟨[120], rateE [97]⟩] (bothE 4 (.mk 1 0 0 [120] []) (rateE [101])), mkI [101] [] (rateE [101])]
def smpA : List AV := [issA [97] .nils .nils 0 30 2 [], issA [98] .nils (.lsl 5 (argsE (bothE 4 (rateE [97]) (rateE [99])))) 4 0 0 [], issA [99] .nils (.lsl 5 (argsE (bothE 9 (rateE [98]) (.mk 0 10 2 [] [])))) 9 0 0 [],
  issA [100] (.lsl 6 [encL ⟨[120], rateE [97]⟩]) (.lsl 5 (argsE (bothE 4 (.mk 1 0 0 [120] []) (rateE [101])))) 4 0 0 [], issA [101] .nils (.lsl 5 (argsE (rateE [101]))) 3 0 0 [101]]
theorem sample_raw : APure Try.prog 19 [] (fun rs => rs = [.new (.lst 45 25 smpA)]) := by
  refine apure_of (C := cx 21 [0]) (cxOk _ _) Try.func19 rfl (by decide) rfl (by exact Nat.le_of_ble_eq_true rfl) (by decide) ?_
  conv => whnf
  refine .one _ _ _ (fun _ => (rate_ok [97])) (by repeat (first | exact .nil | (apply BorL.cons; first | exact lS rfl | exact lR rfl | exact lM rfl rfl | exact lL rfl | exact lX rfl | exact lN | exact lNl | exact lSm rfl | exact lIm rfl | exact lP rfl | exact lQ rfl | exact lB rfl rfl rfl))) (by first | exact .inl rfl | exact .inr (by repeat (first | exact flats_nil | refine flats_cons (by first | exact flat_val _ rfl | exact flat_row (fun _ => rfl) | exact flat_lst (fun _ => rfl)) ?_))) (by first | exact .inr rfl | exact .inl rfl) ?_
  conv => whnf
  refine .one _ _ _ (fun _ => (rate_ok [99])) (by repeat (first | exact .nil | (apply BorL.cons; first | exact lS rfl | exact lR rfl | exact lM rfl rfl | exact lL rfl | exact lX rfl | exact lN | exact lNl | exact lSm rfl | exact lIm rfl | exact lP rfl | exact lQ rfl | exact lB rfl rfl rfl))) (by first | exact .inl rfl | exact .inr (by repeat (first | exact flats_nil | refine flats_cons (by first | exact flat_val _ rfl | exact flat_row (fun _ => rfl) | exact flat_lst (fun _ => rfl)) ?_))) (by first | exact .inr rfl | exact .inl rfl) ?_
  conv => whnf
  refine .one _ _ _ (fun _ => (both_ok 4 (rateE [97]) (rateE [99]))) (by repeat (first | exact .nil | (apply BorL.cons; first | exact lS rfl | exact lR rfl | exact lM rfl rfl | exact lL rfl | exact lX rfl | exact lN | exact lNl | exact lSm rfl | exact lIm rfl | exact lP rfl | exact lQ rfl | exact lB rfl rfl rfl))) (by first | exact .inl rfl | exact .inr (by repeat (first | exact flats_nil | refine flats_cons (by first | exact flat_val _ rfl | exact flat_row (fun _ => rfl) | exact flat_lst (fun _ => rfl)) ?_))) (by first | exact .inr rfl | exact .inl rfl) ?_
  conv => whnf
  repeat (first | (refine And.intro ⟨by omega, by omega⟩ ?_; conv => whnf) | (refine And.intro (by omega) (And.intro rfl ?_); conv => whnf) | (refine And.intro rfl ?_; conv => whnf) | (refine And.intro (fun _ => ⟨by omega, by omega⟩) ?_; conv => whnf) | (refine And.intro (fun _ => by omega) (And.intro rfl ?_); conv => whnf) | (refine And.intro ⟨(by first | omega | (simp; omega)), (by first | omega | (simp; omega))⟩ ?_; conv => whnf) | (refine Exists.intro _ (And.intro rfl (And.intro (by first | omega | (simp; omega)) (And.intro ⟨rfl, rfl, rfl, rfl, rfl⟩ ?_))); conv => whnf) | (refine And.intro ⟨rfl, rfl⟩ (And.intro (by first | omega | (simp; omega)) ?_); conv => whnf) | (refine Exists.intro _ (And.intro rfl ?_); conv => whnf) | (refine And.intro (fun _ => ?_) (fun h => absurd h (by decide)); conv => whnf) | (refine And.intro (fun h => absurd h (by decide)) (fun _ => ?_); conv => whnf) | (refine .quiet (by kernel_rfl) ?_; conv => whnf))
  refine .one _ _ _ (fun _ => (rate_ok [98])) (by repeat (first | exact .nil | (apply BorL.cons; first | exact lS rfl | exact lR rfl | exact lM rfl rfl | exact lL rfl | exact lX rfl | exact lN | exact lNl | exact lSm rfl | exact lIm rfl | exact lP rfl | exact lQ rfl | exact lB rfl rfl rfl))) (by first | exact .inl rfl | exact .inr (by repeat (first | exact flats_nil | refine flats_cons (by first | exact flat_val _ rfl | exact flat_row (fun _ => rfl) | exact flat_lst (fun _ => rfl)) ?_))) (by first | exact .inr rfl | exact .inl rfl) ?_
  conv => whnf
  repeat (first | (refine And.intro ⟨by omega, by omega⟩ ?_; conv => whnf) | (refine And.intro (by omega) (And.intro rfl ?_); conv => whnf) | (refine And.intro rfl ?_; conv => whnf) | (refine And.intro (fun _ => ⟨by omega, by omega⟩) ?_; conv => whnf) | (refine And.intro (fun _ => by omega) (And.intro rfl ?_); conv => whnf) | (refine And.intro ⟨(by first | omega | (simp; omega)), (by first | omega | (simp; omega))⟩ ?_; conv => whnf) | (refine Exists.intro _ (And.intro rfl (And.intro (by first | omega | (simp; omega)) (And.intro ⟨rfl, rfl, rfl, rfl, rfl⟩ ?_))); conv => whnf) | (refine And.intro ⟨rfl, rfl⟩ (And.intro (by first | omega | (simp; omega)) ?_); conv => whnf) | (refine Exists.intro _ (And.intro rfl ?_); conv => whnf) | (refine And.intro (fun _ => ?_) (fun h => absurd h (by decide)); conv => whnf) | (refine And.intro (fun h => absurd h (by decide)) (fun _ => ?_); conv => whnf) | (refine .quiet (by kernel_rfl) ?_; conv => whnf))
  refine .one _ _ _ (fun _ => (apure_args (both_ok 9 (rateE [98]) (.mk 0 10 2 [] [])) (.cons (.refl _) (.cons (.refl _) (.cons (rawE_le 0 10 2 []) .nil))))) (by repeat (first | exact .nil | (apply BorL.cons; first | exact lS rfl | exact lR rfl | exact lM rfl rfl | exact lL rfl | exact lX rfl | exact lN | exact lNl | exact lSm rfl | exact lIm rfl | exact lP rfl | exact lQ rfl | exact lB rfl rfl rfl))) (by first | exact .inl rfl | exact .inr (by repeat (first | exact flats_nil | refine flats_cons (by first | exact flat_val _ rfl | exact flat_row (fun _ => rfl) | exact flat_lst (fun _ => rfl)) ?_))) (by first | exact .inr rfl | exact .inl rfl) ?_
  conv => whnf
  repeat (first | (refine And.intro ⟨by omega, by omega⟩ ?_; conv => whnf) | (refine And.intro (by omega) (And.intro rfl ?_); conv => whnf) | (refine And.intro rfl ?_; conv => whnf) | (refine And.intro (fun _ => ⟨by omega, by omega⟩) ?_; conv => whnf) | (refine And.intro (fun _ => by omega) (And.intro rfl ?_); conv => whnf) | (refine And.intro ⟨(by first | omega | (simp; omega)), (by first | omega | (simp; omega))⟩ ?_; conv => whnf) | (refine Exists.intro _ (And.intro rfl (And.intro (by first | omega | (simp; omega)) (And.intro ⟨rfl, rfl, rfl, rfl, rfl⟩ ?_))); conv => whnf) | (refine And.intro ⟨rfl, rfl⟩ (And.intro (by first | omega | (simp; omega)) ?_); conv => whnf) | (refine Exists.intro _ (And.intro rfl ?_); conv => whnf) | (refine And.intro (fun _ => ?_) (fun h => absurd h (by decide)); conv => whnf) | (refine And.intro (fun h => absurd h (by decide)) (fun _ => ?_); conv => whnf) | (refine .quiet (by kernel_rfl) ?_; conv => whnf))
  refine .one _ _ _ (fun _ => (rate_ok [97])) (by repeat (first | exact .nil | (apply BorL.cons; first | exact lS rfl | exact lR rfl | exact lM rfl rfl | exact lL rfl | exact lX rfl | exact lN | exact lNl | exact lSm rfl | exact lIm rfl | exact lP rfl | exact lQ rfl | exact lB rfl rfl rfl))) (by first | exact .inl rfl | exact .inr (by repeat (first | exact flats_nil | refine flats_cons (by first | exact flat_val _ rfl | exact flat_row (fun _ => rfl) | exact flat_lst (fun _ => rfl)) ?_))) (by first | exact .inr rfl | exact .inl rfl) ?_
  conv => whnf
  repeat (first | (refine And.intro ⟨by omega, by omega⟩ ?_; conv => whnf) | (refine And.intro (by omega) (And.intro rfl ?_); conv => whnf) | (refine And.intro rfl ?_; conv => whnf) | (refine And.intro (fun _ => ⟨by omega, by omega⟩) ?_; conv => whnf) | (refine And.intro (fun _ => by omega) (And.intro rfl ?_); conv => whnf) | (refine And.intro ⟨(by first | omega | (simp; omega)), (by first | omega | (simp; omega))⟩ ?_; conv => whnf) | (refine Exists.intro _ (And.intro rfl (And.intro (by first | omega | (simp; omega)) (And.intro ⟨rfl, rfl, rfl, rfl, rfl⟩ ?_))); conv => whnf) | (refine And.intro ⟨rfl, rfl⟩ (And.intro (by first | omega | (simp; omega)) ?_); conv => whnf) | (refine Exists.intro _ (And.intro rfl ?_); conv => whnf) | (refine And.intro (fun _ => ?_) (fun h => absurd h (by decide)); conv => whnf) | (refine And.intro (fun h => absurd h (by decide)) (fun _ => ?_); conv => whnf) | (refine .quiet (by kernel_rfl) ?_; conv => whnf))
  refine .one _ _ _ (fun _ => (rate_ok [101])) (by repeat (first | exact .nil | (apply BorL.cons; first | exact lS rfl | exact lR rfl | exact lM rfl rfl | exact lL rfl | exact lX rfl | exact lN | exact lNl | exact lSm rfl | exact lIm rfl | exact lP rfl | exact lQ rfl | exact lB rfl rfl rfl))) (by first | exact .inl rfl | exact .inr (by repeat (first | exact flats_nil | refine flats_cons (by first | exact flat_val _ rfl | exact flat_row (fun _ => rfl) | exact flat_lst (fun _ => rfl)) ?_))) (by first | exact .inr rfl | exact .inl rfl) ?_
  conv => whnf
  repeat (first | (refine And.intro ⟨by omega, by omega⟩ ?_; conv => whnf) | (refine And.intro (by omega) (And.intro rfl ?_); conv => whnf) | (refine And.intro rfl ?_; conv => whnf) | (refine And.intro (fun _ => ⟨by omega, by omega⟩) ?_; conv => whnf) | (refine And.intro (fun _ => by omega) (And.intro rfl ?_); conv => whnf) | (refine And.intro ⟨(by first | omega | (simp; omega)), (by first | omega | (simp; omega))⟩ ?_; conv => whnf) | (refine Exists.intro _ (And.intro rfl (And.intro (by first | omega | (simp; omega)) (And.intro ⟨rfl, rfl, rfl, rfl, rfl⟩ ?_))); conv => whnf) | (refine And.intro ⟨rfl, rfl⟩ (And.intro (by first | omega | (simp; omega)) ?_); conv => whnf) | (refine Exists.intro _ (And.intro rfl ?_); conv => whnf) | (refine And.intro (fun _ => ?_) (fun h => absurd h (by decide)); conv => whnf) | (refine And.intro (fun h => absurd h (by decide)) (fun _ => ?_); conv => whnf) | (refine .quiet (by kernel_rfl) ?_; conv => whnf))
  refine .one _ _ _ (fun _ => (apure_args (both_ok 4 (.mk 1 0 0 [120] []) (rateE [101])) (.cons (.refl _) (.cons (rawE_le 1 0 0 [120]) (.cons (.refl _) .nil))))) (by repeat (first | exact .nil | (apply BorL.cons; first | exact lS rfl | exact lR rfl | exact lM rfl rfl | exact lL rfl | exact lX rfl | exact lN | exact lNl | exact lSm rfl | exact lIm rfl | exact lP rfl | exact lQ rfl | exact lB rfl rfl rfl))) (by first | exact .inl rfl | exact .inr (by repeat (first | exact flats_nil | refine flats_cons (by first | exact flat_val _ rfl | exact flat_row (fun _ => rfl) | exact flat_lst (fun _ => rfl)) ?_))) (by first | exact .inr rfl | exact .inl rfl) ?_
  conv => whnf
  repeat (first | (refine And.intro ⟨by omega, by omega⟩ ?_; conv => whnf) | (refine And.intro (by omega) (And.intro rfl ?_); conv => whnf) | (refine And.intro rfl ?_; conv => whnf) | (refine And.intro (fun _ => ⟨by omega, by omega⟩) ?_; conv => whnf) | (refine And.intro (fun _ => by omega) (And.intro rfl ?_); conv => whnf) | (refine And.intro ⟨(by first | omega | (simp; omega)), (by first | omega | (simp; omega))⟩ ?_; conv => whnf) | (refine Exists.intro _ (And.intro rfl (And.intro (by first | omega | (simp; omega)) (And.intro ⟨rfl, rfl, rfl, rfl, rfl⟩ ?_))); conv => whnf) | (refine And.intro ⟨rfl, rfl⟩ (And.intro (by first | omega | (simp; omega)) ?_); conv => whnf) | (refine Exists.intro _ (And.intro rfl ?_); conv => whnf) | (refine And.intro (fun _ => ?_) (fun h => absurd h (by decide)); conv => whnf) | (refine And.intro (fun h => absurd h (by decide)) (fun _ => ?_); conv => whnf) | (refine .quiet (by kernel_rfl) ?_; conv => whnf))
  refine .one _ _ _ (fun _ => (rate_ok [101])) (by repeat (first | exact .nil | (apply BorL.cons; first | exact lS rfl | exact lR rfl | exact lM rfl rfl | exact lL rfl | exact lX rfl | exact lN | exact lNl | exact lSm rfl | exact lIm rfl | exact lP rfl | exact lQ rfl | exact lB rfl rfl rfl))) (by first | exact .inl rfl | exact .inr (by repeat (first | exact flats_nil | refine flats_cons (by first | exact flat_val _ rfl | exact flat_row (fun _ => rfl) | exact flat_lst (fun _ => rfl)) ?_))) (by first | exact .inr rfl | exact .inl rfl) ?_
  conv => whnf
  repeat (first | (refine And.intro ⟨by omega, by omega⟩ ?_; conv => whnf) | (refine And.intro (by omega) (And.intro rfl ?_); conv => whnf) | (refine And.intro rfl ?_; conv => whnf) | (refine And.intro (fun _ => ⟨by omega, by omega⟩) ?_; conv => whnf) | (refine And.intro (fun _ => by omega) (And.intro rfl ?_); conv => whnf) | (refine And.intro ⟨(by first | omega | (simp; omega)), (by first | omega | (simp; omega))⟩ ?_; conv => whnf) | (refine Exists.intro _ (And.intro rfl (And.intro (by first | omega | (simp; omega)) (And.intro ⟨rfl, rfl, rfl, rfl, rfl⟩ ?_))); conv => whnf) | (refine And.intro ⟨rfl, rfl⟩ (And.intro (by first | omega | (simp; omega)) ?_); conv => whnf) | (refine Exists.intro _ (And.intro rfl ?_); conv => whnf) | (refine And.intro (fun _ => ?_) (fun h => absurd h (by decide)); conv => whnf) | (refine And.intro (fun h => absurd h (by decide)) (fun _ => ?_); conv => whnf) | (refine .quiet (by kernel_rfl) ?_; conv => whnf))
  rfl

theorem flat_ones {X : Type} {enc : X → AV} {L : List X} (h : ∀ x ∈ L, ∀ a ∈ (enc x).cells, a.one = true) : ∀ a ∈ flat (L.map enc), a.one = true := fun a ha => by
  obtain ⟨x, hx, hax⟩ := List.mem_flatMap.1 ha
  obtain ⟨y, hy, rfl⟩ := List.mem_map.1 hx
  exact h y hy a hax
theorem sample_ok : APureV Try.prog 19 [] (encXs smp) := by
  refine sample_raw.freeze1.leT ?_
  intro S w v h
  have h' : RelT S w v (.lsl 25 smpA) := h
  refine .sl _ _ _ _ _ (LeT.lsl (l := smpA) (r := smp.map encX) rfl (fun x hx => ?_) (flat_ones fun y hy a ha => ?_) ?_ S w v h')
  · obtain ⟨y, _, rfl⟩ := List.mem_map.1 hx
    rfl
  · simp [encX, AV.cells] at ha
    rcases ha with rfl | rfl | rfl | rfl | rfl | rfl | rfl | rfl | rfl | rfl | rfl | rfl | rfl | rfl | rfl | rfl | rfl | rfl | rfl | rfl | rfl | rfl | rfl | rfl | rfl <;> rfl
  · show LeTs (flat smpA) (flat [encX (mkI [97] [] (.mk 0 30 2 [] [])), encX (mkI [98] [] (bothE 4 (rateE [97]) (rateE [99]))), encX (mkI [99] [] (bothE 9 (rateE [98]) (.mk 0 10 2 [] []))), encX (mkI [100] [⟨[120], rateE [97]⟩] (bothE 4 (.mk 1 0 0 [120] []) (rateE [101]))), encX (mkI [101] [] (rateE [101]))])
    repeat (first | exact .nil | refine .cons (by first | exact LeT.refl _ | exact LeT.nils_sl _ _ _ | exact LeT.lsl_sl _ _ _ rfl | exact LeT.nils_lsl _) ?_)

end Go.Proofs.Ytmcgfkkagijcmaa

namespace Go.Proofs.Ytmcgfkkagijcmaa
open Go.Own

/-! ### Which lead to which, by longer and longer ways -/
def stB (g : List (List Int)) (i k : Nat) : Bool := decide ((k : Int) ∈ g.getD i [])
def wsh (g : List (List Int)) : Nat → Nat → Nat → Bool
  | 0, i, k => stB g i k
  | b + 1, i, k => wsh g b i k || (wsh g b i b && wsh g b b k)
theorem wsh_succ {g : List (List Int)} {b i k : Nat} : wsh g (b + 1) i k = true ↔ wsh g b i k = true ∨ (wsh g b i b = true ∧ wsh g b b k = true) := by
  rw [wsh, Bool.or_eq_true, Bool.and_eq_true]
theorem wsh_le {g : List (List Int)} {b i k : Nat} (h : stB g i k = true) : wsh g b i k = true := by
  induction b with
  | zero => exact h
  | succ b ih => exact wsh_succ.2 (.inl ih)
theorem wsh_sound {g : List (List Int)} : ∀ {b i k : Nat}, wsh g b i k = true → Lds g i k
  | 0, i, k, h => .one (of_decide_eq_true (p := (k : Int) ∈ g.getD i []) h)
  | b + 1, i, k, h => by
    rcases wsh_succ.1 h with h | ⟨h1, h2⟩
    · exact wsh_sound h
    · exact lds_trans (wsh_sound h1) (wsh_sound h2)
theorem wsh_row {g : List (List Int)} {b i : Nat} : wsh g (b + 1) i b = wsh g b i b := by
  rw [wsh]; cases wsh g b i b <;> rfl
theorem wsh_col {g : List (List Int)} {b k : Nat} : wsh g (b + 1) b k = wsh g b b k := by
  rw [wsh]; cases wsh g b b k <;> simp
theorem wsh_trans {g : List (List Int)} : ∀ {b i j k : Nat}, j < b → wsh g b i j = true → wsh g b j k = true → wsh g b i k = true
  | 0, i, j, k, hj, _, _ => by omega
  | b + 1, i, j, k, hj, h1, h2 => by
    by_cases e : j = b
    · subst e
      rw [wsh_row] at h1
      rw [wsh_col] at h2
      exact wsh_succ.2 (.inr ⟨h1, h2⟩)
    · have hj' : j < b := by omega
      rcases wsh_succ.1 h1 with h1 | ⟨h1, h1'⟩
      · rcases wsh_succ.1 h2 with h2 | ⟨h2, h2'⟩
        · exact wsh_succ.2 (.inl (wsh_trans hj' h1 h2))
        · exact wsh_succ.2 (.inr ⟨wsh_trans hj' h1 h2, h2'⟩)
      · rcases wsh_succ.1 h2 with h2 | ⟨h2, h2'⟩
        · exact wsh_succ.2 (.inr ⟨h1, wsh_trans hj' h1' h2⟩)
        · exact wsh_succ.2 (.inr ⟨h1, h2'⟩)
theorem ldB_wsh {g : List (List Int)} (hg : InR g) (i k : Nat) : ldB g i k = wsh g g.length i k := by
  have key : ∀ k, Lds g i k → wsh g g.length i k = true := by
    intro k h
    induction h with
    | one s => exact wsh_le (decide_eq_true (p := (_ : Int) ∈ g.getD _ []) s)
    | more h s ih => exact wsh_trans (lds_lt hg h).2 ih (wsh_le (decide_eq_true (p := (_ : Int) ∈ g.getD _ []) s))
  cases hw : wsh g g.length i k with
  | true => exact ldB_iff.2 (wsh_sound hw)
  | false =>
    cases hl : ldB g i k with
    | false => rfl
    | true => rw [key k (ldB_iff.1 hl)] at hw; cases hw

/-! ### The groups, reckoned -/
def bothW (W : Nat → Nat → Bool) (i k : Nat) : Bool := W i k && W k i && !decide (i = k)
def okW (W : Nat → Nat → Bool) (P : List Bool) (i k : Nat) : Bool := bothW W i k || decide (k = i) || P.getD k false || !W i k
def rdyW (W : Nat → Nat → Bool) (P : List Bool) (i : Nat) : Nat → Bool
  | 0 => !P.getD i false
  | k + 1 => rdyW W P i k && okW W P i k
def clsW (W : Nat → Nat → Bool) (n i : Nat) : List Nat := (List.range n).filter fun k => decide (k = i) || bothW W i k
def grpW (W : Nat → Nat → Bool) (n : Nat) : Nat → List Bool → List (List Int)
  | 0, _ => []
  | f + 1, P => match (List.range n).find? (fun i => rdyW W P i n) with
    | none => []
    | some i => cs (clsW W n i) :: grpW W n f (putL P (clsW W n i))
theorem rdyW_eq (g : List (List Int)) (P : List Bool) (i : Nat) : ∀ n, rdyN g P i n = rdyW (ldB g) P i n
  | 0 => rfl
  | n + 1 => by rw [rdyN, rdyW, rdyW_eq g P i n]; rfl
theorem grpW_eq (g : List (List Int)) : ∀ (f : Nat) (P : List Bool), grpF g f P = grpW (ldB g) g.length f P
  | 0, _ => rfl
  | f + 1, P => by
    have h : firstR g P = (List.range g.length).find? (fun i => rdyW (ldB g) P i g.length) := by
      unfold firstR rdy
      congr 1
      funext i
      exact rdyW_eq g P i g.length
    rw [grpF, grpW, h]
    cases hf : (List.range g.length).find? (fun i => rdyW (ldB g) P i g.length) with
    | none => rfl
    | some i =>
      show cs (cls g i) :: grpF g f (putL P (cls g i)) = cs (clsW (ldB g) g.length i) :: grpW (ldB g) g.length f (putL P (clsW (ldB g) g.length i))
      rw [grpW_eq g f]
      rfl
theorem gs_wsh {g : List (List Int)} (hg : InR g) : gs g = grpW (wsh g g.length) g.length g.length (none0 g.length) := by
  unfold gs
  rw [grpW_eq, show ldB g = wsh g g.length from funext fun i => funext fun k => ldB_wsh hg i k]

/-! ### The example -/
theorem reach_mk {lets : List LetE} {op n u : Int} {s : List UInt8} {args : List Exp} {y : Exp} : Reach lets (.mk op n u s args) y ↔ y = .mk op n u s args ∨ (∃ a ∈ args, Reach lets a y) ∨ (op = 1 ∧ ∃ b, bodyOf lets s = some b ∧ Reach lets b y) := by
  constructor
  · intro h
    cases h with
    | refl => exact .inl rfl
    | arg ha t => exact .inr (.inl ⟨_, ha, t⟩)
    | body h1 hb t => exact .inr (.inr ⟨h1, _, hb, t⟩)
  · rintro (rfl | ⟨a, ha, t⟩ | ⟨h1, b, hb, t⟩)
    · exact .refl _
    · exact .arg ha t
    · exact .body h1 hb t
theorem nxt_of {l : List Ind} {i : Nat} {N : List (List UInt8)} (h : ∀ s, Qt (l.getD i i0) s ↔ s ∈ N) : nxt l i = (List.range l.length).filter fun k => decide ((l.getD k i0).name ∈ N) := by
  unfold nxt
  congr 1
  funext k
  simp only [h]
theorem q0 (s : List UInt8) : Qt (smp.getD 0 i0) s ↔ s ∈ ([] : List (List UInt8)) := by
  show Qt (mkI [97] [] (.mk 0 30 2 [] [])) s ↔ _
  simp [Qt, mkI, reach_mk, Exp.op, Exp.s]
theorem q1 (s : List UInt8) : Qt (smp.getD 1 i0) s ↔ s ∈ ([[97], [99]] : List (List UInt8)) := by
  show Qt (mkI [98] [] (bothE 4 (rateE [97]) (rateE [99]))) s ↔ _
  simp [Qt, mkI, bothE, rateE, reach_mk, Exp.op, Exp.s, or_and_right, exists_or, eq_comm]
theorem q2 (s : List UInt8) : Qt (smp.getD 2 i0) s ↔ s ∈ ([[98]] : List (List UInt8)) := by
  show Qt (mkI [99] [] (bothE 9 (rateE [98]) (.mk 0 10 2 [] []))) s ↔ _
  simp [Qt, mkI, bothE, rateE, reach_mk, Exp.op, Exp.s, or_and_right, exists_or, eq_comm]
theorem q3 (s : List UInt8) : Qt (smp.getD 3 i0) s ↔ s ∈ ([[97], [101]] : List (List UInt8)) := by
  show Qt (mkI [100] [⟨[120], rateE [97]⟩] (bothE 4 (.mk 1 0 0 [120] []) (rateE [101]))) s ↔ _
  simp [Qt, mkI, bothE, rateE, reach_mk, Exp.op, Exp.s, or_and_right, exists_or, eq_comm, bodyOf]
theorem q4 (s : List UInt8) : Qt (smp.getD 4 i0) s ↔ s ∈ ([[101]] : List (List UInt8)) := by
  show Qt (mkI [101] [] (rateE [101])) s ↔ _
  simp [Qt, mkI, bothE, rateE, reach_mk, Exp.op, Exp.s, eq_comm]
def smpG : List (List Int) := [[], [0, 2], [1], [0, 4], [4]]
theorem smp_gl : gl smp = smpG := by
  show [cs (nxt smp 0), cs (nxt smp 1), cs (nxt smp 2), cs (nxt smp 3), cs (nxt smp 4)] = _
  rw [nxt_of q0, nxt_of q1, nxt_of q2, nxt_of q3, nxt_of q4]
  rfl
theorem smp_once : Once smp := by unfold Once; decide
theorem smp_known : Known smp := by
  intro i hi s hs
  have : i < 5 := hi
  have key : ∀ N : List (List UInt8), s ∈ N → (∀ s ∈ N, ∃ k, k < smp.length ∧ (smp.getD k i0).name = s) → ∃ k, k < smp.length ∧ (smp.getD k i0).name = s := fun N h h' => h' s h
  rcases (show i = 0 ∨ i = 1 ∨ i = 2 ∨ i = 3 ∨ i = 4 by omega) with rfl | rfl | rfl | rfl | rfl
  · have := (q0 s).1 hs; cases this
  · have := (q1 s).1 hs
    simp at this
    rcases this with rfl | rfl
    · exact ⟨0, by decide, rfl⟩
    · exact ⟨2, by decide, rfl⟩
  · have := (q2 s).1 hs
    simp at this
    subst this
    exact ⟨1, by decide, rfl⟩
  · have := (q3 s).1 hs
    simp at this
    rcases this with rfl | rfl
    · exact ⟨0, by decide, rfl⟩
    · exact ⟨4, by decide, rfl⟩
  · have := (q4 s).1 hs
    simp at this
    subst this
    exact ⟨4, by decide, rfl⟩
theorem smp_err : errG smp = 0 := by unfold errG; rw [if_pos (by decide), if_pos smp_once, if_pos smp_known]
theorem smp_in : InR smpG := by unfold InR; decide
theorem smp_gs : gs (gl smp) = [[0], [1, 2], [4], [3]] := by
  rw [smp_gl, gs_wsh smp_in]
  decide
theorem smp_err1 : errG (smp.drop 1) = 11 := by
  have ho : Once (smp.drop 1) := by unfold Once; decide
  have hk : ¬ Known (smp.drop 1) := fun h => by
    obtain ⟨k, hk, e⟩ := h 0 (by decide) [97] ((q1 [97]).2 (by simp))
    have : k < 4 := hk
    rcases (show k = 0 ∨ k = 1 ∨ k = 2 ∨ k = 3 by omega) with rfl | rfl | rfl | rfl <;> revert e <;> decide
  unfold errG
  rw [if_pos (by decide), if_pos ho, if_neg hk]
theorem smp_err2 : errG [mkI [97] [] (.mk 0 30 2 [] []), mkI [97] [] (.mk 0 30 2 [] [])] = 5 := by
  have ho : ¬ Once [mkI [97] [] (.mk 0 30 2 [] []), mkI [97] [] (.mk 0 30 2 [] [])] := by unfold Once; decide
  unfold errG
  rw [if_pos (by decide), if_neg ho]

end Go.Proofs.Ytmcgfkkagijcmaa

namespace Go.Proofs.Ytmcgfkkagijcmaa
open Go.Own
set_option maxHeartbeats 4000000
set_option maxRecDepth 100000

theorem okE_leaf (o n u : Int) (s : List UInt8) (h1 : in64 o) (h2 : in64 n) (h3 : in64 u) (h4 : s.length ≤ 100) : OkE (.mk o n u s []) :=
  .mk h1 h2 h3 (Nat.le_trans h4 (by decide)) (Nat.zero_le _) (fun a ha => by cases ha)
theorem okE_both (o : Int) (h1 : in64 o) {a b : Exp} (ha : OkE a) (hb : OkE b) : OkE (bothE o a b) :=
    .mk h1 (show in64 0 by unfold in64; decide) (show in64 0 by unfold in64; decide) (Nat.zero_le _) (show (2 : Nat) ≤ 9223372036854775807 by decide) (fun x hx => by
    rcases List.mem_cons.1 hx with rfl | hx
    · exact ha
    · rcases List.mem_cons.1 hx with rfl | hx
      · exact hb
      · cases hx)
theorem okE_rate (s : List UInt8) (h : s.length ≤ 100) : OkE (rateE s) := okE_leaf 3 0 0 s (by unfold in64; decide) (by unfold in64; decide) (by unfold in64; decide) h
theorem smp_inx : ∀ x ∈ smp, InX x := by
  intro x hx
  simp only [smp, List.mem_cons, List.not_mem_nil, or_false] at hx
  rcases hx with rfl | rfl | rfl | rfl | rfl
  · exact ⟨by decide, by decide, fun l hl => (by cases hl), okE_leaf 0 30 2 [] (by unfold in64; decide) (by unfold in64; decide) (by unfold in64; decide) (by decide)⟩
  · exact ⟨by decide, by decide, fun l hl => (by cases hl), okE_both 4 (by unfold in64; decide) (okE_rate _ (by decide)) (okE_rate _ (by decide))⟩
  · exact ⟨by decide, by decide, fun l hl => (by cases hl), okE_both 9 (by unfold in64; decide) (okE_rate _ (by decide)) (okE_leaf 0 10 2 [] (by unfold in64; decide) (by unfold in64; decide) (by unfold in64; decide) (by decide))⟩
  · exact ⟨by decide, by decide, fun l hl => (by rcases List.mem_cons.1 hl with rfl | hl; exact okE_rate _ (by decide); cases hl), okE_both 4 (by unfold in64; decide) (okE_leaf 1 0 0 [120] (by unfold in64; decide) (by unfold in64; decide) (by unfold in64; decide) (by decide)) (okE_rate _ (by decide))⟩
  · exact ⟨by decide, by decide, fun l hl => (by cases hl), okE_rate _ (by decide)⟩
theorem smp_few : ∀ x ∈ smp, fewX x = true := by decide
theorem smp_okx : ∀ x ∈ smp, OkX x := fun x hx => few_okX (smp_inx x hx) (smp_few x hx)

theorem lists_let (L : List (List Int)) (l : List AV) (hlen : l.length = L.length) (h : LeTs (flat l) (flat (L.map encIs))) : LeT (.lsl 1 l) (.sl 1 encIs [] L) :=
  LeT.trans (LeT.lsl (by rw [List.length_map]; exact hlen.symm) (fun x hx => by obtain ⟨y, _, rfl⟩ := List.mem_map.1 hx; rfl) (flat_ones fun x _ a ha => by simp [encIs, AV.cells] at ha; subst ha; rfl) h) (LeT.lsl_sl encIs [] L rfl)
theorem small_ok : APureV Try.prog 7 [] (.bool true) := by
  have g1 := graph_ok smp (by decide) (fun _ => smp_okx)
  have g2 := groups_ok smp (by decide) (fun _ => smp_okx)
  have g3 := graph_ok (smp.drop 1) (by decide) (fun _ x hx => smp_okx x (List.mem_of_mem_drop hx))
  have g4 := graph_ok [mkI [97] [] (.mk 0 30 2 [] []), mkI [97] [] (.mk 0 30 2 [] [])] (by decide) (fun _ x hx => smp_okx x (by
    simp only [List.mem_cons, List.not_mem_nil, or_false] at hx
    have : x = mkI [97] [] (.mk 0 30 2 [] []) := by rcases hx with h | h <;> exact h
    rw [this]
    exact List.mem_cons_self ..))
  unfold rG at g1 g3 g4
  unfold rGr at g2
  rw [smp_err, if_pos rfl, smp_gl] at g1
  rw [smp_err, if_pos rfl, smp_gs] at g2
  rw [smp_err1, if_neg (by decide)] at g3
  rw [smp_err2, if_neg (by decide)] at g4
  have l1 := lists_ok smpG smpG (by unfold LenOk; decide) (by unfold LenOk; decide)
  have l2 := lists_ok [[0], [1, 2], [4], [3]] [[0], [1, 2], [4], [3]] (by unfold LenOk; decide) (by unfold LenOk; decide)
  rw [decide_eq_true rfl] at l1 l2
  have l1 := apure_args (args' := [.sl 1 encIs [] smpG, .lsl 1 [.nils, .lsl 1 [.int .i64 0, .int .i64 2], .lsl 1 [.int .i64 1], .lsl 1 [.int .i64 0, .int .i64 4], .lsl 1 [.int .i64 4]]]) l1 (.cons (.refl _) (.cons (lists_let smpG _ rfl (by
    show LeTs [.nils, .lsl 1 [.int .i64 0, .int .i64 2], .lsl 1 [.int .i64 1], .lsl 1 [.int .i64 0, .int .i64 4], .lsl 1 [.int .i64 4]] [encIs [], encIs [0, 2], encIs [1], encIs [0, 4], encIs [4]]
    repeat (first | exact .nil | refine .cons (by first | exact LeT.nils_sl _ _ _ | exact LeT.lsl_sl _ _ _ rfl) ?_))) .nil))
  have l2 := apure_args (args' := [.sl 1 encIs [] [[0], [1, 2], [4], [3]], .lsl 1 [.lsl 1 [.int .i64 0], .lsl 1 [.int .i64 1, .int .i64 2], .lsl 1 [.int .i64 4], .lsl 1 [.int .i64 3]]]) l2 (.cons (.refl _) (.cons (lists_let [[0], [1, 2], [4], [3]] _ rfl (by
    show LeTs [.lsl 1 [.int .i64 0], .lsl 1 [.int .i64 1, .int .i64 2], .lsl 1 [.int .i64 4], .lsl 1 [.int .i64 3]] [encIs [0], encIs [1, 2], encIs [4], encIs [3]]
    repeat (first | exact .nil | refine .cons (by first | exact LeT.nils_sl _ _ _ | exact LeT.lsl_sl _ _ _ rfl) ?_))) .nil))
  have c1 := circle_ok smpG [0] (by unfold LenOk; decide) (by decide)
  have c2 := circle_ok smpG [1, 2] (by unfold LenOk; decide) (by decide)
  have c3 := circle_ok smpG [4] (by unfold LenOk; decide) (by decide)
  have c4 := circle_ok smpG [3] (by unfold LenOk; decide) (by decide)
  rw [show circB smpG [0] = false by decide] at c1
  rw [show circB smpG [1, 2] = true by decide] at c2
  rw [show circB smpG [4] = true by decide] at c3
  rw [show circB smpG [3] = false by decide] at c4
  refine apure_of (C := cx 94 [0, 1, 2, 3, 4, 5, 7, 9, 10]) (cxOk _ _) Try.func7 rfl (by decide) rfl (by exact Nat.le_of_ble_eq_true rfl) (by decide) ?_
  conv => whnf
  refine .one _ _ _ (fun _ => sample_ok) (by repeat (first | exact .nil | (apply BorL.cons; first | exact lS rfl | exact lR rfl | exact lM rfl rfl | exact lL rfl | exact lX rfl | exact lN | exact lNl | exact lSm rfl | exact lIm rfl | exact lP rfl | exact lQ rfl | exact lB rfl rfl rfl))) (by first | exact .inl rfl | exact .inr (by repeat (first | exact flats_nil | refine flats_cons (by first | exact flat_val _ rfl | exact flat_row (fun _ => rfl) | exact flat_lst (fun _ => rfl)) ?_))) (by first | exact .inr rfl | exact .inl rfl) ?_
  conv => whnf
  repeat (first | (refine And.intro ⟨by omega, by omega⟩ ?_; conv => whnf) | (refine And.intro (by omega) (And.intro rfl ?_); conv => whnf) | (refine And.intro rfl ?_; conv => whnf) | (refine And.intro (fun _ => ⟨by omega, by omega⟩) ?_; conv => whnf) | (refine And.intro (fun _ => by omega) (And.intro rfl ?_); conv => whnf) | (refine And.intro ⟨(by first | omega | (simp; omega)), (by first | omega | (simp; omega))⟩ ?_; conv => whnf) | (refine Exists.intro _ (And.intro rfl (And.intro (by first | omega | (simp; omega)) (And.intro ⟨rfl, rfl, rfl, rfl, rfl⟩ ?_))); conv => whnf) | (refine And.intro ⟨rfl, rfl⟩ (And.intro (by first | omega | (simp; omega)) ?_); conv => whnf) | (refine Exists.intro _ (And.intro rfl ?_); conv => whnf) | (refine And.intro (fun _ => ?_) (fun h => absurd h (by decide)); conv => whnf) | (refine And.intro (fun h => absurd h (by decide)) (fun _ => ?_); conv => whnf) | (refine .quiet (by kernel_rfl) ?_; conv => whnf))
  refine .one _ _ _ (fun _ => g1) (by repeat (first | exact .nil | (apply BorL.cons; first | exact lS rfl | exact lR rfl | exact lM rfl rfl | exact lL rfl | exact lX rfl | exact lN | exact lNl | exact lSm rfl | exact lIm rfl | exact lP rfl | exact lQ rfl | exact lB rfl rfl rfl))) (by first | exact .inl rfl | exact .inr (by repeat (first | exact flats_nil | refine flats_cons (by first | exact flat_val _ rfl | exact flat_row (fun _ => rfl) | exact flat_lst (fun _ => rfl)) ?_))) (by first | exact .inr rfl | exact .inl rfl) ?_
  conv => whnf
  repeat (first | (refine And.intro ⟨by omega, by omega⟩ ?_; conv => whnf) | (refine And.intro (by omega) (And.intro rfl ?_); conv => whnf) | (refine And.intro rfl ?_; conv => whnf) | (refine And.intro (fun _ => ⟨by omega, by omega⟩) ?_; conv => whnf) | (refine And.intro (fun _ => by omega) (And.intro rfl ?_); conv => whnf) | (refine And.intro ⟨(by first | omega | (simp; omega)), (by first | omega | (simp; omega))⟩ ?_; conv => whnf) | (refine Exists.intro _ (And.intro rfl (And.intro (by first | omega | (simp; omega)) (And.intro ⟨rfl, rfl, rfl, rfl, rfl⟩ ?_))); conv => whnf) | (refine And.intro ⟨rfl, rfl⟩ (And.intro (by first | omega | (simp; omega)) ?_); conv => whnf) | (refine Exists.intro _ (And.intro rfl ?_); conv => whnf) | (refine And.intro (fun _ => ?_) (fun h => absurd h (by decide)); conv => whnf) | (refine And.intro (fun h => absurd h (by decide)) (fun _ => ?_); conv => whnf) | (refine .quiet (by kernel_rfl) ?_; conv => whnf))
  refine .one _ _ _ (fun _ => g2) (by repeat (first | exact .nil | (apply BorL.cons; first | exact lS rfl | exact lR rfl | exact lM rfl rfl | exact lL rfl | exact lX rfl | exact lN | exact lNl | exact lSm rfl | exact lIm rfl | exact lP rfl | exact lQ rfl | exact lB rfl rfl rfl))) (by first | exact .inl rfl | exact .inr (by repeat (first | exact flats_nil | refine flats_cons (by first | exact flat_val _ rfl | exact flat_row (fun _ => rfl) | exact flat_lst (fun _ => rfl)) ?_))) (by first | exact .inr rfl | exact .inl rfl) ?_
  conv => whnf
  repeat (first | (refine And.intro ⟨by omega, by omega⟩ ?_; conv => whnf) | (refine And.intro (by omega) (And.intro rfl ?_); conv => whnf) | (refine And.intro rfl ?_; conv => whnf) | (refine And.intro (fun _ => ⟨by omega, by omega⟩) ?_; conv => whnf) | (refine And.intro (fun _ => by omega) (And.intro rfl ?_); conv => whnf) | (refine And.intro ⟨(by first | omega | (simp; omega)), (by first | omega | (simp; omega))⟩ ?_; conv => whnf) | (refine Exists.intro _ (And.intro rfl (And.intro (by first | omega | (simp; omega)) (And.intro ⟨rfl, rfl, rfl, rfl, rfl⟩ ?_))); conv => whnf) | (refine And.intro ⟨rfl, rfl⟩ (And.intro (by first | omega | (simp; omega)) ?_); conv => whnf) | (refine Exists.intro _ (And.intro rfl ?_); conv => whnf) | (refine And.intro (fun _ => ?_) (fun h => absurd h (by decide)); conv => whnf) | (refine And.intro (fun h => absurd h (by decide)) (fun _ => ?_); conv => whnf) | (refine .quiet (by kernel_rfl) ?_; conv => whnf))
  refine ⟨⟨by decide, by decide, by decide⟩, rfl, ?_⟩
  conv => whnf
  refine .one _ _ _ (fun _ => g3) (by repeat (first | exact .nil | (apply BorL.cons; first | exact lS rfl | exact lR rfl | exact lM rfl rfl | exact lL rfl | exact lX rfl | exact lN | exact lNl | exact lSm rfl | exact lIm rfl | exact lP rfl | exact lQ rfl | exact lB rfl rfl rfl))) (by first | exact .inl rfl | exact .inr (by repeat (first | exact flats_nil | refine flats_cons (by first | exact flat_val _ rfl | exact flat_row (fun _ => rfl) | exact flat_lst (fun _ => rfl)) ?_))) (by first | exact .inr rfl | exact .inl rfl) ?_
  conv => whnf
  repeat (first | (refine And.intro ⟨by omega, by omega⟩ ?_; conv => whnf) | (refine And.intro (by omega) (And.intro rfl ?_); conv => whnf) | (refine And.intro rfl ?_; conv => whnf) | (refine And.intro (fun _ => ⟨by omega, by omega⟩) ?_; conv => whnf) | (refine And.intro (fun _ => by omega) (And.intro rfl ?_); conv => whnf) | (refine And.intro ⟨(by first | omega | (simp; omega)), (by first | omega | (simp; omega))⟩ ?_; conv => whnf) | (refine Exists.intro _ (And.intro rfl (And.intro (by first | omega | (simp; omega)) (And.intro ⟨rfl, rfl, rfl, rfl, rfl⟩ ?_))); conv => whnf) | (refine And.intro ⟨rfl, rfl⟩ (And.intro (by first | omega | (simp; omega)) ?_); conv => whnf) | (refine Exists.intro _ (And.intro rfl ?_); conv => whnf) | (refine And.intro (fun _ => ?_) (fun h => absurd h (by decide)); conv => whnf) | (refine And.intro (fun h => absurd h (by decide)) (fun _ => ?_); conv => whnf) | (refine .eff (by first | exact cxOk _ _ | exact cxPOk _ _ _) ?_; conv => whnf))
  repeat (first | (refine And.intro ⟨by first | omega | decide, by first | omega | decide⟩ ?_; conv => whnf) | (refine And.intro (by first | omega | decide) (And.intro rfl ?_); conv => whnf) | (refine And.intro rfl ?_; conv => whnf) | (refine And.intro (fun _ => ⟨by first | omega | decide, by first | omega | decide⟩) ?_; conv => whnf) | (refine And.intro (fun _ => by first | omega | decide) (And.intro rfl ?_); conv => whnf) | (refine And.intro ⟨(by first | omega | (simp; omega)), (by first | omega | (simp; omega))⟩ ?_; conv => whnf) | (refine Exists.intro _ (And.intro rfl (And.intro (by first | omega | (simp; omega)) (And.intro ⟨rfl, rfl, rfl, rfl, rfl⟩ ?_))); conv => whnf) | (refine And.intro ⟨rfl, rfl⟩ (And.intro (by first | omega | (simp; omega)) ?_); conv => whnf) | (refine Exists.intro _ (And.intro rfl ?_); conv => whnf) | (refine And.intro (fun _ => ?_) (fun h => absurd h (by decide)); conv => whnf) | (refine And.intro (fun h => absurd h (by decide)) (fun _ => ?_); conv => whnf) | (refine .quiet (by kernel_rfl) ?_; conv => whnf))
  refine .one _ _ _ (fun _ => g4) (by repeat (first | exact .nil | (apply BorL.cons; first | exact lS rfl | exact lR rfl | exact lM rfl rfl | exact lL rfl | exact lX rfl | exact lN | exact lNl | exact lSm rfl | exact lIm rfl | exact lP rfl | exact lQ rfl | exact lB rfl rfl rfl))) (by first | exact .inl rfl | exact .inr (by repeat (first | exact flats_nil | refine flats_cons (by first | exact flat_val _ rfl | exact flat_row (fun _ => rfl) | exact flat_lst (fun _ => rfl)) ?_))) (by first | exact .inr rfl | exact .inl rfl) ?_
  conv => whnf
  repeat (first | (refine And.intro ⟨by first | omega | decide, by first | omega | decide⟩ ?_; conv => whnf) | (refine And.intro (by first | omega | decide) (And.intro rfl ?_); conv => whnf) | (refine And.intro rfl ?_; conv => whnf) | (refine And.intro (fun _ => ⟨by first | omega | decide, by first | omega | decide⟩) ?_; conv => whnf) | (refine And.intro (fun _ => by first | omega | decide) (And.intro rfl ?_); conv => whnf) | (refine And.intro ⟨(by first | omega | (simp; omega)), (by first | omega | (simp; omega))⟩ ?_; conv => whnf) | (refine Exists.intro _ (And.intro rfl (And.intro (by first | omega | (simp; omega)) (And.intro ⟨rfl, rfl, rfl, rfl, rfl⟩ ?_))); conv => whnf) | (refine And.intro ⟨rfl, rfl⟩ (And.intro (by first | omega | (simp; omega)) ?_); conv => whnf) | (refine Exists.intro _ (And.intro rfl ?_); conv => whnf) | (refine And.intro (fun _ => ?_) (fun h => absurd h (by decide)); conv => whnf) | (refine And.intro (fun h => absurd h (by decide)) (fun _ => ?_); conv => whnf) | (refine .quiet (by kernel_rfl) ?_; conv => whnf))
  refine .one _ _ _ (fun _ => l1) (by repeat (first | exact .nil | (apply BorL.cons; first | exact lS rfl | exact lR rfl | exact lM rfl rfl | exact lL rfl | exact lX rfl | exact lN | exact lNl | exact lSm rfl | exact lIm rfl | exact lP rfl | exact lQ rfl | exact lB rfl rfl rfl))) (by first | exact .inl rfl | exact .inr (by repeat (first | exact flats_nil | refine flats_cons (by first | exact flat_val _ rfl | exact flat_row (fun _ => rfl) | exact flat_lst (fun _ => rfl)) ?_))) (by first | exact .inr rfl | exact .inl rfl) ?_
  conv => whnf
  repeat (first | (refine And.intro ⟨by first | omega | decide, by first | omega | decide⟩ ?_; conv => whnf) | (refine And.intro (by first | omega | decide) (And.intro rfl ?_); conv => whnf) | (refine And.intro rfl ?_; conv => whnf) | (refine And.intro (fun _ => ⟨by first | omega | decide, by first | omega | decide⟩) ?_; conv => whnf) | (refine And.intro (fun _ => by first | omega | decide) (And.intro rfl ?_); conv => whnf) | (refine And.intro ⟨(by first | omega | (simp; omega)), (by first | omega | (simp; omega))⟩ ?_; conv => whnf) | (refine Exists.intro _ (And.intro rfl (And.intro (by first | omega | (simp; omega)) (And.intro ⟨rfl, rfl, rfl, rfl, rfl⟩ ?_))); conv => whnf) | (refine And.intro ⟨rfl, rfl⟩ (And.intro (by first | omega | (simp; omega)) ?_); conv => whnf) | (refine Exists.intro _ (And.intro rfl ?_); conv => whnf) | (refine And.intro (fun _ => ?_) (fun h => absurd h (by decide)); conv => whnf) | (refine And.intro (fun h => absurd h (by decide)) (fun _ => ?_); conv => whnf) | (refine .quiet (by kernel_rfl) ?_; conv => whnf))
  refine .one _ _ _ (fun _ => l2) (by repeat (first | exact .nil | (apply BorL.cons; first | exact lS rfl | exact lR rfl | exact lM rfl rfl | exact lL rfl | exact lX rfl | exact lN | exact lNl | exact lSm rfl | exact lIm rfl | exact lP rfl | exact lQ rfl | exact lB rfl rfl rfl))) (by first | exact .inl rfl | exact .inr (by repeat (first | exact flats_nil | refine flats_cons (by first | exact flat_val _ rfl | exact flat_row (fun _ => rfl) | exact flat_lst (fun _ => rfl)) ?_))) (by first | exact .inr rfl | exact .inl rfl) ?_
  conv => whnf
  repeat (first | (refine And.intro ⟨by first | omega | decide, by first | omega | decide⟩ ?_; conv => whnf) | (refine And.intro (by first | omega | decide) (And.intro rfl ?_); conv => whnf) | (refine And.intro rfl ?_; conv => whnf) | (refine And.intro (fun _ => ⟨by first | omega | decide, by first | omega | decide⟩) ?_; conv => whnf) | (refine And.intro (fun _ => by first | omega | decide) (And.intro rfl ?_); conv => whnf) | (refine And.intro ⟨(by first | omega | (simp; omega)), (by first | omega | (simp; omega))⟩ ?_; conv => whnf) | (refine Exists.intro _ (And.intro rfl (And.intro (by first | omega | (simp; omega)) (And.intro ⟨rfl, rfl, rfl, rfl, rfl⟩ ?_))); conv => whnf) | (refine And.intro ⟨rfl, rfl⟩ (And.intro (by first | omega | (simp; omega)) ?_); conv => whnf) | (refine Exists.intro _ (And.intro rfl ?_); conv => whnf) | (refine And.intro (fun _ => ?_) (fun h => absurd h (by decide)); conv => whnf) | (refine And.intro (fun h => absurd h (by decide)) (fun _ => ?_); conv => whnf) | (refine .quiet (by kernel_rfl) ?_; conv => whnf))
  refine .one _ _ _ (fun _ => c1) (by repeat (first | exact .nil | (apply BorL.cons; first | exact lS rfl | exact lR rfl | exact lM rfl rfl | exact lL rfl | exact lX rfl | exact lN | exact lNl | exact lSm rfl | exact lIm rfl | exact lP rfl | exact lQ rfl | exact lB rfl rfl rfl))) (by first | exact .inl rfl | exact .inr (by repeat (first | exact flats_nil | refine flats_cons (by first | exact flat_val _ rfl | exact flat_row (fun _ => rfl) | exact flat_lst (fun _ => rfl)) ?_))) (by first | exact .inr rfl | exact .inl rfl) ?_
  conv => whnf
  repeat (first | (refine And.intro ⟨by first | omega | decide, by first | omega | decide⟩ ?_; conv => whnf) | (refine And.intro (by first | omega | decide) (And.intro rfl ?_); conv => whnf) | (refine And.intro rfl ?_; conv => whnf) | (refine And.intro (fun _ => ⟨by first | omega | decide, by first | omega | decide⟩) ?_; conv => whnf) | (refine And.intro (fun _ => by first | omega | decide) (And.intro rfl ?_); conv => whnf) | (refine And.intro ⟨(by first | omega | (simp; omega)), (by first | omega | (simp; omega))⟩ ?_; conv => whnf) | (refine Exists.intro _ (And.intro rfl (And.intro (by first | omega | (simp; omega)) (And.intro ⟨rfl, rfl, rfl, rfl, rfl⟩ ?_))); conv => whnf) | (refine And.intro ⟨rfl, rfl⟩ (And.intro (by first | omega | (simp; omega)) ?_); conv => whnf) | (refine Exists.intro _ (And.intro rfl ?_); conv => whnf) | (refine And.intro (fun _ => ?_) (fun h => absurd h (by decide)); conv => whnf) | (refine And.intro (fun h => absurd h (by decide)) (fun _ => ?_); conv => whnf) | (refine .quiet (by kernel_rfl) ?_; conv => whnf))
  refine .one _ _ _ (fun _ => c2) (by repeat (first | exact .nil | (apply BorL.cons; first | exact lS rfl | exact lR rfl | exact lM rfl rfl | exact lL rfl | exact lX rfl | exact lN | exact lNl | exact lSm rfl | exact lIm rfl | exact lP rfl | exact lQ rfl | exact lB rfl rfl rfl))) (by first | exact .inl rfl | exact .inr (by repeat (first | exact flats_nil | refine flats_cons (by first | exact flat_val _ rfl | exact flat_row (fun _ => rfl) | exact flat_lst (fun _ => rfl)) ?_))) (by first | exact .inr rfl | exact .inl rfl) ?_
  conv => whnf
  repeat (first | (refine And.intro ⟨by first | omega | decide, by first | omega | decide⟩ ?_; conv => whnf) | (refine And.intro (by first | omega | decide) (And.intro rfl ?_); conv => whnf) | (refine And.intro rfl ?_; conv => whnf) | (refine And.intro (fun _ => ⟨by first | omega | decide, by first | omega | decide⟩) ?_; conv => whnf) | (refine And.intro (fun _ => by first | omega | decide) (And.intro rfl ?_); conv => whnf) | (refine And.intro ⟨(by first | omega | (simp; omega)), (by first | omega | (simp; omega))⟩ ?_; conv => whnf) | (refine Exists.intro _ (And.intro rfl (And.intro (by first | omega | (simp; omega)) (And.intro ⟨rfl, rfl, rfl, rfl, rfl⟩ ?_))); conv => whnf) | (refine And.intro ⟨rfl, rfl⟩ (And.intro (by first | omega | (simp; omega)) ?_); conv => whnf) | (refine Exists.intro _ (And.intro rfl ?_); conv => whnf) | (refine And.intro (fun _ => ?_) (fun h => absurd h (by decide)); conv => whnf) | (refine And.intro (fun h => absurd h (by decide)) (fun _ => ?_); conv => whnf) | (refine .quiet (by kernel_rfl) ?_; conv => whnf))
  refine .one _ _ _ (fun _ => c3) (by repeat (first | exact .nil | (apply BorL.cons; first | exact lS rfl | exact lR rfl | exact lM rfl rfl | exact lL rfl | exact lX rfl | exact lN | exact lNl | exact lSm rfl | exact lIm rfl | exact lP rfl | exact lQ rfl | exact lB rfl rfl rfl))) (by first | exact .inl rfl | exact .inr (by repeat (first | exact flats_nil | refine flats_cons (by first | exact flat_val _ rfl | exact flat_row (fun _ => rfl) | exact flat_lst (fun _ => rfl)) ?_))) (by first | exact .inr rfl | exact .inl rfl) ?_
  conv => whnf
  repeat (first | (refine And.intro ⟨by first | omega | decide, by first | omega | decide⟩ ?_; conv => whnf) | (refine And.intro (by first | omega | decide) (And.intro rfl ?_); conv => whnf) | (refine And.intro rfl ?_; conv => whnf) | (refine And.intro (fun _ => ⟨by first | omega | decide, by first | omega | decide⟩) ?_; conv => whnf) | (refine And.intro (fun _ => by first | omega | decide) (And.intro rfl ?_); conv => whnf) | (refine And.intro ⟨(by first | omega | (simp; omega)), (by first | omega | (simp; omega))⟩ ?_; conv => whnf) | (refine Exists.intro _ (And.intro rfl (And.intro (by first | omega | (simp; omega)) (And.intro ⟨rfl, rfl, rfl, rfl, rfl⟩ ?_))); conv => whnf) | (refine And.intro ⟨rfl, rfl⟩ (And.intro (by first | omega | (simp; omega)) ?_); conv => whnf) | (refine Exists.intro _ (And.intro rfl ?_); conv => whnf) | (refine And.intro (fun _ => ?_) (fun h => absurd h (by decide)); conv => whnf) | (refine And.intro (fun h => absurd h (by decide)) (fun _ => ?_); conv => whnf) | (refine .quiet (by kernel_rfl) ?_; conv => whnf))
  refine .one _ _ _ (fun _ => c4) (by repeat (first | exact .nil | (apply BorL.cons; first | exact lS rfl | exact lR rfl | exact lM rfl rfl | exact lL rfl | exact lX rfl | exact lN | exact lNl | exact lSm rfl | exact lIm rfl | exact lP rfl | exact lQ rfl | exact lB rfl rfl rfl))) (by first | exact .inl rfl | exact .inr (by repeat (first | exact flats_nil | refine flats_cons (by first | exact flat_val _ rfl | exact flat_row (fun _ => rfl) | exact flat_lst (fun _ => rfl)) ?_))) (by first | exact .inr rfl | exact .inl rfl) ?_
  conv => whnf
  repeat (first | (refine And.intro ⟨by first | omega | decide, by first | omega | decide⟩ ?_; conv => whnf) | (refine And.intro (by first | omega | decide) (And.intro rfl ?_); conv => whnf) | (refine And.intro rfl ?_; conv => whnf) | (refine And.intro (fun _ => ⟨by first | omega | decide, by first | omega | decide⟩) ?_; conv => whnf) | (refine And.intro (fun _ => by first | omega | decide) (And.intro rfl ?_); conv => whnf) | (refine And.intro ⟨(by first | omega | (simp; omega)), (by first | omega | (simp; omega))⟩ ?_; conv => whnf) | (refine Exists.intro _ (And.intro rfl (And.intro (by first | omega | (simp; omega)) (And.intro ⟨rfl, rfl, rfl, rfl, rfl⟩ ?_))); conv => whnf) | (refine And.intro ⟨rfl, rfl⟩ (And.intro (by first | omega | (simp; omega)) ?_); conv => whnf) | (refine Exists.intro _ (And.intro rfl ?_); conv => whnf) | (refine And.intro (fun _ => ?_) (fun h => absurd h (by decide)); conv => whnf) | (refine And.intro (fun h => absurd h (by decide)) (fun _ => ?_); conv => whnf) | (refine .quiet (by kernel_rfl) ?_; conv => whnf))
  rfl

end Go.Proofs.Ytmcgfkkagijcmaa

namespace Go.Proofs.Ytmcgfkkagijcmaa
open Go.Own

/-! ### The groups are there -/
theorem grp_go {g : List (List Int)} (hg : InR g) : ∀ (u : Nat) (P : List Bool) (L : List (List Int)), unmet P ≤ u → Grp g (none0 g.length) L P → ∃ L' Q, Grp g (none0 g.length) L' Q ∧ unmet Q = 0 := by
  intro u
  induction u with
  | zero => exact fun P L h hG => ⟨L, P, hG, by omega⟩
  | succ u ih =>
    intro P L h hG
    by_cases h0 : unmet P = 0
    · exact ⟨L, P, hG, h0⟩
    · have hP := hG.plc hg (plc0 g)
      have key : ∀ n, (∃ i, i < n ∧ i < g.length ∧ rdy g P i = true) → ∃ i, i < g.length ∧ rdy g P i = true ∧ ∀ j, j < i → rdy g P j = false := by
        intro n
        induction n with
        | zero => rintro ⟨i, hi, _⟩; omega
        | succ n ihn =>
          rintro ⟨i, hi, h1, h2⟩
          by_cases hex : ∃ i, i < n ∧ i < g.length ∧ rdy g P i = true
          · exact ihn hex
          · have hin : i = n := by
              rcases Nat.lt_or_ge i n with h | h
              · exact (hex ⟨i, h, h1, h2⟩).elim
              · omega
            subst hin
            refine ⟨i, h1, h2, fun j hj => ?_⟩
            cases hb : rdy g P j with
            | false => rfl
            | true => exact (hex ⟨j, hj, by omega, hb⟩).elim
      obtain ⟨i, hi, hr⟩ := rdy_ex hg hP.len (show 0 < unmet P by omega)
      obtain ⟨i, hi, hr, hmin⟩ := key g.length ⟨i, hi, hi, hr⟩
      have hun := putL_unmet (cls_free hP ((rdy_iff hg).1 hr).1) (List.nodup_iff_pairwise_ne.2 ((cls_asc g i).imp fun h => by omega))
      have := List.length_pos_of_mem (cls_mem.2 ⟨hi, .inl rfl⟩)
      exact ih _ _ (by omega) (hG.snoc hi hr hmin)
theorem isGroups_gs {g : List (List Int)} (hg : InR g) : IsGroups g (gs g) := by
  obtain ⟨L, Q, h1, h2⟩ := grp_go hg _ _ _ (Nat.le_refl _) (Grp.nil (none0 g.length))
  have h : IsGroups g L := ⟨Q, h1, h2⟩
  rw [← h.eq hg]
  exact h

/-! ### One issue more that nobody quotes -/
structure Less (g g' : List (List Int)) : Prop where
  len : g'.length = g.length + 1
  row : ∀ i, i < g.length → g'.getD i [] = g.getD i []
theorem Less.stp {g g' : List (List Int)} (h : Less g g') {i k : Nat} (hi : i < g.length) : Stp g' i k ↔ Stp g i k := by unfold Stp; rw [h.row i hi]
theorem Less.lds {g g' : List (List Int)} (hg : InR g) (h : Less g g') {i k : Nat} (hi : i < g.length) : Lds g' i k ↔ Lds g i k := by
  constructor
  · intro hl
    induction hl with
    | one s => exact .one ((h.stp hi).1 s)
    | more _ s ih => exact .more ih ((h.stp (lds_lt hg ih).2).1 s)
  · intro hl
    induction hl with
    | one s => exact .one ((h.stp hi).2 s)
    | more h0 s ih => exact .more ih ((h.stp (lds_lt hg h0).2).2 s)
theorem Less.no {g g' : List (List Int)} (hg : InR g) (h : Less g g') {i : Nat} (hi : i < g.length) : ¬ Lds g' i g.length := fun hl => by
  have := (lds_lt hg ((h.lds hg hi).1 hl)).2
  omega
theorem getD_snoc {P : List Bool} {k : Nat} : (P ++ [false]).getD k false = P.getD k false := by
  rw [List.getD_eq_getElem?_getD, List.getD_eq_getElem?_getD, List.getElem?_append]
  split
  · rfl
  · rename_i h
    rw [List.getElem?_eq_none (by omega : P.length ≤ k)]
    cases hk : k - P.length with
    | zero => rfl
    | succ n => rfl
theorem Less.rdyE {g g' : List (List Int)} (hg : InR g) (hg' : InR g') (h : Less g g') {i : Nat} (hi : i < g.length) {P : List Bool} : rdy g' (P ++ [false]) i = rdy g P i := by
  have : rdy g' (P ++ [false]) i = true ↔ rdy g P i = true := by
    rw [rdy_iff hg', rdy_iff hg, getD_snoc]
    refine and_congr Iff.rfl ?_
    constructor
    · intro hh k hk
      rcases hh k ((h.lds hg hi).2 hk) with h1 | h1 | h1
      · exact .inl ((h.lds hg (lds_lt hg hk).2).1 h1)
      · exact .inr (.inl h1)
      · rw [getD_snoc] at h1; exact .inr (.inr h1)
    · intro hh k hk
      have hk' := (h.lds hg hi).1 hk
      rcases hh k hk' with h1 | h1 | h1
      · exact .inl ((h.lds hg (lds_lt hg hk').2).2 h1)
      · exact .inr (.inl h1)
      · rw [getD_snoc]; exact .inr (.inr h1)
  cases h1 : rdy g' (P ++ [false]) i with
  | true => exact (this.1 h1).symm
  | false =>
    cases h2 : rdy g P i with
    | false => rfl
    | true => rw [this.2 h2] at h1; cases h1
theorem ascN_eq : ∀ {a b : List Nat}, a.Pairwise (· < ·) → b.Pairwise (· < ·) → (∀ x, x ∈ a ↔ x ∈ b) → a = b
  | [], [], _, _, _ => rfl
  | [], y :: b, _, _, h => by simpa using (h y).2 (by simp)
  | x :: a, [], _, _, h => by simpa using (h x).1 (by simp)
  | x :: a, y :: b, ha, hb, h => by
    rw [List.pairwise_cons] at ha hb
    have hxy : x = y := by
      rcases List.mem_cons.1 ((h x).1 (by simp)) with e | e
      · exact e
      · rcases List.mem_cons.1 ((h y).2 (by simp)) with e2 | e2
        · exact e2.symm
        · have := hb.1 x e
          have := ha.1 y e2
          omega
    subst hxy
    rw [ascN_eq ha.2 hb.2 fun z => ?_]
    constructor
    · intro hz
      have := ha.1 z hz
      rcases List.mem_cons.1 ((h z).1 (by simp [hz])) with e | e
      · omega
      · exact e
    · intro hz
      have := hb.1 z hz
      rcases List.mem_cons.1 ((h z).2 (by simp [hz])) with e | e
      · omega
      · exact e
theorem Less.clsE {g g' : List (List Int)} (hg : InR g) (h : Less g g') {i : Nat} (hi : i < g.length) : cls g' i = cls g i := by
  refine ascN_eq (cls_asc g' i) (cls_asc g i) fun k => ?_
  rw [cls_mem, cls_mem, h.len]
  constructor
  · rintro ⟨h1, h2⟩
    have hk : k < g.length := by
      rcases h2 with rfl | ⟨h2, _⟩
      · exact hi
      · exact (lds_lt hg ((h.lds hg hi).1 h2)).2
    exact ⟨hk, h2.imp id fun ⟨a, b⟩ => ⟨(h.lds hg hi).1 a, (h.lds hg hk).1 b⟩⟩
  · rintro ⟨hk, h2⟩
    exact ⟨by omega, h2.imp id fun ⟨a, b⟩ => ⟨(h.lds hg hi).2 a, (h.lds hg hk).2 b⟩⟩
theorem putL_app : ∀ {c : List Nat} {P : List Bool}, (∀ k ∈ c, k < P.length) → putL (P ++ [false]) c = putL P c ++ [false]
  | [], _, _ => rfl
  | k :: c, P, h => by
    rw [putL, putL, List.set_append_left _ _ (h k (by simp)), putL_app fun k' hk => by rw [List.length_set]; exact h k' (by simp [hk])]
theorem none0_succ (n : Nat) : none0 (n + 1) = none0 n ++ [false] := by
  unfold none0; rw [List.replicate_succ']
theorem Less.grp {g g' : List (List Int)} (hg : InR g) (hg' : InR g') (h : Less g g') {P Q : List Bool} {L : List (List Int)} (hG : Grp g P L Q) (hP : Plc g P) : Grp g' (P ++ [false]) L (Q ++ [false]) := by
  induction hG with
  | nil => exact .nil _
  | snoc hG hi hr hmin ih =>
    rename_i Q L i
    have hQ := hG.plc hg hP
    have := ih.snoc (i := i) (by rw [h.len]; omega) (by rw [h.rdyE hg hg' hi]; exact hr) (fun j hj => by rw [h.rdyE hg hg' (by omega)]; exact hmin j hj)
    rw [h.clsE hg hi, putL_app fun k hk => (cls_free hQ ((rdy_iff hg).1 hr).1 k hk).1] at this
    exact this
theorem Less.gsE {g g' : List (List Int)} (hg : InR g) (hg' : InR g') (h : Less g g') : gs g' = gs g ++ [[(g.length : Int)]] := by
  obtain ⟨Q, h1, h2⟩ := isGroups_gs hg
  have hQ := h1.plc hg (plc0 g)
  have hG := h.grp hg hg' h1 (plc0 g)
  rw [← none0_succ, ← h.len] at hG
  have hall := unmet_zero h2
  have hc : cls g' g.length = [g.length] := by
    refine ascN_eq (cls_asc _ _) (List.pairwise_singleton _ _) fun k => ?_
    rw [cls_mem, List.mem_singleton, h.len]
    constructor
    · rintro ⟨h3, h4 | ⟨_, h4⟩⟩
      · exact h4
      · rcases Nat.lt_or_ge k g.length with h5 | h5
        · exact (h.no hg h5 h4).elim
        · omega
    · rintro rfl
      exact ⟨by omega, .inl rfl⟩
  have hr : rdy g' (Q ++ [false]) g.length = true := by
    rw [rdy_iff hg']
    refine ⟨?_, fun k hk => ?_⟩
    · rw [getD_snoc]
      cases hb : Q.getD g.length false with
      | false => rfl
      | true => have := getD_ltB hb; have := hQ.len; omega
    · have hk2 := (lds_lt hg' hk).2
      rw [h.len] at hk2
      by_cases e : k = g.length
      · exact .inr (.inl e)
      · exact .inr (.inr (by rw [getD_snoc]; exact hall k (by rw [hQ.len]; omega)))
  have hG2 := hG.snoc (i := g.length) (by rw [h.len]; omega) hr (fun j hj => by
    rw [h.rdyE hg hg' hj]
    cases hb : rdy g Q j with
    | false => rfl
    | true =>
      have := ((rdy_iff hg).1 hb).1
      rw [hall j (by rw [hQ.len]; omega)] at this
      cases this)
  rw [hc] at hG2
  have hun : unmet (putL (Q ++ [false]) [g.length]) = 0 := by
    have := putL_unmet (c := [g.length]) (P := Q ++ [false]) (fun k hk => by
      rw [List.mem_singleton] at hk
      subst hk
      refine ⟨by rw [List.length_append, List.length_singleton, hQ.len]; omega, ?_⟩
      exact ((rdy_iff hg').1 hr).1) (by simp)
    have h3 : unmet (Q ++ [false]) = unmet Q + 1 := by unfold unmet; simp
    rw [List.length_singleton] at this
    omega
  exact (IsGroups.eq hg' ⟨_, hG2, hun⟩).symm

theorem gs_len {g : List (List Int)} (hg : InR g) : (gs g).length ≤ g.length ∧ ∀ c ∈ gs g, 0 < c.length ∧ c.length ≤ g.length := by
  obtain ⟨Q, h1, _⟩ := isGroups_gs hg
  have hr := h1.room hg (plc0 g)
  rw [unmet0] at hr
  refine ⟨by omega, ?_⟩
  have key : ∀ {P Q : List Bool} {L : List (List Int)}, Grp g P L Q → ∀ c ∈ L, 0 < c.length ∧ c.length ≤ g.length := by
    intro P Q L h
    induction h with
    | nil => intro c hc; cases hc
    | snoc _ hi _ _ ih =>
      rename_i i
      intro c hc
      rcases List.mem_append.1 hc with h | h
      · exact ih c h
      · rw [List.mem_singleton] at h
        subst h
        unfold cs
        rw [List.length_map]
        refine ⟨List.length_pos_of_mem (cls_mem.2 ⟨hi, .inl rfl⟩), ?_⟩
        unfold cls
        exact Nat.le_trans (List.length_filter_le _ _) (by rw [List.length_range]; exact Nat.le_refl _)
  exact key h1
theorem gs_ok {g : List (List Int)} (hg : InR g) (hl : g.length ≤ 1000) : LenOk (gs g) := by
  obtain ⟨h1, h2⟩ := gs_len hg
  exact ⟨by omega, fun c hc => by have := (h2 c hc).2; omega⟩
theorem gl_ok (l : List Ind) (h : l.length ≤ 1000) : LenOk (gl l) := by
  refine ⟨by rw [gl_len]; omega, fun r hr => ?_⟩
  have := (gl_in l (by omega) r hr).1
  omega

end Go.Proofs.Ytmcgfkkagijcmaa

namespace Go.Proofs.Ytmcgfkkagijcmaa
open Go.Own
set_option maxHeartbeats 4000000
set_option maxRecDepth 100000

noncomputable def glE (l : List Ind) : List (List Int) := if errG l = 0 then gl l else []
noncomputable def gsE (l : List Ind) : List (List Int) := if errG l = 0 then gs (gl l) else []
theorem apure_2 {f : FuncId} {args : List AV} {a a' b : AV} (h : APure Try.prog f args (fun rs => rs = [.val a, .val b])) (hl : LeT a a') : APure Try.prog f args (fun rs => rs = [.val a', .val b]) :=
  ⟨h.1, fun S w vs hS hT hv => (h.2 S w vs hS hT hv).mono fun e w' ⟨us, rs, S', he, hR, hL⟩ => by
    subst hR
    refine ⟨us, _, S', he, rfl, ⟨hL.len, fun j u r hj hr => ?_, hL.below, hL.ros, hL.fresh, hL.lt, fun i u b k h1 h2 h3 => ?_⟩⟩
    · cases j with
      | zero => simp at hr; subst hr; exact hl _ _ _ (hL.rel 0 u _ hj rfl)
      | succ j => exact hL.rel (j + 1) u r hj hr
    · cases i with
      | zero => simp at h2
      | succ i => cases i with
        | zero => simp at h2
        | succ i => simp at h2⟩
theorem graph2_ok (l : List Ind) (hl1 : l.length ≤ 9223372036854775807) (hx : l.length ≤ 400 → ∀ x ∈ l, OkX x) : APure Try.prog 9 [encXs l] (fun rs => rs = [.val (.sl 1 encIs [] (glE l)), .val (.int .i64 (errG l))]) := by
  have h := graph_ok l hl1 hx
  unfold rG at h
  unfold glE
  split
  · rename_i he
    rw [if_pos he] at h
    rw [he]
    exact h
  · rename_i he
    rw [if_neg he] at h
    exact apure_2 h (LeT.nils_sl _ _ _)
theorem groups2_ok (l : List Ind) (hl1 : l.length ≤ 9223372036854775807) (hx : l.length ≤ 400 → ∀ x ∈ l, OkX x) : APure Try.prog 11 [encXs l] (fun rs => rs = [.val (.sl 1 encIs [] (gsE l)), .val (.int .i64 (errG l))]) := by
  have h := groups_ok l hl1 hx
  unfold rGr at h
  unfold gsE
  split
  · rename_i he
    rw [if_pos he] at h
    rw [he]
    exact h
  · rename_i he
    rw [if_neg he] at h
    exact apure_2 h (LeT.nils_sl _ _ _)

end Go.Proofs.Ytmcgfkkagijcmaa

namespace Go.Proofs.Ytmcgfkkagijcmaa
open Go.Own

/-! ### Each class is one group -/
structure Cover (g : List (List Int)) (L : List (List Int)) (P : List Bool) : Prop where
  of : ∀ c ∈ L, ∃ i, i < g.length ∧ c = cs (cls g i)
  at_ : ∀ i, P.getD i false = true ↔ ∃ c ∈ L, (i : Int) ∈ c
  once : L.Nodup
theorem cs_mem {c : List Nat} {i : Nat} : (i : Int) ∈ cs c ↔ i ∈ c := by
  unfold cs
  rw [List.mem_map]
  constructor
  · rintro ⟨k, hk, e⟩
    have : k = i := Int.ofNat.inj e
    subst this
    exact hk
  · exact fun h => ⟨i, h, rfl⟩
theorem Grp.cover {g : List (List Int)} (hg : InR g) {Q : List Bool} {L : List (List Int)} (h : Grp g (none0 g.length) L Q) : Cover g L Q := by
  generalize hP0 : none0 g.length = P0 at h
  induction h with
  | nil =>
    subst hP0
    exact ⟨fun c hc => (by cases hc), fun i => (by rw [none0_get]; simp), List.nodup_nil⟩
  | snoc h hi hr hmin ih =>
    rename_i Q L i
    subst hP0
    have hQ := h.plc hg (plc0 g)
    have hf := cls_free hQ ((rdy_iff hg).1 hr).1
    refine ⟨fun c hc => ?_, fun k => ?_, ?_⟩
    · rcases List.mem_append.1 hc with h1 | h1
      · exact ih.of c h1
      · rw [List.mem_singleton] at h1
        exact ⟨i, hi, h1⟩
    · rw [putL_get fun k hk => (hf k hk).1, ih.at_]
      constructor
      · rintro (⟨c, hc, h1⟩ | h1)
        · exact ⟨c, List.mem_append_left _ hc, h1⟩
        · exact ⟨_, List.mem_append_right _ (by simp), cs_mem.2 h1⟩
      · rintro ⟨c, hc, h1⟩
        rcases List.mem_append.1 hc with h2 | h2
        · exact .inl ⟨c, h2, h1⟩
        · rw [List.mem_singleton] at h2
          subst h2
          exact .inr (cs_mem.1 h1)
    · refine List.nodup_append.2 ⟨ih.once, by simp, fun a ha b hb e => ?_⟩
      rw [List.mem_singleton] at hb
      subst hb
      subst e
      have h1 : Q.getD i false = true := (ih.at_ i).2 ⟨_, ha, cs_mem.2 (cls_mem.2 ⟨hi, .inl rfl⟩)⟩
      rw [((rdy_iff hg).1 hr).1] at h1
      cases h1
/-! ### The opposite order -/
/-- One graph is another one backwards. -/
structure Back (g g' : List (List Int)) : Prop where
  len : g'.length = g.length
  stp : ∀ i k, i < g.length → k < g.length → (Stp g' i k ↔ Stp g (g.length - 1 - i) (g.length - 1 - k))
theorem Back.symm {g g' : List (List Int)} (h : Back g g') : Back g' g := by
  refine ⟨h.len.symm, fun i k hi hk => ?_⟩
  rw [h.len] at hi hk ⊢
  rw [h.stp _ _ (by omega) (by omega), show g.length - 1 - (g.length - 1 - i) = i by omega, show g.length - 1 - (g.length - 1 - k) = k by omega]
theorem Back.lds1 {g g' : List (List Int)} (hg' : InR g') (h : Back g g') {i k : Nat} (hl : Lds g' i k) : Lds g (g.length - 1 - i) (g.length - 1 - k) := by
  have hlen := h.len
  induction hl with
  | one s =>
    have := lds_lt hg' (.one s)
    exact .one ((h.stp _ _ (by omega) (by omega)).1 s)
  | more h0 s ih =>
    have h1 := lds_lt hg' h0
    have h2 := lds_lt hg' (.one s)
    exact .more ih ((h.stp _ _ (by omega) (by omega)).1 s)
theorem Back.lds {g g' : List (List Int)} (hg : InR g) (hg' : InR g') (h : Back g g') {i k : Nat} (hi : i < g.length) (hk : k < g.length) : Lds g' i k ↔ Lds g (g.length - 1 - i) (g.length - 1 - k) := by
  constructor
  · exact h.lds1 hg'
  · intro hl
    have := h.symm.lds1 hg hl
    rw [h.len, show g.length - 1 - (g.length - 1 - i) = i by omega, show g.length - 1 - (g.length - 1 - k) = k by omega] at this
    exact this
/-- A group, turned. -/
def turn (n : Nat) (c : List Int) : List Int := c.reverse.map fun v => (n : Int) - 1 - v
theorem gl_row {l : List Ind} {i : Nat} (hi : i < l.length) : (gl l).getD i [] = cs (nxt l i) := by
  unfold gl glN
  rw [List.getD_eq_getElem?_getD, List.getElem?_map, List.getElem?_range hi]
  rfl
/-! ### What is no coupon -/
/-- An indenture with another covenant, a definition that is not used, and a coupon of two parts. -/
def othX (x : Ind) (cap : Int) (cov : List Cov) (e : Exp) : Ind := { x with cap := cap, cov := cov, lets := x.lets ++ [⟨uu, e⟩], coupon := bothE 4 x.coupon (.mk 0 1 0 [] []) }
/-- Two lists of which nobody tells the difference. -/
structure Alike (l l' : List Ind) : Prop where
  len : l'.length = l.length
  name : ∀ i, i < l.length → (l'.getD i i0).name = (l.getD i i0).name
  qt : ∀ i, i < l.length → ∀ s, Qt (l'.getD i i0) s ↔ Qt (l.getD i i0) s
theorem Alike.once {l l' : List Ind} (h : Alike l l') : Once l' ↔ Once l := by
  unfold Once
  rw [h.len]
  constructor
  · intro ho i hi k hk
    have := ho i hi k hk
    rwa [h.name i hi, h.name k (by omega)] at this
  · intro ho i hi k hk
    rw [h.name i hi, h.name k (by omega)]
    exact ho i hi k hk
theorem Alike.known {l l' : List Ind} (h : Alike l l') : Known l' ↔ Known l := by
  unfold Known
  rw [h.len]
  constructor
  · intro ho i hi s hs
    obtain ⟨k, hk, e⟩ := ho i hi s ((h.qt i hi s).2 hs)
    exact ⟨k, hk, by rw [← h.name k hk]; exact e⟩
  · intro ho i hi s hs
    obtain ⟨k, hk, e⟩ := ho i hi s ((h.qt i hi s).1 hs)
    exact ⟨k, hk, by rw [h.name k hk]; exact e⟩
theorem Alike.glE {l l' : List Ind} (h : Alike l l') : gl l' = gl l := by
  refine lists_eq (by rw [gl_len, gl_len, h.len]) fun k hk => ?_
  rw [gl_len] at hk
  rw [gl_row hk, gl_row (by rw [← h.len]; exact hk)]
  congr 1
  refine ascN_eq (nxt_asc _ _) (nxt_asc _ _) fun j => ?_
  rw [nxt_mem, nxt_mem, h.len]
  have hk' : k < l.length := by rw [← h.len]; exact hk
  constructor
  · rintro ⟨h1, h2⟩
    exact ⟨h1, by rw [← h.name j h1]; exact (h.qt k hk' _).1 h2⟩
  · rintro ⟨h1, h2⟩
    exact ⟨h1, by rw [h.name j h1]; exact (h.qt k hk' _).2 h2⟩

end Go.Proofs.Ytmcgfkkagijcmaa

namespace Go.Proofs.Ytmcgfkkagijcmaa
open Go.Own
set_option maxHeartbeats 4000000
set_option maxRecDepth 100000

noncomputable abbrev cxW (N : Nat) (keep : List Nat) : Cx := ⟨Try.prog, tab, N, keep, 0, true⟩
def othF (x : Exp) (y : Ind) : Ind := othX y (IntKind.i64.wrap (y.cap + 1)) [⟨[109], x, 0⟩] x
end Go.Proofs.Ytmcgfkkagijcmaa

namespace Go.Proofs.Ytmcgfkkagijcmaa
open Go.ChangeShapes Go.WideShapes Go.RowKit Go.Own
set_option maxRecDepth 100000

/-! ### What is read of the arguments -/
theorem Try.own : ownKnob Try.prog.godebug = none := by kernel_rfl
theorem Try.laidOut : laidOutB Try.prog = true := by kernel_rfl
theorem undBool : Try.prog.underlying 4 = some .bool := by kernel_rfl
theorem und3' : Try.prog.underlying 3 = some (.int .i64) := by kernel_rfl
theorem und9' : Try.prog.underlying 9 = some .string := by kernel_rfl
theorem und22' : Try.prog.underlying 22 = some (.slice 45) := by kernel_rfl
theorem und23' : Try.prog.underlying 23 = some (.slice 24) := by kernel_rfl
theorem und24' : Try.prog.underlying 24 = some (.slice 3) := by kernel_rfl
theorem und37' : Try.prog.underlying 37 = some (.slice 50) := by kernel_rfl
theorem und38' : Try.prog.underlying 38 = some (.slice 40) := by kernel_rfl
theorem und41' : Try.prog.underlying 41 = some (.slice 48) := by kernel_rfl
theorem und42' : Try.prog.underlying 42 = some (.slice 9) := by kernel_rfl
theorem und43' : Try.prog.underlying 43 = some (.slice 117) := by kernel_rfl
def fieldsE : Array Field := #[{ name := "Op", type := 3, offset := 0, embedded := false, tag := "", pkgPath := "", byteOffset := 0 }, { name := "N", type := 3, offset := 1, embedded := false, tag := "", pkgPath := "", byteOffset := 8 }, { name := "Unit", type := 3, offset := 2, embedded := false, tag := "", pkgPath := "", byteOffset := 16 }, { name := "S", type := 9, offset := 3, embedded := false, tag := "", pkgPath := "", byteOffset := 24 }, { name := "Args", type := 38, offset := 4, embedded := false, tag := "", pkgPath := "", byteOffset := 40 }]
theorem und40' : Try.prog.underlying 40 = some (.struct fieldsE) := by kernel_rfl
def fieldsL : Array Field := #[{ name := "Name", type := 9, offset := 0, embedded := false, tag := "", pkgPath := "", byteOffset := 0 }, { name := "Body", type := 40, offset := 1, embedded := false, tag := "", pkgPath := "", byteOffset := 16 }]
theorem und50' : Try.prog.underlying 50 = some (.struct fieldsL) := by kernel_rfl
def fieldsC : Array Field := #[{ name := "Name", type := 9, offset := 0, embedded := false, tag := "", pkgPath := "", byteOffset := 0 }, { name := "Must", type := 40, offset := 1, embedded := false, tag := "", pkgPath := "", byteOffset := 16 }, { name := "Grace", type := 3, offset := 6, embedded := false, tag := "", pkgPath := "", byteOffset := 80 }]
theorem und48' : Try.prog.underlying 48 = some (.struct fieldsC) := by kernel_rfl
def fieldsK : Array Field := #[{ name := "From", type := 3, offset := 0, embedded := false, tag := "", pkgPath := "", byteOffset := 0 }, { name := "Price", type := 3, offset := 1, embedded := false, tag := "", pkgPath := "", byteOffset := 8 }]
theorem und117' : Try.prog.underlying 117 = some (.struct fieldsK) := by kernel_rfl
abbrev PI : List AV → Prop := fun l => ∃ n, (IntKind.i64.min ≤ n ∧ n ≤ IntKind.i64.max) ∧ l = [.int .i64 n]
abbrev PS : List AV → Prop := fun l => ∃ s : List UInt8, s.length ≤ 9223372036854775807 ∧ l = [.str s]
theorem oInt : OpensR Try.prog 3 1 PI := opensR_int und3' (by kernel_rfl)
theorem oStr : OpensR Try.prog 9 1 PS := opensR_str und9' (by kernel_rfl)
abbrev PE : List AV → Prop := fun l => ∃ e : Exp, OkE e ∧ l = (encE e).cells
theorem c64 {n : Int} (h : IntKind.i64.min ≤ n ∧ n ≤ IntKind.i64.max) : in64 n := h
theorem oExpS : ∀ N, OpensS Try.prog 40 5 PE N
  | 0 => opensS_zero (by kernel_rfl)
  | N + 1 => by
    have hargs : OpensS Try.prog 38 1 (fun l => ∃ xs : List Exp, (∀ a ∈ xs, OkE a) ∧ xs.length ≤ 9223372036854775807 ∧ l = [.lsl 5 (xs.map encE)]) N :=
      match N with
      | 0 => opensS_zero (by kernel_rfl)
      | M + 1 => opensS_slice und38' (by kernel_rfl) (oExpS M |>.le (by omega)) (by decide) (fun l ⟨e, h1, h2⟩ => ⟨e, h1, h2.symm⟩) (fun e => rfl)
    refine (opensS_struct und40' (by kernel_rfl) (Rs := [(1, PI), (1, PI), (1, PI), (1, PS), (1, _)]) ⟨rfl, oInt.at N, rfl, oInt.at N, rfl, oInt.at N, rfl, oStr.at N, rfl, hargs, rfl⟩).mono fun l hl => ?_
    obtain ⟨_, _, ⟨n0, h0, rfl⟩, ⟨_, _, ⟨n1, h1, rfl⟩, ⟨_, _, ⟨n2, h2, rfl⟩, ⟨_, _, ⟨s3, h3, rfl⟩, ⟨_, _, ⟨xs, h4, h5, rfl⟩, rfl, rfl⟩, rfl⟩, rfl⟩, rfl⟩, rfl⟩ := hl
    refine ⟨.mk n0 n1 n2 s3 xs, .mk (c64 h0) (c64 h1) (c64 h2) h3 h5 h4, ?_⟩
    show _ = [AV.int .i64 n0, .int .i64 n1, .int .i64 n2, .str s3, .lsl 5 (argsE (.mk n0 n1 n2 s3 xs))]
    rw [argsE_eq]
    rfl
theorem oExp : OpensR Try.prog 40 5 PE := opensR_all oExpS
theorem oLets : OpensR Try.prog 37 1 (fun l => ∃ xs : List LetE, (∀ a ∈ xs, OkE a.body) ∧ xs.length ≤ 9223372036854775807 ∧ l = [.sl 6 encL l0 xs]) :=
  opensR_slice l0 und37' (by kernel_rfl) (opensR_struct und50' (by kernel_rfl) (Rs := [(1, PS), (5, PE)]) ⟨rfl, oStr, rfl, oExp, rfl⟩) (by decide) (fun l hl => by
    obtain ⟨_, _, ⟨s, h1, rfl⟩, ⟨_, _, ⟨e, h2, rfl⟩, rfl, rfl⟩, rfl⟩ := hl
    exact ⟨⟨s, e⟩, h2, rfl⟩) (fun _ => rfl)
theorem oCovs : OpensR Try.prog 41 1 (fun l => ∃ xs : List Cov, (∀ a ∈ xs, True) ∧ xs.length ≤ 9223372036854775807 ∧ l = [.sl 7 encC c0 xs]) :=
  opensR_slice c0 und41' (by kernel_rfl) (opensR_struct und48' (by kernel_rfl) (Rs := [(1, PS), (5, PE), (1, PI)]) ⟨rfl, oStr, rfl, oExp, rfl, oInt, rfl⟩) (by decide) (fun l hl => by
    obtain ⟨_, _, ⟨s, h1, rfl⟩, ⟨_, _, ⟨e, h2, rfl⟩, ⟨_, _, ⟨n, _, rfl⟩, rfl, rfl⟩, rfl⟩, rfl⟩ := hl
    exact ⟨⟨s, e, n⟩, trivial, rfl⟩) (fun _ => rfl)
theorem oStrs : OpensR Try.prog 42 1 (fun l => ∃ xs : List (List UInt8), (∀ a ∈ xs, True) ∧ xs.length ≤ 9223372036854775807 ∧ l = [.sl 1 encS [] xs]) :=
  opensR_slice [] und42' (by kernel_rfl) oStr (by decide) (fun l hl => by obtain ⟨s, _, rfl⟩ := hl; exact ⟨s, trivial, rfl⟩) (fun _ => rfl)
theorem oCalls : OpensR Try.prog 43 1 (fun l => ∃ xs : List CallE, (∀ a ∈ xs, True) ∧ xs.length ≤ 9223372036854775807 ∧ l = [.sl 2 encK k0 xs]) :=
  opensR_slice k0 und43' (by kernel_rfl) (opensR_struct und117' (by kernel_rfl) (Rs := [(1, PI), (1, PI)]) ⟨rfl, oInt, rfl, oInt, rfl⟩) (by decide) (fun l hl => by
    obtain ⟨_, _, ⟨a, _, rfl⟩, ⟨_, _, ⟨b, _, rfl⟩, rfl, rfl⟩, rfl⟩ := hl
    exact ⟨⟨a, b⟩, trivial, rfl⟩) (fun _ => rfl)
def fieldsX : Array Field := #[{ name := "Name", type := 9, offset := 0, embedded := false, tag := "", pkgPath := "", byteOffset := 0 }, { name := "Issuer", type := 9, offset := 1, embedded := false, tag := "", pkgPath := "", byteOffset := 16 }, { name := "Face", type := 3, offset := 2, embedded := false, tag := "", pkgPath := "", byteOffset := 32 }, { name := "From", type := 3, offset := 3, embedded := false, tag := "", pkgPath := "", byteOffset := 40 }, { name := "To", type := 3, offset := 4, embedded := false, tag := "", pkgPath := "", byteOffset := 48 }, { name := "Every", type := 3, offset := 5, embedded := false, tag := "", pkgPath := "", byteOffset := 56 }, { name := "Count", type := 3, offset := 6, embedded := false, tag := "", pkgPath := "", byteOffset := 64 }, { name := "Adjust", type := 3, offset := 7, embedded := false, tag := "", pkgPath := "", byteOffset := 72 }, { name := "Record", type := 3, offset := 8, embedded := false, tag := "", pkgPath := "", byteOffset := 80 }, { name := "Rank", type := 3, offset := 9, embedded := false, tag := "", pkgPath := "", byteOffset := 88 }, { name := "Lets", type := 37, offset := 10, embedded := false, tag := "", pkgPath := "", byteOffset := 96 }, { name := "Coupon", type := 40, offset := 11, embedded := false, tag := "", pkgPath := "", byteOffset := 120 }, { name := "Cap", type := 3, offset := 16, embedded := false, tag := "", pkgPath := "", byteOffset := 184 }, { name := "Covenants", type := 41, offset := 17, embedded := false, tag := "", pkgPath := "", byteOffset := 192 }, { name := "Favour", type := 42, offset := 18, embedded := false, tag := "", pkgPath := "", byteOffset := 216 }, { name := "Cross", type := 3, offset := 19, embedded := false, tag := "", pkgPath := "", byteOffset := 240 }, { name := "Calls", type := 43, offset := 20, embedded := false, tag := "", pkgPath := "", byteOffset := 248 }, { name := "Notice", type := 3, offset := 21, embedded := false, tag := "", pkgPath := "", byteOffset := 272 }, { name := "Sink", type := 3, offset := 22, embedded := false, tag := "", pkgPath := "", byteOffset := 280 }, { name := "Majority", type := 3, offset := 23, embedded := false, tag := "", pkgPath := "", byteOffset := 288 }, { name := "Fast", type := 3, offset := 24, embedded := false, tag := "", pkgPath := "", byteOffset := 296 }]
theorem und45' : Try.prog.underlying 45 = some (.struct fieldsX) := by kernel_rfl
abbrev PX : List AV → Prop := fun l => ∃ x : Ind, InX x ∧ l = (encX x).cells
theorem oInd : OpensR Try.prog 45 25 PX := by
  refine (opensR_struct und45' (by kernel_rfl) (Rs := [(1, PS), (1, PS), (1, PI), (1, PI), (1, PI), (1, PI), (1, PI), (1, PI), (1, PI), (1, PI), (1, _), (5, PE), (1, PI), (1, _), (1, _), (1, PI), (1, _), (1, PI), (1, PI), (1, PI), (1, PI)])
    ⟨rfl, oStr, rfl, oStr, rfl, oInt, rfl, oInt, rfl, oInt, rfl, oInt, rfl, oInt, rfl, oInt, rfl, oInt, rfl, oInt, rfl, oLets, rfl, oExp, rfl, oInt, rfl, oCovs, rfl, oStrs, rfl, oInt, rfl, oCalls, rfl, oInt, rfl, oInt, rfl, oInt, rfl, oInt, rfl⟩).mono fun l hl => ?_
  obtain ⟨_, _, ⟨s0, h0, rfl⟩, ⟨_, _, ⟨s1, h1, rfl⟩, ⟨_, _, ⟨n2, _, rfl⟩, ⟨_, _, ⟨n3, _, rfl⟩, ⟨_, _, ⟨n4, _, rfl⟩, ⟨_, _, ⟨n5, _, rfl⟩, ⟨_, _, ⟨n6, _, rfl⟩, ⟨_, _, ⟨n7, _, rfl⟩, ⟨_, _, ⟨n8, _, rfl⟩, ⟨_, _, ⟨n9, _, rfl⟩, hl⟩, rfl⟩, rfl⟩, rfl⟩, rfl⟩, rfl⟩, rfl⟩, rfl⟩, rfl⟩, rfl⟩ := hl
  obtain ⟨⟨_, _, ⟨xs, hx1, hx2, rfl⟩, ⟨_, _, ⟨e, he, rfl⟩, ⟨_, _, ⟨n12, _, rfl⟩, ⟨_, _, ⟨cv, _, _, rfl⟩, ⟨_, _, ⟨fv, _, _, rfl⟩, ⟨_, _, ⟨n15, _, rfl⟩, ⟨_, _, ⟨cl, _, _, rfl⟩, ⟨_, _, ⟨n17, _, rfl⟩, ⟨_, _, ⟨n18, _, rfl⟩, ⟨_, _, ⟨n19, _, rfl⟩, ⟨_, _, ⟨n20, _, rfl⟩, rfl, rfl⟩, rfl⟩, rfl⟩, rfl⟩, rfl⟩, rfl⟩, rfl⟩, rfl⟩, rfl⟩, rfl⟩, rfl⟩, rfl⟩ := hl
  exact ⟨⟨s0, s1, n2, n3, n4, n5, n6, n7, n8, n9, xs, e, n12, cv, fv, n15, cl, n17, n18, n19, n20⟩, ⟨h0, hx2, hx1, he⟩, rfl⟩
theorem oInds : OpensR Try.prog 22 1 (fun l => ∃ xs : List Ind, ((∀ a ∈ xs, InX a) ∧ xs.length ≤ 9223372036854775807) ∧ l = [.sl 25 encX i0 xs]) :=
  (opensR_slice i0 und22' (by kernel_rfl) oInd (by decide) (fun l hl => by obtain ⟨x, h, rfl⟩ := hl; exact ⟨x, h, rfl⟩) (fun _ => rfl)).mono fun l ⟨xs, h1, h2, h3⟩ => ⟨xs, ⟨h1, h2⟩, h3⟩
theorem vInds : OpVz Try.prog 22 (fun a => ∃ xs : List Ind, (((∀ a ∈ xs, InX a) ∧ xs.length ≤ 9223372036854775807) ∧ xs.length * 304 ≤ 140737488351232) ∧ a = .sl 25 encX i0 xs) :=
  opVz_slice und22' (by kernel_rfl) oInds
theorem oInts : OpensR Try.prog 24 1 (fun l => ∃ xs : List Int, (∀ a ∈ xs, True) ∧ xs.length ≤ 9223372036854775807 ∧ l = [.sl 1 encI 0 xs]) :=
  opensR_slice 0 und24' (by kernel_rfl) oInt (by decide) (fun l hl => by obtain ⟨n, _, rfl⟩ := hl; exact ⟨n, trivial, rfl⟩) (fun _ => rfl)
theorem vInts : OpVz Try.prog 24 (fun a => ∃ xs : List Int, xs.length ≤ 9223372036854775807 ∧ a = encIs xs) :=
  OpV.z (OpV.mono (opV_slice (R := fun a => ∃ xs : List Int, xs.length ≤ 9223372036854775807 ∧ a = encIs xs) und24' (oInts.mono fun l ⟨xs, _, h2, h3⟩ => ⟨_, ⟨xs, h2, rfl⟩, h3⟩)) fun a h => h)
theorem oGraph : OpensR Try.prog 23 1 (fun l => ∃ xs : List (List Int), (∀ a ∈ xs, a.length ≤ 9223372036854775807) ∧ xs.length ≤ 9223372036854775807 ∧ l = [.sl 1 encIs [] xs]) :=
  opensR_slice [] und23' (by kernel_rfl) oInts (by decide) (fun l hl => by obtain ⟨n, _, h, rfl⟩ := hl; exact ⟨n, h, rfl⟩) (fun _ => rfl)
theorem vGraph : OpVz Try.prog 23 (fun a => ∃ xs : List (List Int), LenOk xs ∧ a = .sl 1 encIs [] xs) :=
  OpV.z (OpV.mono (opV_slice (R := fun a => ∃ xs : List (List Int), LenOk xs ∧ a = .sl 1 encIs [] xs) und23' (oGraph.mono fun l ⟨xs, h1, h2, h3⟩ => ⟨_, ⟨xs, ⟨h2, h1⟩, rfl⟩, h3⟩)) fun a h => h)

end Go.Proofs.Ytmcgfkkagijcmaa

/-
  The reference's Leads, by longer and longer ways: the worlds on its way.
-/
namespace Go.Proofs.Ytmcgfkkagijcmaa.Lead
open Go.RowKit

/-- The list of rows, when r of them are made. -/
def top (N n r : Nat) : Nat → Value := fun j => if j < r then .slice (some ⟨N + 1 + j, 0, none⟩) n n else .slice none 0 0
/-- r rows are made. -/
structure Out (w wr : World) (n r : Nat) (Z : Nat → Nat → Bool) : Prop where
  since : w.Since w.heap.size wr
  size : wr.heap.size = w.heap.size + 1 + r
  top : wr.rowIs w.heap.size 35 n (top w.heap.size n r)
  done : ∀ j, j < r → wr.rowIs (w.heap.size + 1 + j) 4 n (fun c => .bool (Z j c))
/-- One more is being filled. -/
structure Inn (w wi : World) (n r : Nat) (Z : Nat → Nat → Bool) (X : Nat → Bool) : Prop where
  since : w.Since w.heap.size wi
  size : wi.heap.size = w.heap.size + 1 + r + 1
  top : wi.rowIs w.heap.size 35 n (top w.heap.size n (r + 1))
  done : ∀ j, j < r → wi.rowIs (w.heap.size + 1 + j) 4 n (fun c => .bool (Z j c))
  cur : wi.rowIs (w.heap.size + 1 + r) 4 n (fun i => .bool (X i))
theorem out_start (w : World) (n : Nat) (Z : Nat → Nat → Bool) : Out w (w.alloc (.cells (madeCells #[.slice none 0 0] n) 35)) n 0 Z :=
  ⟨(World.Since.refl _ _).alloc (Nat.le_refl _) _, by simp, (World.rowIs_made w _ n 35).congr (fun j _ => by simp [Lead.top]), fun j hj => absurd hj (Nat.not_lt_zero _)⟩
theorem inn_start {w wr : World} {n r : Nat} {Z : Nat → Nat → Bool} (h : Out w wr n r Z) :
    Inn w ((wr.alloc (.cells (madeCells #[.bool false] n) 4)).setCell ⟨w.heap.size, r, none⟩ (.slice (some ⟨w.heap.size + 1 + r, 0, none⟩) n n)) n r Z (fun _ => false) := by
  have hnew := World.rowIs_made wr (.bool false) n 4
  rw [h.size] at hnew
  refine ⟨(h.since.alloc (by rw [h.size]; omega) _).setCell (Nat.le_refl _) _, by simp [h.size], ((h.top.alloc _).set r _).congr (fun j _ => ?_), fun j hj => ((h.done j hj).alloc _).setOther (by show w.heap.size + 1 + j ≠ w.heap.size; omega) _,
    hnew.setOther (by show w.heap.size + 1 + r ≠ w.heap.size; omega) _⟩
  simp only [Lead.top]
  by_cases e : j = r
  · subst e; simp
  · rw [if_neg e]
    by_cases hlt : j < r
    · rw [if_pos hlt, if_pos (by omega)]
    · rw [if_neg hlt, if_neg (by omega)]
theorem inn_step {w wi : World} {n r : Nat} {Z : Nat → Nat → Bool} {X X' : Nat → Bool} (h : Inn w wi n r Z X) (q : Nat) (hX : ∀ i, X' i = if i = q then true else X i) :
    Inn w (wi.setCell ⟨w.heap.size + 1 + r, q, none⟩ (.bool true)).drew n r Z X' := by
  refine ⟨(h.since.setCell (by show w.heap.size ≤ w.heap.size + 1 + r; omega) _).drew, by simp [h.size], (h.top.setOther (by show w.heap.size ≠ w.heap.size + 1 + r; omega) _).drew,
    fun j hj => ((h.done j hj).setOther (by show w.heap.size + 1 + j ≠ w.heap.size + 1 + r; omega) _).drew, ((h.cur.set q _).congr (fun i _ => ?_)).drew⟩
  rw [hX]
  split <;> rfl
theorem inn_done {w wi : World} {n r : Nat} {Z : Nat → Nat → Bool} {X : Nat → Bool} (h : Inn w wi n r Z X) (hX : ∀ i, X i = Z r i) : Out w wi n (r + 1) Z :=
  ⟨h.since, by rw [h.size]; omega, h.top, fun j hj => by
    by_cases e : j = r
    · subst e
      exact h.cur.congr (fun i _ => by rw [hX])
    · exact h.done j (by omega)⟩
/-- A cell is written. -/
theorem out_set {w wr : World} {n : Nat} {Z Z' : Nat → Nat → Bool} (h : Out w wr n n Z) {i k : Nat} {v : Bool} (hi : i < n) (hZ : ∀ j c, Z' j c = if j = i ∧ c = k then v else Z j c) :
    Out w (wr.setCell ⟨w.heap.size + 1 + i, k, none⟩ (.bool v)).drew n n Z' := by
  refine ⟨(h.since.setCell (by show w.heap.size ≤ w.heap.size + 1 + i; omega) _).drew, by simp [h.size], (h.top.setOther (by show w.heap.size ≠ w.heap.size + 1 + i; omega) _).drew, fun j hj => ?_⟩
  by_cases e : j = i
  · subst e
    refine (((h.done j hj).set k _).congr (fun c _ => ?_)).drew
    rw [hZ]
    by_cases e2 : c = k
    · rw [if_pos e2, if_pos ⟨rfl, e2⟩]
    · rw [if_neg e2, if_neg (fun hh => e2 hh.2)]
  · refine (((h.done j hj).setOther (by show w.heap.size + 1 + j ≠ w.heap.size + 1 + i; omega) _).congr (fun c _ => ?_)).drew
    rw [hZ, if_neg (fun hh => e hh.1)]
theorem out_congr {w wr : World} {n r : Nat} {Z Z' : Nat → Nat → Bool} (h : Out w wr n r Z) (hZ : ∀ j c, j < r → c < n → Z' j c = Z j c) : Out w wr n r Z' :=
  ⟨h.since, h.size, h.top, fun j hj => (h.done j hj).congr fun c hc => by rw [hZ j c hj hc]⟩

/-- The graph, as it lies. -/
structure Lies (w : World) (gb go n : Nat) (A : Nat → Option Addr) (L C RB RO : Nat → Nat) (B : Nat → Nat → Nat) : Prop where
  row : ∀ r, r < n → w.cell? ⟨gb, go + r, none⟩ = some (.slice (A r) (L r) (C r))
  cell : ∀ r, r < n → ∀ c, c < L r → A r = some ⟨RB r, RO r, none⟩ ∧ w.cell? ⟨RB r, RO r + c, none⟩ = some (.int .i64 (B r c : Nat))
  lt : ∀ r, r < n → ∀ c, c < L r → B r c < n

theorem Try.info4' : (Try.prog.info? 4).map (fun i => (i.zero, i.size, i.bytes)) = some (some (.bool false), 1, 1) := by kernel_rfl
theorem Try.info35' : (Try.prog.info? 35).map (fun i => (i.zero, i.size, i.bytes)) = some (some (.slice none 0 0), 1, 24) := by kernel_rfl

end Go.Proofs.Ytmcgfkkagijcmaa.Lead

/-
  The reference's Leads: its walk.
-/
namespace Go.Proofs.Ytmcgfkkagijcmaa.Lead
open Go.RowKit

/-- Among the first k. -/
def pre (B : Nat → Nat → Nat) (r : Nat) : Nat → Nat → Bool
  | 0, _ => false
  | k + 1, c => if c = B r k then true else pre B r k c
def wf (L : Nat → Nat) (B : Nat → Nat → Nat) : Nat → Nat → Nat → Bool
  | 0, i, k => pre B i (L i) k
  | b + 1, i, k => wf L B b i k || (wf L B b i b && wf L B b b k)
/-- Within a round. -/
def mid (L : Nat → Nat) (B : Nat → Nat → Nat) (b i k : Nat) : Nat → Nat → Bool := fun j c => if j < i ∨ (j = i ∧ c < k) then wf L B (b + 1) j c else wf L B b j c
theorem wf_row {L : Nat → Nat} {B : Nat → Nat → Nat} {b i : Nat} : wf L B (b + 1) i b = wf L B b i b := by
  rw [wf]; cases wf L B b i b <;> rfl
theorem wf_col {L : Nat → Nat} {B : Nat → Nat → Nat} {b k : Nat} : wf L B (b + 1) b k = wf L B b b k := by
  rw [wf]; cases wf L B b b k <;> simp
theorem mid_at {L : Nat → Nat} {B : Nat → Nat → Nat} {b i k : Nat} : mid L B b i k i k = wf L B b i k := by
  unfold mid; rw [if_neg (by omega)]
theorem mid_row {L : Nat → Nat} {B : Nat → Nat → Nat} {b i k : Nat} : mid L B b i k i b = wf L B b i b := by
  unfold mid; split
  · exact wf_row
  · rfl
theorem mid_col {L : Nat → Nat} {B : Nat → Nat → Nat} {b i k : Nat} : mid L B b i k b k = wf L B b b k := by
  unfold mid; split
  · exact wf_col
  · rfl
theorem mid_step {L : Nat → Nat} {B : Nat → Nat → Nat} {b i k : Nat} (v : Bool) (hv : v = (wf L B b i k || (wf L B b i b && wf L B b b k))) (j c : Nat) :
    mid L B b i (k + 1) j c = if j = i ∧ c = k then v else mid L B b i k j c := by
  by_cases h : j = i ∧ c = k
  · obtain ⟨rfl, rfl⟩ := h
    rw [if_pos ⟨rfl, rfl⟩]
    unfold mid
    rw [if_pos (by omega), hv, wf]
  · rw [if_neg h]
    unfold mid
    by_cases h2 : j < i ∨ (j = i ∧ c < k)
    · rw [if_pos h2, if_pos (by omega)]
    · rw [if_neg h2, if_neg (by omega)]
theorem mid_next {L : Nat → Nat} {B : Nat → Nat → Nat} {b i n : Nat} (j c : Nat) (hc : c < n) : mid L B b (i + 1) 0 j c = mid L B b i n j c := by
  unfold mid
  by_cases h : j < i + 1
  · rw [if_pos (by omega), if_pos (by omega)]
  · rw [if_neg (by omega), if_neg (by omega)]
theorem mid_zero {L : Nat → Nat} {B : Nat → Nat → Nat} {b : Nat} (j c : Nat) : mid L B b 0 0 j c = wf L B b j c := by
  unfold mid; rw [if_neg (by omega)]
theorem mid_end {L : Nat → Nat} {B : Nat → Nat → Nat} {b n : Nat} (j c : Nat) (hj : j < n) : wf L B (b + 1) j c = mid L B b n 0 j c := by
  unfold mid; rw [if_pos (by omega)]

set_option maxHeartbeats 6400000 in
set_option maxRecDepth 1000000 in
theorem lead_walk (ga : Option Addr) (gb go n Gc : Nat) (A : Nat → Option Addr) (L C RB RO : Nat → Nat) (B : Nat → Nat → Nat) (w : World) (hga : 0 < n → ga = some ⟨gb, go, none⟩) (hn : n ≤ 1000) (hL : ∀ r, r < n → L r ≤ 1000000) (hLies : Lies w gb go n A L C RB RO B) :
    Calls Try.prog 16 #[.slice ga n Gc] w fun e w' => e = .returned (.slice (some ⟨w.heap.size, 0, none⟩) n n) ∧ Out w w' n n (wf L B n) := by
  have hmk33 := run_make_row' (P := Try.prog) 33 35 (.slice none 0 0) 24 Try.underlying33 Try.info35' rfl .i64 .i64 n (by omega) (by omega)
  go_enter Try.func16, Try.ntmps16
  go_wp2
  clear hmk33
  go_loopg [5] n (fun g i wr => ∃ r : Nat, r ≤ n ∧ g = n - r ∧ i = .int .i64 r ∧ Out w wr n r (wf L B 0))
  case atStart => exact ⟨0, Nat.zero_le _, rfl, rfl, out_start w n _⟩
  case round =>
    obtain ⟨r, hr, rfl, rfl, hO⟩ := hrel
    by_cases hrG : r < n
    · obtain rfl := hga (by omega)
      have hrz : (r : Int) < (n : Int) := by omega
      have hgb : gb < w.heap.size := World.block_lt_of_cell? _ _ (hLies.row r hrG)
      have hsize := hO.size
      have hmk4 := run_make_row' (P := Try.prog) 35 4 (.bool false) 1 Try.underlying35 Try.info4' rfl .i64 .i64 n (by omega) (by omega)
      have hst1 : ∀ o, (wr.alloc o).cell? ⟨w.heap.size, r, none⟩ = some (top w.heap.size n r r) := fun o => (hO.top.alloc o).cell hrG
      have hst2 : ∀ o, (wr.alloc o).frozen? ⟨w.heap.size, r, none⟩ = false := fun o => (hO.top.alloc o).frozen r
      go_wp2
      have hI0 := inn_start hO
      clear hmk4 hst1 hst2 hsize hO
      go_loopg [6] (L r) (fun g i wi => ∃ k : Nat, k ≤ L r ∧ g = L r - k ∧ i = .int .i64 k ∧ Inn w wi n r (wf L B 0) (pre B r k))
      case atStart => exact ⟨0, Nat.zero_le _, rfl, rfl, hI0⟩
      case round =>
        obtain ⟨k, hk, rfl, rfl, hI⟩ := hrel
        clear hI0
        have hLr := hL r hrG
        have t2 : wr.cell? ⟨gb, go + r, none⟩ = some (.slice (A r) (L r) (C r)) := by rw [hI.since.cell (a := ⟨gb, go + r, none⟩) hgb]; exact hLies.row r hrG
        by_cases hkL : k < L r
        · have hkz : (k : Int) < (L r : Int) := by omega
          obtain ⟨hAr, hcell⟩ := hLies.cell r hrG k hkL
          have hBlt := hLies.lt r hrG k hkL
          have hbz : ((B r k : Nat) : Int) < (n : Int) := by omega
          have t2' : wr.cell? ⟨gb, go + r, none⟩ = some (.slice (some ⟨RB r, RO r, none⟩) (L r) (C r)) := by rw [t2, hAr]
          have t1 : wr.cell? ⟨w.heap.size, r, none⟩ = some (.slice (some ⟨w.heap.size + 1 + r, 0, none⟩) n n) := by simpa [top] using hI.top.cell hrG
          have hrb : RB r < w.heap.size := World.block_lt_of_cell? _ _ hcell
          have t3 : wr.cell? ⟨RB r, RO r + k, none⟩ = some (.int .i64 (B r k : Nat)) := by rw [hI.since.cell (a := ⟨RB r, RO r + k, none⟩) hrb]; exact hcell
          have t4 : wr.cell? ⟨w.heap.size + 1 + r, B r k, none⟩ = some (.bool (pre B r k (B r k))) := hI.cur.cell hBlt
          have t5 : wr.frozen? ⟨w.heap.size + 1 + r, B r k, none⟩ = false := hI.cur.frozen _
          clear t2 hAr hcell
          go_wp2
          go_big_region
          go_wp2
          go_roundg (L r - (k + 1))
          case measure => go_light; omega
          case rel => go_light; exact ⟨k + 1, by omega, rfl, by simp, inn_step hI (B r k) (fun i => rfl)⟩
        · have hkz : ¬ ((k : Int) < (L r : Int)) := by omega
          go_wp2
          go_roundg (n - (r + 1))
          case measure => go_light; omega
          case rel => go_light; exact ⟨r + 1, by omega, rfl, by simp, inn_done hI (fun i => by rw [show k = L r by omega]; rfl)⟩
    · have hrz : ¬ ((r : Int) < (n : Int)) := by omega
      have hO2 : Out w wr n n (wf L B 0) := by rw [show n = r by omega] at hO ⊢; exact hO
      clear hO hL hLies hga
      go_wp2
      go_loopg [7] n (fun g i wb => ∃ b : Nat, b ≤ n ∧ g = n - b ∧ i = .int .i64 b ∧ Out w wb n n (wf L B b))
      case atStart => exact ⟨0, Nat.zero_le _, rfl, rfl, hO2⟩
      case round =>
        obtain ⟨b, hb, rfl, rfl, hB⟩ := hrel
        by_cases hbG : b < n
        · have hbz : (b : Int) < (n : Int) := by omega
          have hM0 : Out w wr n n (mid L B b 0 0) := out_congr hB fun j c _ _ => mid_zero j c
          clear hB
          go_wp2
          go_loopg [8] n (fun g i wi => ∃ q : Nat, q ≤ n ∧ g = n - q ∧ i = .int .i64 q ∧ Out w wi n n (mid L B b q 0))
          case atStart => exact ⟨0, Nat.zero_le _, rfl, rfl, hM0⟩
          case round =>
            obtain ⟨q, hq, rfl, rfl, hQ⟩ := hrel
            clear hM0
            by_cases hqG : q < n
            · have hqz : (q : Int) < (n : Int) := by omega
              go_wp2
              go_loopg [9] n (fun g i wk => ∃ k : Nat, k ≤ n ∧ g = n - k ∧ i = .int .i64 k ∧ Out w wk n n (mid L B b q k))
              case atStart => exact ⟨0, Nat.zero_le _, rfl, rfl, hQ⟩
              case round =>
                obtain ⟨k, hk, rfl, rfl, hK⟩ := hrel
                clear hQ
                by_cases hkG : k < n
                · have hkz : (k : Int) < (n : Int) := by omega
                  have t1 : wr.cell? ⟨w.heap.size, q, none⟩ = some (.slice (some ⟨w.heap.size + 1 + q, 0, none⟩) n n) := by simpa [top, hqG] using hK.top.cell hqG
                  have t2 : wr.cell? ⟨w.heap.size, b, none⟩ = some (.slice (some ⟨w.heap.size + 1 + b, 0, none⟩) n n) := by simpa [top, hbG] using hK.top.cell hbG
                  have t3 : wr.cell? ⟨w.heap.size + 1 + q, k, none⟩ = some (.bool (wf L B b q k)) := by rw [(hK.done q hqG).cell hkG, mid_at]
                  have t4 : wr.cell? ⟨w.heap.size + 1 + q, b, none⟩ = some (.bool (wf L B b q b)) := by rw [(hK.done q hqG).cell hbG, mid_row]
                  have t5 : wr.cell? ⟨w.heap.size + 1 + b, k, none⟩ = some (.bool (wf L B b b k)) := by rw [(hK.done b hbG).cell hkG, mid_col]
                  have t6 : wr.frozen? ⟨w.heap.size + 1 + q, k, none⟩ = false := (hK.done q hqG).frozen _
                  have hst : ∀ v : Bool, v = (wf L B b q k || (wf L B b q b && wf L B b b k)) → Out w (wr.setCell ⟨w.heap.size + 1 + q, k, none⟩ (.bool v)).drew n n (mid L B b q (k + 1)) := fun v hv => out_set hK hqG (mid_step v hv)
                  have Hst : Aside (∀ v : Bool, v = (wf L B b q k || (wf L B b q b && wf L B b b k)) → Out w (wr.setCell ⟨w.heap.size + 1 + q, k, none⟩ (.bool v)).drew n n (mid L B b q (k + 1))) := hst
                  clear hst hK
                  generalize h1 : wf L B b q k = x1 at *
                  generalize h2 : wf L B b q b = x2 at *
                  generalize h3 : wf L B b b k = x3 at *
                  clear h1 h2 h3
                  go_wp2
                  cases x1 <;> cases x2
                  all_goals
                    go_big_region
                    go_wp2
                    go_roundg (n - (k + 1))
                    case measure => go_light; omega
                    case rel => go_light; exact ⟨k + 1, by omega, rfl, by simp, Hst.out _ (by simp)⟩
                · have hkz : ¬ ((k : Int) < (n : Int)) := by omega
                  have hN : Out w wr n n (mid L B b (q + 1) 0) := out_congr hK fun j c _ hc => by rw [show k = n by omega]; exact mid_next j c hc
                  clear hK
                  go_wp2
                  go_roundg (n - (q + 1))
                  case measure => go_light; omega
                  case rel => go_light; exact ⟨q + 1, by omega, rfl, by simp, hN⟩
            · have hqz : ¬ ((q : Int) < (n : Int)) := by omega
              have hN : Out w wr n n (wf L B (b + 1)) := out_congr hQ fun j c hj _ => by rw [show q = n by omega]; exact mid_end j c hj
              clear hQ
              go_wp2
              go_roundg (n - (b + 1))
              case measure => go_light; omega
              case rel => go_light; exact ⟨b + 1, by omega, rfl, by simp, hN⟩
        · have hbz : ¬ ((b : Int) < (n : Int)) := by omega
          go_wp2
          go_ret
          obtain rfl : b = n := by omega
          exact ⟨rfl, hB⟩
end Go.Proofs.Ytmcgfkkagijcmaa.Lead

namespace Go.Proofs.Ytmcgfkkagijcmaa
open Go.Own
set_option maxHeartbeats 1000000

theorem pre_iff {B : Nat → Nat → Nat} {r : Nat} : ∀ {k c : Nat}, Lead.pre B r k c = true ↔ ∃ j, j < k ∧ c = B r j
  | 0, c => by simp [Lead.pre]
  | k + 1, c => by
    rw [Lead.pre]
    split
    · rename_i h
      exact ⟨fun _ => ⟨k, Nat.lt_succ_self _, h⟩, fun _ => rfl⟩
    · rename_i h
      rw [pre_iff (k := k)]
      constructor
      · rintro ⟨j, hj, e⟩; exact ⟨j, by omega, e⟩
      · rintro ⟨j, hj, e⟩
        by_cases e2 : j = k
        · subst e2; exact absurd e h
        · exact ⟨j, by omega, e⟩
def lenR (g : List (List Int)) (r : Nat) : Nat := (g.getD r []).length
def entR (g : List (List Int)) (r k : Nat) : Nat := ((g.getD r []).getD k 0).toNat
theorem ent_eq {g : List (List Int)} (hg : InR g) {r k : Nat} (hr : r < g.length) (hk : k < lenR g r) : (g.getD r []).getD k 0 = (entR g r k : Int) ∧ entR g r k < g.length := by
  have := (hg _ (getD_mem (d := []) hr)).2 _ (getD_mem (d := 0) hk)
  unfold entR
  omega
theorem wf_wsh {g : List (List Int)} (hg : InR g) : ∀ (b i k : Nat), b ≤ g.length → i < g.length → Lead.wf (lenR g) (entR g) b i k = wsh g b i k
  | 0, i, k, _, hi => by
    rw [Lead.wf, wsh]
    have : Lead.pre (entR g) i (lenR g i) k = true ↔ stB g i k = true := by
      rw [pre_iff]
      unfold stB
      rw [decide_eq_true_eq]
      constructor
      · rintro ⟨j, hj, rfl⟩
        rw [← (ent_eq hg hi hj).1]
        exact getD_mem hj
      · intro h
        obtain ⟨j, hj, e⟩ := mem_getD (d := 0) h
        refine ⟨j, hj, ?_⟩
        have := (ent_eq hg hi hj).1
        omega
    cases h1 : Lead.pre (entR g) i (lenR g i) k with
    | true => exact (this.1 h1).symm
    | false =>
      cases h2 : stB g i k with
      | false => rfl
      | true => rw [this.2 h2] at h1; cases h1
  | b + 1, i, k, hb, hi => by
    rw [Lead.wf, wsh, wf_wsh hg b i k (by omega) hi, wf_wsh hg b i b (by omega) hi, wf_wsh hg b b k (by omega) (by omega)]
noncomputable def ldM (g : List (List Int)) : List (List Bool) := (List.range g.length).map (ldL g)

/-- How the graph lies. -/
theorem lies_of {S : Blocks} {w : World} {g : List (List Int)} (hg : InR g) {gb go : Nat} {cs : List Value} (hS : ∀ b, S b → b < w.heap.size) (hl : cs.length = g.length)
    (hc : ∀ (j : Nat) (c : Value), cs[j]? = some c → w.cell? ⟨gb, go + j, none⟩ = some c) (hr : ∀ (j : Nat) (c : Value) (r : List Int), cs[j]? = some c → g[j]? = some r → RelT S w c (encIs r)) :
    ∃ (A : Nat → Option Addr) (C RB RO : Nat → Nat), Lead.Lies w gb go g.length A (lenR g) C RB RO (entR g) := by
  have key : ∀ r, ∃ t : Option Addr × Nat × Nat × Nat, r < g.length → w.cell? ⟨gb, go + r, none⟩ = some (.slice t.1 (lenR g r) t.2.1) ∧ ∀ c, c < lenR g r → t.1 = some ⟨t.2.2.1, t.2.2.2, none⟩ ∧ w.cell? ⟨t.2.2.1, t.2.2.2 + c, none⟩ = some (.int .i64 (entR g r c : Nat)) := by
    intro r
    by_cases hrl : r < g.length
    · have hcr : cs[r]? = some cs[r] := List.getElem?_eq_getElem (by omega)
      have hgr : g[r]? = some (g.getD r []) := by rw [ngetD hrl, List.getElem?_eq_getElem hrl]
      have h1 := hc r _ hcr
      have h2 := hr r _ _ hcr hgr
      generalize cs[r] = c at h1 h2
      cases h2 with
      | sl _ _ _ _ _ h0 =>
        generalize hL : (g.getD r []).map encI = Lx at h0
        have hll : Lx.length = lenR g r := by rw [← hL, List.length_map]; rfl
        cases h0 with
        | lslnil =>
          refine ⟨(none, 0, 0, 0), fun _ => ⟨?_, fun c hc => ?_⟩⟩
          · rw [h1, ← hll]; rfl
          · rw [← hll] at hc; exact absurd hc (Nat.not_lt_zero _)
        | lslz _ a =>
          refine ⟨(some a, 0, 0, 0), fun _ => ⟨?_, fun c hc => ?_⟩⟩
          · rw [h1, ← hll]; rfl
          · rw [← hll] at hc; exact absurd hc (Nat.not_lt_zero _)
        | lsl _ _ b o cap ds hs hcap hE h1' hlen hcell hrel =>
          refine ⟨(some ⟨b, o, none⟩, cap, b, o), fun _ => ⟨?_, fun c hc => ⟨rfl, ?_⟩⟩⟩
          · rw [h1, hll]
          · have hfl : flat Lx = Lx := by
              rw [← hL]
              exact flat_one fun a ha => by
                obtain ⟨n, _, rfl⟩ := List.mem_map.1 ha
                rfl
            have hdc : ds[c]? = some (ds[c]'(by rw [hlen, hll]; omega)) := List.getElem?_eq_getElem _
            have hfc : (flat Lx)[c]? = some (encI ((g.getD r []).getD c 0)) := by
              rw [hfl, ← hL, List.getElem?_map, ngetD (show c < (g.getD r []).length from hc), List.getElem?_eq_getElem (show c < (g.getD r []).length from hc)]
              rfl
            have h3 := hrel c _ _ hdc hfc
            have h4 := hcell c _ hdc
            rw [(ent_eq hg hrl hc).1] at h3
            exact h4.trans (congrArg some (relT_int h3))
    · exact ⟨(none, 0, 0, 0), fun h => absurd h hrl⟩
  obtain ⟨t, ht⟩ := Classical.axiomOfChoice key
  exact ⟨fun r => (t r).1, fun r => (t r).2.1, fun r => (t r).2.2.1, fun r => (t r).2.2.2, fun r hr => (ht r hr).1, fun r hr c hc => (ht r hr).2 c hc, fun r hr c hc => (ent_eq hg hr hc).2⟩

theorem ldM_get {g : List (List Int)} {i k : Nat} (hg : InR g) (hi : i < g.length) (hk : k < g.length) : Lead.wf (lenR g) (entR g) g.length i k = ((ldM g).getD i []).getD k false := by
  rw [wf_wsh hg _ _ _ (Nat.le_refl _) hi, ← ldB_wsh hg]
  unfold ldM
  rw [List.getD_eq_getElem?_getD (l := List.map _ _), List.getElem?_map, List.getElem?_range hi]
  exact (ldL_get hk).symm
/-- The reference's Leads. -/
theorem leads_ok (g : List (List Int)) (hg : InR g) (hn : g.length ≤ 1000) : APureV Try.prog 16 [.sl 1 encIs [] g] (.sl 1 encBs [] (ldM g)) := by
  refine ⟨⟨Try.f16, Try.func16, rfl, by decide⟩, fun S w vs hS hT hv => ?_⟩
  match vs, hv with
  | [v], ⟨_, hv⟩ =>
    have h0 : RelT S w v (.sl 1 encIs [] g) := hv 0 v _ rfl rfl
    have hwalk : ∃ (ga : Option Addr) (gb go Gc : Nat) (A : Nat → Option Addr) (C RB RO : Nat → Nat), v = .slice ga g.length Gc ∧ (0 < g.length → ga = some ⟨gb, go, none⟩) ∧ Lead.Lies w gb go g.length A (lenR g) C RB RO (entR g) := by
      cases h0 with
      | sl _ _ _ _ _ h1 =>
        generalize hL : g.map encIs = Lx at h1
        have hll : Lx.length = g.length := by rw [← hL, List.length_map]
        cases h1 with
        | lslnil =>
          have : g.length = 0 := by rw [← hll]; rfl
          exact ⟨none, 0, 0, 0, fun _ => none, fun _ => 0, fun _ => 0, fun _ => 0, by rw [this], fun h => by omega, ⟨fun r hr => by omega, fun r hr => by omega, fun r hr => by omega⟩⟩
        | lslz _ a =>
          have : g.length = 0 := by rw [← hll]; rfl
          exact ⟨some a, 0, 0, 0, fun _ => none, fun _ => 0, fun _ => 0, fun _ => 0, by rw [this], fun h => by omega, ⟨fun r hr => by omega, fun r hr => by omega, fun r hr => by omega⟩⟩
        | lsl _ _ b o cap ds hs hcap hE h1' hlen hcell hrel =>
          have hfl : flat Lx = Lx := by
            rw [← hL]
            exact flat_one fun a ha => by
              obtain ⟨n, _, rfl⟩ := List.mem_map.1 ha
              rfl
          obtain ⟨A, C, RB, RO, h⟩ := lies_of (S := S) hg (gb := b) (go := o) (cs := ds) hS (by omega) hcell (fun j c r hj hr => hrel j c _ hj (by rw [hfl, ← hL, List.getElem?_map, hr]; rfl))
          exact ⟨some ⟨b, o, none⟩, b, o, cap, A, C, RB, RO, by rw [hll], fun _ => rfl, h⟩
    obtain ⟨ga, gb, go, Gc, A, C, RB, RO, rfl, hga, hLies⟩ := hwalk
    refine (Lead.lead_walk ga gb go g.length Gc A (lenR g) C RB RO (entR g) w hga hn (fun r hr => (hg _ (getD_mem hr)).1) hLies).mono ?_
    rintro e w' ⟨rfl, hO⟩
    have hsz := hO.size
    have hin : ∀ j, j < g.length → ∃ c : Array Value, w'.heap[w.heap.size + 1 + j]? = some (.cells c 4 (0, 0)) ∧ c.size = g.length ∧ ∀ i, i < g.length → c[i]? = some (.bool (((ldM g).getD j []).getD i false)) := fun j hj => by
      obtain ⟨c, h1, h2, h3⟩ := hO.done j hj
      exact ⟨c, h1, h2, fun i hi => (h3 i hi).trans (congrArg (fun b => some (Value.bool b)) (ldM_get hg hj hi))⟩
    have hml : (ldM g).length = g.length := by unfold ldM; rw [List.length_map, List.length_range]
    have hmr : ∀ j, j < g.length → ((ldM g).getD j []).length = g.length := fun j hj => by
      unfold ldM
      rw [List.getD_eq_getElem?_getD, List.getElem?_map, List.getElem?_range hj]
      show (ldL g j).length = _
      unfold ldL
      rw [List.length_map, List.length_range]
    refine ⟨[.slice (some ⟨w.heap.size, 0, none⟩) g.length g.length], _, fun b => S b ∨ (w.heap.size ≤ b ∧ b < w'.heap.size), rfl, rfl, ⟨rfl, fun j u r hj hr => ?_, ⟨hO.since.os, hO.since.tape, hO.since.output, hO.since.size, hO.since.block⟩, fun b hb => .inl hb, fun b hb => hb.imp id (·.1), fun b hb => ?_, fun i u b k h1 h2 => ?_⟩⟩
    · cases j with
      | succ j => simp at hj
      | zero =>
        simp only [List.getElem?_cons_zero, Option.some.injEq] at hj hr
        subst hj hr
        have hfl : flat ((ldM g).map encBs) = (ldM g).map encBs := flat_one fun a ha => by
          obtain ⟨n, _, rfl⟩ := List.mem_map.1 ha
          rfl
        have hcs : ∀ (j : Nat) (c : Value), ((List.range g.length).map fun j => Value.slice (some ⟨w.heap.size + 1 + j, 0, none⟩) g.length g.length)[j]? = some c → j < g.length ∧ c = .slice (some ⟨w.heap.size + 1 + j, 0, none⟩) g.length g.length := fun j c h => by
          have hj : j < g.length := by
            have := (List.getElem?_eq_some_iff.1 h).1
            simpa using this
          rw [List.getElem?_map, List.getElem?_range hj] at h
          exact ⟨hj, by simpa using h.symm⟩
        have := RelT.lsl (S := fun b => S b ∨ (w.heap.size ≤ b ∧ b < w'.heap.size)) (w := w') 1 ((ldM g).map encBs) w.heap.size 0 g.length ((List.range g.length).map fun j => Value.slice (some ⟨w.heap.size + 1 + j, 0, none⟩) g.length g.length)
          (.inr ⟨Nat.le_refl _, by omega⟩) (by rw [List.length_map, hml]; exact Nat.le_refl _) (fun x hx => by
            obtain ⟨y, _, rfl⟩ := List.mem_map.1 hx
            rfl) (by
            rw [hfl]
            intro a ha
            obtain ⟨y, _, rfl⟩ := List.mem_map.1 ha
            rfl) (by simp [hml]) (fun j c h => by
            obtain ⟨hj, rfl⟩ := hcs j c h
            have h1 := hO.top.cell hj
            rw [Nat.zero_add, h1]
            unfold Lead.top
            rw [if_pos hj]) (fun j c a h ha => by
            obtain ⟨hj, rfl⟩ := hcs j c h
            rw [hfl, List.getElem?_map] at ha
            have hgj : (ldM g)[j]? = some ((ldM g).getD j []) := by rw [ngetD (by omega), List.getElem?_eq_getElem (by omega)]
            rw [hgj] at ha
            cases ha
            obtain ⟨cc, k1, k2, k3⟩ := hin j hj
            have hrl := hmr j hj
            generalize (ldM g).getD j [] = row at *
            refine .sl _ _ _ _ _ ?_
            have hfr : flat (row.map encB) = row.map encB := flat_one fun a ha => by
              obtain ⟨n, _, rfl⟩ := List.mem_map.1 ha
              rfl
            have h2 := RelT.lsl (S := fun b => S b ∨ (w.heap.size ≤ b ∧ b < w'.heap.size)) (w := w') 1 (row.map encB) (w.heap.size + 1 + j) 0 g.length (row.map Value.bool)
              (.inr ⟨by omega, by omega⟩) (by rw [List.length_map, hrl]; exact Nat.le_refl _) (fun x hx => by
                obtain ⟨y, _, rfl⟩ := List.mem_map.1 hx
                rfl) (by
                rw [hfr]
                intro a ha
                obtain ⟨y, _, rfl⟩ := List.mem_map.1 ha
                rfl) (by simp) (fun i c h => by
                rw [List.getElem?_map, Option.map_eq_some_iff] at h
                obtain ⟨x, hx, rfl⟩ := h
                have hi : i < g.length := by
                  have := (List.getElem?_eq_some_iff.1 hx).1
                  omega
                have h4 := k3 i hi
                rw [List.getD_eq_getElem?_getD, hx] at h4
                show (w'.cell? ⟨w.heap.size + 1 + j, 0 + i, none⟩) = _
                rw [Nat.zero_add]
                simp [World.cell?, k1, h4]) (fun i c a h ha => by
                rw [List.getElem?_map, Option.map_eq_some_iff] at h
                obtain ⟨x, hx, rfl⟩ := h
                rw [hfr, List.getElem?_map, hx] at ha
                cases ha
                exact .bool x)
            rw [List.length_map, hrl] at h2
            exact h2)
        rw [List.length_map, hml] at this
        exact .sl _ _ _ _ _ this
    · rcases hb with hb | hb
      · exact Nat.lt_of_lt_of_le (hS b hb) hO.since.size
      · exact hb.2
    · cases i with
      | zero => simp at h2
      | succ i => simp at h2

end Go.Proofs.Ytmcgfkkagijcmaa

namespace Go.Proofs.Ytmcgfkkagijcmaa
open Go.Own

/-! ### The place of a group -/
def ix (G : List (List Int)) (m : Nat) : Nat := G.findIdx fun c => decide ((m : Int) ∈ c)
/-- What the order of the groups says. -/
theorem Grp.order {g : List (List Int)} (hg : InR g) {Q : List Bool} {L : List (List Int)} (h : Grp g (none0 g.length) L Q) : ∀ j, j < L.length → ∀ m : Nat, (m : Int) ∈ L.getD j [] → ∀ k, Lds g m k → ∃ j', j' ≤ j ∧ (k : Int) ∈ L.getD j' [] := by
  generalize hP0 : none0 g.length = P0 at h
  induction h with
  | nil => intro j hj; exact absurd hj (Nat.not_lt_zero _)
  | snoc h hi hr hmin ih =>
    rename_i Q L i
    subst hP0
    have hcv := h.cover hg
    intro j hj m hm k hk
    rw [List.length_append, List.length_singleton] at hj
    have hget : ∀ j, j < L.length → (L ++ [cs (cls g i)]).getD j [] = L.getD j [] := fun j hj => by
      rw [List.getD_eq_getElem?_getD, List.getD_eq_getElem?_getD, List.getElem?_append_left hj]
    have hlast : (L ++ [cs (cls g i)]).getD L.length [] = cs (cls g i) := by simp
    by_cases e : j < L.length
    · rw [hget j e] at hm
      obtain ⟨j', h1, h2⟩ := ih j e m hm k hk
      exact ⟨j', h1, by rw [hget j' (by omega)]; exact h2⟩
    · have hjl : j = L.length := by omega
      subst hjl
      rw [hlast, cs_mem] at hm
      obtain ⟨hm1, hm2⟩ := cls_mem.1 hm
      have hik : Lds g i k := by
        rcases hm2 with rfl | hm2
        · exact hk
        · exact lds_trans hm2.1 hk
      rcases ((rdy_iff hg).1 hr).2 k hik with h1 | h1 | h1
      · exact ⟨L.length, Nat.le_refl _, by rw [hlast, cs_mem]; exact cls_mem.2 ⟨(lds_lt hg hik).2, .inr ⟨hik, h1⟩⟩⟩
      · exact ⟨L.length, Nat.le_refl _, by rw [hlast, cs_mem]; exact cls_mem.2 ⟨(lds_lt hg hik).2, .inl h1⟩⟩
      · obtain ⟨c, hc, hkc⟩ := (hcv.at_ k).1 h1
        obtain ⟨j', hj', e⟩ := mem_getD (d := []) hc
        exact ⟨j', by omega, by rw [hget j' hj', e]; exact hkc⟩
structure Ixs (g G : List (List Int)) : Prop where
  lt : ∀ m, m < g.length → ix G m < G.length
  mem : ∀ m, m < g.length → G.getD (ix G m) [] = cs (cls g m)
  uniq : ∀ j m : Nat, j < G.length → (m : Int) ∈ G.getD j [] → ix G m = j
  asc : ∀ j, j < G.length → (G.getD j []).Pairwise (· < ·)
  rng : ∀ j, j < G.length → ∀ v ∈ G.getD j [], 0 ≤ v ∧ v < (g.length : Int)
  same : ∀ i k, i < g.length → k < g.length → (ix G i = ix G k ↔ i = k ∨ (Lds g i k ∧ Lds g k i))
  ord : ∀ i k, Lds g i k → ix G k ≤ ix G i
/-! ### The law's own list of places -/
/-- The place of each issue, when the groups before i, and k issues of group i, are told. -/
def atL (n : Nat) (G : List (List Int)) (i k : Nat) : List Int := (List.range n).map fun m => if ix G m < i ∨ (ix G m = i ∧ (m : Int) ∈ (G.getD i []).take k) then (ix G m : Int) else -1
end Go.Proofs.Ytmcgfkkagijcmaa

namespace Go.Proofs.Ytmcgfkkagijcmaa
open Go.Own
set_option maxHeartbeats 4000000
set_option maxRecDepth 100000

def aL (n i : Nat) : List Int := (List.range n).map fun m => if m < i then -1 else 0
end Go.Proofs.Ytmcgfkkagijcmaa

namespace Go.Proofs.Ytmcgfkkagijcmaa
open Go.Own
set_option maxHeartbeats 4000000
set_option maxRecDepth 100000

theorem has_ok (l : List (List UInt8)) (s : List UInt8) (hl : l.length ≤ 9223372036854775807) : APureV Try.prog 23 [.sl 1 encS [] l, .str s] (.bool (decide (s ∈ l))) := by
  refine apure_of (C := cx 18 [0, 1, 4, 5, 9, 17]) (cxOk _ _) Try.func23 rfl (by decide) rfl (by exact Nat.le_of_ble_eq_true rfl) (by decide) ?_
  conv => whnf
  refine loop_up (cxOk _ _) l.length (fun k => ∀ j, j < k → l.getD j [] ≠ s) (fun k => ⟨[(0, .sl 1 encS [] l), (1, .str s), (5, .int .i64 (k : Nat))], [], 0⟩) (by intro j hj; omega) ((wk_of [] rfl ⟨.base (.tree _ _ rfl rfl), .base (.tree _ _ rfl rfl), .base (.tree _ _ rfl rfl), trivial⟩ trivial)) ?_
  intro k hk hP
  conv => whnf
  refine ⟨fun hd => ?_, fun hd => ?_⟩
  · have hd := of_decide_eq_true hd
    have hlt : k < l.length := by omega
    have hek : (k : Int).toNat = k := Int.toNat_natCast k
    conv => whnf
    repeat (first | (refine And.intro ⟨by omega, by omega⟩ ?_; conv => whnf) | (refine And.intro (by omega) (And.intro rfl ?_); conv => whnf) | (refine And.intro rfl ?_; conv => whnf) | (refine And.intro (fun _ => ⟨by omega, by omega⟩) ?_; conv => whnf) | (refine And.intro (fun _ => by omega) (And.intro rfl ?_); conv => whnf) | (refine And.intro ⟨(by first | omega | (simp; omega)), (by first | omega | (simp; omega))⟩ ?_; conv => whnf) | (refine Exists.intro _ (And.intro rfl (And.intro (by first | omega | (simp; omega)) (And.intro ⟨rfl, rfl, rfl, rfl, rfl⟩ ?_))); conv => whnf) | (refine And.intro ⟨rfl, rfl⟩ (And.intro (by first | omega | (simp; omega)) ?_); conv => whnf) | (refine Exists.intro _ (And.intro rfl ?_); conv => whnf) | (refine And.intro (fun _ => ?_) (fun h => absurd h (by decide)); conv => whnf) | (refine And.intro (fun h => absurd h (by decide)) (fun _ => ?_); conv => whnf) | (refine .quiet (by kernel_rfl) ?_; conv => whnf))
    rw [hek]
    conv => whnf
    refine ⟨fun he => ?_, fun he => ?_⟩
    · have he := of_decide_eq_true he
      conv => whnf
      rw [decide_eq_true (by rw [← he]; exact getD_mem hlt)]
      rfl
    · have he := of_decide_eq_false he
      conv => whnf
      repeat (first | (refine And.intro ⟨by omega, by omega⟩ ?_; conv => whnf) | (refine And.intro (by omega) (And.intro rfl ?_); conv => whnf) | (refine And.intro rfl ?_; conv => whnf) | (refine And.intro (fun _ => ⟨by omega, by omega⟩) ?_; conv => whnf) | (refine And.intro (fun _ => by omega) (And.intro rfl ?_); conv => whnf) | (refine And.intro ⟨(by first | omega | (simp; omega)), (by first | omega | (simp; omega))⟩ ?_; conv => whnf) | (refine Exists.intro _ (And.intro rfl (And.intro (by first | omega | (simp; omega)) (And.intro ⟨rfl, rfl, rfl, rfl, rfl⟩ ?_))); conv => whnf) | (refine And.intro ⟨rfl, rfl⟩ (And.intro (by first | omega | (simp; omega)) ?_); conv => whnf) | (refine Exists.intro _ (And.intro rfl ?_); conv => whnf) | (refine And.intro (fun _ => ?_) (fun h => absurd h (by decide)); conv => whnf) | (refine And.intro (fun h => absurd h (by decide)) (fun _ => ?_); conv => whnf) | (refine .quiet (by kernel_rfl) ?_; conv => whnf))
      refine up hlt (fun j hj => ?_) ((wk_of [] rfl ⟨.base (.tree _ _ rfl rfl), .base (.tree _ _ rfl rfl), .base (.tree _ _ rfl rfl), trivial⟩ trivial))
      by_cases e : j = k
      · subst e; exact he
      · exact hP j (by omega)
  · have hd := of_decide_eq_false hd
    obtain rfl : k = l.length := by omega
    conv => whnf
    rw [decide_eq_false (fun h => by
      obtain ⟨j, hj, e⟩ := mem_getD (d := []) h
      exact hP j hj e)]
    rfl

/-- The texts of an expression's operations. -/
def wds (op : Int) (e : Exp) : List (List UInt8) := ((subs e).filter fun x => decide (x.op = op)).map (·.s)
theorem wds_mem {op : Int} {e : Exp} {s : List UInt8} : s ∈ wds op e ↔ ∃ x, Sub e x ∧ x.op = op ∧ x.s = s := by
  unfold wds
  rw [List.mem_map]
  constructor
  · rintro ⟨x, hx, rfl⟩
    obtain ⟨h1, h2⟩ := List.mem_filter.1 hx
    exact ⟨x, mem_sub h1, of_decide_eq_true h2, rfl⟩
  · rintro ⟨x, hx, h1, rfl⟩
    exact ⟨x, List.mem_filter.2 ⟨sub_mem hx, decide_eq_true h1⟩, rfl⟩
theorem wds_len (op : Int) (e : Exp) : (wds op e).length ≤ (subs e).length := by
  unfold wds; rw [List.length_map]; exact List.length_filter_le _ _
def wdsN (op : Int) (e : Exp) (k : Nat) : List (List UInt8) := (if e.op = op then [e.s] else []) ++ (e.args.take k).flatMap (wds op)
theorem subsL_take (l : List Exp) : subsL l = l.flatMap subs := by
  induction l with
  | nil => rfl
  | cons a l ih => rw [subsL, ih, List.flatMap_cons]
theorem wdsN_end (op : Int) (e : Exp) : wdsN op e e.args.length = wds op e := by
  unfold wdsN wds
  rw [List.take_length, subs_eq, subsL_take, List.filter_cons]
  have h : ((e.args.flatMap subs).filter fun x => decide (x.op = op)).map (·.s) = e.args.flatMap (wds op) := by
    rw [List.filter_flatMap, List.map_flatMap]
    rfl
  by_cases ho : e.op = op
  · rw [if_pos ho, if_pos (by exact decide_eq_true ho), List.map_cons, h]; rfl
  · rw [if_neg ho, if_neg (by simpa using ho), h]; rfl
theorem wdsN_succ {op : Int} {e : Exp} {k : Nat} (hk : k < e.args.length) : wdsN op e (k + 1) = wdsN op e k ++ wds op (e.args.getD k ex0) := by
  unfold wdsN
  rw [take_getD (d := ex0) hk, List.flatMap_append, ← List.append_assoc]
  simp
theorem wdsN_len {op : Int} {e : Exp} {k : Nat} : (wdsN op e k).length ≤ (subs e).length := by
  have h : (wdsN op e k).length ≤ (wdsN op e e.args.length).length := by
    unfold wdsN
    rw [List.length_append, List.length_append, List.take_length]
    have : ((e.args.take k).flatMap (wds op)).length ≤ (e.args.flatMap (wds op)).length := by
      have h1 := congrArg (fun l => (l.flatMap (wds op)).length) (List.take_append_drop k e.args)
      simp only [List.flatMap_append, List.length_append] at h1
      omega
    omega
  rw [wdsN_end] at h
  exact Nat.le_trans h (wds_len op e)
theorem subs_arg {e a : Exp} (h : a ∈ e.args) : (subs a).length ≤ (subs e).length := by
  rw [subs_eq e, List.length_cons, subsL_take]
  obtain ⟨l1, l2, e1⟩ := List.append_of_mem h
  rw [e1, List.flatMap_append, List.flatMap_cons, List.length_append, List.length_append]
  omega

theorem words_ok : ∀ (z : Nat) (e : Exp) (op : Int), SizeOf.sizeOf e ≤ z → OkE e → (subs e).length ≤ 1000000 → APure Try.prog 35 [encE e, .int .i64 op] (fun rs => rs = [.new (.row 9 1 encS [] (wds op e))]) := by
  intro z
  induction z using Nat.strongRecOn with
  | _ z ih =>
  intro e op hz he hs
  have hal := argsE_len e
  have hlen := he.alen
  have hN0 : wdsN op e 0 = if e.op = op then [e.s] else [] := by unfold wdsN; simp
  have hNs := fun {k : Nat} hk => @wdsN_succ op e k hk
  have hNl := fun k => @wdsN_len op e k
  have hNe := wdsN_end op e
  generalize hN : wdsN op e = N at *
  refine apure_ofw (C := cx 33 [0, 1, 2, 4, 5, 6, 10, 20]) (cxOk _ _) Try.func35 rfl (by decide) rfl (by exact Nat.le_of_ble_eq_true rfl) (by decide) ?_
  conv => whnf
  refine ⟨fun ho => ?_, fun ho => ?_⟩
  · have ho := of_decide_eq_true ho
    rw [if_pos ho] at hN0
    conv => whnf
    repeat (first | (refine And.intro ⟨by omega, by omega⟩ ?_; conv => whnf) | (refine And.intro (by omega) (And.intro rfl ?_); conv => whnf) | (refine And.intro rfl ?_; conv => whnf) | (refine And.intro (fun _ => ⟨by omega, by omega⟩) ?_; conv => whnf) | (refine And.intro (fun _ => by omega) (And.intro rfl ?_); conv => whnf) | (refine And.intro ⟨(by first | omega | (simp; omega)), (by first | omega | (simp; omega))⟩ ?_; conv => whnf) | (refine Exists.intro _ (And.intro rfl (And.intro (by first | omega | (simp; omega)) (And.intro ⟨rfl, rfl, rfl, rfl, rfl⟩ ?_))); conv => whnf) | (refine And.intro ⟨rfl, rfl⟩ (And.intro (by first | omega | (simp; omega)) ?_); conv => whnf) | (refine Exists.intro _ (And.intro rfl ?_); conv => whnf) | (refine And.intro (fun _ => ?_) (fun h => absurd h (by decide)); conv => whnf) | (refine And.intro (fun h => absurd h (by decide)) (fun _ => ?_); conv => whnf) | (refine .quiet (by kernel_rfl) ?_; conv => whnf))
    refine ⟨(show 1 * 16 ≤ 140737488355328 by decide), ?_⟩
    conv => whnf
    repeat (first | (refine And.intro ⟨by omega, by omega⟩ ?_; conv => whnf) | (refine And.intro (by omega) (And.intro rfl ?_); conv => whnf) | (refine And.intro rfl ?_; conv => whnf) | (refine And.intro (fun _ => ⟨by omega, by omega⟩) ?_; conv => whnf) | (refine And.intro (fun _ => by omega) (And.intro rfl ?_); conv => whnf) | (refine And.intro ⟨(by first | omega | (simp; omega)), (by first | omega | (simp; omega))⟩ ?_; conv => whnf) | (refine Exists.intro _ (And.intro rfl (And.intro (by first | omega | (simp; omega)) (And.intro ⟨rfl, rfl, rfl, rfl, rfl⟩ ?_))); conv => whnf) | (refine And.intro ⟨rfl, rfl⟩ (And.intro (by first | omega | (simp; omega)) ?_); conv => whnf) | (refine Exists.intro _ (And.intro rfl ?_); conv => whnf) | (refine And.intro (fun _ => ?_) (fun h => absurd h (by decide)); conv => whnf) | (refine And.intro (fun h => absurd h (by decide)) (fun _ => ?_); conv => whnf) | (refine .quiet (by kernel_rfl) ?_; conv => whnf))
    refine loop_up (cxOk _ _) e.args.length (fun _ => True) (fun k => ⟨[(1, .int .i64 op), (2, .ptr 0 0), (5, .own 1), (6, .int .i64 (k : Nat))], [(0, .cells 40 [.int .i64 e.op, .int .i64 e.n, .int .i64 e.unit, .str e.s, .lsl 5 (argsE e)]), (1, .row 9 1 encS [] (N k))], 2⟩) trivial (by rw [hN0]; exact (wk_of [(0, .id 0), (1, .id 2)] rfl ⟨.base (.tree _ _ rfl rfl), .base (.ptr _ _ _ rfl), (by first | exact .base (.own _ _ rfl) | exact .base (.nilown _ rfl) | exact .base (.trunc _ _ _ rfl)), .base (.tree _ _ rfl rfl), trivial⟩ ⟨⟨_, rfl, .cells _ _ _ _ rfl (by repeat (first | exact .nil | refine .cons (by first | exact .base (.tree _ _ rfl rfl) | exact .base (.own _ _ rfl) | exact .base (.ptr _ _ _ rfl) | exact .base (.map _ _ rfl) | exact .base (.nilown _ rfl) | exact .fn _ _ _ _ _ .nil (by repeat (first | exact .nil | refine .cons (by exact .ptr _ _ _ rfl) ?_))) ?_)) rfl⟩, ⟨_, rfl, (by first | exact .row _ _ _ _ _ _ _ rfl rfl | exact .lstrow _ _ _ _ _ _ _ rfl rfl | exact .nilrow _ _ _ _ _ rfl | exact .truncrow _ _ _ _ _ _ _ _ rfl (by omega) rfl)⟩, trivial⟩)) ?_
    intro k hk _
    have hek : (k : Int).toNat = k := Int.toNat_natCast k
    conv => whnf
    repeat (first | (refine And.intro ⟨by omega, by omega⟩ ?_; conv => whnf) | (refine And.intro (by omega) (And.intro rfl ?_); conv => whnf) | (refine And.intro rfl ?_; conv => whnf) | (refine And.intro (fun _ => ⟨by omega, by omega⟩) ?_; conv => whnf) | (refine And.intro (fun _ => by omega) (And.intro rfl ?_); conv => whnf) | (refine And.intro ⟨(by first | omega | (simp; omega)), (by first | omega | (simp; omega))⟩ ?_; conv => whnf) | (refine Exists.intro _ (And.intro rfl (And.intro (by first | omega | (simp; omega)) (And.intro ⟨rfl, rfl, rfl, rfl, rfl⟩ ?_))); conv => whnf) | (refine And.intro ⟨rfl, rfl⟩ (And.intro (by first | omega | (simp; omega)) ?_); conv => whnf) | (refine Exists.intro _ (And.intro rfl ?_); conv => whnf) | (refine And.intro (fun _ => ?_) (fun h => absurd h (by decide)); conv => whnf) | (refine And.intro (fun h => absurd h (by decide)) (fun _ => ?_); conv => whnf) | (refine .quiet (by kernel_rfl) ?_; conv => whnf))
    refine ⟨fun hf => ?_, fun hf => ?_⟩
    · have hf := of_decide_eq_true hf
      have hlt : k < e.args.length := by omega
      have hmem : e.args.getD k ex0 ∈ e.args := getD_mem hlt
      have hget := argsE_get e hlt
      have hsz := args_lt e hmem
      have hih := ih _ (Nat.lt_of_lt_of_le hsz hz) _ op (Nat.le_refl _) (he.arg _ hmem) (Nat.le_trans (subs_arg hmem) hs)
      have hst := hNs hlt
      have hl1 := hNl k
      have hl2 := wds_len op (e.args.getD k ex0)
      have hl3 := subs_arg hmem
      generalize wds op (e.args.getD k ex0) = Y at *
      generalize hga : e.args.getD k ex0 = a at *
      conv => whnf
      repeat (first | (refine And.intro ⟨by omega, by omega⟩ ?_; conv => whnf) | (refine And.intro (by omega) (And.intro rfl ?_); conv => whnf) | (refine And.intro rfl ?_; conv => whnf) | (refine And.intro (fun _ => ⟨by omega, by omega⟩) ?_; conv => whnf) | (refine And.intro (fun _ => by omega) (And.intro rfl ?_); conv => whnf) | (refine And.intro ⟨(by first | omega | (simp; omega)), (by first | omega | (simp; omega))⟩ ?_; conv => whnf) | (refine Exists.intro _ (And.intro rfl (And.intro (by first | omega | (simp; omega)) (And.intro ⟨rfl, rfl, rfl, rfl, rfl⟩ ?_))); conv => whnf) | (refine And.intro ⟨rfl, rfl⟩ (And.intro (by first | omega | (simp; omega)) ?_); conv => whnf) | (refine Exists.intro _ (And.intro rfl ?_); conv => whnf) | (refine And.intro (fun _ => ?_) (fun h => absurd h (by decide)); conv => whnf) | (refine And.intro (fun h => absurd h (by decide)) (fun _ => ?_); conv => whnf) | (refine .quiet (by kernel_rfl) ?_; conv => whnf))
      rw [hek, hget]
      conv => whnf
      repeat (first | (refine And.intro ⟨by omega, by omega⟩ ?_; conv => whnf) | (refine And.intro (by omega) (And.intro rfl ?_); conv => whnf) | (refine And.intro rfl ?_; conv => whnf) | (refine And.intro (fun _ => ⟨by omega, by omega⟩) ?_; conv => whnf) | (refine And.intro (fun _ => by omega) (And.intro rfl ?_); conv => whnf) | (refine And.intro ⟨(by first | omega | (simp; omega)), (by first | omega | (simp; omega))⟩ ?_; conv => whnf) | (refine Exists.intro _ (And.intro rfl (And.intro (by first | omega | (simp; omega)) (And.intro ⟨rfl, rfl, rfl, rfl, rfl⟩ ?_))); conv => whnf) | (refine And.intro ⟨rfl, rfl⟩ (And.intro (by first | omega | (simp; omega)) ?_); conv => whnf) | (refine Exists.intro _ (And.intro rfl ?_); conv => whnf) | (refine And.intro (fun _ => ?_) (fun h => absurd h (by decide)); conv => whnf) | (refine And.intro (fun h => absurd h (by decide)) (fun _ => ?_); conv => whnf) | (refine .quiet (by kernel_rfl) ?_; conv => whnf))
      refine .one _ _ _ (fun _ => hih) (by repeat (first | exact .nil | (apply BorL.cons; first | exact lS rfl | exact lR rfl | exact lM rfl rfl | exact lL rfl | exact lX rfl | exact lN | exact lNl | exact lSm rfl | exact lIm rfl | exact lP rfl | exact lQ rfl | exact lB rfl rfl rfl))) (by first | exact .inl rfl | exact .inr (by repeat (first | exact flats_nil | refine flats_cons (by first | exact flat_val _ rfl | exact flat_row (fun _ => rfl) | exact flat_lst (fun _ => rfl)) ?_))) (by first | exact .inr rfl | exact .inl rfl) ?_
      conv => whnf
      repeat (first | (refine And.intro ⟨by omega, by omega⟩ ?_; conv => whnf) | (refine And.intro (by omega) (And.intro rfl ?_); conv => whnf) | (refine And.intro rfl ?_; conv => whnf) | (refine And.intro (fun _ => ⟨by omega, by omega⟩) ?_; conv => whnf) | (refine And.intro (fun _ => by omega) (And.intro rfl ?_); conv => whnf) | (refine And.intro ⟨(by first | omega | (simp; omega)), (by first | omega | (simp; omega))⟩ ?_; conv => whnf) | (refine Exists.intro _ (And.intro rfl (And.intro (by first | omega | (simp; omega)) (And.intro ⟨rfl, rfl, rfl, rfl, rfl⟩ ?_))); conv => whnf) | (refine And.intro ⟨rfl, rfl⟩ (And.intro (by first | omega | (simp; omega)) ?_); conv => whnf) | (refine Exists.intro _ (And.intro rfl ?_); conv => whnf) | (refine And.intro (fun _ => ?_) (fun h => absurd h (by decide)); conv => whnf) | (refine And.intro (fun h => absurd h (by decide)) (fun _ => ?_); conv => whnf) | (refine .quiet (by kernel_rfl) ?_; conv => whnf))
      refine ⟨⟨rfl, rfl⟩, (show ((N k).length + Y.length) * 16 ≤ 140737488355328 by omega), ?_⟩
      conv => whnf
      refine ⟨Y, rfl, ?_⟩
      conv => whnf
      repeat (first | (refine And.intro ⟨by omega, by omega⟩ ?_; conv => whnf) | (refine And.intro (by omega) (And.intro rfl ?_); conv => whnf) | (refine And.intro rfl ?_; conv => whnf) | (refine And.intro (fun _ => ⟨by omega, by omega⟩) ?_; conv => whnf) | (refine And.intro (fun _ => by omega) (And.intro rfl ?_); conv => whnf) | (refine And.intro ⟨(by first | omega | (simp; omega)), (by first | omega | (simp; omega))⟩ ?_; conv => whnf) | (refine Exists.intro _ (And.intro rfl (And.intro (by first | omega | (simp; omega)) (And.intro ⟨rfl, rfl, rfl, rfl, rfl⟩ ?_))); conv => whnf) | (refine And.intro ⟨rfl, rfl⟩ (And.intro (by first | omega | (simp; omega)) ?_); conv => whnf) | (refine Exists.intro _ (And.intro rfl ?_); conv => whnf) | (refine And.intro (fun _ => ?_) (fun h => absurd h (by decide)); conv => whnf) | (refine And.intro (fun h => absurd h (by decide)) (fun _ => ?_); conv => whnf) | (refine .quiet (by kernel_rfl) ?_; conv => whnf))
      refine up hlt trivial ((wk_of [(0, .id 0), (1, .id 3)] rfl ⟨.base (.tree _ _ rfl rfl), .base (.ptr _ _ _ rfl), (by first | exact .base (.own _ _ rfl) | exact .base (.nilown _ rfl) | exact .base (.trunc _ _ _ rfl)), .base (.tree _ _ rfl rfl), trivial⟩ ⟨⟨_, rfl, .cells _ _ _ _ rfl (by repeat (first | exact .nil | refine .cons (by first | exact .base (.tree _ _ rfl rfl) | exact .base (.own _ _ rfl) | exact .base (.ptr _ _ _ rfl) | exact .base (.map _ _ rfl) | exact .base (.nilown _ rfl) | exact .fn _ _ _ _ _ .nil (by repeat (first | exact .nil | refine .cons (by exact .ptr _ _ _ rfl) ?_))) ?_)) rfl⟩, ⟨_, rfl, (by first | exact .row _ _ _ _ _ _ _ rfl (hst.symm) | exact .lstrow _ _ _ _ _ _ _ rfl (hst.symm) | exact .nilrow _ _ _ _ _ (hst.symm) | exact .truncrow _ _ _ _ _ _ _ _ rfl (by omega) (hst.symm))⟩, trivial⟩))
    · have hf := of_decide_eq_false hf
      obtain rfl : k = e.args.length := by omega
      rw [hNe]
      conv => whnf
      refine ⟨_, Wk.refl _, ?_⟩
      conv => whnf
      rfl
  · have ho := of_decide_eq_false ho
    rw [if_neg ho] at hN0
    conv => whnf
    repeat (first | (refine And.intro ⟨by omega, by omega⟩ ?_; conv => whnf) | (refine And.intro (by omega) (And.intro rfl ?_); conv => whnf) | (refine And.intro rfl ?_; conv => whnf) | (refine And.intro (fun _ => ⟨by omega, by omega⟩) ?_; conv => whnf) | (refine And.intro (fun _ => by omega) (And.intro rfl ?_); conv => whnf) | (refine And.intro ⟨(by first | omega | (simp; omega)), (by first | omega | (simp; omega))⟩ ?_; conv => whnf) | (refine Exists.intro _ (And.intro rfl (And.intro (by first | omega | (simp; omega)) (And.intro ⟨rfl, rfl, rfl, rfl, rfl⟩ ?_))); conv => whnf) | (refine And.intro ⟨rfl, rfl⟩ (And.intro (by first | omega | (simp; omega)) ?_); conv => whnf) | (refine Exists.intro _ (And.intro rfl ?_); conv => whnf) | (refine And.intro (fun _ => ?_) (fun h => absurd h (by decide)); conv => whnf) | (refine And.intro (fun h => absurd h (by decide)) (fun _ => ?_); conv => whnf) | (refine .quiet (by kernel_rfl) ?_; conv => whnf))
    refine loop_up (cxOk _ _) e.args.length (fun _ => True) (fun k => ⟨[(1, .int .i64 op), (2, .ptr 0 0), (5, .own 1), (6, .int .i64 (k : Nat))], [(0, .cells 40 [.int .i64 e.op, .int .i64 e.n, .int .i64 e.unit, .str e.s, .lsl 5 (argsE e)]), (1, .row 9 1 encS [] (N k))], 2⟩) trivial (by rw [hN0]; exact (wk_of [(0, .id 0), (1, .nil)] rfl ⟨.base (.tree _ _ rfl rfl), .base (.ptr _ _ _ rfl), (by first | exact .base (.own _ _ rfl) | exact .base (.nilown _ rfl) | exact .base (.trunc _ _ _ rfl)), .base (.tree _ _ rfl rfl), trivial⟩ ⟨⟨_, rfl, .cells _ _ _ _ rfl (by repeat (first | exact .nil | refine .cons (by first | exact .base (.tree _ _ rfl rfl) | exact .base (.own _ _ rfl) | exact .base (.ptr _ _ _ rfl) | exact .base (.map _ _ rfl) | exact .base (.nilown _ rfl) | exact .fn _ _ _ _ _ .nil (by repeat (first | exact .nil | refine .cons (by exact .ptr _ _ _ rfl) ?_))) ?_)) rfl⟩, ⟨_, rfl, (by first | exact .row _ _ _ _ _ _ _ rfl rfl | exact .lstrow _ _ _ _ _ _ _ rfl rfl | exact .nilrow _ _ _ _ _ rfl | exact .truncrow _ _ _ _ _ _ _ _ rfl (by omega) rfl)⟩, trivial⟩)) ?_
    intro k hk _
    have hek : (k : Int).toNat = k := Int.toNat_natCast k
    conv => whnf
    repeat (first | (refine And.intro ⟨by omega, by omega⟩ ?_; conv => whnf) | (refine And.intro (by omega) (And.intro rfl ?_); conv => whnf) | (refine And.intro rfl ?_; conv => whnf) | (refine And.intro (fun _ => ⟨by omega, by omega⟩) ?_; conv => whnf) | (refine And.intro (fun _ => by omega) (And.intro rfl ?_); conv => whnf) | (refine And.intro ⟨(by first | omega | (simp; omega)), (by first | omega | (simp; omega))⟩ ?_; conv => whnf) | (refine Exists.intro _ (And.intro rfl (And.intro (by first | omega | (simp; omega)) (And.intro ⟨rfl, rfl, rfl, rfl, rfl⟩ ?_))); conv => whnf) | (refine And.intro ⟨rfl, rfl⟩ (And.intro (by first | omega | (simp; omega)) ?_); conv => whnf) | (refine Exists.intro _ (And.intro rfl ?_); conv => whnf) | (refine And.intro (fun _ => ?_) (fun h => absurd h (by decide)); conv => whnf) | (refine And.intro (fun h => absurd h (by decide)) (fun _ => ?_); conv => whnf) | (refine .quiet (by kernel_rfl) ?_; conv => whnf))
    refine ⟨fun hf => ?_, fun hf => ?_⟩
    · have hf := of_decide_eq_true hf
      have hlt : k < e.args.length := by omega
      have hmem : e.args.getD k ex0 ∈ e.args := getD_mem hlt
      have hget := argsE_get e hlt
      have hsz := args_lt e hmem
      have hih := ih _ (Nat.lt_of_lt_of_le hsz hz) _ op (Nat.le_refl _) (he.arg _ hmem) (Nat.le_trans (subs_arg hmem) hs)
      have hst := hNs hlt
      have hl1 := hNl k
      have hl2 := wds_len op (e.args.getD k ex0)
      have hl3 := subs_arg hmem
      generalize wds op (e.args.getD k ex0) = Y at *
      generalize hga : e.args.getD k ex0 = a at *
      conv => whnf
      repeat (first | (refine And.intro ⟨by omega, by omega⟩ ?_; conv => whnf) | (refine And.intro (by omega) (And.intro rfl ?_); conv => whnf) | (refine And.intro rfl ?_; conv => whnf) | (refine And.intro (fun _ => ⟨by omega, by omega⟩) ?_; conv => whnf) | (refine And.intro (fun _ => by omega) (And.intro rfl ?_); conv => whnf) | (refine And.intro ⟨(by first | omega | (simp; omega)), (by first | omega | (simp; omega))⟩ ?_; conv => whnf) | (refine Exists.intro _ (And.intro rfl (And.intro (by first | omega | (simp; omega)) (And.intro ⟨rfl, rfl, rfl, rfl, rfl⟩ ?_))); conv => whnf) | (refine And.intro ⟨rfl, rfl⟩ (And.intro (by first | omega | (simp; omega)) ?_); conv => whnf) | (refine Exists.intro _ (And.intro rfl ?_); conv => whnf) | (refine And.intro (fun _ => ?_) (fun h => absurd h (by decide)); conv => whnf) | (refine And.intro (fun h => absurd h (by decide)) (fun _ => ?_); conv => whnf) | (refine .quiet (by kernel_rfl) ?_; conv => whnf))
      rw [hek, hget]
      conv => whnf
      repeat (first | (refine And.intro ⟨by omega, by omega⟩ ?_; conv => whnf) | (refine And.intro (by omega) (And.intro rfl ?_); conv => whnf) | (refine And.intro rfl ?_; conv => whnf) | (refine And.intro (fun _ => ⟨by omega, by omega⟩) ?_; conv => whnf) | (refine And.intro (fun _ => by omega) (And.intro rfl ?_); conv => whnf) | (refine And.intro ⟨(by first | omega | (simp; omega)), (by first | omega | (simp; omega))⟩ ?_; conv => whnf) | (refine Exists.intro _ (And.intro rfl (And.intro (by first | omega | (simp; omega)) (And.intro ⟨rfl, rfl, rfl, rfl, rfl⟩ ?_))); conv => whnf) | (refine And.intro ⟨rfl, rfl⟩ (And.intro (by first | omega | (simp; omega)) ?_); conv => whnf) | (refine Exists.intro _ (And.intro rfl ?_); conv => whnf) | (refine And.intro (fun _ => ?_) (fun h => absurd h (by decide)); conv => whnf) | (refine And.intro (fun h => absurd h (by decide)) (fun _ => ?_); conv => whnf) | (refine .quiet (by kernel_rfl) ?_; conv => whnf))
      refine .one _ _ _ (fun _ => hih) (by repeat (first | exact .nil | (apply BorL.cons; first | exact lS rfl | exact lR rfl | exact lM rfl rfl | exact lL rfl | exact lX rfl | exact lN | exact lNl | exact lSm rfl | exact lIm rfl | exact lP rfl | exact lQ rfl | exact lB rfl rfl rfl))) (by first | exact .inl rfl | exact .inr (by repeat (first | exact flats_nil | refine flats_cons (by first | exact flat_val _ rfl | exact flat_row (fun _ => rfl) | exact flat_lst (fun _ => rfl)) ?_))) (by first | exact .inr rfl | exact .inl rfl) ?_
      conv => whnf
      repeat (first | (refine And.intro ⟨by omega, by omega⟩ ?_; conv => whnf) | (refine And.intro (by omega) (And.intro rfl ?_); conv => whnf) | (refine And.intro rfl ?_; conv => whnf) | (refine And.intro (fun _ => ⟨by omega, by omega⟩) ?_; conv => whnf) | (refine And.intro (fun _ => by omega) (And.intro rfl ?_); conv => whnf) | (refine And.intro ⟨(by first | omega | (simp; omega)), (by first | omega | (simp; omega))⟩ ?_; conv => whnf) | (refine Exists.intro _ (And.intro rfl (And.intro (by first | omega | (simp; omega)) (And.intro ⟨rfl, rfl, rfl, rfl, rfl⟩ ?_))); conv => whnf) | (refine And.intro ⟨rfl, rfl⟩ (And.intro (by first | omega | (simp; omega)) ?_); conv => whnf) | (refine Exists.intro _ (And.intro rfl ?_); conv => whnf) | (refine And.intro (fun _ => ?_) (fun h => absurd h (by decide)); conv => whnf) | (refine And.intro (fun h => absurd h (by decide)) (fun _ => ?_); conv => whnf) | (refine .quiet (by kernel_rfl) ?_; conv => whnf))
      refine ⟨⟨rfl, rfl⟩, (show ((N k).length + Y.length) * 16 ≤ 140737488355328 by omega), ?_⟩
      conv => whnf
      refine ⟨Y, rfl, ?_⟩
      conv => whnf
      repeat (first | (refine And.intro ⟨by omega, by omega⟩ ?_; conv => whnf) | (refine And.intro (by omega) (And.intro rfl ?_); conv => whnf) | (refine And.intro rfl ?_; conv => whnf) | (refine And.intro (fun _ => ⟨by omega, by omega⟩) ?_; conv => whnf) | (refine And.intro (fun _ => by omega) (And.intro rfl ?_); conv => whnf) | (refine And.intro ⟨(by first | omega | (simp; omega)), (by first | omega | (simp; omega))⟩ ?_; conv => whnf) | (refine Exists.intro _ (And.intro rfl (And.intro (by first | omega | (simp; omega)) (And.intro ⟨rfl, rfl, rfl, rfl, rfl⟩ ?_))); conv => whnf) | (refine And.intro ⟨rfl, rfl⟩ (And.intro (by first | omega | (simp; omega)) ?_); conv => whnf) | (refine Exists.intro _ (And.intro rfl ?_); conv => whnf) | (refine And.intro (fun _ => ?_) (fun h => absurd h (by decide)); conv => whnf) | (refine And.intro (fun h => absurd h (by decide)) (fun _ => ?_); conv => whnf) | (refine .quiet (by kernel_rfl) ?_; conv => whnf))
      refine up hlt trivial ((wk_of [(0, .id 0), (1, .id 3)] rfl ⟨.base (.tree _ _ rfl rfl), .base (.ptr _ _ _ rfl), (by first | exact .base (.own _ _ rfl) | exact .base (.nilown _ rfl) | exact .base (.trunc _ _ _ rfl)), .base (.tree _ _ rfl rfl), trivial⟩ ⟨⟨_, rfl, .cells _ _ _ _ rfl (by repeat (first | exact .nil | refine .cons (by first | exact .base (.tree _ _ rfl rfl) | exact .base (.own _ _ rfl) | exact .base (.ptr _ _ _ rfl) | exact .base (.map _ _ rfl) | exact .base (.nilown _ rfl) | exact .fn _ _ _ _ _ .nil (by repeat (first | exact .nil | refine .cons (by exact .ptr _ _ _ rfl) ?_))) ?_)) rfl⟩, ⟨_, rfl, (by first | exact .row _ _ _ _ _ _ _ rfl (hst.symm) | exact .lstrow _ _ _ _ _ _ _ rfl (hst.symm) | exact .nilrow _ _ _ _ _ (hst.symm) | exact .truncrow _ _ _ _ _ _ _ _ rfl (by omega) (hst.symm))⟩, trivial⟩))
    · have hf := of_decide_eq_false hf
      obtain rfl : k = e.args.length := by omega
      rw [hNe]
      conv => whnf
      refine ⟨_, Wk.refl _, ?_⟩
      conv => whnf
      rfl

end Go.Proofs.Ytmcgfkkagijcmaa

namespace Go.Proofs.Ytmcgfkkagijcmaa
open Go.Own
set_option maxHeartbeats 4000000
set_option maxRecDepth 100000

def bodyD (x : Ind) (s : List UInt8) : Exp := (bodyOf x.lets s).getD ex0
theorem body_ok (x : Ind) (s : List UInt8) (hl : x.lets.length ≤ 1000000) : APure Try.prog 36 [encX x, .str s] (fun rs => rs = [.val (encE (bodyD x s)), .val (.bool (bodyOf x.lets s).isSome)]) := by
  cases hb : bodyOf x.lets s with
  | none =>
    have hd : bodyD x s = ex0 := by unfold bodyD; rw [hb]; rfl
    rw [hd]
    refine apure_2 (a := rawE 0 0 0 []) ?_ (rawE_le 0 0 0 [])
    refine apure_of (C := cx 29 [0, 1, 2, 4, 5, 6, 11, 21]) (cxOk _ _) Try.func36 rfl (by decide) rfl (by exact Nat.le_of_ble_eq_true rfl) (by decide) ?_
    conv => whnf
    repeat (first | (refine And.intro ⟨by omega, by omega⟩ ?_; conv => whnf) | (refine And.intro (by omega) (And.intro rfl ?_); conv => whnf) | (refine And.intro rfl ?_; conv => whnf) | (refine And.intro (fun _ => ⟨by omega, by omega⟩) ?_; conv => whnf) | (refine And.intro (fun _ => by omega) (And.intro rfl ?_); conv => whnf) | (refine And.intro ⟨(by first | omega | (simp; omega)), (by first | omega | (simp; omega))⟩ ?_; conv => whnf) | (refine Exists.intro _ (And.intro rfl (And.intro (by first | omega | (simp; omega)) (And.intro ⟨rfl, rfl, rfl, rfl, rfl⟩ ?_))); conv => whnf) | (refine And.intro ⟨rfl, rfl⟩ (And.intro (by first | omega | (simp; omega)) ?_); conv => whnf) | (refine Exists.intro _ (And.intro rfl ?_); conv => whnf) | (refine And.intro (fun _ => ?_) (fun h => absurd h (by decide)); conv => whnf) | (refine And.intro (fun h => absurd h (by decide)) (fun _ => ?_); conv => whnf) | (refine .quiet (by kernel_rfl) ?_; conv => whnf))
    refine loop_up (cxOk _ _) x.lets.length (fun _ => True) (fun k => ⟨[(1, .str s), (2, .ptr 0 0), (4, .ptr 1 0), (6, .int .i64 (k : Nat))], [(0, .cells 45 (celX x)), (1, .cells 40 [.int .i64 0, .int .i64 0, .int .i64 0, .str [], .nils])], 2⟩) trivial ((wk_of [(0, .id 0), (1, .id 1)] rfl ⟨.base (.tree _ _ rfl rfl), .base (.ptr _ _ _ rfl), .base (.ptr _ _ _ rfl), .base (.tree _ _ rfl rfl), trivial⟩ ⟨⟨_, rfl, .cells _ _ _ _ rfl (by repeat (first | exact .nil | refine .cons (by first | exact .base (.tree _ _ rfl rfl) | exact .base (.own _ _ rfl) | exact .base (.ptr _ _ _ rfl) | exact .base (.map _ _ rfl) | exact .base (.nilown _ rfl) | exact .fn _ _ _ _ _ .nil (by repeat (first | exact .nil | refine .cons (by exact .ptr _ _ _ rfl) ?_))) ?_)) rfl⟩, ⟨_, rfl, .cells _ _ _ _ rfl (by repeat (first | exact .nil | refine .cons (by first | exact .base (.tree _ _ rfl rfl) | exact .base (.own _ _ rfl) | exact .base (.ptr _ _ _ rfl) | exact .base (.map _ _ rfl) | exact .base (.nilown _ rfl) | exact .fn _ _ _ _ _ .nil (by repeat (first | exact .nil | refine .cons (by exact .ptr _ _ _ rfl) ?_))) ?_)) rfl⟩, trivial⟩)) ?_
    intro k hk _
    conv => whnf
    refine ⟨fun hc => ?_, fun hc => ?_⟩
    · have hc := of_decide_eq_true hc
      have hlt : k < x.lets.length := by omega
      have hek : (k : Int).toNat = k := Int.toNat_natCast k
      have hne : (x.lets.getD k l0).name ≠ s := fun e => by
        unfold bodyOf at hb
        cases hf : x.lets.find? (fun l => decide (l.name = s)) with
        | some l => rw [hf] at hb; cases hb
        | none =>
          have := List.find?_eq_none.1 hf _ (getD_mem (d := l0) hlt)
          exact this (decide_eq_true e)
      conv => whnf
      repeat (first | (refine And.intro ⟨by omega, by omega⟩ ?_; conv => whnf) | (refine And.intro (by omega) (And.intro rfl ?_); conv => whnf) | (refine And.intro rfl ?_; conv => whnf) | (refine And.intro (fun _ => ⟨by omega, by omega⟩) ?_; conv => whnf) | (refine And.intro (fun _ => by omega) (And.intro rfl ?_); conv => whnf) | (refine And.intro ⟨(by first | omega | (simp; omega)), (by first | omega | (simp; omega))⟩ ?_; conv => whnf) | (refine Exists.intro _ (And.intro rfl (And.intro (by first | omega | (simp; omega)) (And.intro ⟨rfl, rfl, rfl, rfl, rfl⟩ ?_))); conv => whnf) | (refine And.intro ⟨rfl, rfl⟩ (And.intro (by first | omega | (simp; omega)) ?_); conv => whnf) | (refine Exists.intro _ (And.intro rfl ?_); conv => whnf) | (refine And.intro (fun _ => ?_) (fun h => absurd h (by decide)); conv => whnf) | (refine And.intro (fun h => absurd h (by decide)) (fun _ => ?_); conv => whnf) | (refine .quiet (by kernel_rfl) ?_; conv => whnf))
      rw [hek]
      conv => whnf
      repeat (first | (refine And.intro ⟨by omega, by omega⟩ ?_; conv => whnf) | (refine And.intro (by omega) (And.intro rfl ?_); conv => whnf) | (refine And.intro rfl ?_; conv => whnf) | (refine And.intro (fun _ => ⟨by omega, by omega⟩) ?_; conv => whnf) | (refine And.intro (fun _ => by omega) (And.intro rfl ?_); conv => whnf) | (refine And.intro ⟨(by first | omega | (simp; omega)), (by first | omega | (simp; omega))⟩ ?_; conv => whnf) | (refine Exists.intro _ (And.intro rfl (And.intro (by first | omega | (simp; omega)) (And.intro ⟨rfl, rfl, rfl, rfl, rfl⟩ ?_))); conv => whnf) | (refine And.intro ⟨rfl, rfl⟩ (And.intro (by first | omega | (simp; omega)) ?_); conv => whnf) | (refine Exists.intro _ (And.intro rfl ?_); conv => whnf) | (refine And.intro (fun _ => ?_) (fun h => absurd h (by decide)); conv => whnf) | (refine And.intro (fun h => absurd h (by decide)) (fun _ => ?_); conv => whnf) | (refine .quiet (by kernel_rfl) ?_; conv => whnf))
      rw [decide_eq_false hne]
      refine ⟨fun h => (by cases h), fun _ => ?_⟩
      conv => whnf
      repeat (first | (refine And.intro ⟨by omega, by omega⟩ ?_; conv => whnf) | (refine And.intro (by omega) (And.intro rfl ?_); conv => whnf) | (refine And.intro rfl ?_; conv => whnf) | (refine And.intro (fun _ => ⟨by omega, by omega⟩) ?_; conv => whnf) | (refine And.intro (fun _ => by omega) (And.intro rfl ?_); conv => whnf) | (refine And.intro ⟨(by first | omega | (simp; omega)), (by first | omega | (simp; omega))⟩ ?_; conv => whnf) | (refine Exists.intro _ (And.intro rfl (And.intro (by first | omega | (simp; omega)) (And.intro ⟨rfl, rfl, rfl, rfl, rfl⟩ ?_))); conv => whnf) | (refine And.intro ⟨rfl, rfl⟩ (And.intro (by first | omega | (simp; omega)) ?_); conv => whnf) | (refine Exists.intro _ (And.intro rfl ?_); conv => whnf) | (refine And.intro (fun _ => ?_) (fun h => absurd h (by decide)); conv => whnf) | (refine And.intro (fun h => absurd h (by decide)) (fun _ => ?_); conv => whnf) | (refine .quiet (by kernel_rfl) ?_; conv => whnf))
      refine up hlt trivial ((wk_of [(0, .id 0), (1, .id 1)] rfl ⟨.base (.tree _ _ rfl rfl), .base (.ptr _ _ _ rfl), .base (.ptr _ _ _ rfl), .base (.tree _ _ rfl rfl), trivial⟩ ⟨⟨_, rfl, .cells _ _ _ _ rfl (by repeat (first | exact .nil | refine .cons (by first | exact .base (.tree _ _ rfl rfl) | exact .base (.own _ _ rfl) | exact .base (.ptr _ _ _ rfl) | exact .base (.map _ _ rfl) | exact .base (.nilown _ rfl) | exact .fn _ _ _ _ _ .nil (by repeat (first | exact .nil | refine .cons (by exact .ptr _ _ _ rfl) ?_))) ?_)) rfl⟩, ⟨_, rfl, .cells _ _ _ _ rfl (by repeat (first | exact .nil | refine .cons (by first | exact .base (.tree _ _ rfl rfl) | exact .base (.own _ _ rfl) | exact .base (.ptr _ _ _ rfl) | exact .base (.map _ _ rfl) | exact .base (.nilown _ rfl) | exact .fn _ _ _ _ _ .nil (by repeat (first | exact .nil | refine .cons (by exact .ptr _ _ _ rfl) ?_))) ?_)) rfl⟩, trivial⟩))
    · have hc := of_decide_eq_false hc
      obtain rfl : k = x.lets.length := by omega
      conv => whnf
      repeat (first | (refine And.intro ⟨by omega, by omega⟩ ?_; conv => whnf) | (refine And.intro (by omega) (And.intro rfl ?_); conv => whnf) | (refine And.intro rfl ?_; conv => whnf) | (refine And.intro (fun _ => ⟨by omega, by omega⟩) ?_; conv => whnf) | (refine And.intro (fun _ => by omega) (And.intro rfl ?_); conv => whnf) | (refine And.intro ⟨(by first | omega | (simp; omega)), (by first | omega | (simp; omega))⟩ ?_; conv => whnf) | (refine Exists.intro _ (And.intro rfl (And.intro (by first | omega | (simp; omega)) (And.intro ⟨rfl, rfl, rfl, rfl, rfl⟩ ?_))); conv => whnf) | (refine And.intro ⟨rfl, rfl⟩ (And.intro (by first | omega | (simp; omega)) ?_); conv => whnf) | (refine Exists.intro _ (And.intro rfl ?_); conv => whnf) | (refine And.intro (fun _ => ?_) (fun h => absurd h (by decide)); conv => whnf) | (refine And.intro (fun h => absurd h (by decide)) (fun _ => ?_); conv => whnf) | (refine .quiet (by kernel_rfl) ?_; conv => whnf))
      rfl
  | some b =>
    have hd : bodyD x s = b := by unfold bodyD; rw [hb]; rfl
    rw [hd]
    refine apure_of (C := cx 29 [0, 1, 2, 4, 5, 6, 11, 21]) (cxOk _ _) Try.func36 rfl (by decide) rfl (by exact Nat.le_of_ble_eq_true rfl) (by decide) ?_
    conv => whnf
    repeat (first | (refine And.intro ⟨by omega, by omega⟩ ?_; conv => whnf) | (refine And.intro (by omega) (And.intro rfl ?_); conv => whnf) | (refine And.intro rfl ?_; conv => whnf) | (refine And.intro (fun _ => ⟨by omega, by omega⟩) ?_; conv => whnf) | (refine And.intro (fun _ => by omega) (And.intro rfl ?_); conv => whnf) | (refine And.intro ⟨(by first | omega | (simp; omega)), (by first | omega | (simp; omega))⟩ ?_; conv => whnf) | (refine Exists.intro _ (And.intro rfl (And.intro (by first | omega | (simp; omega)) (And.intro ⟨rfl, rfl, rfl, rfl, rfl⟩ ?_))); conv => whnf) | (refine And.intro ⟨rfl, rfl⟩ (And.intro (by first | omega | (simp; omega)) ?_); conv => whnf) | (refine Exists.intro _ (And.intro rfl ?_); conv => whnf) | (refine And.intro (fun _ => ?_) (fun h => absurd h (by decide)); conv => whnf) | (refine And.intro (fun h => absurd h (by decide)) (fun _ => ?_); conv => whnf) | (refine .quiet (by kernel_rfl) ?_; conv => whnf))
    refine loop_up (cxOk _ _) x.lets.length (fun k => ∀ i, i < k → (x.lets.getD i l0).name ≠ s) (fun k => ⟨[(1, .str s), (2, .ptr 0 0), (4, .ptr 1 0), (6, .int .i64 (k : Nat))], [(0, .cells 45 (celX x)), (1, .cells 40 [.int .i64 0, .int .i64 0, .int .i64 0, .str [], .nils])], 2⟩) (by intro i hi; omega) ((wk_of [(0, .id 0), (1, .id 1)] rfl ⟨.base (.tree _ _ rfl rfl), .base (.ptr _ _ _ rfl), .base (.ptr _ _ _ rfl), .base (.tree _ _ rfl rfl), trivial⟩ ⟨⟨_, rfl, .cells _ _ _ _ rfl (by repeat (first | exact .nil | refine .cons (by first | exact .base (.tree _ _ rfl rfl) | exact .base (.own _ _ rfl) | exact .base (.ptr _ _ _ rfl) | exact .base (.map _ _ rfl) | exact .base (.nilown _ rfl) | exact .fn _ _ _ _ _ .nil (by repeat (first | exact .nil | refine .cons (by exact .ptr _ _ _ rfl) ?_))) ?_)) rfl⟩, ⟨_, rfl, .cells _ _ _ _ rfl (by repeat (first | exact .nil | refine .cons (by first | exact .base (.tree _ _ rfl rfl) | exact .base (.own _ _ rfl) | exact .base (.ptr _ _ _ rfl) | exact .base (.map _ _ rfl) | exact .base (.nilown _ rfl) | exact .fn _ _ _ _ _ .nil (by repeat (first | exact .nil | refine .cons (by exact .ptr _ _ _ rfl) ?_))) ?_)) rfl⟩, trivial⟩)) ?_
    intro k hk hP
    conv => whnf
    refine ⟨fun hc => ?_, fun hc => ?_⟩
    · have hc := of_decide_eq_true hc
      have hlt : k < x.lets.length := by omega
      have hek : (k : Int).toNat = k := Int.toNat_natCast k
      have hat := fun h => bodyOf_at hlt (s := s) h hP
      generalize hlk : x.lets.getD k l0 = y at *
      conv => whnf
      repeat (first | (refine And.intro ⟨by omega, by omega⟩ ?_; conv => whnf) | (refine And.intro (by omega) (And.intro rfl ?_); conv => whnf) | (refine And.intro rfl ?_; conv => whnf) | (refine And.intro (fun _ => ⟨by omega, by omega⟩) ?_; conv => whnf) | (refine And.intro (fun _ => by omega) (And.intro rfl ?_); conv => whnf) | (refine And.intro ⟨(by first | omega | (simp; omega)), (by first | omega | (simp; omega))⟩ ?_; conv => whnf) | (refine Exists.intro _ (And.intro rfl (And.intro (by first | omega | (simp; omega)) (And.intro ⟨rfl, rfl, rfl, rfl, rfl⟩ ?_))); conv => whnf) | (refine And.intro ⟨rfl, rfl⟩ (And.intro (by first | omega | (simp; omega)) ?_); conv => whnf) | (refine Exists.intro _ (And.intro rfl ?_); conv => whnf) | (refine And.intro (fun _ => ?_) (fun h => absurd h (by decide)); conv => whnf) | (refine And.intro (fun h => absurd h (by decide)) (fun _ => ?_); conv => whnf) | (refine .quiet (by kernel_rfl) ?_; conv => whnf))
      rw [hek, hlk]
      conv => whnf
      repeat (first | (refine And.intro ⟨by omega, by omega⟩ ?_; conv => whnf) | (refine And.intro (by omega) (And.intro rfl ?_); conv => whnf) | (refine And.intro rfl ?_; conv => whnf) | (refine And.intro (fun _ => ⟨by omega, by omega⟩) ?_; conv => whnf) | (refine And.intro (fun _ => by omega) (And.intro rfl ?_); conv => whnf) | (refine And.intro ⟨(by first | omega | (simp; omega)), (by first | omega | (simp; omega))⟩ ?_; conv => whnf) | (refine Exists.intro _ (And.intro rfl (And.intro (by first | omega | (simp; omega)) (And.intro ⟨rfl, rfl, rfl, rfl, rfl⟩ ?_))); conv => whnf) | (refine And.intro ⟨rfl, rfl⟩ (And.intro (by first | omega | (simp; omega)) ?_); conv => whnf) | (refine Exists.intro _ (And.intro rfl ?_); conv => whnf) | (refine And.intro (fun _ => ?_) (fun h => absurd h (by decide)); conv => whnf) | (refine And.intro (fun h => absurd h (by decide)) (fun _ => ?_); conv => whnf) | (refine .quiet (by kernel_rfl) ?_; conv => whnf))
      refine ⟨fun hn => ?_, fun hn => ?_⟩
      · have hn := of_decide_eq_true hn
        have := hat hn
        rw [hb] at this
        cases this
        conv => whnf
        repeat (first | (refine And.intro ⟨by omega, by omega⟩ ?_; conv => whnf) | (refine And.intro (by omega) (And.intro rfl ?_); conv => whnf) | (refine And.intro rfl ?_; conv => whnf) | (refine And.intro (fun _ => ⟨by omega, by omega⟩) ?_; conv => whnf) | (refine And.intro (fun _ => by omega) (And.intro rfl ?_); conv => whnf) | (refine And.intro ⟨(by first | omega | (simp; omega)), (by first | omega | (simp; omega))⟩ ?_; conv => whnf) | (refine Exists.intro _ (And.intro rfl (And.intro (by first | omega | (simp; omega)) (And.intro ⟨rfl, rfl, rfl, rfl, rfl⟩ ?_))); conv => whnf) | (refine And.intro ⟨rfl, rfl⟩ (And.intro (by first | omega | (simp; omega)) ?_); conv => whnf) | (refine Exists.intro _ (And.intro rfl ?_); conv => whnf) | (refine And.intro (fun _ => ?_) (fun h => absurd h (by decide)); conv => whnf) | (refine And.intro (fun h => absurd h (by decide)) (fun _ => ?_); conv => whnf) | (refine .quiet (by kernel_rfl) ?_; conv => whnf))
        rw [hek, hlk]
        conv => whnf
        repeat (first | (refine And.intro ⟨by omega, by omega⟩ ?_; conv => whnf) | (refine And.intro (by omega) (And.intro rfl ?_); conv => whnf) | (refine And.intro rfl ?_; conv => whnf) | (refine And.intro (fun _ => ⟨by omega, by omega⟩) ?_; conv => whnf) | (refine And.intro (fun _ => by omega) (And.intro rfl ?_); conv => whnf) | (refine And.intro ⟨(by first | omega | (simp; omega)), (by first | omega | (simp; omega))⟩ ?_; conv => whnf) | (refine Exists.intro _ (And.intro rfl (And.intro (by first | omega | (simp; omega)) (And.intro ⟨rfl, rfl, rfl, rfl, rfl⟩ ?_))); conv => whnf) | (refine And.intro ⟨rfl, rfl⟩ (And.intro (by first | omega | (simp; omega)) ?_); conv => whnf) | (refine Exists.intro _ (And.intro rfl ?_); conv => whnf) | (refine And.intro (fun _ => ?_) (fun h => absurd h (by decide)); conv => whnf) | (refine And.intro (fun h => absurd h (by decide)) (fun _ => ?_); conv => whnf) | (refine .quiet (by kernel_rfl) ?_; conv => whnf))
        rfl
      · have hn := of_decide_eq_false hn
        conv => whnf
        repeat (first | (refine And.intro ⟨by omega, by omega⟩ ?_; conv => whnf) | (refine And.intro (by omega) (And.intro rfl ?_); conv => whnf) | (refine And.intro rfl ?_; conv => whnf) | (refine And.intro (fun _ => ⟨by omega, by omega⟩) ?_; conv => whnf) | (refine And.intro (fun _ => by omega) (And.intro rfl ?_); conv => whnf) | (refine And.intro ⟨(by first | omega | (simp; omega)), (by first | omega | (simp; omega))⟩ ?_; conv => whnf) | (refine Exists.intro _ (And.intro rfl (And.intro (by first | omega | (simp; omega)) (And.intro ⟨rfl, rfl, rfl, rfl, rfl⟩ ?_))); conv => whnf) | (refine And.intro ⟨rfl, rfl⟩ (And.intro (by first | omega | (simp; omega)) ?_); conv => whnf) | (refine Exists.intro _ (And.intro rfl ?_); conv => whnf) | (refine And.intro (fun _ => ?_) (fun h => absurd h (by decide)); conv => whnf) | (refine And.intro (fun h => absurd h (by decide)) (fun _ => ?_); conv => whnf) | (refine .quiet (by kernel_rfl) ?_; conv => whnf))
        refine up hlt (fun i hi => ?_) ((wk_of [(0, .id 0), (1, .id 1)] rfl ⟨.base (.tree _ _ rfl rfl), .base (.ptr _ _ _ rfl), .base (.ptr _ _ _ rfl), .base (.tree _ _ rfl rfl), trivial⟩ ⟨⟨_, rfl, .cells _ _ _ _ rfl (by repeat (first | exact .nil | refine .cons (by first | exact .base (.tree _ _ rfl rfl) | exact .base (.own _ _ rfl) | exact .base (.ptr _ _ _ rfl) | exact .base (.map _ _ rfl) | exact .base (.nilown _ rfl) | exact .fn _ _ _ _ _ .nil (by repeat (first | exact .nil | refine .cons (by exact .ptr _ _ _ rfl) ?_))) ?_)) rfl⟩, ⟨_, rfl, .cells _ _ _ _ rfl (by repeat (first | exact .nil | refine .cons (by first | exact .base (.tree _ _ rfl rfl) | exact .base (.own _ _ rfl) | exact .base (.ptr _ _ _ rfl) | exact .base (.map _ _ rfl) | exact .base (.nilown _ rfl) | exact .fn _ _ _ _ _ .nil (by repeat (first | exact .nil | refine .cons (by exact .ptr _ _ _ rfl) ?_))) ?_)) rfl⟩, trivial⟩))
        by_cases e : i = k
        · subst e; rw [hlk]; exact hn
        · exact hP i (by omega)
    · have hc := of_decide_eq_false hc
      obtain rfl : k = x.lets.length := by omega
      rw [bodyOf_none hP] at hb
      cases hb

/-! ### What an indenture quotes, by the reference -/
/-- The walk of the reference, so far. -/
structure Qs (x : Ind) (i : Nat) (Q O : List (List UInt8)) : Prop where
  sq : ∀ s ∈ Q, ∃ y, Reach x.lets x.coupon y ∧ y.op = 1 ∧ y.s = s
  so : ∀ s ∈ O, Qt x s
  cq : ∀ s ∈ wds 1 x.coupon, s ∈ Q
  co : ∀ s ∈ wds 3 x.coupon, s ∈ O
  bq : ∀ s ∈ Q.take i, ∀ b, bodyOf x.lets s = some b → (∀ t ∈ wds 1 b, t ∈ Q) ∧ ∀ t ∈ wds 3 b, t ∈ O
theorem reach_trans {lets : List LetE} {a b c : Exp} (h : Reach lets a b) (k : Reach lets b c) : Reach lets a c := by
  induction h with
  | refl => exact k
  | arg ha _ ih => exact .arg ha (ih k)
  | body h1 hb _ ih => exact .body h1 hb (ih k)
theorem Qs.start (x : Ind) : Qs x 0 (wds 1 x.coupon) (wds 3 x.coupon) := by
  refine ⟨fun s hs => ?_, fun s hs => ?_, fun _ h => h, fun _ h => h, fun s hs => by simp at hs⟩
  · obtain ⟨y, hy, h1, h2⟩ := wds_mem.1 hs
    exact ⟨y, hy.reach, h1, h2⟩
  · obtain ⟨y, hy, h1, h2⟩ := wds_mem.1 hs
    exact ⟨y, hy.reach, h1, h2⟩
theorem Qs.skip {x : Ind} {i : Nat} {Q O : List (List UInt8)} (h : Qs x i Q O) (hi : i < Q.length) (hs : bodyOf x.lets (Q.getD i []) = none ∨ Q.getD i [] ∈ Q.take i) : Qs x (i + 1) Q O := by
  refine ⟨h.sq, h.so, h.cq, h.co, fun s hs' b hb => ?_⟩
  rw [take_getD (d := []) hi] at hs'
  rcases List.mem_append.1 hs' with h1 | h1
  · exact h.bq s h1 b hb
  · rw [List.mem_singleton] at h1
    subst h1
    rcases hs with h2 | h2
    · rw [h2] at hb; cases hb
    · exact h.bq _ h2 b hb
theorem Qs.take {x : Ind} {i : Nat} {Q O : List (List UInt8)} (h : Qs x i Q O) (hi : i < Q.length) {b : Exp} (hb : bodyOf x.lets (Q.getD i []) = some b) : Qs x (i + 1) (Q ++ wds 1 b) (O ++ wds 3 b) := by
  obtain ⟨y, hy, h1, h2⟩ := h.sq _ (getD_mem (d := []) hi)
  have hyb : Reach x.lets x.coupon b := reach_trans hy (.body h1 (by rw [h2]; exact hb) (.refl b))
  have htk : (Q ++ wds 1 b).take (i + 1) = Q.take i ++ [Q.getD i []] := by
    rw [List.take_append_of_le_length (by omega), take_getD (d := []) hi]
  refine ⟨fun s hs => ?_, fun s hs => ?_, fun s hs => List.mem_append_left _ (h.cq s hs), fun s hs => List.mem_append_left _ (h.co s hs), fun s hs c hc => ?_⟩
  · rcases List.mem_append.1 hs with h3 | h3
    · exact h.sq s h3
    · obtain ⟨z, hz, h4, h5⟩ := wds_mem.1 h3
      exact ⟨z, reach_trans hyb hz.reach, h4, h5⟩
  · rcases List.mem_append.1 hs with h3 | h3
    · exact h.so s h3
    · obtain ⟨z, hz, h4, h5⟩ := wds_mem.1 h3
      exact ⟨z, reach_trans hyb hz.reach, h4, h5⟩
  · rw [htk] at hs
    rcases List.mem_append.1 hs with h3 | h3
    · obtain ⟨h4, h5⟩ := h.bq s h3 c hc
      exact ⟨fun t ht => List.mem_append_left _ (h4 t ht), fun t ht => List.mem_append_left _ (h5 t ht)⟩
    · rw [List.mem_singleton] at h3
      subst h3
      rw [hb] at hc
      cases hc
      exact ⟨fun t ht => List.mem_append_right _ ht, fun t ht => List.mem_append_right _ ht⟩
theorem Qs.fin {x : Ind} {Q O : List (List UInt8)} (h : Qs x Q.length Q O) (s : List UInt8) : s ∈ O ↔ Qt x s := by
  refine ⟨h.so s, ?_⟩
  rintro ⟨y, hy, h3, rfl⟩
  have hbq := h.bq
  rw [List.take_length] at hbq
  have key : ∀ {a y : Exp}, Reach x.lets a y → (∀ z, Sub a z → (z.op = 1 → z.s ∈ Q) ∧ (z.op = 3 → z.s ∈ O)) → (y.op = 1 → y.s ∈ Q) ∧ (y.op = 3 → y.s ∈ O) := by
    intro a y hr
    induction hr with
    | refl e => exact fun ha => ha e (.refl e)
    | arg hm _ ih => exact fun ha => ih fun z hz => ha z (.arg hm hz)
    | body h1 hb _ ih =>
      rename_i e b _ _
      intro ha
      obtain ⟨h4, h5⟩ := hbq e.s ((ha e (.refl e)).1 h1) b hb
      exact ih fun z hz => ⟨fun hz1 => h4 _ (wds_mem.2 ⟨z, hz, hz1, rfl⟩), fun hz3 => h5 _ (wds_mem.2 ⟨z, hz, hz3, rfl⟩)⟩
  exact (key hy fun z hz => ⟨fun hz1 => h.cq _ (wds_mem.2 ⟨z, hz, hz1, rfl⟩), fun hz3 => h.co _ (wds_mem.2 ⟨z, hz, hz3, rfl⟩)⟩).2 h3

theorem body_len {x : Ind} {s : List UInt8} {b : Exp} (h : bodyOf x.lets s = some b) : (subs b).length ≤ (allX x).length := by
  obtain ⟨l, hl, _, rfl⟩ := bodyOf_mem h
  unfold allX
  rw [List.length_append]
  obtain ⟨l1, l2, e⟩ := List.append_of_mem hl
  rw [e, List.flatMap_append, List.flatMap_cons, List.length_append, List.length_append]
  omega
theorem coupon_len (x : Ind) : (subs x.coupon).length ≤ (allX x).length := by
  unfold allX
  rw [List.length_append]
  omega
theorem quotes_ok (x : Ind) (hx : OkX x) : APure Try.prog 24 [encX x] (fun rs => ∃ q : List (List UInt8), (∀ s, s ∈ q ↔ Qt x s) ∧ q.length ≤ 1000001000000 ∧ rs = [.new (.row 9 1 encS [] q)]) := by
  have hall := hx.all
  have hlets := hx.lets
  have hcl := coupon_len x
  have hw3 := words_ok _ x.coupon 3 (Nat.le_refl _) hx.coupon (by omega)
  have hw1 := words_ok _ x.coupon 1 (Nat.le_refl _) hx.coupon (by omega)
  have hl3 := wds_len 3 x.coupon
  have hl1 := wds_len 1 x.coupon
  have hun0 : unseen x.lets [] ≤ x.lets.length := by unfold unseen; exact List.length_filter_le _ _
  have hst := Qs.start x
  generalize hW3 : wds 3 x.coupon = W3 at *
  generalize hW1 : wds 1 x.coupon = W1 at *
  refine apure_of (C := cx 50 [0, 1, 2, 3, 4, 5, 6, 7, 17, 40]) (cxOk _ _) Try.func24 rfl (by decide) rfl (by exact Nat.le_of_ble_eq_true rfl) (by decide) ?_
  conv => whnf
  repeat (first | (refine And.intro ⟨by omega, by omega⟩ ?_; conv => whnf) | (refine And.intro (by omega) (And.intro rfl ?_); conv => whnf) | (refine And.intro rfl ?_; conv => whnf) | (refine And.intro (fun _ => ⟨by omega, by omega⟩) ?_; conv => whnf) | (refine And.intro (fun _ => by omega) (And.intro rfl ?_); conv => whnf) | (refine And.intro ⟨(by first | omega | (simp; omega)), (by first | omega | (simp; omega))⟩ ?_; conv => whnf) | (refine Exists.intro _ (And.intro rfl (And.intro (by first | omega | (simp; omega)) (And.intro ⟨rfl, rfl, rfl, rfl, rfl⟩ ?_))); conv => whnf) | (refine And.intro ⟨rfl, rfl⟩ (And.intro (by first | omega | (simp; omega)) ?_); conv => whnf) | (refine Exists.intro _ (And.intro rfl ?_); conv => whnf) | (refine And.intro (fun _ => ?_) (fun h => absurd h (by decide)); conv => whnf) | (refine And.intro (fun h => absurd h (by decide)) (fun _ => ?_); conv => whnf) | (refine .quiet (by kernel_rfl) ?_; conv => whnf))
  refine .one _ _ _ (fun _ => hw3) (by repeat (first | exact .nil | (apply BorL.cons; first | exact lS rfl | exact lR rfl | exact lM rfl rfl | exact lL rfl | exact lX rfl | exact lN | exact lNl | exact lSm rfl | exact lIm rfl | exact lP rfl | exact lQ rfl | exact lB rfl rfl rfl))) (by first | exact .inl rfl | exact .inr (by repeat (first | exact flats_nil | refine flats_cons (by first | exact flat_val _ rfl | exact flat_row (fun _ => rfl) | exact flat_lst (fun _ => rfl)) ?_))) (by first | exact .inr rfl | exact .inl rfl) ?_
  conv => whnf
  repeat (first | (refine And.intro ⟨by omega, by omega⟩ ?_; conv => whnf) | (refine And.intro (by omega) (And.intro rfl ?_); conv => whnf) | (refine And.intro rfl ?_; conv => whnf) | (refine And.intro (fun _ => ⟨by omega, by omega⟩) ?_; conv => whnf) | (refine And.intro (fun _ => by omega) (And.intro rfl ?_); conv => whnf) | (refine And.intro ⟨(by first | omega | (simp; omega)), (by first | omega | (simp; omega))⟩ ?_; conv => whnf) | (refine Exists.intro _ (And.intro rfl (And.intro (by first | omega | (simp; omega)) (And.intro ⟨rfl, rfl, rfl, rfl, rfl⟩ ?_))); conv => whnf) | (refine And.intro ⟨rfl, rfl⟩ (And.intro (by first | omega | (simp; omega)) ?_); conv => whnf) | (refine Exists.intro _ (And.intro rfl ?_); conv => whnf) | (refine And.intro (fun _ => ?_) (fun h => absurd h (by decide)); conv => whnf) | (refine And.intro (fun h => absurd h (by decide)) (fun _ => ?_); conv => whnf) | (refine .quiet (by kernel_rfl) ?_; conv => whnf))
  refine .one _ _ _ (fun _ => hw1) (by repeat (first | exact .nil | (apply BorL.cons; first | exact lS rfl | exact lR rfl | exact lM rfl rfl | exact lL rfl | exact lX rfl | exact lN | exact lNl | exact lSm rfl | exact lIm rfl | exact lP rfl | exact lQ rfl | exact lB rfl rfl rfl))) (by first | exact .inl rfl | exact .inr (by repeat (first | exact flats_nil | refine flats_cons (by first | exact flat_val _ rfl | exact flat_row (fun _ => rfl) | exact flat_lst (fun _ => rfl)) ?_))) (by first | exact .inr rfl | exact .inl rfl) ?_
  conv => whnf
  repeat (first | (refine And.intro ⟨by omega, by omega⟩ ?_; conv => whnf) | (refine And.intro (by omega) (And.intro rfl ?_); conv => whnf) | (refine And.intro rfl ?_; conv => whnf) | (refine And.intro (fun _ => ⟨by omega, by omega⟩) ?_; conv => whnf) | (refine And.intro (fun _ => by omega) (And.intro rfl ?_); conv => whnf) | (refine And.intro ⟨(by first | omega | (simp; omega)), (by first | omega | (simp; omega))⟩ ?_; conv => whnf) | (refine Exists.intro _ (And.intro rfl (And.intro (by first | omega | (simp; omega)) (And.intro ⟨rfl, rfl, rfl, rfl, rfl⟩ ?_))); conv => whnf) | (refine And.intro ⟨rfl, rfl⟩ (And.intro (by first | omega | (simp; omega)) ?_); conv => whnf) | (refine Exists.intro _ (And.intro rfl ?_); conv => whnf) | (refine And.intro (fun _ => ?_) (fun h => absurd h (by decide)); conv => whnf) | (refine And.intro (fun h => absurd h (by decide)) (fun _ => ?_); conv => whnf) | (refine .quiet (by kernel_rfl) ?_; conv => whnf))
  refine loop_inv (cxOk _ _) (σ := Nat × List (List UInt8) × List (List UInt8)) (fun s => Qs x s.1 s.2.1 s.2.2 ∧ s.1 ≤ s.2.1.length ∧ s.2.1.length + 1000000 * unseen x.lets (s.2.1.take s.1) ≤ 1000000 * (x.lets.length + 1) ∧ s.2.2.length + 1000000 * unseen x.lets (s.2.1.take s.1) ≤ 1000000 * (x.lets.length + 1)) (fun s => 1000001 * unseen x.lets (s.2.1.take s.1) + (s.2.1.length - s.1)) (fun s => ⟨[(1, .ptr 0 0), (3, .own 1), (4, .own 2), (5, .int .i64 ((s.1) : Nat))], [(0, .cells 45 (celX x)), (1, .row 9 1 encS [] (s.2.2)), (2, .row 9 1 encS [] (s.2.1))], 3⟩) (0, W1, W3) ⟨hst, Nat.zero_le _, by rw [List.take_zero]; show W1.length + _ ≤ _; omega, by rw [List.take_zero]; show W3.length + _ ≤ _; omega⟩ ((wk_of [(0, .id 0), (1, .id 1), (2, .id 2)] rfl ⟨.base (.ptr _ _ _ rfl), (by first | exact .base (.own _ _ rfl) | exact .base (.nilown _ rfl) | exact .base (.trunc _ _ _ rfl)), (by first | exact .base (.own _ _ rfl) | exact .base (.nilown _ rfl) | exact .base (.trunc _ _ _ rfl)), .base (.tree _ _ rfl rfl), trivial⟩ ⟨⟨_, rfl, .cells _ _ _ _ rfl (by repeat (first | exact .nil | refine .cons (by first | exact .base (.tree _ _ rfl rfl) | exact .base (.own _ _ rfl) | exact .base (.ptr _ _ _ rfl) | exact .base (.map _ _ rfl) | exact .base (.nilown _ rfl) | exact .fn _ _ _ _ _ .nil (by repeat (first | exact .nil | refine .cons (by exact .ptr _ _ _ rfl) ?_))) ?_)) rfl⟩, ⟨_, rfl, (by first | exact .row _ _ _ _ _ _ _ rfl rfl | exact .lstrow _ _ _ _ _ _ _ rfl rfl | exact .nilrow _ _ _ _ _ rfl | exact .truncrow _ _ _ _ _ _ _ _ rfl (by omega) rfl)⟩, ⟨_, rfl, (by first | exact .row _ _ _ _ _ _ _ rfl rfl | exact .lstrow _ _ _ _ _ _ _ rfl rfl | exact .nilrow _ _ _ _ _ rfl | exact .truncrow _ _ _ _ _ _ _ _ rfl (by omega) rfl)⟩, trivial⟩)) ?_
  rintro ⟨i, Q, O⟩ ⟨hQ, hi, hb1, hb2⟩
  show evCode _ _ (⟨[(1, .ptr 0 0), (3, .own 1), (4, .own 2), (5, .int .i64 (i : Nat))], [(0, .cells 45 (celX x)), (1, .row 9 1 encS [] O), (2, .row 9 1 encS [] Q)], 3⟩) _
  simp only at hQ hi hb1 hb2
  have hei : (i : Int).toNat = i := Int.toNat_natCast i
  conv => whnf
  refine ⟨fun hc => ?_, fun hc => ?_⟩
  · have hc := of_decide_eq_true hc
    have hlt : i < Q.length := by omega
    have hbo := body_ok x (Q.getD i []) hlets
    have hskip := hQ.skip hlt
    have htake := fun b hb => hQ.take hlt (b := b) hb
    have hleI : unseen x.lets (Q.take (i + 1)) ≤ unseen x.lets (Q.take i) := unseen_le fun s hs => by rw [take_getD (d := []) hlt]; exact List.mem_append_left _ hs
    have hltI : ∀ b, bodyOf x.lets (Q.getD i []) = some b → Q.getD i [] ∉ Q.take i → unseen x.lets (Q.take (i + 1)) < unseen x.lets (Q.take i) := fun b hb hn => by
      have := unseen_lt hn hb
      unfold addS at this
      rw [if_neg hn, ← take_getD (d := []) hlt] at this
      exact this
    have hhas := has_ok (Q.take i) (Q.getD i []) (by rw [List.length_take]; omega)
    have hbd : bodyD x (Q.getD i []) = (bodyOf x.lets (Q.getD i [])).getD ex0 := rfl
    have hbl := fun b => @body_len x (Q.getD i []) b
    have hbk := fun b (hb : bodyOf x.lets (Q.getD i []) = some b) => (show OkE b by obtain ⟨l, hl, _, rfl⟩ := bodyOf_mem hb; exact hx.body l hl)
    generalize hs : Q.getD i [] = s at *
    conv => whnf
    refine .eff (cxOk _ _) ?_
    conv => whnf
    repeat (first | (refine And.intro ⟨by omega, by omega⟩ ?_; conv => whnf) | (refine And.intro (by omega) (And.intro rfl ?_); conv => whnf) | (refine And.intro rfl ?_; conv => whnf) | (refine And.intro (fun _ => ⟨by omega, by omega⟩) ?_; conv => whnf) | (refine And.intro (fun _ => by omega) (And.intro rfl ?_); conv => whnf) | (refine And.intro ⟨(by first | omega | (simp; omega)), (by first | omega | (simp; omega))⟩ ?_; conv => whnf) | (refine Exists.intro _ (And.intro rfl (And.intro (by first | omega | (simp; omega)) (And.intro ⟨rfl, rfl, rfl, rfl, rfl⟩ ?_))); conv => whnf) | (refine And.intro ⟨rfl, rfl⟩ (And.intro (by first | omega | (simp; omega)) ?_); conv => whnf) | (refine Exists.intro _ (And.intro rfl ?_); conv => whnf) | (refine And.intro (fun _ => ?_) (fun h => absurd h (by decide)); conv => whnf) | (refine And.intro (fun h => absurd h (by decide)) (fun _ => ?_); conv => whnf))
    rw [hei, hs]
    refine .one _ _ _ (fun _ => hbo) (by repeat (first | exact .nil | (apply BorL.cons; first | exact lS rfl | exact lR rfl | exact lM rfl rfl | exact lL rfl | exact lX rfl | exact lN | exact lNl | exact lSm rfl | exact lIm rfl | exact lP rfl | exact lQ rfl | exact lB rfl rfl rfl))) (by first | exact .inl rfl | exact .inr (by repeat (first | exact flats_nil | refine flats_cons (by first | exact flat_val _ rfl | exact flat_row (fun _ => rfl) | exact flat_lst (fun _ => rfl)) ?_))) (by first | exact .inr rfl | exact .inl rfl) ?_
    conv => whnf
    repeat (first | (refine And.intro ⟨by omega, by omega⟩ ?_; conv => whnf) | (refine And.intro (by omega) (And.intro rfl ?_); conv => whnf) | (refine And.intro rfl ?_; conv => whnf) | (refine And.intro (fun _ => ⟨by omega, by omega⟩) ?_; conv => whnf) | (refine And.intro (fun _ => by omega) (And.intro rfl ?_); conv => whnf) | (refine And.intro ⟨(by first | omega | (simp; omega)), (by first | omega | (simp; omega))⟩ ?_; conv => whnf) | (refine Exists.intro _ (And.intro rfl (And.intro (by first | omega | (simp; omega)) (And.intro ⟨rfl, rfl, rfl, rfl, rfl⟩ ?_))); conv => whnf) | (refine And.intro ⟨rfl, rfl⟩ (And.intro (by first | omega | (simp; omega)) ?_); conv => whnf) | (refine Exists.intro _ (And.intro rfl ?_); conv => whnf) | (refine And.intro (fun _ => ?_) (fun h => absurd h (by decide)); conv => whnf) | (refine And.intro (fun h => absurd h (by decide)) (fun _ => ?_); conv => whnf))
    cases hb : bodyOf x.lets s with
    | none =>
      refine .quiet (by kernel_rfl) ?_
      conv => whnf
      repeat (first | (refine And.intro ⟨by omega, by omega⟩ ?_; conv => whnf) | (refine And.intro (by omega) (And.intro rfl ?_); conv => whnf) | (refine And.intro rfl ?_; conv => whnf) | (refine And.intro (fun _ => ⟨by omega, by omega⟩) ?_; conv => whnf) | (refine And.intro (fun _ => by omega) (And.intro rfl ?_); conv => whnf) | (refine And.intro ⟨(by first | omega | (simp; omega)), (by first | omega | (simp; omega))⟩ ?_; conv => whnf) | (refine Exists.intro _ (And.intro rfl (And.intro (by first | omega | (simp; omega)) (And.intro ⟨rfl, rfl, rfl, rfl, rfl⟩ ?_))); conv => whnf) | (refine And.intro ⟨rfl, rfl⟩ (And.intro (by first | omega | (simp; omega)) ?_); conv => whnf) | (refine Exists.intro _ (And.intro rfl ?_); conv => whnf) | (refine And.intro (fun _ => ?_) (fun h => absurd h (by decide)); conv => whnf) | (refine And.intro (fun h => absurd h (by decide)) (fun _ => ?_); conv => whnf))
      rw [hei, hs]
      refine .mk _ _ _ _ (fun _ => hhas) (by repeat (first | exact .nil | (apply BorL.cons; first | exact lS rfl | exact lR rfl | exact lM rfl rfl | exact lL rfl | exact lX rfl | exact lN | exact lNl | exact lSm rfl | exact lIm rfl | exact lP rfl | exact lQ rfl | exact lB rfl rfl rfl))) rfl ?_
      conv => whnf
      repeat (first | (refine And.intro ⟨by omega, by omega⟩ ?_; conv => whnf) | (refine And.intro (by omega) (And.intro rfl ?_); conv => whnf) | (refine And.intro rfl ?_; conv => whnf) | (refine And.intro (fun _ => ⟨by omega, by omega⟩) ?_; conv => whnf) | (refine And.intro (fun _ => by omega) (And.intro rfl ?_); conv => whnf) | (refine And.intro ⟨(by first | omega | (simp; omega)), (by first | omega | (simp; omega))⟩ ?_; conv => whnf) | (refine Exists.intro _ (And.intro rfl (And.intro (by first | omega | (simp; omega)) (And.intro ⟨rfl, rfl, rfl, rfl, rfl⟩ ?_))); conv => whnf) | (refine And.intro ⟨rfl, rfl⟩ (And.intro (by first | omega | (simp; omega)) ?_); conv => whnf) | (refine Exists.intro _ (And.intro rfl ?_); conv => whnf) | (refine And.intro (fun _ => ?_) (fun h => absurd h (by decide)); conv => whnf) | (refine And.intro (fun h => absurd h (by decide)) (fun _ => ?_); conv => whnf))
      refine ⟨fun _ => ?_, fun h => (by cases h)⟩
      conv => whnf
      repeat (first | (refine And.intro ⟨by omega, by omega⟩ ?_; conv => whnf) | (refine And.intro (by omega) (And.intro rfl ?_); conv => whnf) | (refine And.intro rfl ?_; conv => whnf) | (refine And.intro (fun _ => ⟨by omega, by omega⟩) ?_; conv => whnf) | (refine And.intro (fun _ => by omega) (And.intro rfl ?_); conv => whnf) | (refine And.intro ⟨(by first | omega | (simp; omega)), (by first | omega | (simp; omega))⟩ ?_; conv => whnf) | (refine Exists.intro _ (And.intro rfl (And.intro (by first | omega | (simp; omega)) (And.intro ⟨rfl, rfl, rfl, rfl, rfl⟩ ?_))); conv => whnf) | (refine And.intro ⟨rfl, rfl⟩ (And.intro (by first | omega | (simp; omega)) ?_); conv => whnf) | (refine Exists.intro _ (And.intro rfl ?_); conv => whnf) | (refine And.intro (fun _ => ?_) (fun h => absurd h (by decide)); conv => whnf) | (refine And.intro (fun h => absurd h (by decide)) (fun _ => ?_); conv => whnf))
      refine ⟨(i + 1, Q, O), ⟨hskip (.inl hb), hlt, by show Q.length + 1000000 * unseen x.lets (Q.take (i + 1)) ≤ _; omega, by show O.length + 1000000 * unseen x.lets (Q.take (i + 1)) ≤ _; omega⟩, by show 1000001 * unseen x.lets (Q.take (i + 1)) + (Q.length - (i + 1)) < 1000001 * unseen x.lets (Q.take i) + (Q.length - i); omega, (wk_of [(0, .id 0), (1, .id 1), (2, .id 2)] rfl ⟨.base (.ptr _ _ _ rfl), (by first | exact .base (.own _ _ rfl) | exact .base (.nilown _ rfl) | exact .base (.trunc _ _ _ rfl)), (by first | exact .base (.own _ _ rfl) | exact .base (.nilown _ rfl) | exact .base (.trunc _ _ _ rfl)), .base (.tree _ _ rfl rfl), trivial⟩ ⟨⟨_, rfl, .cells _ _ _ _ rfl (by repeat (first | exact .nil | refine .cons (by first | exact .base (.tree _ _ rfl rfl) | exact .base (.own _ _ rfl) | exact .base (.ptr _ _ _ rfl) | exact .base (.map _ _ rfl) | exact .base (.nilown _ rfl) | exact .fn _ _ _ _ _ .nil (by repeat (first | exact .nil | refine .cons (by exact .ptr _ _ _ rfl) ?_))) ?_)) rfl⟩, ⟨_, rfl, (by first | exact .row _ _ _ _ _ _ _ rfl rfl | exact .lstrow _ _ _ _ _ _ _ rfl rfl | exact .nilrow _ _ _ _ _ rfl | exact .truncrow _ _ _ _ _ _ _ _ rfl (by omega) rfl)⟩, ⟨_, rfl, (by first | exact .row _ _ _ _ _ _ _ rfl rfl | exact .lstrow _ _ _ _ _ _ _ rfl rfl | exact .nilrow _ _ _ _ _ rfl | exact .truncrow _ _ _ _ _ _ _ _ rfl (by omega) rfl)⟩, trivial⟩)⟩
    | some b =>
      refine .quiet (by kernel_rfl) ?_
      conv => whnf
      repeat (first | (refine And.intro ⟨by omega, by omega⟩ ?_; conv => whnf) | (refine And.intro (by omega) (And.intro rfl ?_); conv => whnf) | (refine And.intro rfl ?_; conv => whnf) | (refine And.intro (fun _ => ⟨by omega, by omega⟩) ?_; conv => whnf) | (refine And.intro (fun _ => by omega) (And.intro rfl ?_); conv => whnf) | (refine And.intro ⟨(by first | omega | (simp; omega)), (by first | omega | (simp; omega))⟩ ?_; conv => whnf) | (refine Exists.intro _ (And.intro rfl (And.intro (by first | omega | (simp; omega)) (And.intro ⟨rfl, rfl, rfl, rfl, rfl⟩ ?_))); conv => whnf) | (refine And.intro ⟨rfl, rfl⟩ (And.intro (by first | omega | (simp; omega)) ?_); conv => whnf) | (refine Exists.intro _ (And.intro rfl ?_); conv => whnf) | (refine And.intro (fun _ => ?_) (fun h => absurd h (by decide)); conv => whnf) | (refine And.intro (fun h => absurd h (by decide)) (fun _ => ?_); conv => whnf))
      rw [hei, hs]
      refine .mk _ _ _ _ (fun _ => hhas) (by repeat (first | exact .nil | (apply BorL.cons; first | exact lS rfl | exact lR rfl | exact lM rfl rfl | exact lL rfl | exact lX rfl | exact lN | exact lNl | exact lSm rfl | exact lIm rfl | exact lP rfl | exact lQ rfl | exact lB rfl rfl rfl))) rfl ?_
      conv => whnf
      repeat (first | (refine And.intro ⟨by omega, by omega⟩ ?_; conv => whnf) | (refine And.intro (by omega) (And.intro rfl ?_); conv => whnf) | (refine And.intro rfl ?_; conv => whnf) | (refine And.intro (fun _ => ⟨by omega, by omega⟩) ?_; conv => whnf) | (refine And.intro (fun _ => by omega) (And.intro rfl ?_); conv => whnf) | (refine And.intro ⟨(by first | omega | (simp; omega)), (by first | omega | (simp; omega))⟩ ?_; conv => whnf) | (refine Exists.intro _ (And.intro rfl (And.intro (by first | omega | (simp; omega)) (And.intro ⟨rfl, rfl, rfl, rfl, rfl⟩ ?_))); conv => whnf) | (refine And.intro ⟨rfl, rfl⟩ (And.intro (by first | omega | (simp; omega)) ?_); conv => whnf) | (refine Exists.intro _ (And.intro rfl ?_); conv => whnf) | (refine And.intro (fun _ => ?_) (fun h => absurd h (by decide)); conv => whnf) | (refine And.intro (fun h => absurd h (by decide)) (fun _ => ?_); conv => whnf))
      by_cases hin : s ∈ Q.take i
      · rw [decide_eq_true hin]
        refine ⟨fun _ => ?_, fun h => (by cases h)⟩
        conv => whnf
        repeat (first | (refine And.intro ⟨by omega, by omega⟩ ?_; conv => whnf) | (refine And.intro (by omega) (And.intro rfl ?_); conv => whnf) | (refine And.intro rfl ?_; conv => whnf) | (refine And.intro (fun _ => ⟨by omega, by omega⟩) ?_; conv => whnf) | (refine And.intro (fun _ => by omega) (And.intro rfl ?_); conv => whnf) | (refine And.intro ⟨(by first | omega | (simp; omega)), (by first | omega | (simp; omega))⟩ ?_; conv => whnf) | (refine Exists.intro _ (And.intro rfl (And.intro (by first | omega | (simp; omega)) (And.intro ⟨rfl, rfl, rfl, rfl, rfl⟩ ?_))); conv => whnf) | (refine And.intro ⟨rfl, rfl⟩ (And.intro (by first | omega | (simp; omega)) ?_); conv => whnf) | (refine Exists.intro _ (And.intro rfl ?_); conv => whnf) | (refine And.intro (fun _ => ?_) (fun h => absurd h (by decide)); conv => whnf) | (refine And.intro (fun h => absurd h (by decide)) (fun _ => ?_); conv => whnf))
        refine ⟨(i + 1, Q, O), ⟨hskip (.inr hin), hlt, by show Q.length + 1000000 * unseen x.lets (Q.take (i + 1)) ≤ _; omega, by show O.length + 1000000 * unseen x.lets (Q.take (i + 1)) ≤ _; omega⟩, by show 1000001 * unseen x.lets (Q.take (i + 1)) + (Q.length - (i + 1)) < 1000001 * unseen x.lets (Q.take i) + (Q.length - i); omega, (wk_of [(0, .id 0), (1, .id 1), (2, .id 2)] rfl ⟨.base (.ptr _ _ _ rfl), (by first | exact .base (.own _ _ rfl) | exact .base (.nilown _ rfl) | exact .base (.trunc _ _ _ rfl)), (by first | exact .base (.own _ _ rfl) | exact .base (.nilown _ rfl) | exact .base (.trunc _ _ _ rfl)), .base (.tree _ _ rfl rfl), trivial⟩ ⟨⟨_, rfl, .cells _ _ _ _ rfl (by repeat (first | exact .nil | refine .cons (by first | exact .base (.tree _ _ rfl rfl) | exact .base (.own _ _ rfl) | exact .base (.ptr _ _ _ rfl) | exact .base (.map _ _ rfl) | exact .base (.nilown _ rfl) | exact .fn _ _ _ _ _ .nil (by repeat (first | exact .nil | refine .cons (by exact .ptr _ _ _ rfl) ?_))) ?_)) rfl⟩, ⟨_, rfl, (by first | exact .row _ _ _ _ _ _ _ rfl rfl | exact .lstrow _ _ _ _ _ _ _ rfl rfl | exact .nilrow _ _ _ _ _ rfl | exact .truncrow _ _ _ _ _ _ _ _ rfl (by omega) rfl)⟩, ⟨_, rfl, (by first | exact .row _ _ _ _ _ _ _ rfl rfl | exact .lstrow _ _ _ _ _ _ _ rfl rfl | exact .nilrow _ _ _ _ _ rfl | exact .truncrow _ _ _ _ _ _ _ _ rfl (by omega) rfl)⟩, trivial⟩)⟩
      · rw [decide_eq_false hin]
        have hbe : bodyD x s = b := by rw [hbd, hb]; rfl
        have hbl := hbl b hb
        have hbk := hbk b hb
        have htk := htake b hb
        have hlI := hltI b hb hin
        have hv3 := words_ok _ b 3 (Nat.le_refl _) hbk (by omega)
        have hv1 := words_ok _ b 1 (Nat.le_refl _) hbk (by omega)
        have hm3 := wds_len 3 b
        have hm1 := wds_len 1 b
        have htake1 : (Q ++ wds 1 b).take (i + 1) = Q.take (i + 1) := List.take_append_of_le_length (by omega)
        generalize hY3 : wds 3 b = Y3 at *
        generalize hY1 : wds 1 b = Y1 at *
        refine ⟨fun h => (by cases h), fun _ => ?_⟩
        rw [hbe]
        conv => whnf
        repeat (first | (refine And.intro ⟨by omega, by omega⟩ ?_; conv => whnf) | (refine And.intro (by omega) (And.intro rfl ?_); conv => whnf) | (refine And.intro rfl ?_; conv => whnf) | (refine And.intro (fun _ => ⟨by omega, by omega⟩) ?_; conv => whnf) | (refine And.intro (fun _ => by omega) (And.intro rfl ?_); conv => whnf) | (refine And.intro ⟨(by first | omega | (simp; omega)), (by first | omega | (simp; omega))⟩ ?_; conv => whnf) | (refine Exists.intro _ (And.intro rfl (And.intro (by first | omega | (simp; omega)) (And.intro ⟨rfl, rfl, rfl, rfl, rfl⟩ ?_))); conv => whnf) | (refine And.intro ⟨rfl, rfl⟩ (And.intro (by first | omega | (simp; omega)) ?_); conv => whnf) | (refine Exists.intro _ (And.intro rfl ?_); conv => whnf) | (refine And.intro (fun _ => ?_) (fun h => absurd h (by decide)); conv => whnf) | (refine And.intro (fun h => absurd h (by decide)) (fun _ => ?_); conv => whnf))
        refine .one _ _ _ (fun _ => hv3) (by repeat (first | exact .nil | (apply BorL.cons; first | exact lS rfl | exact lR rfl | exact lM rfl rfl | exact lL rfl | exact lX rfl | exact lN | exact lNl | exact lSm rfl | exact lIm rfl | exact lP rfl | exact lQ rfl | exact lB rfl rfl rfl))) (by first | exact .inl rfl | exact .inr (by repeat (first | exact flats_nil | refine flats_cons (by first | exact flat_val _ rfl | exact flat_row (fun _ => rfl) | exact flat_lst (fun _ => rfl)) ?_))) (by first | exact .inr rfl | exact .inl rfl) ?_
        conv => whnf
        repeat (first | (refine And.intro ⟨by omega, by omega⟩ ?_; conv => whnf) | (refine And.intro (by omega) (And.intro rfl ?_); conv => whnf) | (refine And.intro rfl ?_; conv => whnf) | (refine And.intro (fun _ => ⟨by omega, by omega⟩) ?_; conv => whnf) | (refine And.intro (fun _ => by omega) (And.intro rfl ?_); conv => whnf) | (refine And.intro ⟨(by first | omega | (simp; omega)), (by first | omega | (simp; omega))⟩ ?_; conv => whnf) | (refine Exists.intro _ (And.intro rfl (And.intro (by first | omega | (simp; omega)) (And.intro ⟨rfl, rfl, rfl, rfl, rfl⟩ ?_))); conv => whnf) | (refine And.intro ⟨rfl, rfl⟩ (And.intro (by first | omega | (simp; omega)) ?_); conv => whnf) | (refine Exists.intro _ (And.intro rfl ?_); conv => whnf) | (refine And.intro (fun _ => ?_) (fun h => absurd h (by decide)); conv => whnf) | (refine And.intro (fun h => absurd h (by decide)) (fun _ => ?_); conv => whnf))
        refine ⟨⟨rfl, rfl⟩, (show (O.length + Y3.length) * 16 ≤ 140737488355328 by omega), ?_⟩
        conv => whnf
        refine ⟨Y3, rfl, ?_⟩
        conv => whnf
        repeat (first | (refine And.intro ⟨by omega, by omega⟩ ?_; conv => whnf) | (refine And.intro (by omega) (And.intro rfl ?_); conv => whnf) | (refine And.intro rfl ?_; conv => whnf) | (refine And.intro (fun _ => ⟨by omega, by omega⟩) ?_; conv => whnf) | (refine And.intro (fun _ => by omega) (And.intro rfl ?_); conv => whnf) | (refine And.intro ⟨(by first | omega | (simp; omega)), (by first | omega | (simp; omega))⟩ ?_; conv => whnf) | (refine Exists.intro _ (And.intro rfl (And.intro (by first | omega | (simp; omega)) (And.intro ⟨rfl, rfl, rfl, rfl, rfl⟩ ?_))); conv => whnf) | (refine And.intro ⟨rfl, rfl⟩ (And.intro (by first | omega | (simp; omega)) ?_); conv => whnf) | (refine Exists.intro _ (And.intro rfl ?_); conv => whnf) | (refine And.intro (fun _ => ?_) (fun h => absurd h (by decide)); conv => whnf) | (refine And.intro (fun h => absurd h (by decide)) (fun _ => ?_); conv => whnf))
        refine .one _ _ _ (fun _ => hv1) (by repeat (first | exact .nil | (apply BorL.cons; first | exact lS rfl | exact lR rfl | exact lM rfl rfl | exact lL rfl | exact lX rfl | exact lN | exact lNl | exact lSm rfl | exact lIm rfl | exact lP rfl | exact lQ rfl | exact lB rfl rfl rfl))) (by first | exact .inl rfl | exact .inr (by repeat (first | exact flats_nil | refine flats_cons (by first | exact flat_val _ rfl | exact flat_row (fun _ => rfl) | exact flat_lst (fun _ => rfl)) ?_))) (by first | exact .inr rfl | exact .inl rfl) ?_
        conv => whnf
        repeat (first | (refine And.intro ⟨by omega, by omega⟩ ?_; conv => whnf) | (refine And.intro (by omega) (And.intro rfl ?_); conv => whnf) | (refine And.intro rfl ?_; conv => whnf) | (refine And.intro (fun _ => ⟨by omega, by omega⟩) ?_; conv => whnf) | (refine And.intro (fun _ => by omega) (And.intro rfl ?_); conv => whnf) | (refine And.intro ⟨(by first | omega | (simp; omega)), (by first | omega | (simp; omega))⟩ ?_; conv => whnf) | (refine Exists.intro _ (And.intro rfl (And.intro (by first | omega | (simp; omega)) (And.intro ⟨rfl, rfl, rfl, rfl, rfl⟩ ?_))); conv => whnf) | (refine And.intro ⟨rfl, rfl⟩ (And.intro (by first | omega | (simp; omega)) ?_); conv => whnf) | (refine Exists.intro _ (And.intro rfl ?_); conv => whnf) | (refine And.intro (fun _ => ?_) (fun h => absurd h (by decide)); conv => whnf) | (refine And.intro (fun h => absurd h (by decide)) (fun _ => ?_); conv => whnf))
        refine ⟨⟨rfl, rfl⟩, (show (Q.length + Y1.length) * 16 ≤ 140737488355328 by omega), ?_⟩
        conv => whnf
        refine ⟨Y1, rfl, ?_⟩
        conv => whnf
        repeat (first | (refine And.intro ⟨by omega, by omega⟩ ?_; conv => whnf) | (refine And.intro (by omega) (And.intro rfl ?_); conv => whnf) | (refine And.intro rfl ?_; conv => whnf) | (refine And.intro (fun _ => ⟨by omega, by omega⟩) ?_; conv => whnf) | (refine And.intro (fun _ => by omega) (And.intro rfl ?_); conv => whnf) | (refine And.intro ⟨(by first | omega | (simp; omega)), (by first | omega | (simp; omega))⟩ ?_; conv => whnf) | (refine Exists.intro _ (And.intro rfl (And.intro (by first | omega | (simp; omega)) (And.intro ⟨rfl, rfl, rfl, rfl, rfl⟩ ?_))); conv => whnf) | (refine And.intro ⟨rfl, rfl⟩ (And.intro (by first | omega | (simp; omega)) ?_); conv => whnf) | (refine Exists.intro _ (And.intro rfl ?_); conv => whnf) | (refine And.intro (fun _ => ?_) (fun h => absurd h (by decide)); conv => whnf) | (refine And.intro (fun h => absurd h (by decide)) (fun _ => ?_); conv => whnf))
        have hql : (Q ++ Y1).length = Q.length + Y1.length := List.length_append
        have hol : (O ++ Y3).length = O.length + Y3.length := List.length_append
        refine ⟨(i + 1, Q ++ Y1, O ++ Y3), ⟨htk, by show i + 1 ≤ (Q ++ Y1).length; omega, by show (Q ++ Y1).length + 1000000 * unseen x.lets ((Q ++ Y1).take (i + 1)) ≤ _; rw [htake1]; omega, by show (O ++ Y3).length + 1000000 * unseen x.lets ((Q ++ Y1).take (i + 1)) ≤ _; rw [htake1]; omega⟩, by show 1000001 * unseen x.lets ((Q ++ Y1).take (i + 1)) + ((Q ++ Y1).length - (i + 1)) < 1000001 * unseen x.lets (Q.take i) + (Q.length - i); rw [htake1]; omega, (wk_of [(0, .id 0), (1, .id 5), (2, .id 7)] rfl ⟨.base (.ptr _ _ _ rfl), (by first | exact .base (.own _ _ rfl) | exact .base (.nilown _ rfl) | exact .base (.trunc _ _ _ rfl)), (by first | exact .base (.own _ _ rfl) | exact .base (.nilown _ rfl) | exact .base (.trunc _ _ _ rfl)), .base (.tree _ _ rfl rfl), trivial⟩ ⟨⟨_, rfl, .cells _ _ _ _ rfl (by repeat (first | exact .nil | refine .cons (by first | exact .base (.tree _ _ rfl rfl) | exact .base (.own _ _ rfl) | exact .base (.ptr _ _ _ rfl) | exact .base (.map _ _ rfl) | exact .base (.nilown _ rfl) | exact .fn _ _ _ _ _ .nil (by repeat (first | exact .nil | refine .cons (by exact .ptr _ _ _ rfl) ?_))) ?_)) rfl⟩, ⟨_, rfl, (by first | exact .row _ _ _ _ _ _ _ rfl rfl | exact .lstrow _ _ _ _ _ _ _ rfl rfl | exact .nilrow _ _ _ _ _ rfl | exact .truncrow _ _ _ _ _ _ _ _ rfl (by omega) rfl)⟩, ⟨_, rfl, (by first | exact .row _ _ _ _ _ _ _ rfl rfl | exact .lstrow _ _ _ _ _ _ _ rfl rfl | exact .nilrow _ _ _ _ _ rfl | exact .truncrow _ _ _ _ _ _ _ _ rfl (by omega) rfl)⟩, trivial⟩)⟩
  · have hc := of_decide_eq_false hc
    obtain rfl : i = Q.length := by omega
    conv => whnf
    exact ⟨O, hQ.fin, by omega, rfl⟩

end Go.Proofs.Ytmcgfkkagijcmaa

namespace Go.Proofs.Ytmcgfkkagijcmaa
open Go.Own
set_option maxHeartbeats 4000000
set_option maxRecDepth 100000

def nmL (l : List Ind) (k : Nat) : List (List UInt8) := (l.take k).map (·.name)
theorem nmL_mem {l : List Ind} {k : Nat} (hk : k ≤ l.length) {s : List UInt8} : s ∈ nmL l k ↔ ∃ j, j < k ∧ (l.getD j i0).name = s := by
  unfold nmL
  rw [List.mem_map]
  constructor
  · rintro ⟨x, hx, rfl⟩
    obtain ⟨j, hj, rfl⟩ := mem_getD (d := i0) hx
    rw [List.length_take] at hj
    refine ⟨j, by omega, ?_⟩
    rw [List.getD_eq_getElem?_getD (l := l.take k), List.getElem?_take, if_pos (by omega), ← List.getD_eq_getElem?_getD]
  · rintro ⟨j, hj, rfl⟩
    refine ⟨l.getD j i0, ?_, rfl⟩
    have : (l.take k).getD j i0 = l.getD j i0 := by
      rw [List.getD_eq_getElem?_getD, List.getElem?_take, if_pos hj, ← List.getD_eq_getElem?_getD]
    rw [← this]
    exact getD_mem (by rw [List.length_take]; omega)
def owN (l : List Ind) (q : List (List UInt8)) (k : Nat) : List Int := cs ((List.range k).filter fun j => decide ((l.getD j i0).name ∈ q))
theorem owN_succ (l : List Ind) (q : List (List UInt8)) (k : Nat) : owN l q (k + 1) = if decide ((l.getD k i0).name ∈ q) then owN l q k ++ [(k : Int)] else owN l q k := by
  unfold owN cs
  rw [List.range_succ, List.filter_append, List.map_append]
  rw [show decide ((l.getD k i0).name ∈ q) = (fun j => decide ((l.getD j i0).name ∈ q)) k from rfl]
  generalize (fun j => decide ((l.getD j i0).name ∈ q)) = p
  have h : [k].filter p = if p k then [k] else [] := by cases hp : p k <;> simp [List.filter, hp]
  rw [h]
  cases p k <;> simp
theorem owN_len (l : List Ind) (q : List (List UInt8)) (k : Nat) : (owN l q k).length ≤ k := by
  unfold owN cs
  rw [List.length_map]
  refine Nat.le_trans (List.length_filter_le _ _) ?_
  rw [List.length_range]
  exact Nat.le_refl _
theorem owN_end {l : List Ind} {i : Nat} {q : List (List UInt8)} (hq : ∀ s, s ∈ q ↔ Qt (l.getD i i0) s) : owN l q l.length = cs (nxt l i) := by
  unfold owN
  congr 1
  refine ascN_eq (List.Pairwise.filter _ List.pairwise_lt_range) (nxt_asc _ _) fun k => ?_
  rw [nxt_mem, List.mem_filter, List.mem_range, decide_eq_true_eq, hq]

theorem rgraph_ok (l : List Ind) (hl1 : l.length ≤ 9223372036854775807) (hx : l.length ≤ 400 → ∀ x ∈ l, OkX x) : APure Try.prog 10 [encXs l] (fun rs => rs = rG l) := by
  refine apure_ofw (C := cx 81 [0, 2, 3, 4, 5, 6, 7, 8, 9, 10, 11, 14, 18, 27, 39, 50, 58, 66, 75]) (cxOk _ _) Try.func10 rfl (by decide) rfl (by exact Nat.le_of_ble_eq_true rfl) (by decide) ?_
  conv => whnf
  refine ⟨fun hc => ?_, fun hc => ?_⟩
  · conv => whnf
    have hc' := of_decide_eq_true hc
    have hE : errG l = 6 := by unfold errG; rw [if_neg (by omega)]
    refine ⟨_, Wk.refl _, ?_⟩
    conv => whnf
    unfold rG
    rw [hE]
    rfl
  have hc' := of_decide_eq_false hc
  have hlen : l.length ≤ 400 := by omega
  have hx := hx hlen
  have hN0 : nmL l 0 = [] := rfl
  have hNs : ∀ k, k < l.length → nmL l (k + 1) = nmL l k ++ [(l.getD k i0).name] := fun k hk => by unfold nmL; rw [take_getD (d := i0) hk, List.map_append]; rfl
  have hNl : ∀ k, k ≤ l.length → (nmL l k).length = k := fun k hk => by unfold nmL; rw [List.length_map, List.length_take]; omega
  have hNm := fun k hk s => @nmL_mem l k hk s
  generalize hN : nmL l = N at *
  conv => whnf
  repeat (first | (refine And.intro ⟨by omega, by omega⟩ ?_; conv => whnf) | (refine And.intro (by omega) (And.intro rfl ?_); conv => whnf) | (refine And.intro rfl ?_; conv => whnf) | (refine And.intro (fun _ => ⟨by omega, by omega⟩) ?_; conv => whnf) | (refine And.intro (fun _ => by omega) (And.intro rfl ?_); conv => whnf) | (refine And.intro ⟨(by first | omega | (simp; omega)), (by first | omega | (simp; omega))⟩ ?_; conv => whnf) | (refine Exists.intro _ (And.intro rfl (And.intro (by first | omega | (simp; omega)) (And.intro ⟨rfl, rfl, rfl, rfl, rfl⟩ ?_))); conv => whnf) | (refine And.intro ⟨rfl, rfl⟩ (And.intro (by first | omega | (simp; omega)) ?_); conv => whnf) | (refine Exists.intro _ (And.intro rfl ?_); conv => whnf) | (refine And.intro (fun _ => ?_) (fun h => absurd h (by decide)); conv => whnf) | (refine And.intro (fun h => absurd h (by decide)) (fun _ => ?_); conv => whnf) | (refine .quiet (by kernel_rfl) ?_; conv => whnf))
  refine loop_up (cxOk _ _) l.length (fun k => ∀ i, i < k → ∀ j, j < i → (l.getD i i0).name ≠ (l.getD j i0).name) (fun k => ⟨[(0, encXs l), (4, .own 0), (5, .int .i64 (k : Nat))], [(0, .row 9 1 encS [] (N k))], 1⟩) (by intro j hj; omega) (by exact (wk_of [(0, .nil)] rfl ⟨.base (.tree _ _ rfl rfl), (by first | exact .base (.own _ _ rfl) | exact .base (.nilown _ rfl) | exact .base (.trunc _ _ _ rfl)), .base (.tree _ _ rfl rfl), trivial⟩ ⟨⟨_, rfl, (by first | exact .row _ _ _ _ _ _ _ rfl hN0 | exact .lstrow _ _ _ _ _ _ _ rfl hN0 | exact .nilrow _ _ _ _ _ hN0 | exact .truncrow _ _ _ _ _ _ _ _ rfl (by omega) hN0)⟩, trivial⟩)) ?_
  intro k hk hP
  have hek : (k : Int).toNat = k := Int.toNat_natCast k
  conv => whnf
  refine ⟨fun hd => ?_, fun hd => ?_⟩
  · have hd := of_decide_eq_true hd
    have hlt : k < l.length := by omega
    have hst := hNs k hlt
    have hNlk := hNl k hk
    have hh := has_ok (N k) (l.getD k i0).name (by omega)
    have hm := hNm k hk (l.getD k i0).name
    conv => whnf
    repeat (first | (refine And.intro ⟨by omega, by omega⟩ ?_; conv => whnf) | (refine And.intro (by omega) (And.intro rfl ?_); conv => whnf) | (refine And.intro rfl ?_; conv => whnf) | (refine And.intro (fun _ => ⟨by omega, by omega⟩) ?_; conv => whnf) | (refine And.intro (fun _ => by omega) (And.intro rfl ?_); conv => whnf) | (refine And.intro ⟨(by first | omega | (simp; omega)), (by first | omega | (simp; omega))⟩ ?_; conv => whnf) | (refine Exists.intro _ (And.intro rfl (And.intro (by first | omega | (simp; omega)) (And.intro ⟨rfl, rfl, rfl, rfl, rfl⟩ ?_))); conv => whnf) | (refine And.intro ⟨rfl, rfl⟩ (And.intro (by first | omega | (simp; omega)) ?_); conv => whnf) | (refine Exists.intro _ (And.intro rfl ?_); conv => whnf) | (refine And.intro (fun _ => ?_) (fun h => absurd h (by decide)); conv => whnf) | (refine And.intro (fun h => absurd h (by decide)) (fun _ => ?_); conv => whnf) | (refine .quiet (by kernel_rfl) ?_; conv => whnf))
    rw [hek]
    conv => whnf
    repeat (first | (refine And.intro ⟨by omega, by omega⟩ ?_; conv => whnf) | (refine And.intro (by omega) (And.intro rfl ?_); conv => whnf) | (refine And.intro rfl ?_; conv => whnf) | (refine And.intro (fun _ => ⟨by omega, by omega⟩) ?_; conv => whnf) | (refine And.intro (fun _ => by omega) (And.intro rfl ?_); conv => whnf) | (refine And.intro ⟨(by first | omega | (simp; omega)), (by first | omega | (simp; omega))⟩ ?_; conv => whnf) | (refine Exists.intro _ (And.intro rfl (And.intro (by first | omega | (simp; omega)) (And.intro ⟨rfl, rfl, rfl, rfl, rfl⟩ ?_))); conv => whnf) | (refine And.intro ⟨rfl, rfl⟩ (And.intro (by first | omega | (simp; omega)) ?_); conv => whnf) | (refine Exists.intro _ (And.intro rfl ?_); conv => whnf) | (refine And.intro (fun _ => ?_) (fun h => absurd h (by decide)); conv => whnf) | (refine And.intro (fun h => absurd h (by decide)) (fun _ => ?_); conv => whnf) | (refine .quiet (by kernel_rfl) ?_; conv => whnf))
    refine .one _ _ _ (fun _ => hh) (by repeat (first | exact .nil | (apply BorL.cons; first | exact lS rfl | exact lR rfl | exact lM rfl rfl | exact lL rfl | exact lX rfl | exact lN | exact lNl | exact lSm rfl | exact lIm rfl | exact lP rfl | exact lQ rfl | exact lB rfl rfl rfl))) (by first | exact .inl rfl | exact .inr (by repeat (first | exact flats_nil | refine flats_cons (by first | exact flat_val _ rfl | exact flat_row (fun _ => rfl) | exact flat_lst (fun _ => rfl)) ?_))) (by first | exact .inr rfl | exact .inl rfl) ?_
    conv => whnf
    repeat (first | (refine And.intro ⟨by omega, by omega⟩ ?_; conv => whnf) | (refine And.intro (by omega) (And.intro rfl ?_); conv => whnf) | (refine And.intro rfl ?_; conv => whnf) | (refine And.intro (fun _ => ⟨by omega, by omega⟩) ?_; conv => whnf) | (refine And.intro (fun _ => by omega) (And.intro rfl ?_); conv => whnf) | (refine And.intro ⟨(by first | omega | (simp; omega)), (by first | omega | (simp; omega))⟩ ?_; conv => whnf) | (refine Exists.intro _ (And.intro rfl (And.intro (by first | omega | (simp; omega)) (And.intro ⟨rfl, rfl, rfl, rfl, rfl⟩ ?_))); conv => whnf) | (refine And.intro ⟨rfl, rfl⟩ (And.intro (by first | omega | (simp; omega)) ?_); conv => whnf) | (refine Exists.intro _ (And.intro rfl ?_); conv => whnf) | (refine And.intro (fun _ => ?_) (fun h => absurd h (by decide)); conv => whnf) | (refine And.intro (fun h => absurd h (by decide)) (fun _ => ?_); conv => whnf) | (refine .quiet (by kernel_rfl) ?_; conv => whnf))
    by_cases hin : (l.getD k i0).name ∈ N k
    · have hO : ¬ Once l := by
        obtain ⟨j, hj, e⟩ := hm.1 hin
        exact fun h => h k hlt j hj e.symm
      have hE : errG l = 5 := by unfold errG; rw [if_pos hlen, if_neg hO]
      rw [decide_eq_true hin]
      refine ⟨fun _ => ?_, fun h => (by cases h)⟩
      conv => whnf
      refine ⟨_, Wk.refl _, ?_⟩
      conv => whnf
      unfold rG
      rw [hE]
      rfl
    · rw [decide_eq_false hin]
      refine ⟨fun h => (by cases h), fun _ => ?_⟩
      conv => whnf
      repeat (first | (refine And.intro ⟨by omega, by omega⟩ ?_; conv => whnf) | (refine And.intro (by omega) (And.intro rfl ?_); conv => whnf) | (refine And.intro rfl ?_; conv => whnf) | (refine And.intro (fun _ => ⟨by omega, by omega⟩) ?_; conv => whnf) | (refine And.intro (fun _ => by omega) (And.intro rfl ?_); conv => whnf) | (refine And.intro ⟨(by first | omega | (simp; omega)), (by first | omega | (simp; omega))⟩ ?_; conv => whnf) | (refine Exists.intro _ (And.intro rfl (And.intro (by first | omega | (simp; omega)) (And.intro ⟨rfl, rfl, rfl, rfl, rfl⟩ ?_))); conv => whnf) | (refine And.intro ⟨rfl, rfl⟩ (And.intro (by first | omega | (simp; omega)) ?_); conv => whnf) | (refine Exists.intro _ (And.intro rfl ?_); conv => whnf) | (refine And.intro (fun _ => ?_) (fun h => absurd h (by decide)); conv => whnf) | (refine And.intro (fun h => absurd h (by decide)) (fun _ => ?_); conv => whnf) | (refine .quiet (by kernel_rfl) ?_; conv => whnf))
      rw [hek]
      refine ⟨⟨rfl, rfl⟩, (show ((N k).length + 1) * 16 ≤ 140737488355328 by omega), ?_⟩
      conv => whnf
      refine ⟨(l.getD k i0).name, rfl, ?_⟩
      conv => whnf
      repeat (first | (refine And.intro ⟨by omega, by omega⟩ ?_; conv => whnf) | (refine And.intro (by omega) (And.intro rfl ?_); conv => whnf) | (refine And.intro rfl ?_; conv => whnf) | (refine And.intro (fun _ => ⟨by omega, by omega⟩) ?_; conv => whnf) | (refine And.intro (fun _ => by omega) (And.intro rfl ?_); conv => whnf) | (refine And.intro ⟨(by first | omega | (simp; omega)), (by first | omega | (simp; omega))⟩ ?_; conv => whnf) | (refine Exists.intro _ (And.intro rfl (And.intro (by first | omega | (simp; omega)) (And.intro ⟨rfl, rfl, rfl, rfl, rfl⟩ ?_))); conv => whnf) | (refine And.intro ⟨rfl, rfl⟩ (And.intro (by first | omega | (simp; omega)) ?_); conv => whnf) | (refine Exists.intro _ (And.intro rfl ?_); conv => whnf) | (refine And.intro (fun _ => ?_) (fun h => absurd h (by decide)); conv => whnf) | (refine And.intro (fun h => absurd h (by decide)) (fun _ => ?_); conv => whnf) | (refine .quiet (by kernel_rfl) ?_; conv => whnf))
      refine up hlt (fun i hi j hj => ?_) ((wk_of [(0, .id 2)] rfl ⟨.base (.tree _ _ rfl rfl), (by first | exact .base (.own _ _ rfl) | exact .base (.nilown _ rfl) | exact .base (.trunc _ _ _ rfl)), .base (.tree _ _ rfl rfl), trivial⟩ ⟨⟨_, rfl, (by first | exact .row _ _ _ _ _ _ _ rfl (hst.symm) | exact .lstrow _ _ _ _ _ _ _ rfl (hst.symm) | exact .nilrow _ _ _ _ _ (hst.symm) | exact .truncrow _ _ _ _ _ _ _ _ rfl (by omega) (hst.symm))⟩, trivial⟩))
      by_cases e : i = k
      · subst e; exact fun e2 => hin (hm.2 ⟨j, hj, e2.symm⟩)
      · exact hP i (by omega) j hj
  have hd := of_decide_eq_false hd
  obtain rfl : k = l.length := by omega
  have hO : Once l := hP
  have hNn := hNl l.length (Nat.le_refl _)
  have hm := fun s => hNm l.length (Nat.le_refl _) s
  have hgn : ∀ k, k < l.length → (N l.length).getD k [] = (l.getD k i0).name := fun k hk => by
    rw [← hN]
    unfold nmL
    rw [List.take_length, List.getD_eq_getElem?_getD, List.getElem?_map, List.getD_eq_getElem?_getD, List.getElem?_eq_getElem hk]
    rfl
  have hGs := glN_succ l
  generalize N l.length = Nn at *
  conv => whnf
  repeat (first | (refine And.intro ⟨by omega, by omega⟩ ?_; conv => whnf) | (refine And.intro (by omega) (And.intro rfl ?_); conv => whnf) | (refine And.intro rfl ?_; conv => whnf) | (refine And.intro (fun _ => ⟨by omega, by omega⟩) ?_; conv => whnf) | (refine And.intro (fun _ => by omega) (And.intro rfl ?_); conv => whnf) | (refine And.intro ⟨(by first | omega | (simp; omega)), (by first | omega | (simp; omega))⟩ ?_; conv => whnf) | (refine Exists.intro _ (And.intro rfl (And.intro (by first | omega | (simp; omega)) (And.intro ⟨rfl, rfl, rfl, rfl, rfl⟩ ?_))); conv => whnf) | (refine And.intro ⟨rfl, rfl⟩ (And.intro (by first | omega | (simp; omega)) ?_); conv => whnf) | (refine Exists.intro _ (And.intro rfl ?_); conv => whnf) | (refine And.intro (fun _ => ?_) (fun h => absurd h (by decide)); conv => whnf) | (refine And.intro (fun h => absurd h (by decide)) (fun _ => ?_); conv => whnf) | (refine .quiet (by kernel_rfl) ?_; conv => whnf))
  refine loop_up (cxOk _ _) l.length (fun i => ∀ j, j < i → ∀ s, Qt (l.getD j i0) s → ∃ k, k < l.length ∧ (l.getD k i0).name = s) (fun i => ⟨[(0, encXs l), (4, .own 0), (6, .own 1), (7, .int .i64 (i : Nat))], [(0, .row 9 1 encS [] Nn), (1, .row 24 1 encIs [] (glN l i))], 2⟩) (by intro j hj; omega) ((wk_of [(0, .id 0), (1, .nil)] rfl ⟨.base (.tree _ _ rfl rfl), (by first | exact .base (.own _ _ rfl) | exact .base (.nilown _ rfl) | exact .base (.trunc _ _ _ rfl)), (by first | exact .base (.own _ _ rfl) | exact .base (.nilown _ rfl) | exact .base (.trunc _ _ _ rfl)), .base (.tree _ _ rfl rfl), trivial⟩ ⟨⟨_, rfl, (by first | exact .row _ _ _ _ _ _ _ rfl rfl | exact .lstrow _ _ _ _ _ _ _ rfl rfl | exact .nilrow _ _ _ _ _ rfl | exact .truncrow _ _ _ _ _ _ _ _ rfl (by omega) rfl)⟩, ⟨_, rfl, (by first | exact .row _ _ _ _ _ _ _ rfl rfl | exact .lstrow _ _ _ _ _ _ _ rfl rfl | exact .nilrow _ _ _ _ _ rfl | exact .truncrow _ _ _ _ _ _ _ _ rfl (by omega) rfl)⟩, trivial⟩)) ?_
  intro i hi hP2
  have hei : (i : Int).toNat = i := Int.toNat_natCast i
  conv => whnf
  refine ⟨fun hd2 => ?_, fun hd2 => ?_⟩
  · have hd2 := of_decide_eq_true hd2
    have hlt : i < l.length := by omega
    have hNi := hGs i
    have hok : OkX (l.getD i i0) := hx _ (getD_mem hlt)
    have hnl : (glN l i).length = i := by unfold glN; simp
    generalize hG : glN l i = G at *
    generalize hG' : glN l (i + 1) = G' at *
    conv => whnf
    repeat (first | (refine And.intro ⟨by omega, by omega⟩ ?_; conv => whnf) | (refine And.intro (by omega) (And.intro rfl ?_); conv => whnf) | (refine And.intro rfl ?_; conv => whnf) | (refine And.intro (fun _ => ⟨by omega, by omega⟩) ?_; conv => whnf) | (refine And.intro (fun _ => by omega) (And.intro rfl ?_); conv => whnf) | (refine And.intro ⟨(by first | omega | (simp; omega)), (by first | omega | (simp; omega))⟩ ?_; conv => whnf) | (refine Exists.intro _ (And.intro rfl (And.intro (by first | omega | (simp; omega)) (And.intro ⟨rfl, rfl, rfl, rfl, rfl⟩ ?_))); conv => whnf) | (refine And.intro ⟨rfl, rfl⟩ (And.intro (by first | omega | (simp; omega)) ?_); conv => whnf) | (refine Exists.intro _ (And.intro rfl ?_); conv => whnf) | (refine And.intro (fun _ => ?_) (fun h => absurd h (by decide)); conv => whnf) | (refine And.intro (fun h => absurd h (by decide)) (fun _ => ?_); conv => whnf) | (refine .quiet (by kernel_rfl) ?_; conv => whnf))
    rw [hei]
    conv => whnf
    repeat (first | (refine And.intro ⟨by omega, by omega⟩ ?_; conv => whnf) | (refine And.intro (by omega) (And.intro rfl ?_); conv => whnf) | (refine And.intro rfl ?_; conv => whnf) | (refine And.intro (fun _ => ⟨by omega, by omega⟩) ?_; conv => whnf) | (refine And.intro (fun _ => by omega) (And.intro rfl ?_); conv => whnf) | (refine And.intro ⟨(by first | omega | (simp; omega)), (by first | omega | (simp; omega))⟩ ?_; conv => whnf) | (refine Exists.intro _ (And.intro rfl (And.intro (by first | omega | (simp; omega)) (And.intro ⟨rfl, rfl, rfl, rfl, rfl⟩ ?_))); conv => whnf) | (refine And.intro ⟨rfl, rfl⟩ (And.intro (by first | omega | (simp; omega)) ?_); conv => whnf) | (refine Exists.intro _ (And.intro rfl ?_); conv => whnf) | (refine And.intro (fun _ => ?_) (fun h => absurd h (by decide)); conv => whnf) | (refine And.intro (fun h => absurd h (by decide)) (fun _ => ?_); conv => whnf) | (refine .quiet (by kernel_rfl) ?_; conv => whnf))
    refine .any _ _ _ ⟨rfl, rfl⟩ (quotes_ok (l.getD i i0) hok) (by repeat (first | exact .nil | (apply BorL.cons; first | exact lS rfl | exact lR rfl | exact lM rfl rfl | exact lL rfl | exact lX rfl | exact lN | exact lNl | exact lSm rfl | exact lIm rfl | exact lP rfl | exact lQ rfl | exact lB rfl rfl rfl))) (by first | exact .inl rfl | exact .inr (by repeat (first | exact flats_nil | refine flats_cons (by first | exact flat_val _ rfl | exact flat_row (fun _ => rfl) | exact flat_lst (fun _ => rfl)) ?_))) ?_
    rintro rs ⟨q, hq, hql, rfl⟩
    have hos := owN_succ l q
    have hol := owN_len l q
    have hoe := owN_end (i := i) hq
    have ho0 : owN l q 0 = [] := rfl
    generalize hW : owN l q = W at *
    conv => whnf
    repeat (first | (refine And.intro ⟨by omega, by omega⟩ ?_; conv => whnf) | (refine And.intro (by omega) (And.intro rfl ?_); conv => whnf) | (refine And.intro rfl ?_; conv => whnf) | (refine And.intro (fun _ => ⟨by omega, by omega⟩) ?_; conv => whnf) | (refine And.intro (fun _ => by omega) (And.intro rfl ?_); conv => whnf) | (refine And.intro ⟨(by first | omega | (simp; omega)), (by first | omega | (simp; omega))⟩ ?_; conv => whnf) | (refine Exists.intro _ (And.intro rfl (And.intro (by first | omega | (simp; omega)) (And.intro ⟨rfl, rfl, rfl, rfl, rfl⟩ ?_))); conv => whnf) | (refine And.intro ⟨rfl, rfl⟩ (And.intro (by first | omega | (simp; omega)) ?_); conv => whnf) | (refine Exists.intro _ (And.intro rfl ?_); conv => whnf) | (refine And.intro (fun _ => ?_) (fun h => absurd h (by decide)); conv => whnf) | (refine And.intro (fun h => absurd h (by decide)) (fun _ => ?_); conv => whnf) | (refine .quiet (by kernel_rfl) ?_; conv => whnf))
    refine loop_up (cxOk _ _) l.length (fun _ => True) (fun k => ⟨[(0, encXs l), (4, .own 0), (6, .own 1), (7, .int .i64 (i : Nat)), (8, .own 2), (9, .own 3), (10, .int .i64 (k : Nat))], [(0, .row 9 1 encS [] Nn), (1, .row 24 1 encIs [] G), (2, .row 9 1 encS [] q), (3, .row 3 1 encI 0 (W k))], 4⟩) trivial ((wk_of [(0, .id 0), (1, .id 1), (2, .id 2), (3, .nil)] rfl ⟨.base (.tree _ _ rfl rfl), (by first | exact .base (.own _ _ rfl) | exact .base (.nilown _ rfl) | exact .base (.trunc _ _ _ rfl)), (by first | exact .base (.own _ _ rfl) | exact .base (.nilown _ rfl) | exact .base (.trunc _ _ _ rfl)), .base (.tree _ _ rfl rfl), (by first | exact .base (.own _ _ rfl) | exact .base (.nilown _ rfl) | exact .base (.trunc _ _ _ rfl)), (by first | exact .base (.own _ _ rfl) | exact .base (.nilown _ rfl) | exact .base (.trunc _ _ _ rfl)), .base (.tree _ _ rfl rfl), trivial⟩ ⟨⟨_, rfl, (by first | exact .row _ _ _ _ _ _ _ rfl rfl | exact .lstrow _ _ _ _ _ _ _ rfl rfl | exact .nilrow _ _ _ _ _ rfl | exact .truncrow _ _ _ _ _ _ _ _ rfl (by omega) rfl)⟩, ⟨_, rfl, (by first | exact .row _ _ _ _ _ _ _ rfl rfl | exact .lstrow _ _ _ _ _ _ _ rfl rfl | exact .nilrow _ _ _ _ _ rfl | exact .truncrow _ _ _ _ _ _ _ _ rfl (by omega) rfl)⟩, ⟨_, rfl, (by first | exact .row _ _ _ _ _ _ _ rfl rfl | exact .lstrow _ _ _ _ _ _ _ rfl rfl | exact .nilrow _ _ _ _ _ rfl | exact .truncrow _ _ _ _ _ _ _ _ rfl (by omega) rfl)⟩, ⟨_, rfl, (by first | exact .row _ _ _ _ _ _ _ rfl ho0 | exact .lstrow _ _ _ _ _ _ _ rfl ho0 | exact .nilrow _ _ _ _ _ ho0 | exact .truncrow _ _ _ _ _ _ _ _ rfl (by omega) ho0)⟩, trivial⟩)) ?_
    intro k hk _
    have hek : (k : Int).toNat = k := Int.toNat_natCast k
    conv => whnf
    refine ⟨fun hd3 => ?_, fun hd3 => ?_⟩
    · have hd3 := of_decide_eq_true hd3
      have hlk : k < l.length := by omega
      have hgk := hgn k hlk
      have hwk := hos k
      have hwl := hol k
      have hh := has_ok q (l.getD k i0).name (by omega)
      conv => whnf
      repeat (first | (refine And.intro ⟨by omega, by omega⟩ ?_; conv => whnf) | (refine And.intro (by omega) (And.intro rfl ?_); conv => whnf) | (refine And.intro rfl ?_; conv => whnf) | (refine And.intro (fun _ => ⟨by omega, by omega⟩) ?_; conv => whnf) | (refine And.intro (fun _ => by omega) (And.intro rfl ?_); conv => whnf) | (refine And.intro ⟨(by first | omega | (simp; omega)), (by first | omega | (simp; omega))⟩ ?_; conv => whnf) | (refine Exists.intro _ (And.intro rfl (And.intro (by first | omega | (simp; omega)) (And.intro ⟨rfl, rfl, rfl, rfl, rfl⟩ ?_))); conv => whnf) | (refine And.intro ⟨rfl, rfl⟩ (And.intro (by first | omega | (simp; omega)) ?_); conv => whnf) | (refine Exists.intro _ (And.intro rfl ?_); conv => whnf) | (refine And.intro (fun _ => ?_) (fun h => absurd h (by decide)); conv => whnf) | (refine And.intro (fun h => absurd h (by decide)) (fun _ => ?_); conv => whnf) | (refine .quiet (by kernel_rfl) ?_; conv => whnf))
      rw [hek, hgk]
      refine .one _ _ _ (fun _ => hh) (by repeat (first | exact .nil | (apply BorL.cons; first | exact lS rfl | exact lR rfl | exact lM rfl rfl | exact lL rfl | exact lX rfl | exact lN | exact lNl | exact lSm rfl | exact lIm rfl | exact lP rfl | exact lQ rfl | exact lB rfl rfl rfl))) (by first | exact .inl rfl | exact .inr (by repeat (first | exact flats_nil | refine flats_cons (by first | exact flat_val _ rfl | exact flat_row (fun _ => rfl) | exact flat_lst (fun _ => rfl)) ?_))) (by first | exact .inr rfl | exact .inl rfl) ?_
      conv => whnf
      repeat (first | (refine And.intro ⟨by omega, by omega⟩ ?_; conv => whnf) | (refine And.intro (by omega) (And.intro rfl ?_); conv => whnf) | (refine And.intro rfl ?_; conv => whnf) | (refine And.intro (fun _ => ⟨by omega, by omega⟩) ?_; conv => whnf) | (refine And.intro (fun _ => by omega) (And.intro rfl ?_); conv => whnf) | (refine And.intro ⟨(by first | omega | (simp; omega)), (by first | omega | (simp; omega))⟩ ?_; conv => whnf) | (refine Exists.intro _ (And.intro rfl (And.intro (by first | omega | (simp; omega)) (And.intro ⟨rfl, rfl, rfl, rfl, rfl⟩ ?_))); conv => whnf) | (refine And.intro ⟨rfl, rfl⟩ (And.intro (by first | omega | (simp; omega)) ?_); conv => whnf) | (refine Exists.intro _ (And.intro rfl ?_); conv => whnf) | (refine And.intro (fun _ => ?_) (fun h => absurd h (by decide)); conv => whnf) | (refine And.intro (fun h => absurd h (by decide)) (fun _ => ?_); conv => whnf) | (refine .quiet (by kernel_rfl) ?_; conv => whnf))
      by_cases hin : (l.getD k i0).name ∈ q
      · rw [decide_eq_true hin, if_pos rfl] at hwk
        rw [decide_eq_true hin]
        refine ⟨fun _ => ?_, fun h => (by cases h)⟩
        conv => whnf
        repeat (first | (refine And.intro ⟨by omega, by omega⟩ ?_; conv => whnf) | (refine And.intro (by omega) (And.intro rfl ?_); conv => whnf) | (refine And.intro rfl ?_; conv => whnf) | (refine And.intro (fun _ => ⟨by omega, by omega⟩) ?_; conv => whnf) | (refine And.intro (fun _ => by omega) (And.intro rfl ?_); conv => whnf) | (refine And.intro ⟨(by first | omega | (simp; omega)), (by first | omega | (simp; omega))⟩ ?_; conv => whnf) | (refine Exists.intro _ (And.intro rfl (And.intro (by first | omega | (simp; omega)) (And.intro ⟨rfl, rfl, rfl, rfl, rfl⟩ ?_))); conv => whnf) | (refine And.intro ⟨rfl, rfl⟩ (And.intro (by first | omega | (simp; omega)) ?_); conv => whnf) | (refine Exists.intro _ (And.intro rfl ?_); conv => whnf) | (refine And.intro (fun _ => ?_) (fun h => absurd h (by decide)); conv => whnf) | (refine And.intro (fun h => absurd h (by decide)) (fun _ => ?_); conv => whnf) | (refine .quiet (by kernel_rfl) ?_; conv => whnf))
        refine ⟨⟨rfl, rfl⟩, (show ((W k).length + 1) * 8 ≤ 140737488355328 by omega), ?_⟩
        conv => whnf
        refine ⟨(k : Int), rfl, ?_⟩
        conv => whnf
        repeat (first | (refine And.intro ⟨by omega, by omega⟩ ?_; conv => whnf) | (refine And.intro (by omega) (And.intro rfl ?_); conv => whnf) | (refine And.intro rfl ?_; conv => whnf) | (refine And.intro (fun _ => ⟨by omega, by omega⟩) ?_; conv => whnf) | (refine And.intro (fun _ => by omega) (And.intro rfl ?_); conv => whnf) | (refine And.intro ⟨(by first | omega | (simp; omega)), (by first | omega | (simp; omega))⟩ ?_; conv => whnf) | (refine Exists.intro _ (And.intro rfl (And.intro (by first | omega | (simp; omega)) (And.intro ⟨rfl, rfl, rfl, rfl, rfl⟩ ?_))); conv => whnf) | (refine And.intro ⟨rfl, rfl⟩ (And.intro (by first | omega | (simp; omega)) ?_); conv => whnf) | (refine Exists.intro _ (And.intro rfl ?_); conv => whnf) | (refine And.intro (fun _ => ?_) (fun h => absurd h (by decide)); conv => whnf) | (refine And.intro (fun h => absurd h (by decide)) (fun _ => ?_); conv => whnf) | (refine .quiet (by kernel_rfl) ?_; conv => whnf))
        refine up hlk trivial ((wk_of [(0, .id 0), (1, .id 1), (2, .id 2), (3, .id 5)] rfl ⟨.base (.tree _ _ rfl rfl), (by first | exact .base (.own _ _ rfl) | exact .base (.nilown _ rfl) | exact .base (.trunc _ _ _ rfl)), (by first | exact .base (.own _ _ rfl) | exact .base (.nilown _ rfl) | exact .base (.trunc _ _ _ rfl)), .base (.tree _ _ rfl rfl), (by first | exact .base (.own _ _ rfl) | exact .base (.nilown _ rfl) | exact .base (.trunc _ _ _ rfl)), (by first | exact .base (.own _ _ rfl) | exact .base (.nilown _ rfl) | exact .base (.trunc _ _ _ rfl)), .base (.tree _ _ rfl rfl), trivial⟩ ⟨⟨_, rfl, (by first | exact .row _ _ _ _ _ _ _ rfl rfl | exact .lstrow _ _ _ _ _ _ _ rfl rfl | exact .nilrow _ _ _ _ _ rfl | exact .truncrow _ _ _ _ _ _ _ _ rfl (by omega) rfl)⟩, ⟨_, rfl, (by first | exact .row _ _ _ _ _ _ _ rfl rfl | exact .lstrow _ _ _ _ _ _ _ rfl rfl | exact .nilrow _ _ _ _ _ rfl | exact .truncrow _ _ _ _ _ _ _ _ rfl (by omega) rfl)⟩, ⟨_, rfl, (by first | exact .row _ _ _ _ _ _ _ rfl rfl | exact .lstrow _ _ _ _ _ _ _ rfl rfl | exact .nilrow _ _ _ _ _ rfl | exact .truncrow _ _ _ _ _ _ _ _ rfl (by omega) rfl)⟩, ⟨_, rfl, (by first | exact .row _ _ _ _ _ _ _ rfl (hwk.symm) | exact .lstrow _ _ _ _ _ _ _ rfl (hwk.symm) | exact .nilrow _ _ _ _ _ (hwk.symm) | exact .truncrow _ _ _ _ _ _ _ _ rfl (by omega) (hwk.symm))⟩, trivial⟩))
      · rw [decide_eq_false hin, if_neg (by decide)] at hwk
        rw [decide_eq_false hin]
        refine ⟨fun h => (by cases h), fun _ => ?_⟩
        conv => whnf
        repeat (first | (refine And.intro ⟨by omega, by omega⟩ ?_; conv => whnf) | (refine And.intro (by omega) (And.intro rfl ?_); conv => whnf) | (refine And.intro rfl ?_; conv => whnf) | (refine And.intro (fun _ => ⟨by omega, by omega⟩) ?_; conv => whnf) | (refine And.intro (fun _ => by omega) (And.intro rfl ?_); conv => whnf) | (refine And.intro ⟨(by first | omega | (simp; omega)), (by first | omega | (simp; omega))⟩ ?_; conv => whnf) | (refine Exists.intro _ (And.intro rfl (And.intro (by first | omega | (simp; omega)) (And.intro ⟨rfl, rfl, rfl, rfl, rfl⟩ ?_))); conv => whnf) | (refine And.intro ⟨rfl, rfl⟩ (And.intro (by first | omega | (simp; omega)) ?_); conv => whnf) | (refine Exists.intro _ (And.intro rfl ?_); conv => whnf) | (refine And.intro (fun _ => ?_) (fun h => absurd h (by decide)); conv => whnf) | (refine And.intro (fun h => absurd h (by decide)) (fun _ => ?_); conv => whnf) | (refine .quiet (by kernel_rfl) ?_; conv => whnf))
        refine up hlk trivial ((wk_of [(0, .id 0), (1, .id 1), (2, .id 2), (3, .id 3)] rfl ⟨.base (.tree _ _ rfl rfl), (by first | exact .base (.own _ _ rfl) | exact .base (.nilown _ rfl) | exact .base (.trunc _ _ _ rfl)), (by first | exact .base (.own _ _ rfl) | exact .base (.nilown _ rfl) | exact .base (.trunc _ _ _ rfl)), .base (.tree _ _ rfl rfl), (by first | exact .base (.own _ _ rfl) | exact .base (.nilown _ rfl) | exact .base (.trunc _ _ _ rfl)), (by first | exact .base (.own _ _ rfl) | exact .base (.nilown _ rfl) | exact .base (.trunc _ _ _ rfl)), .base (.tree _ _ rfl rfl), trivial⟩ ⟨⟨_, rfl, (by first | exact .row _ _ _ _ _ _ _ rfl rfl | exact .lstrow _ _ _ _ _ _ _ rfl rfl | exact .nilrow _ _ _ _ _ rfl | exact .truncrow _ _ _ _ _ _ _ _ rfl (by omega) rfl)⟩, ⟨_, rfl, (by first | exact .row _ _ _ _ _ _ _ rfl rfl | exact .lstrow _ _ _ _ _ _ _ rfl rfl | exact .nilrow _ _ _ _ _ rfl | exact .truncrow _ _ _ _ _ _ _ _ rfl (by omega) rfl)⟩, ⟨_, rfl, (by first | exact .row _ _ _ _ _ _ _ rfl rfl | exact .lstrow _ _ _ _ _ _ _ rfl rfl | exact .nilrow _ _ _ _ _ rfl | exact .truncrow _ _ _ _ _ _ _ _ rfl (by omega) rfl)⟩, ⟨_, rfl, (by first | exact .row _ _ _ _ _ _ _ rfl (hwk.symm) | exact .lstrow _ _ _ _ _ _ _ rfl (hwk.symm) | exact .nilrow _ _ _ _ _ (hwk.symm) | exact .truncrow _ _ _ _ _ _ _ _ rfl (by omega) (hwk.symm))⟩, trivial⟩))
    have hd3 := of_decide_eq_false hd3
    obtain rfl : k = l.length := by omega
    have hwl := hol l.length
    rw [hoe] at hwl ⊢
    conv => whnf
    repeat (first | (refine And.intro ⟨by omega, by omega⟩ ?_; conv => whnf) | (refine And.intro (by omega) (And.intro rfl ?_); conv => whnf) | (refine And.intro rfl ?_; conv => whnf) | (refine And.intro (fun _ => ⟨by omega, by omega⟩) ?_; conv => whnf) | (refine And.intro (fun _ => by omega) (And.intro rfl ?_); conv => whnf) | (refine And.intro ⟨(by first | omega | (simp; omega)), (by first | omega | (simp; omega))⟩ ?_; conv => whnf) | (refine Exists.intro _ (And.intro rfl (And.intro (by first | omega | (simp; omega)) (And.intro ⟨rfl, rfl, rfl, rfl, rfl⟩ ?_))); conv => whnf) | (refine And.intro ⟨rfl, rfl⟩ (And.intro (by first | omega | (simp; omega)) ?_); conv => whnf) | (refine Exists.intro _ (And.intro rfl ?_); conv => whnf) | (refine And.intro (fun _ => ?_) (fun h => absurd h (by decide)); conv => whnf) | (refine And.intro (fun h => absurd h (by decide)) (fun _ => ?_); conv => whnf) | (refine .quiet (by kernel_rfl) ?_; conv => whnf))
    refine loop_up (cxOk _ _) q.length (fun k => ∀ j, j < k → q.getD j [] ∈ Nn) (fun k => ⟨[(0, encXs l), (4, .own 0), (6, .own 1), (7, .int .i64 (i : Nat)), (8, .own 2), (9, .own 3), (11, .int .i64 (k : Nat))], [(0, .row 9 1 encS [] Nn), (1, .row 24 1 encIs [] G), (2, .row 9 1 encS [] q), (3, .row 3 1 encI 0 (cs (nxt l i)))], 4⟩) (by intro j hj; omega) ((wk_of [(0, .id 0), (1, .id 1), (2, .id 2), (3, .id 3)] rfl ⟨.base (.tree _ _ rfl rfl), (by first | exact .base (.own _ _ rfl) | exact .base (.nilown _ rfl) | exact .base (.trunc _ _ _ rfl)), (by first | exact .base (.own _ _ rfl) | exact .base (.nilown _ rfl) | exact .base (.trunc _ _ _ rfl)), .base (.tree _ _ rfl rfl), (by first | exact .base (.own _ _ rfl) | exact .base (.nilown _ rfl) | exact .base (.trunc _ _ _ rfl)), (by first | exact .base (.own _ _ rfl) | exact .base (.nilown _ rfl) | exact .base (.trunc _ _ _ rfl)), .base (.tree _ _ rfl rfl), trivial⟩ ⟨⟨_, rfl, (by first | exact .row _ _ _ _ _ _ _ rfl rfl | exact .lstrow _ _ _ _ _ _ _ rfl rfl | exact .nilrow _ _ _ _ _ rfl | exact .truncrow _ _ _ _ _ _ _ _ rfl (by omega) rfl)⟩, ⟨_, rfl, (by first | exact .row _ _ _ _ _ _ _ rfl rfl | exact .lstrow _ _ _ _ _ _ _ rfl rfl | exact .nilrow _ _ _ _ _ rfl | exact .truncrow _ _ _ _ _ _ _ _ rfl (by omega) rfl)⟩, ⟨_, rfl, (by first | exact .row _ _ _ _ _ _ _ rfl rfl | exact .lstrow _ _ _ _ _ _ _ rfl rfl | exact .nilrow _ _ _ _ _ rfl | exact .truncrow _ _ _ _ _ _ _ _ rfl (by omega) rfl)⟩, ⟨_, rfl, (by first | exact .row _ _ _ _ _ _ _ rfl rfl | exact .lstrow _ _ _ _ _ _ _ rfl rfl | exact .nilrow _ _ _ _ _ rfl | exact .truncrow _ _ _ _ _ _ _ _ rfl (by omega) rfl)⟩, trivial⟩)) ?_
    intro k hk2 hP4
    have hek2 : (k : Int).toNat = k := Int.toNat_natCast k
    conv => whnf
    refine ⟨fun hd4 => ?_, fun hd4 => ?_⟩
    · have hd4 := of_decide_eq_true hd4
      have hlk : k < q.length := by omega
      have hh := has_ok Nn (q.getD k []) (by omega)
      have hqk : Qt (l.getD i i0) (q.getD k []) := (hq _).1 (getD_mem hlk)
      have hmk := hm (q.getD k [])
      conv => whnf
      repeat (first | (refine And.intro ⟨by omega, by omega⟩ ?_; conv => whnf) | (refine And.intro (by omega) (And.intro rfl ?_); conv => whnf) | (refine And.intro rfl ?_; conv => whnf) | (refine And.intro (fun _ => ⟨by omega, by omega⟩) ?_; conv => whnf) | (refine And.intro (fun _ => by omega) (And.intro rfl ?_); conv => whnf) | (refine And.intro ⟨(by first | omega | (simp; omega)), (by first | omega | (simp; omega))⟩ ?_; conv => whnf) | (refine Exists.intro _ (And.intro rfl (And.intro (by first | omega | (simp; omega)) (And.intro ⟨rfl, rfl, rfl, rfl, rfl⟩ ?_))); conv => whnf) | (refine And.intro ⟨rfl, rfl⟩ (And.intro (by first | omega | (simp; omega)) ?_); conv => whnf) | (refine Exists.intro _ (And.intro rfl ?_); conv => whnf) | (refine And.intro (fun _ => ?_) (fun h => absurd h (by decide)); conv => whnf) | (refine And.intro (fun h => absurd h (by decide)) (fun _ => ?_); conv => whnf) | (refine .quiet (by kernel_rfl) ?_; conv => whnf))
      rw [hek2]
      refine .one _ _ _ (fun _ => hh) (by repeat (first | exact .nil | (apply BorL.cons; first | exact lS rfl | exact lR rfl | exact lM rfl rfl | exact lL rfl | exact lX rfl | exact lN | exact lNl | exact lSm rfl | exact lIm rfl | exact lP rfl | exact lQ rfl | exact lB rfl rfl rfl))) (by first | exact .inl rfl | exact .inr (by repeat (first | exact flats_nil | refine flats_cons (by first | exact flat_val _ rfl | exact flat_row (fun _ => rfl) | exact flat_lst (fun _ => rfl)) ?_))) (by first | exact .inr rfl | exact .inl rfl) ?_
      conv => whnf
      repeat (first | (refine And.intro ⟨by omega, by omega⟩ ?_; conv => whnf) | (refine And.intro (by omega) (And.intro rfl ?_); conv => whnf) | (refine And.intro rfl ?_; conv => whnf) | (refine And.intro (fun _ => ⟨by omega, by omega⟩) ?_; conv => whnf) | (refine And.intro (fun _ => by omega) (And.intro rfl ?_); conv => whnf) | (refine And.intro ⟨(by first | omega | (simp; omega)), (by first | omega | (simp; omega))⟩ ?_; conv => whnf) | (refine Exists.intro _ (And.intro rfl (And.intro (by first | omega | (simp; omega)) (And.intro ⟨rfl, rfl, rfl, rfl, rfl⟩ ?_))); conv => whnf) | (refine And.intro ⟨rfl, rfl⟩ (And.intro (by first | omega | (simp; omega)) ?_); conv => whnf) | (refine Exists.intro _ (And.intro rfl ?_); conv => whnf) | (refine And.intro (fun _ => ?_) (fun h => absurd h (by decide)); conv => whnf) | (refine And.intro (fun h => absurd h (by decide)) (fun _ => ?_); conv => whnf) | (refine .quiet (by kernel_rfl) ?_; conv => whnf))
      by_cases hin : q.getD k [] ∈ Nn
      · rw [decide_eq_true hin]
        refine ⟨fun h => (by cases h), fun _ => ?_⟩
        conv => whnf
        repeat (first | (refine And.intro ⟨by omega, by omega⟩ ?_; conv => whnf) | (refine And.intro (by omega) (And.intro rfl ?_); conv => whnf) | (refine And.intro rfl ?_; conv => whnf) | (refine And.intro (fun _ => ⟨by omega, by omega⟩) ?_; conv => whnf) | (refine And.intro (fun _ => by omega) (And.intro rfl ?_); conv => whnf) | (refine And.intro ⟨(by first | omega | (simp; omega)), (by first | omega | (simp; omega))⟩ ?_; conv => whnf) | (refine Exists.intro _ (And.intro rfl (And.intro (by first | omega | (simp; omega)) (And.intro ⟨rfl, rfl, rfl, rfl, rfl⟩ ?_))); conv => whnf) | (refine And.intro ⟨rfl, rfl⟩ (And.intro (by first | omega | (simp; omega)) ?_); conv => whnf) | (refine Exists.intro _ (And.intro rfl ?_); conv => whnf) | (refine And.intro (fun _ => ?_) (fun h => absurd h (by decide)); conv => whnf) | (refine And.intro (fun h => absurd h (by decide)) (fun _ => ?_); conv => whnf) | (refine .quiet (by kernel_rfl) ?_; conv => whnf))
        refine up hlk (fun j hj => ?_) ((wk_of [(0, .id 0), (1, .id 1), (2, .id 2), (3, .id 3)] rfl ⟨.base (.tree _ _ rfl rfl), (by first | exact .base (.own _ _ rfl) | exact .base (.nilown _ rfl) | exact .base (.trunc _ _ _ rfl)), (by first | exact .base (.own _ _ rfl) | exact .base (.nilown _ rfl) | exact .base (.trunc _ _ _ rfl)), .base (.tree _ _ rfl rfl), (by first | exact .base (.own _ _ rfl) | exact .base (.nilown _ rfl) | exact .base (.trunc _ _ _ rfl)), (by first | exact .base (.own _ _ rfl) | exact .base (.nilown _ rfl) | exact .base (.trunc _ _ _ rfl)), .base (.tree _ _ rfl rfl), trivial⟩ ⟨⟨_, rfl, (by first | exact .row _ _ _ _ _ _ _ rfl rfl | exact .lstrow _ _ _ _ _ _ _ rfl rfl | exact .nilrow _ _ _ _ _ rfl | exact .truncrow _ _ _ _ _ _ _ _ rfl (by omega) rfl)⟩, ⟨_, rfl, (by first | exact .row _ _ _ _ _ _ _ rfl rfl | exact .lstrow _ _ _ _ _ _ _ rfl rfl | exact .nilrow _ _ _ _ _ rfl | exact .truncrow _ _ _ _ _ _ _ _ rfl (by omega) rfl)⟩, ⟨_, rfl, (by first | exact .row _ _ _ _ _ _ _ rfl rfl | exact .lstrow _ _ _ _ _ _ _ rfl rfl | exact .nilrow _ _ _ _ _ rfl | exact .truncrow _ _ _ _ _ _ _ _ rfl (by omega) rfl)⟩, ⟨_, rfl, (by first | exact .row _ _ _ _ _ _ _ rfl rfl | exact .lstrow _ _ _ _ _ _ _ rfl rfl | exact .nilrow _ _ _ _ _ rfl | exact .truncrow _ _ _ _ _ _ _ _ rfl (by omega) rfl)⟩, trivial⟩))
        by_cases e : j = k
        · subst e; exact hin
        · exact hP4 j (by omega)
      · have hK : ¬ Known l := fun h => hin (hmk.2 (h i hlt _ hqk))
        have hE : errG l = 11 := by unfold errG; rw [if_pos hlen, if_pos hO, if_neg hK]
        rw [decide_eq_false hin]
        refine ⟨fun _ => ?_, fun h => (by cases h)⟩
        conv => whnf
        refine ⟨_, Wk.refl _, ?_⟩
        conv => whnf
        unfold rG
        rw [hE]
        rfl
    have hd4 := of_decide_eq_false hd4
    obtain rfl : k = q.length := by omega
    conv => whnf
    repeat (first | (refine And.intro ⟨by omega, by omega⟩ ?_; conv => whnf) | (refine And.intro (by omega) (And.intro rfl ?_); conv => whnf) | (refine And.intro rfl ?_; conv => whnf) | (refine And.intro (fun _ => ⟨by omega, by omega⟩) ?_; conv => whnf) | (refine And.intro (fun _ => by omega) (And.intro rfl ?_); conv => whnf) | (refine And.intro ⟨(by first | omega | (simp; omega)), (by first | omega | (simp; omega))⟩ ?_; conv => whnf) | (refine Exists.intro _ (And.intro rfl (And.intro (by first | omega | (simp; omega)) (And.intro ⟨rfl, rfl, rfl, rfl, rfl⟩ ?_))); conv => whnf) | (refine And.intro ⟨rfl, rfl⟩ (And.intro (by first | omega | (simp; omega)) ?_); conv => whnf) | (refine Exists.intro _ (And.intro rfl ?_); conv => whnf) | (refine And.intro (fun _ => ?_) (fun h => absurd h (by decide)); conv => whnf) | (refine And.intro (fun h => absurd h (by decide)) (fun _ => ?_); conv => whnf) | (refine .quiet (by kernel_rfl) ?_; conv => whnf))
    refine ⟨⟨rfl, rfl⟩, (show (G.length + 1) * 24 ≤ 140737488355328 by omega), ?_⟩
    conv => whnf
    refine ⟨cs (nxt l i), rfl, ?_⟩
    conv => whnf
    repeat (first | (refine And.intro ⟨by omega, by omega⟩ ?_; conv => whnf) | (refine And.intro (by omega) (And.intro rfl ?_); conv => whnf) | (refine And.intro rfl ?_; conv => whnf) | (refine And.intro (fun _ => ⟨by omega, by omega⟩) ?_; conv => whnf) | (refine And.intro (fun _ => by omega) (And.intro rfl ?_); conv => whnf) | (refine And.intro ⟨(by first | omega | (simp; omega)), (by first | omega | (simp; omega))⟩ ?_; conv => whnf) | (refine Exists.intro _ (And.intro rfl (And.intro (by first | omega | (simp; omega)) (And.intro ⟨rfl, rfl, rfl, rfl, rfl⟩ ?_))); conv => whnf) | (refine And.intro ⟨rfl, rfl⟩ (And.intro (by first | omega | (simp; omega)) ?_); conv => whnf) | (refine Exists.intro _ (And.intro rfl ?_); conv => whnf) | (refine And.intro (fun _ => ?_) (fun h => absurd h (by decide)); conv => whnf) | (refine And.intro (fun h => absurd h (by decide)) (fun _ => ?_); conv => whnf) | (refine .quiet (by kernel_rfl) ?_; conv => whnf))
    refine up hlt (fun j hj => ?_) ((wk_of [(0, .id 0), (1, .id 5)] rfl ⟨.base (.tree _ _ rfl rfl), (by first | exact .base (.own _ _ rfl) | exact .base (.nilown _ rfl) | exact .base (.trunc _ _ _ rfl)), (by first | exact .base (.own _ _ rfl) | exact .base (.nilown _ rfl) | exact .base (.trunc _ _ _ rfl)), .base (.tree _ _ rfl rfl), trivial⟩ ⟨⟨_, rfl, (by first | exact .row _ _ _ _ _ _ _ rfl rfl | exact .lstrow _ _ _ _ _ _ _ rfl rfl | exact .nilrow _ _ _ _ _ rfl | exact .truncrow _ _ _ _ _ _ _ _ rfl (by omega) rfl)⟩, ⟨_, rfl, (by first | exact .row _ _ _ _ _ _ _ rfl (hNi.symm.trans hG'.symm) | exact .lstrow _ _ _ _ _ _ _ rfl (hNi.symm.trans hG'.symm) | exact .nilrow _ _ _ _ _ (hNi.symm.trans hG'.symm) | exact .truncrow _ _ _ _ _ _ _ _ rfl (by omega) (hNi.symm.trans hG'.symm))⟩, trivial⟩))
    by_cases e : j = i
    · subst e
      intro s hs
      obtain ⟨n, hn, e2⟩ := mem_getD (d := []) ((hq s).2 hs)
      have := hP4 n hn
      rw [e2] at this
      exact (hm s).1 this
    · exact hP2 j (by omega)
  have hd2 := of_decide_eq_false hd2
  obtain rfl : i = l.length := by omega
  have hK : Known l := hP2
  have hE : errG l = 0 := by unfold errG; rw [if_pos hlen, if_pos hO, if_pos hK]
  conv => whnf
  refine ⟨_, wk_frz [1], ?_⟩
  conv => whnf
  unfold rG
  rw [hE]
  rfl

end Go.Proofs.Ytmcgfkkagijcmaa
