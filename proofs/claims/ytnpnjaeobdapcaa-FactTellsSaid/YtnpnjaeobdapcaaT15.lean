import Derived.Test.YtnpnjaeobdapcaaT11
import Derived.Test.YtnpnjaeobdapcaaT14
import Derived.Test.YtnpnjaeobdapcaaOwnZ3
namespace Go.Proofs.Ytnpnjaeobdapcaa
open Go.Own Go.Shelf Go.Proofs Go.RowKit
set_option maxHeartbeats 1000000
set_option maxRecDepth 100000

theorem sorts_c (m : Nat) : AnyZ.SortsIn Try.prog Try.sortedA_ren Fence.wide m :=
  ⟨fun blk off cap ss W hH hblk hsz => callsIn_wide.2 (AnyM.slices_Sort_string Try.sortA blk off cap ss W hH hblk hsz),
   fun p cap W => callsIn_wide.2 (AnyM.slices_Sort_string_none Try.sortA p cap W)⟩

theorem keys_c {a : AV} (ha : (∃ id, a = .map id) ∨ a = .nilm) (H : Heap) (nx : Nat) :
    CallSem Try.prog 32 [a] H nx [] (fun r => r = ⟨.fn (.func 38) [] [.ptr nx 0], [], [(nx, .cells 50 [a])], nx + 1⟩) :=
  keys_sem (ρ := Try.keysA_ren) Try.keysA (fn := Try.f32) Try.func32 rfl (by decide) ha H nx

theorem sorted_c {H : Heap} {nx bid id : Nat} {V : Type} {ev : V → AV} {dv : V} {es : List (List UInt8 × V)} (hbox : lkH H bid = .cells 50 [.map id]) (hmap : lkH H id = .smap ev dv es) (hlen : ∀ p ∈ es, p.1.length ≤ maxLen) (hmax : es.length ≤ 1000000) :
    CallSem Try.prog 31 [.fn (.func 38) [] [.ptr bid 0]] H nx [bid, id] (fun r => r = ⟨.own nx, [bid, id], [(nx, .row 9 1 encS [] (keysS es))], nx + 1⟩) :=
  sortedKeys_sem (ρ := Try.keysA_ren) (ρs := Try.sortedA_ren) Try.keysA Try.sortedA sorts_c (fn6 := Try.f31) Try.func31 rfl (by decide) (enters_of Try.func37 (by kernel_rfl) rfl) (enters_of Try.func38 (by kernel_rfl) rfl) rfl (et := 9) rfl (by kernel_rfl) hbox hmap encS [] (fun _ => rfl) hlen hmax

theorem sorted_nil_c {H : Heap} {nx bid : Nat} (hbox : lkH H bid = .cells 50 [.nilm]) :
    CallSem Try.prog 31 [.fn (.func 38) [] [.ptr bid 0]] H nx [bid] (fun r => r = ⟨.nils, [bid], [], nx⟩) :=
  sortedKeys_nil_sem (ρ := Try.keysA_ren) (ρs := Try.sortedA_ren) Try.keysA Try.sortedA sorts_c (fn6 := Try.f31) Try.func31 rfl (by decide) (enters_of Try.func37 (by kernel_rfl) rfl) (enters_of Try.func38 (by kernel_rfl) rfl) hbox

/-! ### The map of what is known -/

theorem mset_mem {K V : Type} [DecidableEq K] : ∀ {m : List (K × V)} {k : K} {x : V} {p : K × V}, p ∈ mset m k x → p ∈ m ∨ p = (k, x)
  | [], k, x, p, h => by simp [mset] at h; exact .inr h
  | (a, v) :: m, k, x, p, h => by
    unfold mset at h
    split at h
    · rcases List.mem_cons.1 h with h | h
      · exact .inr h
      · exact .inl (by simp [h])
    · rcases List.mem_cons.1 h with h | h
      · exact .inl (by simp [h])
      · rcases mset_mem h with h | h
        · exact .inl (by simp [h])
        · exact .inr h

theorem mset_len {K V : Type} [DecidableEq K] : ∀ (m : List (K × V)) (k : K) (x : V), (mset m k x).length ≤ m.length + 1
  | [], k, x => by simp [mset]
  | (a, v) :: m, k, x => by
    have := mset_len m k x
    unfold mset
    split <;> simp <;> omega

theorem mset_nodup {K V : Type} [DecidableEq K] : ∀ {m : List (K × V)} {k : K} {x : V}, (m.map (·.1)).Nodup → ((mset m k x).map (·.1)).Nodup
  | [], k, x, h => by simp [mset]
  | (a, v) :: m, k, x, h => by
    simp only [List.map_cons, List.nodup_cons] at h
    unfold mset
    split
    · rename_i e
      subst e
      simpa using h
    · rename_i e
      simp only [List.map_cons, List.nodup_cons]
      refine ⟨fun hin => ?_, mset_nodup h.2⟩
      obtain ⟨p, hp, hpa⟩ := List.mem_map.1 hin
      rcases mset_mem hp with hp | hp
      · exact h.1 (List.mem_map.2 ⟨p, hp, hpa⟩)
      · subst hp
        exact e hpa.symm

theorem known_inv (issuer period day : Int) (l : List Fact) : (knownM issuer period day l).length ≤ l.length ∧ ((knownM issuer period day l).map (·.1)).Nodup ∧ ∀ p ∈ knownM issuer period day l, p.2 ∈ l ∧ p.1 = p.2.name := by
  have key : ∀ (l : List Fact) (m : List (List UInt8 × Fact)) (L : List Fact), (m.map (·.1)).Nodup → (∀ p ∈ m, p.2 ∈ L ∧ p.1 = p.2.name) → (∀ f ∈ l, f ∈ L) →
      (l.foldl (known1 issuer period day) m).length ≤ m.length + l.length ∧ ((l.foldl (known1 issuer period day) m).map (·.1)).Nodup ∧ ∀ p ∈ l.foldl (known1 issuer period day) m, p.2 ∈ L ∧ p.1 = p.2.name := by
    intro l
    induction l with
    | nil => intro m L h1 h2 h3; exact ⟨by simp, h1, h2⟩
    | cons f l ih =>
      intro m L h1 h2 h3
      have step : (known1 issuer period day m f).length ≤ m.length + 1 ∧ ((known1 issuer period day m f).map (·.1)).Nodup ∧ ∀ p ∈ known1 issuer period day m f, p.2 ∈ L ∧ p.1 = p.2.name := by
        unfold known1
        split
        · exact ⟨by omega, h1, h2⟩
        · split
          · refine ⟨mset_len _ _ _, mset_nodup h1, fun p hp => ?_⟩
            rcases mset_mem hp with hp | hp
            · exact h2 p hp
            · subst hp
              exact ⟨h3 f (by simp), rfl⟩
          · exact ⟨by omega, h1, h2⟩
      obtain ⟨s1, s2, s3⟩ := step
      obtain ⟨r1, r2, r3⟩ := ih (known1 issuer period day m f) L s2 s3 (fun g hg => h3 g (by simp [hg]))
      refine ⟨?_, r2, r3⟩
      simp only [List.foldl_cons, List.length_cons]
      omega
  have := key l [] l (by simp) (by simp) (fun f h => h)
  simpa [knownM] using this

theorem keysS_mem {V : Type} {es : List (List UInt8 × V)} {s : List UInt8} : s ∈ keysS es ↔ ∃ v, (s, v) ∈ es := by
  unfold keysS
  rw [List.mem_mergeSort]
  simp

theorem keysS_len {V : Type} (es : List (List UInt8 × V)) : (keysS es).length = es.length := by
  unfold keysS
  rw [List.length_mergeSort, List.length_map]

/-- A slice of numbers. -/
def encI (n : Int) : AV := .int .i64 n
def encIs (l : List Int) : AV := .sl 1 encI 0 l

def namesOf (issuer period day : Int) (l : List Fact) : List (List UInt8) := keysS (knownM issuer period day l)
def valuesOf (issuer period day : Int) (l : List Fact) : List Int := (namesOf issuer period day l).map fun s => ((mget (knownM issuer period day l) s).getD f0).value

theorem known_ok (l : List Fact) (hl : Fits l) (h20 : l.length ≤ 1000000) (issuer period day : Int) :
    APure Try.prog 15 [encFs l, .int .i64 issuer, .int .i64 period, .int .i64 day] (fun rs => rs = if rightB l = true then [.new (.row 9 1 encS [] (namesOf issuer period day l)), .new (.row 3 1 encI 0 (valuesOf issuer period day l))] else [.val .nils, .val .nils]) := by
  obtain ⟨k1, k2, k3⟩ := known_inv issuer period day l
  have hc := collect_ok l hl issuer period day
  unfold valuesOf namesOf
  generalize knownM issuer period day l = M at *
  refine apure_of (C := cx 39 [0, 1, 2, 3, 8, 9, 10, 11, 12, 14, 23, 24, 25, 26]) (cxOk _ _) Try.func15 rfl (by decide) rfl (by exact Nat.le_of_ble_eq_true rfl) (by decide) ?_
  conv => whnf
  by_cases hR : rightB l = true
  · rw [if_pos hR] at hc
    refine .one _ _ _ (fun _ => hc) (by repeat (first | exact .nil | (apply BorL.cons; first | exact lS rfl | exact lR rfl | exact lM rfl rfl | exact lL rfl | exact lX rfl | exact lN | exact lNl | exact lSm rfl | exact lIm rfl | exact lP rfl | exact lQ rfl))) (by first | exact .inl rfl | exact .inr (by repeat (first | exact flats_nil | refine flats_cons (by first | exact flat_val _ rfl | exact flat_row (fun _ => rfl) | exact flat_lst (fun _ => rfl)) ?_))) (by first | exact .inl rfl | exact .inr rfl) ?_
    conv => whnf
    refine .raw _ _ rfl (fun h => by cases h) (keys_c (.inl ⟨_, rfl⟩) _ _) ?_
    rintro r rfl
    refine ⟨Nat.le_succ _, ?_⟩
    conv => whnf
    refine .raw _ _ rfl (fun h => by cases h) (sorted_c (bid := 1) (id := 0) rfl rfl (fun p hp => ?_) (by omega)) ?_
    · obtain ⟨h1, h2⟩ := k3 p hp
      rw [h2]
      exact hl.2 _ h1
    rintro r rfl
    refine ⟨Nat.le_succ _, ?_⟩
    conv => whnf
    have hN := keysS_len M
    generalize keysS M = N at *
    refine loop_up (cxOk _ _) N.length (fun _ => True) (fun k => ⟨[(10, .map 0), (11, .own 1), (12, .own 2), (23, .own 1), (24, .int .i64 N.length), (25, .int .i64 (k : Nat))], [(0, .smap encF f0 M), (1, .row 9 1 encS [] N), (2, .row 3 1 encI 0 ((N.take k).map fun s => ((mget M s).getD f0).value))], 3⟩) trivial ((wk_of [(0, .id 0), (1, .id 2), (2, .nil)] rfl ⟨.base (.map _ _ rfl), (by first | exact .base (.own _ _ rfl) | exact .base (.nilown _ rfl) | exact .base (.trunc _ _ _ rfl)), (by first | exact .base (.own _ _ rfl) | exact .base (.nilown _ rfl) | exact .base (.trunc _ _ _ rfl)), (by first | exact .base (.own _ _ rfl) | exact .base (.nilown _ rfl) | exact .base (.trunc _ _ _ rfl)), .base (.tree _ _ rfl rfl), .base (.tree _ _ rfl rfl), trivial⟩ ⟨⟨_, rfl, (by first | exact .smap _ _ _ _ _ rfl rfl | exact .newsmap _ _ _ _ _ _ _ rfl rfl rfl)⟩, ⟨_, rfl, (by first | exact .row _ _ _ _ _ _ _ rfl rfl | exact .lstrow _ _ _ _ _ _ _ rfl rfl | exact .nilrow _ _ _ _ _ rfl | exact .truncrow _ _ _ _ _ _ _ _ rfl (by omega) rfl)⟩, ⟨_, rfl, (by first | exact .row _ _ _ _ _ _ _ rfl rfl | exact .lstrow _ _ _ _ _ _ _ rfl rfl | exact .nilrow _ _ _ _ _ rfl | exact .truncrow _ _ _ _ _ _ _ _ rfl (by omega) rfl)⟩, trivial⟩)) ?_
    intro k hk _
    conv => whnf
    refine ⟨fun hc => ?_, fun hc => ?_⟩
    · simp only [decide_eq_true_eq] at hc
      have hlt : k < N.length := by omega
      have hstep : (N.take (k + 1)).map (fun s => ((mget M s).getD f0).value) = (N.take k).map (fun s => ((mget M s).getD f0).value) ++ [((mget M (N.getD k [])).getD f0).value] := by
        rw [take_getD (d := []) hlt, List.map_append]
        rfl
      have hlenT : ((N.take k).map fun s => ((mget M s).getD f0).value).length ≤ 1000000 := by simp; omega
      conv => whnf
      repeat (first | (refine And.intro ⟨by omega, by omega⟩ ?_; conv => whnf) | (refine And.intro (by omega) (And.intro rfl ?_); conv => whnf) | (refine And.intro rfl ?_; conv => whnf) | (refine And.intro (fun _ => ⟨by omega, by omega⟩) ?_; conv => whnf) | (refine And.intro (fun _ => by omega) (And.intro rfl ?_); conv => whnf) | (refine And.intro ⟨(by first | omega | (simp; omega)), (by first | omega | (simp; omega))⟩ ?_; conv => whnf) | (refine Exists.intro _ (And.intro rfl (And.intro (by first | omega | (simp; omega)) (And.intro ⟨rfl, rfl, rfl, rfl, rfl⟩ ?_))); conv => whnf) | (refine And.intro ⟨rfl, rfl⟩ (And.intro (by first | omega | (simp; omega)) ?_); conv => whnf) | (refine Exists.intro _ (And.intro rfl ?_); conv => whnf) | (refine And.intro (fun _ => ?_) (fun h => absurd h (by decide)); conv => whnf) | (refine And.intro (fun h => absurd h (by decide)) (fun _ => ?_); conv => whnf) | (refine .quiet (by kernel_rfl) ?_; conv => whnf))
      refine And.intro ⟨rfl, rfl⟩ (And.intro (show (((N.take k).map fun s => ((mget M s).getD f0).value).length + 1) * 8 ≤ 140737488355328 by omega) ?_)
      conv => whnf
      refine ⟨((mget M (N.getD k [])).getD f0).value, by simp only [Int.toNat_natCast]; rfl, ?_⟩
      conv => whnf
      repeat (first | (refine And.intro ⟨by omega, by omega⟩ ?_; conv => whnf) | (refine And.intro (by omega) (And.intro rfl ?_); conv => whnf) | (refine And.intro rfl ?_; conv => whnf) | (refine And.intro (fun _ => ⟨by omega, by omega⟩) ?_; conv => whnf) | (refine And.intro (fun _ => by omega) (And.intro rfl ?_); conv => whnf) | (refine And.intro ⟨(by first | omega | (simp; omega)), (by first | omega | (simp; omega))⟩ ?_; conv => whnf) | (refine Exists.intro _ (And.intro rfl (And.intro (by first | omega | (simp; omega)) (And.intro ⟨rfl, rfl, rfl, rfl, rfl⟩ ?_))); conv => whnf) | (refine And.intro ⟨rfl, rfl⟩ (And.intro (by first | omega | (simp; omega)) ?_); conv => whnf) | (refine Exists.intro _ (And.intro rfl ?_); conv => whnf) | (refine And.intro (fun _ => ?_) (fun h => absurd h (by decide)); conv => whnf) | (refine And.intro (fun h => absurd h (by decide)) (fun _ => ?_); conv => whnf) | (refine .quiet (by kernel_rfl) ?_; conv => whnf))
      refine up hlt trivial ((wk_of [(0, .id 0), (1, .id 1), (2, .id 4)] rfl ⟨.base (.map _ _ rfl), (by first | exact .base (.own _ _ rfl) | exact .base (.nilown _ rfl) | exact .base (.trunc _ _ _ rfl)), (by first | exact .base (.own _ _ rfl) | exact .base (.nilown _ rfl) | exact .base (.trunc _ _ _ rfl)), (by first | exact .base (.own _ _ rfl) | exact .base (.nilown _ rfl) | exact .base (.trunc _ _ _ rfl)), .base (.tree _ _ rfl rfl), .base (.tree _ _ rfl rfl), trivial⟩ ⟨⟨_, rfl, (by first | exact .smap _ _ _ _ _ rfl rfl | exact .newsmap _ _ _ _ _ _ _ rfl rfl rfl)⟩, ⟨_, rfl, (by first | exact .row _ _ _ _ _ _ _ rfl rfl | exact .lstrow _ _ _ _ _ _ _ rfl rfl | exact .nilrow _ _ _ _ _ rfl | exact .truncrow _ _ _ _ _ _ _ _ rfl (by omega) rfl)⟩, ⟨_, rfl, (by first | exact .row _ _ _ _ _ _ _ rfl hstep.symm | exact .lstrow _ _ _ _ _ _ _ rfl hstep.symm | exact .nilrow _ _ _ _ _ hstep.symm | exact .truncrow _ _ _ _ _ _ _ _ rfl (by omega) hstep.symm)⟩, trivial⟩))
    · simp only [decide_eq_false_iff_not] at hc
      have : k = N.length := by omega
      subst this
      rw [List.take_length]
      conv => whnf
      rw [if_pos hR]
      rfl
  · rw [if_neg hR] at hc
    refine .one _ _ _ (fun _ => hc) (by repeat (first | exact .nil | (apply BorL.cons; first | exact lS rfl | exact lR rfl | exact lM rfl rfl | exact lL rfl | exact lX rfl | exact lN | exact lNl | exact lSm rfl | exact lIm rfl | exact lP rfl | exact lQ rfl))) (by first | exact .inl rfl | exact .inr (by repeat (first | exact flats_nil | refine flats_cons (by first | exact flat_val _ rfl | exact flat_row (fun _ => rfl) | exact flat_lst (fun _ => rfl)) ?_))) (by first | exact .inl rfl | exact .inr rfl) ?_
    conv => whnf
    refine .raw _ _ rfl (fun h => by cases h) (keys_c (.inr rfl) _ _) ?_
    rintro r rfl
    refine ⟨Nat.le_succ _, ?_⟩
    conv => whnf
    refine .raw _ _ rfl (fun h => by cases h) (sorted_nil_c (bid := 0) rfl) ?_
    rintro r rfl
    refine ⟨Nat.le_refl _, ?_⟩
    conv => whnf
    refine loop_up (cxOk _ _) 0 (fun _ => True) (fun k => ⟨[(11, .nils), (12, .nils), (24, .int .i64 0), (25, .int .i64 (k : Nat))], [], 0⟩) trivial (wk_of [] rfl ⟨.base (.tree _ _ rfl rfl), .base (.tree _ _ rfl rfl), .base (.tree _ _ rfl rfl), .base (.tree _ _ rfl rfl), trivial⟩ trivial) ?_
    intro k hk _
    conv => whnf
    refine ⟨fun hc => ?_, fun hc => ?_⟩
    · exfalso
      simp only [decide_eq_true_eq] at hc
      omega
    · conv => whnf
      rw [if_neg hR]
      rfl

end Go.Proofs.Ytnpnjaeobdapcaa
