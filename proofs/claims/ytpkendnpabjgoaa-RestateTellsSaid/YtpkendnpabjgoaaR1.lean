import Derived.Test.YtpkendnpabjgoaaProg
import Derived.Test.YtpkendnpabjgoaaOwnZ4
import Derived.KernelRfl
namespace Go.Proofs.Ytpkendnpabjgoaa
open Go.Own
/-- What is told of the types. -/
def tab : Tab := [
  (3, { desc := .int .i64, size := 1, bytes := 8, zero := .int .i64 0 }),
  (4, { desc := .bool, size := 1, bytes := 1, zero := .bool false }),
  (5, { desc := .int .u8, size := 1, bytes := 1, zero := .int .u8 0 }),
  (9, { desc := .string, size := 1, bytes := 16, zero := .string ⟨#[]⟩ }),
  (22, { desc := .slice 38, size := 1, bytes := 24, zero := .slice none 0 0 }),
  (23, { desc := .slice 3, size := 1, bytes := 24, zero := .slice none 0 0 }),
  (24, { desc := .slice 44, size := 1, bytes := 24, zero := .slice none 0 0 }),
  (25, { desc := .slice 4, size := 1, bytes := 24, zero := .slice none 0 0 }),
  (28, { desc := .slice 48, size := 1, bytes := 24, zero := .slice none 0 0 }),
  (29, { desc := .int .i64, size := 1, bytes := 8, zero := .int .i64 0 }),
  (38, { desc := .struct #[{ name := "From", type := 23, offset := 0, embedded := false, tag := "", pkgPath := "", byteOffset := 0 }, { name := "Facts", type := 23, offset := 1, embedded := false, tag := "", pkgPath := "", byteOffset := 24 }], size := 2, bytes := 48, zero := .agg #[.slice none 0 0, .slice none 0 0] }),
  (44, { desc := .struct #[{ name := "Issue", type := 3, offset := 0, embedded := false, tag := "", pkgPath := "", byteOffset := 0 }, { name := "Seat", type := 3, offset := 1, embedded := false, tag := "", pkgPath := "", byteOffset := 8 }, { name := "Day", type := 3, offset := 2, embedded := false, tag := "", pkgPath := "", byteOffset := 16 }, { name := "Due", type := 3, offset := 3, embedded := false, tag := "", pkgPath := "", byteOffset := 24 }, { name := "Paid", type := 3, offset := 4, embedded := false, tag := "", pkgPath := "", byteOffset := 32 }, { name := "Period", type := 3, offset := 5, embedded := false, tag := "", pkgPath := "", byteOffset := 40 }], size := 6, bytes := 48, zero := .agg #[.int .i64 0, .int .i64 0, .int .i64 0, .int .i64 0, .int .i64 0, .int .i64 0] }),
  (46, { desc := .slice 28, size := 1, bytes := 24, zero := .slice none 0 0 }),
  (48, { desc := .struct #[{ name := "Seat", type := 3, offset := 0, embedded := false, tag := "", pkgPath := "", byteOffset := 0 }, { name := "Amount", type := 3, offset := 1, embedded := false, tag := "", pkgPath := "", byteOffset := 8 }], size := 2, bytes := 16, zero := .agg #[.int .i64 0, .int .i64 0] }),
  (52, { desc := .map 3 3, size := 1, bytes := 8, zero := .map none }),
  (57, { desc := .map 3 4, size := 1, bytes := 8, zero := .map none })]

theorem tabOk : TabOk Try.prog tab := tabOk_of ⟨by kernel_rfl, by kernel_rfl, by kernel_rfl, by kernel_rfl, by kernel_rfl, by kernel_rfl, by kernel_rfl, by kernel_rfl, by kernel_rfl, by kernel_rfl, by kernel_rfl, by kernel_rfl, by kernel_rfl, by kernel_rfl, by kernel_rfl, by kernel_rfl, trivial⟩

theorem mixed : Try.prog.follows .mixedOrders = true := by kernel_rfl

noncomputable abbrev cx (N : Nat) (keep : List Nat) : Cx := ⟨Try.prog, tab, N, keep⟩
theorem cxOk (N : Nat) (keep : List Nat) : CxOk (cx N keep) := ⟨tabOk, mixed⟩

def encI (n : Int) : AV := .int .i64 n
def encIs (l : List Int) : AV := .sl 1 encI 0 l
def encB (b : Bool) : AV := .bool b
def encBs (l : List Bool) : AV := .sl 1 encB false l
structure Val where
  froms : List Int
  facts : List Int
abbrev v0 : Val := ⟨[], []⟩
instance : Inhabited Val := ⟨v0⟩
def encV (v : Val) : AV := .agg [encIs v.froms, encIs v.facts]
def encVs (l : List Val) : AV := .sl 2 encV v0 l
structure Pay where
  issue : Int
  seat : Int
  day : Int
  due : Int
  paid : Int
  period : Int
/-- Nothing is longer than it can be. -/
def FitsV (l : List Val) : Prop := l.length ≤ 9223372036854775807 ∧ ∀ v ∈ l, v.froms.length ≤ 9223372036854775807 ∧ v.facts.length ≤ 9223372036854775807
set_option maxHeartbeats 1000000
set_option maxRecDepth 100000

/-- Does the list contain the number? -/
theorem has_ok (l : List Int) (hl : l.length ≤ 9223372036854775807) (x : Int) : APureV Try.prog 18 [encIs l, .int .i64 x] (.bool (l.any fun y => decide (y = x))) := by
  refine apure_of (C := cx 18 [0, 1, 4, 5, 9, 17]) (cxOk _ _) Try.func18 rfl (by decide) rfl (by exact Nat.le_of_ble_eq_true rfl) (by decide) ?_
  conv => whnf
  refine loop_up (cxOk _ _) l.length (fun k => (l.take k).any (fun y => decide (y = x)) = false) (fun k => ⟨[(0, encIs l), (1, .int .i64 x), (5, .int .i64 (k : Nat))], [], 0⟩) (by simp) (wk_of [] rfl ⟨.base (.tree _ _ rfl rfl), .base (.tree _ _ rfl rfl), .base (.tree _ _ rfl rfl), trivial⟩ trivial) ?_
  intro k hk hP
  conv => whnf
  refine ⟨fun hc => ?_, fun hc => ?_⟩
  · simp only [decide_eq_true_eq] at hc
    have hlt : k < l.length := by omega
    conv => whnf
    repeat (first | (refine And.intro ⟨by omega, by omega⟩ ?_; conv => whnf) | (refine And.intro (by omega) (And.intro rfl ?_); conv => whnf) | (refine And.intro rfl ?_; conv => whnf) | (refine And.intro (fun _ => ⟨by omega, by omega⟩) ?_; conv => whnf) | (refine And.intro (fun _ => by omega) (And.intro rfl ?_); conv => whnf) | (refine And.intro ⟨(by first | omega | (simp; omega)), (by first | omega | (simp; omega))⟩ ?_; conv => whnf) | (refine Exists.intro _ (And.intro rfl (And.intro (by first | omega | (simp; omega)) (And.intro ⟨rfl, rfl, rfl, rfl, rfl⟩ ?_))); conv => whnf) | (refine And.intro ⟨rfl, rfl⟩ (And.intro (by first | omega | (simp; omega)) ?_); conv => whnf) | (refine Exists.intro _ (And.intro rfl ?_); conv => whnf) | (refine And.intro (fun _ => ?_) (fun h => absurd h (by decide)); conv => whnf) | (refine And.intro (fun h => absurd h (by decide)) (fun _ => ?_); conv => whnf) | (refine .quiet (by kernel_rfl) ?_; conv => whnf))
    refine ⟨fun hd => ?_, fun hd => ?_⟩
    · conv => whnf
      simp only [Int.toNat_natCast, decide_eq_true_eq] at hd
      have : l.any (fun y => decide (y = x)) = true := List.any_eq_true.2 ⟨_, getD_mem hlt, by simpa using hd⟩
      rw [this]
      rfl
    · conv => whnf
      repeat (first | (refine And.intro ⟨by omega, by omega⟩ ?_; conv => whnf) | (refine And.intro (by omega) (And.intro rfl ?_); conv => whnf) | (refine And.intro rfl ?_; conv => whnf) | (refine And.intro (fun _ => ⟨by omega, by omega⟩) ?_; conv => whnf) | (refine And.intro (fun _ => by omega) (And.intro rfl ?_); conv => whnf) | (refine And.intro ⟨(by first | omega | (simp; omega)), (by first | omega | (simp; omega))⟩ ?_; conv => whnf) | (refine Exists.intro _ (And.intro rfl (And.intro (by first | omega | (simp; omega)) (And.intro ⟨rfl, rfl, rfl, rfl, rfl⟩ ?_))); conv => whnf) | (refine And.intro ⟨rfl, rfl⟩ (And.intro (by first | omega | (simp; omega)) ?_); conv => whnf) | (refine Exists.intro _ (And.intro rfl ?_); conv => whnf) | (refine And.intro (fun _ => ?_) (fun h => absurd h (by decide)); conv => whnf) | (refine And.intro (fun h => absurd h (by decide)) (fun _ => ?_); conv => whnf) | (refine .quiet (by kernel_rfl) ?_; conv => whnf))
      simp only [Int.toNat_natCast, decide_eq_false_iff_not] at hd
      refine up hlt ?_ (wk_of [] rfl ⟨.base (.tree _ _ rfl rfl), .base (.tree _ _ rfl rfl), .base (.tree _ _ rfl rfl), trivial⟩ trivial)
      rw [take_getD (d := 0) hlt, List.any_append, hP]
      simpa using hd
  · simp only [decide_eq_false_iff_not] at hc
    rw [List.take_of_length_le (by omega)] at hP
    conv => whnf
    rw [hP]
    rfl

/-- Ascending, from above a number, below a limit. -/
def ascB (lim : Int) : Int → List Int → Bool
  | _, [] => true
  | last, x :: l => !(decide (x ≤ last) || decide (lim ≤ x)) && ascB lim x l

theorem asc_ok (l : List Int) (hl : l.length ≤ 9223372036854775807) (lim : Int) : APureV Try.prog 25 [encIs l, .int .i64 lim] (.bool (ascB lim (-1) l)) := by
  refine apure_of (C := cx 24 [0, 1, 4, 5, 7, 8, 9, 10, 11, 21]) (cxOk _ _) Try.func25 rfl (by decide) rfl (by exact Nat.le_of_ble_eq_true rfl) (by decide) ?_
  conv => whnf
  refine loop_inv (cxOk _ _) (σ := Nat × Int) (fun s => s.1 ≤ l.length ∧ ascB lim (-1) l = ascB lim s.2 (l.drop s.1)) (fun s => l.length - s.1) (fun s => ⟨[(1, .int .i64 lim), (5, .int .i64 ((s.2))), (8, encIs l), (9, .int .i64 l.length), (10, .int .i64 ((s.1) : Nat))], [], 0⟩) (0, -1) ⟨Nat.zero_le _, by simp⟩ (wk_of [] rfl ⟨.base (.tree _ _ rfl rfl), .base (.tree _ _ rfl rfl), .base (.tree _ _ rfl rfl), .base (.tree _ _ rfl rfl), .base (.tree _ _ rfl rfl), trivial⟩ trivial) ?_
  rintro s ⟨hk, hP⟩
  conv => whnf
  refine ⟨fun hc => ?_, fun hc => ?_⟩
  · simp only [decide_eq_true_eq] at hc
    have hlt : s.1 < l.length := by omega
    rw [List.drop_eq_getElem_cons hlt, show l[s.1] = l.getD s.1 0 by simp [List.getD, List.getElem?_eq_getElem hlt], ascB] at hP
    conv => whnf
    repeat (first | (refine And.intro ⟨by omega, by omega⟩ ?_; conv => whnf) | (refine And.intro (by omega) (And.intro rfl ?_); conv => whnf) | (refine And.intro rfl ?_; conv => whnf) | (refine And.intro (fun _ => ⟨by omega, by omega⟩) ?_; conv => whnf) | (refine And.intro (fun _ => by omega) (And.intro rfl ?_); conv => whnf) | (refine And.intro ⟨(by first | omega | (simp; omega)), (by first | omega | (simp; omega))⟩ ?_; conv => whnf) | (refine Exists.intro _ (And.intro rfl (And.intro (by first | omega | (simp; omega)) (And.intro ⟨rfl, rfl, rfl, rfl, rfl⟩ ?_))); conv => whnf) | (refine And.intro ⟨rfl, rfl⟩ (And.intro (by first | omega | (simp; omega)) ?_); conv => whnf) | (refine Exists.intro _ (And.intro rfl ?_); conv => whnf) | (refine And.intro (fun _ => ?_) (fun h => absurd h (by decide)); conv => whnf) | (refine And.intro (fun h => absurd h (by decide)) (fun _ => ?_); conv => whnf) | (refine .quiet (by kernel_rfl) ?_; conv => whnf))
    refine ⟨fun hd => ?_, fun hd => ?_⟩
    · conv => whnf
      simp only [Int.toNat_natCast] at hd
      rw [hP, hd]
      rfl
    · conv => whnf
      repeat (first | (refine And.intro ⟨by omega, by omega⟩ ?_; conv => whnf) | (refine And.intro (by omega) (And.intro rfl ?_); conv => whnf) | (refine And.intro rfl ?_; conv => whnf) | (refine And.intro (fun _ => ⟨by omega, by omega⟩) ?_; conv => whnf) | (refine And.intro (fun _ => by omega) (And.intro rfl ?_); conv => whnf) | (refine And.intro ⟨(by first | omega | (simp; omega)), (by first | omega | (simp; omega))⟩ ?_; conv => whnf) | (refine Exists.intro _ (And.intro rfl (And.intro (by first | omega | (simp; omega)) (And.intro ⟨rfl, rfl, rfl, rfl, rfl⟩ ?_))); conv => whnf) | (refine And.intro ⟨rfl, rfl⟩ (And.intro (by first | omega | (simp; omega)) ?_); conv => whnf) | (refine Exists.intro _ (And.intro rfl ?_); conv => whnf) | (refine And.intro (fun _ => ?_) (fun h => absurd h (by decide)); conv => whnf) | (refine And.intro (fun h => absurd h (by decide)) (fun _ => ?_); conv => whnf) | (refine .quiet (by kernel_rfl) ?_; conv => whnf))
      simp only [Int.toNat_natCast] at hd
      refine ⟨(s.1 + 1, l.getD s.1 0), ⟨hlt, ?_⟩, by show l.length - (s.1 + 1) < l.length - s.1; omega, (wk_of [] rfl ⟨.base (.tree _ _ rfl rfl), .base (.tree _ _ rfl rfl), .base (.tree _ _ rfl rfl), .base (.tree _ _ rfl rfl), .base (.tree _ _ rfl rfl), trivial⟩ trivial)⟩
      rw [hP, hd]
      rfl
  · simp only [decide_eq_false_iff_not] at hc
    rw [List.drop_eq_nil_of_le (by omega)] at hP
    conv => whnf
    rw [hP]
    rfl

def moneyB (n : Int) : Bool := decide (0 ≤ n) && decide (n ≤ 1000000000000000)
theorem money_ok (n : Int) : APureV Try.prog 22 [.int .i64 n] (.bool (moneyB n)) := by
  refine apure_of (C := cx 9 [0, 2]) (cxOk _ _) Try.func22 rfl (by decide) rfl (by exact Nat.le_of_ble_eq_true rfl) (by decide) ?_
  conv => whnf
  rfl

/-- Is a value right? -/
def rightV (k : Nat) (v : Val) : Bool :=
  !((!ascB k (-1) v.froms || (decide (0 < v.facts.length) && !ascB (v.facts.getD (v.facts.length - 1) 0) (-1) (v.facts.take (v.facts.length - 1)))) || (decide (0 < v.facts.length) && decide (v.facts.getD (v.facts.length - 1) 0 < 0)))
def goV : Nat → List Val → Bool
  | _, [] => true
  | k, v :: l => rightV k v && goV (k + 1) l
def rightB (l : List Val) : Bool := goV 0 l && decide ((l.length : Int) ≤ 10000)

theorem right_ok (l : List Val) (hl : FitsV l) : APureV Try.prog 12 [encVs l] (.bool (rightB l)) := by
  have hl1 := hl.1
  refine apure_of (C := cx 63 [0, 2, 3, 4, 5, 6, 7, 8, 58]) (cxOk _ _) Try.func12 rfl (by decide) rfl (by exact Nat.le_of_ble_eq_true rfl) (by decide) ?_
  conv => whnf
  refine loop_up (cxOk _ _) l.length (fun k => goV 0 l = goV k (l.drop k)) (fun k => ⟨[(0, encVs l), (5, encVs l), (6, .int .i64 l.length), (7, .int .i64 (k : Nat))], [], 0⟩) (by simp) (wk_of [] rfl ⟨.base (.tree _ _ rfl rfl), .base (.tree _ _ rfl rfl), .base (.tree _ _ rfl rfl), .base (.tree _ _ rfl rfl), trivial⟩ trivial) ?_
  intro k hk hP
  conv => whnf
  refine ⟨fun hc => ?_, fun hc => ?_⟩
  · simp only [decide_eq_true_eq] at hc
    have hlt : k < l.length := by omega
    rw [List.drop_eq_getElem_cons hlt, show l[k] = l.getD k v0 by simp [List.getD, List.getElem?_eq_getElem hlt], goV] at hP
    obtain ⟨hf1, hf2⟩ := hl.2 _ (getD_mem (d := v0) hlt)
    conv => whnf
    repeat (first | (refine And.intro ⟨by omega, by omega⟩ ?_; conv => whnf) | (refine And.intro (by omega) (And.intro rfl ?_); conv => whnf) | (refine And.intro rfl ?_; conv => whnf) | (refine And.intro (fun _ => ⟨by omega, by omega⟩) ?_; conv => whnf) | (refine And.intro (fun _ => by omega) (And.intro rfl ?_); conv => whnf) | (refine And.intro ⟨(by first | omega | (simp; omega)), (by first | omega | (simp; omega))⟩ ?_; conv => whnf) | (refine Exists.intro _ (And.intro rfl (And.intro (by first | omega | (simp; omega)) (And.intro ⟨rfl, rfl, rfl, rfl, rfl⟩ ?_))); conv => whnf) | (refine And.intro ⟨rfl, rfl⟩ (And.intro (by first | omega | (simp; omega)) ?_); conv => whnf) | (refine Exists.intro _ (And.intro rfl ?_); conv => whnf) | (refine And.intro (fun _ => ?_) (fun h => absurd h (by decide)); conv => whnf) | (refine And.intro (fun h => absurd h (by decide)) (fun _ => ?_); conv => whnf) | (refine .quiet (by kernel_rfl) ?_; conv => whnf))
    rw [Int.toNat_natCast]
    generalize l.getD k v0 = v at *
    refine .mk _ _ _ _ (fun _ => asc_ok v.froms hf1 _) (by repeat (first | exact .nil | (apply BorL.cons; first | exact lS rfl | exact lR rfl | exact lM rfl rfl | exact lL rfl | exact lX rfl | exact lN | exact lNl | exact lSm rfl | exact lIm rfl | exact lP rfl | exact lQ rfl))) rfl ?_
    conv => whnf
    repeat (first | (refine And.intro ⟨by omega, by omega⟩ ?_; conv => whnf) | (refine And.intro (by omega) (And.intro rfl ?_); conv => whnf) | (refine And.intro rfl ?_; conv => whnf) | (refine And.intro (fun _ => ⟨by omega, by omega⟩) ?_; conv => whnf) | (refine And.intro (fun _ => by omega) (And.intro rfl ?_); conv => whnf) | (refine And.intro ⟨(by first | omega | (simp; omega)), (by first | omega | (simp; omega))⟩ ?_; conv => whnf) | (refine Exists.intro _ (And.intro rfl (And.intro (by first | omega | (simp; omega)) (And.intro ⟨rfl, rfl, rfl, rfl, rfl⟩ ?_))); conv => whnf) | (refine And.intro ⟨rfl, rfl⟩ (And.intro (by first | omega | (simp; omega)) ?_); conv => whnf) | (refine Exists.intro _ (And.intro rfl ?_); conv => whnf) | (refine And.intro (fun _ => ?_) (fun h => absurd h (by decide)); conv => whnf) | (refine And.intro (fun h => absurd h (by decide)) (fun _ => ?_); conv => whnf) | (refine .quiet (by kernel_rfl) ?_; conv => whnf))
    refine And.intro (fun hg => ?_) (And.intro rfl ?_)
    · simp [andG, polB] at hg
      exact ⟨by omega, by omega, by omega⟩
    conv => whnf
    repeat (first | (refine And.intro ⟨by omega, by omega⟩ ?_; conv => whnf) | (refine And.intro (by omega) (And.intro rfl ?_); conv => whnf) | (refine And.intro rfl ?_; conv => whnf) | (refine And.intro (fun _ => ⟨by omega, by omega⟩) ?_; conv => whnf) | (refine And.intro (fun _ => by omega) (And.intro rfl ?_); conv => whnf) | (refine And.intro ⟨(by first | omega | (simp; omega)), (by first | omega | (simp; omega))⟩ ?_; conv => whnf) | (refine Exists.intro _ (And.intro rfl (And.intro (by first | omega | (simp; omega)) (And.intro ⟨rfl, rfl, rfl, rfl, rfl⟩ ?_))); conv => whnf) | (refine And.intro ⟨rfl, rfl⟩ (And.intro (by first | omega | (simp; omega)) ?_); conv => whnf) | (refine Exists.intro _ (And.intro rfl ?_); conv => whnf) | (refine And.intro (fun _ => ?_) (fun h => absurd h (by decide)); conv => whnf) | (refine And.intro (fun h => absurd h (by decide)) (fun _ => ?_); conv => whnf) | (refine .quiet (by kernel_rfl) ?_; conv => whnf))
    refine And.intro (fun hg => ?_) ?_
    · simp [andG, polB] at hg
      exact ⟨by omega, by omega⟩
    conv => whnf
    repeat (first | (refine And.intro ⟨by omega, by omega⟩ ?_; conv => whnf) | (refine And.intro (by omega) (And.intro rfl ?_); conv => whnf) | (refine And.intro rfl ?_; conv => whnf) | (refine And.intro (fun _ => ⟨by omega, by omega⟩) ?_; conv => whnf) | (refine And.intro (fun _ => by omega) (And.intro rfl ?_); conv => whnf) | (refine And.intro ⟨(by first | omega | (simp; omega)), (by first | omega | (simp; omega))⟩ ?_; conv => whnf) | (refine Exists.intro _ (And.intro rfl (And.intro (by first | omega | (simp; omega)) (And.intro ⟨rfl, rfl, rfl, rfl, rfl⟩ ?_))); conv => whnf) | (refine And.intro ⟨rfl, rfl⟩ (And.intro (by first | omega | (simp; omega)) ?_); conv => whnf) | (refine Exists.intro _ (And.intro rfl ?_); conv => whnf) | (refine And.intro (fun _ => ?_) (fun h => absurd h (by decide)); conv => whnf) | (refine And.intro (fun h => absurd h (by decide)) (fun _ => ?_); conv => whnf) | (refine .quiet (by kernel_rfl) ?_; conv => whnf))
    refine .mk _ _ _ _ (fun _ => asc_ok (v.facts.take ((v.facts.length : Int) - 1).toNat) (by rw [List.length_take]; omega) _) (by repeat (first | exact .nil | (apply BorL.cons; first | exact lS rfl | exact lR rfl | exact lM rfl rfl | exact lL rfl | exact lX rfl | exact lN | exact lNl | exact lSm rfl | exact lIm rfl | exact lP rfl | exact lQ rfl))) rfl ?_
    conv => whnf
    repeat (first | (refine And.intro ⟨by omega, by omega⟩ ?_; conv => whnf) | (refine And.intro (by omega) (And.intro rfl ?_); conv => whnf) | (refine And.intro rfl ?_; conv => whnf) | (refine And.intro (fun _ => ⟨by omega, by omega⟩) ?_; conv => whnf) | (refine And.intro (fun _ => by omega) (And.intro rfl ?_); conv => whnf) | (refine And.intro ⟨(by first | omega | (simp; omega)), (by first | omega | (simp; omega))⟩ ?_; conv => whnf) | (refine Exists.intro _ (And.intro rfl (And.intro (by first | omega | (simp; omega)) (And.intro ⟨rfl, rfl, rfl, rfl, rfl⟩ ?_))); conv => whnf) | (refine And.intro ⟨rfl, rfl⟩ (And.intro (by first | omega | (simp; omega)) ?_); conv => whnf) | (refine Exists.intro _ (And.intro rfl ?_); conv => whnf) | (refine And.intro (fun _ => ?_) (fun h => absurd h (by decide)); conv => whnf) | (refine And.intro (fun h => absurd h (by decide)) (fun _ => ?_); conv => whnf) | (refine .quiet (by kernel_rfl) ?_; conv => whnf))
    refine And.intro (fun hg => ?_) (And.intro rfl ?_)
    · simp [andG, polB] at hg
      exact ⟨by omega, by omega⟩
    conv => whnf
    repeat (first | (refine And.intro ⟨by omega, by omega⟩ ?_; conv => whnf) | (refine And.intro (by omega) (And.intro rfl ?_); conv => whnf) | (refine And.intro rfl ?_; conv => whnf) | (refine And.intro (fun _ => ⟨by omega, by omega⟩) ?_; conv => whnf) | (refine And.intro (fun _ => by omega) (And.intro rfl ?_); conv => whnf) | (refine And.intro ⟨(by first | omega | (simp; omega)), (by first | omega | (simp; omega))⟩ ?_; conv => whnf) | (refine Exists.intro _ (And.intro rfl (And.intro (by first | omega | (simp; omega)) (And.intro ⟨rfl, rfl, rfl, rfl, rfl⟩ ?_))); conv => whnf) | (refine And.intro ⟨rfl, rfl⟩ (And.intro (by first | omega | (simp; omega)) ?_); conv => whnf) | (refine Exists.intro _ (And.intro rfl ?_); conv => whnf) | (refine And.intro (fun _ => ?_) (fun h => absurd h (by decide)); conv => whnf) | (refine And.intro (fun h => absurd h (by decide)) (fun _ => ?_); conv => whnf) | (refine .quiet (by kernel_rfl) ?_; conv => whnf))
    have e1 : ((v.facts.length : Int) - 1).toNat = v.facts.length - 1 := by omega
    have e2 : decide (0 < (v.facts.length : Int)) = decide (0 < v.facts.length) := by rw [decide_eq_decide]; omega
    refine ⟨fun hd => ?_, fun hd => ?_⟩
    · have hd' : ((!ascB k (-1) v.froms || (decide (0 < (v.facts.length : Int)) && !ascB (v.facts.getD ((v.facts.length : Int) - 1).toNat 0) (-1) (v.facts.take ((v.facts.length : Int) - 1).toNat))) || (decide (0 < (v.facts.length : Int)) && decide (v.facts.getD ((v.facts.length : Int) - 1).toNat 0 < 0))) = true := hd
      rw [e1, e2] at hd'
      have : rightB l = false := by
        unfold rightB
        rw [hP, rightV, hd']
        rfl
      rw [this]
      conv => whnf
      rfl
    · have hd' : ((!ascB k (-1) v.froms || (decide (0 < (v.facts.length : Int)) && !ascB (v.facts.getD ((v.facts.length : Int) - 1).toNat 0) (-1) (v.facts.take ((v.facts.length : Int) - 1).toNat))) || (decide (0 < (v.facts.length : Int)) && decide (v.facts.getD ((v.facts.length : Int) - 1).toNat 0 < 0))) = false := hd
      rw [e1, e2] at hd'
      conv => whnf
      repeat (first | (refine And.intro ⟨by omega, by omega⟩ ?_; conv => whnf) | (refine And.intro (by omega) (And.intro rfl ?_); conv => whnf) | (refine And.intro rfl ?_; conv => whnf) | (refine And.intro (fun _ => ⟨by omega, by omega⟩) ?_; conv => whnf) | (refine And.intro (fun _ => by omega) (And.intro rfl ?_); conv => whnf) | (refine And.intro ⟨(by first | omega | (simp; omega)), (by first | omega | (simp; omega))⟩ ?_; conv => whnf) | (refine Exists.intro _ (And.intro rfl (And.intro (by first | omega | (simp; omega)) (And.intro ⟨rfl, rfl, rfl, rfl, rfl⟩ ?_))); conv => whnf) | (refine And.intro ⟨rfl, rfl⟩ (And.intro (by first | omega | (simp; omega)) ?_); conv => whnf) | (refine Exists.intro _ (And.intro rfl ?_); conv => whnf) | (refine And.intro (fun _ => ?_) (fun h => absurd h (by decide)); conv => whnf) | (refine And.intro (fun h => absurd h (by decide)) (fun _ => ?_); conv => whnf) | (refine .quiet (by kernel_rfl) ?_; conv => whnf))
      refine up hlt ?_ (wk_of [] rfl ⟨.base (.tree _ _ rfl rfl), .base (.tree _ _ rfl rfl), .base (.tree _ _ rfl rfl), .base (.tree _ _ rfl rfl), trivial⟩ trivial)
      rw [hP, rightV, hd']
      rfl
  · simp only [decide_eq_false_iff_not] at hc
    rw [List.drop_eq_nil_of_le (by omega)] at hP
    conv => whnf
    unfold rightB
    rw [hP]
    rfl

end Go.Proofs.Ytpkendnpabjgoaa
