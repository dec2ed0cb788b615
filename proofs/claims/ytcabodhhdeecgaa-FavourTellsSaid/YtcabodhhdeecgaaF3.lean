import Derived.Test.YtcabodhhdeecgaaProg
import Derived.Test.YtcabodhhdeecgaaOwnZ7
import Derived.Test.YtcabodhhdeecgaaOwnZ8
import Derived.KernelRfl
import Derived.Test.YtcabodhhdeecgaaF2
namespace Go.Proofs.Ytcabodhhdeecgaa
open Go.Own Go.Proofs.Fav
instance : Tabs := ⟨fun _ => none⟩
/-- What is told of the types. -/
def tab : Tab := [
  (3, { desc := .int .i64, size := 1, bytes := 8, zero := .int .i64 0 }),
  (4, { desc := .bool, size := 1, bytes := 1, zero := .bool false }),
  (5, { desc := .int .u8, size := 1, bytes := 1, zero := .int .u8 0 }),
  (9, { desc := .string, size := 1, bytes := 16, zero := .string ⟨#[]⟩ }),
  (22, { desc := .slice 48, size := 1, bytes := 24, zero := .slice none 0 0 }),
  (23, { desc := .slice 3, size := 1, bytes := 24, zero := .slice none 0 0 }),
  (26, { desc := .slice 33, size := 1, bytes := 24, zero := .slice none 0 0 }),
  (27, { desc := .int .i64, size := 1, bytes := 8, zero := .int .i64 0 }),
  (30, { desc := .slice 34, size := 1, bytes := 24, zero := .slice none 0 0 }),
  (33, { desc := .slice 37, size := 1, bytes := 24, zero := .slice none 0 0 }),
  (34, { desc := .slice 38, size := 1, bytes := 24, zero := .slice none 0 0 }),
  (37, { desc := .struct #[{ name := "Issue", type := 3, offset := 0, embedded := false, tag := "", pkgPath := "", byteOffset := 0 }, { name := "Covenant", type := 3, offset := 1, embedded := false, tag := "", pkgPath := "", byteOffset := 8 }, { name := "Since", type := 3, offset := 2, embedded := false, tag := "", pkgPath := "", byteOffset := 16 }, { name := "Chain", type := 23, offset := 3, embedded := false, tag := "", pkgPath := "", byteOffset := 24 }], size := 4, bytes := 48, zero := .agg #[.int .i64 0, .int .i64 0, .int .i64 0, .slice none 0 0] }),
  (38, { desc := .struct #[{ name := "Issue", type := 3, offset := 0, embedded := false, tag := "", pkgPath := "", byteOffset := 0 }, { name := "Covenant", type := 3, offset := 1, embedded := false, tag := "", pkgPath := "", byteOffset := 8 }, { name := "Since", type := 3, offset := 2, embedded := false, tag := "", pkgPath := "", byteOffset := 16 }, { name := "Chain", type := 23, offset := 3, embedded := false, tag := "", pkgPath := "", byteOffset := 24 }], size := 4, bytes := 48, zero := .agg #[.int .i64 0, .int .i64 0, .int .i64 0, .slice none 0 0] }),
  (40, { desc := .slice 112, size := 1, bytes := 24, zero := .slice none 0 0 }),
  (43, { desc := .struct #[{ name := "Op", type := 3, offset := 0, embedded := false, tag := "", pkgPath := "", byteOffset := 0 }, { name := "N", type := 3, offset := 1, embedded := false, tag := "", pkgPath := "", byteOffset := 8 }, { name := "Unit", type := 3, offset := 2, embedded := false, tag := "", pkgPath := "", byteOffset := 16 }, { name := "S", type := 9, offset := 3, embedded := false, tag := "", pkgPath := "", byteOffset := 24 }, { name := "Args", type := 41, offset := 4, embedded := false, tag := "", pkgPath := "", byteOffset := 40 }], size := 5, bytes := 64, zero := .agg #[.int .i64 0, .int .i64 0, .int .i64 0, .string ⟨#[]⟩, .slice none 0 0] }),
  (44, { desc := .slice 65, size := 1, bytes := 24, zero := .slice none 0 0 }),
  (45, { desc := .slice 9, size := 1, bytes := 24, zero := .slice none 0 0 }),
  (46, { desc := .slice 114, size := 1, bytes := 24, zero := .slice none 0 0 }),
  (48, { desc := .struct #[{ name := "Name", type := 9, offset := 0, embedded := false, tag := "", pkgPath := "", byteOffset := 0 }, { name := "Issuer", type := 9, offset := 1, embedded := false, tag := "", pkgPath := "", byteOffset := 16 }, { name := "Face", type := 3, offset := 2, embedded := false, tag := "", pkgPath := "", byteOffset := 32 }, { name := "From", type := 3, offset := 3, embedded := false, tag := "", pkgPath := "", byteOffset := 40 }, { name := "To", type := 3, offset := 4, embedded := false, tag := "", pkgPath := "", byteOffset := 48 }, { name := "Every", type := 3, offset := 5, embedded := false, tag := "", pkgPath := "", byteOffset := 56 }, { name := "Count", type := 3, offset := 6, embedded := false, tag := "", pkgPath := "", byteOffset := 64 }, { name := "Adjust", type := 3, offset := 7, embedded := false, tag := "", pkgPath := "", byteOffset := 72 }, { name := "Record", type := 3, offset := 8, embedded := false, tag := "", pkgPath := "", byteOffset := 80 }, { name := "Rank", type := 3, offset := 9, embedded := false, tag := "", pkgPath := "", byteOffset := 88 }, { name := "Lets", type := 40, offset := 10, embedded := false, tag := "", pkgPath := "", byteOffset := 96 }, { name := "Coupon", type := 43, offset := 11, embedded := false, tag := "", pkgPath := "", byteOffset := 120 }, { name := "Cap", type := 3, offset := 16, embedded := false, tag := "", pkgPath := "", byteOffset := 184 }, { name := "Covenants", type := 44, offset := 17, embedded := false, tag := "", pkgPath := "", byteOffset := 192 }, { name := "Favour", type := 45, offset := 18, embedded := false, tag := "", pkgPath := "", byteOffset := 216 }, { name := "Cross", type := 3, offset := 19, embedded := false, tag := "", pkgPath := "", byteOffset := 240 }, { name := "Calls", type := 46, offset := 20, embedded := false, tag := "", pkgPath := "", byteOffset := 248 }, { name := "Notice", type := 3, offset := 21, embedded := false, tag := "", pkgPath := "", byteOffset := 272 }, { name := "Sink", type := 3, offset := 22, embedded := false, tag := "", pkgPath := "", byteOffset := 280 }, { name := "Majority", type := 3, offset := 23, embedded := false, tag := "", pkgPath := "", byteOffset := 288 }, { name := "Fast", type := 3, offset := 24, embedded := false, tag := "", pkgPath := "", byteOffset := 296 }], size := 25, bytes := 304, zero := .agg #[.string ⟨#[]⟩, .string ⟨#[]⟩, .int .i64 0, .int .i64 0, .int .i64 0, .int .i64 0, .int .i64 0, .int .i64 0, .int .i64 0, .int .i64 0, .slice none 0 0, .int .i64 0, .int .i64 0, .int .i64 0, .string ⟨#[]⟩, .slice none 0 0, .int .i64 0, .slice none 0 0, .slice none 0 0, .int .i64 0, .slice none 0 0, .int .i64 0, .int .i64 0, .int .i64 0, .int .i64 0] }),
  (58, { desc := .slice 23, size := 1, bytes := 24, zero := .slice none 0 0 }),
  (65, { desc := .struct #[{ name := "Name", type := 9, offset := 0, embedded := false, tag := "", pkgPath := "", byteOffset := 0 }, { name := "Must", type := 43, offset := 1, embedded := false, tag := "", pkgPath := "", byteOffset := 16 }, { name := "Grace", type := 3, offset := 6, embedded := false, tag := "", pkgPath := "", byteOffset := 80 }], size := 7, bytes := 88, zero := .agg #[.string ⟨#[]⟩, .int .i64 0, .int .i64 0, .int .i64 0, .string ⟨#[]⟩, .slice none 0 0, .int .i64 0] }),
  (66, { desc := .map 9 3, size := 1, bytes := 8, zero := .map none }),
  (69, { desc := .struct #[{ name := "next", type := 58, offset := 0, embedded := false, tag := "", pkgPath := "consol/favour", byteOffset := 0 }, { name := "days", type := 23, offset := 1, embedded := false, tag := "", pkgPath := "consol/favour", byteOffset := 24 }], size := 2, bytes := 48, zero := .agg #[.slice none 0 0, .slice none 0 0] })]

theorem tabOk : TabOk Try.prog tab := tabOk_of ⟨by kernel_rfl, by kernel_rfl, by kernel_rfl, by kernel_rfl, by kernel_rfl, by kernel_rfl, by kernel_rfl, by kernel_rfl, by kernel_rfl, by kernel_rfl, by kernel_rfl, by kernel_rfl, by kernel_rfl, by kernel_rfl, by kernel_rfl, by kernel_rfl, by kernel_rfl, by kernel_rfl, by kernel_rfl, by kernel_rfl, by kernel_rfl, by kernel_rfl, by kernel_rfl, trivial⟩

theorem mixed : Try.prog.follows .mixedOrders = true := by kernel_rfl

noncomputable abbrev cx (N : Nat) (keep : List Nat) : Cx := ⟨Try.prog, tab, N, keep, 0, false⟩
theorem cxOk (N : Nat) (keep : List Nat) : CxOk (cx N keep) := ⟨tabOk, mixed⟩
noncomputable abbrev cxP (pn N : Nat) (keep : List Nat) : Cx := ⟨Try.prog, tab, N, keep, pn, false⟩
theorem cxPOk (pn N : Nat) (keep : List Nat) : CxOk (cxP pn N keep) := ⟨tabOk, mixed⟩

def encI (n : Int) : AV := .int .i64 n
def encIs (l : List Int) : AV := .sl 1 encI 0 l
def encS (s : List UInt8) : AV := .str s
def encU (_ : Unit) : AV := .agg [.any1, .any1, .any1, .any1, .any1, .any1, .any1]
def encJ (x : J) : AV := .agg [.str x.name, .any1, .any1, .any1, .any1, .any1, .any1, .any1, .any1, .any1, .any1, .any1, .any1, .any1, .any1, .any1, .any1, .sl 7 encU () (List.replicate x.ncov ()), .sl 1 encS [] x.fav, .any1, .any1, .any1, .any1, .any1, .any1]
instance : Inhabited J := ⟨j0⟩
def encJs (l : List J) : AV := .sl 25 encJ j0 l
/-- A chain, as the program has it. -/
def cs (c : List Nat) : List Int := c.map Int.ofNat
theorem cs_inj {a b : List Nat} (h : cs a = cs b) : a = b := by
  unfold cs at h
  exact (List.map_inj_right (fun x y h => by cases h; rfl)).1 h
def encC (c : List Nat) : AV :=
  match c with
  | [] => .nils
  | x :: c => .sl 1 encI 0 (cs (x :: c))
def encH (h : HH) : AV := .agg [.int .i64 h.iss, .int .i64 h.cov, .int .i64 h.since, .sl 1 encI 0 (cs h.chain)]
instance : Inhabited HH := ⟨h0⟩
def encHs (l : List HH) : AV := .sl 4 encH h0 l
set_option maxHeartbeats 1000000
set_option maxRecDepth 100000

theorem take_getD {α : Type} {l : List α} {k : Nat} {d : α} (h : k < l.length) : l.take (k + 1) = l.take k ++ [l.getD k d] := by
  rw [List.take_add_one, List.getElem?_eq_getElem h, List.getD_eq_getElem?_getD, List.getElem?_eq_getElem h]
  rfl
theorem take_succ_eq {α : Type} [DecidableEq α] {a b : List α} {k : Nat} (d : α) (h : k < a.length) (hl : a.length = b.length) : (a.take (k + 1) = b.take (k + 1)) ↔ (a.take k = b.take k ∧ a.getD k d = b.getD k d) := by
  rw [take_getD (d := d) h, take_getD (d := d) (by omega)]
  constructor
  · intro h'
    have := List.append_inj' h' rfl
    simpa using this
  · rintro ⟨h1, h2⟩
    rw [h1, h2]

theorem ints_ok (a b : List Int) (ha : a.length ≤ 9223372036854775807) (hb : b.length ≤ 9223372036854775807) : APureV Try.prog 24 [encIs a, encIs b] (.bool (decide (a = b))) := by
  refine apure_of (C := cx 26 [0, 1, 4, 5, 10, 14, 25]) (cxOk _ _) Try.func24 rfl (by decide) rfl (by exact Nat.le_of_ble_eq_true rfl) (by decide) ?_
  conv => whnf
  refine ⟨fun hc => ?_, fun hc => ?_⟩
  · conv => whnf
    have : decide (a = b) = false := by
      simp only [Bool.not_eq_true', decide_eq_false_iff_not] at hc ⊢
      intro h
      subst h
      exact hc rfl
    rw [this]
    rfl
  conv => whnf
  have hlen : a.length = b.length := by
    simp only [Bool.not_eq_false', decide_eq_true_eq] at hc
    omega
  refine loop_up (cxOk _ _) a.length (fun k => a.take k = b.take k) (fun k => ⟨[(0, encIs a), (1, encIs b), (5, .int .i64 k)], [], 0⟩) (by simp) (wk_of [] rfl ⟨.base (.tree _ _ rfl rfl), .base (.tree _ _ rfl rfl), .base (.tree _ _ rfl rfl), trivial⟩ trivial) ?_
  intro k hk hP
  conv => whnf
  refine ⟨fun hc => ?_, fun hc => ?_⟩
  · simp only [decide_eq_true_eq] at hc
    have hlt : k < a.length := by omega
    conv => whnf
    repeat (first | (refine And.intro ⟨by omega, by omega⟩ ?_; conv => whnf) | (refine And.intro (by omega) (And.intro rfl ?_); conv => whnf) | (refine And.intro rfl ?_; conv => whnf) | (refine And.intro (fun _ => ⟨by omega, by omega⟩) ?_; conv => whnf) | (refine And.intro (fun _ => by omega) (And.intro rfl ?_); conv => whnf) | (refine And.intro ⟨(by first | omega | (simp; omega)), (by first | omega | (simp; omega))⟩ ?_; conv => whnf) | (refine Exists.intro _ (And.intro rfl (And.intro (by first | omega | (simp; omega)) (And.intro ⟨rfl, rfl, rfl, rfl, rfl⟩ ?_))); conv => whnf) | (refine And.intro ⟨rfl, rfl⟩ (And.intro (by first | omega | (simp; omega)) ?_); conv => whnf) | (refine Exists.intro _ (And.intro rfl ?_); conv => whnf) | (refine And.intro (fun _ => ?_) (fun h => absurd h (by decide)); conv => whnf) | (refine And.intro (fun h => absurd h (by decide)) (fun _ => ?_); conv => whnf) | (refine .quiet (by kernel_rfl) ?_; conv => whnf))
    refine ⟨fun hd => ?_, fun hd => ?_⟩
    · conv => whnf
      simp only [Int.toNat_natCast, Bool.not_eq_true', decide_eq_false_iff_not] at hd
      have : decide (a = b) = false := by
        rw [decide_eq_false_iff_not]
        intro h
        rw [h] at hd
        exact hd rfl
      rw [this]
      rfl
    · simp only [Int.toNat_natCast, Bool.not_eq_false', decide_eq_true_eq] at hd
      conv => whnf
      repeat (first | (refine And.intro ⟨by omega, by omega⟩ ?_; conv => whnf) | (refine And.intro (by omega) (And.intro rfl ?_); conv => whnf) | (refine And.intro rfl ?_; conv => whnf) | (refine And.intro (fun _ => ⟨by omega, by omega⟩) ?_; conv => whnf) | (refine And.intro (fun _ => by omega) (And.intro rfl ?_); conv => whnf) | (refine And.intro ⟨(by first | omega | (simp; omega)), (by first | omega | (simp; omega))⟩ ?_; conv => whnf) | (refine Exists.intro _ (And.intro rfl (And.intro (by first | omega | (simp; omega)) (And.intro ⟨rfl, rfl, rfl, rfl, rfl⟩ ?_))); conv => whnf) | (refine And.intro ⟨rfl, rfl⟩ (And.intro (by first | omega | (simp; omega)) ?_); conv => whnf) | (refine Exists.intro _ (And.intro rfl ?_); conv => whnf) | (refine And.intro (fun _ => ?_) (fun h => absurd h (by decide)); conv => whnf) | (refine And.intro (fun h => absurd h (by decide)) (fun _ => ?_); conv => whnf) | (refine .quiet (by kernel_rfl) ?_; conv => whnf))
      refine up hlt ((take_succ_eq 0 hlt hlen).2 ⟨hP, hd⟩) (wk_of [] rfl ⟨.base (.tree _ _ rfl rfl), .base (.tree _ _ rfl rfl), .base (.tree _ _ rfl rfl), trivial⟩ trivial)
  · simp only [decide_eq_false_iff_not] at hc
    conv => whnf
    rw [List.take_of_length_le (by omega), List.take_of_length_le (by omega)] at hP
    rw [decide_eq_true hP]
    rfl

def isB (h : HH) (a b s : Int) (ch : List Int) : Bool := (((decide ((h.iss : Int) = a) && decide ((h.cov : Int) = b)) && decide (h.since = s)) && decide (cs h.chain = ch))
theorem is_ok (h : HH) (a b s : Int) (ch : List Int) (h1 : h.chain.length ≤ 9223372036854775807) (h2 : ch.length ≤ 9223372036854775807) : APureV Try.prog 12 [encH h, .int .i64 a, .int .i64 b, .int .i64 s, encIs ch] (.bool (isB h a b s ch)) := by
  have hi := ints_ok (cs h.chain) ch (by unfold cs; rw [List.length_map]; exact h1) h2
  refine apure_of (C := cx 33 [0, 1, 2, 3, 4, 5, 10]) (cxOk _ _) Try.func12 rfl (by decide) rfl (by exact Nat.le_of_ble_eq_true rfl) (by decide) ?_
  conv => whnf
  repeat (first | (refine And.intro ⟨by omega, by omega⟩ ?_; conv => whnf) | (refine And.intro (by omega) (And.intro rfl ?_); conv => whnf) | (refine And.intro rfl ?_; conv => whnf) | (refine And.intro (fun _ => ⟨by omega, by omega⟩) ?_; conv => whnf) | (refine And.intro (fun _ => by omega) (And.intro rfl ?_); conv => whnf) | (refine And.intro ⟨(by first | omega | (simp; omega)), (by first | omega | (simp; omega))⟩ ?_; conv => whnf) | (refine Exists.intro _ (And.intro rfl (And.intro (by first | omega | (simp; omega)) (And.intro ⟨rfl, rfl, rfl, rfl, rfl⟩ ?_))); conv => whnf) | (refine And.intro ⟨rfl, rfl⟩ (And.intro (by first | omega | (simp; omega)) ?_); conv => whnf) | (refine Exists.intro _ (And.intro rfl ?_); conv => whnf) | (refine And.intro (fun _ => ?_) (fun h => absurd h (by decide)); conv => whnf) | (refine And.intro (fun h => absurd h (by decide)) (fun _ => ?_); conv => whnf) | (refine .quiet (by kernel_rfl) ?_; conv => whnf))
  refine .one _ _ _ (fun _ => hi) (by repeat (first | exact .nil | (apply BorL.cons; first | exact lS rfl | exact lR rfl | exact lM rfl rfl | exact lL rfl | exact lX rfl | exact lN | exact lNl | exact lSm rfl | exact lIm rfl | exact lP rfl | exact lQ rfl | exact lB rfl rfl rfl))) (by first | exact .inl rfl | exact .inr (by repeat (first | exact flats_nil | refine flats_cons (by first | exact flat_val _ rfl | exact flat_row (fun _ => rfl) | exact flat_lst (fun _ => rfl)) ?_))) (by first | exact .inl rfl | exact .inr rfl) ?_
  conv => whnf
  repeat (first | (refine And.intro ⟨by omega, by omega⟩ ?_; conv => whnf) | (refine And.intro (by omega) (And.intro rfl ?_); conv => whnf) | (refine And.intro rfl ?_; conv => whnf) | (refine And.intro (fun _ => ⟨by omega, by omega⟩) ?_; conv => whnf) | (refine And.intro (fun _ => by omega) (And.intro rfl ?_); conv => whnf) | (refine And.intro ⟨(by first | omega | (simp; omega)), (by first | omega | (simp; omega))⟩ ?_; conv => whnf) | (refine Exists.intro _ (And.intro rfl (And.intro (by first | omega | (simp; omega)) (And.intro ⟨rfl, rfl, rfl, rfl, rfl⟩ ?_))); conv => whnf) | (refine And.intro ⟨rfl, rfl⟩ (And.intro (by first | omega | (simp; omega)) ?_); conv => whnf) | (refine Exists.intro _ (And.intro rfl ?_); conv => whnf) | (refine And.intro (fun _ => ?_) (fun h => absurd h (by decide)); conv => whnf) | (refine And.intro (fun h => absurd h (by decide)) (fun _ => ?_); conv => whnf) | (refine .quiet (by kernel_rfl) ?_; conv => whnf))
  rfl

/-- Since when, as the statements ask. -/
def sinceZ (hs : List HH) (a b : Int) : Int :=
  match hs with
  | [] => -1
  | h :: t => if (h.iss : Int) = a ∧ (h.cov : Int) = b then h.since else sinceZ t a b
theorem sinceZ_nat : ∀ (hs : List HH) (a b : Nat), sinceZ hs a b = sinceL hs a b
  | [], a, b => rfl
  | h :: t, a, b => by
    unfold sinceZ sinceL
    rw [sinceZ_nat t a b]
    by_cases e : h.iss = a ∧ h.cov = b
    · rw [if_pos e, if_pos ⟨by omega, by omega⟩]
    · rw [if_neg e, if_neg (fun h => e ⟨by omega, by omega⟩)]
theorem since_ok (hs : List HH) (a b : Int) (hl : hs.length ≤ 9223372036854775807) : APureV Try.prog 13 [encHs hs, .int .i64 a, .int .i64 b] (.int .i64 (sinceZ hs a b)) := by
  refine apure_of (C := cx 35 [0, 1, 2, 6, 7, 11, 29]) (cxOk _ _) Try.func13 rfl (by decide) rfl (by exact Nat.le_of_ble_eq_true rfl) (by decide) ?_
  conv => whnf
  refine loop_up (cxOk _ _) hs.length (fun k => sinceZ hs a b = sinceZ (hs.drop k) a b) (fun k => ⟨[(0, encHs hs), (1, .int .i64 a), (2, .int .i64 b), (7, .int .i64 k)], [], 0⟩) (by simp) (wk_of [] rfl ⟨.base (.tree _ _ rfl rfl), .base (.tree _ _ rfl rfl), .base (.tree _ _ rfl rfl), .base (.tree _ _ rfl rfl), trivial⟩ trivial) ?_
  intro k hk hP
  conv => whnf
  refine ⟨fun hc => ?_, fun hc => ?_⟩
  · simp only [decide_eq_true_eq] at hc
    have hlt : k < hs.length := by omega
    have hdr : hs.drop k = hs.getD k h0 :: hs.drop (k + 1) := by
      rw [List.drop_eq_getElem_cons hlt, List.getD_eq_getElem?_getD, List.getElem?_eq_getElem hlt]
      rfl
    rw [hdr] at hP
    have e : hs.getD (k : Int).toNat h0 = hs.getD k h0 := by rw [Int.toNat_natCast]
    generalize hs.getD k h0 = h at *
    conv => whnf
    repeat (first | (refine And.intro ⟨by omega, by omega⟩ ?_; conv => whnf) | (refine And.intro (by omega) (And.intro rfl ?_); conv => whnf) | (refine And.intro rfl ?_; conv => whnf) | (refine And.intro (fun _ => ⟨by omega, by omega⟩) ?_; conv => whnf) | (refine And.intro (fun _ => by omega) (And.intro rfl ?_); conv => whnf) | (refine And.intro ⟨(by first | omega | (simp; omega)), (by first | omega | (simp; omega))⟩ ?_; conv => whnf) | (refine Exists.intro _ (And.intro rfl (And.intro (by first | omega | (simp; omega)) (And.intro ⟨rfl, rfl, rfl, rfl, rfl⟩ ?_))); conv => whnf) | (refine And.intro ⟨rfl, rfl⟩ (And.intro (by first | omega | (simp; omega)) ?_); conv => whnf) | (refine Exists.intro _ (And.intro rfl ?_); conv => whnf) | (refine And.intro (fun _ => ?_) (fun h => absurd h (by decide)); conv => whnf) | (refine And.intro (fun h => absurd h (by decide)) (fun _ => ?_); conv => whnf) | (refine .quiet (by kernel_rfl) ?_; conv => whnf))
    rw [e]
    refine ⟨fun hd => ?_, fun hd => ?_⟩
    · conv => whnf
      repeat (first | (refine And.intro ⟨by omega, by omega⟩ ?_; conv => whnf) | (refine And.intro (by omega) (And.intro rfl ?_); conv => whnf) | (refine And.intro rfl ?_; conv => whnf) | (refine And.intro (fun _ => ⟨by omega, by omega⟩) ?_; conv => whnf) | (refine And.intro (fun _ => by omega) (And.intro rfl ?_); conv => whnf) | (refine And.intro ⟨(by first | omega | (simp; omega)), (by first | omega | (simp; omega))⟩ ?_; conv => whnf) | (refine Exists.intro _ (And.intro rfl (And.intro (by first | omega | (simp; omega)) (And.intro ⟨rfl, rfl, rfl, rfl, rfl⟩ ?_))); conv => whnf) | (refine And.intro ⟨rfl, rfl⟩ (And.intro (by first | omega | (simp; omega)) ?_); conv => whnf) | (refine Exists.intro _ (And.intro rfl ?_); conv => whnf) | (refine And.intro (fun _ => ?_) (fun h => absurd h (by decide)); conv => whnf) | (refine And.intro (fun h => absurd h (by decide)) (fun _ => ?_); conv => whnf) | (refine .quiet (by kernel_rfl) ?_; conv => whnf))
      rw [e]
      have hd' : ((h.iss : Int) = a ∧ (h.cov : Int) = b) := by
        simpa using hd
      rw [hP]
      unfold sinceZ
      rw [if_pos hd']
      rfl
    · conv => whnf
      have hd' : ¬ ((h.iss : Int) = a ∧ (h.cov : Int) = b) := by
        simpa using hd
      repeat (first | (refine And.intro ⟨by omega, by omega⟩ ?_; conv => whnf) | (refine And.intro (by omega) (And.intro rfl ?_); conv => whnf) | (refine And.intro rfl ?_; conv => whnf) | (refine And.intro (fun _ => ⟨by omega, by omega⟩) ?_; conv => whnf) | (refine And.intro (fun _ => by omega) (And.intro rfl ?_); conv => whnf) | (refine And.intro ⟨(by first | omega | (simp; omega)), (by first | omega | (simp; omega))⟩ ?_; conv => whnf) | (refine Exists.intro _ (And.intro rfl (And.intro (by first | omega | (simp; omega)) (And.intro ⟨rfl, rfl, rfl, rfl, rfl⟩ ?_))); conv => whnf) | (refine And.intro ⟨rfl, rfl⟩ (And.intro (by first | omega | (simp; omega)) ?_); conv => whnf) | (refine Exists.intro _ (And.intro rfl ?_); conv => whnf) | (refine And.intro (fun _ => ?_) (fun h => absurd h (by decide)); conv => whnf) | (refine And.intro (fun h => absurd h (by decide)) (fun _ => ?_); conv => whnf) | (refine .quiet (by kernel_rfl) ?_; conv => whnf))
      refine up hlt ?_ (wk_of [] rfl ⟨.base (.tree _ _ rfl rfl), .base (.tree _ _ rfl rfl), .base (.tree _ _ rfl rfl), .base (.tree _ _ rfl rfl), trivial⟩ trivial)
      rw [hP]
      show (if (h.iss : Int) = a ∧ (h.cov : Int) = b then _ else _) = _
      rw [if_neg hd']
  · simp only [decide_eq_false_iff_not] at hc
    conv => whnf
    rw [hP, List.drop_of_length_le (by omega)]
    rfl

theorem fv_of {l : List J} {i k : Nat} : fv l i k = true ↔ (l.getD k j0).name ∈ (l.getD i j0).fav := by
  unfold fv; rw [List.contains_iff_mem]

theorem favours_ok (l : List J) (i k : Nat) (hi : i < l.length) (hk : k < l.length) (hf : (l.getD i j0).fav.length ≤ 9223372036854775807) : APureV Try.prog 14 [encJs l, .int .i64 i, .int .i64 k] (.bool (fv l i k)) := by
  have hfv := @fv_of l i k
  have e1 : l.getD (i : Int).toNat j0 = l.getD i j0 := by rw [Int.toNat_natCast]
  have e2 : l.getD (k : Int).toNat j0 = l.getD k j0 := by rw [Int.toNat_natCast]
  refine apure_of (C := cx 32 [0, 1, 2, 6, 7, 15, 31]) (cxOk _ _) Try.func14 rfl (by decide) rfl (by exact Nat.le_of_ble_eq_true rfl) (by decide) ?_
  conv => whnf
  refine loop_up (cxOk _ _) (l.getD i j0).fav.length (fun n => ∀ j, j < n → (l.getD i j0).fav.getD j [] ≠ (l.getD k j0).name) (fun n => ⟨[(0, encJs l), (1, .int .i64 (i : Nat)), (2, .int .i64 (k : Nat)), (7, .int .i64 n)], [], 0⟩) (by intro j hj; omega) (wk_of [] rfl ⟨.base (.tree _ _ rfl rfl), .base (.tree _ _ rfl rfl), .base (.tree _ _ rfl rfl), .base (.tree _ _ rfl rfl), trivial⟩ trivial) ?_
  intro n hn hP
  conv => whnf
  repeat (first | (refine And.intro ⟨by omega, by omega⟩ ?_; conv => whnf) | (refine And.intro (by omega) (And.intro rfl ?_); conv => whnf) | (refine And.intro rfl ?_; conv => whnf) | (refine And.intro (fun _ => ⟨by omega, by omega⟩) ?_; conv => whnf) | (refine And.intro (fun _ => by omega) (And.intro rfl ?_); conv => whnf) | (refine And.intro ⟨(by first | omega | (simp; omega)), (by first | omega | (simp; omega))⟩ ?_; conv => whnf) | (refine Exists.intro _ (And.intro rfl (And.intro (by first | omega | (simp; omega)) (And.intro ⟨rfl, rfl, rfl, rfl, rfl⟩ ?_))); conv => whnf) | (refine And.intro ⟨rfl, rfl⟩ (And.intro (by first | omega | (simp; omega)) ?_); conv => whnf) | (refine Exists.intro _ (And.intro rfl ?_); conv => whnf) | (refine And.intro (fun _ => ?_) (fun h => absurd h (by decide)); conv => whnf) | (refine And.intro (fun h => absurd h (by decide)) (fun _ => ?_); conv => whnf) | (refine .quiet (by kernel_rfl) ?_; conv => whnf))
  rw [e1]
  generalize hx : l.getD i j0 = x at *
  generalize hy : l.getD k j0 = y at *
  refine ⟨fun hc => ?_, fun hc => ?_⟩
  · have hlt : n < x.fav.length := by simpa using hc
    conv => whnf
    repeat (first | (refine And.intro ⟨by omega, by omega⟩ ?_; conv => whnf) | (refine And.intro (by omega) (And.intro rfl ?_); conv => whnf) | (refine And.intro rfl ?_; conv => whnf) | (refine And.intro (fun _ => ⟨by omega, by omega⟩) ?_; conv => whnf) | (refine And.intro (fun _ => by omega) (And.intro rfl ?_); conv => whnf) | (refine And.intro ⟨(by first | omega | (simp; omega)), (by first | omega | (simp; omega))⟩ ?_; conv => whnf) | (refine Exists.intro _ (And.intro rfl (And.intro (by first | omega | (simp; omega)) (And.intro ⟨rfl, rfl, rfl, rfl, rfl⟩ ?_))); conv => whnf) | (refine And.intro ⟨rfl, rfl⟩ (And.intro (by first | omega | (simp; omega)) ?_); conv => whnf) | (refine Exists.intro _ (And.intro rfl ?_); conv => whnf) | (refine And.intro (fun _ => ?_) (fun h => absurd h (by decide)); conv => whnf) | (refine And.intro (fun h => absurd h (by decide)) (fun _ => ?_); conv => whnf) | (refine .quiet (by kernel_rfl) ?_; conv => whnf))
    rw [e1]
    refine And.intro ⟨by omega, by omega⟩ ?_
    conv => whnf
    repeat (first | (refine And.intro ⟨by omega, by omega⟩ ?_; conv => whnf) | (refine And.intro (by omega) (And.intro rfl ?_); conv => whnf) | (refine And.intro rfl ?_; conv => whnf) | (refine And.intro (fun _ => ⟨by omega, by omega⟩) ?_; conv => whnf) | (refine And.intro (fun _ => by omega) (And.intro rfl ?_); conv => whnf) | (refine And.intro ⟨(by first | omega | (simp; omega)), (by first | omega | (simp; omega))⟩ ?_; conv => whnf) | (refine Exists.intro _ (And.intro rfl (And.intro (by first | omega | (simp; omega)) (And.intro ⟨rfl, rfl, rfl, rfl, rfl⟩ ?_))); conv => whnf) | (refine And.intro ⟨rfl, rfl⟩ (And.intro (by first | omega | (simp; omega)) ?_); conv => whnf) | (refine Exists.intro _ (And.intro rfl ?_); conv => whnf) | (refine And.intro (fun _ => ?_) (fun h => absurd h (by decide)); conv => whnf) | (refine And.intro (fun h => absurd h (by decide)) (fun _ => ?_); conv => whnf) | (refine .quiet (by kernel_rfl) ?_; conv => whnf))
    rw [e2]
    refine ⟨fun hd => ?_, fun hd => ?_⟩
    · conv => whnf
      have hd' : x.fav.getD n [] = y.name := by simpa using hd
      rw [hfv.2 (by rw [← hd']; exact fgetD_mem hlt)]
      rfl
    · have hd' : ¬ x.fav.getD n [] = y.name := by simpa using hd
      conv => whnf
      repeat (first | (refine And.intro ⟨by omega, by omega⟩ ?_; conv => whnf) | (refine And.intro (by omega) (And.intro rfl ?_); conv => whnf) | (refine And.intro rfl ?_; conv => whnf) | (refine And.intro (fun _ => ⟨by omega, by omega⟩) ?_; conv => whnf) | (refine And.intro (fun _ => by omega) (And.intro rfl ?_); conv => whnf) | (refine And.intro ⟨(by first | omega | (simp; omega)), (by first | omega | (simp; omega))⟩ ?_; conv => whnf) | (refine Exists.intro _ (And.intro rfl (And.intro (by first | omega | (simp; omega)) (And.intro ⟨rfl, rfl, rfl, rfl, rfl⟩ ?_))); conv => whnf) | (refine And.intro ⟨rfl, rfl⟩ (And.intro (by first | omega | (simp; omega)) ?_); conv => whnf) | (refine Exists.intro _ (And.intro rfl ?_); conv => whnf) | (refine And.intro (fun _ => ?_) (fun h => absurd h (by decide)); conv => whnf) | (refine And.intro (fun h => absurd h (by decide)) (fun _ => ?_); conv => whnf) | (refine .quiet (by kernel_rfl) ?_; conv => whnf))
      refine up hlt (fun j hj => ?_) (wk_of [] rfl ⟨.base (.tree _ _ rfl rfl), .base (.tree _ _ rfl rfl), .base (.tree _ _ rfl rfl), .base (.tree _ _ rfl rfl), trivial⟩ trivial)
      by_cases e : j = n
      · subst e; exact hd'
      · exact hP j (by omega)
  · have hge : ¬ n < x.fav.length := by simpa using hc
    conv => whnf
    have : fv l i k = false := by
      cases hb : fv l i k with
      | false => rfl
      | true =>
        exfalso
        have := hfv.1 hb
        obtain ⟨j, hj, e⟩ := List.getElem_of_mem this
        refine hP j (by omega) ?_
        rw [List.getD_eq_getElem?_getD, List.getElem?_eq_getElem hj]
        exact e
    rw [this]
    rfl

theorem clone_ok (l : List Int) (hl : l.length ≤ 1000000) : APure Try.prog 17 [encIs l] (fun rs => rs = [.new (.row 3 1 encI 0 l)]) := by
  have h : APure Try.prog 17 [encIs l] (fun rs => rs = [.new (.row 3 1 encI 0 l)] ∨ l = [] ∧ rs = [.val .nils]) := by
    refine apure_of (C := cx 8 [0, 2, 4]) (cxOk _ _) Try.func17 rfl (by decide) rfl (by exact Nat.le_of_ble_eq_true rfl) (by decide) ?_
    conv => whnf
    intro b hb
    conv => whnf
    refine ⟨fun hc => ?_, fun hc => ?_⟩
    · conv => whnf
      exact .inr ⟨hb hc, rfl⟩
    · conv => whnf
      refine And.intro rfl ?_
      conv => whnf
      refine ⟨⟨rfl, rfl⟩, (show (0 + l.length) * 8 ≤ 140737488355328 by omega), ?_⟩
      conv => whnf
      exact .inl rfl
  refine h.le fun rs hrs => ?_
  rcases hrs with rfl | ⟨rfl, rfl⟩
  · exact ⟨_, rfl, rfl, fun j r r' h1 h2 => by
      cases j with
      | zero => simp at h1 h2; subst h1; subst h2; exact .same _
      | succ j => simp at h1⟩
  · exact ⟨_, rfl, rfl, fun j r r' h1 h2 => by
      cases j with
      | zero => simp at h1 h2; subst h1; subst h2; exact .nil _ _ _ _
      | succ j => simp at h1⟩

/-! ### Limits -/
def badJ (x : J) (d : Int) : Bool := ((decide (d < 0) || decide (200000 < d)) || decide (20 < (x.ncov : Int))) || decide (20 < (x.fav.length : Int))
structure Right (l : List J) (days : List Int) : Prop where
  len : l.length ≤ 400
  same : days.length = l.length
  each : ∀ j, j < l.length → badJ (l.getD j j0) (days.getD j 0) = false
instance (l : List J) (days : List Int) : Decidable (Right l days) := decidable_of_iff (l.length ≤ 400 ∧ days.length = l.length ∧ ∀ j, j < l.length → badJ (l.getD j j0) (days.getD j 0) = false) ⟨fun h => ⟨h.1, h.2.1, h.2.2⟩, fun h => ⟨h.1, h.2, h.3⟩⟩

theorem right_ok (l : List J) (days : List Int) (h1 : l.length ≤ 9223372036854775807) : APureV Try.prog 21 [encJs l, encIs days] (.bool (decide (Right l days))) := by
  refine apure_of (C := cx 52 [0, 1, 4, 5, 15, 19, 51]) (cxOk _ _) Try.func21 rfl (by decide) rfl (by exact Nat.le_of_ble_eq_true rfl) (by decide) ?_
  conv => whnf
  refine ⟨fun hc => ?_, fun hc => ?_⟩
  · conv => whnf
    have : decide (Right l days) = false := by
      rw [decide_eq_false_iff_not]
      rintro ⟨g1, g2, g3⟩
      have hc' : (decide (400 < (l.length : Int)) || !decide ((days.length : Int) = (l.length : Int))) = true := hc
      simp at hc'
      omega
    rw [this]
    rfl
  have hc' : (decide (400 < (l.length : Int)) || !decide ((days.length : Int) = (l.length : Int))) = false := hc
  simp only [Bool.or_eq_false_iff, decide_eq_false_iff_not, Bool.not_eq_false', decide_eq_true_eq] at hc'
  conv => whnf
  refine loop_up (cxOk _ _) l.length (fun k => ∀ j, j < k → badJ (l.getD j j0) (days.getD j 0) = false) (fun k => ⟨[(0, encJs l), (1, encIs days), (5, .int .i64 k)], [], 0⟩) (by intro j hj; omega) (wk_of [] rfl ⟨.base (.tree _ _ rfl rfl), .base (.tree _ _ rfl rfl), .base (.tree _ _ rfl rfl), trivial⟩ trivial) ?_
  intro k hk hP
  conv => whnf
  refine ⟨fun hd => ?_, fun hd => ?_⟩
  · simp only [decide_eq_true_eq] at hd
    have hlt : k < l.length := by omega
    have e1 : l.getD (k : Int).toNat j0 = l.getD k j0 := by rw [Int.toNat_natCast]
    have e2 : days.getD (k : Int).toNat 0 = days.getD k 0 := by rw [Int.toNat_natCast]
    conv => whnf
    repeat (first | (refine And.intro ⟨by omega, by omega⟩ ?_; conv => whnf) | (refine And.intro (by omega) (And.intro rfl ?_); conv => whnf) | (refine And.intro rfl ?_; conv => whnf) | (refine And.intro (fun _ => ⟨by omega, by omega⟩) ?_; conv => whnf) | (refine And.intro (fun _ => by omega) (And.intro rfl ?_); conv => whnf) | (refine And.intro ⟨(by first | omega | (simp; omega)), (by first | omega | (simp; omega))⟩ ?_; conv => whnf) | (refine Exists.intro _ (And.intro rfl (And.intro (by first | omega | (simp; omega)) (And.intro ⟨rfl, rfl, rfl, rfl, rfl⟩ ?_))); conv => whnf) | (refine And.intro ⟨rfl, rfl⟩ (And.intro (by first | omega | (simp; omega)) ?_); conv => whnf) | (refine Exists.intro _ (And.intro rfl ?_); conv => whnf) | (refine And.intro (fun _ => ?_) (fun h => absurd h (by decide)); conv => whnf) | (refine And.intro (fun h => absurd h (by decide)) (fun _ => ?_); conv => whnf) | (refine .quiet (by kernel_rfl) ?_; conv => whnf))
    rw [e1, e2, List.length_replicate]
    refine ⟨fun he => ?_, fun he => ?_⟩
    · conv => whnf
      have he' : badJ (l.getD k j0) (days.getD k 0) = true := he
      have : decide (Right l days) = false := by
        rw [decide_eq_false_iff_not]
        rintro ⟨g1, g2, g3⟩
        rw [g3 k hlt] at he'
        cases he'
      rw [this]
      rfl
    · have he' : badJ (l.getD k j0) (days.getD k 0) = false := he
      conv => whnf
      repeat (first | (refine And.intro ⟨by omega, by omega⟩ ?_; conv => whnf) | (refine And.intro (by omega) (And.intro rfl ?_); conv => whnf) | (refine And.intro rfl ?_; conv => whnf) | (refine And.intro (fun _ => ⟨by omega, by omega⟩) ?_; conv => whnf) | (refine And.intro (fun _ => by omega) (And.intro rfl ?_); conv => whnf) | (refine And.intro ⟨(by first | omega | (simp; omega)), (by first | omega | (simp; omega))⟩ ?_; conv => whnf) | (refine Exists.intro _ (And.intro rfl (And.intro (by first | omega | (simp; omega)) (And.intro ⟨rfl, rfl, rfl, rfl, rfl⟩ ?_))); conv => whnf) | (refine And.intro ⟨rfl, rfl⟩ (And.intro (by first | omega | (simp; omega)) ?_); conv => whnf) | (refine Exists.intro _ (And.intro rfl ?_); conv => whnf) | (refine And.intro (fun _ => ?_) (fun h => absurd h (by decide)); conv => whnf) | (refine And.intro (fun h => absurd h (by decide)) (fun _ => ?_); conv => whnf) | (refine .quiet (by kernel_rfl) ?_; conv => whnf))
      refine up hlt (fun j hj => ?_) (wk_of [] rfl ⟨.base (.tree _ _ rfl rfl), .base (.tree _ _ rfl rfl), .base (.tree _ _ rfl rfl), trivial⟩ trivial)
      by_cases e : j = k
      · subst e; exact he'
      · exact hP j (by omega)
  · simp only [decide_eq_false_iff_not] at hd
    conv => whnf
    have : decide (Right l days) = true := decide_eq_true ⟨by omega, by omega, fun j hj => hP j (by omega)⟩
    rw [this]
    rfl

end Go.Proofs.Ytcabodhhdeecgaa
